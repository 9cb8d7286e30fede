/-
  What is proved here: part 2 of the road to the claim (Codes3, Have3, Frz, MirLex, MirMay, Prs, Lex1, Lex2, RefLex1, Prs2, Ref1, Ref2, Ref3, RefMay1, RefMay2, Flat1, Flat2, Flat3, Sl1, MirFlat2, Sl2, TMay1, TMay2, RefMay3, RefMay4, TMay3, TMay4, MayFine, MayEq, Nm1, Nm2, Nm3, MayEq2, Tree1, Tree2).
  No conditions.
-/
import Derived.Test.YthecipohmaannaaGreatAaA1
import Derived.Test.YthecipohmaannaaGreatProg
import Derived.KernelRfl

set_option linter.unusedSimpArgs false
set_option linter.unusedVariables false

/-! Codes3 -/

namespace Go.Abs
abbrev abl:AC:= .cond cO (.seq (.run [.o 4 (.mv (.k (.int .i64 1)))]) .ret) .skip
abbrev abm:AC:= .block 1 (.seq (.run [.o 22 (.av cH 3), .o 23 (.load dF false 1), .m 24 cD, .o 25 (.bF dG dU 4), .o 26 (.load dV true 4), .m 27 bg, .o 28 (.bin .sub ef (.k (.int .i64 1))), .c 29 nO [eo,eI], .m 7 eZ]) (.seq (.run [.m 30 bN, .m 31 bH, .o 32 (.bin .gtr fp eU)]) (.cond fq (.run [.m 33 bN, .m 5 fj]) .skip)))
abbrev abn:AC:= .seq (.seq (.run [.m 10 cD, .o 11 (.av cH 3), .o 12 (.load bT false 1), .o 13 (.len cb), .o 14 (.bin .lss cd cz), .m 15 cm, .g 16 15 true (.mv bH), .g 17 15 true (.mv bg), .g 18 15 true (.bin .lss cw c6), .o 19 (.pick cZ da (.k (.bool false)))]) (.cond dd .skip (.exit 0))) (.seq abm (.run [.m 20 cD, .o 21 (.bin .add dr (.k (.int .i64 1))), .m 6 dh]))
abbrev abo:AC:= .seq (.seq (.run [.o 6 (.mv (.k (.int .i64 0)))]) (.block 0 (.loop abn))) (.seq (.run [.m 34 bH, .o 35 (.bin .add fD (.k (.int .i64 1))), .m 4 fE]) .ret)
abbrev abp:AC:= .seq (.seq (.run [.m 8 bg, .o 9 (.bin .eql b9 (.k (.int .i64 0)))]) abl) (.seq (.run [.o 5 (.mv (.k (.int .i64 0)))]) abo)
abbrev abq:AC:= .seq (.run [.o 2 (.box bE), .o 4 (.mv (.k (.int .i64 0)))]) abp
abbrev abr:AC:= .par [.o 4 (.av bg 0), .o 5 (.load db false 1), .c 6 rT [bH], .o 7 (.av bg 3), .o 8 (.load bN false 1), .o 9 (.len b9), .o 10 (.bin .neq cD cO), .m 11 cd, .g 12 11 false (.av bg 0), .g 13 11 false (.load cb false 1), .g 14 11 false (.bin .neq cz (.k (.int .i64 1))), .g 15 11 false (.mv cm), .g 16 15 true (.av bg 1), .g 17 15 true (.load cw false 1), .g 18 15 true (.bin .neq c6 (.k (.int .i64 0))), .g 19 11 false (.pick cZ da (.k (.bool false))), .o 20 (.pick bT (.k (.bool true)) dd), .m 21 dr, .g 22 21 false (.av bg 1), .g 23 21 false (.load dF false 1), .g 24 21 false (.bin .lss dG (.k (.int .i64 0))), .o 25 (.pick dh (.k (.bool true)) dU), .m 26 dV, .g 27 26 false (.av bg 0), .g 28 26 false (.load ef false 1), .g 29 26 false (.bin .eql eI (.k (.int .i64 2))), .g 30 26 false (.av bg 2), .g 31 26 false (.load fp false 1), .g 32 26 false (.bin .neq eU (.k (.str []))), .g 33 26 false (.vv true eZ fq), .o 34 (.pick eo (.k (.bool true)) fj), .m 35 fD, .g 36 35 false (.av bg 2), .g 37 35 false (.load gq false 1), .g 38 35 false (.bin .neq gE (.k (.str []))), .g 39 35 false (.mv iP), .g 40 39 true (.av bg 2), .g 41 39 true (.load jS false 1), .d 42 39 true gP [jF], .g 43 39 true (.un .not kq), .g 44 35 false (.pick ij kr (.k (.bool false))), .o 45 (.pick fE (.k (.bool true)) ku)] [(0,0),(1,0),(2,0),(3,0),(4,1),(5,0),(6,0),(7,0),(8,0),(9,0),(10,0),(11,0),(12,0),(13,0),(14,0),(15,0),(16,0),(17,0),(18,0),(19,0),(20,0),(21,0),(22,0),(23,0),(24,0),(25,0),(26,0),(27,0),(28,0),(29,0),(30,0),(31,0),(32,0),(33,0),(34,0),(35,0),(36,0),(37,0),(38,0),(39,0),(40,0),(41,0)]
abbrev abt:AC:= .cond lC (.seq (.run [.o 2 (.mv (.k (.bool false)))]) .ret) .skip
abbrev abu:AC:= .cond oc (.seq (.run [.o 2 (.mv (.k (.bool false)))]) .ret) .skip
abbrev abv:AC:= .seq (.block 1 (.seq (.run [.m 51 jT, .m 3 k6]) (.seq (.run [.o 52 (.av bg 3), .o 53 (.load mW false 1), .m 54 cu, .o 55 (.bF mX mY 4), .o 56 (.load mZ true 4), .c 57 nP [oa], .o 58 (.un .not na)]) abu))) (.run [.o 59 (.bin .add jT (.k (.int .i64 1))), .m 49 mb])
abbrev abw:AC:= .block 0 (.loop (.seq (.run [.o 50 (.bin .lss jT lF)]) (.seq (.cond lG .skip (.exit 0)) abv)))
abbrev abx:AC:= .seq (.seq (.run [.o 46 (.av bg 3), .o 47 (.load lD false 1), .o 48 (.len lE), .o 49 (.mv (.k (.int .i64 0)))]) abw) (.seq (.run [.o 2 (.mv (.k (.bool true)))]) .ret)
abbrev aby:AC:= .seq (.run [.o 1 (.box bE), .o 2 (.mv (.k (.bool false)))]) (.seq (.seq abr abt) abx)
abbrev abz:AC:= .block 1 (.seq (.run [.o 11 (.bF bN cO 1), .o 12 (.load bT false 1), .m 6 cb]) (.seq (.run [.m 13 cD, .m 14 bg, .o 15 (.bin .eql cz cm)]) (.cond cZ (.seq (.run [.m 16 bE, .m 4 cw]) .ret) .skip)))
abbrev abA:AC:= .seq (.cond cd .skip (.exit 0)) (.seq abz (.run [.o 17 (.bin .add cO (.k (.int .i64 1))), .m 9 c6]))
abbrev abB:AC:= .seq (.run [.m 7 bE, .o 8 (.len bN), .o 9 (.mv (.k (.int .i64 0)))]) (.block 0 (.loop (.seq (.run [.o 10 (.bin .lss cO b9)]) abA)))
abbrev abC:AC:= .seq (.run [.o 4 (.mv (.k (.slice .full 0 [])))]) (.seq abB (.seq (.run [.m 18 bE, .m 19 bg, .o 20 (.cT [(.str [])] 1 1 [(0,dd)]), .o 21 (.app 1 16 da dr), .m 4 dh]) .ret))
abbrev abD:AC:= .cond bT (.seq (.run [.o 4 (.mv (.k (.bool false)))]) .ret) .skip
abbrev abE:AC:= .par [.o 19 (.av cD 1), .o 20 (.load dd false 1), .m 21 bg, .m 22 bH, .o 23 (.bF dh dF 6), .o 24 (.av dG 0), .o 25 (.load dU false 1), .o 26 (.vv true dr dV)] [(0,0),(1,0),(2,0),(3,0),(4,0),(5,0),(6,0),(7,0)]
abbrev abF:AC:= .cond eo (.seq (.run [.o 4 (.mv (.k (.bool false)))]) .ret) .skip
abbrev abG:AC:= .seq (.block 1 (.seq (.run [.m 16 cm, .o 17 (.bF cb cm 2), .o 18 (.load c6 true 2), .o 6 (.alloc [(.str []),(.bool false)]), .m 5 cw, .op none none (.store cD da 2)]) (.seq abE abF))) (.run [.o 27 (.bin .add cm (.k (.int .i64 1))), .m 14 ef])
abbrev abH:AC:= .block 0 (.loop (.seq (.run [.o 15 (.bin .lss cm cz)]) (.seq (.cond cZ .skip (.exit 0)) abG)))
abbrev abI:AC:= .seq (.seq (.run [.m 12 bE, .o 13 (.len cb), .o 14 (.mv (.k (.int .i64 0)))]) abH) (.seq (.run [.o 4 (.mv (.k (.bool true)))]) .ret)
abbrev abJ:AC:= .seq (.run [.o 4 (.mv (.k (.bool false)))]) (.seq (.seq (.run [.m 7 bE, .o 8 (.len bN), .m 9 bg, .o 10 (.len cO), .o 11 (.bin .neq b9 cd)]) abD) abI)
abbrev abK:AC:= .seq (.run [.o 2 (.mv (.k (.bool false)))]) (.seq (.run [.m 3 bE, .o 4 (.bin .geq cu (.k (.int .u8 48))), .m 5 db, .g 6 5 true (.mv bE), .g 7 5 true (.bin .leq cD (.k (.int .u8 57))), .o 8 (.pick bH bN (.k (.bool false))), .m 2 b9]) .ret)
abbrev abL:AC:= .seq (.run [.o 4 (.mv (.k (.bool false)))]) (.seq (.run [.m 5 bg, .m 6 bH, .g 7 6 true (.mv bE), .d 8 6 true lB [bN], .o 9 (.pick cD b9 (.k (.bool false))), .m 10 cO, .g 11 10 false (.mv bg), .g 12 10 false (.un .not bT), .g 13 10 false (.mv cb), .g 14 13 true (.mv bE), .g 15 13 true (.bin .eql cm (.k (.str []))), .g 16 10 false (.pick cz cZ (.k (.bool false))), .o 17 (.pick cd (.k (.bool true)) cw), .m 4 c6]) .ret)
abbrev abM:AC:= .seq (.run [.o 2 (.box bE), .o 4 (.mv (.k (.bool false)))]) (.seq (.run [.m 5 bg, .m 6 bH, .g 7 6 true (.load cH true 4), .d 8 6 true nw [bN], .o 9 (.pick cD b9 (.k (.bool false))), .m 10 cO, .g 11 10 false (.mv bg), .g 12 10 false (.un .not bT), .g 13 10 false (.mv cb), .g 14 13 true (.load cH true 4), .d 15 13 true tA [cm], .g 16 10 false (.pick cz cZ (.k (.bool false))), .o 17 (.pick cd (.k (.bool true)) cw), .m 4 c6]) .ret)
abbrev abN:AC:= .cond dV (.seq (.run [.o 2 (.mv (.k (.bool false)))]) .ret) .skip
abbrev abO:AC:= .seq (.run [.o 9 (.bF bH bN 6), .o 10 (.load cO true 6), .o 4 (.alloc [(.bool false),(.str []),(.int .i64 0),(.int .i64 0),(.str []),(.slice .full 0 [])]), .op none none (.store db cd 6)]) (.seq (.run [.o 11 (.av db 1), .o 12 (.load bT false 1), .o 13 (.av db 0), .o 14 (.load cz false 1), .c 15 mV [cb,cm], .o 16 (.un .not cZ), .m 17 cw, .g 18 17 false (.av db 2), .g 19 17 false (.load da true 4), .g 20 17 false (.av db 0), .g 21 17 false (.load dr false 1), .g 22 17 false (.un .not dh), .d 23 17 false oT [dd,dF], .g 24 17 false (.un .not dG), .o 25 (.pick c6 (.k (.bool true)) dU)]) abN)
abbrev abP:AC:= .seq (.cond b9 .skip (.exit 0)) (.seq (.block 1 abO) (.run [.o 26 (.bin .add bN (.k (.int .i64 1))), .m 7 eo]))
abbrev abQ:AC:= .seq (.run [.m 5 bE, .o 6 (.len bH), .o 7 (.mv (.k (.int .i64 0)))]) (.block 0 (.loop (.seq (.run [.o 8 (.bin .lss bN cD)]) abP)))
abbrev abR:AC:= .seq abQ (.seq (.run [.o 2 (.mv (.k (.bool true)))]) .ret)
abbrev abS:AC:= .seq (.run [.o 2 (.mv (.k (.bool false)))]) abR
abbrev abT:AC:= .seq (.run [.o 2 (.mv (.k (.bool false)))]) (.seq (.run [.m 3 bE, .o 4 (.bin .geq cu (.k (.int .u8 97))), .m 5 db, .g 6 5 true (.mv bE), .g 7 5 true (.bin .leq cD (.k (.int .u8 122))), .o 8 (.pick bH bN (.k (.bool false))), .m 2 b9]) .ret)
abbrev abU:AC:= .seq (.run [.o 2 (.mv (.k (.bool false)))]) (.seq (.run [.m 3 bE, .o 4 (.bin .geq cu (.k (.int .u8 48))), .m 5 db, .g 6 5 true (.mv bE), .g 7 5 true (.bin .leq cD (.k (.int .u8 57))), .o 8 (.pick bH bN (.k (.bool false))), .m 2 b9]) .ret)
abbrev abV:AC:= .cond cz (.seq (.run [.o 2 (.mv (.k (.bool true)))]) .ret) .skip
abbrev abW:AC:= .seq (.block 1 (.seq (.run [.o 9 (.bF bH bN 1), .o 10 (.load cO false 1), .m 4 cd]) (.seq (.run [.m 11 db, .m 12 bE, .o 13 (.bin .eql bT cb)]) abV))) (.run [.o 14 (.bin .add bN (.k (.int .i64 1))), .m 7 cm])
abbrev abX:AC:= .block 0 (.loop (.seq (.run [.o 8 (.bin .lss bN cD)]) (.seq (.cond b9 .skip (.exit 0)) abW)))
abbrev abY:AC:= .seq (.seq (.run [.c 5 rU [], .o 6 (.len bH), .o 7 (.mv (.k (.int .i64 0)))]) abX) (.seq (.run [.o 2 (.mv (.k (.bool false)))]) .ret)
abbrev abZ:AC:= .seq (.run [.o 2 (.mv (.k (.bool false)))]) abY
abbrev ab0:AC:= .seq (.run [.o 1 (.box bE), .o 2 (.mv (.k (.bool false)))]) (.seq (.run [.o 3 (.av bg 0), .o 4 (.load cu false 1), .o 5 (.bin .eql db (.k (.int .i64 0))), .m 6 bH, .g 7 6 true (.av bg 1), .g 8 6 true (.load bN false 1), .g 9 6 true (.bin .eql b9 (.k (.int .i64 0))), .o 10 (.pick cD cO (.k (.bool false))), .m 11 cd, .g 12 11 true (.av bg 2), .g 13 11 true (.load cb false 1), .g 14 11 true (.bin .eql cz (.k (.str []))), .o 15 (.pick bT cm (.k (.bool false))), .m 16 cZ, .g 17 16 true (.av bg 3), .g 18 16 true (.load c6 false 1), .g 19 16 true (.len da), .g 20 16 true (.bin .eql dd (.k (.int .i64 0))), .o 21 (.pick cw dr (.k (.bool false))), .m 2 dh]) .ret)
abbrev ab1:AC:= .cond db (.seq (.run [.o 5 (.av bg 1), .o 6 (.load bH false 1), .c 7 gP [cD], .m 8 bN, .g 9 8 true (.av bg 2), .g 10 8 true (.load cO true 4), .d 11 8 true p7 [cd], .o 12 (.pick b9 bT (.k (.bool false))), .m 2 cb]) .ret) .skip
abbrev ab2:AC:= .seq (.seq (.run [.o 3 (.av bg 0), .o 4 (.load cu false 1)]) ab1) (.seq (.run [.o 13 (.av bg 1), .o 14 (.load cz false 1), .o 15 (.bin .eql cm (.k (.str []))), .m 16 cZ, .g 17 16 true (.av bg 2), .g 18 16 true (.load c6 true 4), .d 19 16 true kY [da], .o 20 (.pick cw dd (.k (.bool false))), .m 2 dr]) .ret)
abbrev ab3:AC:= .seq (.run [.o 1 (.box bE), .o 2 (.mv (.k (.bool false)))]) ab2
abbrev ab4:AC:= .par [.m 7 bg, .o 8 (.bin .lss bN (.k (.int .i64 1))), .m 9 b9, .g 10 9 false (.av cH 3), .g 11 9 false (.load cd false 1), .g 12 9 false (.len bT), .g 13 9 false (.av cH 0), .g 14 9 false (.load cz false 1), .d 15 9 false tB [cm], .g 16 9 false (.bin .neq cb cZ), .o 17 (.pick cO (.k (.bool true)) cw)] [(0,0),(1,0),(2,0),(6,0),(7,0),(8,0),(3,0),(4,1),(5,0),(9,0),(10,0)]
abbrev ab5:AC:= .cond c6 (.seq (.run [.o 4 (.mv (.k (.bool false)))]) .ret) .skip
abbrev ab6:AC:= .cond fp (.seq (.run [.o 32 (.av cH 1), .o 33 (.load fq false 1), .o 34 (.bin .eql fj (.k (.int .i64 0))), .m 35 fD, .g 36 35 true (.av cH 2), .g 37 35 true (.load gq false 1), .d 38 35 true lB [gE], .o 39 (.pick fE iP (.k (.bool false))), .m 4 ij]) .ret) .skip
abbrev ab7:AC:= .cond dr (.seq (.run [.o 22 (.av cH 1), .o 23 (.load dF false 1), .o 24 (.bin .geq dG (.k (.int .i64 0))), .m 25 dU, .g 26 25 true (.av cH 2), .g 27 25 true (.load eo false 1), .g 28 25 true (.bin .eql ef (.k (.str []))), .o 29 (.pick dV eI (.k (.bool false))), .m 4 eZ]) .ret) (.seq (.run [.o 31 (.bin .eql dd (.k (.int .i64 2))), .m 30 eU]) ab6)
abbrev ab8:AC:= .block 0 (.seq (.run [.o 21 (.bin .eql dd (.k (.int .i64 1))), .m 20 dh]) ab7)
abbrev ab9:AC:= .cond lE (.seq (.run [.o 4 (.mv (.k (.bool false)))]) .ret) .skip
abbrev aca:AC:= .cond mb (.seq (.run [.o 4 (.mv (.k (.bool false)))]) .ret) .skip
abbrev acb:AC:= .seq (.run [.o 53 (.bF jT k6 4), .o 54 (.load mX true 4), .o 6 (.alloc [(.int .i64 0),(.int .i64 0),(.str []),(.slice .full 0 [])]), .op none none (.store cD mY 4)]) (.seq (.run [.o 55 (.load cD true 4), .m 56 bg, .o 57 (.bin .sub oa (.k (.int .i64 1))), .c 58 nQ [mZ,na], .o 59 (.un .not oc)]) aca)
abbrev acd:AC:= .seq (.cond mW .skip (.exit 1)) (.seq (.block 2 acb) (.run [.o 60 (.bin .add k6 (.k (.int .i64 1))), .m 51 qH]))
abbrev ace:AC:= .seq (.run [.o 48 (.av cH 3), .o 49 (.load lF false 1), .o 50 (.len jT), .o 51 (.mv (.k (.int .i64 0)))]) (.block 1 (.loop (.seq (.run [.o 52 (.bin .lss k6 lG)]) acd)))
abbrev acf:AC:= .seq ace (.seq (.run [.o 4 (.mv (.k (.bool true)))]) .ret)
abbrev acg:AC:= .seq (.seq (.run [.o 40 (.av cH 1), .o 41 (.load jS false 1), .o 42 (.bin .neq jF (.k (.int .i64 0))), .m 43 kq, .g 44 43 false (.av cH 2), .g 45 43 false (.load ku false 1), .g 46 43 false (.bin .neq lC (.k (.str []))), .o 47 (.pick kr (.k (.bool true)) lD)]) ab9) acf
abbrev ach:AC:= .seq (.run [.o 2 (.box bE), .o 4 (.mv (.k (.bool false)))]) (.seq (.seq ab4 ab5) (.seq (.seq (.run [.o 18 (.av cH 0), .o 19 (.load da false 1)]) ab8) acg))
abbrev aci:AC:= .cond c6 (.seq (.run [.o 2 (.mv (.k (.int .i64 2)))]) .ret) .skip
abbrev acj:AC:= .cond cd (.seq (.run [.o 2 (.mv (.k (.int .i64 1)))]) .ret) (.seq (.run [.m 18 bE, .o 19 (.bin .geq da (.k (.int .i64 5))), .m 20 dd, .g 21 20 true (.mv bE), .g 22 20 true (.bin .leq dh (.k (.int .i64 17))), .o 23 (.pick dr dF (.k (.bool false))), .m 17 dG]) aci)
abbrev ack:AC:= .cond cu (.seq (.run [.o 2 (.mv (.k (.int .i64 0)))]) .ret) (.seq (.run [.m 11 bE, .o 12 (.bin .eql bT (.k (.int .i64 3))), .m 13 cb, .g 14 13 false (.mv bE), .g 15 13 false (.bin .eql cm (.k (.int .i64 4))), .o 16 (.pick cz (.k (.bool true)) cZ), .m 10 cw]) acj)
abbrev acm:AC:= .block 0 (.seq (.run [.m 4 bE, .o 5 (.bin .eql db (.k (.int .i64 1))), .m 6 bH, .g 7 6 false (.mv bE), .g 8 6 false (.bin .eql bN (.k (.int .i64 2))), .o 9 (.pick cD (.k (.bool true)) b9), .m 3 cO]) ack)
abbrev acn:AC:= .seq (.run [(.o 2 (.mv (.k (.int .i64 (-1)))))]) .ret
abbrev aco:AC:= .seq (.run [.o 2 (.mv (.k (.int .i64 0)))]) (.seq acm acn)
abbrev acp:AC:= .seq (.run [.o 1 (.box bE), .o 2 (.mv (.k (.bool false)))]) (.seq (.run [.o 3 (.av bg 0), .o 4 (.load cu false 1), .o 5 (.bin .eql db (.k (.int .i64 0))), .m 6 bH, .g 7 6 true (.av bg 1), .g 8 6 true (.load bN false 1), .g 9 6 true (.bin .eql b9 (.k (.int .i64 0))), .o 10 (.pick cD cO (.k (.bool false))), .m 11 cd, .g 12 11 true (.av bg 2), .g 13 11 true (.load cb false 1), .g 14 11 true (.bin .eql cz (.k (.str []))), .o 15 (.pick bT cm (.k (.bool false))), .m 16 cZ, .g 17 16 true (.av bg 3), .g 18 16 true (.load c6 false 1), .g 19 16 true (.len da), .g 20 16 true (.bin .eql dd (.k (.int .i64 0))), .o 21 (.pick cw dr (.k (.bool false))), .m 2 dh]) .ret)
abbrev acq:AC:= .seq (.run [(.o 1 (.cT [(.str [])] 1 13 [(0,(.k (.str [103,108,111,98,97,108]))),(1,(.k (.str [112,114,111,99]))),(2,(.k (.str [118,97,114]))),(3,(.k (.str [114,101,102]))),(4,(.k (.str [105,102]))),(5,(.k (.str [101,108,115,101]))),(6,(.k (.str [119,104,105,108,101]))),(7,(.k (.str [98,114,101,97,107]))),(8,(.k (.str [99,111,110,116,105,110,117,101]))),(9,(.k (.str [114,101,116,117,114,110]))),(10,(.k (.str [103,111,116,111]))),(11,(.k (.str [114,101,97,100]))),(12,(.k (.str [112,114,105,110,116])))])), .m 0 bg]) .ret
abbrev acr:AC:= .seq (.run [.o 0 (.mv (.k (.slice .full 0 [])))]) acq
abbrev acs:AC:= .cond c6 (.seq (.run [.o 2 (.mv (.k (.int .i64 2)))]) .ret) .skip
abbrev acu:AC:= .cond cd (.seq (.run [.o 2 (.mv (.k (.int .i64 1)))]) .ret) (.seq (.run [.m 18 bE, .o 19 (.bin .geq da (.k (.int .i64 5))), .m 20 dd, .g 21 20 true (.mv bE), .g 22 20 true (.bin .leq dh (.k (.int .i64 17))), .o 23 (.pick dr dF (.k (.bool false))), .m 17 dG]) acs)
abbrev acv:AC:= .cond cu (.seq (.run [.o 2 (.mv (.k (.int .i64 0)))]) .ret) (.seq (.run [.m 11 bE, .o 12 (.bin .eql bT (.k (.int .i64 3))), .m 13 cb, .g 14 13 false (.mv bE), .g 15 13 false (.bin .eql cm (.k (.int .i64 4))), .o 16 (.pick cz (.k (.bool true)) cZ), .m 10 cw]) acu)
abbrev acw:AC:= .block 0 (.seq (.run [.m 4 bE, .o 5 (.bin .eql db (.k (.int .i64 1))), .m 6 bH, .g 7 6 false (.mv bE), .g 8 6 false (.bin .eql bN (.k (.int .i64 2))), .o 9 (.pick cD (.k (.bool true)) b9), .m 3 cO]) acv)
abbrev acx:AC:= .seq (.run [(.o 2 (.mv (.k (.int .i64 (-1)))))]) .ret
abbrev acy:AC:= .seq (.run [.o 2 (.mv (.k (.int .i64 0)))]) (.seq acw acx)
end Go.Abs

/-! Have3 -/

namespace Go.Abs
open Go.Proofs
theorem vJ:Has Tryz.prog nO 36 [(4,none)] abq:=⟨Tryz.f122,by kernel_rfl,by kernel_rfl⟩
theorem CI:Has Tryz.prog nP 60 [(2,none)] aby:=⟨Tryz.f123,by kernel_rfl,by kernel_rfl⟩
theorem sN:Has Tryz.prog lX 22 [(4,none)] abC:=⟨Tryz.f124,by kernel_rfl,by kernel_rfl⟩
theorem uu:Has Tryz.prog rR 28 [(4,none)] abJ:=⟨Tryz.f125,by kernel_rfl,by kernel_rfl⟩
theorem CJ:Has Tryz.prog tx 9 [(2,none)] abK:=⟨Tryz.f126,by kernel_rfl,by kernel_rfl⟩
theorem AX:Has Tryz.prog mV 18 [(4,none)] abL:=⟨Tryz.f127,by kernel_rfl,by kernel_rfl⟩
theorem AY:Has Tryz.prog oT 18 [(4,none)] abM:=⟨Tryz.f128,by kernel_rfl,by kernel_rfl⟩
theorem zG:Has Tryz.prog qG 27 [(2,none)] abS:=⟨Tryz.f129,by kernel_rfl,by kernel_rfl⟩
theorem AZ:Has Tryz.prog oU 9 [(2,none)] abT:=⟨Tryz.f130,by kernel_rfl,by kernel_rfl⟩
theorem A0:Has Tryz.prog rS 9 [(2,none)] abU:=⟨Tryz.f131,by kernel_rfl,by kernel_rfl⟩
theorem CK:Has Tryz.prog tz 15 [(2,none)] abZ:=⟨Tryz.f132,by kernel_rfl,by kernel_rfl⟩
theorem CM:Has Tryz.prog p7 22 [(2,none)] ab0:=⟨Tryz.f133,by kernel_rfl,by kernel_rfl⟩
theorem Ej:Has Tryz.prog uZ 21 [(2,none)] ab3:=⟨Tryz.f134,by kernel_rfl,by kernel_rfl⟩
theorem vK:Has Tryz.prog nQ 61 [(4,none)] ach:=⟨Tryz.f135,by kernel_rfl,by kernel_rfl⟩
theorem A1:Has Tryz.prog rT 24 [(2,none)] aco:=⟨Tryz.f142,by kernel_rfl,by kernel_rfl⟩
theorem CN:Has Tryz.prog tA 22 [(2,none)] acp:=⟨Tryz.f143,by kernel_rfl,by kernel_rfl⟩
theorem A2:Has Tryz.prog rU 2 [(0,none)] acr:=⟨Tryz.f144,by kernel_rfl,by kernel_rfl⟩
theorem CO:Has Tryz.prog tB 24 [(2,none)] acy:=⟨Tryz.f145,by kernel_rfl,by kernel_rfl⟩
end Go.Abs

/-! Frz -/

namespace Go.Abs
theorem aD.vZ {P:Program} {f:Nat} {args:List D} {s0 s:St} {o off n m:Nat} {row:List D} (h:aD P f args s0 (.ptr o off) s) (ho:s.aw[o]? = some row) (hn:s0.aw.length≤n) (hno:n≤o) (hm:s0.aB.length≤m) :
 aD P f args s0 (.dJ (D.gd n m row) off) (s.cut n m):=by
 intro M0 w0 fx r0 jI acz ha
 refine(h M0 w0 fx r0 jI acz ha).mono ?_
 rintro en w ⟨M,d,v0,s',rfl,⟨rfl,rfl⟩,e,r,hv⟩
 have tU:=hv.wh
 have pG:v0 = .pointer (some ⟨M.mu o,off,none⟩):=hv.pC.1
 have ID:o<s'.aw.length:=(List.getElem?_eq_some_iff.1 ho).1
 obtain⟨vs,T,hh,ek,⟨jQ,_⟩,nK⟩:=r.obj o row ho
 replace hh:=hh.cells tU
 let M':Map:= {M with G:=fun b q=>if b=M.mu o then vs[q]? else M.G b q}
 have hGo : ∀ q,M.G (M.mu o) q=none:=r.jA o ID
 have le:Le M s' M' s':=⟨fun b q v hq=>by
  show(if b=M.mu o then vs[q]? else M.G b q)=some v
  by_cases hb:b=M.mu o
  ·subst hb;rw [hGo]at hq;cases hq
  ·rw [if_neg hb];exact hq,Nat.le_refl _,fun _ _=>rfl,Nat.le_refl _,fun t n' _ e=>⟨n',e,Nat.le_refl _,fun _=>rfl⟩⟩
 have hD : ∀ q,q<(s'.cut n m).aw.length→q<s'.aw.length∧q≠o:=fun q h=>by rw [n7]at h;omega
 have sO:w0.heap.size≤M.mu o:=e.oy o (by omega) ID
 have ec:=e.cut hn hm
 have SP:Le M (s'.cut n m) M' (s'.cut n m):=⟨le.G,Nat.le_refl _,fun _ _=>rfl,Nat.le_refl _,fun t n' _ e=>⟨n',e,Nat.le_refl _,fun _=>rfl⟩⟩
 have rc:=r.cut n m
 have qc : ∀ b,b≠M.mu o→∀ q,M'.G b q=M.G b q:=fun b hb q=>if_neg hb
 refine⟨M',_,v0,_,rfl,⟨rfl,rfl⟩,⟨ec.le.trans SP,ec.kept,ec.oy,ec.oz,fun b q eQ=> ?_,ec.size,ec.os,ec.tape,ec.output⟩,⟨fun b q v hq=> ?_,fun q ds hq=> ?_,fun q hq s8=> ?_,rc.inj,fun t n' JC=> ?_,rc.eH,rc.fm⟩, ?_⟩
 ·by_cases hb:b=M.mu o
  ·subst hb;exact .inl sO
  ·rw [qc b hb]at eQ;exact ec.qv b q eQ
 ·have po:(if b=M.mu o then vs[q]? else M.G b q)=some v:=hq
  by_cases hb:b=M.mu o
  ·rw [if_pos hb]at po
   rw [hb,jm hh]
   exact⟨po,jQ v (Array.mem_of_getElem? po)⟩
  ·rw [if_neg hb]at po
   exact r.comm b q v po
 ·obtain⟨e7,T',h3,h4,h5,h6⟩:=rc.obj q ds hq
  exact⟨e7,T',h3,h4,h5,fun i d v e1 e2=>(h6 i d v e1 e2).mono SP⟩
 ·obtain⟨h3,h4⟩:=hD q hq
  show M'.G (M.mu q) s8=none
  rw [qc _ (fun e=>h4 (r.inj q o h3 ID e))]
  exact r.jA q h3 s8
 ·rcases rc.tok t n' JC with h3 | ⟨b,cap,z,e7,T',h3,h4,h5,h6,h7⟩
  ·exact .inl h3
  ·refine .inr ⟨b,cap,z,e7,T',h3,h4,h5,h6,fun s8 ym=> ?_,h7.2⟩
   rw [qc _ (fun e=>r.eH t b cap z o (rD ⟨n',JC⟩) h3 ID e.symm)]
   exact h7.1 s8 ym
 ·rw [pG]
  have:=RD.dJ (M:=M') (s:=s'.cut n m) (D.gd n m row) off (M.mu o) 0 (fun i d e1=> ?_) (fun i d u e1 eu=> ?_)
  ·simpa using this
  ·rw [lR,List.getElem?_map,Option.map_eq_some_iff]at e1
   obtain⟨d0,e1,rfl⟩:=e1
   have hi:=(List.getElem?_eq_some_iff.1 e1).1
   refine⟨vs[i]'(by omega), ?_⟩
   show(if M.mu o=M.mu o then vs[0+i]? else _)=_
   rw [if_pos rfl,Nat.zero_add]
   exact Array.getElem?_eq_getElem _
  ·rw [lR,List.getElem?_map,Option.map_eq_some_iff]at e1
   obtain⟨d0,e1,rfl⟩:=e1
   have F2:(if M.mu o=M.mu o then vs[0+i]? else M.G (M.mu o) (0+i))=some u:=eu
   rw [if_pos rfl,Nat.zero_add]at F2
   exact((nK i d0 u e1 F2).fg n m).mono SP
theorem aD.goK {P:Program} {f:FuncId} {res:List (Nat×Option (Bool×Nat))} {body:AC} {args:List D} {s:St} {d:D} {s':St} {nt:Nat} (n m:Nat) (hn:s.aw.length≤n) (hm:s.aB.length≤m) (h0:Has P f nt res body) (hl:Nat.ble args.length nt=true)
 (h : ∀ (B:fY) (Q:Exit→Tm→St→Prop),B.s=s→kQ n m res d s'=Q→jn P B nt body Q (mn 0 args) s):aD P f args s d s':=by
 obtain⟨fn,hf,hc⟩:=h0
 refine ej.OI (ej.intro (Q:=fun d1 s1=>Wk d1 d∧gH s1.aw s'.aw∧s1.aB=s'.aB) hf hc (Nat.le_of_ble_eq_true hl) fun B hB=>(ib (h B _ hB rfl)).mono fun e tm s1 hr=> ?_) fun d1 s1 ⟨h1,h2,h3⟩=>⟨d,s',h1,h2,h3,rfl,rfl⟩
 subst hB
 cases e with
 | normal=>obtain⟨l,h1,h2,h3,h4⟩:=hr;exact⟨l,h1,_,_,hn,hm,h2,h3,h4⟩
 | ret=>obtain⟨l,h1,h2,h3,h4⟩:=hr;exact⟨l,h1,_,_,hn,hm,h2,h3,h4⟩
 | exit id=>exact hr.elim
 | goto l=>exact hr.elim
 | panic ch=>exact hr.elim
 | outgrown=>exact hr.elim
end Go.Abs

/-! MirLex -/

namespace Go.Abs
def sP (c:UInt8):Bool:=decide ((c.toNat:Int)≥97) && decide ((c.toNat:Int)≤122)
def vL (c:UInt8):Bool:=decide ((c.toNat:Int)≥48) && decide ((c.toNat:Int)≤57)
def isB (c:UInt8):Bool:=(c.toNat:Int)==32 || (c.toNat:Int)==9 || (c.toNat:Int)==10 || (c.toNat:Int)==13
def nf:aH→Nat
 | []=>0
 | c::r=>if sP c || vL c then nf r+1 else 0
def SQ:aH→Nat
 | []=>0
 | c::r=>if vL c then SQ r+1 else 0
def IF:aH→Nat
 | []=>0
 | c::r=>if(c.toNat:Int) != 10 then IF r+1 else 0
def isWord (s:aH):Bool:=
 s == [103,108,111,98,97,108] || s == [112,114,111,99] || s == [118,97,114] || s == [114,101,102] || s == [105,102] || s == [101,108,115,101] || s == [119,104,105,108,101] || s == [98,114,101,97,107] || s == [99,111,110,116,105,110,117,101] || s == [114,101,116,117,114,110] || s == [103,111,116,111] || s == [114,101,97,100] || s == [112,114,105,110,116]
def VX (s:aH):Bool:=s == [61,61] || s == [33,61] || s == [60,61] || s == [62,61] || s == [38,38] || s == [124,124]
def Pv (c:UInt8):Bool:=
 (c.toNat:Int)==40 || (c.toNat:Int)==41 || (c.toNat:Int)==123 || (c.toNat:Int)==125 || (c.toNat:Int)==44 || (c.toNat:Int)==59 || (c.toNat:Int)==58 || (c.toNat:Int)==61 ||
 (c.toNat:Int)==33 || (c.toNat:Int)==60 || (c.toNat:Int)==62 || (c.toNat:Int)==43 || (c.toNat:Int)==45 || (c.toNat:Int)==42 || (c.toNat:Int)==47 || (c.toNat:Int)==37
def Pw:aH→Nat
 | []=>0
 | [c]=>if Pv c then 1 else 0
 | c::d::_=>if VX [c,d]then 2 else if Pv c then 1 else 0
def IG:Int→aH→Option Int
 | n,[]=>some n
 | n,c::r=>if n > (9223372036854775807 - ((c.toNat:Int) - 48)) / 10 then none else IG (n*10+((c.toNat:Int) - 48)) r
def acA (pos:Nat):aH→nN ⊕ Int
 | []=> .inr 2
 | c::r=>
  if sP c then
   let s:=(c::r).take (nf (c::r))
   if s.length > 8 then .inr 4 else .inl ⟨if isWord s then 3 else 1,s,0,pos⟩
  else if vL c then
   let s:=(c::r).take (SQ (c::r))
   if s.length > 1∧(c.toNat:Int)=48 then .inr 2 else
   match IG 0 s with
   | some n=> .inl ⟨2,s,n,pos⟩
   | none=> .inr 4
  else
   if Pw (c::r)=0 then .inr 2 else .inl ⟨4,(c::r).take (Pw (c::r)),0,pos⟩
def II:Nat→Nat→aH→List nN→List nN×Int×Int
 | 0,_,_,_=>([],0,0)
 | _+1,pos,[],out=>(out++ [⟨0,[],0,pos⟩],0,0)
 | n+1,pos,c::r,out=>
  if isB c then II n (pos+1) r out
  else if(c.toNat:Int)==35 then II n (pos+IF (c::r)) ((c::r).drop (IF (c::r))) out
  else match acA pos (c::r)with
   | .inr e=>([],e,pos)
   | .inl t=>if out.length=2000 then([],4,pos)else II n (pos+t.text.length) ((c::r).drop t.text.length) (out++ [t])
def uv (text:aH):List nN×Int×Int:=if text.length > 100000 then([],4,0)else II (text.length+1) 0 text []
end Go.Abs

/-! MirMay -/

namespace Go.Abs
def rb:aH→Bool
 | []=>true
 | c::r=>if !(sP c) && !(vL c)then false else rb r
def isName:aH→Bool
 | []=>false
 | c::r=>if decide (((r.length+1:Nat):Int) > 8) || !(sP c)then false else if rb r then !(isWord (c::r))else false
def k8 (op:Int):Int:=if op==1 || op==2 then 0 else if op==3 || op==4 then 1 else if decide (op≥5) && decide (op≤17)then 2 else -1
mutual
def Ex.form:Ex→Bool
 | ⟨op,n,name,kids⟩=>
  if k8 op != (kids.length:Int) || (op != 1 && n != 0) || decide (n<0) || !((op==2) == !(name == [])) || (!(name == []) && !(isName name))then false else Ex.ny kids
def Ex.ny:List Ex→Bool
 | []=>true
 | x::l=>if !(Ex.form x)then false else Ex.ny l
end
mutual
def Ex.texts:Ex→Prop
 | ⟨_,_,name,kids⟩=>name.length<4611686018427387904∧Ex.rX kids
def Ex.rX:List Ex→Prop
 | []=>True
 | x::l=>x.texts∧Ex.rX l
end
theorem Ex.zH {x:Ex} : ∀ {l:List Ex},Ex.rX l→x∈l→x.texts
 | y::l,h,m=>by
  rcases List.mem_cons.1 m with rfl | m
  ·exact h.1
  ·exact Ex.zH h.2 m
theorem Ex.BI {op n:Int} {name:aH} {kids:List Ex} (h:Ex.texts ⟨op,n,name,kids⟩) {y:Ex} (m:y∈kids):y.texts:=Ex.zH h.2 m
def Ex.may (x:Ex):Bool:=decide (((min x.depth 21:Nat):Int)≤20) && x.form
def Ex.none (x:Ex):Bool:=x.op==0 && x.n==0 && x.name == [] && (x.kids.length:Int)==0
def dm:List aH→Bool
 | []=>true
 | s::l=>if !(isName s)then false else dm l
def Ar.may (a:Ar):Bool:=if a.ref then isName a.name && a.x.none else a.name == [] && a.x.may
def Ar.dz:List Ar→Bool
 | []=>true
 | a::l=>if !(a.may)then false else Ar.dz l
def Sm.wR (s:Sm):Bool:=s.kind==1 || s.kind==3 || s.kind==5 || s.kind==6 || (s.kind==9 && s.has)
def Sm.hasName (s:Sm):Bool:=s.kind==1 || s.kind==2 || s.kind==10
def Sm.qo (s:Sm):Bool:=s.kind==4
def Sm.one (s:Sm):Bool:=
 if decide (s.kind<1) || decide (s.kind > 10) || !(dm s.labels) || (s.wR && !(s.x.may)) || (!(s.wR) && !(s.x.none)) || (s.has && s.kind != 9)then false
 else if(s.hasName && !(isName s.name)) || (!(s.hasName) && !(s.name == []) && !(s.qo && isName s.name))then false
 else if !(s.qo == !(s.proc == [])) || (s.qo && !(isName s.proc)) || (!(s.qo) && decide ((s.args.length:Int) > 0))then false
 else if !(Ar.dz s.args)then false
 else((s.bp.length:Int)==0 || s.kind==5 || s.kind==6) && ((s.bc.length:Int)==0 || s.kind==5)
structure It where
 s:Sm
 deep:Int
 b8:Int
 bc:Bool
mutual
def ga (deep b8:Int) (bc:Bool) (out:List It):Sm→List It
 | ⟨id,kind,labels,name,proc,x,has,args,bp,e⟩=>
  if decide (deep≤12)then de (deep+1) id true (de (deep+1) id false (out++ [⟨⟨id,kind,labels,name,proc,x,has,args,bp,e⟩,deep,b8,bc⟩]) bp) e
  else out++ [⟨⟨id,kind,labels,name,proc,x,has,args,bp,e⟩,deep,b8,bc⟩]
def de (deep b8:Int) (bc:Bool) (out:List It):List Sm→List It
 | []=>out
 | s::l=>if decide ((out.length:Int)≤200)then de deep b8 bc (ga deep b8 bc out s) l else out
end
def Pc.flat (f:Pc):List It:=de 1 0 false [] f.body
def allM (out:List It):List Pc→List It
 | []=>out
 | f::l=>if decide (((out++f.flat).length:Int) > 200)then out++f.flat else allM (out++f.flat) l
def Pg.all (p:Pg):List It:=allM [] p.procs
def Pm.dz:List Pm→Bool
 | []=>true
 | a::l=>if !(isName a.name)then false else Pm.dz l
def Pc.kc:List Pc→Bool
 | []=>true
 | f::l=>
  if !(isName f.name) || decide ((f.params.length:Int) > 8) || decide ((f.vars.length:Int) > 16) || !(dm f.vars) || !(dm f.fin)then false
  else if !(Pm.dz f.params)then false else Pc.kc l
def It.dz (n:Nat):List It→Bool
 | []=>true
 | i::l=>if i.s.id != ((n+1:Nat):Int) || decide (i.deep > 12) || !(i.s.one)then false else It.dz (n+1) l
def Pg.may (p:Pg):Bool:=
 if decide ((p.globals.length:Int) > 16) || decide ((p.procs.length:Int) > 16) || !(dm p.globals)then false
 else if !(Pc.kc p.procs)then false
 else if decide ((p.all.length:Int) > 200)then false else It.dz 0 p.all
end Go.Abs

/-! Prs -/

namespace Go.Abs
open Go.Proofs
@[go_sem] def ajv (r:Rd):List D:= [.slice .shared 4 (r.l.map ix), .int .i64 r.i, .int .i64 r.code, .int .i64 r.DX, .int .i64 r.n]
end Go.Abs

/-! Lex1 -/

namespace Go.Abs
set_option maxRecDepth 8000
open Go.Proofs
theorem pJ (c:UInt8) (s:St):aD Tryz.prog oS [.int .u8 (c.toNat:Int)] s (.bool (sP c)) s:=by
 refine aD.pure ?_ rfl rfl s
 generalize h:sP c=b
 unfold sP at h
 unfold S0
 refine aD.go AV rfl fun B Q hB hQ=> ?_
 have⟨hD,hJ,hP,hY⟩:=bK
 repeat' (first
 | simp only [go_sem,hD,hJ,hP,hY]
 | (with_reducible first | refine ax fun hc=> ?_ | refine ay fun hc=> ?_ | refine az (fun hc=> ?_) fun hc=> ?_) <;> (try simp only [hc,bs, ↓reduceIte]at h) <;> try simp only [hc]
 | (with_reducible refine aA hQ ?_;exact bx)
 | (cases h;done))
theorem A3 (c:UInt8) (s:St):aD Tryz.prog tx [.int .u8 (c.toNat:Int)] s (.bool (vL c)) s:=by
 refine aD.pure ?_ rfl rfl s
 generalize h:vL c=b
 unfold vL at h
 unfold S0
 refine aD.go CJ rfl fun B Q hB hQ=> ?_
 have⟨hD,hJ,hP,hY⟩:=bK
 repeat' (first
 | simp only [go_sem,hD,hJ,hP,hY]
 | (with_reducible first | refine ax fun hc=> ?_ | refine ay fun hc=> ?_ | refine az (fun hc=> ?_) fun hc=> ?_) <;> (try simp only [hc,bs, ↓reduceIte]at h) <;> try simp only [hc]
 | (with_reducible refine aA hQ ?_;exact bx)
 | (cases h;done))
theorem SR (t:aH) (s:St):aD Tryz.prog uX [.str t] s (.bool (isWord t)) s:=by
 refine aD.pure ?_ rfl rfl s
 generalize h:isWord t=b
 unfold isWord at h
 unfold S0
 refine aD.go Eh rfl fun B Q hB hQ=> ?_
 have⟨hD,hJ,hP,hY⟩:=bK
 repeat' (first
 | simp only [go_sem,hD,hJ,hP,hY]
 | (with_reducible first | refine ax fun hc=> ?_ | refine ay fun hc=> ?_ | refine az (fun hc=> ?_) fun hc=> ?_) <;> (try simp only [hc,bs, ↓reduceIte]at h) <;> try simp only [hc]
 | (with_reducible refine aA hQ ?_;exact bx)
 | (cases h;done))
theorem VY {text:aH} {pos:Nat} (hl:text.length<4611686018427387904) (s:St):aD Tryz.prog wH [.str text, .int .i64 (pos:Int)] s (.int .i64 ((pos+nf (text.drop pos):Nat):Int)) s:=by
 refine aD.pure ?_ rfl rfl s
 unfold S0
 refine aD.go FB rfl fun B Q hB hQ=> ?_
 have⟨hD,hJ,hP,hY⟩:=bK
 repeat' (first
 | simp only [go_sem,hD,hJ,hP,hY]
 | (with_reducible first | refine ax fun hc=> ?_ | refine ay fun hc=> ?_ | refine az (fun hc=> ?_) fun hc=> ?_) <;> (try simp only [hc,bs, ↓reduceIte]at h) <;> try simp only [hc]
 | (with_reducible refine aA hQ ?_;exact bx)
 | (cases h;done))
 refine cP 0 0 (bl.ind (ι:=aH×Nat) (fun i=>text.drop i.2=i.1∧i.2+nf i.1=pos+nf (text.drop pos)) (fun i=>i.1.length)
  (fun i=> [(0, .str text),(1, .int .i64 (i.2:Int))]) (fun i=>⟨[],[]⟩) ?_ (text.drop pos,pos) ⟨rfl,rfl⟩)
 rintro⟨rest,k⟩ ⟨h1,h2⟩ IH
 dsimp only at h1 h2
 cases rest with
 | nil=>
  have hD:=drop_nil h1
  simp only [nf,Nat.add_zero]at h2
  rw [← h2]at hQ
  repeat' (first
 | simp only [go_sem,hD,hJ,hP,hY]
 | (with_reducible first | refine ax fun hc=> ?_ | refine ay fun hc=> ?_ | refine az (fun hc=> ?_) fun hc=> ?_) <;> (try simp only [hc,bs, ↓reduceIte]at h) <;> try simp only [hc]
 | (with_reducible refine aA hQ ?_;exact bx)
 | (cases h;done))
 | cons c rest=>
  obtain⟨hJ,g2,hD,g4⟩:=drop_cons h1
  have hP:k<4611686018427387904:=by omega
  cases hb:(sP c || vL c)
  ·simp only [nf,hb,Bool.false_eq_true, ↓reduceIte,Nat.add_zero]at h2
   rw [← h2]at hQ
   simp only [Bool.or_eq_false_iff]at hb
   repeat' (first
 | simp only [go_sem,hD,hJ,hP,hY,hb.1,hb.2]
 | (with_reducible refine CU (pJ _ _) ?_)
 | (with_reducible refine CU (A3 _ _) ?_)
 | (with_reducible first | refine ax fun hc=> ?_ | refine ay fun hc=> ?_ | refine az (fun hc=> ?_) fun hc=> ?_) <;> (try simp only [hc,bs, ↓reduceIte]at h) <;> try simp only [hc]
 | (with_reducible refine aA hQ ?_;(try cases h);simp only [aE,aF,aN,aO,go_sem,hD,hJ,hP,hY,hb.1,hb.2];try exact aQ)
 | (cases h;done))
  ·simp only [nf,hb, ↓reduceIte]at h2
   cases zl:sP c
   ·rw [zl,Bool.false_or]at hb
    repeat' (first
 | simp only [go_sem,hD,hJ,hP,hY,hb,zl]
 | (with_reducible refine CU (pJ _ _) ?_)
 | (with_reducible refine CU (A3 _ _) ?_)
 | (with_reducible first | refine ax fun hc=> ?_ | refine ay fun hc=> ?_ | refine az (fun hc=> ?_) fun hc=> ?_) <;> (try simp only [hc,bs, ↓reduceIte]at h) <;> try simp only [hc]
 | (with_reducible refine aA hQ ?_;(try cases h);simp only [aE,aF,aN,aO,go_sem,hD,hJ,hP,hY,hb,zl];try exact aQ)
 | (cases h;done))
    refine cP 0 0 (IH (rest,k+1) ⟨g2,by dsimp only;omega⟩ (Nat.lt_succ_self _))
   ·repeat' (first
 | simp only [go_sem,hD,hJ,hP,hY,zl]
 | (with_reducible refine CU (pJ _ _) ?_)
 | (with_reducible refine CU (A3 _ _) ?_)
 | (with_reducible first | refine ax fun hc=> ?_ | refine ay fun hc=> ?_ | refine az (fun hc=> ?_) fun hc=> ?_) <;> (try simp only [hc,bs, ↓reduceIte]at h) <;> try simp only [hc]
 | (with_reducible refine aA hQ ?_;(try cases h);simp only [aE,aF,aN,aO,go_sem,hD,hJ,hP,hY,zl];try exact aQ)
 | (cases h;done))
    refine cP 0 0 (IH (rest,k+1) ⟨g2,by dsimp only;omega⟩ (Nat.lt_succ_self _))
def aiy (s:aH):Int×Bool:=match IG 0 s with | some n=>(n,true) | none=>(0,false)
end Go.Abs

/-! Lex2 -/

namespace Go.Abs
open Go.Proofs
def acB (f:Int×Int):List D:= [.int .i64 f.1, .int .i64 f.2]
def VZ (text:aH) (out:List nN) (pos:Nat):Tm:= [(0, .str text),(3, .ptr 0 0),(4, .slice (.tok 0) 4 (out.map ix)),(5, .ptr 1 0),(6, .int .i64 (pos:Int))]
def V0 (out:List nN):St:=⟨[[.int .i64 0, .int .i64 0],[.junk, .junk, .junk, .junk]],[some out.length]⟩
attribute [go_sem] VZ V0 acB
end Go.Abs

/-! RefLex1 -/

namespace Go.Abs
set_option maxRecDepth 8000
open Go.Proofs
theorem Ek (c:UInt8) (s:St):aD Tryz.prog oU [.int .u8 (c.toNat:Int)] s (.bool (sP c)) s:=by
 refine aD.pure ?_ rfl rfl s
 generalize h:sP c=b
 unfold sP at h
 unfold S0
 refine aD.go AZ rfl fun B Q hB hQ=> ?_
 have⟨hD,hJ,hP,hY⟩:=bK
 repeat' (first
 | simp only [go_sem,hD,hJ,hP,hY]
 | (with_reducible first | refine ax fun hc=> ?_ | refine ay fun hc=> ?_ | refine az (fun hc=> ?_) fun hc=> ?_) <;> (try simp only [hc,bs, ↓reduceIte]at h) <;> try simp only [hc]
 | (with_reducible refine aA hQ ?_;exact bx)
 | (cases h;done))
theorem Nf (c:UInt8) (s:St):aD Tryz.prog rS [.int .u8 (c.toNat:Int)] s (.bool (vL c)) s:=by
 refine aD.pure ?_ rfl rfl s
 generalize h:vL c=b
 unfold vL at h
 unfold S0
 refine aD.go A0 rfl fun B Q hB hQ=> ?_
 have⟨hD,hJ,hP,hY⟩:=bK
 repeat' (first
 | simp only [go_sem,hD,hJ,hP,hY]
 | (with_reducible first | refine ax fun hc=> ?_ | refine ay fun hc=> ?_ | refine az (fun hc=> ?_) fun hc=> ?_) <;> (try simp only [hc,bs, ↓reduceIte]at h) <;> try simp only [hc]
 | (with_reducible refine aA hQ ?_;exact bx)
 | (cases h;done))
theorem QA (s:St):aD Tryz.prog rU [] s (.slice .shared 1 [[.str [103,108,111,98,97,108]],[.str [112,114,111,99]],[.str [118,97,114]],[.str [114,101,102]],[.str [105,102]],[.str [101,108,115,101]],[.str [119,104,105,108,101]],[.str [98,114,101,97,107]],[.str [99,111,110,116,105,110,117,101]],[.str [114,101,116,117,114,110]],[.str [103,111,116,111]],[.str [114,101,97,100]],[.str [112,114,105,110,116]]]) s:=by
 refine aD.pure ?_ rfl rfl s
 unfold S0
 refine aD.go A2 rfl fun B Q hB hQ=> ?_
 have⟨hD,hJ,hP,hY⟩:=bK
 repeat' (first
 | simp only [go_sem,hD,hJ,hP,hY]
 | (with_reducible first | refine ax fun hc=> ?_ | refine ay fun hc=> ?_ | refine az (fun hc=> ?_) fun hc=> ?_) <;> (try simp only [hc,bs, ↓reduceIte]at h) <;> try simp only [hc]
 | (with_reducible refine aA hQ ?_;exact bx)
 | (cases h;done))
def xB (s:aH):Bool:=
 [103,108,111,98,97,108] == s || [112,114,111,99] == s || [118,97,114] == s || [114,101,102] == s || [105,102] == s || [101,108,115,101] == s || [119,104,105,108,101] == s || [98,114,101,97,107] == s || [99,111,110,116,105,110,117,101] == s || [114,101,116,117,114,110] == s || [103,111,116,111] == s || [114,101,97,100] == s || [112,114,105,110,116] == s
theorem IJ (s:aH):xB s=isWord s:=by
 have e : ∀ a:aH,(a==s)=(s==a):=fun a=>BEq.comm
 simp only [xB,isWord,e]
theorem QB (text:aH) (s:St):aD Tryz.prog tz [.str text] s (.bool (isWord text)) s:=by
 refine aD.pure ?_ rfl rfl s
 rw [← IJ]
 generalize h:xB text=p
 unfold xB at h
 unfold S0
 refine aD.go CK rfl fun B Q hB hQ=> ?_
 have⟨hD,hJ,hP,hY⟩:=bK
 repeat' (first
 | simp only [go_sem,hD,hJ,hP,hY,Int.cast_ofNat_Int,dE,Int.reduceAdd,Int.reduceLT,Int.reduceNeg,decide_true,decide_false,Int.reduceToNat]
 | (with_reducible refine CU (QA _) ?_)
 | (with_reducible refine bl.uT ?_)
 | (with_reducible first | refine ax fun hc=> ?_ | refine ay fun hc=> ?_ | refine az (fun hc=> ?_) fun hc=> ?_) <;> (try simp only [hc,bs, ↓reduceIte]at h) <;> try simp only [hc]
 | (with_reducible refine aA hQ ?_;(try cases h);simp only [aE,aF,aN,aO,go_sem,hD,hJ,hP,hY,Int.cast_ofNat_Int,dE,Int.reduceAdd,Int.reduceLT,Int.reduceNeg,decide_true,decide_false,Int.reduceToNat];try exact aQ)
 | (cases h;done))
end Go.Abs

/-! Prs2 -/

namespace Go.Abs
open Go.Proofs
def OpR (p:Int×Int):Prop:=0≤p.2∧p.2≤6
end Go.Abs

/-! Ref1 -/

namespace Go.Abs
open Go.Proofs
@[go_sem] def ajw (z:D) (r:Rd):List D:= [.slice .shared 4 (r.l.map ix), .int .i64 r.i, .int .i64 r.code, .int .i64 r.DX,z]
class Cell (z:D):Prop where
 ok:D.ok 0 0 z=true
 fg : ∀ n m,D.fg n m z=z
instance (n:Int):Cell (.int .i64 n):=⟨rfl,fun _ _=>rfl⟩
instance:Cell .junk:=⟨rfl,fun _ _=>rfl⟩
theorem QC (z:D) [h:Cell z] (n m:Nat):D.fg n m z=z:=h.fg n m
attribute [go_sem] QC
def Rd.isO (text:aH) (r:Rd):Option Bool:=if r.good then r.is text else some false
end Go.Abs

/-! Ref2 -/

namespace Go.Abs
open Go.Proofs
def SS (s:aH):Int×Int:=
 if [42] == s then(6,5)else if [47] == s then(6,6)else if [37] == s then(6,7)else if [43] == s then(5,8)else if [45] == s then(5,9)
 else if [60] == s then(4,10)else if [60,61] == s then(4,11)else if [62] == s then(4,12)else if [62,61] == s then(4,13)
 else if [61,61] == s then(3,14)else if [33,61] == s then(3,15)else if [38,38] == s then(2,16)else if [124,124] == s then(1,17)else(0,0)
def BZ (p:Int×Int):Prop:=(p.2==0)=(p.1==0)
end Go.Abs

/-! Ref3 -/

namespace Go.Abs
set_option maxRecDepth 8000
open Go.Proofs
theorem SU : ∀ (gS:Nat),gS<1000000→∀ x:Ex,x.size<4611686018427387904→∀ s:St,aD Tryz.prog nO [.agg (bL x), .int .i64 (gS:Int)] s (.int .i64 ((min x.depth (gS+1):Nat):Int)) s:=by
 intro gS
 induction gS with
 | zero=>
  rintro _ ⟨op,m,name,kids⟩ hx s
  refine aD.pure ?_ (by simp [D.bM,D.ok,iN]) rfl s
  have hz:((0:Int)==0)=true:=rfl
  have e:min (Ex.depth ⟨op,m,name,kids⟩) (0+1)=1:=by simp only [Ex.depth];omega
  rw [e]
  unfold S0
  refine aD.go vJ rfl fun B Q hB hQ=> ?_
  have⟨hD,hJ,hP,hY⟩:=bK
  repeat' (first
 | simp only [go_sem,hD,hJ,hP,hY,hz]
 | (with_reducible first | refine ax fun hc=> ?_ | refine ay fun hc=> ?_ | refine az (fun hc=> ?_) fun hc=> ?_) <;> (try simp only [hc,bs, ↓reduceIte]at h) <;> try simp only [hc]
 | (with_reducible refine aA hQ ?_;(try cases h);simp only [aE,aF,aN,aO,go_sem,hD,hJ,hP,hY,hz];try exact aQ)
 | (cases h;done))
 | succ gS ih=>
  rintro ajx ⟨op,m,name,kids⟩ hx s
  refine aD.pure ?_ (by simp [D.bM,D.ok,iN]) rfl s
  have hlen:kids.length<4611686018427387904:=by simp only [Ex.size]at hx;have:=Ex.c7 kids;omega
  have hk : ∀ y∈kids,∀ s,aD Tryz.prog nO [.agg (bL y), .int .i64 (gS:Int)] s (.int .i64 ((min y.depth (gS+1):Nat):Int)) s:=fun y hy s=>
   ih (by omega) y (by simp only [Ex.size]at hx;have:=Ex.bS hy;omega) s
  have hz:(((gS+1:Nat):Int)==0)=false:=by simp;omega
  have w1:IntKind.wrap .i64 (((gS+1:Nat):Int) - 1)=(gS:Int):=by rw [dE] <;> omega
  unfold S0
  refine aD.go vJ rfl fun B Q hB hQ=> ?_
  have⟨hD,hJ,hP,hY⟩:=bK
  repeat' (first
 | simp only [go_sem,hD,hJ,hP,hY,hz]
 | (with_reducible first | refine ax fun hc=> ?_ | refine ay fun hc=> ?_ | refine az (fun hc=> ?_) fun hc=> ?_) <;> (try simp only [hc,bs, ↓reduceIte]at h) <;> try simp only [hc]
 | (with_reducible refine aA hQ ?_;(try cases h);simp only [aE,aF,aN,aO,go_sem,hD,hJ,hP,hY,hz];try exact aQ)
 | (cases h;done))
  refine cP 1 0 (bl.ind (ι:=List Ex×Nat×Nat) (fun i=>kids.drop i.2.1=i.1∧i.2.2≤gS+1∧min (max i.2.2 (Ex.jd i.1)) (gS+1)=min (Ex.jd kids) (gS+1)) (fun i=>i.1.length)
   (fun i=> [(1, .int .i64 ((gS+1:Nat):Int)),(2, .ptr 0 0),(5, .int .i64 (i.2.2:Int)),(6, .int .i64 (i.2.1:Int))]) (fun i=>⟨[bL ⟨op,m,name,kids⟩],[]⟩) ?_ (kids,0,0) ⟨rfl,Nat.zero_le _,by simp⟩)
  rintro⟨rest,k,d⟩ ⟨h1,h2,h3⟩ IH
  dsimp only at h1 h2 h3
  have hd:min (Ex.depth ⟨op,m,name,kids⟩) (gS+1+1)=min (Ex.jd kids) (gS+1)+1:=by simp only [Ex.depth];omega
  rw [hd, ← h3]at hQ
  have w2:IntKind.wrap .i64 ((d:Int)+1)=((d+1:Nat):Int):=by rw [dE] <;> omega
  by_cases ajO:d<gS+1
  ·have c2:decide ((d:Int)<((gS+1:Nat):Int))=true:=by simp;omega
   cases rest with
   | nil=>
    have hD:=drop_nil h1
    simp only [Ex.jd,Nat.max_zero]at hQ
    have e:min d (gS+1)=d:=by omega
    rw [e]at hQ
    repeat' (first
 | simp only [go_sem,hD,hJ,hP,hY,c2,w2]
 | (with_reducible first | refine ax fun hc=> ?_ | refine ay fun hc=> ?_ | refine az (fun hc=> ?_) fun hc=> ?_) <;> (try simp only [hc,bs, ↓reduceIte]at h) <;> try simp only [hc]
 | (with_reducible refine aA hQ ?_;(try cases h);simp only [aE,aF,aN,aO,go_sem,hD,hJ,hP,hY,c2,w2];try exact aQ)
 | (cases h;done))
   | cons y rest=>
    obtain⟨hJ,g2,hD,g4⟩:=drop_cons h1
    have hy:=hk y (List.mem_of_getElem? hJ)
    simp only [Ex.jd]at h3
    have bf:k<4611686018427387904:=by omega
    by_cases hgt:min y.depth (gS+1) > d
    ·have c3:decide (((min y.depth (gS+1):Nat):Int) > (d:Int))=true:=by simp only [decide_eq_true_eq];omega
     repeat' (first
 | simp only [go_sem,hD,hJ,hP,hY,c2,w1,c3]
 | (with_reducible refine CU (hy _) ?_)
 | (with_reducible first | refine ax fun hc=> ?_ | refine ay fun hc=> ?_ | refine az (fun hc=> ?_) fun hc=> ?_) <;> (try simp only [hc,bs, ↓reduceIte]at h) <;> try simp only [hc]
 | (with_reducible refine aA hQ ?_;(try cases h);simp only [aE,aF,aN,aO,go_sem,hD,hJ,hP,hY,c2,w1,c3];try exact aQ)
 | (cases h;done))
     refine bX 1 0 ?_ ?_ (IH (rest,k+1,min y.depth (gS+1)) ⟨g2,by dsimp only;omega,by dsimp only;omega⟩ (Nat.lt_succ_self _))
     ·(simp only [go_sem,hD,hJ,hP,hY,au bf];try exact aT)
     ·(simp only [go_sem,hD,hJ,hP,hY,au bf];try exact aT)
    ·have c3:decide (((min y.depth (gS+1):Nat):Int) > (d:Int))=false:=by simp only [decide_eq_false_iff_not];omega
     repeat' (first
 | simp only [go_sem,hD,hJ,hP,hY,c2,w1,c3]
 | (with_reducible refine CU (hy _) ?_)
 | (with_reducible first | refine ax fun hc=> ?_ | refine ay fun hc=> ?_ | refine az (fun hc=> ?_) fun hc=> ?_) <;> (try simp only [hc,bs, ↓reduceIte]at h) <;> try simp only [hc]
 | (with_reducible refine aA hQ ?_;(try cases h);simp only [aE,aF,aN,aO,go_sem,hD,hJ,hP,hY,c2,w1,c3];try exact aQ)
 | (cases h;done))
     refine bX 1 0 ?_ ?_ (IH (rest,k+1,d) ⟨g2,h2,by dsimp only;omega⟩ (Nat.lt_succ_self _))
     ·(simp only [go_sem,hD,hJ,hP,hY,au bf];try exact aT)
     ·(simp only [go_sem,hD,hJ,hP,hY,au bf];try exact aT)
  ·have c2:decide ((d:Int)<((gS+1:Nat):Int))=false:=by simp;omega
   have e:min (max d (Ex.jd rest)) (gS+1)=d:=by omega
   rw [e]at hQ
   cases rest with
   | nil=>
    have hD:=drop_nil h1
    repeat' (first
 | simp only [go_sem,hD,hJ,hP,hY,c2,w2]
 | (with_reducible first | refine ax fun hc=> ?_ | refine ay fun hc=> ?_ | refine az (fun hc=> ?_) fun hc=> ?_) <;> (try simp only [hc,bs, ↓reduceIte]at h) <;> try simp only [hc]
 | (with_reducible refine aA hQ ?_;(try cases h);simp only [aE,aF,aN,aO,go_sem,hD,hJ,hP,hY,c2,w2];try exact aQ)
 | (cases h;done))
   | cons y rest=>
    obtain⟨hJ,g2,hD,g4⟩:=drop_cons h1
    repeat' (first
 | simp only [go_sem,hD,hJ,hP,hY,c2,w2]
 | (with_reducible first | refine ax fun hc=> ?_ | refine ay fun hc=> ?_ | refine az (fun hc=> ?_) fun hc=> ?_) <;> (try simp only [hc,bs, ↓reduceIte]at h) <;> try simp only [hc]
 | (with_reducible refine aA hQ ?_;(try cases h);simp only [aE,aF,aN,aO,go_sem,hD,hJ,hP,hY,c2,w2];try exact aQ)
 | (cases h;done))
end Go.Abs

/-! RefMay1 -/

namespace Go.Abs
set_option maxRecDepth 8000
open Go.Proofs
theorem pK (text:aH) (hl:text.length<4611686018427387904) (s:St):aD Tryz.prog gP [.str text] s (.bool (isName text)) s:=by
 refine aD.pure ?_ rfl rfl s
 unfold S0
 cases text with
 | nil=>
  have e:(([] : aH) == [])=true:=rfl
  refine aD.go vI rfl fun B Q hB hQ=> ?_
  have⟨hD,hJ,hP,hY⟩:=bK
  repeat' (first
 | simp only [go_sem,hD,hJ,hP,hY,e,isName]
 | (with_reducible first | refine ax fun hc=> ?_ | refine ay fun hc=> ?_ | refine az (fun hc=> ?_) fun hc=> ?_) <;> (try simp only [hc,bs, ↓reduceIte]at h) <;> try simp only [hc]
 | (with_reducible refine aA hQ ?_;(try cases h);simp only [aE,aF,aN,aO,go_sem,hD,hJ,hP,hY,e,isName];try exact aQ)
 | (cases h;done))
 | cons c r=>
  have e:((c::r) == [])=false:=rfl
  generalize h:isName (c::r)=p
  simp only [isName]at h
  refine aD.go vI rfl fun B Q hB hQ=> ?_
  have⟨hD,hJ,hP,hY⟩:=bK
  repeat' (first
 | simp only [go_sem,hD,hJ,hP,hY,e]
 | (with_reducible refine CU (Ek _ _) ?_)
 | (with_reducible first | refine ax fun hc=> ?_ | refine ay fun hc=> ?_ | refine az (fun hc=> ?_) fun hc=> ?_) <;> (try simp only [hc,bs, ↓reduceIte]at h) <;> try simp only [hc]
 | (with_reducible refine aA hQ ?_;(try cases h);simp only [aE,aF,aN,aO,go_sem,hD,hJ,hP,hY,e];try exact aQ)
 | (cases h;done))
  refine cP 0 0 (bl.ind (ι:=aH×Nat) (fun i=>(c::r).drop i.2=i.1∧(if rb i.1 then !(isWord (c::r))else false)=p) (fun i=>i.1.length)
   (fun i=> [(0, .str (c::r)),(3, .int .i64 (i.2:Int))]) (fun i=>⟨[],[]⟩) ?_ (r,1) ⟨rfl,h⟩)
  rintro⟨rest,k⟩ ⟨h1,h⟩ IH
  dsimp only at h1 h
  cases rest with
  | nil=>
   have hD:=drop_nil h1
   simp only [List.length_cons]at hD
   simp only [rb, ↓reduceIte]at h
   repeat' (first
 | simp only [go_sem,hD,hJ,hP,hY]
 | (with_reducible refine CU (QB _ _) ?_)
 | (with_reducible first | refine ax fun hc=> ?_ | refine ay fun hc=> ?_ | refine az (fun hc=> ?_) fun hc=> ?_) <;> (try simp only [hc,bs, ↓reduceIte]at h) <;> try simp only [hc]
 | (with_reducible refine aA hQ ?_;exact bx)
 | (cases h;done))
  | cons d rest=>
   obtain⟨hJ,g2,hD,g4⟩:=drop_cons h1
   simp only [List.length_cons]at hD
   have hP:k<4611686018427387904:=by omega
   simp only [rb]at h
   repeat' (first
 | simp only [go_sem,hD,hJ,hP,hY]
 | (with_reducible refine CU (Ek _ _) ?_)
 | (with_reducible refine CU (Nf _ _) ?_)
 | (with_reducible first | refine ax fun hc=> ?_ | refine ay fun hc=> ?_ | refine az (fun hc=> ?_) fun hc=> ?_) <;> (try simp only [hc,bs, ↓reduceIte]at h) <;> try simp only [hc]
 | (with_reducible refine aA hQ ?_;(try cases h);simp only [aE,aF,aN,aO,go_sem,hD,hJ,hP,hY];repeat' (first | exact Ok.out | with_reducible refine gA ?_ ?_ | (simp;done)))
 | (cases h;done))
   all_goals
    refine cP 0 0 (IH (rest,k+1) ⟨g2,h⟩ (Nat.lt_succ_self _))
theorem QD (op:Int) (s:St):aD Tryz.prog rT [.int .i64 op] s (.int .i64 (k8 op)) s:=by
 refine aD.pure ?_ rfl rfl s
 unfold S0
 generalize h:k8 op=p
 unfold k8 at h
 refine aD.go A1 rfl fun B Q hB hQ=> ?_
 have⟨hD,hJ,hP,hY⟩:=bK
 repeat' (first
 | simp only [go_sem,hD,hJ,hP,hY]
 | (with_reducible first | refine ax fun hc=> ?_ | refine ay fun hc=> ?_ | refine az (fun hc=> ?_) fun hc=> ?_) <;> (try simp only [hc,bs, ↓reduceIte]at h) <;> try simp only [hc]
 | (with_reducible refine aA hQ ?_;exact bx)
 | (cases h;done))
theorem va {l:List aH} (hl:l.length<4611686018427387904) (hs : ∀ t∈l,t.length<4611686018427387904) (s:St):aD Tryz.prog kZ [.slice .shared 1 (l.map encStr)] s (.bool (dm l)) s:=by
 refine aD.pure ?_ (by simp [D.bM,D.ok,dL,Tag.ok]) rfl s
 unfold S0
 generalize h:dm l=p
 refine aD.go AW rfl fun B Q hB hQ=> ?_
 have⟨hD,hJ,hP,hY⟩:=bK
 repeat' (first
 | simp only [go_sem,hD,hJ,hP,hY]
 | (with_reducible first | refine ax fun hc=> ?_ | refine ay fun hc=> ?_ | refine az (fun hc=> ?_) fun hc=> ?_) <;> (try simp only [hc,bs, ↓reduceIte]at h) <;> try simp only [hc]
 | (with_reducible refine aA hQ ?_;exact bx)
 | (cases h;done))
 refine cP 0 0 (bl.ind (ι:=List aH×Nat) (fun i=>l.drop i.2=i.1∧dm i.1=p) (fun i=>i.1.length)
  (fun i=> [(5, .slice .shared 1 (l.map encStr)),(6, .int .i64 (l.length:Int)),(7, .int .i64 (i.2:Int))]) (fun i=>⟨[],[]⟩) ?_ (l,0) ⟨rfl,h⟩)
 rintro⟨rest,k⟩ ⟨h1,h⟩ IH
 dsimp only at h1 h
 cases rest with
 | nil=>
  have hD:=drop_nil h1
  simp only [dm]at h
  repeat' (first
 | simp only [go_sem,hD,hJ,hP,hY]
 | (with_reducible first | refine ax fun hc=> ?_ | refine ay fun hc=> ?_ | refine az (fun hc=> ?_) fun hc=> ?_) <;> (try simp only [hc,bs, ↓reduceIte]at h) <;> try simp only [hc]
 | (with_reducible refine aA hQ ?_;exact bx)
 | (cases h;done))
 | cons t rest=>
  obtain⟨hJ,g2,hD,g4⟩:=drop_cons h1
  have hP:k<4611686018427387904:=by omega
  have hn:=pK t (hs t (List.mem_of_getElem? hJ))
  simp only [dm]at h
  repeat' (first
 | simp only [go_sem,hD,hJ,hP,hY]
 | (with_reducible refine CU (hn _) ?_)
 | (with_reducible first | refine ax fun hc=> ?_ | refine ay fun hc=> ?_ | refine az (fun hc=> ?_) fun hc=> ?_) <;> (try simp only [hc,bs, ↓reduceIte]at h) <;> try simp only [hc]
 | (with_reducible refine aA hQ ?_;exact bx)
 | (cases h;done))
  refine cP 0 0 (IH (rest,k+1) ⟨g2,h⟩ (Nat.lt_succ_self _))
theorem SV : ∀ (n:Nat) (x:Ex),x.size≤n→x.size<4611686018427387904→x.texts→∀ s:St,aD Tryz.prog nP [.agg (bL x)] s (.bool x.form) s:=by
 intro n
 induction n with
 | zero=>rintro⟨op,m,name,kids⟩ h;simp only [Ex.size]at h;omega
 | succ n ih=>
  rintro⟨op,m,name,kids⟩ h hx ht s
  refine aD.pure ?_ (by simp [D.bM,D.ok,iN]) rfl s
  have hlen:kids.length<4611686018427387904:=by simp only [Ex.size]at hx;have:=Ex.c7 kids;omega
  have hk : ∀ y∈kids,∀ s,aD Tryz.prog nP [.agg (bL y)] s (.bool y.form) s:=fun y hy s=>
   ih y (by simp only [Ex.size]at h;have:=Ex.bS hy;omega) (by simp only [Ex.size]at hx;have:=Ex.bS hy;omega) (Ex.BI ht hy) s
  have hn:=pK name ht.1
  unfold S0
  generalize h:Ex.form ⟨op,m,name,kids⟩=p
  simp only [Ex.form]at h
  refine aD.go CI rfl fun B Q hB hQ=> ?_
  have⟨hD,hJ,hP,hY⟩:=bK
  repeat' (first
 | simp only [go_sem,hD,hJ,hP,hY]
 | (with_reducible refine CU (QD _ _) ?_)
 | (with_reducible refine CU (hn _) ?_)
 | (with_reducible first | refine ax fun hc=> ?_ | refine ay fun hc=> ?_ | refine az (fun hc=> ?_) fun hc=> ?_) <;> (try simp only [hc,bs, ↓reduceIte]at h) <;> try simp only [hc]
 | (with_reducible refine aA hQ ?_;(try cases h);simp only [aE,aF,aN,aO,go_sem,hD,hJ,hP,hY];repeat' (first | exact Ok.out | with_reducible refine gA ?_ ?_ | (simp;done)))
 | (cases h;done))
  all_goals
   refine cP 1 0 (bl.ind (ι:=List Ex×Nat) (fun i=>kids.drop i.2=i.1∧Ex.ny i.1=p) (fun i=>i.1.length)
    (fun i=> [(1, .ptr 0 0),(48, .int .i64 (kids.length:Int)),(49, .int .i64 (i.2:Int))]) (fun i=>⟨[bL ⟨op,m,name,kids⟩],[]⟩) ?_ (kids,0) ⟨rfl,h⟩)
   rintro⟨rest,k⟩ ⟨h1,h⟩ IH
   dsimp only at h1 h
   cases rest with
   | nil=>
    have hD:=drop_nil h1
    simp only [Ex.ny]at h
    repeat' (first
 | simp only [go_sem,hD,hJ,hP,hY]
 | (with_reducible first | refine ax fun hc=> ?_ | refine ay fun hc=> ?_ | refine az (fun hc=> ?_) fun hc=> ?_) <;> (try simp only [hc,bs, ↓reduceIte]at h) <;> try simp only [hc]
 | (with_reducible refine aA hQ ?_;exact bx)
 | (cases h;done))
   | cons y rest=>
    obtain⟨hJ,g2,hD,g4⟩:=drop_cons h1
    have hy:=hk y (List.mem_of_getElem? hJ)
    have hP:k<4611686018427387904:=by omega
    simp only [Ex.ny]at h
    repeat' (first
 | simp only [go_sem,hD,hJ,hP,hY]
 | (with_reducible refine CU (hy _) ?_)
 | (with_reducible first | refine ax fun hc=> ?_ | refine ay fun hc=> ?_ | refine az (fun hc=> ?_) fun hc=> ?_) <;> (try simp only [hc,bs, ↓reduceIte]at h) <;> try simp only [hc]
 | (with_reducible refine aA hQ ?_;exact bx)
 | (cases h;done))
    refine cP 1 0 (IH (rest,k+1) ⟨g2,h⟩ (Nat.lt_succ_self _))
theorem wS {x:Ex} (hx:x.size<4611686018427387904) (ht:x.texts) (s:St):aD Tryz.prog kY [.agg (bL x)] s (.bool x.may) s:=by
 refine aD.pure ?_ (by simp [D.bM,D.ok,iN]) rfl s
 have hd:=fun s=>SU 20 (by decide) x hx s
 have c20:((20:Nat):Int)=20:=rfl
 rw [c20]at hd
 have hf:=SV _ x (Nat.le_refl _) hx ht
 unfold S0
 generalize h:Ex.may x=p
 unfold Ex.may at h
 refine aD.go yA rfl fun B Q hB hQ=> ?_
 have⟨hD,hJ,hP,hY⟩:=bK
 repeat' (first
 | simp only [go_sem,hD,hJ,hP,hY]
 | (with_reducible refine CU (hd _) ?_)
 | (with_reducible refine CU (hf _) ?_)
 | (with_reducible first | refine ax fun hc=> ?_ | refine ay fun hc=> ?_ | refine az (fun hc=> ?_) fun hc=> ?_) <;> (try simp only [hc,bs, ↓reduceIte]at h) <;> try simp only [hc]
 | (with_reducible refine aA hQ ?_;exact bx)
 | (cases h;done))
theorem Kw (x:Ex) (s:St):aD Tryz.prog p7 [.agg (bL x)] s (.bool x.none) s:=by
 refine aD.pure ?_ (by simp [D.bM,D.ok,iN]) rfl s
 unfold S0
 generalize h:Ex.none x=p
 unfold Ex.none at h
 refine aD.go CM rfl fun B Q hB hQ=> ?_
 have⟨hD,hJ,hP,hY⟩:=bK
 repeat' (first
 | simp only [go_sem,hD,hJ,hP,hY]
 | (with_reducible first | refine ax fun hc=> ?_ | refine ay fun hc=> ?_ | refine az (fun hc=> ?_) fun hc=> ?_) <;> (try simp only [hc,bs, ↓reduceIte]at h) <;> try simp only [hc]
 | (with_reducible refine aA hQ ?_;exact bx)
 | (cases h;done))
theorem V1 {a:Ar} (hx:a.x.size<4611686018427387904) (ht:a.x.texts) (hn:a.name.length<4611686018427387904) (s:St):aD Tryz.prog uZ [.agg (dt a)] s (.bool a.may) s:=by
 refine aD.pure ?_ (by simp [D.bM,D.ok,DW]) rfl s
 have hm:=wS hx ht
 have h1:=pK a.name hn
 unfold S0
 generalize h:Ar.may a=p
 simp only [Ar.may]at h
 refine aD.go Ej rfl fun B Q hB hQ=> ?_
 have⟨hD,hJ,hP,hY⟩:=bK
 repeat' (first
 | simp only [go_sem,hD,hJ,hP,hY]
 | (with_reducible refine CU (hm _) ?_)
 | (with_reducible refine CU (h1 _) ?_)
 | (with_reducible refine CU (Kw _ _) ?_)
 | (with_reducible first | refine ax fun hc=> ?_ | refine ay fun hc=> ?_ | refine az (fun hc=> ?_) fun hc=> ?_) <;> (try simp only [hc,bs, ↓reduceIte]at h) <;> try simp only [hc]
 | (with_reducible refine aA hQ ?_;exact bx)
 | (cases h;done))
end Go.Abs

/-! RefMay2 -/

namespace Go.Abs
set_option maxRecDepth 8000
open Go.Proofs
structure Sm.ik (s:Sm):Prop where
 Xk : ∀ t∈s.labels,t.length<4611686018427387904
 SW:s.labels.length<4611686018427387904
 name:s.name.length<4611686018427387904
 proc:s.proc.length<4611686018427387904
 x:s.x.size<4611686018427387904
 xt:s.x.texts
 SX:s.args.length<4611686018427387904
 arg : ∀ a∈s.args,a.x.size<4611686018427387904∧a.x.texts∧a.name.length<4611686018427387904
section
variable {v:Sm} {B:fY} {Q:Exit→Tm→St→Prop} {p:Bool}
theorem V2 (hf:v.ik) (hB:B.s = ⟨[],[]⟩) (hQ:kQ 0 0 [(2,none)] (.bool p) ⟨[],[]⟩=Q)
 (h:(if !(Ar.dz v.args)then false else((v.bp.length:Int)==0 || v.kind==5 || v.kind==6) && ((v.bc.length:Int)==0 || v.kind==5))=p) :
 Sem Tryz.prog B 178 SI Q [(1, .ptr 0 0)] ⟨[bn v],[]⟩:=by
 have ajy:=hf.SX
 have Ng:=fun a ha s=>V1 (hf.arg a ha).1 (hf.arg a ha).2.1 (hf.arg a ha).2.2 s
 have⟨hD,hJ,hP,hY⟩:=bK
 refine ib ?_
 repeat' (first
 | simp only [go_sem,hD,hJ,hP,hY]
 | (with_reducible first | refine ax fun hc=> ?_ | refine ay fun hc=> ?_ | refine az (fun hc=> ?_) fun hc=> ?_) <;> (try simp only [hc,bs, ↓reduceIte]at h) <;> try simp only [hc]
 | (with_reducible refine aA hQ ?_;exact bx)
 | (cases h;done))
 refine cP 1 0 (bl.ind (ι:=List Ar×Nat) (fun i=>v.args.drop i.2=i.1∧(if !(Ar.dz i.1)then false else((v.bp.length:Int)==0 || v.kind==5 || v.kind==6) && ((v.bc.length:Int)==0 || v.kind==5))=p) (fun i=>i.1.length)
  (fun i=> [(1, .ptr 0 0),(143, .slice .shared 6 (v.args.map dt)),(144, .int .i64 (v.args.length:Int)),(145, .int .i64 (i.2:Int))]) (fun i=>⟨[bn v],[]⟩) ?_ (v.args,0) ⟨rfl,h⟩)
 rintro⟨rest,k⟩ ⟨h1,h⟩ IH
 dsimp only at h1 h
 cases rest with
 | nil=>
  have hD:=drop_nil h1
  simp only [Ar.dz,Bool.not_true,Bool.false_eq_true, ↓reduceIte]at h
  repeat' (first
 | simp only [go_sem,hD,hJ,hP,hY]
 | (with_reducible first | refine ax fun hc=> ?_ | refine ay fun hc=> ?_ | refine az (fun hc=> ?_) fun hc=> ?_) <;> (try simp only [hc,bs, ↓reduceIte]at h) <;> try simp only [hc]
 | (with_reducible refine aA hQ ?_;(try cases h);simp only [aE,aF,aN,aO,go_sem,hD,hJ,hP,hY];repeat' (first | exact Ok.out | with_reducible refine gA ?_ ?_ | (simp;done)))
 | (cases h;done))
  all_goals
   simp only [*]
   exact Ok.out
 | cons a rest=>
  obtain⟨hJ,g2,hD,g4⟩:=drop_cons h1
  have ha:=Ng a (List.mem_of_getElem? hJ)
  have hP:k<4611686018427387904:=by omega
  simp only [Ar.dz]at h
  repeat' (first
 | simp only [go_sem,hD,hJ,hP,hY]
 | (with_reducible refine CU (ha _) ?_)
 | (with_reducible first | refine ax fun hc=> ?_ | refine ay fun hc=> ?_ | refine az (fun hc=> ?_) fun hc=> ?_) <;> (try simp only [hc,bs, ↓reduceIte]at h) <;> try simp only [hc]
 | (with_reducible refine aA hQ ?_;exact bx)
 | (cases h;done))
  refine cP 1 0 (IH (rest,k+1) ⟨g2,h⟩ (Nat.lt_succ_self _))
theorem V3 {cl:Bool} (hf:v.ik) (hB:B.s = ⟨[],[]⟩) (hQ:kQ 0 0 [(2,none)] (.bool p) ⟨[],[]⟩=Q)
 (h:(if !(cl == !(v.proc == [])) || (cl && !(isName v.proc)) || (!cl && decide ((v.args.length:Int) > 0))then false
  else if !(Ar.dz v.args)then false else((v.bp.length:Int)==0 || v.kind==5 || v.kind==6) && ((v.bc.length:Int)==0 || v.kind==5))=p) :
 Sem Tryz.prog B 178 SJ Q [(1, .ptr 0 0),(5, .bool cl)] ⟨[bn v],[]⟩:=by
 have V4:=pK v.proc hf.proc
 have⟨hD,hJ,hP,hY⟩:=bK
 refine Sem.lz ?_
 repeat' (first
 | simp only [go_sem,hD,hJ,hP,hY]
 | (with_reducible refine CU (V4 _) ?_)
 | (with_reducible first | refine ax fun hc=> ?_ | refine ay fun hc=> ?_ | refine az (fun hc=> ?_) fun hc=> ?_) <;> (try simp only [hc,bs, ↓reduceIte]at h) <;> try simp only [hc]
 | (with_reducible refine aA hQ ?_;(try cases h);simp only [aE,aF,aN,aO,go_sem,hD,hJ,hP,hY];repeat' (first | exact Ok.out | with_reducible refine gA ?_ ?_ | (simp;done)))
 | (cases h;done))
 all_goals
  refine Sem.re _ _ 1 0 (by rw [hB];exact mr rfl) (by rw [hB];exact mr rfl) ?_ ?_ (V2 hf hB hQ h)
  ·(simp only [go_sem,hD,hJ,hP,hY];repeat' (first | exact Ok.out | with_reducible refine gA ?_ ?_))
  ·(simp only [go_sem,hD,hJ,hP,hY];repeat' (first | exact Ok.out | with_reducible refine gA ?_ ?_))
theorem V5 {hn cl:Bool} (hf:v.ik) (hB:B.s = ⟨[],[]⟩) (hQ:kQ 0 0 [(2,none)] (.bool p) ⟨[],[]⟩=Q)
 (h:(if(hn && !(isName v.name)) || (!hn && !(v.name == []) && !(cl && isName v.name))then false
  else if !(cl == !(v.proc == [])) || (cl && !(isName v.proc)) || (!cl && decide ((v.args.length:Int) > 0))then false
  else if !(Ar.dz v.args)then false else((v.bp.length:Int)==0 || v.kind==5 || v.kind==6) && ((v.bc.length:Int)==0 || v.kind==5))=p) :
 Sem Tryz.prog B 178 SK Q [(1, .ptr 0 0),(4, .bool hn),(5, .bool cl)] ⟨[bn v],[]⟩:=by
 have Gs:=pK v.name hf.name
 have⟨hD,hJ,hP,hY⟩:=bK
 have k:=@V3 v B Q p cl hf hB hQ
 cases cl
 all_goals
  refine Sem.lz ?_
  repeat' (first
 | simp only [go_sem,hD,hJ,hP,hY]
 | (with_reducible refine CU (Gs _) ?_)
 | (with_reducible first | refine ax fun hc=> ?_ | refine ay fun hc=> ?_ | refine az (fun hc=> ?_) fun hc=> ?_) <;> (try simp only [hc,bs, ↓reduceIte]at h) <;> try simp only [hc]
 | (with_reducible refine aA hQ ?_;(try cases h);simp only [aE,aF,aN,aO,go_sem,hD,hJ,hP,hY];repeat' (first | exact Ok.out | with_reducible refine gA ?_ ?_ | (simp;done)))
 | (cases h;done))
 all_goals
  refine Sem.re _ _ 1 0 (by rw [hB];exact mr rfl) (by rw [hB];exact mr rfl) ?_ ?_ (k (by simpa only [bs, ↓reduceIte]using h))
  ·(simp only [go_sem,hD,hJ,hP,hY];repeat' (first | exact Ok.out | with_reducible refine gA ?_ ?_))
  ·(simp only [go_sem,hD,hJ,hP,hY];repeat' (first | exact Ok.out | with_reducible refine gA ?_ ?_))
theorem V6 {hx hn cl:Bool} (hf:v.ik) (hB:B.s = ⟨[],[]⟩) (hQ:kQ 0 0 [(2,none)] (.bool p) ⟨[],[]⟩=Q)
 (h:(if decide (v.kind<1) || decide (v.kind > 10) || !(dm v.labels) || (hx && !(v.x.may)) || (!hx && !(v.x.none)) || (v.has && v.kind != 9)then false
  else if(hn && !(isName v.name)) || (!hn && !(v.name == []) && !(cl && isName v.name))then false
  else if !(cl == !(v.proc == [])) || (cl && !(isName v.proc)) || (!cl && decide ((v.args.length:Int) > 0))then false
  else if !(Ar.dz v.args)then false else((v.bp.length:Int)==0 || v.kind==5 || v.kind==6) && ((v.bc.length:Int)==0 || v.kind==5))=p) :
 Sem Tryz.prog B 178 SL Q [(1, .ptr 0 0),(3, .bool hx),(4, .bool hn),(5, .bool cl)] ⟨[bn v],[]⟩:=by
 have hns:=fun s=>va hf.SW hf.Xk s
 have hm:=wS hf.x hf.xt
 have⟨hD,hJ,hP,hY⟩:=bK
 refine Sem.lz ?_
 repeat' (first
 | simp only [go_sem,hD,hJ,hP,hY]
 | (with_reducible refine CU (hns _) ?_)
 | (with_reducible refine CU (hm _) ?_)
 | (with_reducible refine CU (Kw _ _) ?_)
 | (with_reducible first | refine ax fun hc=> ?_ | refine ay fun hc=> ?_ | refine az (fun hc=> ?_) fun hc=> ?_) <;> (try simp only [hc,bs, ↓reduceIte]at h) <;> try simp only [hc]
 | (with_reducible refine aA hQ ?_;(try cases h);simp only [aE,aF,aN,aO,go_sem,hD,hJ,hP,hY];repeat' (first | exact Ok.out | with_reducible refine gA ?_ ?_ | (simp;done)))
 | (cases h;done))
 all_goals
  refine Sem.re _ _ 1 0 (by rw [hB];exact mr rfl) (by rw [hB];exact mr rfl) ?_ ?_ (V5 hf hB hQ h)
  ·(simp only [go_sem,hD,hJ,hP,hY];repeat' (first | exact Ok.out | with_reducible refine gA ?_ ?_))
  ·(simp only [go_sem,hD,hJ,hP,hY];repeat' (first | exact Ok.out | with_reducible refine gA ?_ ?_))
theorem V7 {hx hn:Bool} (hf:v.ik) (hB:B.s = ⟨[],[]⟩) (hQ:kQ 0 0 [(2,none)] (.bool p) ⟨[],[]⟩=Q) (ex:v.wR=hx) (en:v.hasName=hn) (h:v.one=p) :
 Sem Tryz.prog B 178 SM Q [(1, .ptr 0 0),(3, .bool hx),(4, .bool hn)] ⟨[bn v],[]⟩:=by
 unfold Sm.one at h
 rw [ex,en]at h
 have⟨hD,hJ,hP,hY⟩:=bK
 refine Sem.lz ?_
 repeat' (first
 | simp only [go_sem,hD,hJ,hP,hY]
 | (with_reducible first | refine ax fun hc=> ?_ | refine ay fun hc=> ?_ | refine az (fun hc=> ?_) fun hc=> ?_) <;> (try simp only [hc,bs, ↓reduceIte]at h) <;> try simp only [hc]
 | (with_reducible refine aA hQ ?_;exact bx)
 | (cases h;done))
 refine Sem.re _ _ 1 0 (by rw [hB];exact mr rfl) (by rw [hB];exact mr rfl) ?_ ?_ (V6 hf hB hQ h)
 ·(simp only [go_sem,hD,hJ,hP,hY,Sm.qo];repeat' (first | exact Ok.out | with_reducible refine gA ?_ ?_))
 ·(simp only [go_sem,hD,hJ,hP,hY,Sm.qo];repeat' (first | exact Ok.out | with_reducible refine gA ?_ ?_))
theorem V8 {hx:Bool} (hf:v.ik) (hB:B.s = ⟨[],[]⟩) (hQ:kQ 0 0 [(2,none)] (.bool p) ⟨[],[]⟩=Q) (ex:v.wR=hx) (hp:v.one=p) :
 Sem Tryz.prog B 178 SN Q [(1, .ptr 0 0),(3, .bool hx)] ⟨[bn v],[]⟩:=by
 generalize h:v.hasName=hn
 have hn:=h
 unfold Sm.hasName at h
 have⟨hD,hJ,hP,hY⟩:=bK
 refine Sem.lz ?_
 repeat' (first
 | simp only [go_sem,hD,hJ,hP,hY]
 | (with_reducible first | refine ax fun hc=> ?_ | refine ay fun hc=> ?_ | refine az (fun hc=> ?_) fun hc=> ?_) <;> (try simp only [hc,bs, ↓reduceIte]at h) <;> try simp only [hc]
 | (with_reducible refine aA hQ ?_;(try cases h);simp only [aE,aF,aN,aO,go_sem,hD,hJ,hP,hY];repeat' (first | exact Ok.out | with_reducible refine gA ?_ ?_ | (simp;done)))
 | (cases h;done))
 all_goals
  refine Sem.re _ _ 1 0 (by rw [hB];exact mr rfl) (by rw [hB];exact mr rfl) ?_ ?_ (V7 hf hB hQ ex hn hp)
  ·(simp only [go_sem,hD,hJ,hP,hY,h];repeat' (first | exact Ok.out | with_reducible refine gA ?_ ?_))
  ·(simp only [go_sem,hD,hJ,hP,hY,h];repeat' (first | exact Ok.out | with_reducible refine gA ?_ ?_))
theorem V9 (hf:v.ik) (hB:B.s = ⟨[],[]⟩) (hQ:kQ 0 0 [(2,none)] (.bool p) ⟨[],[]⟩=Q) (hp:v.one=p) :
 Sem Tryz.prog B 178 SO Q [(1, .ptr 0 0)] ⟨[bn v],[]⟩:=by
 generalize h:v.wR=hx
 have ex:=h
 unfold Sm.wR at h
 have⟨hD,hJ,hP,hY⟩:=bK
 refine Sem.lz ?_
 repeat' (first
 | simp only [go_sem,hD,hJ,hP,hY]
 | (with_reducible first | refine ax fun hc=> ?_ | refine ay fun hc=> ?_ | refine az (fun hc=> ?_) fun hc=> ?_) <;> (try simp only [hc,bs, ↓reduceIte]at h) <;> try simp only [hc]
 | (with_reducible refine aA hQ ?_;(try cases h);simp only [aE,aF,aN,aO,go_sem,hD,hJ,hP,hY];repeat' (first | exact Ok.out | with_reducible refine gA ?_ ?_ | (simp;done)))
 | (cases h;done))
 all_goals
  refine Sem.re _ _ 1 0 (by rw [hB];exact mr rfl) (by rw [hB];exact mr rfl) ?_ ?_ (V8 hf hB hQ ex hp)
  ·(simp only [go_sem,hD,hJ,hP,hY,h];repeat' (first | exact Ok.out | with_reducible refine gA ?_ ?_))
  ·(simp only [go_sem,hD,hJ,hP,hY,h];repeat' (first | exact Ok.out | with_reducible refine gA ?_ ?_))
end
theorem aD.Xl {P:Program} {f:FuncId} {nt:Nat} {res:List (Nat×Option (Bool×Nat))} {body:AC} {args:List D} {s:St} {d:D} {s':St} (h0:Has P f nt res body) (hl:Nat.ble args.length nt=true)
 (h : ∀ (B:fY) (Q:Exit→Tm→St→Prop),B.s=s→kQ s.aw.length s.aB.length res d s'=Q→Sem P B nt body Q (mn 0 args) s):aD P f args s d s':=by
 obtain⟨fn,hf,hc⟩:=h0
 exact aD.intro ⟨fn,hf,hc⟩ (Nat.le_of_ble_eq_true hl) fun B hB=>h B _ hB rfl
theorem Wa {v:Sm} (hf:v.ik) (s:St):aD Tryz.prog uY [.agg (bn v)] s (.bool v.one) s:=by
 refine aD.pure ?_ (by simp [D.bM,D.ok,kV]) rfl s
 unfold S0
 refine aD.Xl Ei rfl fun B Q hB hQ=> ?_
 have⟨hD,hJ,hP,hY⟩:=bK
 refine Sem.lz ?_
 repeat' (first
 | simp only [go_sem,hD,hJ,hP,hY]
 | (with_reducible first | refine ax fun hc=> ?_ | refine ay fun hc=> ?_ | refine az (fun hc=> ?_) fun hc=> ?_) <;> (try simp only [hc,bs, ↓reduceIte]at h) <;> try simp only [hc]
 | (with_reducible refine aA hQ ?_;exact bx)
 | (cases h;done))
 refine Sem.re _ _ 1 0 (by rw [hB];exact mr rfl) (by rw [hB];exact mr rfl) ?_ ?_ (V9 hf hB hQ rfl)
 ·(simp only [go_sem,hD,hJ,hP,hY];repeat' (first | exact Ok.out | with_reducible refine gA ?_ ?_))
 ·(simp only [go_sem,hD,hJ,hP,hY];repeat' (first | exact Ok.out | with_reducible refine gA ?_ ?_))
end Go.Abs

/-! Flat1 -/

namespace Go.Abs
set_option maxRecDepth 8000
open Go.Proofs
def e8 (i:Im):List D:= [.int .i64 i.s.id, .int .i64 i.s.kind, .slice .shared 1 (i.s.labels.map encStr), .str i.s.name, .str i.s.proc,
 .int .i64 i.s.x.op, .int .i64 i.s.x.n, .str i.s.x.name, .slice .shared 4 (i.s.x.kids.map bL), .bool i.s.has, .slice .shared 6 (i.s.args.map dt), .slice .shared 13 (i.s.bp.map bn), .slice .shared 13 (i.s.bc.map bn), .int .i64 i.proc, .int .i64 i.up, .int .i64 i.next, .int .i64 i.loop]
def fV (n:Int):List D:= [.int .i64 n]
theorem Nh (i:Im):D.bM 0 0 (e8 i)=true:=by simp [e8,D.bM,D.ok,Tag.ok,dL,O4,CZ,q8]
theorem C1 (l:List Im):D.jb 0 0 (l.map e8)=true:=fZ Nh l
theorem Px (n m:Nat) (l:List Im):D.ja n m (l.map e8)=l.map e8:=kU Nh n m l
theorem Wb (n m:Nat) (i:Im):D.gd n m (e8 i)=e8 i:=gp n m _ (Nh i)
theorem Wc (x:Im):(e8 x).length=17:=nd rfl
theorem QE (x:Im):List.take 17 (e8 x)=e8 x:=nd rfl
theorem SY (x:Im):List.drop 17 (e8 x) = []:=nd rfl
theorem SZ (x:Im):List.take 13 (e8 x)=bn x.s:=by simp only [e8,cB];rfl
theorem Ni (x:Im):(e8 x)[0]? = some (.int .i64 x.s.id):=nd rfl
theorem Nj (x:Im):(e8 x)[1]? = some (.int .i64 x.s.kind):=nd rfl
theorem Nk (x:Im):(e8 x)[4]? = some (.str x.s.proc):=nd rfl
theorem Kx (x:Im):(e8 x)[13]? = some (.int .i64 x.proc):=nd rfl
theorem Ky (x:Im):(e8 x)[14]? = some (.int .i64 x.up):=nd rfl
theorem Kz (x:Im):(e8 x)[15]? = some (.int .i64 x.next):=nd rfl
theorem KA (x:Im):(e8 x)[16]? = some (.int .i64 x.loop):=nd rfl
theorem IK (s:Sm) (a b c d:Int):e8 ⟨s,a,b,c,d⟩ = [.int .i64 s.id, .int .i64 s.kind, .slice .shared 1 (s.labels.map encStr), .str s.name, .str s.proc,
 .int .i64 s.x.op, .int .i64 s.x.n, .str s.x.name, .slice .shared 4 (s.x.kids.map bL), .bool s.has, .slice .shared 6 (s.args.map dt), .slice .shared 13 (s.bp.map bn), .slice .shared 13 (s.bc.map bn), .int .i64 a, .int .i64 b, .int .i64 c, .int .i64 d]:=nd rfl
theorem Py (n:Int):D.bM 0 0 (fV n)=true:=rfl
theorem rY (l:List Int):D.jb 0 0 (l.map fV)=true:=fZ Py l
theorem KB (n m:Nat) (l:List Int):D.ja n m (l.map fV)=l.map fV:=kU Py n m l
attribute [go_sem] Px Wb Wc QE SY SZ Ni Nj Nk Kx Ky Kz KA KB fV
theorem S1 : ∀ n,n<1000000000→∀ v:Sm,v.size≤n→aD Tryz.prog kp [.agg (bn v)] S0 (.int .i64 (v.iF:Int)) S0:=by
 intro n
 induction n with
 | zero=>intro _ v h;obtain⟨_,_,_,_,_,_,_,_,_,_⟩:=v;simp only [Sm.size]at h;omega
 | succ n ih=>
 intro hn v hv
 have ek:Sm.aU v.bp≤n∧Sm.aU v.bc≤n∧v.iF=1+Sm.ig v.bp+Sm.ig v.bc:=by
  obtain⟨_,_,_,_,_,_,_,_,_,_⟩:=v
  simp only [Sm.size]at hv;exact⟨by dsimp only;omega,by dsimp only;omega,rfl⟩
 obtain⟨h1,h2,h3⟩:=ek
 have c1:=mT v.bp
 have c2:=mT v.bc
 have l1:=Sm.c7 v.bp
 have l2:=Sm.c7 v.bc
 have hk : ∀ y,y∈v.bp∨y∈v.bc→∀ s,aD Tryz.prog kp [.agg (bn y)] s (.int .i64 (y.iF:Int)) s:=fun y hy s=>
  (ih (by omega) y (by rcases hy with hy | hy <;> (have:=Sm.bS hy;omega))).pure (by simp only [D.bM,D.ok,kV];rfl) rfl s
 rw [h3]
 unfold S0
 refine aD.go CH rfl fun B Q hB hQ=> ?_
 have⟨hD,hJ,hP,hY⟩:=bK
 repeat' (first
 | simp only [go_sem,hD,hJ,hP,hY]
 | (with_reducible first | refine ax fun hc=> ?_ | refine ay fun hc=> ?_ | refine az (fun hc=> ?_) fun hc=> ?_) <;> (try simp only [hc,bs, ↓reduceIte]at h) <;> try simp only [hc]
 | (with_reducible refine aA hQ ?_;exact bx)
 | (cases h;done))
 refine cP 1 0 (bl.ind (ι:=List Sm×Nat×Nat) (fun i=>v.bp.drop i.2.1=i.1∧i.2.2+Sm.ig i.1=1+Sm.ig v.bp) (fun i=>i.1.length)
  (fun i=> [(1, .ptr 0 0),(3, .int .i64 (i.2.2:Int)),(9, .slice .shared 13 (v.bp.map bn)),(10, .int .i64 (v.bp.length:Int)),(11, .int .i64 (i.2.1:Int))]) (fun i=>⟨[bn v],[]⟩) ?_ (v.bp,0,1) ⟨rfl,rfl⟩)
 rintro⟨rest,k,c⟩ ⟨g1,g2⟩ IH
 dsimp only at g1 g2
 cases rest with
 | cons y rest=>
  obtain⟨hJ,g3,hD,g4⟩:=drop_cons g1
  have hy:=hk y (.inl (List.mem_of_getElem? hJ))
  simp only [Sm.ig]at g2
  have hcy:=yq y
  have Ot:=Sm.bS (List.mem_of_getElem? hJ)
  have w1:IntKind.wrap .i64 ((k:Int)+1)=((k+1:Nat):Int):=by rw [dE] <;> omega
  have w2:IntKind.wrap .i64 ((c:Int)+(y.iF:Int))=((c+y.iF:Nat):Int):=by rw [dE] <;> omega
  repeat' (first
 | simp only [go_sem,hD,hJ,hP,hY,w1,w2]
 | (with_reducible refine CU (hy _) ?_)
 | (with_reducible first | refine ax fun hc=> ?_ | refine ay fun hc=> ?_ | refine az (fun hc=> ?_) fun hc=> ?_) <;> (try simp only [hc,bs, ↓reduceIte]at h) <;> try simp only [hc]
 | (with_reducible refine aA hQ ?_;(try cases h);simp only [aE,aF,aN,aO,go_sem,hD,hJ,hP,hY,w1,w2];try exact aQ)
 | (cases h;done))
  refine cP 1 0 (IH (rest,k+1,c+y.iF) ⟨g3,by dsimp only;omega⟩ (Nat.lt_succ_self _))
 | nil=>
  have hD:=drop_nil g1
  simp only [Sm.ig,Nat.add_zero]at g2
  subst g2
  repeat' (first
 | simp only [go_sem,hD,hJ,hP,hY]
 | (with_reducible first | refine ax fun hc=> ?_ | refine ay fun hc=> ?_ | refine az (fun hc=> ?_) fun hc=> ?_) <;> (try simp only [hc,bs, ↓reduceIte]at h) <;> try simp only [hc]
 | (with_reducible refine aA hQ ?_;exact bx)
 | (cases h;done))
  refine cP 1 0 (bl.ind (ι:=List Sm×Nat×Nat) (fun i=>v.bc.drop i.2.1=i.1∧i.2.2+Sm.ig i.1=1+Sm.ig v.bp+Sm.ig v.bc) (fun i=>i.1.length)
   (fun i=> [(1, .ptr 0 0),(3, .int .i64 (i.2.2:Int)),(21, .slice .shared 13 (v.bc.map bn)),(22, .int .i64 (v.bc.length:Int)),(23, .int .i64 (i.2.1:Int))]) (fun i=>⟨[bn v],[]⟩) ?_ (v.bc,0,1+Sm.ig v.bp) ⟨rfl,rfl⟩)
  rintro⟨rest,k,c⟩ ⟨g1,g2⟩ IH
  dsimp only at g1 g2
  cases rest with
  | cons y rest=>
   obtain⟨hJ,g3,hD,g4⟩:=drop_cons g1
   have hy:=hk y (.inr (List.mem_of_getElem? hJ))
   simp only [Sm.ig]at g2
   have hcy:=yq y
   have Ot:=Sm.bS (List.mem_of_getElem? hJ)
   have w1:IntKind.wrap .i64 ((k:Int)+1)=((k+1:Nat):Int):=by rw [dE] <;> omega
   have w2:IntKind.wrap .i64 ((c:Int)+(y.iF:Int))=((c+y.iF:Nat):Int):=by rw [dE] <;> omega
   repeat' (first
 | simp only [go_sem,hD,hJ,hP,hY,w1,w2]
 | (with_reducible refine CU (hy _) ?_)
 | (with_reducible first | refine ax fun hc=> ?_ | refine ay fun hc=> ?_ | refine az (fun hc=> ?_) fun hc=> ?_) <;> (try simp only [hc,bs, ↓reduceIte]at h) <;> try simp only [hc]
 | (with_reducible refine aA hQ ?_;(try cases h);simp only [aE,aF,aN,aO,go_sem,hD,hJ,hP,hY,w1,w2];try exact aQ)
 | (cases h;done))
   refine cP 1 0 (IH (rest,k+1,c+y.iF) ⟨g3,by dsimp only;omega⟩ (Nat.lt_succ_self _))
  | nil=>
   have hD:=drop_nil g1
   simp only [Sm.ig,Nat.add_zero]at g2
   subst g2
   repeat' (first
 | simp only [go_sem,hD,hJ,hP,hY]
 | (with_reducible first | refine ax fun hc=> ?_ | refine ay fun hc=> ?_ | refine az (fun hc=> ?_) fun hc=> ?_) <;> (try simp only [hc,bs, ↓reduceIte]at h) <;> try simp only [hc]
 | (with_reducible refine aA hQ ?_;exact bx)
 | (cases h;done))
theorem S2 {v:Sm} (h:v.size<1000000000) (s:St):aD Tryz.prog kp [.agg (bn v)] s (.int .i64 (v.iF:Int)) s:=
 (S1 v.size h v (Nat.le_refl _)).pure (by simp only [D.bM,D.ok,kV];rfl) rfl s
end Go.Abs

/-! Flat2 -/

namespace Go.Abs
set_option maxRecDepth 8000
open Go.Proofs
abbrev gb (g ps:D) (L:List Im) (lo hi:List Int):List D:= [g,ps, .slice (.tok 0) 17 (L.map e8), .slice (.tok 1) 1 (lo.map fV), .slice (.tok 2) 1 (hi.map fV)]
abbrev Nl (proc up next loop:Int):List D:= [.int .i64 0, .int .i64 0, .slice .full 0 [], .str [], .str [], .int .i64 0, .int .i64 0, .str [], .slice .full 0 [], .bool false, .slice .full 0 [], .slice .full 0 [], .slice .full 0 [], .int .i64 proc, .int .i64 up, .int .i64 next, .int .i64 loop]
theorem aD.Wd {P:Program} {f:Nat} {args:List D} {g ps:D} {L L':List Im} {lo hi Bu hZ:List Int} {a b c a' b' c':Option Nat}
 (h:aD P f (.ptr 0 0::args) ⟨[gb g ps L lo hi],[a,b,c]⟩ (.tuple []) ⟨[gb g ps L' Bu hZ],[a',b',c']⟩)
 (ha:D.bM 0 0 args=true) (hg:D.ok 0 0 g=true) (hp:D.ok 0 0 ps=true)
 {s:St} {o:Nat} (ho:s.aw[o]? = some (gb g ps L lo hi)) (ht:s.aB = [a,b,c]):aD P f (.ptr o 0::args) s (.tuple []) ⟨s.aw.set o (gb g ps L' Bu hZ),[a',b',c']⟩:=by
 have hr : ∀ (L:List Im) (lo hi:List Int),D.fR [o] [0,1,2] (gb g ps L lo hi)=gb g ps L lo hi:=fun L lo hi=>by
  simp [D.fR,D.dI,Tag.dI,pH _ _ _ hg,pH _ _ _ hp,ln _ _ _ (C1 L),ln _ _ _ (rY lo),ln _ _ _ (rY hi)]
 have hk : ∀ (L:List Im) (lo hi:List Int),D.bM 1 3 (gb g ps L lo hi)=true:=fun L lo hi=>by
  simp [D.bM,D.ok,Tag.ok,Av (Nat.zero_le 1) (Nat.zero_le 3) _ hg,Av (Nat.zero_le 1) (Nat.zero_le 3) _ hp,n8 (Nat.zero_le 1) (Nat.zero_le 3) _ (C1 L),n8 (Nat.zero_le 1) (Nat.zero_le 3) _ (rY lo),n8 (Nat.zero_le 1) (Nat.zero_le 3) _ (rY hi)]
 refine ej.frame [o] [0,1,2] h (by simp) (by decide) (by simpa using (List.getElem?_eq_some_iff.1 ho).1) (by rw [ht];simp) rfl (fun i o' ds e1 e2=> ?_) rfl (fun i t' e1=> ?_)
  (by simp [D.fR,D.dI,fS _ _ _ ha])
  (by simp [D.bM,D.ok,iW (Nat.zero_le 1) (Nat.zero_le 3) _ ha]) ?_
 ·cases i with
  | zero=>simp only [List.getElem?_cons_zero,Option.some.injEq]at e1 e2;subst e1;subst e2;exact⟨by rw [hr];exact ho,hk L lo hi⟩
  | succ i=>simp at e1
 ·rw [ht]
  match i,e1 with
  | 0,e1=>simp at e1;subst e1;rfl
  | 1,e1=>simp at e1;subst e1;rfl
  | 2,e1=>simp at e1;subst e1;rfl
  | i+3,e1=>simp at e1
 ·rintro _ _ ⟨rfl,rfl⟩
  refine⟨by simp [D.back,D.dI,D.fR], ?_⟩
  have:=hr L' Bu hZ
  simp [St.back,jD,jU,this,ht]
abbrev Pz (N:Nat):Prop:=∀ (l:List Sm) (proc up next loop:Int) (out:List Im) (g ps:D) (lo hi:List Int) (b c:Option Nat),Sm.aU l<N→out.length+Sm.ig l<1000000000→D.ok 0 0 g=true→D.ok 0 0 ps=true→
 ∀ {s:St} {o:Nat},s.aw[o]? = some (gb g ps out lo hi)→s.aB = [some out.length,b,c]→
 aD Tryz.prog iD [.ptr o 0, .slice .shared 13 (l.map bn), .agg (Nl proc up next loop)] s (.tuple []) ⟨s.aw.set o (gb g ps (Im.rows proc up next loop out l) lo hi),[some (Im.rows proc up next loop out l).length,b,c]⟩
theorem Wf {N:Nat} (ih:Pz N) {l:List Sm} {proc up next loop:Int} {out:List Im} {g ps:D} {lo hi:List Int} {b c:Option Nat} (hs:Sm.aU l<N+1) (hc:out.length+Sm.ig l<1000000000) (hg:D.ok 0 0 g=true) (hp:D.ok 0 0 ps=true) (hN:N<1000000000) :
 aD Tryz.prog iD [.ptr 0 0, .slice .shared 13 (l.map bn), .agg (Nl proc up next loop)] ⟨[gb g ps out lo hi],[some out.length,b,c]⟩ (.tuple []) ⟨[gb g ps (Im.rows proc up next loop out l) lo hi],[some (Im.rows proc up next loop out l).length,b,c]⟩:=by
 obtain⟨R,hR⟩ : ∃ R,R=Im.rows proc up next loop out l:=⟨_,rfl⟩
 have hlR:R.length=out.length+Sm.ig l:=by rw [hR,fC]
 rw [← hR]
 have k1 : ∀ n m,D.fg n m g=g:=fun n m=>Ig n m _ hg
 have k2 : ∀ n m,D.fg n m ps=ps:=fun n m=>Ig n m _ hp
 refine aD.go wQ rfl fun B Q hB hQ=> ?_
 have⟨hD,hJ,hP,hY⟩:=bK
 repeat' (first
 | simp only [go_sem,hD,hJ,hP,hY,k1,k2]
 | (with_reducible first | refine ax fun hc=> ?_ | refine ay fun hc=> ?_ | refine az (fun hc=> ?_) fun hc=> ?_) <;> (try simp only [hc,bs, ↓reduceIte]at h) <;> try simp only [hc]
 | (with_reducible refine aA hQ ?_;(try cases h);simp only [aE,aF,aN,aO,go_sem,hD,hJ,hP,hY,k1,k2];try exact aQ)
 | (cases h;done))
 refine bX 2 3 ?_ ?_ (bl.ind (ι:=List Sm×Nat×List Im) (fun i=>l.drop i.2.1=i.1∧Im.rows proc up next loop i.2.2 i.1=R∧i.2.2.length+Sm.ig i.1=out.length+Sm.ig l) (fun i=>i.1.length)
  (fun i=> [(0, .ptr 0 0),(1, .slice .shared 13 (l.map bn)),(5, .ptr 1 0),(11, .slice .shared 13 (l.map bn)),(12, .int .i64 (l.length:Int)),(13, .int .i64 (i.2.1:Int))]) (fun i=>⟨[gb g ps i.2.2 lo hi,Nl proc up next loop],[some i.2.2.length,b,c]⟩) ?_ (l,0,out) ⟨rfl,hR.symm,rfl⟩)
 ·(simp only [go_sem,hD,hJ,hP,hY,k1,k2];try exact aT)
 ·(simp only [go_sem,hD,hJ,hP,hY,k1,k2];try exact aT)
 rintro⟨rest,k,bo⟩ ⟨h1,h2,h3⟩ IH
 dsimp only at h1 h2 h3
 have hlen:l.length<1000000000:=by have:=Sm.c7 l;omega
 cases rest with
 | nil=>
  have hD:=drop_nil h1
  simp only [Im.rows]at h2
  subst h2
  repeat' (first
 | simp only [go_sem,hD,hJ,hP,hY,k1,k2]
 | (with_reducible first | refine ax fun hc=> ?_ | refine ay fun hc=> ?_ | refine az (fun hc=> ?_) fun hc=> ?_) <;> (try simp only [hc,bs, ↓reduceIte]at h) <;> try simp only [hc]
 | (with_reducible refine aA hQ ?_;(try cases h);simp only [aE,aF,aN,aO,go_sem,hD,hJ,hP,hY,k1,k2];try exact aQ)
 | (cases h;done))
 | cons v rest=>
  obtain⟨hJ,g2,hD,g4⟩:=drop_cons h1
  have bf:k<4611686018427387904:=by omega
  have hv:=Sm.bS (List.mem_of_getElem? hJ)
  have mO:Sm.aU v.bp<N∧Sm.aU v.bc<N∧v.iF=1+Sm.ig v.bp+Sm.ig v.bc:=by
   obtain⟨_,_,_,_,_,_,_,_,_,_⟩:=v
   simp only [Sm.size]at hv
   exact⟨by dsimp only;omega,by dsimp only;omega,rfl⟩
  obtain⟨zj,Dp,hv3⟩:=mO
  simp only [Sm.ig]at h3
  simp only [Im.rows,Im.SB]at h2
  have hP:(bo.length+1)*241≤bk:=by unfold bk;omega
  have wT:IntKind.wrap .i64 ((bo.length:Int)+1)=(bo.length:Int)+1:=dE (by omega) (by omega)
  have oY:IntKind.wrap .i64 ((k:Int)+1)=((k+1:Nat):Int):=by rw [dE] <;> omega
  have BJ:IntKind.wrap .i64 ((bo.length:Int)+1+(v.iF:Int))=(bo.length:Int)+1+(v.iF:Int):=dE (by omega) (by omega)
  have ek:=fun s=>S2 (v:=v) (by omega) s
  simp only [cB]at ek
  have Jj:rest.length=l.length - (k+1):=by rw [← g2,List.length_drop]
  by_cases ajz:k+1<l.length
  ·have d1:decide (((k+1:Nat):Int)<(l.length:Int))=true:=by simp;omega
   have e1:(rest.length=0)=False:=by simp;intro h;rw [h]at Jj;simp at Jj;omega
   by_cases KD:v.kind=6
   ·have d2:(v.kind==6)=true:=by simp [KD]
    simp only [e1,d2, ↓reduceIte,Bool.false_eq_true]at h2
    have f1:=fun {s:St} {o:Nat}=>@ih v.bp proc ((bo.length:Int)+1) ((bo.length:Int)+1) ((bo.length:Int)+1) (bo++ [⟨v,proc,up,((bo.length:Int)+1+(v.iF:Int)),loop⟩]) g ps lo hi b c zj (by simp;omega) hg hp s o
    have f2:=fun {s:St} {o:Nat}=>@ih v.bc proc ((bo.length:Int)+1) ((bo.length:Int)+1) ((bo.length:Int)+1) _ g ps lo hi b c Dp (by rw [fC proc ((bo.length:Int)+1) ((bo.length:Int)+1) ((bo.length:Int)+1) (bo++ [⟨v,proc,up,((bo.length:Int)+1+(v.iF:Int)),loop⟩]) v.bp];simp;omega) hg hp s o
    have hl:(Im.rows proc ((bo.length:Int)+1) ((bo.length:Int)+1) ((bo.length:Int)+1) (Im.rows proc ((bo.length:Int)+1) ((bo.length:Int)+1) ((bo.length:Int)+1) (bo++ [⟨v,proc,up,((bo.length:Int)+1+(v.iF:Int)),loop⟩]) v.bp) v.bc).length=bo.length+v.iF:=by rw [fC,fC];simp;omega
    simp only [gb,List.map_append,List.map_cons,List.map_nil,IK,List.length_append,List.length_cons,List.length_nil]at f1
    repeat' (first
 | simp only [go_sem,hD,hJ,hP,hY,k1,k2,wT,oY,BJ,d1,d2,cB]
 | (with_reducible refine CU (ek _) ?_)
 | (with_reducible refine CU (f1 (by with_unfolding_all rfl) (by with_unfolding_all rfl)) ?_)
 | (with_reducible refine CU (f2 (by with_unfolding_all rfl) (by with_unfolding_all rfl)) ?_)
 | (with_reducible first | refine ax fun hc=> ?_ | refine ay fun hc=> ?_ | refine az (fun hc=> ?_) fun hc=> ?_) <;> (try simp only [hc,bs, ↓reduceIte]at h) <;> try simp only [hc]
 | (with_reducible refine aA hQ ?_;(try cases h);simp only [aE,aF,aN,aO,go_sem,hD,hJ,hP,hY,k1,k2,wT,oY,BJ,d1,d2,cB];try exact aQ)
 | (cases h;done))
    refine bX 2 3 ?_ ?_ (IH (rest,k+1,_) ⟨g2,h2,by dsimp only;rw [hl];omega⟩ (Nat.lt_succ_self _))
    ·(simp only [go_sem,hD,hJ,hP,hY,oY,k1,k2];try exact aT)
    ·(simp only [go_sem,hD,hJ,hP,hY,oY,k1,k2];try exact aT)
   ·have d2:(v.kind==6)=false:=by simp [KD]
    simp only [e1,d2, ↓reduceIte,Bool.false_eq_true]at h2
    have f1:=fun {s:St} {o:Nat}=>@ih v.bp proc ((bo.length:Int)+1) ((bo.length:Int)+1+(v.iF:Int)) loop (bo++ [⟨v,proc,up,((bo.length:Int)+1+(v.iF:Int)),loop⟩]) g ps lo hi b c zj (by simp;omega) hg hp s o
    have f2:=fun {s:St} {o:Nat}=>@ih v.bc proc ((bo.length:Int)+1) ((bo.length:Int)+1+(v.iF:Int)) loop _ g ps lo hi b c Dp (by rw [fC proc ((bo.length:Int)+1) ((bo.length:Int)+1+(v.iF:Int)) loop (bo++ [⟨v,proc,up,((bo.length:Int)+1+(v.iF:Int)),loop⟩]) v.bp];simp;omega) hg hp s o
    have hl:(Im.rows proc ((bo.length:Int)+1) ((bo.length:Int)+1+(v.iF:Int)) loop (Im.rows proc ((bo.length:Int)+1) ((bo.length:Int)+1+(v.iF:Int)) loop (bo++ [⟨v,proc,up,((bo.length:Int)+1+(v.iF:Int)),loop⟩]) v.bp) v.bc).length=bo.length+v.iF:=by rw [fC,fC];simp;omega
    simp only [gb,List.map_append,List.map_cons,List.map_nil,IK,List.length_append,List.length_cons,List.length_nil]at f1
    repeat' (first
 | simp only [go_sem,hD,hJ,hP,hY,k1,k2,wT,oY,BJ,d1,d2,cB]
 | (with_reducible refine CU (ek _) ?_)
 | (with_reducible refine CU (f1 (by with_unfolding_all rfl) (by with_unfolding_all rfl)) ?_)
 | (with_reducible refine CU (f2 (by with_unfolding_all rfl) (by with_unfolding_all rfl)) ?_)
 | (with_reducible first | refine ax fun hc=> ?_ | refine ay fun hc=> ?_ | refine az (fun hc=> ?_) fun hc=> ?_) <;> (try simp only [hc,bs, ↓reduceIte]at h) <;> try simp only [hc]
 | (with_reducible refine aA hQ ?_;(try cases h);simp only [aE,aF,aN,aO,go_sem,hD,hJ,hP,hY,k1,k2,wT,oY,BJ,d1,d2,cB];try exact aQ)
 | (cases h;done))
    refine bX 2 3 ?_ ?_ (IH (rest,k+1,_) ⟨g2,h2,by dsimp only;rw [hl];omega⟩ (Nat.lt_succ_self _))
    ·(simp only [go_sem,hD,hJ,hP,hY,oY,k1,k2];try exact aT)
    ·(simp only [go_sem,hD,hJ,hP,hY,oY,k1,k2];try exact aT)
  ·have d1:decide (((k+1:Nat):Int)<(l.length:Int))=false:=by simp;omega
   have e1:(rest.length=0)=True:=by simp only [eq_iff_iff,iff_true];omega
   by_cases KD:v.kind=6
   ·have d2:(v.kind==6)=true:=by simp [KD]
    simp only [e1,d2, ↓reduceIte,Bool.false_eq_true]at h2
    have f1:=fun {s:St} {o:Nat}=>@ih v.bp proc ((bo.length:Int)+1) ((bo.length:Int)+1) ((bo.length:Int)+1) (bo++ [⟨v,proc,up,next,loop⟩]) g ps lo hi b c zj (by simp;omega) hg hp s o
    have f2:=fun {s:St} {o:Nat}=>@ih v.bc proc ((bo.length:Int)+1) ((bo.length:Int)+1) ((bo.length:Int)+1) _ g ps lo hi b c Dp (by rw [fC proc ((bo.length:Int)+1) ((bo.length:Int)+1) ((bo.length:Int)+1) (bo++ [⟨v,proc,up,next,loop⟩]) v.bp];simp;omega) hg hp s o
    have hl:(Im.rows proc ((bo.length:Int)+1) ((bo.length:Int)+1) ((bo.length:Int)+1) (Im.rows proc ((bo.length:Int)+1) ((bo.length:Int)+1) ((bo.length:Int)+1) (bo++ [⟨v,proc,up,next,loop⟩]) v.bp) v.bc).length=bo.length+v.iF:=by rw [fC,fC];simp;omega
    simp only [gb,List.map_append,List.map_cons,List.map_nil,IK,List.length_append,List.length_cons,List.length_nil]at f1
    repeat' (first
 | simp only [go_sem,hD,hJ,hP,hY,k1,k2,wT,oY,BJ,d1,d2,cB]
 | (with_reducible refine CU (ek _) ?_)
 | (with_reducible refine CU (f1 (by with_unfolding_all rfl) (by with_unfolding_all rfl)) ?_)
 | (with_reducible refine CU (f2 (by with_unfolding_all rfl) (by with_unfolding_all rfl)) ?_)
 | (with_reducible first | refine ax fun hc=> ?_ | refine ay fun hc=> ?_ | refine az (fun hc=> ?_) fun hc=> ?_) <;> (try simp only [hc,bs, ↓reduceIte]at h) <;> try simp only [hc]
 | (with_reducible refine aA hQ ?_;(try cases h);simp only [aE,aF,aN,aO,go_sem,hD,hJ,hP,hY,k1,k2,wT,oY,BJ,d1,d2,cB];try exact aQ)
 | (cases h;done))
    refine bX 2 3 ?_ ?_ (IH (rest,k+1,_) ⟨g2,h2,by dsimp only;rw [hl];omega⟩ (Nat.lt_succ_self _))
    ·(simp only [go_sem,hD,hJ,hP,hY,oY,k1,k2];try exact aT)
    ·(simp only [go_sem,hD,hJ,hP,hY,oY,k1,k2];try exact aT)
   ·have d2:(v.kind==6)=false:=by simp [KD]
    simp only [e1,d2, ↓reduceIte,Bool.false_eq_true]at h2
    have f1:=fun {s:St} {o:Nat}=>@ih v.bp proc ((bo.length:Int)+1) next loop (bo++ [⟨v,proc,up,next,loop⟩]) g ps lo hi b c zj (by simp;omega) hg hp s o
    have f2:=fun {s:St} {o:Nat}=>@ih v.bc proc ((bo.length:Int)+1) next loop _ g ps lo hi b c Dp (by rw [fC proc ((bo.length:Int)+1) next loop (bo++ [⟨v,proc,up,next,loop⟩]) v.bp];simp;omega) hg hp s o
    have hl:(Im.rows proc ((bo.length:Int)+1) next loop (Im.rows proc ((bo.length:Int)+1) next loop (bo++ [⟨v,proc,up,next,loop⟩]) v.bp) v.bc).length=bo.length+v.iF:=by rw [fC,fC];simp;omega
    simp only [gb,List.map_append,List.map_cons,List.map_nil,IK,List.length_append,List.length_cons,List.length_nil]at f1
    repeat' (first
 | simp only [go_sem,hD,hJ,hP,hY,k1,k2,wT,oY,BJ,d1,d2,cB]
 | (with_reducible refine CU (ek _) ?_)
 | (with_reducible refine CU (f1 (by with_unfolding_all rfl) (by with_unfolding_all rfl)) ?_)
 | (with_reducible refine CU (f2 (by with_unfolding_all rfl) (by with_unfolding_all rfl)) ?_)
 | (with_reducible first | refine ax fun hc=> ?_ | refine ay fun hc=> ?_ | refine az (fun hc=> ?_) fun hc=> ?_) <;> (try simp only [hc,bs, ↓reduceIte]at h) <;> try simp only [hc]
 | (with_reducible refine aA hQ ?_;(try cases h);simp only [aE,aF,aN,aO,go_sem,hD,hJ,hP,hY,k1,k2,wT,oY,BJ,d1,d2,cB];try exact aQ)
 | (cases h;done))
    refine bX 2 3 ?_ ?_ (IH (rest,k+1,_) ⟨g2,h2,by dsimp only;rw [hl];omega⟩ (Nat.lt_succ_self _))
    ·(simp only [go_sem,hD,hJ,hP,hY,oY,k1,k2];try exact aT)
    ·(simp only [go_sem,hD,hJ,hP,hY,oY,k1,k2];try exact aT)
theorem QF : ∀ N,N<1000000000→Pz N:=by
 intro N
 induction N with
 | zero=>exact fun _ l proc up next loop out g ps lo hi b c h=>absurd h (Nat.not_lt_zero _)
 | succ N ih=>
  intro h l proc up next loop out g ps lo hi b c hs hc hg hp s o ho ht
  exact(Wf (ih (by omega)) hs hc hg hp (by omega)).Wd (by simp [D.bM,D.ok,Tag.ok,q8,D.jb]) hg hp ho ht
end Go.Abs

/-! Flat3 -/

namespace Go.Abs
set_option maxRecDepth 8000
open Go.Proofs
def jK (p:Pg):List D:= [.slice .shared 1 (p.globals.map encStr), .slice .shared 5 (p.procs.map bR), .slice .shared 17 (p.eO.L.map e8), .slice .shared 1 (p.eO.lo.map fV), .slice .shared 1 (p.eO.hi.map fV)]
theorem pL (p:Pg):jK p = [.slice .shared 1 (p.globals.map encStr), .slice .shared 5 (p.procs.map bR), .slice .shared 17 (p.eO.L.map e8), .slice .shared 1 (p.eO.lo.map fV), .slice .shared 1 (p.eO.hi.map fV)]:=nd rfl
theorem A5 (p:Pg):D.bM 0 0 (jK p)=true:=by simp [jK,D.bM,D.ok,Tag.ok,dL,C0,C1,rY]
theorem uw (p:Pg):bD p = [.slice .shared 1 (p.globals.map encStr), .slice .shared 5 (p.procs.map bR)]:=nd rfl
theorem Wg {p:Pg} (hs:Pc.aU p.procs<1000000000):aD Tryz.prog lA [.agg (bD p)] S0 (.ptr 1 0) ⟨[bD p,gb (.slice .shared 1 (p.globals.map encStr)) (.slice .shared 5 (p.procs.map bR)) p.eO.L p.eO.lo p.eO.hi],[some p.eO.L.length,some p.eO.lo.length,some p.eO.hi.length]⟩:=by
 have hlen:p.procs.length<1000000000:=by have:=Pc.c7 p.procs;omega
 obtain⟨R,hR⟩ : ∃ R,R=p.eO:=⟨_,rfl⟩
 have Xm:=hR
 unfold Pg.eO at Xm
 unfold S0
 rw [uw, ← hR]
 refine aD.goK 2 3 (Nat.zero_le _) (Nat.zero_le _) Ec rfl fun B Q hB hQ=> ?_
 have⟨hD,hJ,hP,hY⟩:=bK
 repeat' (first
 | simp only [go_sem,hD,hJ,hP,hY,uw]
 | (with_reducible first | refine ax fun hc=> ?_ | refine ay fun hc=> ?_ | refine az (fun hc=> ?_) fun hc=> ?_) <;> (try simp only [hc,bs, ↓reduceIte]at h) <;> try simp only [hc]
 | (with_reducible refine aA hQ ?_;(try cases h);simp only [aE,aF,aN,aO,go_sem,hD,hJ,hP,hY,uw];try exact aQ)
 | (cases h;replace h:=hr;clear hr;(try simp only [bs, ↓reduceIte]at h))
 | (cases h;done))
 refine bl.Mg 1 2 17 rfl rfl ?_
 simp only [go_sem,hD,hJ,hP,hY]
 refine bl.Mg 1 3 1 rfl rfl ?_
 simp only [go_sem,hD,hJ,hP,hY]
 refine bl.Mg 1 4 1 rfl rfl ?_
 simp only [go_sem,hD,hJ,hP,hY]
 refine bX 2 3 ?_ ?_ (bl.ind (ι:=List Pc×Nat×Sh×Nat×Nat) (fun i=>p.procs.drop i.2.1=i.1∧Sh.go i.2.1 i.2.2.1 i.1=R∧i.2.2.1.L.length+Pc.aU i.1≤Pc.aU p.procs∧i.2.2.1.lo.length=i.2.1∧i.2.2.1.hi.length=i.2.1∧i.2.2.2.1=i.2.2.1.lo.length∧i.2.2.2.2=i.2.2.1.hi.length) (fun i=>i.1.length)
  (fun i=> [(1, .ptr 0 0),(3, .ptr 1 0),(10, .slice .shared 5 (p.procs.map bR)),(11, .int .i64 (p.procs.length:Int)),(12, .int .i64 (i.2.1:Int))]) (fun i=>⟨[[.slice .shared 1 (p.globals.map encStr), .slice .shared 5 (p.procs.map bR)],gb (.slice .shared 1 (p.globals.map encStr)) (.slice .shared 5 (p.procs.map bR)) i.2.2.1.L i.2.2.1.lo i.2.2.1.hi],[some i.2.2.1.L.length,some i.2.2.2.1,some i.2.2.2.2]⟩) ?_ (p.procs,0,⟨[],[],[]⟩,0,0) ⟨rfl,Xm.symm,by simp,rfl,rfl,rfl,rfl⟩)
 ·(simp only [go_sem,hD,hJ,hP,hY,gb];try exact aT)
 ·(simp only [go_sem,hD,hJ,hP,hY,gb];try exact aT)
 rintro⟨rest,k,h,n1,n2⟩ ⟨h1,h2,h3,h4,h5,h6,h7⟩ IH
 dsimp only at h1 h2 h3 h4 h5 h6 h7
 subst h6 h7
 cases rest with
 | nil=>
  have hD:=drop_nil h1
  simp only [Sh.go]at h2
  rw [← h2]at hQ
  repeat' (first
 | simp only [go_sem,hD,hJ,hP,hY,gb]
 | (with_reducible first | refine ax fun hc=> ?_ | refine ay fun hc=> ?_ | refine az (fun hc=> ?_) fun hc=> ?_) <;> (try simp only [hc,bs, ↓reduceIte]at h) <;> try simp only [hc]
 | (with_reducible refine aA hQ ?_;(try cases h);simp only [aE,aF,aN,aO,go_sem,hD,hJ,hP,hY,gb];try exact aQ)
 | (cases h;replace h:=hr;clear hr;(try simp only [bs, ↓reduceIte]at h))
 | (cases h;done))
 | cons f rest=>
  obtain⟨hJ,g2,hD,g4⟩:=drop_cons h1
  have bf:k<4611686018427387904:=by omega
  simp only [Pc.aU,Pc.size]at h3
  simp only [Sh.go]at h2
  have c1:=mT f.body
  have hP:(h.lo.length+1)*9≤bk:=by unfold bk;omega
  have S3:(h.hi.length+1)*9≤bk:=by unfold bk;omega
  have wT:IntKind.wrap .i64 ((h.L.length:Int)+1)=(h.L.length:Int)+1:=dE (by omega) (by omega)
  have hl:(Im.rows (k:Int) 0 (-1) 0 h.L f.body).length=h.L.length+Sm.ig f.body:=fC ..
  have oY:IntKind.wrap .i64 (((Im.rows (k:Int) 0 (-1) 0 h.L f.body).length:Int)+1)=((Im.rows (k:Int) 0 (-1) 0 h.L f.body).length:Int)+1:=dE (by omega) (by omega)
  have hr:=fun {s:St} {o:Nat}=>@QF (Sm.aU f.body+1) (by omega) f.body (k:Int) 0 (-1) 0 h.L (.slice .shared 1 (p.globals.map encStr)) (.slice .shared 5 (p.procs.map bR)) (h.lo++ [(h.L.length:Int)+1]) h.hi (some (h.lo.length+1)) (some h.hi.length) (Nat.lt_succ_self _) (by omega) (by simp [D.ok,Tag.ok,dL]) (by simp [D.ok,Tag.ok,C0]) s o
  simp only [gb,List.map_append,List.map_cons,List.map_nil,fV]at hr
  repeat' (first
 | simp only [go_sem,hD,hJ,hP,hY,wT,oY,S3,gb]
 | (with_reducible refine CU (hr (by with_unfolding_all rfl) (by with_unfolding_all rfl)) ?_)
 | (with_reducible first | refine ax fun hc=> ?_ | refine ay fun hc=> ?_ | refine az (fun hc=> ?_) fun hc=> ?_) <;> (try simp only [hc,bs, ↓reduceIte]at h) <;> try simp only [hc]
 | (with_reducible refine aA hQ ?_;(try cases h);simp only [aE,aF,aN,aO,go_sem,hD,hJ,hP,hY,wT,oY,S3,gb];try exact aQ)
 | (cases h;replace h:=hr;clear hr;(try simp only [bs, ↓reduceIte]at h))
 | (cases h;done))
  refine bX 2 3 ?_ ?_ (IH (rest,k+1,⟨Im.rows (k:Int) 0 (-1) 0 h.L f.body,h.lo++ [(h.L.length:Int)+1],h.hi++ [((Im.rows (k:Int) 0 (-1) 0 h.L f.body).length:Int)+1]⟩,_,_) ⟨g2,h2,by dsimp only;rw [hl];omega,by simp [h4],by simp [h5],by simp,by simp⟩ (Nat.lt_succ_self _))
  ·(simp only [go_sem,hD,hJ,hP,hY,gb,au bf,List.map_append,List.map_cons,List.map_nil,fV];try exact aT)
  ·(simp only [go_sem,hD,hJ,hP,hY,gb,au bf,List.map_append,List.map_cons,List.map_nil,fV];try exact aT)
theorem C2 {p:Pg} (hs:Pc.aU p.procs<1000000000) (s:St):aD Tryz.prog lA [.agg (bD p)] s (.dJ (jK p) 0) s:=by
 refine aD.pure ?_ (by simp only [D.bM,D.ok,fT];rfl) (by simp only [D.ok,A5]) s
 have h:=(Wg hs).vZ (n:=0) (m:=0) rfl (Nat.le_refl _) (Nat.zero_le _) (Nat.le_refl _)
 simpa [D.gd,D.fg,Tag.fg,Ks,O5,Px,KB,St.cut,jK,S0]using h
end Go.Abs

/-! Sl1 -/

namespace Go.Abs
set_option maxRecDepth 8000
open Go.Proofs
def mc (x:aH) (k:Int):List aH→Int
 | []=> -1
 | s::l=>if x==s then k else mc x (k+1) l
def dv (l:List aH) (x:aH):Bool:=decide (mc x 0 l≥0)
def kv {α:Type} (b:α→Bool) (k:Int):List α→Int
 | []=> -1
 | s::l=>if b s then k else kv b (k+1) l
theorem F3 (x:aH) : ∀ (l:List aH) (k:Int),0≤k→(mc x k l≥0↔x∈l)
 | [],k,h=>by simp [mc]
 | s::l,k,h=>by
  by_cases e:x=s
  ·simp [mc,e];omega
  ·have e':(x==s)=false:=by simp [e]
   simp only [mc,e',Bool.false_eq_true,if_false,List.mem_cons,e,false_or]
   exact F3 x l (k+1) (by omega)
theorem gU (l:List aH) (x:aH):dv l x=true↔x∈l:=by
 simp only [dv,decide_eq_true_eq];exact F3 x l 0 (Int.le_refl 0)
theorem A6 {α:Type} (b:α→Bool) : ∀ (l:List α) (k:Int),0≤k→(kv b k l≥0↔l.any b=true)
 | [],k,h=>by simp [kv]
 | s::l,k,h=>by
  by_cases e:b s=true
  ·simp [kv,e];omega
  ·have e':b s=false:=by simpa using e
   simp only [kv,e',Bool.false_eq_true,if_false,List.any_cons,Bool.or_eq_true,false_or]
   exact A6 b l (k+1) (by omega)
theorem F4 {l:List aH} (hl:l.length<4611686018427387904) (x:aH) (s:St):aD Tryz.prog gI [.slice .shared 1 (l.map encStr), .str x] s (.int .i64 (mc x 0 l)) s:=by
 refine aD.pure ?_ (by simp [D.bM,D.ok,Tag.ok,dL]) rfl s
 generalize h:mc x 0 l=p
 unfold S0
 refine aD.go sk rfl fun B Q hB hQ=> ?_
 have⟨hD,hJ,hP,hY⟩:=bK
 repeat' (first
 | simp only [go_sem,hD,hJ,hP,hY]
 | (with_reducible first | refine ax fun hc=> ?_ | refine ay fun hc=> ?_ | refine az (fun hc=> ?_) fun hc=> ?_) <;> (try simp only [hc,bs, ↓reduceIte]at h) <;> try simp only [hc]
 | (with_reducible refine aA hQ ?_;exact bx)
 | (cases h;done))
 refine cP 0 0 (bl.ind (ι:=List aH×Nat) (fun i=>l.drop i.2=i.1∧mc x (i.2:Int) i.1=p) (fun i=>i.1.length)
  (fun i=> [(0, .slice .shared 1 (l.map encStr)),(1, .str x),(7, .int .i64 (l.length:Int)),(8, .int .i64 (i.2:Int))]) (fun i=>⟨[],[]⟩) ?_ (l,0) ⟨rfl,h⟩)
 rintro⟨rest,k⟩ ⟨h1,h⟩ IH
 dsimp only at h1 h
 cases rest with
 | nil=>
  have hD:=drop_nil h1
  simp only [mc]at h
  repeat' (first
 | simp only [go_sem,hD,hJ,hP,hY]
 | (with_reducible first | refine ax fun hc=> ?_ | refine ay fun hc=> ?_ | refine az (fun hc=> ?_) fun hc=> ?_) <;> (try simp only [hc,bs, ↓reduceIte]at h) <;> try simp only [hc]
 | (with_reducible refine aA hQ ?_;exact bx)
 | (cases h;done))
 | cons a rest=>
  obtain⟨hJ,g2,hD,g4⟩:=drop_cons h1
  have bf:k<4611686018427387904:=by omega
  simp only [mc]at h
  repeat' (first
 | simp only [go_sem,hD,hJ,hP,hY]
 | (with_reducible first | refine ax fun hc=> ?_ | refine ay fun hc=> ?_ | refine az (fun hc=> ?_) fun hc=> ?_) <;> (try simp only [hc,bs, ↓reduceIte]at h) <;> try simp only [hc]
 | (with_reducible refine aA hQ ?_;exact bx)
 | (cases h;done))
  refine bX 0 0 ?_ ?_ (IH (rest,k+1) ⟨g2,h⟩ (Nat.lt_succ_self _))
  ·(simp only [go_sem,hD,hJ,hP,hY,au bf];try exact aT)
  ·(simp only [go_sem,hD,hJ,hP,hY,au bf];try exact aT)
theorem vb {l:List aH} (hl:l.length<4611686018427387904) (x:aH) (s:St):aD Tryz.prog ct [.slice .shared 1 (l.map encStr), .str x] s (.bool (dv l x)) s:=by
 refine aD.pure ?_ (by simp [D.bM,D.ok,Tag.ok,dL]) rfl s
 have hi:=fun s=>F4 hl x s
 unfold S0
 refine aD.go qK rfl fun B Q hB hQ=> ?_
 have⟨hD,hJ,hP,hY⟩:=bK
 repeat' (first
 | simp only [go_sem,hD,hJ,hP,hY,dv]
 | (with_reducible refine CU (hi _) ?_)
 | (with_reducible first | refine ax fun hc=> ?_ | refine ay fun hc=> ?_ | refine az (fun hc=> ?_) fun hc=> ?_) <;> (try simp only [hc,bs, ↓reduceIte]at h) <;> try simp only [hc]
 | (with_reducible refine aA hQ ?_;(try cases h);simp only [aE,aF,aN,aO,go_sem,hD,hJ,hP,hY,dv];try exact aQ)
 | (cases h;done))
theorem aD.BK {P:Program} {f:Nat} {d d':D} {r:List D} {s s':St} {x:D} (h:aD P f (d'::r) s x s') (hw:Wk d d'):aD P f (d::r) s x s':=ej.DA (.cons hw (kP.refl r)) h
theorem iI {l:List aH} (hl:l.length<4611686018427387904) (x:aH) (g:Tag) (s:St):aD Tryz.prog ct [.slice g 1 (l.map encStr), .str x] s (.bool (dv l x)) s:=
 (vb hl x s).BK (Wk.shared _ _ _)
theorem El (x:aH) (z:Nat) (g:Tag) (s:St):aD Tryz.prog ct [.slice g z [], .str x] s (.bool false) s:=
 (vb (l:= []) (by simp) x s).BK (Wk.nil _ _ _)
theorem wU {l:List aH} (hl:l.length<4611686018427387904) {f:Nat} {row:List D} {b:aH→Bool} (qV:D.bM 0 0 row=true) (he:enters Tryz.prog f=true)
 (hb : ∀ x∈l,aD Tryz.prog f ([.str x]++ [.ptr 0 0]) ⟨[row],[]⟩ (.bool (b x)) ⟨[row],[]⟩) :
 aD Tryz.prog ji [.slice .shared 1 (l.map encStr), .fM f [.ptr 0 0]] ⟨[row],[]⟩ (.int .i64 (kv b 0 l)) ⟨[row],[]⟩:=by
 generalize h:kv b 0 l=p
 have k1 : ∀ n m,D.gd n m row=row:=fun n m=>gp n m _ qV
 refine aD.go qn rfl fun B Q hB hQ=> ?_
 have⟨hD,hJ,hP,hY⟩:=bK
 repeat' (first
 | simp only [go_sem,hD,hJ,hP,hY,k1]
 | (with_reducible first | refine ax fun hc=> ?_ | refine ay fun hc=> ?_ | refine az (fun hc=> ?_) fun hc=> ?_) <;> (try simp only [hc,bs, ↓reduceIte]at h) <;> try simp only [hc]
 | (with_reducible refine aA hQ ?_;(try cases h);simp only [aE,aF,aN,aO,go_sem,hD,hJ,hP,hY,k1];try exact aQ)
 | (cases h;done))
 refine bX 1 0 ?_ ?_ (bl.ind (ι:=List aH×Nat) (fun i=>l.drop i.2=i.1∧kv b (i.2:Int) i.1=p) (fun i=>i.1.length)
  (fun i=> [(0, .slice .shared 1 (l.map encStr)),(1, .fM f [.ptr 0 0]),(7, .int .i64 (l.length:Int)),(8, .int .i64 (i.2:Int))]) (fun i=>⟨[row],[]⟩) ?_ (l,0) ⟨rfl,h⟩)
 ·(simp only [go_sem,hD,hJ,hP,hY,k1];try exact aT)
 ·(simp only [go_sem,hD,hJ,hP,hY,k1];try exact aT)
 rintro⟨rest,k⟩ ⟨h1,h⟩ IH
 dsimp only at h1 h
 cases rest with
 | nil=>
  have hD:=drop_nil h1
  simp only [kv]at h
  repeat' (first
 | simp only [go_sem,hD,hJ,hP,hY,k1]
 | (with_reducible first | refine ax fun hc=> ?_ | refine ay fun hc=> ?_ | refine az (fun hc=> ?_) fun hc=> ?_) <;> (try simp only [hc,bs, ↓reduceIte]at h) <;> try simp only [hc]
 | (with_reducible refine aA hQ ?_;(try cases h);simp only [aE,aF,aN,aO,go_sem,hD,hJ,hP,hY,k1];try exact aQ)
 | (cases h;done))
 | cons a rest=>
  obtain⟨hJ,g2,hD,g4⟩:=drop_cons h1
  have bf:k<4611686018427387904:=by omega
  have S4:=hb a (List.mem_of_getElem? hJ)
  simp only [kv]at h
  repeat' (first
 | simp only [go_sem,hD,hJ,hP,hY,k1]
 | (with_reducible refine CV.use (he) (S4) ?_)
 | (with_reducible first | refine ax fun hc=> ?_ | refine ay fun hc=> ?_ | refine az (fun hc=> ?_) fun hc=> ?_) <;> (try simp only [hc,bs, ↓reduceIte]at h) <;> try simp only [hc]
 | (with_reducible refine aA hQ ?_;(try cases h);simp only [aE,aF,aN,aO,go_sem,hD,hJ,hP,hY,k1];try exact aQ)
 | (cases h;done))
  refine bX 1 0 ?_ ?_ (IH (rest,k+1) ⟨g2,h⟩ (Nat.lt_succ_self _))
  ·(simp only [go_sem,hD,hJ,hP,hY,k1,au bf];try exact aT)
  ·(simp only [go_sem,hD,hJ,hP,hY,k1,au bf];try exact aT)
theorem wV {P:Program} {g f:Nat} {row:List D} {rows:List (List D)} {z:Nat} {d:D} (h:aD P g [.slice .shared z rows, .fM f [.ptr 0 0]] ⟨[row],[]⟩ d ⟨[row],[]⟩) (qV:D.bM 0 0 row=true) (hw:D.jb 0 0 rows=true) (hd:D.ok 0 0 d=true) {s:St} {o:Nat} (ho:s.aw[o]? = some row) :
 aD P g [.slice .shared z rows, .fM f [.ptr o 0]] s d s:=by
 refine ej.frame [o] [] h (by simp) List.nodup_nil (by simpa using (List.getElem?_eq_some_iff.1 ho).1) (by simp) rfl (fun i o' ds e1 e2=> ?_) rfl (by simp) (by simp [D.fR,D.dI,Tag.dI,ln _ _ _ hw])
  (by simp [D.bM,D.ok,Tag.ok,n8 (Nat.zero_le 1) (Nat.le_refl 0) _ hw]) ?_
 ·cases i with
  | zero=>simp at e1 e2;subst e1;subst e2;exact⟨by rw [fS _ _ _ qV];exact ho,iW (Nat.zero_le 1) (Nat.le_refl 0) _ qV⟩
  | succ i=>simp at e1
 ·rintro _ _ ⟨rfl,rfl⟩
  refine⟨pH _ _ _ hd, ?_⟩
  have:s.aw.set o row=s.aw:=by
   apply List.ext_getElem?
   intro i
   rw [List.getElem?_set]
   split
   ·rename_i e;subst e;rw [ho];split
    ·rfl
    ·rename_i hh;exact absurd (List.getElem?_eq_some_iff.1 ho).1 hh
   ·rfl
  simp [St.back,jD,fS _ _ _ qV,this]
theorem ux {l:List aH} (hl:l.length<4611686018427387904) {f:Nat} {row:List D} {b:aH→Bool} (qV:D.bM 0 0 row=true) (he:enters Tryz.prog f=true)
 (hb : ∀ x∈l,aD Tryz.prog f ([.str x]++ [.ptr 0 0]) ⟨[row],[]⟩ (.bool (b x)) ⟨[row],[]⟩) :
 aD Tryz.prog fa [.slice .shared 1 (l.map encStr), .fM f [.ptr 0 0]] ⟨[row],[]⟩ (.bool (l.any b)) ⟨[row],[]⟩:=by
 have k1 : ∀ n m,D.gd n m row=row:=fun n m=>gp n m _ qV
 have hi:=wU hl qV he hb
 have e:decide (kv b 0 l≥0)=l.any b:=by
  have:=A6 b l 0 (Int.le_refl 0)
  cases hh:l.any b <;> simp_all
 refine aD.go oV rfl fun B Q hB hQ=> ?_
 have⟨hD,hJ,hP,hY⟩:=bK
 repeat' (first
 | simp only [go_sem,hD,hJ,hP,hY,k1,e]
 | (with_reducible refine CU (hi) ?_)
 | (with_reducible first | refine ax fun hc=> ?_ | refine ay fun hc=> ?_ | refine az (fun hc=> ?_) fun hc=> ?_) <;> (try simp only [hc,bs, ↓reduceIte]at h) <;> try simp only [hc]
 | (with_reducible refine aA hQ ?_;(try cases h);simp only [aE,aF,aN,aO,go_sem,hD,hJ,hP,hY,k1,e];try exact aQ)
 | (cases h;done))
theorem uy {l:List aH} (hl:l.length<4611686018427387904) {f:Nat} {row:List D} {b:aH→Bool} (qV:D.bM 0 0 row=true) (he:enters Tryz.prog f=true)
 (hb : ∀ x∈l,aD Tryz.prog f ([.str x]++ [.ptr 0 0]) ⟨[row],[]⟩ (.bool (b x)) ⟨[row],[]⟩) {s:St} {o:Nat} (ho:s.aw[o]? = some row) :
 aD Tryz.prog fa [.slice .shared 1 (l.map encStr), .fM f [.ptr o 0]] s (.bool (l.any b)) s:=
 wV (ux hl qV he hb) qV (dL l) rfl ho
theorem sa {l:List Pc} (hl:l.length<4611686018427387904) {f:Nat} {row:List D} {b:Pc→Bool} (qV:D.bM 0 0 row=true) (he:enters Tryz.prog f=true)
 (hb : ∀ x∈l,aD Tryz.prog f ([.agg (bR x)]++ [.ptr 0 0]) ⟨[row],[]⟩ (.bool (b x)) ⟨[row],[]⟩) :
 aD Tryz.prog fe [.slice .shared 5 (l.map bR), .fM f [.ptr 0 0]] ⟨[row],[]⟩ (.int .i64 (kv b 0 l)) ⟨[row],[]⟩:=by
 generalize h:kv b 0 l=p
 have k1 : ∀ n m,D.gd n m row=row:=fun n m=>gp n m _ qV
 refine aD.go pj rfl fun B Q hB hQ=> ?_
 have⟨hD,hJ,hP,hY⟩:=bK
 repeat' (first
 | simp only [go_sem,hD,hJ,hP,hY,k1]
 | (with_reducible first | refine ax fun hc=> ?_ | refine ay fun hc=> ?_ | refine az (fun hc=> ?_) fun hc=> ?_) <;> (try simp only [hc,bs, ↓reduceIte]at h) <;> try simp only [hc]
 | (with_reducible refine aA hQ ?_;(try cases h);simp only [aE,aF,aN,aO,go_sem,hD,hJ,hP,hY,k1];try exact aQ)
 | (cases h;done))
 refine bX 1 0 ?_ ?_ (bl.ind (ι:=List Pc×Nat) (fun i=>l.drop i.2=i.1∧kv b (i.2:Int) i.1=p) (fun i=>i.1.length)
  (fun i=> [(0, .slice .shared 5 (l.map bR)),(1, .fM f [.ptr 0 0]),(7, .int .i64 (l.length:Int)),(8, .int .i64 (i.2:Int))]) (fun i=>⟨[row],[]⟩) ?_ (l,0) ⟨rfl,h⟩)
 ·(simp only [go_sem,hD,hJ,hP,hY,k1];try exact aT)
 ·(simp only [go_sem,hD,hJ,hP,hY,k1];try exact aT)
 rintro⟨rest,k⟩ ⟨h1,h⟩ IH
 dsimp only at h1 h
 cases rest with
 | nil=>
  have hD:=drop_nil h1
  simp only [kv]at h
  repeat' (first
 | simp only [go_sem,hD,hJ,hP,hY,k1]
 | (with_reducible first | refine ax fun hc=> ?_ | refine ay fun hc=> ?_ | refine az (fun hc=> ?_) fun hc=> ?_) <;> (try simp only [hc,bs, ↓reduceIte]at h) <;> try simp only [hc]
 | (with_reducible refine aA hQ ?_;(try cases h);simp only [aE,aF,aN,aO,go_sem,hD,hJ,hP,hY,k1];try exact aQ)
 | (cases h;done))
 | cons a rest=>
  obtain⟨hJ,g2,hD,g4⟩:=drop_cons h1
  have bf:k<4611686018427387904:=by omega
  have S4:=hb a (List.mem_of_getElem? hJ)
  simp only [kv]at h
  repeat' (first
 | simp only [go_sem,hD,hJ,hP,hY,k1]
 | (with_reducible refine CV.use (he) (S4) ?_)
 | (with_reducible first | refine ax fun hc=> ?_ | refine ay fun hc=> ?_ | refine az (fun hc=> ?_) fun hc=> ?_) <;> (try simp only [hc,bs, ↓reduceIte]at h) <;> try simp only [hc]
 | (with_reducible refine aA hQ ?_;(try cases h);simp only [aE,aF,aN,aO,go_sem,hD,hJ,hP,hY,k1];try exact aQ)
 | (cases h;done))
  refine bX 1 0 ?_ ?_ (IH (rest,k+1) ⟨g2,h⟩ (Nat.lt_succ_self _))
  ·(simp only [go_sem,hD,hJ,hP,hY,k1,au bf];try exact aT)
  ·(simp only [go_sem,hD,hJ,hP,hY,k1,au bf];try exact aT)
theorem vV {l:List Pc} (hl:l.length<4611686018427387904) {f:Nat} {row:List D} {b:Pc→Bool} (qV:D.bM 0 0 row=true) (he:enters Tryz.prog f=true)
 (hb : ∀ x∈l,aD Tryz.prog f ([.agg (bR x)]++ [.ptr 0 0]) ⟨[row],[]⟩ (.bool (b x)) ⟨[row],[]⟩) :
 aD Tryz.prog fJ [.slice .shared 5 (l.map bR), .fM f [.ptr 0 0]] ⟨[row],[]⟩ (.bool (l.any b)) ⟨[row],[]⟩:=by
 have k1 : ∀ n m,D.gd n m row=row:=fun n m=>gp n m _ qV
 have hi:=sa hl qV he hb
 have e:decide (kv b 0 l≥0)=l.any b:=by
  have:=A6 b l 0 (Int.le_refl 0)
  cases hh:l.any b <;> simp_all
 refine aD.go od rfl fun B Q hB hQ=> ?_
 have⟨hD,hJ,hP,hY⟩:=bK
 repeat' (first
 | simp only [go_sem,hD,hJ,hP,hY,k1,e]
 | (with_reducible refine CU (hi) ?_)
 | (with_reducible first | refine ax fun hc=> ?_ | refine ay fun hc=> ?_ | refine az (fun hc=> ?_) fun hc=> ?_) <;> (try simp only [hc,bs, ↓reduceIte]at h) <;> try simp only [hc]
 | (with_reducible refine aA hQ ?_;(try cases h);simp only [aE,aF,aN,aO,go_sem,hD,hJ,hP,hY,k1,e];try exact aQ)
 | (cases h;done))
end Go.Abs

/-! MirFlat2 -/

namespace Go.Abs
mutual
def Sm.pre:Sm→List Sm
 | ⟨id,kind,labels,name,pc,x,has,args,bp,bc⟩=>⟨id,kind,labels,name,pc,x,has,args,bp,bc⟩::(Sm.fk bp++Sm.fk bc)
def Sm.fk:List Sm→List Sm
 | []=> []
 | s::l=>s.pre++Sm.fk l
end
def Pg.pre (p:Pg):List Sm:=(p.procs.map fun f=>Sm.fk f.body).flatten
mutual
theorem QG (proc up next loop:Int) (out:List Im) : ∀ s:Sm,∃ e:List Im,Im.one proc up next loop out s=out++e∧e.map Im.s=s.pre
 | ⟨id,kind,labels,name,pc,x,has,args,bp,bc⟩=>by
  simp only [Im.one,Sm.pre]
  obtain⟨e1,h1,k1⟩:=vd proc ((out.length:Int)+1) (if kind==6 then(out.length:Int)+1 else next) (if kind==6 then(out.length:Int)+1 else loop) (out++ [⟨⟨id,kind,labels,name,pc,x,has,args,bp,bc⟩,proc,up,next,loop⟩]) bp
  obtain⟨e2,h2,k2⟩:=vd proc ((out.length:Int)+1) (if kind==6 then(out.length:Int)+1 else next) (if kind==6 then(out.length:Int)+1 else loop) (Im.rows proc ((out.length:Int)+1) (if kind==6 then(out.length:Int)+1 else next) (if kind==6 then(out.length:Int)+1 else loop) (out++ [⟨⟨id,kind,labels,name,pc,x,has,args,bp,bc⟩,proc,up,next,loop⟩]) bp) bc
  refine⟨⟨⟨id,kind,labels,name,pc,x,has,args,bp,bc⟩,proc,up,next,loop⟩::(e1++e2), ?_, ?_⟩
  ·rw [h2,h1];simp
  ·simp [k1,k2]
theorem vd (proc up next loop:Int) (out:List Im) : ∀ l:List Sm,∃ e:List Im,Im.rows proc up next loop out l=out++e∧e.map Im.s=Sm.fk l
 | []=>⟨[],by simp [Im.rows],rfl⟩
 | s::l=>by
  simp only [Im.rows,Sm.fk]
  obtain⟨e1,h1,k1⟩:=QG proc up (if l.length=0 then next else(out.length:Int)+1+(s.iF:Int)) loop out s
  obtain⟨e2,h2,k2⟩:=vd proc up next loop (Im.one proc up (if l.length=0 then next else(out.length:Int)+1+(s.iF:Int)) loop out s) l
  refine⟨e1++e2, ?_,by simp [k1,k2]⟩
  rw [h2,h1];simp
end
theorem KE : ∀ (l:List Pc) (n:Nat) (h:Sh),h.lo.length=n→h.hi.length=n→
 ∃ e lo hi,Sh.go n h l = ⟨h.L++e,h.lo++lo,h.hi++hi⟩∧e.map Im.s=(l.map fun f=>Sm.fk f.body).flatten∧lo.length=l.length∧hi.length=l.length∧
  ∀ (i:Nat) (f:Pc),l[i]? = some f→∃ a b e' I5:List Im,lo[i]? = some (((h.L++a).length:Int)+1)∧hi[i]? = some (((h.L++a++b).length:Int)+1)∧b.map Im.s=Sm.fk f.body∧e=a++b++e'
 | [],n,h,hl,hh=>⟨[],[],[],by simp [Sh.go],rfl,rfl,rfl,fun i f h=>by simp at h⟩
 | f::l,n,h,hl,hh=>by
  simp only [Sh.go]
  obtain⟨e1,h1,k1⟩:=vd (n:Int) 0 (-1) 0 h.L f.body
  obtain⟨e2,lo,hi,h2,k2,h3,h4,h5⟩:=KE l (n+1) ⟨Im.rows (n:Int) 0 (-1) 0 h.L f.body,h.lo++ [(h.L.length:Int)+1],h.hi++ [((Im.rows (n:Int) 0 (-1) 0 h.L f.body).length:Int)+1]⟩ (by simp [hl]) (by simp [hh])
  refine⟨e1++e2,((h.L.length:Int)+1)::lo,(((Im.rows (n:Int) 0 (-1) 0 h.L f.body).length:Int)+1)::hi, ?_,by simp [k1,k2],by simp [h3],by simp [h4],fun i g hZ=> ?_⟩
  ·rw [h2,h1];simp
  ·cases i with
   | zero=>
    simp only [List.getElem?_cons_zero,Option.some.injEq]at hZ
    subst hZ
    exact⟨[],e1,e2,[],by simp,by rw [h1];simp,k1,by simp⟩
   | succ i=>
    simp only [List.getElem?_cons_succ]at hZ
    obtain⟨a,b,e',I5,g1,g2,g3,g4⟩:=h5 i g hZ
    refine⟨e1++a,b,e',I5, ?_, ?_,g3,by rw [g4];simp⟩
    ·rw [List.getElem?_cons_succ,g1,h1];simp
    ·rw [List.getElem?_cons_succ,g2,h1];simp
theorem ou (p:Pg):p.eO.L.map Im.s=p.pre∧∀ (i:Nat) (f:Pc),p.procs[i]? = some f→∃ a b e:List Im,p.eO.lo[i]? = some ((a.length:Int)+1)∧p.eO.hi[i]? = some (((a++b).length:Int)+1)∧b.map Im.s=Sm.fk f.body∧p.eO.L=a++b++e:=by
 obtain⟨e,lo,hi,h1,h2,h3,h4,h5⟩:=KE p.procs 0 ⟨[],[],[]⟩ rfl rfl
 unfold Pg.eO
 rw [h1]
 refine⟨by simpa [Pg.pre]using h2,fun i f hf=> ?_⟩
 obtain⟨a,b,e',_,g1,g2,g3,g4⟩:=h5 i f hf
 exact⟨a,b,e',by simpa using g1,by simpa using g2,g3,by simpa using g4⟩
end Go.Abs

/-! Sl2 -/

namespace Go.Abs
set_option maxRecDepth 8000
open Go.Proofs
def Pg.at (p:Pg) (name:aH):Int:=kv (fun f:Pc=>f.name==name) 0 p.procs
theorem QH (name:aH) (f:Pc):aD Tryz.prog jJ ([.agg (bR f)]++ [.ptr 0 0]) ⟨[[.str name]],[]⟩ (.bool (f.name==name)) ⟨[[.str name]],[]⟩:=by
 show aD Tryz.prog jJ [.agg (bR f), .ptr 0 0] _ _ _
 refine aD.go um rfl fun B Q hB hQ=> ?_
 have⟨hD,hJ,hP,hY⟩:=bK
 repeat' (first
 | simp only [go_sem,hD,hJ,hP,hY]
 | (with_reducible first | refine ax fun hc=> ?_ | refine ay fun hc=> ?_ | refine az (fun hc=> ?_) fun hc=> ?_) <;> (try simp only [hc,bs, ↓reduceIte]at h) <;> try simp only [hc]
 | (with_reducible refine aA hQ ?_;exact bx)
 | (cases h;done))
theorem KF {p:Pg} (hs:p.procs.length<4611686018427387904) (name:aH) (s:St):aD Tryz.prog kJ [.dJ (jK p) 0, .str name] s (.int .i64 (p.at name)) s:=by
 refine aD.pure ?_ (by simp [D.bM,D.ok,A5]) rfl s
 have hi:=fun {s:St} {o:Nat} (ho:s.aw[o]? = some [.str name])=>wV (sa (l:=p.procs) (f:=jJ) (row:= [.str name]) (b:=fun f:Pc=>f.name==name) hs rfl (by with_unfolding_all rfl) (fun x _=>QH name x)) rfl (C0 _) rfl ho
 have hZ:=fun {s:St} {o:Nat} (ho:s.aw[o]? = some [.str name])=>(show aD Tryz.prog fe [.slice .shared 5 (p.procs.map bR), .fM 86 [.ptr o 0]] s (.int .i64 (p.at name)) s from hi ho)
 unfold S0
 rw [pL]
 refine aD.go vU rfl fun B Q hB hQ=> ?_
 have⟨hD,hJ,hP,hY⟩:=bK
 repeat' (first
 | simp only [go_sem,hD,hJ,hP,hY]
 | (with_reducible refine CU (hZ (by with_unfolding_all rfl)) ?_)
 | (with_reducible first | refine ax fun hc=> ?_ | refine ay fun hc=> ?_ | refine az (fun hc=> ?_) fun hc=> ?_) <;> (try simp only [hc,bs, ↓reduceIte]at h) <;> try simp only [hc]
 | (with_reducible refine aA hQ ?_;exact bx)
 | (cases h;done))
theorem KH : ∀ (l:List Pc) (n:Nat) (h:Sh),(Sh.go n h l).L.length≤h.L.length+Pc.aU l
 | [],n,h=>by simp [Sh.go]
 | f::l,n,h=>by
  simp only [Sh.go]
  refine Nat.le_trans (KH l _ _) ?_
  have:=fC (n:Int) 0 (-1) 0 h.L f.body
  have:=mT f.body
  simp only [Pc.aU,Pc.size];omega
theorem ov (p:Pg):p.eO.L.length≤Pc.aU p.procs:=by have:=KH p.procs 0 ⟨[],[],[]⟩;simpa [Pg.eO]using this
theorem Nn {p:Pg} {i:Nat} {f:Pc} (hf:p.procs[i]? = some f) (hs:Pc.aU p.procs<1000000000) : ∃ it:List Im,it.map Im.s=Sm.fk f.body∧∀ s,aD Tryz.prog ka [.dJ (jK p) 0, .int .i64 (i:Int)] s (.slice .shared 17 (it.map e8)) s:=by
 obtain⟨a,b,e,h1,h2,h3,h4⟩:=(ou p).2 i f hf
 refine⟨b,h3,fun s=> ?_⟩
 refine aD.pure ?_ (by simp [D.bM,D.ok,A5]) (by simp [D.ok,Tag.ok,C1]) s
 have hL:p.eO.L.length<1000000000:=Nat.lt_of_le_of_lt (ov p) hs
 have l1:(i:Int)<(p.eO.lo.length:Int):=by have:=(List.getElem?_eq_some_iff.1 h1).1;omega
 have l2:(i:Int)<(p.eO.hi.length:Int):=by have:=(List.getElem?_eq_some_iff.1 h2).1;omega
 have wW:a.length+b.length≤p.eO.L.length:=by rw [h4];simp
 have w1:IntKind.wrap .i64 ((a.length:Int)+1 - 1)=(a.length:Int):=by rw [show(a.length:Int)+1 - 1=(a.length:Int) by omega];exact dE (by omega) (by omega)
 have w2:IntKind.wrap .i64 (((a.length+b.length:Nat):Int)+1 - 1)=((a.length+b.length:Nat):Int):=by rw [show((a.length+b.length:Nat):Int)+1 - 1=((a.length+b.length:Nat):Int) by omega];exact dE (by omega) (by omega)
 have c1:((a.length:Int)≤((a.length+b.length:Nat):Int))=True:=by simp only [eq_iff_iff,iff_true];omega
 have c2:(((a.length+b.length:Nat):Int)≤(p.eO.L.length:Int))=True:=by simp only [eq_iff_iff,iff_true];omega
 have hb:List.drop a.length (List.take (a.length+b.length) (List.map e8 p.eO.L))=List.map e8 b:=by rw [h4];simp [List.map_append,List.take_append,List.drop_append]
 unfold S0
 rw [pL]
 refine aD.go xL rfl fun B Q hB hQ=> ?_
 have⟨hD,hJ,hP,hY⟩:=bK
 repeat' (first
 | simp only [go_sem,hD,hJ,hP,hY,h1,h2,w1,w2,c1,c2,or_true,true_and,and_self,ite_self,Int.toNat_natCast,hb]
 | (with_reducible first | refine ax fun hc=> ?_ | refine ay fun hc=> ?_ | refine az (fun hc=> ?_) fun hc=> ?_) <;> (try simp only [hc,bs, ↓reduceIte]at h) <;> try simp only [hc]
 | (with_reducible refine aA hQ ?_;(try cases h);simp only [aE,aF,aN,aO,go_sem,hD,hJ,hP,hY,h1,h2,w1,w2,c1,c2,or_true,true_and,and_self,ite_self,Int.toNat_natCast,hb];try exact aQ)
 | (cases h;done))
end Go.Abs

/-! TMay1 -/

namespace Go.Abs
set_option maxRecDepth 8000
open Go.Proofs
theorem BL {r:aH} : rb r=true↔nf r=r.length:=by
 induction r with
 | nil=>simp [rb,nf]
 | cons c r ih=>
  simp only [rb,nf]
  cases h1:sP c <;> cases h2:vL c <;> simp [ih]
theorem wX (t:aH) (hl:t.length<4611686018427387904) (s:St):aD Tryz.prog lB [.str t] s (.bool (isName t)) s:=by
 refine aD.pure ?_ rfl rfl s
 have hr:=fun s=>VY (pos:=0) hl s
 simp only [List.drop_zero,Nat.zero_add]at hr
 unfold S0
 cases t with
 | nil=>
  have z:decide (((0:Nat):Int)<1)=true:=rfl
  have z':decide ((0:Int)<1)=true:=rfl
  have e:isName [] = false:=rfl
  rw [e]
  refine aD.go k7 rfl fun B Q hB hQ=> ?_
  have⟨hD,hJ,hP,hY⟩:=bK
  repeat' (first
 | simp only [go_sem,hD,hJ,hP,hY,z,z']
 | (with_reducible first | refine ax fun hc=> ?_ | refine ay fun hc=> ?_ | refine az (fun hc=> ?_) fun hc=> ?_) <;> (try simp only [hc,bs, ↓reduceIte]at h) <;> try simp only [hc]
 | (with_reducible refine aA hQ ?_;(try cases h);simp only [aE,aF,aN,aO,go_sem,hD,hJ,hP,hY,z,z'];try exact aQ)
 | (cases h;replace h:=hr;clear hr;(try simp only [bs, ↓reduceIte]at h))
 | (cases h;done))
 | cons c r=>
  have l1:decide (((r.length+1:Nat):Int)<1)=false:=by simp;omega
  generalize h:isName (c::r)=p
  simp only [isName]at h
  cases hL:sP c
  ·simp only [hL,Bool.not_false,Bool.or_true, ↓reduceIte]at h
   subst h
   by_cases c8:decide (((r.length+1:Nat):Int) > 8)=true
   ·refine aD.go k7 rfl fun B Q hB hQ=> ?_
    have⟨hD,hJ,hP,hY⟩:=bK
    repeat' (first
 | simp only [go_sem,hD,hJ,hP,hY,l1,c8]
 | (with_reducible first | refine ax fun hc=> ?_ | refine ay fun hc=> ?_ | refine az (fun hc=> ?_) fun hc=> ?_) <;> (try simp only [hc,bs, ↓reduceIte]at h) <;> try simp only [hc]
 | (with_reducible refine aA hQ ?_;(try cases h);simp only [aE,aF,aN,aO,go_sem,hD,hJ,hP,hY,l1,c8];try exact aQ)
 | (cases h;replace h:=hr;clear hr;(try simp only [bs, ↓reduceIte]at h))
 | (cases h;done))
   ·have c8:decide (((r.length+1:Nat):Int) > 8)=false:=by simpa using c8
    refine aD.go k7 rfl fun B Q hB hQ=> ?_
    have⟨hD,hJ,hP,hY⟩:=bK
    repeat' (first
 | simp only [go_sem,hD,hJ,hP,hY,l1,c8,hL]
 | (with_reducible refine CU (pJ _ _) ?_)
 | (with_reducible first | refine ax fun hc=> ?_ | refine ay fun hc=> ?_ | refine az (fun hc=> ?_) fun hc=> ?_) <;> (try simp only [hc,bs, ↓reduceIte]at h) <;> try simp only [hc]
 | (with_reducible refine aA hQ ?_;(try cases h);simp only [aE,aF,aN,aO,go_sem,hD,hJ,hP,hY,l1,c8,hL];try exact aQ)
 | (cases h;replace h:=hr;clear hr;(try simp only [bs, ↓reduceIte]at h))
 | (cases h;done))
  ·simp only [hL,Bool.not_true,Bool.or_false]at h
   by_cases c8:decide (((r.length+1:Nat):Int) > 8)=true
   ·simp only [c8, ↓reduceIte]at h
    subst h
    refine aD.go k7 rfl fun B Q hB hQ=> ?_
    have⟨hD,hJ,hP,hY⟩:=bK
    repeat' (first
 | simp only [go_sem,hD,hJ,hP,hY,l1,c8]
 | (with_reducible first | refine ax fun hc=> ?_ | refine ay fun hc=> ?_ | refine az (fun hc=> ?_) fun hc=> ?_) <;> (try simp only [hc,bs, ↓reduceIte]at h) <;> try simp only [hc]
 | (with_reducible refine aA hQ ?_;(try cases h);simp only [aE,aF,aN,aO,go_sem,hD,hJ,hP,hY,l1,c8];try exact aQ)
 | (cases h;replace h:=hr;clear hr;(try simp only [bs, ↓reduceIte]at h))
 | (cases h;done))
   ·have c8:decide (((r.length+1:Nat):Int) > 8)=false:=by simpa using c8
    simp only [c8,Bool.false_eq_true, ↓reduceIte]at h
    have dK:nf (c::r)=nf r+1:=by simp [nf,hL]
    cases hn:rb r
    ·simp only [hn,Bool.false_eq_true, ↓reduceIte]at h
     have:nf r≠r.length:=fun e=>by rw [BL.2 e]at hn;cases hn
     have e:(((nf (c::r):Nat):Int)==((r.length+1:Nat):Int))=false:=by rw [dK];simp;omega
     subst h
     refine aD.go k7 rfl fun B Q hB hQ=> ?_
     have⟨hD,hJ,hP,hY⟩:=bK
     repeat' (first
 | simp only [go_sem,hD,hJ,hP,hY,l1,c8,hL,e]
 | (with_reducible refine CU (pJ _ _) ?_)
 | (with_reducible refine CU (hr _) ?_)
 | (with_reducible first | refine ax fun hc=> ?_ | refine ay fun hc=> ?_ | refine az (fun hc=> ?_) fun hc=> ?_) <;> (try simp only [hc,bs, ↓reduceIte]at h) <;> try simp only [hc]
 | (with_reducible refine aA hQ ?_;(try cases h);simp only [aE,aF,aN,aO,go_sem,hD,hJ,hP,hY,l1,c8,hL,e];try exact aQ)
 | (cases h;replace h:=hr;clear hr;(try simp only [bs, ↓reduceIte]at h))
 | (cases h;done))
    ·simp only [hn, ↓reduceIte]at h
     have:=BL.1 hn
     have e:(((nf (c::r):Nat):Int)==((r.length+1:Nat):Int))=true:=by rw [dK];simp;omega
     subst h
     refine aD.go k7 rfl fun B Q hB hQ=> ?_
     have⟨hD,hJ,hP,hY⟩:=bK
     repeat' (first
 | simp only [go_sem,hD,hJ,hP,hY,l1,c8,hL,e]
 | (with_reducible refine CU (pJ _ _) ?_)
 | (with_reducible refine CU (hr _) ?_)
 | (with_reducible refine CU (SR _ _) ?_)
 | (with_reducible first | refine ax fun hc=> ?_ | refine ay fun hc=> ?_ | refine az (fun hc=> ?_) fun hc=> ?_) <;> (try simp only [hc,bs, ↓reduceIte]at h) <;> try simp only [hc]
 | (with_reducible refine aA hQ ?_;(try cases h);simp only [aE,aF,aN,aO,go_sem,hD,hJ,hP,hY,l1,c8,hL,e];try exact aQ)
 | (cases h;replace h:=hr;clear hr;(try simp only [bs, ↓reduceIte]at h))
 | (cases h;done))
theorem F5 (op:Int) (s:St):aD Tryz.prog tB [.int .i64 op] s (.int .i64 (k8 op)) s:=by
 refine aD.pure ?_ rfl rfl s
 unfold S0
 generalize h:k8 op=p
 unfold k8 at h
 refine aD.go CO rfl fun B Q hB hQ=> ?_
 have⟨hD,hJ,hP,hY⟩:=bK
 repeat' (first
 | simp only [go_sem,hD,hJ,hP,hY]
 | (with_reducible first | refine ax fun hc=> ?_ | refine ay fun hc=> ?_ | refine az (fun hc=> ?_) fun hc=> ?_) <;> (try simp only [hc,bs, ↓reduceIte]at h) <;> try simp only [hc]
 | (with_reducible refine aA hQ ?_;exact bx)
 | (cases h;done))
theorem ve {l:List aH} (hl:l.length<4611686018427387904) (hs : ∀ t∈l,t.length<4611686018427387904) (s:St):aD Tryz.prog kW [.slice .shared 1 (l.map encStr)] s (.bool (dm l)) s:=by
 refine aD.pure ?_ (by simp [D.bM,D.ok,dL,Tag.ok]) rfl s
 unfold S0
 generalize h:dm l=p
 refine aD.go AP rfl fun B Q hB hQ=> ?_
 have⟨hD,hJ,hP,hY⟩:=bK
 repeat' (first
 | simp only [go_sem,hD,hJ,hP,hY]
 | (with_reducible first | refine ax fun hc=> ?_ | refine ay fun hc=> ?_ | refine az (fun hc=> ?_) fun hc=> ?_) <;> (try simp only [hc,bs, ↓reduceIte]at h) <;> try simp only [hc]
 | (with_reducible refine aA hQ ?_;exact bx)
 | (cases h;done))
 refine cP 0 0 (bl.ind (ι:=List aH×Nat) (fun i=>l.drop i.2=i.1∧dm i.1=p) (fun i=>i.1.length)
  (fun i=> [(5, .slice .shared 1 (l.map encStr)),(6, .int .i64 (l.length:Int)),(7, .int .i64 (i.2:Int))]) (fun i=>⟨[],[]⟩) ?_ (l,0) ⟨rfl,h⟩)
 rintro⟨rest,k⟩ ⟨h1,h⟩ IH
 dsimp only at h1 h
 cases rest with
 | nil=>
  have hD:=drop_nil h1
  simp only [dm]at h
  repeat' (first
 | simp only [go_sem,hD,hJ,hP,hY]
 | (with_reducible first | refine ax fun hc=> ?_ | refine ay fun hc=> ?_ | refine az (fun hc=> ?_) fun hc=> ?_) <;> (try simp only [hc,bs, ↓reduceIte]at h) <;> try simp only [hc]
 | (with_reducible refine aA hQ ?_;exact bx)
 | (cases h;done))
 | cons t rest=>
  obtain⟨hJ,g2,hD,g4⟩:=drop_cons h1
  have hP:k<4611686018427387904:=by omega
  have hn:=wX t (hs t (List.mem_of_getElem? hJ))
  simp only [dm]at h
  repeat' (first
 | simp only [go_sem,hD,hJ,hP,hY]
 | (with_reducible refine CU (hn _) ?_)
 | (with_reducible first | refine ax fun hc=> ?_ | refine ay fun hc=> ?_ | refine az (fun hc=> ?_) fun hc=> ?_) <;> (try simp only [hc,bs, ↓reduceIte]at h) <;> try simp only [hc]
 | (with_reducible refine aA hQ ?_;exact bx)
 | (cases h;done))
  refine cP 0 0 (IH (rest,k+1) ⟨g2,h⟩ (Nat.lt_succ_self _))
mutual
def Ex.dp (left:Int):Ex→Bool
 | ⟨op,n,name,kids⟩=>
  if decide (left<1) || (kids.length:Int) != k8 op then false
  else if op==1 then decide (n≥0) && name == []
  else if op==2 then n==0 && isName name
  else if n != 0 || !(name == [])then false
  else Ex.zI (left - 1) kids
def Ex.zI (left:Int):List Ex→Bool
 | []=>true
 | x::l=>if !(Ex.dp left x)then false else Ex.zI left l
end
theorem QI : ∀ (m:Nat) (x:Ex),x.size≤m→x.size<4611686018427387904→x.texts→∀ left:Int,0≤left→left≤100→∀ s:St,aD Tryz.prog nQ [.agg (bL x), .int .i64 left] s (.bool (x.dp left)) s:=by
 intro m
 induction m with
 | zero=>rintro⟨op,v,name,kids⟩ h;simp only [Ex.size]at h;omega
 | succ m ih=>
  rintro⟨op,v,name,kids⟩ h hx ht left h0 ajP s
  refine aD.pure ?_ (by simp [D.bM,D.ok,iN]) rfl s
  have hlen:kids.length<4611686018427387904:=by simp only [Ex.size]at hx;have:=Ex.c7 kids;omega
  have hn:=wX name ht.1
  generalize hp:Ex.dp left ⟨op,v,name,kids⟩=p
  simp only [Ex.dp]at hp
  unfold S0
  by_cases KI:left<1
  ·have d1:decide (left<1)=true:=by simpa using KI
   simp only [d1,Bool.true_or, ↓reduceIte]at hp
   subst hp
   refine aD.go vK rfl fun B Q hB hQ=> ?_
   have⟨hD,hJ,hP,hY⟩:=bK
   repeat' (first
 | simp only [go_sem,hD,hJ,hP,hY,d1]
 | (with_reducible refine CU (F5 _ _) ?_)
 | (with_reducible refine CU (hn _) ?_)
 | (with_reducible first | refine ax fun hc=> ?_ | refine ay fun hc=> ?_ | refine az (fun hc=> ?_) fun hc=> ?_) <;> (try simp only [hc,bs, ↓reduceIte]at h) <;> try simp only [hc]
 | (with_reducible refine aA hQ ?_;(try cases h);simp only [aE,aF,aN,aO,go_sem,hD,hJ,hP,hY,d1];try exact aQ)
 | (cases h;done))
  ·have d1:decide (left<1)=false:=by simpa using KI
   have w1:IntKind.wrap .i64 (left - 1)=left - 1:=dE (by omega) (by omega)
   have hk : ∀ y∈kids,∀ s,aD Tryz.prog nQ [.agg (bL y), .int .i64 (left - 1)] s (.bool (y.dp (left - 1))) s:=fun y hy s=>
    ih y (by simp only [Ex.size]at h;have:=Ex.bS hy;omega) (by simp only [Ex.size]at hx;have:=Ex.bS hy;omega) (Ex.BI ht hy) (left - 1) (by omega) (by omega) s
   simp only [d1,Bool.false_or]at hp
   have h:=hp
   clear hp
   refine aD.go vK rfl fun B Q hB hQ=> ?_
   have⟨hD,hJ,hP,hY⟩:=bK
   repeat' (first
 | simp only [go_sem,hD,hJ,hP,hY,d1]
 | (with_reducible refine CU (F5 _ _) ?_)
 | (with_reducible refine CU (hn _) ?_)
 | (with_reducible first | refine ax fun hc=> ?_ | refine ay fun hc=> ?_ | refine az (fun hc=> ?_) fun hc=> ?_) <;> (try simp only [hc,bs, ↓reduceIte]at h) <;> try simp only [hc]
 | (with_reducible refine aA hQ ?_;(try cases h);simp only [aE,aF,aN,aO,go_sem,hD,hJ,hP,hY,d1];repeat' (first | exact Ok.out | with_reducible refine gA ?_ ?_ | (simp;done)))
 | (cases h;done))
   all_goals
    refine cP 1 0 (bl.ind (ι:=List Ex×Nat) (fun i=>kids.drop i.2=i.1∧Ex.zI (left - 1) i.1=p) (fun i=>i.1.length)
     (fun i=> [(1, .int .i64 left),(49, .slice .shared 4 (kids.map bL)),(50, .int .i64 (kids.length:Int)),(51, .int .i64 (i.2:Int))]) (fun i=>⟨[bL ⟨op,v,name,kids⟩],[]⟩) ?_ (kids,0) ⟨rfl,h⟩)
    rintro⟨rest,k⟩ ⟨h1,h⟩ IH
    dsimp only at h1 h
    cases rest with
    | nil=>
     have hD:=drop_nil h1
     simp only [Ex.zI]at h
     repeat' (first
 | simp only [go_sem,hD,hJ,hP,hY]
 | (with_reducible first | refine ax fun hc=> ?_ | refine ay fun hc=> ?_ | refine az (fun hc=> ?_) fun hc=> ?_) <;> (try simp only [hc,bs, ↓reduceIte]at h) <;> try simp only [hc]
 | (with_reducible refine aA hQ ?_;exact bx)
 | (cases h;done))
    | cons y rest=>
     obtain⟨hJ,g2,hD,g4⟩:=drop_cons h1
     have hy:=hk y (List.mem_of_getElem? hJ)
     have hP:k<4611686018427387904:=by omega
     simp only [Ex.zI]at h
     repeat' (first
 | simp only [go_sem,hD,hJ,hP,hY,w1]
 | (with_reducible refine CU (hy _) ?_)
 | (with_reducible first | refine ax fun hc=> ?_ | refine ay fun hc=> ?_ | refine az (fun hc=> ?_) fun hc=> ?_) <;> (try simp only [hc,bs, ↓reduceIte]at h) <;> try simp only [hc]
 | (with_reducible refine aA hQ ?_;(try cases h);simp only [aE,aF,aN,aO,go_sem,hD,hJ,hP,hY,w1];try exact aQ)
 | (cases h;done))
     refine cP 1 0 (IH (rest,k+1) ⟨g2,h⟩ (Nat.lt_succ_self _))
end Go.Abs

/-! TMay2 -/

namespace Go.Abs
set_option maxRecDepth 8000
open Go.Proofs
theorem zJ {x:Ex} (hx:x.size<4611686018427387904) (ht:x.texts) (s:St):aD Tryz.prog nw [.agg (bL x)] s (.bool (x.dp 20)) s:=by
 refine aD.pure ?_ (by simp [D.bM,D.ok,iN]) rfl s
 have hd:=fun s=>QI _ x (Nat.le_refl _) hx ht 20 (by omega) (by omega) s
 unfold S0
 refine aD.go yB rfl fun B Q hB hQ=> ?_
 have⟨hD,hJ,hP,hY⟩:=bK
 repeat' (first
 | simp only [go_sem,hD,hJ,hP,hY]
 | (with_reducible refine CU (hd _) ?_)
 | (with_reducible first | refine ax fun hc=> ?_ | refine ay fun hc=> ?_ | refine az (fun hc=> ?_) fun hc=> ?_) <;> (try simp only [hc,bs, ↓reduceIte]at h) <;> try simp only [hc]
 | (with_reducible refine aA hQ ?_;exact bx)
 | (cases h;done))
theorem QJ (x:Ex) (s:St):aD Tryz.prog tA [.agg (bL x)] s (.bool x.none) s:=by
 refine aD.pure ?_ (by simp [D.bM,D.ok,iN]) rfl s
 unfold S0
 generalize h:Ex.none x=p
 unfold Ex.none at h
 refine aD.go CN rfl fun B Q hB hQ=> ?_
 have⟨hD,hJ,hP,hY⟩:=bK
 repeat' (first
 | simp only [go_sem,hD,hJ,hP,hY]
 | (with_reducible first | refine ax fun hc=> ?_ | refine ay fun hc=> ?_ | refine az (fun hc=> ?_) fun hc=> ?_) <;> (try simp only [hc,bs, ↓reduceIte]at h) <;> try simp only [hc]
 | (with_reducible refine aA hQ ?_;exact bx)
 | (cases h;done))
def qp (t:aH) (is:Bool):Bool:=(is && isName t) || (!is && t == [])
theorem yC (t:aH) (is:Bool) (hl:t.length<4611686018427387904) (s:St):aD Tryz.prog mV [.str t, .bool is] s (.bool (qp t is)) s:=by
 refine aD.pure ?_ rfl rfl s
 have hn:=wX t hl
 unfold S0
 generalize h:qp t is=p
 unfold qp at h
 refine aD.go AX rfl fun B Q hB hQ=> ?_
 have⟨hD,hJ,hP,hY⟩:=bK
 repeat' (first
 | simp only [go_sem,hD,hJ,hP,hY]
 | (with_reducible refine CU (hn _) ?_)
 | (with_reducible first | refine ax fun hc=> ?_ | refine ay fun hc=> ?_ | refine az (fun hc=> ?_) fun hc=> ?_) <;> (try simp only [hc,bs, ↓reduceIte]at h) <;> try simp only [hc]
 | (with_reducible refine aA hQ ?_;exact bx)
 | (cases h;done))
def sb (x:Ex) (is:Bool):Bool:=(is && x.dp 20) || (!is && x.none)
theorem F6 {x:Ex} (is:Bool) (hx:x.size<4611686018427387904) (ht:x.texts) (s:St):aD Tryz.prog oT [.agg (bL x), .bool is] s (.bool (sb x is)) s:=by
 refine aD.pure ?_ (by simp [D.bM,D.ok,iN]) rfl s
 have hm:=zJ hx ht
 unfold S0
 generalize h:sb x is=p
 unfold sb at h
 refine aD.go AY rfl fun B Q hB hQ=> ?_
 have⟨hD,hJ,hP,hY⟩:=bK
 repeat' (first
 | simp only [go_sem,hD,hJ,hP,hY]
 | (with_reducible refine CU (hm _) ?_)
 | (with_reducible refine CU (QJ _ _) ?_)
 | (with_reducible first | refine ax fun hc=> ?_ | refine ay fun hc=> ?_ | refine az (fun hc=> ?_) fun hc=> ?_) <;> (try simp only [hc,bs, ↓reduceIte]at h) <;> try simp only [hc]
 | (with_reducible refine aA hQ ?_;exact bx)
 | (cases h;done))
def nz:List Ar→Bool
 | []=>true
 | a::l=>if !(qp a.name a.ref) || !(sb a.x !a.ref)then false else nz l
theorem No {l:List Ar} (hl:l.length<4611686018427387904) (hs : ∀ a∈l,a.x.size<4611686018427387904∧a.x.texts∧a.name.length<4611686018427387904) (s:St) :
 aD Tryz.prog qG [.slice .shared 6 (l.map dt)] s (.bool (nz l)) s:=by
 refine aD.pure ?_ (by simp [D.bM,D.ok,CZ,Tag.ok]) rfl s
 unfold S0
 generalize h:nz l=p
 refine aD.go zG rfl fun B Q hB hQ=> ?_
 have⟨hD,hJ,hP,hY⟩:=bK
 repeat' (first
 | simp only [go_sem,hD,hJ,hP,hY]
 | (with_reducible first | refine ax fun hc=> ?_ | refine ay fun hc=> ?_ | refine az (fun hc=> ?_) fun hc=> ?_) <;> (try simp only [hc,bs, ↓reduceIte]at h) <;> try simp only [hc]
 | (with_reducible refine aA hQ ?_;exact bx)
 | (cases h;done))
 refine cP 0 0 (bl.ind (ι:=List Ar×Nat) (fun i=>l.drop i.2=i.1∧nz i.1=p) (fun i=>i.1.length)
  (fun i=> [(5, .slice .shared 6 (l.map dt)),(6, .int .i64 (l.length:Int)),(7, .int .i64 (i.2:Int))]) (fun i=>⟨[],[]⟩) ?_ (l,0) ⟨rfl,h⟩)
 rintro⟨rest,k⟩ ⟨h1,h⟩ IH
 dsimp only at h1 h
 cases rest with
 | nil=>
  have hD:=drop_nil h1
  simp only [nz]at h
  repeat' (first
 | simp only [go_sem,hD,hJ,hP,hY]
 | (with_reducible first | refine ax fun hc=> ?_ | refine ay fun hc=> ?_ | refine az (fun hc=> ?_) fun hc=> ?_) <;> (try simp only [hc,bs, ↓reduceIte]at h) <;> try simp only [hc]
 | (with_reducible refine aA hQ ?_;exact bx)
 | (cases h;done))
 | cons a rest=>
  obtain⟨hJ,g2,hD,g4⟩:=drop_cons h1
  have hP:k<4611686018427387904:=by omega
  obtain⟨a1,a2,a3⟩:=hs a (List.mem_of_getElem? hJ)
  have hn:=fun b s=>yC a.name b a3 s
  have hw:=fun b s=>F6 b a1 a2 s
  simp only [nz]at h
  repeat' (first
 | simp only [go_sem,hD,hJ,hP,hY]
 | (with_reducible refine CU (hn _ _) ?_)
 | (with_reducible refine CU (hw _ _) ?_)
 | (with_reducible first | refine ax fun hc=> ?_ | refine ay fun hc=> ?_ | refine az (fun hc=> ?_) fun hc=> ?_) <;> (try simp only [hc,bs, ↓reduceIte]at h) <;> try simp only [hc]
 | (with_reducible refine aA hQ ?_;exact bx)
 | (cases h;done))
  refine cP 0 0 (IH (rest,k+1) ⟨g2,h⟩ (Nat.lt_succ_self _))
def Sm.flags (s:Sm):Option (Bool×Bool×Bool×Bool×Bool×Bool):=
 if s.kind==1 then some (true,false,true,s.has,false,false)
 else if s.kind==2 || s.kind==10 then some (true,false,false,s.has,false,false)
 else if s.kind==3 then some (false,false,true,s.has,false,false)
 else if s.kind==4 then some (!(s.name == []),true,false,s.has,false,false)
 else if s.kind==5 then some (false,false,true,s.has,true,true)
 else if s.kind==6 then some (false,false,true,s.has,true,false)
 else if s.kind==9 then some (false,false,s.has,false,false,false)
 else if s.kind==7 || s.kind==8 then some (false,false,false,s.has,false,false)
 else none
def Sm.C3 (s:Sm) (nm pr x:Bool):Bool:=if !(qp s.name nm) || !(qp s.proc pr) || !(sb s.x x)then false else nz s.args
def Sm.C4 (s:Sm) (f:Bool×Bool×Bool×Bool×Bool×Bool):Bool:=
 if f.2.2.2.1 || (!f.2.2.2.2.1 && decide ((s.bp.length:Int) > 0)) || (!f.2.2.2.2.2 && decide ((s.bc.length:Int) > 0)) || (!(s.kind==4) && decide ((s.args.length:Int) > 0))then false
 else s.C3 f.1 f.2.1 f.2.2.1
def Sm.fields (s:Sm):Bool:=match s.flags with
 | none=>false
 | some f=>s.C4 f
section
variable {v:Sm} {B:fY} {Q:Exit→Tm→St→Prop} {p:Bool}
theorem Nq {nm pr x:Bool} (hf:v.ik) (hB:B.s = ⟨[],[]⟩) (hQ:kQ 0 0 [(2,none)] (.bool p) ⟨[],[]⟩=Q) (h:v.C3 nm pr x=p) :
 Sem Tryz.prog B 93 SE Q [(1, .ptr 0 0),(3, .bool nm),(4, .bool pr),(5, .bool x)] ⟨[bn v],[]⟩:=by
 have h1:=fun b s=>yC v.name b hf.name s
 have h2:=fun b s=>yC v.proc b hf.proc s
 have h3:=fun b s=>F6 b hf.x hf.xt s
 have h4:=fun s=>No hf.SX hf.arg s
 unfold Sm.C3 at h
 have⟨hD,hJ,hP,hY⟩:=bK
 refine ib ?_
 repeat' (first
 | simp only [go_sem,hD,hJ,hP,hY]
 | (with_reducible refine CU (h1 _ _) ?_)
 | (with_reducible refine CU (h2 _ _) ?_)
 | (with_reducible refine CU (h3 _ _) ?_)
 | (with_reducible refine CU (h4 _) ?_)
 | (with_reducible first | refine ax fun hc=> ?_ | refine ay fun hc=> ?_ | refine az (fun hc=> ?_) fun hc=> ?_) <;> (try simp only [hc,bs, ↓reduceIte]at h) <;> try simp only [hc]
 | (with_reducible refine aA hQ ?_;exact bx)
 | (cases h;done))
theorem Nr {nm pr x has th ot ar:Bool} (hf:v.ik) (hB:B.s = ⟨[],[]⟩) (hQ:kQ 0 0 [(2,none)] (.bool p) ⟨[],[]⟩=Q) (e:(v.kind==4)=ar) (h:v.C4 (nm,pr,x,has,th,ot)=p) :
 Sem Tryz.prog B 93 SF Q [(1, .ptr 0 0),(3, .bool nm),(4, .bool pr),(5, .bool x),(6, .bool has),(7, .bool th),(8, .bool ot),(9, .bool ar)] ⟨[bn v],[]⟩:=by
 simp only [Sm.C4,e]at h
 have⟨hD,hJ,hP,hY⟩:=bK
 refine Sem.lz ?_
 repeat' (first
 | simp only [go_sem,hD,hJ,hP,hY]
 | (with_reducible first | refine ax fun hc=> ?_ | refine ay fun hc=> ?_ | refine az (fun hc=> ?_) fun hc=> ?_) <;> (try simp only [hc,bs, ↓reduceIte]at h) <;> try simp only [hc]
 | (with_reducible refine aA hQ ?_;(try cases h);simp only [aE,aF,aN,aO,go_sem,hD,hJ,hP,hY];repeat' (first | exact Ok.out | with_reducible refine gA ?_ ?_ | (simp;done)))
 | (cases h;done))
 all_goals
  refine Sem.re _ _ 1 0 (by rw [hB];exact mr rfl) (by rw [hB];exact mr rfl) ?_ ?_ (Nq hf hB hQ h)
  ·(simp only [go_sem,hD,hJ,hP,hY];repeat' (first | exact Ok.out | with_reducible refine gA ?_ ?_))
  ·(simp only [go_sem,hD,hJ,hP,hY];repeat' (first | exact Ok.out | with_reducible refine gA ?_ ?_))
theorem Ns {ar:Bool} (hf:v.ik) (hB:B.s = ⟨[],[]⟩) (hQ:kQ 0 0 [(2,none)] (.bool p) ⟨[],[]⟩=Q) (e:(v.kind==4)=ar) (h:v.fields=p) :
 Sem Tryz.prog B 93 Nd Q [(1, .ptr 0 0),(3, .bool false),(4, .bool false),(5, .bool false),(6, .bool v.has),(7, .bool false),(8, .bool false),(9, .bool ar)] ⟨[bn v],[]⟩:=by
 simp only [Sm.fields,Sm.flags]at h
 have⟨hD,hJ,hP,hY⟩:=bK
 refine Sem.lz ?_
 repeat' (first
 | simp only [go_sem,hD,hJ,hP,hY]
 | (with_reducible first | refine ax fun hc=> ?_ | refine ay fun hc=> ?_ | refine az (fun hc=> ?_) fun hc=> ?_) <;> (try simp only [hc,bs, ↓reduceIte]at h) <;> try simp only [hc]
 | (with_reducible refine aA hQ ?_;(try cases h);simp only [aE,aF,aN,aO,go_sem,hD,hJ,hP,hY];repeat' (first | exact Ok.out | with_reducible refine gA ?_ ?_ | (simp;done)))
 | (cases h;done))
 all_goals
  refine Sem.re _ _ 1 0 (by rw [hB];exact mr rfl) (by rw [hB];exact mr rfl) ?_ ?_ (Nr hf hB hQ e h)
  ·(simp only [go_sem,hD,hJ,hP,hY];repeat' (first | exact Ok.out | with_reducible refine gA ?_ ?_))
  ·(simp only [go_sem,hD,hJ,hP,hY];repeat' (first | exact Ok.out | with_reducible refine gA ?_ ?_))
end
theorem Nt {v:Sm} (hf:v.ik) (s:St):aD Tryz.prog qF [.agg (bn v)] s (.bool v.fields) s:=by
 refine aD.pure ?_ (by simp [D.bM,D.ok,kV]) rfl s
 unfold S0
 refine aD.Xl zF rfl fun B Q hB hQ=> ?_
 have⟨hD,hJ,hP,hY⟩:=bK
 refine Sem.seq (b:=SH) (ib ?_)
 repeat' (first
 | simp only [go_sem,hD,hJ,hP,hY]
 | (with_reducible first | refine ax fun hc=> ?_ | refine ay fun hc=> ?_ | refine az (fun hc=> ?_) fun hc=> ?_) <;> (try simp only [hc,bs, ↓reduceIte]at h) <;> try simp only [hc]
 | (with_reducible refine aA hQ ?_;exact bx)
 | (cases h;done))
 refine Sem.seq (b:=SG) (ib ?_)
 repeat' (first
 | simp only [go_sem,hD,hJ,hP,hY]
 | (with_reducible first | refine ax fun hc=> ?_ | refine ay fun hc=> ?_ | refine az (fun hc=> ?_) fun hc=> ?_) <;> (try simp only [hc,bs, ↓reduceIte]at h) <;> try simp only [hc]
 | (with_reducible refine aA hQ ?_;exact bx)
 | (cases h;done))
 refine Sem.seq (b:=Nd) (ib ?_)
 repeat' (first
 | simp only [go_sem,hD,hJ,hP,hY]
 | (with_reducible first | refine ax fun hc=> ?_ | refine ay fun hc=> ?_ | refine az (fun hc=> ?_) fun hc=> ?_) <;> (try simp only [hc,bs, ↓reduceIte]at h) <;> try simp only [hc]
 | (with_reducible refine aA hQ ?_;exact bx)
 | (cases h;done))
 refine Sem.re _ _ 1 0 (by rw [hB];exact mr rfl) (by rw [hB];exact mr rfl) ?_ ?_ (Ns hf hB hQ rfl rfl)
 ·(simp only [go_sem,hD,hJ,hP,hY];repeat' (first | exact Ok.out | with_reducible refine gA ?_ ?_))
 ·(simp only [go_sem,hD,hJ,hP,hY];repeat' (first | exact Ok.out | with_reducible refine gA ?_ ?_))
end Go.Abs

/-! RefMay3 -/

namespace Go.Abs
set_option maxRecDepth 8000
open Go.Proofs
def dO (i:It):List D:= [.int .i64 i.s.id, .int .i64 i.s.kind, .slice .shared 1 (i.s.labels.map encStr), .str i.s.name, .str i.s.proc,
 .int .i64 i.s.x.op, .int .i64 i.s.x.n, .str i.s.x.name, .slice .shared 4 (i.s.x.kids.map bL), .bool i.s.has, .slice .shared 6 (i.s.args.map dt), .slice .shared 13 (i.s.bp.map bn), .slice .shared 13 (i.s.bc.map bn), .int .i64 i.deep, .int .i64 i.b8, .bool i.bc]
theorem IL (i:It):D.bM 0 0 (dO i)=true:=by simp [dO,D.bM,D.ok,Tag.ok,dL,O4,CZ,q8]
theorem zK (l:List It):D.jb 0 0 (l.map dO)=true:=fZ IL l
theorem Wh (n m:Nat) (l:List It):D.ja n m (l.map dO)=l.map dO:=kU IL n m l
theorem Wi (n m:Nat) (i:It):D.gd n m (dO i)=dO i:=gp n m _ (IL i)
theorem Wj (x:It):(dO x).length=16:=nd rfl
theorem wZ (x:It):List.take 13 (dO x)=bn x.s:=by simp only [dO,cB];rfl
theorem Nu (x:It):(dO x)[0]? = some (.int .i64 x.s.id):=nd rfl
theorem KK (x:It):(dO x)[13]? = some (.int .i64 x.deep):=nd rfl
theorem A7 (s:Sm) (d n:Int) (e:Bool):dO ⟨s,d,n,e⟩ = [.int .i64 s.id, .int .i64 s.kind, .slice .shared 1 (s.labels.map encStr), .str s.name, .str s.proc,
 .int .i64 s.x.op, .int .i64 s.x.n, .str s.x.name, .slice .shared 4 (s.x.kids.map bL), .bool s.has, .slice .shared 6 (s.args.map dt), .slice .shared 13 (s.bp.map bn), .slice .shared 13 (s.bc.map bn), .int .i64 d, .int .i64 n, .bool e]:=nd rfl
attribute [go_sem] Wh Wi Wj wZ Nu KK
theorem Em (deep b8:Int) (bc:Bool) (out:List It) (s:Sm) :
 ga deep b8 bc out s=if decide (deep≤12)then de (deep+1) s.id true (de (deep+1) s.id false (out++ [⟨s,deep,b8,bc⟩]) s.bp) s.bc else out++ [⟨s,deep,b8,bc⟩]:=by
 cases s;simp only [ga]
mutual
theorem KM (deep b8:Int) (bc:Bool) (out:List It) (h:out.length≤200) : ∀ s:Sm,(ga deep b8 bc out s).length≤201
 | ⟨id,kind,labels,name,proc,x,has,args,bp,e⟩=>by
  simp only [ga]
  have h1:(out++ [(⟨⟨id,kind,labels,name,proc,x,has,args,bp,e⟩,deep,b8,bc⟩:It)]).length≤201:=by simp;omega
  split
  ·exact jr _ _ _ _ (jr _ _ _ _ h1 bp) e
  ·exact h1
theorem jr (deep b8:Int) (bc:Bool) (out:List It) (h:out.length≤201) : ∀ l:List Sm,(de deep b8 bc out l).length≤201
 | []=>by simpa only [de]using h
 | s::l=>by
  simp only [de]
  split
  ·rename_i hc
   simp only [decide_eq_true_eq]at hc
   exact jr deep b8 bc _ (KM _ _ _ _ (by omega) s) l
  ·exact h
end
abbrev KN (N:Nat):Prop:=∀ (l:List Sm) (deep b8:Int) (bc:Bool) (out:List It),Sm.aU l<N→0≤deep→deep≤13→out.length≤201→∀ {s:St} {t:Nat},s.aB[t]? = some (some out.length)→
 aD Tryz.prog ko [.slice .shared 13 (l.map bn), .int .i64 deep, .int .i64 b8, .bool bc, .slice (.tok t) 16 (out.map dO)] s (.slice (.tok t) 16 ((de deep b8 bc out l).map dO)) ⟨s.aw,s.aB.set t (some (de deep b8 bc out l).length)⟩
theorem S6 {N:Nat} (hN:N<4611686018427387904) (ih:KN N) {l:List Sm} {deep b8:Int} {bc:Bool} {out:List It} (hs:Sm.aU l<N+1) (BM:0≤deep) (hd:deep≤13) (ho:out.length≤201) :
 aD Tryz.prog ko [.slice .shared 13 (l.map bn), .int .i64 deep, .int .i64 b8, .bool bc, .slice (.tok 0) 16 (out.map dO)] ⟨[],[some out.length]⟩ (.slice (.tok 0) 16 ((de deep b8 bc out l).map dO)) ⟨[],[some (de deep b8 bc out l).length]⟩:=by
 generalize hR:de deep b8 bc out l=R
 refine aD.go vH rfl fun B Q hB hQ=> ?_
 have⟨hD,hJ,hP,hY⟩:=bK
 repeat' (first
 | simp only [go_sem,hD,hJ,hP,hY]
 | (with_reducible first | refine ax fun hc=> ?_ | refine ay fun hc=> ?_ | refine az (fun hc=> ?_) fun hc=> ?_) <;> (try simp only [hc,bs, ↓reduceIte]at h) <;> try simp only [hc]
 | (with_reducible refine aA hQ ?_;exact bx)
 | (cases h;done))
 refine cP 0 1 (bl.ind (ι:=List Sm×Nat×List It×Nat) (fun i=>l.drop i.2.1=i.1∧de deep b8 bc i.2.2.1 i.1=R∧i.2.2.1.length≤201∧i.2.2.2=i.2.2.1.length) (fun i=>i.1.length)
  (fun i=> [(0, .slice .shared 13 (l.map bn)),(1, .int .i64 deep),(2, .int .i64 b8),(3, .bool bc),(4, .slice (.tok 0) 16 (i.2.2.1.map dO)),(11, .int .i64 (i.2.1:Int))]) (fun i=>⟨[],[some i.2.2.2]⟩) ?_ (l,0,out,out.length) ⟨rfl,hR,ho,rfl⟩)
 rintro⟨rest,k,out,n⟩ ⟨h1,h2,h3,h4⟩ IH
 dsimp only at h1 h2 h3 h4
 subst h4
 have hlen:l.length<4611686018427387904:=by have:=Sm.c7 l;omega
 cases rest with
 | nil=>
  have hD:=drop_nil h1
  simp only [de]at h2
  subst h2
  repeat' (first
 | simp only [go_sem,hD,hJ,hP,hY]
 | (with_reducible first | refine ax fun hc=> ?_ | refine ay fun hc=> ?_ | refine az (fun hc=> ?_) fun hc=> ?_) <;> (try simp only [hc,bs, ↓reduceIte]at h) <;> try simp only [hc]
 | (with_reducible refine aA hQ ?_;exact bx)
 | (cases h;done))
 | cons v rest=>
  obtain⟨hJ,g2,hD,g4⟩:=drop_cons h1
  have bf:k<4611686018427387904:=by omega
  have hv:=Sm.bS (List.mem_of_getElem? hJ)
  have mO:Sm.aU v.bp<N∧Sm.aU v.bc<N:=by
   obtain⟨_,_,_,_,_,_,_,_,_,_⟩:=v
   simp only [Sm.size]at hv ⊢;omega
  simp only [de]at h2
  by_cases hc:out.length≤200
  ·have c1:decide ((out.length:Int)≤200)=true:=by simp;omega
   simp only [c1, ↓reduceIte,Em]at h2
   have hP:(out.length+1)*233≤bk:=by unfold bk;omega
   have mh:(out++ [(⟨v,deep,b8,bc⟩:It)]).length≤201:=by simp;omega
   have hw:IntKind.wrap .i64 (deep+1)=deep+1:=dE (by omega) (by omega)
   by_cases acE:deep≤12
   ·have c2:decide (deep≤12)=true:=by simp;omega
    simp only [c2, ↓reduceIte]at h2
    have f1:=fun {s:St} {t:Nat} (ht:s.aB[t]? = some (some (out++ [(⟨v,deep,b8,bc⟩:It)]).length))=>ih v.bp (deep+1) v.id false _ mO.1 (by omega) (by omega) mh ht
    have f2:=fun {s:St} {t:Nat} (ht:s.aB[t]? = some (some (de (deep+1) v.id false (out++ [(⟨v,deep,b8,bc⟩:It)]) v.bp).length))=>ih v.bc (deep+1) v.id true _ mO.2 (by omega) (by omega) (jr _ _ _ _ mh _) ht
    simp only [List.map_append,List.map_cons,List.map_nil,A7,List.length_append,List.length_cons,List.length_nil]at f1
    repeat' (first
 | simp only [go_sem,hD,hJ,hP,hY,c1,c2,hw,cB]
 | (with_reducible refine CU (f1 (by with_unfolding_all rfl)) ?_)
 | (with_reducible refine CU (f2 (by with_unfolding_all rfl)) ?_)
 | (with_reducible first | refine ax fun hc=> ?_ | refine ay fun hc=> ?_ | refine az (fun hc=> ?_) fun hc=> ?_) <;> (try simp only [hc,bs, ↓reduceIte]at h) <;> try simp only [hc]
 | (with_reducible refine aA hQ ?_;(try cases h);simp only [aE,aF,aN,aO,go_sem,hD,hJ,hP,hY,c1,c2,hw,cB];try exact aQ)
 | (cases h;done))
    refine bX 0 1 ?_ ?_ (IH (rest,k+1,_,_) ⟨g2,h2,jr _ _ _ _ (jr _ _ _ _ mh _) _,rfl⟩ (Nat.lt_succ_self _))
    ·(simp only [go_sem,hD,hJ,hP,hY,au bf];try exact aT)
    ·(simp only [go_sem,hD,hJ,hP,hY,au bf];try exact aT)
   ·have c2:decide (deep≤12)=false:=by simp;omega
    simp only [c2,Bool.false_eq_true, ↓reduceIte]at h2
    repeat' (first
 | simp only [go_sem,hD,hJ,hP,hY,c1,c2,cB]
 | (with_reducible first | refine ax fun hc=> ?_ | refine ay fun hc=> ?_ | refine az (fun hc=> ?_) fun hc=> ?_) <;> (try simp only [hc,bs, ↓reduceIte]at h) <;> try simp only [hc]
 | (with_reducible refine aA hQ ?_;(try cases h);simp only [aE,aF,aN,aO,go_sem,hD,hJ,hP,hY,c1,c2,cB];try exact aQ)
 | (cases h;done))
    refine bX 0 1 ?_ ?_ (IH (rest,k+1,out++ [⟨v,deep,b8,bc⟩],out.length+1) ⟨g2,h2,mh,by simp⟩ (Nat.lt_succ_self _))
    ·(simp only [go_sem,hD,hJ,hP,hY,au bf,A7,List.map_append,List.map_cons,List.map_nil];try exact aT)
    ·(simp only [go_sem,hD,hJ,hP,hY,au bf,A7,List.map_append,List.map_cons,List.map_nil];try exact aT)
  ·have c1:decide ((out.length:Int)≤200)=false:=by simp;omega
   simp only [c1,Bool.false_eq_true, ↓reduceIte]at h2
   subst h2
   repeat' (first
 | simp only [go_sem,hD,hJ,hP,hY,c1]
 | (with_reducible first | refine ax fun hc=> ?_ | refine ay fun hc=> ?_ | refine az (fun hc=> ?_) fun hc=> ?_) <;> (try simp only [hc,bs, ↓reduceIte]at h) <;> try simp only [hc]
 | (with_reducible refine aA hQ ?_;(try cases h);simp only [aE,aF,aN,aO,go_sem,hD,hJ,hP,hY,c1];try exact aQ)
 | (cases h;done))
theorem Nv : ∀ N,N<4611686018427387904→KN N:=by
 intro N
 induction N with
 | zero=>exact fun _ l deep b8 bc out h=>absurd h (Nat.not_lt_zero _)
 | succ N ih=>
  intro h l deep b8 bc out hs BM hd ho s t ht
  exact(S6 (by omega) (ih (by omega)) hs BM hd ho).Hb (pre:= [_,_,_,_]) (post:= []) (by simp [D.bM,D.ok,Tag.ok,q8]) rfl (zK out) (zK _) ht
theorem Nw {l:List Sm} (hs:Sm.aU l<4611686018427387000) (s:St) :
 aD Tryz.prog ko [.slice .shared 13 (l.map bn), .int .i64 1, .int .i64 0, .bool false, .slice .full 0 []] s (.slice .shared 16 ((de 1 0 false [] l).map dO)) s:=by
 refine aD.pure ?_ (by simp [D.bM,D.ok,Tag.ok,q8,D.jb]) (by simp [D.ok,Tag.ok,zK]) s
 obtain⟨N,hN⟩ : ∃ N,N=Sm.aU l:=⟨_,rfl⟩
 have ih:=Nv N (by omega)
 replace hs:Sm.aU l<N+1∧N<4611686018427387000:=by omega
 obtain⟨hs,hN⟩:=hs
 generalize hR:de 1 0 false [] l=R
 obtain⟨deep,IM⟩ : ∃ d:Int,d=1:=⟨_,rfl⟩
 obtain⟨b8,Nx⟩ : ∃ d:Int,d=0:=⟨_,rfl⟩
 obtain⟨bc,Ny⟩ : ∃ d:Bool,d=false:=⟨_,rfl⟩
 rw [← IM, ← Nx, ← Ny]at hR
 rw [← IM, ← Nx, ← Ny]
 have BM:0≤deep:=by omega
 have hd:deep≤13:=by omega
 clear IM Nx Ny
 have ho:([] : List It).length≤201:=Nat.zero_le _
 unfold S0
 refine aD.go vH rfl fun B Q hB hQ=> ?_
 have⟨hD,hJ,hP,hY⟩:=bK
 repeat' (first
 | simp only [go_sem,hD,hJ,hP,hY]
 | (with_reducible first | refine ax fun hc=> ?_ | refine ay fun hc=> ?_ | refine az (fun hc=> ?_) fun hc=> ?_) <;> (try simp only [hc,bs, ↓reduceIte]at h) <;> try simp only [hc]
 | (with_reducible refine aA hQ ?_;exact bx)
 | (cases h;done))
 refine bl.kT 4 16 rfl ?_
 simp only [go_sem,hD,hJ,hP,hY]
 refine cP 0 1 (bl.ind (ι:=List Sm×Nat×List It×Nat) (fun i=>l.drop i.2.1=i.1∧de deep b8 bc i.2.2.1 i.1=R∧i.2.2.1.length≤201∧i.2.2.2=i.2.2.1.length) (fun i=>i.1.length)
  (fun i=> [(0, .slice .shared 13 (l.map bn)),(1, .int .i64 deep),(2, .int .i64 b8),(3, .bool bc),(4, .slice (.tok 0) 16 (i.2.2.1.map dO)),(11, .int .i64 (i.2.1:Int))]) (fun i=>⟨[],[some i.2.2.2]⟩) ?_ (l,0,[],0) ⟨rfl,hR,ho,rfl⟩)
 rintro⟨rest,k,out,n⟩ ⟨h1,h2,h3,h4⟩ IH
 dsimp only at h1 h2 h3 h4
 subst h4
 have hlen:l.length<4611686018427387904:=by have:=Sm.c7 l;omega
 cases rest with
 | nil=>
  have hD:=drop_nil h1
  simp only [de]at h2
  subst h2
  repeat' (first
 | simp only [go_sem,hD,hJ,hP,hY]
 | (with_reducible first | refine ax fun hc=> ?_ | refine ay fun hc=> ?_ | refine az (fun hc=> ?_) fun hc=> ?_) <;> (try simp only [hc,bs, ↓reduceIte]at h) <;> try simp only [hc]
 | (with_reducible refine aA hQ ?_;exact bx)
 | (cases h;done))
 | cons v rest=>
  obtain⟨hJ,g2,hD,g4⟩:=drop_cons h1
  have bf:k<4611686018427387904:=by omega
  have hv:=Sm.bS (List.mem_of_getElem? hJ)
  have mO:Sm.aU v.bp<N∧Sm.aU v.bc<N:=by
   obtain⟨_,_,_,_,_,_,_,_,_,_⟩:=v
   simp only [Sm.size]at hv ⊢;omega
  simp only [de]at h2
  by_cases hc:out.length≤200
  ·have c1:decide ((out.length:Int)≤200)=true:=by simp;omega
   simp only [c1, ↓reduceIte,Em]at h2
   have hP:(out.length+1)*233≤bk:=by unfold bk;omega
   have mh:(out++ [(⟨v,deep,b8,bc⟩:It)]).length≤201:=by simp;omega
   have hw:IntKind.wrap .i64 (deep+1)=deep+1:=dE (by omega) (by omega)
   by_cases acE:deep≤12
   ·have c2:decide (deep≤12)=true:=by simp;omega
    simp only [c2, ↓reduceIte]at h2
    have f1:=fun {s:St} {t:Nat} (ht:s.aB[t]? = some (some (out++ [(⟨v,deep,b8,bc⟩:It)]).length))=>ih v.bp (deep+1) v.id false _ mO.1 (by omega) (by omega) mh ht
    have f2:=fun {s:St} {t:Nat} (ht:s.aB[t]? = some (some (de (deep+1) v.id false (out++ [(⟨v,deep,b8,bc⟩:It)]) v.bp).length))=>ih v.bc (deep+1) v.id true _ mO.2 (by omega) (by omega) (jr _ _ _ _ mh _) ht
    simp only [List.map_append,List.map_cons,List.map_nil,A7,List.length_append,List.length_cons,List.length_nil]at f1
    repeat' (first
 | simp only [go_sem,hD,hJ,hP,hY,c1,c2,hw,cB]
 | (with_reducible refine CU (f1 (by with_unfolding_all rfl)) ?_)
 | (with_reducible refine CU (f2 (by with_unfolding_all rfl)) ?_)
 | (with_reducible first | refine ax fun hc=> ?_ | refine ay fun hc=> ?_ | refine az (fun hc=> ?_) fun hc=> ?_) <;> (try simp only [hc,bs, ↓reduceIte]at h) <;> try simp only [hc]
 | (with_reducible refine aA hQ ?_;(try cases h);simp only [aE,aF,aN,aO,go_sem,hD,hJ,hP,hY,c1,c2,hw,cB];try exact aQ)
 | (cases h;done))
    refine bX 0 1 ?_ ?_ (IH (rest,k+1,_,_) ⟨g2,h2,jr _ _ _ _ (jr _ _ _ _ mh _) _,rfl⟩ (Nat.lt_succ_self _))
    ·(simp only [go_sem,hD,hJ,hP,hY,au bf];try exact aT)
    ·(simp only [go_sem,hD,hJ,hP,hY,au bf];try exact aT)
   ·have c2:decide (deep≤12)=false:=by simp;omega
    simp only [c2,Bool.false_eq_true, ↓reduceIte]at h2
    repeat' (first
 | simp only [go_sem,hD,hJ,hP,hY,c1,c2,cB]
 | (with_reducible first | refine ax fun hc=> ?_ | refine ay fun hc=> ?_ | refine az (fun hc=> ?_) fun hc=> ?_) <;> (try simp only [hc,bs, ↓reduceIte]at h) <;> try simp only [hc]
 | (with_reducible refine aA hQ ?_;(try cases h);simp only [aE,aF,aN,aO,go_sem,hD,hJ,hP,hY,c1,c2,cB];try exact aQ)
 | (cases h;done))
    refine bX 0 1 ?_ ?_ (IH (rest,k+1,out++ [⟨v,deep,b8,bc⟩],out.length+1) ⟨g2,h2,mh,by simp⟩ (Nat.lt_succ_self _))
    ·(simp only [go_sem,hD,hJ,hP,hY,au bf,A7,List.map_append,List.map_cons,List.map_nil];try exact aT)
    ·(simp only [go_sem,hD,hJ,hP,hY,au bf,A7,List.map_append,List.map_cons,List.map_nil];try exact aT)
  ·have c1:decide ((out.length:Int)≤200)=false:=by simp;omega
   simp only [c1,Bool.false_eq_true, ↓reduceIte]at h2
   subst h2
   repeat' (first
 | simp only [go_sem,hD,hJ,hP,hY,c1]
 | (with_reducible first | refine ax fun hc=> ?_ | refine ay fun hc=> ?_ | refine az (fun hc=> ?_) fun hc=> ?_) <;> (try simp only [hc,bs, ↓reduceIte]at h) <;> try simp only [hc]
 | (with_reducible refine aA hQ ?_;(try cases h);simp only [aE,aF,aN,aO,go_sem,hD,hJ,hP,hY,c1];try exact aQ)
 | (cases h;done))
theorem w5 {f:Pc} (hs:Sm.aU f.body<4611686018427387000) (s:St):aD Tryz.prog kn [.agg (bR f)] s (.slice .shared 16 (f.flat.map dO)) s:=by
 refine aD.pure ?_ (by simp only [D.bM,D.ok,rH];rfl) (by simp [D.ok,Tag.ok,zK]) s
 have h:=fun s=>Nw hs s
 unfold S0
 refine aD.go Cx rfl fun B Q hB hQ=> ?_
 have⟨hD,hJ,hP,hY⟩:=bK
 repeat' (first
 | simp only [go_sem,hD,hJ,hP,hY,Pc.flat]
 | (with_reducible refine CU (h _) ?_)
 | (with_reducible first | refine ax fun hc=> ?_ | refine ay fun hc=> ?_ | refine az (fun hc=> ?_) fun hc=> ?_) <;> (try simp only [hc,bs, ↓reduceIte]at h) <;> try simp only [hc]
 | (with_reducible refine aA hQ ?_;(try cases h);simp only [aE,aF,aN,aO,go_sem,hD,hJ,hP,hY,Pc.flat];try exact aQ)
 | (cases h;done))
end Go.Abs

/-! RefMay4 -/

namespace Go.Abs
set_option maxRecDepth 8000
open Go.Proofs
theorem Pc.pM (f:Pc):f.flat.length≤201:=jr _ _ _ _ (Nat.zero_le _) _
theorem C5 {p:Pg} (hs:Pc.aU p.procs<4611686018427387000) (s:St):aD Tryz.prog nu [.agg (bD p)] s (.slice .shared 16 (p.all.map dO)) s:=by
 refine aD.pure ?_ (by simp only [D.bM,D.ok,fT];rfl) (by simp [D.ok,Tag.ok,zK]) s
 have hlen:p.procs.length<4611686018427387904:=by have:=Pc.c7 p.procs;omega
 generalize hR:p.all=R
 unfold Pg.all at hR
 unfold S0
 refine aD.go Ed rfl fun B Q hB hQ=> ?_
 have⟨hD,hJ,hP,hY⟩:=bK
 repeat' (first
 | simp only [go_sem,hD,hJ,hP,hY]
 | (with_reducible first | refine ax fun hc=> ?_ | refine ay fun hc=> ?_ | refine az (fun hc=> ?_) fun hc=> ?_) <;> (try simp only [hc,bs, ↓reduceIte]at h) <;> try simp only [hc]
 | (with_reducible refine aA hQ ?_;exact bx)
 | (cases h;done))
 refine bl.kT 3 16 rfl ?_
 simp only [go_sem,hD,hJ,hP,hY]
 refine cP 1 1 (bl.ind (ι:=List Pc×Nat×List It×Nat) (fun i=>p.procs.drop i.2.1=i.1∧allM i.2.2.1 i.1=R∧i.2.2.1.length≤200∧i.2.2.2=i.2.2.1.length) (fun i=>i.1.length)
  (fun i=> [(1, .ptr 0 0),(3, .slice (.tok 0) 16 (i.2.2.1.map dO)),(7, .slice .shared 5 (p.procs.map bR)),(8, .int .i64 (p.procs.length:Int)),(9, .int .i64 (i.2.1:Int))]) (fun i=>⟨[bD p],[some i.2.2.2]⟩) ?_ (p.procs,0,[],0) ⟨rfl,hR,Nat.zero_le _,rfl⟩)
 rintro⟨rest,k,out,n⟩ ⟨h1,h,h3,h4⟩ IH
 dsimp only at h1 h h3 h4
 subst h4
 cases rest with
 | nil=>
  have hD:=drop_nil h1
  simp only [allM]at h
  subst h
  repeat' (first
 | simp only [go_sem,hD,hJ,hP,hY]
 | (with_reducible first | refine ax fun hc=> ?_ | refine ay fun hc=> ?_ | refine az (fun hc=> ?_) fun hc=> ?_) <;> (try simp only [hc,bs, ↓reduceIte]at h) <;> try simp only [hc]
 | (with_reducible refine aA hQ ?_;exact bx)
 | (cases h;done))
 | cons f rest=>
  obtain⟨hJ,g2,hD,g4⟩:=drop_cons h1
  have bf:k<4611686018427387904:=by omega
  have hf:=Pc.bS (List.mem_of_getElem? hJ)
  have hb:Sm.aU f.body<4611686018427387000:=by simp only [Pc.size]at hf;omega
  have iZ:=fun s=>w5 hb s
  have ajQ:=f.pM
  have hP:(out.length+f.flat.length)*233≤bk:=by unfold bk;omega
  simp only [allM,List.length_append]at h
  have cf:=fun(o:List (List D))=>yp (size:=16) (bytes:=232) (t:=0) (rows:=out.map dO) (new:=f.flat.map dO) (g:= .shared) (s:=⟨o,[some out.length]⟩) (by simpa using hP) (by simp)
  repeat' (first
 | simp only [go_sem,hD,hJ,hP,hY,cf]
 | (with_reducible refine CU (iZ _) ?_)
 | (with_reducible first | refine ax fun hc=> ?_ | refine ay fun hc=> ?_ | refine az (fun hc=> ?_) fun hc=> ?_) <;> (try simp only [hc,bs, ↓reduceIte]at h) <;> try simp only [hc]
 | (with_reducible refine aA hQ ?_;(try cases h);simp only [aE,aF,aN,aO,go_sem,hD,hJ,hP,hY,cf];try exact aQ)
 | (cases h;done))
  refine bX 1 1 ?_ ?_ (IH (rest,k+1,out++f.flat,out.length+f.flat.length) ⟨g2,h,by rename_i hc;simp only [decide_eq_false_iff_not]at hc;simp only [List.length_append];omega,by simp⟩ (Nat.lt_succ_self _))
  ·(simp only [go_sem,hD,hJ,hP,hY,au bf];try exact aT)
  ·(simp only [go_sem,hD,hJ,hP,hY,au bf];try exact aT)
structure Pg.ik (p:Pg):Prop where
 sz:p.size<4611686018427387000
 A8 : ∀ t∈p.globals,t.length<4611686018427387904
 kc : ∀ f∈p.procs,f.name.length<4611686018427387904∧(∀ t∈f.vars,t.length<4611686018427387904)∧(∀ t∈f.fin,t.length<4611686018427387904)∧∀ a∈f.params,a.name.length<4611686018427387904
 items : ∀ i∈p.all,i.s.ik
theorem En : ∀ (l:List Pc) (out:List It),out.length≤200→(allM out l).length≤401
 | [],out,h=>by simp only [allM];omega
 | f::l,out,h=>by
  have:=f.pM
  simp only [allM]
  split
  ·simp;omega
  ·rename_i hc
   exact En l _ (by simp only [decide_eq_true_eq]at hc;omega)
theorem Wl {p:Pg} (hf:p.ik) (s:St):aD Tryz.prog uW [.agg (bD p)] s (.bool p.may) s:=by
 refine aD.pure ?_ (by simp only [D.bM,D.ok,fT];rfl) rfl s
 obtain⟨ek,oZ,Eo,S7⟩:=hf
 have ng:Pc.aU p.procs<4611686018427387000:=by simp only [Pg.size]at ek;omega
 have IN:p.globals.length<4611686018427387904:=by simp only [Pg.size]at ek;omega
 have Wm:p.procs.length<4611686018427387904:=by have:=Pc.c7 p.procs;omega
 have hg:=fun s=>va IN oZ s
 have pw:=fun s=>C5 ng s
 have nM:p.all.length≤401:=En _ _ (Nat.zero_le _)
 unfold S0
 generalize h:p.may=R
 unfold Pg.may at h
 refine aD.go Eg rfl fun B Q hB hQ=> ?_
 have⟨hD,hJ,hP,hY⟩:=bK
 repeat' (first
 | simp only [go_sem,hD,hJ,hP,hY]
 | (with_reducible refine CU (hg _) ?_)
 | (with_reducible first | refine ax fun hc=> ?_ | refine ay fun hc=> ?_ | refine az (fun hc=> ?_) fun hc=> ?_) <;> (try simp only [hc,bs, ↓reduceIte]at h) <;> try simp only [hc]
 | (with_reducible refine aA hQ ?_;exact bx)
 | (cases h;done))
 refine cP 1 0 (bl.ind (ι:=List Pc×Nat) (fun i=>p.procs.drop i.2=i.1∧(if !(Pc.kc i.1)then false else if decide ((p.all.length:Int) > 200)then false else It.dz 0 p.all)=R) (fun i=>i.1.length)
  (fun i=> [(1, .ptr 0 0),(26, .slice .shared 5 (p.procs.map bR)),(27, .int .i64 (p.procs.length:Int)),(28, .int .i64 (i.2:Int))]) (fun i=>⟨[bD p],[]⟩) ?_ (p.procs,0) ⟨rfl,h⟩)
 rintro⟨rest,k⟩ ⟨h1,h⟩ IH
 dsimp only at h1 h
 cases rest with
 | nil=>
  have hD:=drop_nil h1
  simp only [Pc.kc,Bool.not_true,Bool.false_eq_true, ↓reduceIte]at h
  repeat' (first
 | simp only [go_sem,hD,hJ,hP,hY]
 | (with_reducible refine CU (pw _) ?_)
 | (with_reducible first | refine ax fun hc=> ?_ | refine ay fun hc=> ?_ | refine az (fun hc=> ?_) fun hc=> ?_) <;> (try simp only [hc,bs, ↓reduceIte]at h) <;> try simp only [hc]
 | (with_reducible refine aA hQ ?_;exact bx)
 | (cases h;done))
  clear IH
  refine cP 1 0 (bl.ind (ι:=List It×Nat) (fun i=>p.all.drop i.2=i.1∧It.dz i.2 i.1=R) (fun i=>i.1.length)
   (fun i=> [(1, .ptr 0 0),(7, .slice .shared 16 (p.all.map dO)),(79, .int .i64 (p.all.length:Int)),(80, .int .i64 (i.2:Int))]) (fun i=>⟨[bD p],[]⟩) ?_ (p.all,0) ⟨rfl,h⟩)
  rintro⟨rest,k⟩ ⟨h1,h⟩ IH
  dsimp only at h1 h
  cases rest with
  | nil=>
   have hD:=drop_nil h1
   simp only [It.dz]at h
   repeat' (first
 | simp only [go_sem,hD,hJ,hP,hY]
 | (with_reducible first | refine ax fun hc=> ?_ | refine ay fun hc=> ?_ | refine az (fun hc=> ?_) fun hc=> ?_) <;> (try simp only [hc,bs, ↓reduceIte]at h) <;> try simp only [hc]
 | (with_reducible refine aA hQ ?_;exact bx)
 | (cases h;done))
  | cons i rest=>
   obtain⟨hJ,g2,hD,g4⟩:=drop_cons h1
   have hi:=fun s=>Wa (S7 i (List.mem_of_getElem? hJ)) s
   have hP:k<4611686018427387904:=by omega
   simp only [It.dz]at h
   repeat' (first
 | simp only [go_sem,hD,hJ,hP,hY,au hP]
 | (with_reducible refine CU (hi _) ?_)
 | (with_reducible first | refine ax fun hc=> ?_ | refine ay fun hc=> ?_ | refine az (fun hc=> ?_) fun hc=> ?_) <;> (try simp only [hc,bs, ↓reduceIte]at h) <;> try simp only [hc]
 | (with_reducible refine aA hQ ?_;(try cases h);simp only [aE,aF,aN,aO,go_sem,hD,hJ,hP,hY,au hP];try exact aQ)
 | (cases h;done))
   refine bX 1 0 ?_ ?_ (IH (rest,k+1) ⟨g2,h⟩ (Nat.lt_succ_self _))
   ·(simp only [go_sem,hD,hJ,hP,hY,au hP];try exact aT)
   ·(simp only [go_sem,hD,hJ,hP,hY,au hP];try exact aT)
 | cons f rest=>
  obtain⟨hJ,g2,hD,g4⟩:=drop_cons h1
  have bf:k<4611686018427387904:=by omega
  have sQ:=Pc.bS (List.mem_of_getElem? hJ)
  simp only [Pc.size]at sQ
  obtain⟨sR,S8,S9,Ta⟩:=Eo f (List.mem_of_getElem? hJ)
  have hn:=pK f.name sR
  have hv:=fun s=>va (by omega) S8 s
  have he:=fun s=>va (by omega) S9 s
  simp only [Pc.kc]at h
  repeat' (first
 | simp only [go_sem,hD,hJ,hP,hY]
 | (with_reducible refine CU (hn _) ?_)
 | (with_reducible refine CU (hv _) ?_)
 | (with_reducible refine CU (he _) ?_)
 | (with_reducible first | refine ax fun hc=> ?_ | refine ay fun hc=> ?_ | refine az (fun hc=> ?_) fun hc=> ?_) <;> (try simp only [hc,bs, ↓reduceIte]at h) <;> try simp only [hc]
 | (with_reducible refine aA hQ ?_;exact bx)
 | (cases h;done))
  refine cP 1 0 (bl.ind (ι:=List Pm×Nat) (fun i=>f.params.drop i.2=i.1∧(if !(if !(Pm.dz i.1)then false else Pc.kc rest)then false else if decide ((p.all.length:Int) > 200)then false else It.dz 0 p.all)=R) (fun i=>i.1.length)
   (fun i=> [(1, .ptr 0 0),(26, .slice .shared 5 (p.procs.map bR)),(27, .int .i64 (p.procs.length:Int)),(28, .int .i64 (k:Int)),(61, .slice .shared 2 (f.params.map fI)),(62, .int .i64 (f.params.length:Int)),(63, .int .i64 (i.2:Int))]) (fun i=>⟨[bD p],[]⟩) ?_ (f.params,0) ⟨rfl,h⟩)
  rintro⟨vf,j⟩ ⟨j1,h⟩ sc
  dsimp only at j1 h
  cases vf with
  | nil=>
   have hD:=drop_nil j1
   simp only [Pm.dz,Bool.not_true,Bool.false_eq_true, ↓reduceIte]at h
   repeat' (first
 | simp only [go_sem,hD,hJ,hP,hY]
 | (with_reducible first | refine ax fun hc=> ?_ | refine ay fun hc=> ?_ | refine az (fun hc=> ?_) fun hc=> ?_) <;> (try simp only [hc,bs, ↓reduceIte]at h) <;> try simp only [hc]
 | (with_reducible refine aA hQ ?_;exact bx)
 | (cases h;done))
   refine bX 1 0 ?_ ?_ (IH (rest,k+1) ⟨g2,h⟩ (Nat.lt_succ_self _))
   ·(simp only [go_sem,hD,hJ,hP,hY,au bf];try exact aT)
   ·(simp only [go_sem,hD,hJ,hP,hY,au bf];try exact aT)
  | cons a vf=>
   obtain⟨hJ,b2,hD,b4⟩:=drop_cons j1
   have BN:j<4611686018427387904:=by omega
   have ha:=pK a.name (Ta a (List.mem_of_getElem? hJ))
   simp only [Pm.dz]at h
   repeat' (first
 | simp only [go_sem,hD,hJ,hP,hY]
 | (with_reducible refine CU (ha _) ?_)
 | (with_reducible first | refine ax fun hc=> ?_ | refine ay fun hc=> ?_ | refine az (fun hc=> ?_) fun hc=> ?_) <;> (try simp only [hc,bs, ↓reduceIte]at h) <;> try simp only [hc]
 | (with_reducible refine aA hQ ?_;exact bx)
 | (cases h;done))
   refine bX 1 0 ?_ ?_ (sc (vf,j+1) ⟨b2,h⟩ (Nat.lt_succ_self _))
   ·(simp only [go_sem,hD,hJ,hP,hY,au BN];try exact aT)
   ·(simp only [go_sem,hD,hJ,hP,hY,au BN];try exact aT)
end Go.Abs

/-! TMay3 -/

namespace Go.Abs
set_option maxRecDepth 8000
open Go.Proofs
def gate (nest:Int) (len n:Nat) (r:Bool×Nat):Bool×Nat:=if decide (nest > 12) && decide ((len:Int) > 0)then(false,n)else r
mutual
def Sm.nG (nest:Int) (n:Nat):Sm→Bool×Nat
 | ⟨id,kind,labels,name,proc,x,has,args,bp,bc⟩=>
  if decide (((n+1:Nat):Int) > 200) || id != ((n+1:Nat):Int) || !(dm labels) || !(Sm.fields ⟨id,kind,labels,name,proc,x,has,args,bp,bc⟩)then(false,n+1)
  else if !(gate (nest+1) bp.length (n+1) (Sm.eg (nest+1) (n+1) bp)).1 then(false,(gate (nest+1) bp.length (n+1) (Sm.eg (nest+1) (n+1) bp)).2)
  else gate (nest+1) bc.length (gate (nest+1) bp.length (n+1) (Sm.eg (nest+1) (n+1) bp)).2 (Sm.eg (nest+1) (gate (nest+1) bp.length (n+1) (Sm.eg (nest+1) (n+1) bp)).2 bc)
def Sm.eg (nest:Int) (n:Nat):List Sm→Bool×Nat
 | []=>(true,n)
 | s::l=>if !(Sm.nG nest n s).1 then(false,(Sm.nG nest n s).2)else Sm.eg nest (Sm.nG nest n s).2 l
end
def Sm.fu (nest:Int) (n:Nat) (l:List Sm):Bool×Nat:=gate nest l.length n (Sm.eg nest n l)
theorem A9 (nest:Int) (n:Nat) (s:Sm):Sm.nG nest n s =
 if decide (((n+1:Nat):Int) > 200) || s.id != ((n+1:Nat):Int) || !(dm s.labels) || !(s.fields)then(false,n+1)
 else if !(Sm.fu (nest+1) (n+1) s.bp).1 then(false,(Sm.fu (nest+1) (n+1) s.bp).2)
 else Sm.fu (nest+1) (Sm.fu (nest+1) (n+1) s.bp).2 s.bc:=by
 cases s;simp only [Sm.nG,Sm.fu];rfl
mutual
def Sm.p8:Sm→Prop
 | ⟨id,kind,labels,name,proc,x,has,args,bp,bc⟩=>Sm.ik ⟨id,kind,labels,name,proc,x,has,args,bp,bc⟩∧Sm.gJ bp∧Sm.gJ bc
def Sm.gJ:List Sm→Prop
 | []=>True
 | s::l=>s.p8∧Sm.gJ l
end
theorem yD (s:Sm):s.p8↔s.ik∧Sm.gJ s.bp∧Sm.gJ s.bc:=by cases s;simp only [Sm.p8]
theorem zL {s:Sm} : ∀ {l:List Sm},Sm.gJ l→s∈l→s.p8
 | y::l,h,m=>by
  simp only [Sm.gJ]at h
  rcases List.mem_cons.1 m with rfl | m
  ·exact h.1
  ·exact zL h.2 m
mutual
theorem QK (nest:Int) (n:Nat) : ∀ s:Sm,n≤201→(Sm.nG nest n s).2≤202∧((Sm.nG nest n s).1=true→(Sm.nG nest n s).2≤200)
 | ⟨id,kind,labels,name,proc,x,has,args,bp,bc⟩,hn=>by
  simp only [Sm.nG]
  split
  ·exact⟨by dsimp only;omega,fun h=>by cases h⟩
  rename_i hc
  simp only [Bool.or_eq_true,decide_eq_true_eq,not_or]at hc
  have vM:n+1≤200:=by omega
  have g1 : ∀ (nest:Int) (l:List Sm) (m:Nat),m≤200→(Sm.eg nest m l).2≤202∧((Sm.eg nest m l).1=true→(Sm.eg nest m l).2≤200)→
   (gate nest l.length m (Sm.eg nest m l)).2≤202∧((gate nest l.length m (Sm.eg nest m l)).1=true→(gate nest l.length m (Sm.eg nest m l)).2≤200):=by
   intro nest l m hm h
   unfold gate
   split
   ·exact⟨by dsimp only;omega,fun h=>by cases h⟩
   ·exact h
  have h1:=g1 (nest+1) bp (n+1) vM (xC (nest+1) (n+1) bp vM)
  split
  ·exact⟨h1.1,fun h=>by cases h⟩
  rename_i Rj
  have h2:=h1.2 (by simpa using Rj)
  exact g1 (nest+1) bc _ h2 (xC (nest+1) _ bc h2)
theorem xC (nest:Int) (n:Nat) : ∀ l:List Sm,n≤200→(Sm.eg nest n l).2≤202∧((Sm.eg nest n l).1=true→(Sm.eg nest n l).2≤200)
 | [],hn=>by simp only [Sm.eg];exact⟨by omega,fun _=>hn⟩
 | s::l,hn=>by
  simp only [Sm.eg]
  have h1:=QK nest n s (by omega)
  split
  ·exact⟨h1.1,fun h=>by cases h⟩
  rename_i hc
  exact xC nest _ l (h1.2 (by simpa using hc))
end
theorem Ba {nest:Int} {n:Nat} {l:List Sm} (hn:n≤200):(Sm.fu nest n l).2≤202∧((Sm.fu nest n l).1=true→(Sm.fu nest n l).2≤200):=by
 unfold Sm.fu gate
 split
 ·exact⟨by dsimp only;omega,fun h=>by cases h⟩
 ·exact xC nest n l hn
theorem QL : ∀ (m:Nat) (l:List Sm),Sm.aU l≤m→Sm.aU l<4611686018427387000→Sm.gJ l→∀ (nest:Int) (n:Nat),0≤nest→nest≤13→n≤200→
 aD Tryz.prog iO [.ptr 0 0, .slice .shared 13 (l.map bn), .int .i64 nest] ⟨[[.int .i64 n]],[]⟩ (.bool (Sm.fu nest n l).1) ⟨[[.int .i64 (Sm.fu nest n l).2]],[]⟩:=by
 intro m
 induction m with
 | zero=>
  intro l h hs hf nest n h0 h13 hn
  cases l with
  | nil=>
   have d1:decide ((0:Int) > 0)=false:=rfl
   have e:Sm.fu nest n [] = (true,n):=by simp [Sm.fu,gate,Sm.eg]
   have z:decide ((0:Int)<0)=false:=rfl
   rw [e]
   refine aD.go oW rfl fun B Q hB hQ=> ?_
   have⟨hD,hJ,hP,hY⟩:=bK
   repeat' (first
 | simp only [go_sem,hD,hJ,hP,hY,d1,z]
 | (with_reducible refine bl.uT ?_)
 | (with_reducible first | refine ax fun hc=> ?_ | refine ay fun hc=> ?_ | refine az (fun hc=> ?_) fun hc=> ?_) <;> (try simp only [hc,bs, ↓reduceIte]at h) <;> try simp only [hc]
 | (with_reducible refine aA hQ ?_;(try cases h);simp only [aE,aF,aN,aO,go_sem,hD,hJ,hP,hY,d1,z];try exact aQ)
 | (cases h;done))
  | cons s l=>simp only [Sm.aU]at h;omega
 | succ m ih=>
  intro l h hs hf nest n h0 h13 hn
  generalize hR:Sm.fu nest n l=R
  have hlen:=Sm.c7 l
  unfold Sm.fu gate at hR
  have h:=hR
  refine aD.go oW rfl fun B Q hB hQ=> ?_
  have⟨hD,hJ,hP,hY⟩:=bK
  repeat' (first
 | simp only [go_sem,hD,hJ,hP,hY]
 | (with_reducible first | refine ax fun hc=> ?_ | refine ay fun hc=> ?_ | refine az (fun hc=> ?_) fun hc=> ?_) <;> (try simp only [hc,bs, ↓reduceIte]at h) <;> try simp only [hc]
 | (with_reducible refine aA hQ ?_;(try cases h);simp only [aE,aF,aN,aO,go_sem,hD,hJ,hP,hY];repeat' (first | exact Ok.out | with_reducible refine gA ?_ ?_ | (simp;done)))
 | (cases h;done))
  all_goals
   have Wn:l≠ []→nest≤12:=by
    intro eQ
    have:l.length≠0:=by simpa using eQ
    simp_all <;> omega
   refine cP 1 0 (bl.ind (ι:=List Sm×Nat×Nat) (fun i=>l.drop i.2.1=i.1∧Sm.eg nest i.2.2 i.1=R∧i.2.2≤200) (fun i=>i.1.length)
    (fun i=> [(0, .ptr 0 0),(2, .int .i64 nest),(16, .slice .shared 13 (l.map bn)),(17, .int .i64 (l.length:Int)),(18, .int .i64 (i.2.1:Int))]) (fun i=>⟨[[.int .i64 (i.2.2:Int)]],[]⟩) ?_ (l,0,n) ⟨rfl,h,hn⟩)
   rintro⟨rest,k,j⟩ ⟨h1,h,hj⟩ IH
   dsimp only at h1 h hj
   cases rest with
   | nil=>
    have hD:=drop_nil h1
    simp only [Sm.eg]at h
    repeat' (first
 | simp only [go_sem,hD,hJ,hP,hY]
 | (with_reducible first | refine ax fun hc=> ?_ | refine ay fun hc=> ?_ | refine az (fun hc=> ?_) fun hc=> ?_) <;> (try simp only [hc,bs, ↓reduceIte]at h) <;> try simp only [hc]
 | (with_reducible refine aA hQ ?_;exact bx)
 | (cases h;done))
   | cons s rest=>
    obtain⟨hJ,g2,hD,g4⟩:=drop_cons h1
    have hP:k<4611686018427387904:=by omega
    have ma:=List.mem_of_getElem? hJ
    have ek:=Sm.bS ma
    have ajR:=Wn (by rintro rfl;simp at ma)
    obtain⟨rA,hft,hfe⟩:=(yD s).1 (zL hf ma)
    have acF:Sm.aU s.bp<s.size∧Sm.aU s.bc<s.size:=by cases s;simp only [Sm.size];omega
    have w1:IntKind.wrap .i64 ((j:Int)+1)=((j+1:Nat):Int):=by rw [dE] <;> omega
    have w2:IntKind.wrap .i64 (nest+1)=nest+1:=dE (by omega) (by omega)
    have c1:=fun s=>ve rA.SW rA.Xk s
    have c2:=fun s=>Nt rA s
    simp only [Sm.eg,A9]at h
    by_cases BN:j+1≤200
    ·have r1:=Ba (nest:=nest+1) (l:=s.bp) BN
     have c3:=fun s' ho=>(ih s.bp (by omega) (by omega) hft (nest+1) (j+1) (by omega) (by omega) BN).LZ (s:=s') (o:=0) (by simp [D.bM,D.ok,q8,Tag.ok]) rfl rfl rfl ho
     by_cases vN:(Sm.fu (nest+1) (j+1) s.bp).1=true
     ·have c4:=fun s' ho=>(ih s.bc (by omega) (by omega) hfe (nest+1) _ (by omega) (by omega) (r1.2 vN)).LZ (s:=s') (o:=0) (by simp [D.bM,D.ok,q8,Tag.ok]) rfl rfl rfl ho
      have r2:=Ba (nest:=nest+1) (l:=s.bc) (r1.2 vN)
      simp only [vN]at c3
      simp only [vN,Bool.not_true,Bool.false_eq_true, ↓reduceIte]at h
      repeat' (first
 | simp only [go_sem,hD,hJ,hP,hY,w1,w2,vN]
 | (with_reducible refine CU (c1 _) ?_)
 | (with_reducible refine CU (c2 _) ?_)
 | (with_reducible refine CU (c3 _ rfl) ?_)
 | (with_reducible refine CU (c4 _ rfl) ?_)
 | (with_reducible first | refine ax fun hc=> ?_ | refine ay fun hc=> ?_ | refine az (fun hc=> ?_) fun hc=> ?_) <;> (try simp only [hc,bs, ↓reduceIte]at h) <;> try simp only [hc]
 | (with_reducible refine aA hQ ?_;(try cases h);simp only [aE,aF,aN,aO,go_sem,hD,hJ,hP,hY,w1,w2,vN];try exact aQ)
 | (cases h;done))
      refine cP 1 0 (IH (rest,k+1,(Sm.fu (nest+1) (Sm.fu (nest+1) (j+1) s.bp).2 s.bc).2) ⟨g2,h,r2.2 (by assumption)⟩ (Nat.lt_succ_self _))
     ·have vN:(Sm.fu (nest+1) (j+1) s.bp).1=false:=by simpa using vN
      simp only [vN]at c3
      simp only [vN,Bool.not_false, ↓reduceIte]at h
      repeat' (first
 | simp only [go_sem,hD,hJ,hP,hY,w1,w2,vN]
 | (with_reducible refine CU (c1 _) ?_)
 | (with_reducible refine CU (c2 _) ?_)
 | (with_reducible refine CU (c3 _ rfl) ?_)
 | (with_reducible first | refine ax fun hc=> ?_ | refine ay fun hc=> ?_ | refine az (fun hc=> ?_) fun hc=> ?_) <;> (try simp only [hc,bs, ↓reduceIte]at h) <;> try simp only [hc]
 | (with_reducible refine aA hQ ?_;(try cases h);simp only [aE,aF,aN,aO,go_sem,hD,hJ,hP,hY,w1,w2,vN];try exact aQ)
 | (cases h;done))
    ·have d1:decide (((j+1:Nat):Int) > 200)=true:=by simp;omega
     simp only [d1,Bool.true_or,Bool.not_false, ↓reduceIte]at h
     repeat' (first
 | simp only [go_sem,hD,hJ,hP,hY,w1,w2,d1]
 | (with_reducible refine CU (c1 _) ?_)
 | (with_reducible refine CU (c2 _) ?_)
 | (with_reducible first | refine ax fun hc=> ?_ | refine ay fun hc=> ?_ | refine az (fun hc=> ?_) fun hc=> ?_) <;> (try simp only [hc,bs, ↓reduceIte]at h) <;> try simp only [hc]
 | (with_reducible refine aA hQ ?_;(try cases h);simp only [aE,aF,aN,aO,go_sem,hD,hJ,hP,hY,w1,w2,d1];try exact aQ)
 | (cases h;done))
end Go.Abs

/-! TMay4 -/

namespace Go.Abs
set_option maxRecDepth 8000
open Go.Proofs
def Pc.eg (n:Nat):List Pc→Bool
 | []=>true
 | f::l=>
  if decide ((f.params.length:Int) > 8) || decide ((f.vars.length:Int) > 16) || !(isName f.name) || !(dm f.vars) || !(dm f.fin)then false
  else if !(Pm.dz f.params)then false
  else if !(Sm.fu 1 n f.body).1 then false
  else Pc.eg (Sm.fu 1 n f.body).2 l
def Pg.Bb (p:Pg):Bool:=
 if decide ((p.globals.length:Int) > 16) || decide ((p.procs.length:Int) > 16) || !(dm p.globals)then false
 else Pc.eg 0 p.procs
structure Pg.zM (p:Pg):Prop where
 sz:p.size<4611686018427387000
 A8 : ∀ t∈p.globals,t.length<4611686018427387904
 kc : ∀ f∈p.procs,f.name.length<4611686018427387904∧(∀ t∈f.vars,t.length<4611686018427387904)∧(∀ t∈f.fin,t.length<4611686018427387904)∧∀ a∈f.params,a.name.length<4611686018427387904
 body : ∀ f∈p.procs,Sm.gJ f.body
theorem KO {p:Pg} (hf:p.zM) (s:St):aD Tryz.prog q9 [.agg (bD p)] s (.bool p.Bb) s:=by
 refine aD.pure ?_ (by simp only [D.bM,D.ok,fT];rfl) rfl s
 obtain⟨ek,oZ,Eo,GO⟩:=hf
 have ng:Pc.aU p.procs<4611686018427387000:=by simp only [Pg.size]at ek;omega
 have IN:p.globals.length<4611686018427387904:=by simp only [Pg.size]at ek;omega
 have Wm:p.procs.length<4611686018427387904:=by have:=Pc.c7 p.procs;omega
 have hg:=fun s=>ve IN oZ s
 unfold S0
 generalize h:p.Bb=R
 unfold Pg.Bb at h
 refine aD.go Ea rfl fun B Q hB hQ=> ?_
 have⟨hD,hJ,hP,hY⟩:=bK
 repeat' (first
 | simp only [go_sem,hD,hJ,hP,hY]
 | (with_reducible refine CU (hg _) ?_)
 | (with_reducible first | refine ax fun hc=> ?_ | refine ay fun hc=> ?_ | refine az (fun hc=> ?_) fun hc=> ?_) <;> (try simp only [hc,bs, ↓reduceIte]at h) <;> try simp only [hc]
 | (with_reducible refine aA hQ ?_;exact bx)
 | (cases h;done))
 refine cP 2 0 (bl.ind (ι:=List Pc×Nat×Nat) (fun i=>p.procs.drop i.2.1=i.1∧Pc.eg i.2.2 i.1=R∧i.2.2≤200) (fun i=>i.1.length)
  (fun i=> [(1, .ptr 0 0),(3, .ptr 1 0),(27, .slice .shared 5 (p.procs.map bR)),(28, .int .i64 (p.procs.length:Int)),(29, .int .i64 (i.2.1:Int))]) (fun i=>⟨[bD p,[.int .i64 (i.2.2:Int)]],[]⟩) ?_ (p.procs,0,0) ⟨rfl,h,Nat.zero_le _⟩)
 rintro⟨rest,k,n⟩ ⟨h1,h,hn⟩ IH
 dsimp only at h1 h hn
 cases rest with
 | nil=>
  have hD:=drop_nil h1
  simp only [Pc.eg]at h
  repeat' (first
 | simp only [go_sem,hD,hJ,hP,hY]
 | (with_reducible first | refine ax fun hc=> ?_ | refine ay fun hc=> ?_ | refine az (fun hc=> ?_) fun hc=> ?_) <;> (try simp only [hc,bs, ↓reduceIte]at h) <;> try simp only [hc]
 | (with_reducible refine aA hQ ?_;exact bx)
 | (cases h;done))
 | cons f rest=>
  obtain⟨hJ,g2,hD,g4⟩:=drop_cons h1
  have bf:k<4611686018427387904:=by omega
  have ma:=List.mem_of_getElem? hJ
  have sQ:=Pc.bS ma
  simp only [Pc.size]at sQ
  obtain⟨sR,S8,S9,Ta⟩:=Eo f ma
  have o3:=wX f.name sR
  have hv:=fun s=>ve (by omega) S8 s
  have he:=fun s=>ve (by omega) S9 s
  have hb:=fun s' o ho=>(QL _ f.body (Nat.le_refl _) (by omega) (GO f ma) 1 n (by omega) (by omega) hn).LZ (s:=s') (o:=o) (by simp [D.bM,D.ok,q8,Tag.ok]) rfl rfl rfl ho
  have hle:=Ba (nest:=1) (l:=f.body) hn
  simp only [Pc.eg]at h
  repeat' (first
 | simp only [go_sem,hD,hJ,hP,hY]
 | (with_reducible refine CU (o3 _) ?_)
 | (with_reducible refine CU (hv _) ?_)
 | (with_reducible refine CU (he _) ?_)
 | (with_reducible first | refine ax fun hc=> ?_ | refine ay fun hc=> ?_ | refine az (fun hc=> ?_) fun hc=> ?_) <;> (try simp only [hc,bs, ↓reduceIte]at h) <;> try simp only [hc]
 | (with_reducible refine aA hQ ?_;exact bx)
 | (cases h;done))
  refine cP 3 0 (bl.ind (ι:=List Pm×Nat) (fun i=>f.params.drop i.2=i.1∧(if !(Pm.dz i.1)then false else if !(Sm.fu 1 n f.body).1 then false else Pc.eg (Sm.fu 1 n f.body).2 rest)=R) (fun i=>i.1.length)
   (fun i=> [(1, .ptr 0 0),(3, .ptr 1 0),(5, .ptr 2 0),(27, .slice .shared 5 (p.procs.map bR)),(28, .int .i64 (p.procs.length:Int)),(29, .int .i64 (k:Int)),(62, .slice .shared 2 (f.params.map fI)),(63, .int .i64 (f.params.length:Int)),(64, .int .i64 (i.2:Int))]) (fun i=>⟨[bD p,[.int .i64 (n:Int)],bR f],[]⟩) ?_ (f.params,0) ⟨rfl,h⟩)
  rintro⟨vf,j⟩ ⟨j1,h⟩ sc
  dsimp only at j1 h
  cases vf with
  | nil=>
   have hD:=drop_nil j1
   simp only [Pm.dz,Bool.not_true,Bool.false_eq_true, ↓reduceIte]at h
   repeat' (first
 | simp only [go_sem,hD,hJ,hP,hY]
 | (with_reducible refine CU (hb _ _ rfl) ?_)
 | (with_reducible first | refine ax fun hc=> ?_ | refine ay fun hc=> ?_ | refine az (fun hc=> ?_) fun hc=> ?_) <;> (try simp only [hc,bs, ↓reduceIte]at h) <;> try simp only [hc]
 | (with_reducible refine aA hQ ?_;exact bx)
 | (cases h;done))
   refine bX 2 0 ?_ ?_ (IH (rest,k+1,(Sm.fu 1 n f.body).2) ⟨g2,h,hle.2 (by assumption)⟩ (Nat.lt_succ_self _))
   ·(simp only [go_sem,hD,hJ,hP,hY,au bf];try exact aT)
   ·(simp only [go_sem,hD,hJ,hP,hY,au bf];try exact aT)
  | cons a vf=>
   obtain⟨hJ,b2,hD,b4⟩:=drop_cons j1
   have BN:j<4611686018427387904:=by omega
   have ha:=wX a.name (Ta a (List.mem_of_getElem? hJ))
   simp only [Pm.dz]at h
   repeat' (first
 | simp only [go_sem,hD,hJ,hP,hY]
 | (with_reducible refine CU (ha _) ?_)
 | (with_reducible first | refine ax fun hc=> ?_ | refine ay fun hc=> ?_ | refine az (fun hc=> ?_) fun hc=> ?_) <;> (try simp only [hc,bs, ↓reduceIte]at h) <;> try simp only [hc]
 | (with_reducible refine aA hQ ?_;exact bx)
 | (cases h;done))
   refine bX 3 0 ?_ ?_ (sc (vf,j+1) ⟨b2,h⟩ (Nat.lt_succ_self _))
   ·(simp only [go_sem,hD,hJ,hP,hY,au BN];try exact aT)
   ·(simp only [go_sem,hD,hJ,hP,hY,au BN];try exact aT)
end Go.Abs

/-! MayFine -/

namespace Go.Abs
theorem vg {s:aH} (h:isName s=true):s.length≤8:=by
 cases s with
 | nil=>simp
 | cons c r=>
  simp only [isName]at h
  split at h
  ·cases h
  ·rename_i hc
   simp only [Bool.or_eq_true,decide_eq_true_eq,not_or]at hc
   simp only [List.length_cons];omega
theorem nh {t:aH} : ∀ {l:List aH},dm l=true→t∈l→isName t=true
 | s::l,h,m=>by
  simp only [dm]at h
  cases hs:isName s
  ·simp [hs]at h
  ·simp [hs]at h
   rcases List.mem_cons.1 m with rfl | m
   ·exact hs
   ·exact nh h m
theorem Ep {a:Ar} : ∀ {l:List Ar},Ar.dz l=true→a∈l→a.may=true
 | s::l,h,m=>by
  simp only [Ar.dz]at h
  cases hs:s.may
  ·simp [hs]at h
  ·simp [hs]at h
   rcases List.mem_cons.1 m with rfl | m
   ·exact hs
   ·exact Ep h m
theorem BO {a:Pm} : ∀ {l:List Pm},Pm.dz l=true→a∈l→isName a.name=true
 | s::l,h,m=>by
  simp only [Pm.dz]at h
  cases hs:isName s.name
  ·simp [hs]at h
  ·simp [hs]at h
   rcases List.mem_cons.1 m with rfl | m
   ·exact hs
   ·exact BO h m
mutual
theorem zN : ∀ x:Ex,x.form=true→x.texts
 | ⟨op,n,name,kids⟩,h=>by
  simp only [Ex.form]at h
  split at h
  ·cases h
  ·rename_i hc
   refine⟨?_,x6 kids h⟩
   simp only [Bool.or_eq_true,Bool.and_eq_true,Bool.not_eq_true',not_or,not_and,Bool.not_eq_false]at hc
   cases hn:(name == [])
   ·have:=vg (hc.2 hn);omega
   ·simp at hn;subst hn;simp
theorem x6 : ∀ l:List Ex,Ex.ny l=true→Ex.rX l
 | [],_=>trivial
 | x::l,h=>by
  simp only [Ex.ny]at h
  cases hx:x.form
  ·simp [hx]at h
  ·simp [hx]at h
   exact⟨zN x hx,x6 l h⟩
end
theorem BP {x:Ex} (h:x.may=true):x.texts:=by
 unfold Ex.may at h
 simp only [Bool.and_eq_true]at h
 exact zN x h.2
theorem zO {x:Ex} (h:x.none=true):x.texts:=by
 obtain⟨op,n,name,kids⟩:=x
 simp [Ex.none]at h
 obtain⟨⟨_,h1⟩,h2⟩:=h
 subst h1 h2
 exact⟨by simp,trivial⟩
mutual
theorem KP {deep b8:Int} {bc:Bool} {out:List It} {i:It} : ∀ s:Sm,i∈ga deep b8 bc out s→i∈out∨i.s.size≤s.size
 | ⟨id,kind,labels,name,proc,x,has,args,bp,e⟩,h=>by
  simp only [ga]at h
  have key:i∈out++ [(⟨⟨id,kind,labels,name,proc,x,has,args,bp,e⟩,deep,b8,bc⟩:It)]→i∈out∨i.s.size≤(⟨id,kind,labels,name,proc,x,has,args,bp,e⟩:Sm).size:=by
   intro h
   rcases List.mem_append.1 h with h | h
   ·exact .inl h
   ·simp at h;subst h;exact .inr (Nat.le_refl _)
  split at h
  ·rcases sS e h with h | h
   ·rcases sS bp h with h | h
    ·exact key h
    ·right;simp only [Sm.size];omega
   ·right;simp only [Sm.size];omega
  ·exact key h
theorem sS {deep b8:Int} {bc:Bool} {out:List It} {i:It} : ∀ l:List Sm,i∈de deep b8 bc out l→i∈out∨i.s.size<Sm.aU l
 | [],h=>by simp only [de]at h;exact .inl h
 | s::l,h=>by
  simp only [de]at h
  split at h
  ·rcases sS l h with h | h
   ·rcases KP s h with h | h
    ·exact .inl h
    ·right;simp only [Sm.aU];omega
   ·right;simp only [Sm.aU];omega
  ·exact .inl h
end
theorem Er {i:It} : ∀ (l:List Pc) (out:List It),i∈allM out l→i∈out∨i.s.size<Pc.aU l
 | [],out,h=>by simp only [allM]at h;exact .inl h
 | f::l,out,h=>by
  have key:i∈out++f.flat→i∈out∨i.s.size<Pc.aU (f::l):=by
   intro h
   rcases List.mem_append.1 h with h | h
   ·exact .inl h
   ·rcases sS _ h with h | h
    ·simp at h
    ·right;simp only [Pc.aU,Pc.size];omega
  simp only [allM]at h
  split at h
  ·exact key h
  ·rcases Er l _ h with h | h
   ·exact key h
   ·right;simp only [Pc.aU];omega
theorem zP {i:It} : ∀ (l:List It) (n:Nat),It.dz n l=true→i∈l→i.s.one=true
 | s::l,n,h,m=>by
  simp only [It.dz]at h
  split at h
  ·cases h
  ·rename_i hc
   simp only [Bool.or_eq_true,Bool.not_eq_true',not_or,Bool.not_eq_false]at hc
   rcases List.mem_cons.1 m with rfl | m
   ·exact hc.2
   ·exact zP l (n+1) h m
theorem Es {s:Sm} (h:s.one=true) (hs:s.size<4611686018427387000):s.ik:=by
 unfold Sm.one at h
 split at h
 ·cases h
 split at h
 ·cases h
 split at h
 ·cases h
 split at h
 ·cases h
 rename_i c1 c2 c3 c4
 simp only [Bool.or_eq_true,Bool.and_eq_true,Bool.not_eq_true',not_or,not_and,Bool.not_eq_false,decide_eq_true_eq]at c1 c2 c3 c4
 obtain⟨⟨⟨⟨⟨_,_⟩,acG⟩,cx⟩,cn⟩,_⟩:=c1
 obtain⟨c21,c22⟩:=c2
 obtain⟨⟨Xn,c32⟩,c33⟩:=c3
 have nm : ∀ {t:aH},isName t=true→t.length<4611686018427387904:=fun h=>by have:=vg h;omega
 have ek:1+s.labels.length+s.x.size+Ar.aU s.args≤s.size:=by cases s;simp only [Sm.size];omega
 have pw:=Ar.c7 s.args
 refine⟨fun t ht=>nm (nh acG ht),by omega, ?_, ?_,by omega, ?_,by omega,fun a ha=> ?_⟩
 ·cases hn:s.hasName
  ·cases he:(s.name == [])
   ·exact nm (c22 ⟨hn,he⟩).2
   ·simp at he;rw [he];simp
  ·exact nm (c21 hn)
 ·cases Dr:s.qo
  ·rw [Dr]at Xn
   have:s.proc = []:=by simpa using Xn
   rw [this];simp
  ·exact nm (c32 Dr)
 ·cases hx:s.wR
  ·exact zO (cn hx)
  ·exact BP (cx hx)
 ·have hm:=Ep c4 ha
  have BQ:=Ar.bS ha
  unfold Ar.may at hm
  split at hm
  ·simp only [Bool.and_eq_true]at hm
   exact⟨by omega,zO hm.2,nm hm.1⟩
  ·simp only [Bool.and_eq_true,beq_iff_eq]at hm
   exact⟨by omega,BP hm.2,by rw [hm.1];simp⟩
theorem BR {f:Pc} : ∀ {l:List Pc},Pc.kc l=true→f∈l→isName f.name=true∧dm f.vars=true∧dm f.fin=true∧Pm.dz f.params=true
 | s::l,h,m=>by
  simp only [Pc.kc]at h
  split at h
  ·cases h
  split at h
  ·cases h
  rename_i c1 c2
  simp only [Bool.or_eq_true,Bool.not_eq_true',not_or,Bool.not_eq_false]at c1 c2
  rcases List.mem_cons.1 m with rfl | m
  ·exact⟨c1.1.1.1.1,c1.1.2,c1.2,c2⟩
  ·exact BR h m
theorem Nz {p:Pg} (h:p.may=true) (hs:p.size<4611686018427387000):p.ik:=by
 unfold Pg.may at h
 split at h
 ·cases h
 split at h
 ·cases h
 split at h
 ·cases h
 rename_i c1 c2 c3
 simp only [Bool.or_eq_true,Bool.not_eq_true',not_or,Bool.not_eq_false]at c1 c2
 have nm : ∀ {t:aH},isName t=true→t.length<4611686018427387904:=fun h=>by have:=vg h;omega
 refine⟨hs,fun t ht=>nm (nh c1.2 ht),fun f hf=> ?_,fun i hi=> ?_⟩
 ·obtain⟨a,b,c,d⟩:=BR c2 hf
  exact⟨nm a,fun t ht=>nm (nh b ht),fun t ht=>nm (nh c ht),fun t ht=>nm (BO d ht)⟩
 ·refine Es (zP _ _ h hi) ?_
  rcases Er _ _ hi with h1 | h1
  ·simp at h1
  ·simp only [Pg.size]at hs;omega
end Go.Abs

/-! MayEq -/

namespace Go.Abs
theorem KQ {t:aH} (h:isName t=true):t≠ []:=by rintro rfl;cases h
theorem NA (op n:Int) (name:aH) (kids:List Ex):Ex.form ⟨op,n,name,kids⟩=true↔
 k8 op=(kids.length:Int)∧(op=1∨n=0)∧0≤n∧(op=2↔name≠ [])∧(name = []∨isName name=true)∧Ex.ny kids=true:=by
 simp only [Ex.form]
 split
 ·rename_i h
  simp only [Bool.or_eq_true,Bool.and_eq_true,bne_iff_ne,ne_eq,decide_eq_true_eq,Bool.not_eq_true']at h
  refine⟨fun h=>(Bool.false_ne_true h).elim,fun⟨h1,h2,h3,h4,h5,_⟩=> ?_⟩
  exfalso
  rcases h with (((h | h) | h) | h) | h
  ·exact h h1
  ·rcases h2 with h2 | h2
   ·exact h.1 h2
   ·exact h.2 h2
  ·omega
  ·by_cases h2:op=2 <;> cases name <;> simp_all
  ·rcases h5 with h5 | h5
   ·subst h5;simp at h
   ·rw [h5]at h;simp at h
 ·rename_i h
  simp only [Bool.or_eq_true,Bool.and_eq_true,bne_iff_ne,ne_eq,decide_eq_true_eq,Bool.not_eq_true',not_or,not_and,Decidable.not_not,Bool.not_eq_false]at h
  obtain⟨⟨⟨⟨h1,h2⟩,h3⟩,h4⟩,h5⟩:=h
  refine⟨fun h=>⟨h1, ?_,by omega, ?_, ?_,h⟩,fun h=>h.2.2.2.2.2⟩
  ·by_cases h:op=1
   ·exact .inl h
   ·exact .inr (h2 h)
  ·by_cases h2:op=2 <;> cases name <;> simp_all
  ·cases name with
   | nil=>exact .inl rfl
   | cons c r=>exact .inr (h5 rfl)
theorem Tb (op n:Int) (name:aH) (kids:List Ex) (k:Int):Ex.dp k ⟨op,n,name,kids⟩=true↔
 1≤k∧(kids.length:Int)=k8 op∧(if op=1 then 0≤n∧name = []else if op=2 then n=0∧isName name=true else n=0∧name = []∧Ex.zI (k - 1) kids=true):=by
 simp only [Ex.dp]
 split
 ·rename_i h
  simp only [Bool.or_eq_true,decide_eq_true_eq,bne_iff_ne,ne_eq]at h
  refine⟨fun h=>(Bool.false_ne_true h).elim,fun⟨h1,h2,_⟩=> ?_⟩
  rcases h with h | h
  ·omega
  ·exact(h h2).elim
 rename_i h
 simp only [Bool.or_eq_true,decide_eq_true_eq,bne_iff_ne,ne_eq,not_or,Decidable.not_not]at h
 have h1:1≤k:=by omega
 simp only [h1,h.2,true_and]
 by_cases o1:op=1
 ·subst o1
  cases name <;> simp
 ·have o1' : ¬ (op==1)=true:=by simpa using o1
  rw [if_neg o1',if_neg o1]
  by_cases o2:op=2
  ·subst o2;simp
  ·have o2' : ¬ (op==2)=true:=by simpa using o2
   rw [if_neg o2',if_neg o2]
   by_cases hn:n=0
   ·subst hn
    cases name <;> simp
   ·simp [hn]
mutual
theorem PA : ∀ (x:Ex) (k:Int),0≤k→(x.dp k=true↔(x.depth:Int)≤k∧x.form=true)
 | ⟨op,n,name,kids⟩,k,hk=>by
  rw [Tb,NA]
  have hd:Ex.depth ⟨op,n,name,kids⟩=Ex.jd kids+1:=by simp only [Ex.depth]
  rw [hd]
  by_cases h1:1≤k
  ·have ih:=KR kids (k - 1) (by omega)
   by_cases o1:op=1
   ·subst o1
    have ha:k8 1=0:=rfl
    rw [ha,if_pos rfl]
    constructor
    ·rintro⟨_,h2,h3,h4⟩
     have:kids = []:=List.eq_nil_of_length_eq_zero (by omega)
     subst this;subst h4
     simp [Ex.jd,Ex.ny,h3];omega
    ·rintro⟨h2,h3,_,h4,h5,_⟩
     refine⟨h1,h3.symm,h4, ?_⟩
     cases name
     ·rfl
     ·simp at h5
   ·rw [if_neg o1]
    by_cases o2:op=2
    ·subst o2
     have ha:k8 2=0:=rfl
     rw [ha,if_pos rfl]
     constructor
     ·rintro⟨_,h2,h3,h4⟩
      have:kids = []:=List.eq_nil_of_length_eq_zero (by omega)
      subst this;subst h3
      have:=KQ h4
      simp [Ex.jd,Ex.ny,h4,this];omega
     ·rintro⟨h2,h3,h4,_,h5,h6,_⟩
      refine⟨h1,h3.symm,h4.resolve_left o1, ?_⟩
      exact h6.resolve_left (h5.1 rfl)
    ·rw [if_neg o2,ih]
     constructor
     ·rintro⟨_,h2,h3,h4,h5,h6⟩
      subst h3;subst h4
      exact⟨by omega,h2.symm, .inr rfl,Int.le_refl _,by simp [o2], .inl rfl,h6⟩
     ·rintro⟨h2,h3,h4,_,h5,h6,h7⟩
      refine⟨h1,h3.symm,h4.resolve_left o1, ?_,by omega,h7⟩
      exact Decidable.byContradiction fun h=>o2 (h5.2 h)
  ·constructor
   ·rintro⟨h,_⟩;exact(h1 h).elim
   ·rintro⟨h,_⟩;omega
theorem KR : ∀ (l:List Ex) (k:Int),0≤k→(Ex.zI k l=true↔(Ex.jd l:Int)≤k∧Ex.ny l=true)
 | [],k,hk=>by simp [Ex.zI,Ex.jd,Ex.ny,hk]
 | x::l,k,hk=>by
  have h1:=PA x k hk
  have h2:=KR l k hk
  have hd:Ex.jd (x::l)=max x.depth (Ex.jd l):=by simp only [Ex.jd]
  rw [hd]
  simp only [Ex.zI,Ex.ny]
  cases hx:Ex.dp k x
  ·simp only [Bool.not_false, ↓reduceIte,Bool.false_eq_true,false_iff,not_and]
   intro h3
   have : ¬ ((x.depth:Int)≤k∧x.form=true):=by rw [← h1,hx];simp
   have hf:x.form=false:=by
    cases hf:x.form
    ·rfl
    ·exact(this ⟨by omega,hf⟩).elim
   simp [hf]
  ·have:=h1.1 hx
   simp only [Bool.not_true,Bool.false_eq_true, ↓reduceIte,this.2,h2]
   have h3:=this.1
   refine and_congr_left fun _=> ?_
   omega
end
theorem KS (x:Ex):x.dp 20=x.may:=by
 rw [Bool.eq_iff_iff,PA x 20 (by omega)]
 unfold Ex.may
 simp only [Bool.and_eq_true,decide_eq_true_eq]
 refine and_congr_left fun _=> ?_
 omega
theorem BS (x:Ex) (b:Bool):sb x b=if b then x.may else x.none:=by
 unfold sb
 rw [KS]
 cases b <;> simp
theorem BT (t:aH) (b:Bool):qp t b=if b then isName t else t == []:=by
 unfold qp
 cases b <;> simp
theorem x7 : ∀ l:List Ar,nz l=Ar.dz l
 | []=>rfl
 | a::l=>by
  simp only [nz,Ar.dz,Ar.may,BS,BT,x7 l]
  grind
theorem acH {α:Type} (l:List α):((l.length:Int)==0) = !(decide ((l.length:Int) > 0)):=by
 cases l with
 | nil=>rfl
 | cons a l=>
  have h1:(((a::l).length:Int)==0)=false:=by simp only [List.length_cons,beq_eq_false_iff_ne];omega
  have h2:decide (((a::l).length:Int) > 0)=true:=by simp only [List.length_cons,decide_eq_true_eq];omega
  rw [h1,h2];rfl
theorem zQ (s:Sm):s.one=(dm s.labels && s.fields):=by
 have hk:s.kind=1∨s.kind=2∨s.kind=3∨s.kind=4∨s.kind=5∨s.kind=6∨s.kind=7∨s.kind=8∨s.kind=9∨s.kind=10∨s.kind<1∨s.kind > 10:=by omega
 unfold Sm.one Sm.fields Sm.flags Sm.wR Sm.hasName Sm.qo
 have p1:isName [] = false:=rfl
 rcases hk with h | h | h | h | h | h | h | h | h | h | h | h
 all_goals
  simp only [h,acH,x7,BS,BT,Sm.C4,Sm.C3]
  grind
end Go.Abs

/-! Nm1 -/

namespace Go.Abs
set_option maxRecDepth 8000
open Go.Proofs
mutual
def Ex.gh (out:List aH):Ex→List aH
 | ⟨op,_,name,kids⟩=>Ex.fl (if op==2 && !(dv out name)then out++ [name]else out) kids
def Ex.fl (out:List aH):List Ex→List aH
 | []=>out
 | x::l=>Ex.fl (Ex.gh out x) l
end
def Ex.names (x:Ex):List aH:=if x.may then x.gh []else []
mutual
theorem kx (out:List aH) : ∀ x:Ex,(Ex.gh out x).length≤out.length+x.size
 | ⟨op,n,name,kids⟩=>by
  simp only [Ex.gh,Ex.size]
  have h:=BU (if op==2 && !(dv out name)then out++ [name]else out) kids
  refine Nat.le_trans h ?_
  split <;> simp <;> omega
theorem BU (out:List aH) : ∀ l:List Ex,(Ex.fl out l).length≤out.length+Ex.aU l
 | []=>by simp [Ex.fl,Ex.aU]
 | x::l=>by
  simp only [Ex.fl,Ex.aU]
  have h1:=kx out x
  have h2:=BU (Ex.gh out x) l
  omega
end
def ke (out:List aH) (x:aH):List aH:=if dv out x then out else out++ [x]
def o4 (x:aH):List aH→Bool
 | []=>false
 | s::l=>if s==x then true else o4 x l
theorem w6 (x:aH) : ∀ l:List aH,o4 x l=dv l x
 | []=>rfl
 | s::l=>by
  have h1:=gU (s::l) x
  have h2:=gU l x
  have h3:=w6 x l
  simp only [o4]
  by_cases e:s=x
  ·subst e;simp only [beq_self_eq_true,if_true];exact(h1.2 List.mem_cons_self).symm
  ·have e':(s==x)=false:=by simp [e]
   simp only [e',Bool.false_eq_true,if_false,h3]
   cases ha:dv l x <;> cases hb:dv (s::l) x <;> simp_all [Ne.symm e]
theorem NB {out:List aH} (hl:out.length<1000000000) (x:aH):aD Tryz.prog lX [.slice (.tok 0) 1 (out.map encStr), .str x] ⟨[],[some out.length]⟩ (.slice (.tok 0) 1 ((ke out x).map encStr)) ⟨[],[some (ke out x).length]⟩:=by
 rw [ke, ← w6]
 cases h:o4 x out
 all_goals
  simp only [Bool.false_eq_true,if_false,if_true]
  refine aD.go sN rfl fun B Q hB hQ=> ?_
  have⟨hD,hJ,hP,hY⟩:=bK
  have hP:(out.length+1)*17≤bk:=by unfold bk;omega
  repeat' (first
 | simp only [go_sem,hD,hJ,hP,hY]
 | (with_reducible first | refine ax fun hc=> ?_ | refine ay fun hc=> ?_ | refine az (fun hc=> ?_) fun hc=> ?_) <;> (try simp only [hc,bs, ↓reduceIte]at h) <;> try simp only [hc]
 | (with_reducible refine aA hQ ?_;exact bx)
 | (cases h;done))
  refine cP 0 1 (bl.ind (ι:=List aH×Nat) (fun i=>out.drop i.2=i.1∧o4 x i.1=_) (fun i=>i.1.length)
   (fun i=> [(0, .slice (.tok 0) 1 (out.map encStr)),(1, .str x),(7, .slice (.tok 0) 1 (out.map encStr)),(8, .int .i64 (out.length:Int)),(9, .int .i64 (i.2:Int))]) (fun i=>⟨[],[some out.length]⟩) ?_ (out,0) ⟨rfl,h⟩)
  rintro⟨rest,k⟩ ⟨h1,h⟩ IH
  dsimp only at h1 h
  cases rest with
  | nil=>
   have hD:=drop_nil h1
   simp only [o4]at h
   repeat' (first
 | simp only [go_sem,hD,hJ,hP,hY,List.map_append,List.map_cons,List.map_nil,List.length_append,List.length_cons,List.length_nil,encStr]
 | (with_reducible first | refine ax fun hc=> ?_ | refine ay fun hc=> ?_ | refine az (fun hc=> ?_) fun hc=> ?_) <;> (try simp only [hc,bs, ↓reduceIte]at h) <;> try simp only [hc]
 | (with_reducible refine aA hQ ?_;(try cases h);simp only [aE,aF,aN,aO,go_sem,hD,hJ,hP,hY,List.map_append,List.map_cons,List.map_nil,List.length_append,List.length_cons,List.length_nil,encStr];try exact aQ)
 | (cases h;done))
  | cons a rest=>
   obtain⟨hJ,g2,hD,g4⟩:=drop_cons h1
   have bf:k<4611686018427387904:=by omega
   simp only [o4]at h
   repeat' (first
 | simp only [go_sem,hD,hJ,hP,hY]
 | (with_reducible first | refine ax fun hc=> ?_ | refine ay fun hc=> ?_ | refine az (fun hc=> ?_) fun hc=> ?_) <;> (try simp only [hc,bs, ↓reduceIte]at h) <;> try simp only [hc]
 | (with_reducible refine aA hQ ?_;exact bx)
 | (cases h;done))
   refine bX 0 1 ?_ ?_ (IH (rest,k+1) ⟨g2,h⟩ (Nat.lt_succ_self _))
   ·(simp only [go_sem,hD,hJ,hP,hY,au bf];try exact aT)
   ·(simp only [go_sem,hD,hJ,hP,hY,au bf];try exact aT)
theorem NC {out:List aH} (hl:out.length<1000000000) (x:aH) {s:St} {t:Nat} (ht:s.aB[t]? = some (some out.length)):aD Tryz.prog lX [.slice (.tok t) 1 (out.map encStr), .str x] s (.slice (.tok t) 1 ((ke out x).map encStr)) ⟨s.aw,s.aB.set t (some (ke out x).length)⟩:=
 (NB hl x).Hb (pre:= []) (post:= [_]) rfl rfl (dL out) (dL _) ht
abbrev KT (N:Nat):Prop:=∀ (x:Ex),x.size≤N→∀ out:List aH,out.length+x.size≤1000000000→∀ {s:St} {t:Nat},s.aB[t]? = some (some out.length)→
 aD Tryz.prog gx [.agg (bL x), .slice (.tok t) 1 (out.map encStr)] s (.slice (.tok t) 1 ((x.gh out).map encStr)) ⟨s.aw,s.aB.set t (some (x.gh out).length)⟩
theorem Tc {N:Nat} (ih:KT N) {op m:Int} {name:aH} {kids:List Ex} (h:Ex.size ⟨op,m,name,kids⟩≤N+1) {out:List aH} (ho:out.length+Ex.size ⟨op,m,name,kids⟩≤1000000000) :
 aD Tryz.prog gx [.agg (bL ⟨op,m,name,kids⟩), .slice (.tok 0) 1 (out.map encStr)] ⟨[],[some out.length]⟩ (.slice (.tok 0) 1 ((Ex.gh out ⟨op,m,name,kids⟩).map encStr)) ⟨[],[some (Ex.gh out ⟨op,m,name,kids⟩).length]⟩:=by
 obtain⟨R,hG⟩ : ∃ R,Ex.gh out ⟨op,m,name,kids⟩=R:=⟨_,rfl⟩
 rw [hG]
 simp only [Ex.gh]at hG
 simp only [Ex.size]at h ho
 have hlen:kids.length<1000000000:=by have:=Ex.c7 kids;omega
 have hk : ∀ y∈kids,∀ out:List aH,out.length+y.size≤1000000000→∀ {s:St} {t:Nat},s.aB[t]? = some (some out.length)→
  aD Tryz.prog gx [.agg (bL y), .slice (.tok t) 1 (out.map encStr)] s (.slice (.tok t) 1 ((y.gh out).map encStr)) ⟨s.aw,s.aB.set t (some (y.gh out).length)⟩:=fun y hy out ho=>
  ih y (by have:=Ex.bS hy;omega) out ho
 refine aD.go oX rfl fun B Q hB hQ=> ?_
 have⟨hD,hJ,hP,hY⟩:=bK
 have hP:(out.length+1)*17≤bk:=by unfold bk;omega
 rcases Bool.eq_false_or_eq_true (op==2)with b1 | b1
 ·rcases Bool.eq_false_or_eq_true (dv out name)with b2 | b2
  ·simp only [b1,b2,Bool.not_true,Bool.and_false,Bool.false_eq_true,if_false]at hG
   repeat' (first
 | simp only [go_sem,hD,hJ,hP,hY,b1,b2]
 | (with_reducible refine CU (iI (l:=out) (by omega) name _ _) ?_)
 | (with_reducible first | refine ax fun hc=> ?_ | refine ay fun hc=> ?_ | refine az (fun hc=> ?_) fun hc=> ?_) <;> (try simp only [hc,bs, ↓reduceIte]at h) <;> try simp only [hc]
 | (with_reducible refine aA hQ ?_;(try cases h);simp only [aE,aF,aN,aO,go_sem,hD,hJ,hP,hY,b1,b2];try exact aQ)
 | (cases h;done))
   refine cP 1 1 (bl.ind (ι:=List Ex×Nat×List aH×Nat) (fun i=>kids.drop i.2.1=i.1∧Ex.fl i.2.2.1 i.1=R∧i.2.2.1.length+Ex.aU i.1≤1000000000∧i.2.2.2=i.2.2.1.length) (fun i=>i.1.length)
    (fun i=> [(1, .slice (.tok 0) 1 (i.2.2.1.map encStr)),(2, .ptr 0 0),(23, .slice .shared 4 (kids.map bL)),(24, .int .i64 (kids.length:Int)),(25, .int .i64 (i.2.1:Int))]) (fun i=>⟨[bL ⟨op,m,name,kids⟩],[some i.2.2.2]⟩) ?_ (kids,0,out,out.length) ⟨rfl,hG,by simp;omega,by simp⟩)
   rintro⟨rest,k,bo,n'⟩ ⟨h1,h2,h3,h4⟩ IH
   dsimp only at h1 h2 h3 h4
   subst h4
   cases rest with
   | nil=>
    have hD:=drop_nil h1
    simp only [Ex.fl]at h2
    subst h2
    repeat' (first
 | simp only [go_sem,hD,hJ,hP,hY]
 | (with_reducible first | refine ax fun hc=> ?_ | refine ay fun hc=> ?_ | refine az (fun hc=> ?_) fun hc=> ?_) <;> (try simp only [hc,bs, ↓reduceIte]at h) <;> try simp only [hc]
 | (with_reducible refine aA hQ ?_;exact bx)
 | (cases h;done))
   | cons y rest=>
    obtain⟨hJ,g2,hD,g4⟩:=drop_cons h1
    have bf:k<4611686018427387904:=by omega
    simp only [Ex.fl]at h2
    simp only [Ex.aU]at h3
    have hy:=fun {s:St} {t:Nat} (ht:s.aB[t]? = some (some bo.length))=>hk y (List.mem_of_getElem? hJ) bo (by omega) ht
    have hl:=kx bo y
    repeat' (first
 | simp only [go_sem,hD,hJ,hP,hY]
 | (with_reducible refine CU (hy (by with_unfolding_all rfl)) ?_)
 | (with_reducible first | refine ax fun hc=> ?_ | refine ay fun hc=> ?_ | refine az (fun hc=> ?_) fun hc=> ?_) <;> (try simp only [hc,bs, ↓reduceIte]at h) <;> try simp only [hc]
 | (with_reducible refine aA hQ ?_;exact bx)
 | (cases h;done))
    refine bX 1 1 ?_ ?_ (IH (rest,k+1,_,_) ⟨g2,h2,by dsimp only;omega,rfl⟩ (Nat.lt_succ_self _))
    ·(simp only [go_sem,hD,hJ,hP,hY,au bf];try exact aT)
    ·(simp only [go_sem,hD,hJ,hP,hY,au bf];try exact aT)
  ·simp only [b1,b2,Bool.not_false,Bool.and_true,if_true]at hG
   repeat' (first
 | simp only [go_sem,hD,hJ,hP,hY,b1,b2]
 | (with_reducible refine CU (iI (l:=out) (by omega) name _ _) ?_)
 | (with_reducible first | refine ax fun hc=> ?_ | refine ay fun hc=> ?_ | refine az (fun hc=> ?_) fun hc=> ?_) <;> (try simp only [hc,bs, ↓reduceIte]at h) <;> try simp only [hc]
 | (with_reducible refine aA hQ ?_;(try cases h);simp only [aE,aF,aN,aO,go_sem,hD,hJ,hP,hY,b1,b2];try exact aQ)
 | (cases h;done))
   refine bX 1 1 ?_ ?_ (bl.ind (ι:=List Ex×Nat×List aH×Nat) (fun i=>kids.drop i.2.1=i.1∧Ex.fl i.2.2.1 i.1=R∧i.2.2.1.length+Ex.aU i.1≤1000000000∧i.2.2.2=i.2.2.1.length) (fun i=>i.1.length)
    (fun i=> [(1, .slice (.tok 0) 1 (i.2.2.1.map encStr)),(2, .ptr 0 0),(23, .slice .shared 4 (kids.map bL)),(24, .int .i64 (kids.length:Int)),(25, .int .i64 (i.2.1:Int))]) (fun i=>⟨[bL ⟨op,m,name,kids⟩],[some i.2.2.2]⟩) ?_ (kids,0,(out++ [name]),(out.length+1)) ⟨rfl,hG,by simp;omega,by simp⟩)
   ·(simp only [go_sem,hD,hJ,hP,hY,List.map_append,List.map_cons,List.map_nil,List.length_append,List.length_cons,List.length_nil,encStr];try exact aT)
   ·(simp only [go_sem,hD,hJ,hP,hY,List.map_append,List.map_cons,List.map_nil,List.length_append,List.length_cons,List.length_nil,encStr];try exact aT)
   rintro⟨rest,k,bo,n'⟩ ⟨h1,h2,h3,h4⟩ IH
   dsimp only at h1 h2 h3 h4
   subst h4
   cases rest with
   | nil=>
    have hD:=drop_nil h1
    simp only [Ex.fl]at h2
    subst h2
    repeat' (first
 | simp only [go_sem,hD,hJ,hP,hY]
 | (with_reducible first | refine ax fun hc=> ?_ | refine ay fun hc=> ?_ | refine az (fun hc=> ?_) fun hc=> ?_) <;> (try simp only [hc,bs, ↓reduceIte]at h) <;> try simp only [hc]
 | (with_reducible refine aA hQ ?_;exact bx)
 | (cases h;done))
   | cons y rest=>
    obtain⟨hJ,g2,hD,g4⟩:=drop_cons h1
    have bf:k<4611686018427387904:=by omega
    simp only [Ex.fl]at h2
    simp only [Ex.aU]at h3
    have hy:=fun {s:St} {t:Nat} (ht:s.aB[t]? = some (some bo.length))=>hk y (List.mem_of_getElem? hJ) bo (by omega) ht
    have hl:=kx bo y
    repeat' (first
 | simp only [go_sem,hD,hJ,hP,hY]
 | (with_reducible refine CU (hy (by with_unfolding_all rfl)) ?_)
 | (with_reducible first | refine ax fun hc=> ?_ | refine ay fun hc=> ?_ | refine az (fun hc=> ?_) fun hc=> ?_) <;> (try simp only [hc,bs, ↓reduceIte]at h) <;> try simp only [hc]
 | (with_reducible refine aA hQ ?_;exact bx)
 | (cases h;done))
    refine bX 1 1 ?_ ?_ (IH (rest,k+1,_,_) ⟨g2,h2,by dsimp only;omega,rfl⟩ (Nat.lt_succ_self _))
    ·(simp only [go_sem,hD,hJ,hP,hY,au bf];try exact aT)
    ·(simp only [go_sem,hD,hJ,hP,hY,au bf];try exact aT)
 ·simp only [b1,Bool.false_and,Bool.false_eq_true,if_false]at hG
  repeat' (first
 | simp only [go_sem,hD,hJ,hP,hY,b1]
 | (with_reducible first | refine ax fun hc=> ?_ | refine ay fun hc=> ?_ | refine az (fun hc=> ?_) fun hc=> ?_) <;> (try simp only [hc,bs, ↓reduceIte]at h) <;> try simp only [hc]
 | (with_reducible refine aA hQ ?_;(try cases h);simp only [aE,aF,aN,aO,go_sem,hD,hJ,hP,hY,b1];try exact aQ)
 | (cases h;done))
  refine cP 1 1 (bl.ind (ι:=List Ex×Nat×List aH×Nat) (fun i=>kids.drop i.2.1=i.1∧Ex.fl i.2.2.1 i.1=R∧i.2.2.1.length+Ex.aU i.1≤1000000000∧i.2.2.2=i.2.2.1.length) (fun i=>i.1.length)
   (fun i=> [(1, .slice (.tok 0) 1 (i.2.2.1.map encStr)),(2, .ptr 0 0),(23, .slice .shared 4 (kids.map bL)),(24, .int .i64 (kids.length:Int)),(25, .int .i64 (i.2.1:Int))]) (fun i=>⟨[bL ⟨op,m,name,kids⟩],[some i.2.2.2]⟩) ?_ (kids,0,out,out.length) ⟨rfl,hG,by simp;omega,by simp⟩)
  rintro⟨rest,k,bo,n'⟩ ⟨h1,h2,h3,h4⟩ IH
  dsimp only at h1 h2 h3 h4
  subst h4
  cases rest with
  | nil=>
   have hD:=drop_nil h1
   simp only [Ex.fl]at h2
   subst h2
   repeat' (first
 | simp only [go_sem,hD,hJ,hP,hY]
 | (with_reducible first | refine ax fun hc=> ?_ | refine ay fun hc=> ?_ | refine az (fun hc=> ?_) fun hc=> ?_) <;> (try simp only [hc,bs, ↓reduceIte]at h) <;> try simp only [hc]
 | (with_reducible refine aA hQ ?_;exact bx)
 | (cases h;done))
  | cons y rest=>
   obtain⟨hJ,g2,hD,g4⟩:=drop_cons h1
   have bf:k<4611686018427387904:=by omega
   simp only [Ex.fl]at h2
   simp only [Ex.aU]at h3
   have hy:=fun {s:St} {t:Nat} (ht:s.aB[t]? = some (some bo.length))=>hk y (List.mem_of_getElem? hJ) bo (by omega) ht
   have hl:=kx bo y
   repeat' (first
 | simp only [go_sem,hD,hJ,hP,hY]
 | (with_reducible refine CU (hy (by with_unfolding_all rfl)) ?_)
 | (with_reducible first | refine ax fun hc=> ?_ | refine ay fun hc=> ?_ | refine az (fun hc=> ?_) fun hc=> ?_) <;> (try simp only [hc,bs, ↓reduceIte]at h) <;> try simp only [hc]
 | (with_reducible refine aA hQ ?_;exact bx)
 | (cases h;done))
   refine bX 1 1 ?_ ?_ (IH (rest,k+1,_,_) ⟨g2,h2,by dsimp only;omega,rfl⟩ (Nat.lt_succ_self _))
   ·(simp only [go_sem,hD,hJ,hP,hY,au bf];try exact aT)
   ·(simp only [go_sem,hD,hJ,hP,hY,au bf];try exact aT)
theorem ND : ∀ N,KT N:=by
 intro N
 induction N with
 | zero=>rintro⟨op,m,name,kids⟩ h;simp only [Ex.size]at h;omega
 | succ N ih=>
  rintro⟨op,m,name,kids⟩ h out ho s t ht
  exact(Tc ih h ho).Hb (pre:= [_]) (post:= []) (by simp only [D.bM,D.ok,iN];rfl) rfl (dL out) (dL _) ht
abbrev F7 (N:Nat):Prop:=∀ (x:Ex),x.size≤N→∀ out:List aH,out.length+x.size≤1000000000→∀ {s:St} {t:Nat},s.aB[t]? = some (some out.length)→
 aD Tryz.prog iH [.agg (bL x), .slice (.tok t) 1 (out.map encStr)] s (.slice (.tok t) 1 ((x.gh out).map encStr)) ⟨s.aw,s.aB.set t (some (x.gh out).length)⟩
theorem QM {N:Nat} (ih:F7 N) {op m:Int} {name:aH} {kids:List Ex} (h:Ex.size ⟨op,m,name,kids⟩≤N+1) {out:List aH} (ho:out.length+Ex.size ⟨op,m,name,kids⟩≤1000000000) :
 aD Tryz.prog iH [.agg (bL ⟨op,m,name,kids⟩), .slice (.tok 0) 1 (out.map encStr)] ⟨[],[some out.length]⟩ (.slice (.tok 0) 1 ((Ex.gh out ⟨op,m,name,kids⟩).map encStr)) ⟨[],[some (Ex.gh out ⟨op,m,name,kids⟩).length]⟩:=by
 obtain⟨R,hG⟩ : ∃ R,Ex.gh out ⟨op,m,name,kids⟩=R:=⟨_,rfl⟩
 rw [hG]
 simp only [Ex.gh]at hG
 simp only [Ex.size]at h ho
 have hlen:kids.length<1000000000:=by have:=Ex.c7 kids;omega
 have hk : ∀ y∈kids,∀ out:List aH,out.length+y.size≤1000000000→∀ {s:St} {t:Nat},s.aB[t]? = some (some out.length)→
  aD Tryz.prog iH [.agg (bL y), .slice (.tok t) 1 (out.map encStr)] s (.slice (.tok t) 1 ((y.gh out).map encStr)) ⟨s.aw,s.aB.set t (some (y.gh out).length)⟩:=fun y hy out ho=>
  ih y (by have:=Ex.bS hy;omega) out ho
 have mS:=fun {s:St} {t:Nat} (ht:s.aB[t]? = some (some out.length))=>NC (out:=out) (by omega) name ht
 refine aD.go qL rfl fun B Q hB hQ=> ?_
 have⟨hD,hJ,hP,hY⟩:=bK
 have hP:(out.length+1)*17≤bk:=by unfold bk;omega
 rcases Bool.eq_false_or_eq_true (op==2)with b1 | b1
 ·rcases Bool.eq_false_or_eq_true (dv out name)with b2 | b2
  ·simp only [b1,b2,Bool.not_true,Bool.and_false,Bool.false_eq_true,if_false]at hG
   simp only [ke,b2,if_true]at mS
   repeat' (first
 | simp only [go_sem,hD,hJ,hP,hY,b1,b2]
 | (with_reducible refine CU (mS (by with_unfolding_all rfl)) ?_)
 | (with_reducible first | refine ax fun hc=> ?_ | refine ay fun hc=> ?_ | refine az (fun hc=> ?_) fun hc=> ?_) <;> (try simp only [hc,bs, ↓reduceIte]at h) <;> try simp only [hc]
 | (with_reducible refine aA hQ ?_;(try cases h);simp only [aE,aF,aN,aO,go_sem,hD,hJ,hP,hY,b1,b2];try exact aQ)
 | (cases h;done))
   refine cP 1 1 (bl.ind (ι:=List Ex×Nat×List aH×Nat) (fun i=>kids.drop i.2.1=i.1∧Ex.fl i.2.2.1 i.1=R∧i.2.2.1.length+Ex.aU i.1≤1000000000∧i.2.2.2=i.2.2.1.length) (fun i=>i.1.length)
    (fun i=> [(1, .slice (.tok 0) 1 (i.2.2.1.map encStr)),(2, .ptr 0 0),(15, .int .i64 (kids.length:Int)),(16, .int .i64 (i.2.1:Int))]) (fun i=>⟨[bL ⟨op,m,name,kids⟩],[some i.2.2.2]⟩) ?_ (kids,0,out,out.length) ⟨rfl,hG,by simp;omega,by simp⟩)
   rintro⟨rest,k,bo,n'⟩ ⟨h1,h2,h3,h4⟩ IH
   dsimp only at h1 h2 h3 h4
   subst h4
   cases rest with
   | nil=>
    have hD:=drop_nil h1
    simp only [Ex.fl]at h2
    subst h2
    repeat' (first
 | simp only [go_sem,hD,hJ,hP,hY]
 | (with_reducible first | refine ax fun hc=> ?_ | refine ay fun hc=> ?_ | refine az (fun hc=> ?_) fun hc=> ?_) <;> (try simp only [hc,bs, ↓reduceIte]at h) <;> try simp only [hc]
 | (with_reducible refine aA hQ ?_;exact bx)
 | (cases h;done))
   | cons y rest=>
    obtain⟨hJ,g2,hD,g4⟩:=drop_cons h1
    have bf:k<4611686018427387904:=by omega
    simp only [Ex.fl]at h2
    simp only [Ex.aU]at h3
    have hy:=fun {s:St} {t:Nat} (ht:s.aB[t]? = some (some bo.length))=>hk y (List.mem_of_getElem? hJ) bo (by omega) ht
    have hl:=kx bo y
    repeat' (first
 | simp only [go_sem,hD,hJ,hP,hY]
 | (with_reducible refine CU (hy (by with_unfolding_all rfl)) ?_)
 | (with_reducible first | refine ax fun hc=> ?_ | refine ay fun hc=> ?_ | refine az (fun hc=> ?_) fun hc=> ?_) <;> (try simp only [hc,bs, ↓reduceIte]at h) <;> try simp only [hc]
 | (with_reducible refine aA hQ ?_;exact bx)
 | (cases h;done))
    refine bX 1 1 ?_ ?_ (IH (rest,k+1,_,_) ⟨g2,h2,by dsimp only;omega,rfl⟩ (Nat.lt_succ_self _))
    ·(simp only [go_sem,hD,hJ,hP,hY,au bf];try exact aT)
    ·(simp only [go_sem,hD,hJ,hP,hY,au bf];try exact aT)
  ·simp only [b1,b2,Bool.not_false,Bool.and_true,if_true]at hG
   simp only [ke,b2,Bool.false_eq_true,if_false,List.length_append,List.length_cons,List.length_nil]at mS
   repeat' (first
 | simp only [go_sem,hD,hJ,hP,hY,b1,b2]
 | (with_reducible refine CU (mS (by with_unfolding_all rfl)) ?_)
 | (with_reducible first | refine ax fun hc=> ?_ | refine ay fun hc=> ?_ | refine az (fun hc=> ?_) fun hc=> ?_) <;> (try simp only [hc,bs, ↓reduceIte]at h) <;> try simp only [hc]
 | (with_reducible refine aA hQ ?_;(try cases h);simp only [aE,aF,aN,aO,go_sem,hD,hJ,hP,hY,b1,b2];try exact aQ)
 | (cases h;done))
   refine bX 1 1 ?_ ?_ (bl.ind (ι:=List Ex×Nat×List aH×Nat) (fun i=>kids.drop i.2.1=i.1∧Ex.fl i.2.2.1 i.1=R∧i.2.2.1.length+Ex.aU i.1≤1000000000∧i.2.2.2=i.2.2.1.length) (fun i=>i.1.length)
    (fun i=> [(1, .slice (.tok 0) 1 (i.2.2.1.map encStr)),(2, .ptr 0 0),(15, .int .i64 (kids.length:Int)),(16, .int .i64 (i.2.1:Int))]) (fun i=>⟨[bL ⟨op,m,name,kids⟩],[some i.2.2.2]⟩) ?_ (kids,0,(out++ [name]),(out.length+1)) ⟨rfl,hG,by simp;omega,by simp⟩)
   ·(simp only [go_sem,hD,hJ,hP,hY,List.map_append,List.map_cons,List.map_nil,List.length_append,List.length_cons,List.length_nil,encStr];try exact aT)
   ·(simp only [go_sem,hD,hJ,hP,hY,List.map_append,List.map_cons,List.map_nil,List.length_append,List.length_cons,List.length_nil,encStr];try exact aT)
   rintro⟨rest,k,bo,n'⟩ ⟨h1,h2,h3,h4⟩ IH
   dsimp only at h1 h2 h3 h4
   subst h4
   cases rest with
   | nil=>
    have hD:=drop_nil h1
    simp only [Ex.fl]at h2
    subst h2
    repeat' (first
 | simp only [go_sem,hD,hJ,hP,hY]
 | (with_reducible first | refine ax fun hc=> ?_ | refine ay fun hc=> ?_ | refine az (fun hc=> ?_) fun hc=> ?_) <;> (try simp only [hc,bs, ↓reduceIte]at h) <;> try simp only [hc]
 | (with_reducible refine aA hQ ?_;exact bx)
 | (cases h;done))
   | cons y rest=>
    obtain⟨hJ,g2,hD,g4⟩:=drop_cons h1
    have bf:k<4611686018427387904:=by omega
    simp only [Ex.fl]at h2
    simp only [Ex.aU]at h3
    have hy:=fun {s:St} {t:Nat} (ht:s.aB[t]? = some (some bo.length))=>hk y (List.mem_of_getElem? hJ) bo (by omega) ht
    have hl:=kx bo y
    repeat' (first
 | simp only [go_sem,hD,hJ,hP,hY]
 | (with_reducible refine CU (hy (by with_unfolding_all rfl)) ?_)
 | (with_reducible first | refine ax fun hc=> ?_ | refine ay fun hc=> ?_ | refine az (fun hc=> ?_) fun hc=> ?_) <;> (try simp only [hc,bs, ↓reduceIte]at h) <;> try simp only [hc]
 | (with_reducible refine aA hQ ?_;exact bx)
 | (cases h;done))
    refine bX 1 1 ?_ ?_ (IH (rest,k+1,_,_) ⟨g2,h2,by dsimp only;omega,rfl⟩ (Nat.lt_succ_self _))
    ·(simp only [go_sem,hD,hJ,hP,hY,au bf];try exact aT)
    ·(simp only [go_sem,hD,hJ,hP,hY,au bf];try exact aT)
 ·simp only [b1,Bool.false_and,Bool.false_eq_true,if_false]at hG
  repeat' (first
 | simp only [go_sem,hD,hJ,hP,hY,b1]
 | (with_reducible first | refine ax fun hc=> ?_ | refine ay fun hc=> ?_ | refine az (fun hc=> ?_) fun hc=> ?_) <;> (try simp only [hc,bs, ↓reduceIte]at h) <;> try simp only [hc]
 | (with_reducible refine aA hQ ?_;(try cases h);simp only [aE,aF,aN,aO,go_sem,hD,hJ,hP,hY,b1];try exact aQ)
 | (cases h;done))
  refine cP 1 1 (bl.ind (ι:=List Ex×Nat×List aH×Nat) (fun i=>kids.drop i.2.1=i.1∧Ex.fl i.2.2.1 i.1=R∧i.2.2.1.length+Ex.aU i.1≤1000000000∧i.2.2.2=i.2.2.1.length) (fun i=>i.1.length)
   (fun i=> [(1, .slice (.tok 0) 1 (i.2.2.1.map encStr)),(2, .ptr 0 0),(15, .int .i64 (kids.length:Int)),(16, .int .i64 (i.2.1:Int))]) (fun i=>⟨[bL ⟨op,m,name,kids⟩],[some i.2.2.2]⟩) ?_ (kids,0,out,out.length) ⟨rfl,hG,by simp;omega,by simp⟩)
  rintro⟨rest,k,bo,n'⟩ ⟨h1,h2,h3,h4⟩ IH
  dsimp only at h1 h2 h3 h4
  subst h4
  cases rest with
  | nil=>
   have hD:=drop_nil h1
   simp only [Ex.fl]at h2
   subst h2
   repeat' (first
 | simp only [go_sem,hD,hJ,hP,hY]
 | (with_reducible first | refine ax fun hc=> ?_ | refine ay fun hc=> ?_ | refine az (fun hc=> ?_) fun hc=> ?_) <;> (try simp only [hc,bs, ↓reduceIte]at h) <;> try simp only [hc]
 | (with_reducible refine aA hQ ?_;exact bx)
 | (cases h;done))
  | cons y rest=>
   obtain⟨hJ,g2,hD,g4⟩:=drop_cons h1
   have bf:k<4611686018427387904:=by omega
   simp only [Ex.fl]at h2
   simp only [Ex.aU]at h3
   have hy:=fun {s:St} {t:Nat} (ht:s.aB[t]? = some (some bo.length))=>hk y (List.mem_of_getElem? hJ) bo (by omega) ht
   have hl:=kx bo y
   repeat' (first
 | simp only [go_sem,hD,hJ,hP,hY]
 | (with_reducible refine CU (hy (by with_unfolding_all rfl)) ?_)
 | (with_reducible first | refine ax fun hc=> ?_ | refine ay fun hc=> ?_ | refine az (fun hc=> ?_) fun hc=> ?_) <;> (try simp only [hc,bs, ↓reduceIte]at h) <;> try simp only [hc]
 | (with_reducible refine aA hQ ?_;exact bx)
 | (cases h;done))
   refine bX 1 1 ?_ ?_ (IH (rest,k+1,_,_) ⟨g2,h2,by dsimp only;omega,rfl⟩ (Nat.lt_succ_self _))
   ·(simp only [go_sem,hD,hJ,hP,hY,au bf];try exact aT)
   ·(simp only [go_sem,hD,hJ,hP,hY,au bf];try exact aT)
theorem KU : ∀ N,F7 N:=by
 intro N
 induction N with
 | zero=>rintro⟨op,m,name,kids⟩ h;simp only [Ex.size]at h;omega
 | succ N ih=>
  rintro⟨op,m,name,kids⟩ h out ho s t ht
  exact(QM ih h ho).Hb (pre:= [_]) (post:= []) (by simp only [D.bM,D.ok,iN];rfl) rfl (dL out) (dL _) ht
end Go.Abs

/-! Nm2 -/

namespace Go.Abs
set_option maxRecDepth 8000
open Go.Proofs
theorem IP (x:aH) (s:St):aD Tryz.prog lX [.slice .full 0 [], .str x] s (.slice .shared 1 [[.str x]]) s:=by
 refine aD.pure ?_ rfl rfl s
 unfold S0
 refine aD.go sN rfl fun B Q hB hQ=> ?_
 have⟨hD,hJ,hP,hY⟩:=bK
 have hP:17≤bk:=by unfold bk;omega
 repeat' (first
 | simp only [go_sem,hD,hJ,hP,hY,Int.lt_irrefl,decide_false]
 | (with_reducible refine bl.uT ?_)
 | (with_reducible first | refine ax fun hc=> ?_ | refine ay fun hc=> ?_ | refine az (fun hc=> ?_) fun hc=> ?_) <;> (try simp only [hc,bs, ↓reduceIte]at h) <;> try simp only [hc]
 | (with_reducible refine aA hQ ?_;(try cases h);simp only [aE,aF,aN,aO,go_sem,hD,hJ,hP,hY,Int.lt_irrefl,decide_false];try exact aQ)
 | (cases h;done))
theorem BV {op m:Int} {name:aH} {kids:List Ex} (h:Ex.form ⟨op,m,name,kids⟩=true) (h2:(op==2)=true):kids = []:=by
 have e:op=2:=by simpa using h2
 subst e
 simp only [Ex.form]at h
 split at h
 ·cases h
 ·rename_i hh
  simp only [Bool.or_eq_true,not_or,bne_iff_ne,ne_eq,Decidable.not_not]at hh
  have:=hh.1.1.1.1
  have e:k8 2=0:=rfl
  rw [e]at this
  exact List.length_eq_zero_iff.1 (by omega)
theorem NF {op m:Int} {name:aH} {kids:List Ex} (hf:(op==2)=true→kids = []) (ho:Ex.size ⟨op,m,name,kids⟩≤1000000000) (s:St) :
 aD Tryz.prog gx [.agg (bL ⟨op,m,name,kids⟩), .slice .full 0 []] s (.slice .shared 1 ((Ex.gh [] ⟨op,m,name,kids⟩).map encStr)) s:=by
 refine aD.pure ?_ (by simp only [D.bM,D.ok,iN];rfl) (by simp only [D.ok,Tag.ok,dL];rfl) s
 obtain⟨R,hG⟩ : ∃ R,Ex.gh [] ⟨op,m,name,kids⟩=R:=⟨_,rfl⟩
 rw [hG]
 simp only [Ex.gh]at hG
 simp only [Ex.size]at ho
 have hlen:kids.length<1000000000:=by have:=Ex.c7 kids;omega
 have hk : ∀ y∈kids,∀ out:List aH,out.length+y.size≤1000000000→∀ {s:St} {t:Nat},s.aB[t]? = some (some out.length)→
  aD Tryz.prog gx [.agg (bL y), .slice (.tok t) 1 (out.map encStr)] s (.slice (.tok t) 1 ((y.gh out).map encStr)) ⟨s.aw,s.aB.set t (some (y.gh out).length)⟩:=fun y hy out ho=>
  ND y.size y (Nat.le_refl _) out ho
 unfold S0
 rcases Bool.eq_false_or_eq_true (op==2)with b1 | b1
 ·have KV:=hf b1
  subst KV
  have e:dv [] name=false:=rfl
  simp only [b1,e,Bool.not_false,Bool.and_true,if_true,Ex.fl,List.nil_append]at hG
  subst hG
  refine aD.go oX rfl fun B Q hB hQ=> ?_
  have⟨hD,hJ,hP,hY⟩:=bK
  have hP:17≤bk:=by unfold bk;omega
  repeat' (first
 | simp only [go_sem,hD,hJ,hP,hY,b1,List.map_nil,List.map_cons,List.length_nil,encStr,Int.natCast_zero,Int.lt_irrefl,decide_false]
 | (with_reducible refine CU (El name _ _ _) ?_)
 | (with_reducible refine bl.uT ?_)
 | (with_reducible first | refine ax fun hc=> ?_ | refine ay fun hc=> ?_ | refine az (fun hc=> ?_) fun hc=> ?_) <;> (try simp only [hc,bs, ↓reduceIte]at h) <;> try simp only [hc]
 | (with_reducible refine aA hQ ?_;(try cases h);simp only [aE,aF,aN,aO,go_sem,hD,hJ,hP,hY,b1,List.map_nil,List.map_cons,List.length_nil,encStr,Int.natCast_zero,Int.lt_irrefl,decide_false];try exact aQ)
 | (cases h;done))
 ·simp only [b1,Bool.false_and,Bool.false_eq_true,if_false]at hG
  refine aD.go oX rfl fun B Q hB hQ=> ?_
  have⟨hD,hJ,hP,hY⟩:=bK
  repeat' (first
 | simp only [go_sem,hD,hJ,hP,hY,b1]
 | (with_reducible first | refine ax fun hc=> ?_ | refine ay fun hc=> ?_ | refine az (fun hc=> ?_) fun hc=> ?_) <;> (try simp only [hc,bs, ↓reduceIte]at h) <;> try simp only [hc]
 | (with_reducible refine aA hQ ?_;(try cases h);simp only [aE,aF,aN,aO,go_sem,hD,hJ,hP,hY,b1];try exact aQ)
 | (cases h;done))
  refine bl.kT 1 1 rfl ?_
  simp only [go_sem,hD,hJ,hP,hY]
  refine cP 1 1 (bl.ind (ι:=List Ex×Nat×List aH×Nat) (fun i=>kids.drop i.2.1=i.1∧Ex.fl i.2.2.1 i.1=R∧i.2.2.1.length+Ex.aU i.1≤1000000000∧i.2.2.2=i.2.2.1.length) (fun i=>i.1.length)
   (fun i=> [(1, .slice (.tok 0) 1 (i.2.2.1.map encStr)),(2, .ptr 0 0),(23, .slice .shared 4 (kids.map bL)),(24, .int .i64 (kids.length:Int)),(25, .int .i64 (i.2.1:Int))]) (fun i=>⟨[bL ⟨op,m,name,kids⟩],[some i.2.2.2]⟩) ?_ (kids,0,[],0) ⟨rfl,hG,by simp;omega,by simp⟩)
  rintro⟨rest,k,bo,n'⟩ ⟨h1,h2,h3,h4⟩ IH
  dsimp only at h1 h2 h3 h4
  subst h4
  cases rest with
  | nil=>
   have hD:=drop_nil h1
   simp only [Ex.fl]at h2
   subst h2
   repeat' (first
 | simp only [go_sem,hD,hJ,hP,hY]
 | (with_reducible first | refine ax fun hc=> ?_ | refine ay fun hc=> ?_ | refine az (fun hc=> ?_) fun hc=> ?_) <;> (try simp only [hc,bs, ↓reduceIte]at h) <;> try simp only [hc]
 | (with_reducible refine aA hQ ?_;exact bx)
 | (cases h;done))
  | cons y rest=>
   obtain⟨hJ,g2,hD,g4⟩:=drop_cons h1
   have bf:k<4611686018427387904:=by omega
   simp only [Ex.fl]at h2
   simp only [Ex.aU]at h3
   have hy:=fun {s:St} {t:Nat} (ht:s.aB[t]? = some (some bo.length))=>hk y (List.mem_of_getElem? hJ) bo (by omega) ht
   have hl:=kx bo y
   repeat' (first
 | simp only [go_sem,hD,hJ,hP,hY]
 | (with_reducible refine CU (hy (by with_unfolding_all rfl)) ?_)
 | (with_reducible first | refine ax fun hc=> ?_ | refine ay fun hc=> ?_ | refine az (fun hc=> ?_) fun hc=> ?_) <;> (try simp only [hc,bs, ↓reduceIte]at h) <;> try simp only [hc]
 | (with_reducible refine aA hQ ?_;exact bx)
 | (cases h;done))
   refine bX 1 1 ?_ ?_ (IH (rest,k+1,_,_) ⟨g2,h2,by dsimp only;omega,rfl⟩ (Nat.lt_succ_self _))
   ·(simp only [go_sem,hD,hJ,hP,hY,au bf];try exact aT)
   ·(simp only [go_sem,hD,hJ,hP,hY,au bf];try exact aT)
theorem KW {op m:Int} {name:aH} {kids:List Ex} (hf:(op==2)=true→kids = []) (ho:Ex.size ⟨op,m,name,kids⟩≤1000000000) (s:St) :
 aD Tryz.prog iH [.agg (bL ⟨op,m,name,kids⟩), .slice .full 0 []] s (.slice .shared 1 ((Ex.gh [] ⟨op,m,name,kids⟩).map encStr)) s:=by
 refine aD.pure ?_ (by simp only [D.bM,D.ok,iN];rfl) (by simp only [D.ok,Tag.ok,dL];rfl) s
 obtain⟨R,hG⟩ : ∃ R,Ex.gh [] ⟨op,m,name,kids⟩=R:=⟨_,rfl⟩
 rw [hG]
 simp only [Ex.gh]at hG
 simp only [Ex.size]at ho
 have hlen:kids.length<1000000000:=by have:=Ex.c7 kids;omega
 have hk : ∀ y∈kids,∀ out:List aH,out.length+y.size≤1000000000→∀ {s:St} {t:Nat},s.aB[t]? = some (some out.length)→
  aD Tryz.prog iH [.agg (bL y), .slice (.tok t) 1 (out.map encStr)] s (.slice (.tok t) 1 ((y.gh out).map encStr)) ⟨s.aw,s.aB.set t (some (y.gh out).length)⟩:=fun y hy out ho=>
  KU y.size y (Nat.le_refl _) out ho
 unfold S0
 rcases Bool.eq_false_or_eq_true (op==2)with b1 | b1
 ·have KV:=hf b1
  subst KV
  have e:dv [] name=false:=rfl
  simp only [b1,e,Bool.not_false,Bool.and_true,if_true,Ex.fl,List.nil_append]at hG
  subst hG
  refine aD.go qL rfl fun B Q hB hQ=> ?_
  have⟨hD,hJ,hP,hY⟩:=bK
  have hP:17≤bk:=by unfold bk;omega
  repeat' (first
 | simp only [go_sem,hD,hJ,hP,hY,b1,List.map_nil,List.map_cons,List.length_nil,encStr,Int.natCast_zero,Int.lt_irrefl,decide_false]
 | (with_reducible refine CU (IP name _) ?_)
 | (with_reducible refine bl.uT ?_)
 | (with_reducible first | refine ax fun hc=> ?_ | refine ay fun hc=> ?_ | refine az (fun hc=> ?_) fun hc=> ?_) <;> (try simp only [hc,bs, ↓reduceIte]at h) <;> try simp only [hc]
 | (with_reducible refine aA hQ ?_;(try cases h);simp only [aE,aF,aN,aO,go_sem,hD,hJ,hP,hY,b1,List.map_nil,List.map_cons,List.length_nil,encStr,Int.natCast_zero,Int.lt_irrefl,decide_false];try exact aQ)
 | (cases h;done))
 ·simp only [b1,Bool.false_and,Bool.false_eq_true,if_false]at hG
  refine aD.go qL rfl fun B Q hB hQ=> ?_
  have⟨hD,hJ,hP,hY⟩:=bK
  repeat' (first
 | simp only [go_sem,hD,hJ,hP,hY,b1]
 | (with_reducible first | refine ax fun hc=> ?_ | refine ay fun hc=> ?_ | refine az (fun hc=> ?_) fun hc=> ?_) <;> (try simp only [hc,bs, ↓reduceIte]at h) <;> try simp only [hc]
 | (with_reducible refine aA hQ ?_;(try cases h);simp only [aE,aF,aN,aO,go_sem,hD,hJ,hP,hY,b1];try exact aQ)
 | (cases h;done))
  refine bl.kT 1 1 rfl ?_
  simp only [go_sem,hD,hJ,hP,hY]
  refine cP 1 1 (bl.ind (ι:=List Ex×Nat×List aH×Nat) (fun i=>kids.drop i.2.1=i.1∧Ex.fl i.2.2.1 i.1=R∧i.2.2.1.length+Ex.aU i.1≤1000000000∧i.2.2.2=i.2.2.1.length) (fun i=>i.1.length)
   (fun i=> [(1, .slice (.tok 0) 1 (i.2.2.1.map encStr)),(2, .ptr 0 0),(15, .int .i64 (kids.length:Int)),(16, .int .i64 (i.2.1:Int))]) (fun i=>⟨[bL ⟨op,m,name,kids⟩],[some i.2.2.2]⟩) ?_ (kids,0,[],0) ⟨rfl,hG,by simp;omega,by simp⟩)
  rintro⟨rest,k,bo,n'⟩ ⟨h1,h2,h3,h4⟩ IH
  dsimp only at h1 h2 h3 h4
  subst h4
  cases rest with
  | nil=>
   have hD:=drop_nil h1
   simp only [Ex.fl]at h2
   subst h2
   repeat' (first
 | simp only [go_sem,hD,hJ,hP,hY]
 | (with_reducible first | refine ax fun hc=> ?_ | refine ay fun hc=> ?_ | refine az (fun hc=> ?_) fun hc=> ?_) <;> (try simp only [hc,bs, ↓reduceIte]at h) <;> try simp only [hc]
 | (with_reducible refine aA hQ ?_;exact bx)
 | (cases h;done))
  | cons y rest=>
   obtain⟨hJ,g2,hD,g4⟩:=drop_cons h1
   have bf:k<4611686018427387904:=by omega
   simp only [Ex.fl]at h2
   simp only [Ex.aU]at h3
   have hy:=fun {s:St} {t:Nat} (ht:s.aB[t]? = some (some bo.length))=>hk y (List.mem_of_getElem? hJ) bo (by omega) ht
   have hl:=kx bo y
   repeat' (first
 | simp only [go_sem,hD,hJ,hP,hY]
 | (with_reducible refine CU (hy (by with_unfolding_all rfl)) ?_)
 | (with_reducible first | refine ax fun hc=> ?_ | refine ay fun hc=> ?_ | refine az (fun hc=> ?_) fun hc=> ?_) <;> (try simp only [hc,bs, ↓reduceIte]at h) <;> try simp only [hc]
 | (with_reducible refine aA hQ ?_;exact bx)
 | (cases h;done))
   refine bX 1 1 ?_ ?_ (IH (rest,k+1,_,_) ⟨g2,h2,by dsimp only;omega,rfl⟩ (Nat.lt_succ_self _))
   ·(simp only [go_sem,hD,hJ,hP,hY,au bf];try exact aT)
   ·(simp only [go_sem,hD,hJ,hP,hY,au bf];try exact aT)
theorem k9 {x:Ex} (hx:x.size≤1000000000) (ht:x.texts) (s:St):aD Tryz.prog oQ [.agg (bL x)] s (.slice .shared 1 (x.names.map encStr)) s:=by
 refine aD.pure ?_ (by simp only [D.bM,D.ok,iN];rfl) (by simp only [D.ok,Tag.ok,dL];rfl) s
 have hm:=fun s=>zJ (x:=x) (by omega) ht s
 simp only [KS]at hm
 unfold Ex.names
 unfold S0
 cases hb:x.may
 ·simp only [hb]at hm
  simp only [Bool.false_eq_true,if_false,List.map_nil]
  refine aD.go uq rfl fun B Q hB hQ=> ?_
  have⟨hD,hJ,hP,hY⟩:=bK
  repeat' (first
 | simp only [go_sem,hD,hJ,hP,hY]
 | (with_reducible refine CU (hm _) ?_)
 | (with_reducible first | refine ax fun hc=> ?_ | refine ay fun hc=> ?_ | refine az (fun hc=> ?_) fun hc=> ?_) <;> (try simp only [hc,bs, ↓reduceIte]at h) <;> try simp only [hc]
 | (with_reducible refine aA hQ ?_;exact bx)
 | (cases h;done))
 ·simp only [hb]at hm
  simp only [if_true]
  have hg : ∀ s,aD Tryz.prog gx [.agg (bL x), .slice .full 0 []] s (.slice .shared 1 ((x.gh []).map encStr)) s:=by
   intro s
   obtain⟨op,m,name,kids⟩:=x
   exact NF (fun h2=>BV (by simp only [Ex.may,Bool.and_eq_true]at hb;exact hb.2) h2) hx s
  refine aD.go uq rfl fun B Q hB hQ=> ?_
  have⟨hD,hJ,hP,hY⟩:=bK
  repeat' (first
 | simp only [go_sem,hD,hJ,hP,hY]
 | (with_reducible refine CU (hm _) ?_)
 | (with_reducible refine CU (hg _) ?_)
 | (with_reducible first | refine ax fun hc=> ?_ | refine ay fun hc=> ?_ | refine az (fun hc=> ?_) fun hc=> ?_) <;> (try simp only [hc,bs, ↓reduceIte]at h) <;> try simp only [hc]
 | (with_reducible refine aA hQ ?_;exact bx)
 | (cases h;done))
theorem la {x:Ex} (hx:x.size≤1000000000) (ht:x.texts) (s:St):aD Tryz.prog oL [.agg (bL x)] s (.slice .shared 1 (x.names.map encStr)) s:=by
 refine aD.pure ?_ (by simp only [D.bM,D.ok,iN];rfl) (by simp only [D.ok,Tag.ok,dL];rfl) s
 have hm:=fun s=>wS (x:=x) (by omega) ht s
 unfold Ex.names
 unfold S0
 cases hb:x.may
 ·simp only [hb]at hm
  simp only [Bool.false_eq_true,if_false,List.map_nil]
  refine aD.go ui rfl fun B Q hB hQ=> ?_
  have⟨hD,hJ,hP,hY⟩:=bK
  repeat' (first
 | simp only [go_sem,hD,hJ,hP,hY]
 | (with_reducible refine CU (hm _) ?_)
 | (with_reducible first | refine ax fun hc=> ?_ | refine ay fun hc=> ?_ | refine az (fun hc=> ?_) fun hc=> ?_) <;> (try simp only [hc,bs, ↓reduceIte]at h) <;> try simp only [hc]
 | (with_reducible refine aA hQ ?_;exact bx)
 | (cases h;done))
 ·simp only [hb]at hm
  simp only [if_true]
  have hg : ∀ s,aD Tryz.prog iH [.agg (bL x), .slice .full 0 []] s (.slice .shared 1 ((x.gh []).map encStr)) s:=by
   intro s
   obtain⟨op,m,name,kids⟩:=x
   exact KW (fun h2=>BV (by simp only [Ex.may,Bool.and_eq_true]at hb;exact hb.2) h2) hx s
  refine aD.go ui rfl fun B Q hB hQ=> ?_
  have⟨hD,hJ,hP,hY⟩:=bK
  repeat' (first
 | simp only [go_sem,hD,hJ,hP,hY]
 | (with_reducible refine CU (hm _) ?_)
 | (with_reducible refine CU (hg _) ?_)
 | (with_reducible first | refine ax fun hc=> ?_ | refine ay fun hc=> ?_ | refine az (fun hc=> ?_) fun hc=> ?_) <;> (try simp only [hc,bs, ↓reduceIte]at h) <;> try simp only [hc]
 | (with_reducible refine aA hQ ?_;exact bx)
 | (cases h;done))
end Go.Abs

/-! Nm3 -/

namespace Go.Abs
set_option maxRecDepth 8000
open Go.Proofs
def Ar.said (out:List aH):List Ar→List aH
 | []=>out
 | a::l=>Ar.said ((if a.ref then out++ [a.name]else out)++a.x.names) l
def Sm.o5 (v:Sm):List aH:=if v.kind != 10 && v.name != []then [v.name]else []
def Sm.said (v:Sm):List aH:=Ar.said (v.o5++v.x.names) v.args
theorem fB (x:Ex):x.names.length≤x.size:=by
 unfold Ex.names
 split
 ·simpa using kx [] x
 ·exact Nat.zero_le _
def Ar.rX:List Ar→Prop
 | []=>True
 | a::l=>a.x.texts∧Ar.rX l
def Sm.jf (v:Sm):Prop:=v.x.texts∧(∀ a∈v.args,a.x.texts)∧v.x.size+Ar.aU v.args<1000000
theorem ey {l nx:List aH} {n:Nat} (hn:n=l.length) (h:l.length+nx.length≤1000000000) {g:Tag} (o:List (List D)) :
 gC 1 16 (.slice (.tok 0) 1 (l.map encStr)) (.slice g 1 (nx.map encStr)) ⟨o,[some n]⟩=some (.slice (.tok 0) 1 ((l++nx).map encStr),⟨o,[some (l++nx).length]⟩):=by
 subst hn
 have:=yp (size:=1) (bytes:=16) (t:=0) (rows:=l.map encStr) (new:=nx.map encStr) (g:=g) (s:=⟨o,[some l.length]⟩) (by simp only [List.length_map];unfold bk;omega) (by simp)
 rw [this]
 simp
theorem w7 {v:Sm} (hv:v.jf) (s:St):aD Tryz.prog oK [.agg (bn v)] s (.slice .shared 1 (v.said.map encStr)) s:=by
 refine aD.pure ?_ (by simp only [D.bM,D.ok,kV];rfl) (by simp only [D.ok,Tag.ok,dL];rfl) s
 obtain⟨Td,w8,ek⟩:=hv
 obtain⟨R,hG⟩ : ∃ R,v.said=R:=⟨_,rfl⟩
 rw [hG]
 simp only [Sm.said]at hG
 have hlen:v.args.length<1000000000:=by have:=Ar.c7 v.args;omega
 have hx:=fun s=>k9 (x:=v.x) (by omega) Td s
 have uz:=fB v.x
 unfold S0
 refine aD.go AL rfl fun B Q hB hQ=> ?_
 have⟨hD,hJ,hP,hY⟩:=bK
 have hP:17≤bk:=by unfold bk;omega
 by_cases hb:(v.kind != 10 && v.name != [])=true
 ·simp only [Sm.o5,hb,if_true]at hG
  rw [Bool.and_eq_true]at hb
  obtain⟨b1,b2⟩:=hb
  have cf:=ey (l:= [v.name]) (nx:=v.x.names) (n:=1) rfl (by simp;omega) (g:= .shared)
  simp only [List.map_append,List.map_cons,List.map_nil,encStr]at cf
  have b3:(v.name == [])=false:=by simpa using b2
  repeat' (first
 | simp only [go_sem,hD,hJ,hP,hY,b1,b2,b3,cf]
 | (with_reducible refine CU (hx _) ?_)
 | (with_reducible first | refine ax fun hc=> ?_ | refine ay fun hc=> ?_ | refine az (fun hc=> ?_) fun hc=> ?_) <;> (try simp only [hc,bs, ↓reduceIte]at h) <;> try simp only [hc]
 | (with_reducible refine aA hQ ?_;(try cases h);simp only [aE,aF,aN,aO,go_sem,hD,hJ,hP,hY,b1,b2,b3,cf];try exact aQ)
 | (cases h;done))
  refine bX 1 1 ?_ ?_ (bl.ind (ι:=List Ar×Nat×List aH×Nat) (fun i=>v.args.drop i.2.1=i.1∧Ar.said i.2.2.1 i.1=R∧i.2.2.1.length+Ar.aU i.1≤2000000∧i.2.2.2=i.2.2.1.length) (fun i=>i.1.length)
   (fun i=> [(3, .slice (.tok 0) 1 (i.2.2.1.map encStr)),(1, .ptr 0 0),(25, .slice .shared 6 (v.args.map dt)),(26, .int .i64 (v.args.length:Int)),(27, .int .i64 (i.2.1:Int))]) (fun i=>⟨[bn v],[some i.2.2.2]⟩) ?_ (v.args,0,([v.name]++v.x.names),(v.x.names.length+1)) ⟨rfl,hG,by simp at uz ⊢;omega,by simp⟩)
  ·(simp only [go_sem,hD,hJ,hP,hY,List.map_append,List.map_cons,List.map_nil,encStr];try exact aT)
  ·(simp only [go_sem,hD,hJ,hP,hY,List.map_append,List.map_cons,List.map_nil,encStr];try exact aT)
  rintro⟨rest,k,out,n'⟩ ⟨h1,h2,h3,h4⟩ IH
  dsimp only at h1 h2 h3 h4
  subst h4
  cases rest with
  | nil=>
   have hD:=drop_nil h1
   simp only [Ar.said]at h2
   subst h2
   repeat' (first
 | simp only [go_sem,hD,hJ,hP,hY]
 | (with_reducible first | refine ax fun hc=> ?_ | refine ay fun hc=> ?_ | refine az (fun hc=> ?_) fun hc=> ?_) <;> (try simp only [hc,bs, ↓reduceIte]at h) <;> try simp only [hc]
 | (with_reducible refine aA hQ ?_;exact bx)
 | (cases h;done))
  | cons a rest=>
   obtain⟨hJ,g2,hD,g4⟩:=drop_cons h1
   have bf:k<4611686018427387904:=by omega
   simp only [Ar.said]at h2
   simp only [Ar.aU]at h3
   have kf:=fun s=>k9 (x:=a.x) (by have:=Ar.bS (List.mem_of_getElem? hJ);omega) (w8 a (List.mem_of_getElem? hJ)) s
   have hl:=fB a.x
   have hP:(out.length+1)*17≤bk:=by unfold bk;omega
   rcases Bool.eq_false_or_eq_true a.ref with b1 | b1
   ·simp only [b1,if_true]at h2
    have cf:=ey (l:=out++ [a.name]) (nx:=a.x.names) (n:=out.length+1) (by simp) (by simp;omega) (g:= .shared)
    simp only [List.map_append,List.map_cons,List.map_nil,encStr]at cf
    repeat' (first
 | simp only [go_sem,hD,hJ,hP,hY,b1,cf]
 | (with_reducible refine CU (kf _) ?_)
 | (with_reducible first | refine ax fun hc=> ?_ | refine ay fun hc=> ?_ | refine az (fun hc=> ?_) fun hc=> ?_) <;> (try simp only [hc,bs, ↓reduceIte]at h) <;> try simp only [hc]
 | (with_reducible refine aA hQ ?_;(try cases h);simp only [aE,aF,aN,aO,go_sem,hD,hJ,hP,hY,b1,cf];try exact aQ)
 | (cases h;done))
    refine bX 1 1 ?_ ?_ (IH (rest,k+1,out++ [a.name]++a.x.names,_) ⟨g2,h2,by simp;omega,by simp <;> omega⟩ (Nat.lt_succ_self _))
    ·(simp only [go_sem,hD,hJ,hP,hY,au bf,List.map_append,List.map_cons,List.map_nil,encStr];try exact aT)
    ·(simp only [go_sem,hD,hJ,hP,hY,au bf,List.map_append,List.map_cons,List.map_nil,encStr];try exact aT)
   ·simp only [b1,Bool.false_eq_true,if_false]at h2
    have cf:=ey (l:=out) (nx:=a.x.names) rfl (by omega) (g:= .shared)
    repeat' (first
 | simp only [go_sem,hD,hJ,hP,hY,b1,cf]
 | (with_reducible refine CU (kf _) ?_)
 | (with_reducible first | refine ax fun hc=> ?_ | refine ay fun hc=> ?_ | refine az (fun hc=> ?_) fun hc=> ?_) <;> (try simp only [hc,bs, ↓reduceIte]at h) <;> try simp only [hc]
 | (with_reducible refine aA hQ ?_;(try cases h);simp only [aE,aF,aN,aO,go_sem,hD,hJ,hP,hY,b1,cf];try exact aQ)
 | (cases h;done))
    refine bX 1 1 ?_ ?_ (IH (rest,k+1,out++a.x.names,_) ⟨g2,h2,by simp;omega,by simp <;> omega⟩ (Nat.lt_succ_self _))
    ·(simp only [go_sem,hD,hJ,hP,hY,au bf];try exact aT)
    ·(simp only [go_sem,hD,hJ,hP,hY,au bf];try exact aT)
 ·simp only [Sm.o5,hb,Bool.false_eq_true,if_false,List.nil_append]at hG
  have oF:(v.kind != 10 && v.name != [])=false:=by simpa using hb
  obtain⟨nx,KX⟩ : ∃ nx,nx=v.x.names:=⟨_,rfl⟩
  rw [← KX]at hG uz
  simp only [← KX]at hx
  by_cases xW:nx = []
  ·subst xW
   simp only [List.map_nil]at hx
   have cf : ∀ o:List (List D),gC 1 16 (.slice .full 0 []) (.slice .shared 1 []) ⟨o,[]⟩=some (.slice .full 0 [],⟨o,[]⟩):=fun o=>by simp [gC,bk]
   have HB:(v.kind != 10)=false∨(v.kind != 10)=true∧(v.name != [])=false:=by
    cases h1:(v.kind != 10)
    ·exact .inl rfl
    ·rw [h1]at oF;exact .inr ⟨rfl,by simpa using oF⟩
   rcases HB with b1 | ⟨b1,b2⟩
   ·rcases Bool.eq_false_or_eq_true (v.name != [])with b2 | b2
    all_goals
     have b3:(v.name == []) = !(v.name != []):=by simp only [bne,Bool.not_not]
     rw [b2]at b3
     repeat' (first
 | simp only [go_sem,hD,hJ,hP,hY,b1,b2,b3,Bool.not_true,Bool.not_false,cf]
 | (with_reducible refine CU (hx _) ?_)
 | (with_reducible first | refine ax fun hc=> ?_ | refine ay fun hc=> ?_ | refine az (fun hc=> ?_) fun hc=> ?_) <;> (try simp only [hc,bs, ↓reduceIte]at h) <;> try simp only [hc]
 | (with_reducible refine aA hQ ?_;(try cases h);simp only [aE,aF,aN,aO,go_sem,hD,hJ,hP,hY,b1,b2,b3,Bool.not_true,Bool.not_false,cf];repeat' (first | exact Ok.out | with_reducible refine gA ?_ ?_ | (simp;done)))
 | (cases h;done))
    all_goals
     refine bl.kT 3 1 rfl ?_
     simp only [go_sem,hD,hJ,hP,hY]
     refine cP 1 1 (bl.ind (ι:=List Ar×Nat×List aH×Nat) (fun i=>v.args.drop i.2.1=i.1∧Ar.said i.2.2.1 i.1=R∧i.2.2.1.length+Ar.aU i.1≤2000000∧i.2.2.2=i.2.2.1.length) (fun i=>i.1.length)
      (fun i=> [(3, .slice (.tok 0) 1 (i.2.2.1.map encStr)),(1, .ptr 0 0),(25, .slice .shared 6 (v.args.map dt)),(26, .int .i64 (v.args.length:Int)),(27, .int .i64 (i.2.1:Int))]) (fun i=>⟨[bn v],[some i.2.2.2]⟩) ?_ (v.args,0,[],0) ⟨rfl,hG,by simp at uz ⊢;omega,by simp⟩)
     rintro⟨rest,k,out,n'⟩ ⟨h1,h2,h3,h4⟩ IH
     dsimp only at h1 h2 h3 h4
     subst h4
     cases rest with
     | nil=>
      have hD:=drop_nil h1
      simp only [Ar.said]at h2
      subst h2
      repeat' (first
 | simp only [go_sem,hD,hJ,hP,hY]
 | (with_reducible first | refine ax fun hc=> ?_ | refine ay fun hc=> ?_ | refine az (fun hc=> ?_) fun hc=> ?_) <;> (try simp only [hc,bs, ↓reduceIte]at h) <;> try simp only [hc]
 | (with_reducible refine aA hQ ?_;exact bx)
 | (cases h;done))
     | cons a rest=>
      obtain⟨hJ,g2,hD,g4⟩:=drop_cons h1
      have bf:k<4611686018427387904:=by omega
      simp only [Ar.said]at h2
      simp only [Ar.aU]at h3
      have kf:=fun s=>k9 (x:=a.x) (by have:=Ar.bS (List.mem_of_getElem? hJ);omega) (w8 a (List.mem_of_getElem? hJ)) s
      have hl:=fB a.x
      have hP:(out.length+1)*17≤bk:=by unfold bk;omega
      rcases Bool.eq_false_or_eq_true a.ref with b1 | b1
      ·simp only [b1,if_true]at h2
       have cf:=ey (l:=out++ [a.name]) (nx:=a.x.names) (n:=out.length+1) (by simp) (by simp;omega) (g:= .shared)
       simp only [List.map_append,List.map_cons,List.map_nil,encStr]at cf
       repeat' (first
 | simp only [go_sem,hD,hJ,hP,hY,b1,cf]
 | (with_reducible refine CU (kf _) ?_)
 | (with_reducible first | refine ax fun hc=> ?_ | refine ay fun hc=> ?_ | refine az (fun hc=> ?_) fun hc=> ?_) <;> (try simp only [hc,bs, ↓reduceIte]at h) <;> try simp only [hc]
 | (with_reducible refine aA hQ ?_;(try cases h);simp only [aE,aF,aN,aO,go_sem,hD,hJ,hP,hY,b1,cf];try exact aQ)
 | (cases h;done))
       refine bX 1 1 ?_ ?_ (IH (rest,k+1,out++ [a.name]++a.x.names,_) ⟨g2,h2,by simp;omega,by simp <;> omega⟩ (Nat.lt_succ_self _))
       ·(simp only [go_sem,hD,hJ,hP,hY,au bf,List.map_append,List.map_cons,List.map_nil,encStr];try exact aT)
       ·(simp only [go_sem,hD,hJ,hP,hY,au bf,List.map_append,List.map_cons,List.map_nil,encStr];try exact aT)
      ·simp only [b1,Bool.false_eq_true,if_false]at h2
       have cf:=ey (l:=out) (nx:=a.x.names) rfl (by omega) (g:= .shared)
       repeat' (first
 | simp only [go_sem,hD,hJ,hP,hY,b1,cf]
 | (with_reducible refine CU (kf _) ?_)
 | (with_reducible first | refine ax fun hc=> ?_ | refine ay fun hc=> ?_ | refine az (fun hc=> ?_) fun hc=> ?_) <;> (try simp only [hc,bs, ↓reduceIte]at h) <;> try simp only [hc]
 | (with_reducible refine aA hQ ?_;(try cases h);simp only [aE,aF,aN,aO,go_sem,hD,hJ,hP,hY,b1,cf];try exact aQ)
 | (cases h;done))
       refine bX 1 1 ?_ ?_ (IH (rest,k+1,out++a.x.names,_) ⟨g2,h2,by simp;omega,by simp <;> omega⟩ (Nat.lt_succ_self _))
       ·(simp only [go_sem,hD,hJ,hP,hY,au bf];try exact aT)
       ·(simp only [go_sem,hD,hJ,hP,hY,au bf];try exact aT)
   ·have b3:(v.name == [])=true:=by simpa using b2
    repeat' (first
 | simp only [go_sem,hD,hJ,hP,hY,b1,b2,b3,cf]
 | (with_reducible refine CU (hx _) ?_)
 | (with_reducible first | refine ax fun hc=> ?_ | refine ay fun hc=> ?_ | refine az (fun hc=> ?_) fun hc=> ?_) <;> (try simp only [hc,bs, ↓reduceIte]at h) <;> try simp only [hc]
 | (with_reducible refine aA hQ ?_;(try cases h);simp only [aE,aF,aN,aO,go_sem,hD,hJ,hP,hY,b1,b2,b3,cf];try exact aQ)
 | (cases h;done))
    refine bl.kT 3 1 rfl ?_
    simp only [go_sem,hD,hJ,hP,hY]
    refine cP 1 1 (bl.ind (ι:=List Ar×Nat×List aH×Nat) (fun i=>v.args.drop i.2.1=i.1∧Ar.said i.2.2.1 i.1=R∧i.2.2.1.length+Ar.aU i.1≤2000000∧i.2.2.2=i.2.2.1.length) (fun i=>i.1.length)
     (fun i=> [(3, .slice (.tok 0) 1 (i.2.2.1.map encStr)),(1, .ptr 0 0),(25, .slice .shared 6 (v.args.map dt)),(26, .int .i64 (v.args.length:Int)),(27, .int .i64 (i.2.1:Int))]) (fun i=>⟨[bn v],[some i.2.2.2]⟩) ?_ (v.args,0,[],0) ⟨rfl,hG,by simp at uz ⊢;omega,by simp⟩)
    rintro⟨rest,k,out,n'⟩ ⟨h1,h2,h3,h4⟩ IH
    dsimp only at h1 h2 h3 h4
    subst h4
    cases rest with
    | nil=>
     have hD:=drop_nil h1
     simp only [Ar.said]at h2
     subst h2
     repeat' (first
 | simp only [go_sem,hD,hJ,hP,hY]
 | (with_reducible first | refine ax fun hc=> ?_ | refine ay fun hc=> ?_ | refine az (fun hc=> ?_) fun hc=> ?_) <;> (try simp only [hc,bs, ↓reduceIte]at h) <;> try simp only [hc]
 | (with_reducible refine aA hQ ?_;exact bx)
 | (cases h;done))
    | cons a rest=>
     obtain⟨hJ,g2,hD,g4⟩:=drop_cons h1
     have bf:k<4611686018427387904:=by omega
     simp only [Ar.said]at h2
     simp only [Ar.aU]at h3
     have kf:=fun s=>k9 (x:=a.x) (by have:=Ar.bS (List.mem_of_getElem? hJ);omega) (w8 a (List.mem_of_getElem? hJ)) s
     have hl:=fB a.x
     have hP:(out.length+1)*17≤bk:=by unfold bk;omega
     rcases Bool.eq_false_or_eq_true a.ref with b1 | b1
     ·simp only [b1,if_true]at h2
      have cf:=ey (l:=out++ [a.name]) (nx:=a.x.names) (n:=out.length+1) (by simp) (by simp;omega) (g:= .shared)
      simp only [List.map_append,List.map_cons,List.map_nil,encStr]at cf
      repeat' (first
 | simp only [go_sem,hD,hJ,hP,hY,b1,cf]
 | (with_reducible refine CU (kf _) ?_)
 | (with_reducible first | refine ax fun hc=> ?_ | refine ay fun hc=> ?_ | refine az (fun hc=> ?_) fun hc=> ?_) <;> (try simp only [hc,bs, ↓reduceIte]at h) <;> try simp only [hc]
 | (with_reducible refine aA hQ ?_;(try cases h);simp only [aE,aF,aN,aO,go_sem,hD,hJ,hP,hY,b1,cf];try exact aQ)
 | (cases h;done))
      refine bX 1 1 ?_ ?_ (IH (rest,k+1,out++ [a.name]++a.x.names,_) ⟨g2,h2,by simp;omega,by simp <;> omega⟩ (Nat.lt_succ_self _))
      ·(simp only [go_sem,hD,hJ,hP,hY,au bf,List.map_append,List.map_cons,List.map_nil,encStr];try exact aT)
      ·(simp only [go_sem,hD,hJ,hP,hY,au bf,List.map_append,List.map_cons,List.map_nil,encStr];try exact aT)
     ·simp only [b1,Bool.false_eq_true,if_false]at h2
      have cf:=ey (l:=out) (nx:=a.x.names) rfl (by omega) (g:= .shared)
      repeat' (first
 | simp only [go_sem,hD,hJ,hP,hY,b1,cf]
 | (with_reducible refine CU (kf _) ?_)
 | (with_reducible first | refine ax fun hc=> ?_ | refine ay fun hc=> ?_ | refine az (fun hc=> ?_) fun hc=> ?_) <;> (try simp only [hc,bs, ↓reduceIte]at h) <;> try simp only [hc]
 | (with_reducible refine aA hQ ?_;(try cases h);simp only [aE,aF,aN,aO,go_sem,hD,hJ,hP,hY,b1,cf];try exact aQ)
 | (cases h;done))
      refine bX 1 1 ?_ ?_ (IH (rest,k+1,out++a.x.names,_) ⟨g2,h2,by simp;omega,by simp <;> omega⟩ (Nat.lt_succ_self _))
      ·(simp only [go_sem,hD,hJ,hP,hY,au bf];try exact aT)
      ·(simp only [go_sem,hD,hJ,hP,hY,au bf];try exact aT)
  ·have cf : ∀ o:List (List D),gC 1 16 (.slice .full 0 []) (.slice .shared 1 (nx.map encStr)) ⟨o,[]⟩=some (.slice (.tok 0) 1 (nx.map encStr),⟨o,[some nx.length]⟩):=fun o=>by
    have:nx.length*17≤bk:=by unfold bk;omega
    cases nx with
    | nil=>exact absurd rfl xW
    | cons a r=>simp only [List.length_cons]at this;simp [gC,this]
   have HB:(v.kind != 10)=false∨(v.kind != 10)=true∧(v.name != [])=false:=by
    cases h1:(v.kind != 10)
    ·exact .inl rfl
    ·rw [h1]at oF;exact .inr ⟨rfl,by simpa using oF⟩
   rcases HB with b1 | ⟨b1,b2⟩
   ·rcases Bool.eq_false_or_eq_true (v.name != [])with b2 | b2
    all_goals
     have b3:(v.name == []) = !(v.name != []):=by simp only [bne,Bool.not_not]
     rw [b2]at b3
     repeat' (first
 | simp only [go_sem,hD,hJ,hP,hY,b1,b2,b3,Bool.not_true,Bool.not_false,cf]
 | (with_reducible refine CU (hx _) ?_)
 | (with_reducible first | refine ax fun hc=> ?_ | refine ay fun hc=> ?_ | refine az (fun hc=> ?_) fun hc=> ?_) <;> (try simp only [hc,bs, ↓reduceIte]at h) <;> try simp only [hc]
 | (with_reducible refine aA hQ ?_;(try cases h);simp only [aE,aF,aN,aO,go_sem,hD,hJ,hP,hY,b1,b2,b3,Bool.not_true,Bool.not_false,cf];repeat' (first | exact Ok.out | with_reducible refine gA ?_ ?_ | (simp;done)))
 | (cases h;done))
    all_goals
     refine cP 1 1 (bl.ind (ι:=List Ar×Nat×List aH×Nat) (fun i=>v.args.drop i.2.1=i.1∧Ar.said i.2.2.1 i.1=R∧i.2.2.1.length+Ar.aU i.1≤2000000∧i.2.2.2=i.2.2.1.length) (fun i=>i.1.length)
      (fun i=> [(3, .slice (.tok 0) 1 (i.2.2.1.map encStr)),(1, .ptr 0 0),(25, .slice .shared 6 (v.args.map dt)),(26, .int .i64 (v.args.length:Int)),(27, .int .i64 (i.2.1:Int))]) (fun i=>⟨[bn v],[some i.2.2.2]⟩) ?_ (v.args,0,nx,_) ⟨rfl,hG,by simp at uz ⊢;omega,by simp⟩)
     rintro⟨rest,k,out,n'⟩ ⟨h1,h2,h3,h4⟩ IH
     dsimp only at h1 h2 h3 h4
     subst h4
     cases rest with
     | nil=>
      have hD:=drop_nil h1
      simp only [Ar.said]at h2
      subst h2
      repeat' (first
 | simp only [go_sem,hD,hJ,hP,hY]
 | (with_reducible first | refine ax fun hc=> ?_ | refine ay fun hc=> ?_ | refine az (fun hc=> ?_) fun hc=> ?_) <;> (try simp only [hc,bs, ↓reduceIte]at h) <;> try simp only [hc]
 | (with_reducible refine aA hQ ?_;exact bx)
 | (cases h;done))
     | cons a rest=>
      obtain⟨hJ,g2,hD,g4⟩:=drop_cons h1
      have bf:k<4611686018427387904:=by omega
      simp only [Ar.said]at h2
      simp only [Ar.aU]at h3
      have kf:=fun s=>k9 (x:=a.x) (by have:=Ar.bS (List.mem_of_getElem? hJ);omega) (w8 a (List.mem_of_getElem? hJ)) s
      have hl:=fB a.x
      have hP:(out.length+1)*17≤bk:=by unfold bk;omega
      rcases Bool.eq_false_or_eq_true a.ref with b1 | b1
      ·simp only [b1,if_true]at h2
       have cf:=ey (l:=out++ [a.name]) (nx:=a.x.names) (n:=out.length+1) (by simp) (by simp;omega) (g:= .shared)
       simp only [List.map_append,List.map_cons,List.map_nil,encStr]at cf
       repeat' (first
 | simp only [go_sem,hD,hJ,hP,hY,b1,cf]
 | (with_reducible refine CU (kf _) ?_)
 | (with_reducible first | refine ax fun hc=> ?_ | refine ay fun hc=> ?_ | refine az (fun hc=> ?_) fun hc=> ?_) <;> (try simp only [hc,bs, ↓reduceIte]at h) <;> try simp only [hc]
 | (with_reducible refine aA hQ ?_;(try cases h);simp only [aE,aF,aN,aO,go_sem,hD,hJ,hP,hY,b1,cf];try exact aQ)
 | (cases h;done))
       refine bX 1 1 ?_ ?_ (IH (rest,k+1,out++ [a.name]++a.x.names,_) ⟨g2,h2,by simp;omega,by simp <;> omega⟩ (Nat.lt_succ_self _))
       ·(simp only [go_sem,hD,hJ,hP,hY,au bf,List.map_append,List.map_cons,List.map_nil,encStr];try exact aT)
       ·(simp only [go_sem,hD,hJ,hP,hY,au bf,List.map_append,List.map_cons,List.map_nil,encStr];try exact aT)
      ·simp only [b1,Bool.false_eq_true,if_false]at h2
       have cf:=ey (l:=out) (nx:=a.x.names) rfl (by omega) (g:= .shared)
       repeat' (first
 | simp only [go_sem,hD,hJ,hP,hY,b1,cf]
 | (with_reducible refine CU (kf _) ?_)
 | (with_reducible first | refine ax fun hc=> ?_ | refine ay fun hc=> ?_ | refine az (fun hc=> ?_) fun hc=> ?_) <;> (try simp only [hc,bs, ↓reduceIte]at h) <;> try simp only [hc]
 | (with_reducible refine aA hQ ?_;(try cases h);simp only [aE,aF,aN,aO,go_sem,hD,hJ,hP,hY,b1,cf];try exact aQ)
 | (cases h;done))
       refine bX 1 1 ?_ ?_ (IH (rest,k+1,out++a.x.names,_) ⟨g2,h2,by simp;omega,by simp <;> omega⟩ (Nat.lt_succ_self _))
       ·(simp only [go_sem,hD,hJ,hP,hY,au bf];try exact aT)
       ·(simp only [go_sem,hD,hJ,hP,hY,au bf];try exact aT)
   ·have b3:(v.name == [])=true:=by simpa using b2
    repeat' (first
 | simp only [go_sem,hD,hJ,hP,hY,b1,b2,b3,cf]
 | (with_reducible refine CU (hx _) ?_)
 | (with_reducible first | refine ax fun hc=> ?_ | refine ay fun hc=> ?_ | refine az (fun hc=> ?_) fun hc=> ?_) <;> (try simp only [hc,bs, ↓reduceIte]at h) <;> try simp only [hc]
 | (with_reducible refine aA hQ ?_;(try cases h);simp only [aE,aF,aN,aO,go_sem,hD,hJ,hP,hY,b1,b2,b3,cf];try exact aQ)
 | (cases h;done))
    refine cP 1 1 (bl.ind (ι:=List Ar×Nat×List aH×Nat) (fun i=>v.args.drop i.2.1=i.1∧Ar.said i.2.2.1 i.1=R∧i.2.2.1.length+Ar.aU i.1≤2000000∧i.2.2.2=i.2.2.1.length) (fun i=>i.1.length)
     (fun i=> [(3, .slice (.tok 0) 1 (i.2.2.1.map encStr)),(1, .ptr 0 0),(25, .slice .shared 6 (v.args.map dt)),(26, .int .i64 (v.args.length:Int)),(27, .int .i64 (i.2.1:Int))]) (fun i=>⟨[bn v],[some i.2.2.2]⟩) ?_ (v.args,0,nx,_) ⟨rfl,hG,by simp at uz ⊢;omega,by simp⟩)
    rintro⟨rest,k,out,n'⟩ ⟨h1,h2,h3,h4⟩ IH
    dsimp only at h1 h2 h3 h4
    subst h4
    cases rest with
    | nil=>
     have hD:=drop_nil h1
     simp only [Ar.said]at h2
     subst h2
     repeat' (first
 | simp only [go_sem,hD,hJ,hP,hY]
 | (with_reducible first | refine ax fun hc=> ?_ | refine ay fun hc=> ?_ | refine az (fun hc=> ?_) fun hc=> ?_) <;> (try simp only [hc,bs, ↓reduceIte]at h) <;> try simp only [hc]
 | (with_reducible refine aA hQ ?_;exact bx)
 | (cases h;done))
    | cons a rest=>
     obtain⟨hJ,g2,hD,g4⟩:=drop_cons h1
     have bf:k<4611686018427387904:=by omega
     simp only [Ar.said]at h2
     simp only [Ar.aU]at h3
     have kf:=fun s=>k9 (x:=a.x) (by have:=Ar.bS (List.mem_of_getElem? hJ);omega) (w8 a (List.mem_of_getElem? hJ)) s
     have hl:=fB a.x
     have hP:(out.length+1)*17≤bk:=by unfold bk;omega
     rcases Bool.eq_false_or_eq_true a.ref with b1 | b1
     ·simp only [b1,if_true]at h2
      have cf:=ey (l:=out++ [a.name]) (nx:=a.x.names) (n:=out.length+1) (by simp) (by simp;omega) (g:= .shared)
      simp only [List.map_append,List.map_cons,List.map_nil,encStr]at cf
      repeat' (first
 | simp only [go_sem,hD,hJ,hP,hY,b1,cf]
 | (with_reducible refine CU (kf _) ?_)
 | (with_reducible first | refine ax fun hc=> ?_ | refine ay fun hc=> ?_ | refine az (fun hc=> ?_) fun hc=> ?_) <;> (try simp only [hc,bs, ↓reduceIte]at h) <;> try simp only [hc]
 | (with_reducible refine aA hQ ?_;(try cases h);simp only [aE,aF,aN,aO,go_sem,hD,hJ,hP,hY,b1,cf];try exact aQ)
 | (cases h;done))
      refine bX 1 1 ?_ ?_ (IH (rest,k+1,out++ [a.name]++a.x.names,_) ⟨g2,h2,by simp;omega,by simp <;> omega⟩ (Nat.lt_succ_self _))
      ·(simp only [go_sem,hD,hJ,hP,hY,au bf,List.map_append,List.map_cons,List.map_nil,encStr];try exact aT)
      ·(simp only [go_sem,hD,hJ,hP,hY,au bf,List.map_append,List.map_cons,List.map_nil,encStr];try exact aT)
     ·simp only [b1,Bool.false_eq_true,if_false]at h2
      have cf:=ey (l:=out) (nx:=a.x.names) rfl (by omega) (g:= .shared)
      repeat' (first
 | simp only [go_sem,hD,hJ,hP,hY,b1,cf]
 | (with_reducible refine CU (kf _) ?_)
 | (with_reducible first | refine ax fun hc=> ?_ | refine ay fun hc=> ?_ | refine az (fun hc=> ?_) fun hc=> ?_) <;> (try simp only [hc,bs, ↓reduceIte]at h) <;> try simp only [hc]
 | (with_reducible refine aA hQ ?_;(try cases h);simp only [aE,aF,aN,aO,go_sem,hD,hJ,hP,hY,b1,cf];try exact aQ)
 | (cases h;done))
      refine bX 1 1 ?_ ?_ (IH (rest,k+1,out++a.x.names,_) ⟨g2,h2,by simp;omega,by simp <;> omega⟩ (Nat.lt_succ_self _))
      ·(simp only [go_sem,hD,hJ,hP,hY,au bf];try exact aT)
      ·(simp only [go_sem,hD,hJ,hP,hY,au bf];try exact aT)
theorem x8 {v:Sm} (hv:v.jf) (s:St):aD Tryz.prog p6 [.agg (bn v)] s (.slice .shared 1 (v.said.map encStr)) s:=by
 refine aD.pure ?_ (by simp only [D.bM,D.ok,kV];rfl) (by simp only [D.ok,Tag.ok,dL];rfl) s
 obtain⟨Td,w8,ek⟩:=hv
 obtain⟨R,hG⟩ : ∃ R,v.said=R:=⟨_,rfl⟩
 rw [hG]
 simp only [Sm.said]at hG
 have hlen:v.args.length<1000000000:=by have:=Ar.c7 v.args;omega
 have hx:=fun s=>la (x:=v.x) (by omega) Td s
 have uz:=fB v.x
 unfold S0
 refine aD.go Cy rfl fun B Q hB hQ=> ?_
 have⟨hD,hJ,hP,hY⟩:=bK
 have hP:17≤bk:=by unfold bk;omega
 by_cases hb:(v.kind != 10 && v.name != [])=true
 ·simp only [Sm.o5,hb,if_true]at hG
  rw [Bool.and_eq_true]at hb
  obtain⟨b1,b2⟩:=hb
  have cf:=ey (l:= [v.name]) (nx:=v.x.names) (n:=1) rfl (by simp;omega) (g:= .shared)
  simp only [List.map_append,List.map_cons,List.map_nil,encStr]at cf
  have b3:(v.name == [])=false:=by simpa using b2
  repeat' (first
 | simp only [go_sem,hD,hJ,hP,hY,b1,b2,b3,cf]
 | (with_reducible refine CU (hx _) ?_)
 | (with_reducible first | refine ax fun hc=> ?_ | refine ay fun hc=> ?_ | refine az (fun hc=> ?_) fun hc=> ?_) <;> (try simp only [hc,bs, ↓reduceIte]at h) <;> try simp only [hc]
 | (with_reducible refine aA hQ ?_;(try cases h);simp only [aE,aF,aN,aO,go_sem,hD,hJ,hP,hY,b1,b2,b3,cf];try exact aQ)
 | (cases h;done))
  refine bX 1 1 ?_ ?_ (bl.ind (ι:=List Ar×Nat×List aH×Nat) (fun i=>v.args.drop i.2.1=i.1∧Ar.said i.2.2.1 i.1=R∧i.2.2.1.length+Ar.aU i.1≤2000000∧i.2.2.2=i.2.2.1.length) (fun i=>i.1.length)
   (fun i=> [(3, .slice (.tok 0) 1 (i.2.2.1.map encStr)),(1, .ptr 0 0),(25, .slice .shared 6 (v.args.map dt)),(26, .int .i64 (v.args.length:Int)),(27, .int .i64 (i.2.1:Int))]) (fun i=>⟨[bn v],[some i.2.2.2]⟩) ?_ (v.args,0,([v.name]++v.x.names),(v.x.names.length+1)) ⟨rfl,hG,by simp at uz ⊢;omega,by simp⟩)
  ·(simp only [go_sem,hD,hJ,hP,hY,List.map_append,List.map_cons,List.map_nil,encStr];try exact aT)
  ·(simp only [go_sem,hD,hJ,hP,hY,List.map_append,List.map_cons,List.map_nil,encStr];try exact aT)
  rintro⟨rest,k,out,n'⟩ ⟨h1,h2,h3,h4⟩ IH
  dsimp only at h1 h2 h3 h4
  subst h4
  cases rest with
  | nil=>
   have hD:=drop_nil h1
   simp only [Ar.said]at h2
   subst h2
   repeat' (first
 | simp only [go_sem,hD,hJ,hP,hY]
 | (with_reducible first | refine ax fun hc=> ?_ | refine ay fun hc=> ?_ | refine az (fun hc=> ?_) fun hc=> ?_) <;> (try simp only [hc,bs, ↓reduceIte]at h) <;> try simp only [hc]
 | (with_reducible refine aA hQ ?_;exact bx)
 | (cases h;done))
  | cons a rest=>
   obtain⟨hJ,g2,hD,g4⟩:=drop_cons h1
   have bf:k<4611686018427387904:=by omega
   simp only [Ar.said]at h2
   simp only [Ar.aU]at h3
   have kf:=fun s=>la (x:=a.x) (by have:=Ar.bS (List.mem_of_getElem? hJ);omega) (w8 a (List.mem_of_getElem? hJ)) s
   have hl:=fB a.x
   have hP:(out.length+1)*17≤bk:=by unfold bk;omega
   rcases Bool.eq_false_or_eq_true a.ref with b1 | b1
   ·simp only [b1,if_true]at h2
    have cf:=ey (l:=out++ [a.name]) (nx:=a.x.names) (n:=out.length+1) (by simp) (by simp;omega) (g:= .shared)
    simp only [List.map_append,List.map_cons,List.map_nil,encStr]at cf
    repeat' (first
 | simp only [go_sem,hD,hJ,hP,hY,b1,cf]
 | (with_reducible refine CU (kf _) ?_)
 | (with_reducible first | refine ax fun hc=> ?_ | refine ay fun hc=> ?_ | refine az (fun hc=> ?_) fun hc=> ?_) <;> (try simp only [hc,bs, ↓reduceIte]at h) <;> try simp only [hc]
 | (with_reducible refine aA hQ ?_;(try cases h);simp only [aE,aF,aN,aO,go_sem,hD,hJ,hP,hY,b1,cf];try exact aQ)
 | (cases h;done))
    refine bX 1 1 ?_ ?_ (IH (rest,k+1,out++ [a.name]++a.x.names,_) ⟨g2,h2,by simp;omega,by simp <;> omega⟩ (Nat.lt_succ_self _))
    ·(simp only [go_sem,hD,hJ,hP,hY,au bf,List.map_append,List.map_cons,List.map_nil,encStr];try exact aT)
    ·(simp only [go_sem,hD,hJ,hP,hY,au bf,List.map_append,List.map_cons,List.map_nil,encStr];try exact aT)
   ·simp only [b1,Bool.false_eq_true,if_false]at h2
    have cf:=ey (l:=out) (nx:=a.x.names) rfl (by omega) (g:= .shared)
    repeat' (first
 | simp only [go_sem,hD,hJ,hP,hY,b1,cf]
 | (with_reducible refine CU (kf _) ?_)
 | (with_reducible first | refine ax fun hc=> ?_ | refine ay fun hc=> ?_ | refine az (fun hc=> ?_) fun hc=> ?_) <;> (try simp only [hc,bs, ↓reduceIte]at h) <;> try simp only [hc]
 | (with_reducible refine aA hQ ?_;(try cases h);simp only [aE,aF,aN,aO,go_sem,hD,hJ,hP,hY,b1,cf];try exact aQ)
 | (cases h;done))
    refine bX 1 1 ?_ ?_ (IH (rest,k+1,out++a.x.names,_) ⟨g2,h2,by simp;omega,by simp <;> omega⟩ (Nat.lt_succ_self _))
    ·(simp only [go_sem,hD,hJ,hP,hY,au bf];try exact aT)
    ·(simp only [go_sem,hD,hJ,hP,hY,au bf];try exact aT)
 ·simp only [Sm.o5,hb,Bool.false_eq_true,if_false,List.nil_append]at hG
  have oF:(v.kind != 10 && v.name != [])=false:=by simpa using hb
  obtain⟨nx,KX⟩ : ∃ nx,nx=v.x.names:=⟨_,rfl⟩
  rw [← KX]at hG uz
  simp only [← KX]at hx
  by_cases xW:nx = []
  ·subst xW
   simp only [List.map_nil]at hx
   have cf : ∀ o:List (List D),gC 1 16 (.slice .full 0 []) (.slice .shared 1 []) ⟨o,[]⟩=some (.slice .full 0 [],⟨o,[]⟩):=fun o=>by simp [gC,bk]
   have HB:(v.kind != 10)=false∨(v.kind != 10)=true∧(v.name != [])=false:=by
    cases h1:(v.kind != 10)
    ·exact .inl rfl
    ·rw [h1]at oF;exact .inr ⟨rfl,by simpa using oF⟩
   rcases HB with b1 | ⟨b1,b2⟩
   ·rcases Bool.eq_false_or_eq_true (v.name != [])with b2 | b2
    all_goals
     have b3:(v.name == []) = !(v.name != []):=by simp only [bne,Bool.not_not]
     rw [b2]at b3
     repeat' (first
 | simp only [go_sem,hD,hJ,hP,hY,b1,b2,b3,Bool.not_true,Bool.not_false,cf]
 | (with_reducible refine CU (hx _) ?_)
 | (with_reducible first | refine ax fun hc=> ?_ | refine ay fun hc=> ?_ | refine az (fun hc=> ?_) fun hc=> ?_) <;> (try simp only [hc,bs, ↓reduceIte]at h) <;> try simp only [hc]
 | (with_reducible refine aA hQ ?_;(try cases h);simp only [aE,aF,aN,aO,go_sem,hD,hJ,hP,hY,b1,b2,b3,Bool.not_true,Bool.not_false,cf];repeat' (first | exact Ok.out | with_reducible refine gA ?_ ?_ | (simp;done)))
 | (cases h;done))
    all_goals
     refine bl.kT 3 1 rfl ?_
     simp only [go_sem,hD,hJ,hP,hY]
     refine cP 1 1 (bl.ind (ι:=List Ar×Nat×List aH×Nat) (fun i=>v.args.drop i.2.1=i.1∧Ar.said i.2.2.1 i.1=R∧i.2.2.1.length+Ar.aU i.1≤2000000∧i.2.2.2=i.2.2.1.length) (fun i=>i.1.length)
      (fun i=> [(3, .slice (.tok 0) 1 (i.2.2.1.map encStr)),(1, .ptr 0 0),(25, .slice .shared 6 (v.args.map dt)),(26, .int .i64 (v.args.length:Int)),(27, .int .i64 (i.2.1:Int))]) (fun i=>⟨[bn v],[some i.2.2.2]⟩) ?_ (v.args,0,[],0) ⟨rfl,hG,by simp at uz ⊢;omega,by simp⟩)
     rintro⟨rest,k,out,n'⟩ ⟨h1,h2,h3,h4⟩ IH
     dsimp only at h1 h2 h3 h4
     subst h4
     cases rest with
     | nil=>
      have hD:=drop_nil h1
      simp only [Ar.said]at h2
      subst h2
      repeat' (first
 | simp only [go_sem,hD,hJ,hP,hY]
 | (with_reducible first | refine ax fun hc=> ?_ | refine ay fun hc=> ?_ | refine az (fun hc=> ?_) fun hc=> ?_) <;> (try simp only [hc,bs, ↓reduceIte]at h) <;> try simp only [hc]
 | (with_reducible refine aA hQ ?_;exact bx)
 | (cases h;done))
     | cons a rest=>
      obtain⟨hJ,g2,hD,g4⟩:=drop_cons h1
      have bf:k<4611686018427387904:=by omega
      simp only [Ar.said]at h2
      simp only [Ar.aU]at h3
      have kf:=fun s=>la (x:=a.x) (by have:=Ar.bS (List.mem_of_getElem? hJ);omega) (w8 a (List.mem_of_getElem? hJ)) s
      have hl:=fB a.x
      have hP:(out.length+1)*17≤bk:=by unfold bk;omega
      rcases Bool.eq_false_or_eq_true a.ref with b1 | b1
      ·simp only [b1,if_true]at h2
       have cf:=ey (l:=out++ [a.name]) (nx:=a.x.names) (n:=out.length+1) (by simp) (by simp;omega) (g:= .shared)
       simp only [List.map_append,List.map_cons,List.map_nil,encStr]at cf
       repeat' (first
 | simp only [go_sem,hD,hJ,hP,hY,b1,cf]
 | (with_reducible refine CU (kf _) ?_)
 | (with_reducible first | refine ax fun hc=> ?_ | refine ay fun hc=> ?_ | refine az (fun hc=> ?_) fun hc=> ?_) <;> (try simp only [hc,bs, ↓reduceIte]at h) <;> try simp only [hc]
 | (with_reducible refine aA hQ ?_;(try cases h);simp only [aE,aF,aN,aO,go_sem,hD,hJ,hP,hY,b1,cf];try exact aQ)
 | (cases h;done))
       refine bX 1 1 ?_ ?_ (IH (rest,k+1,out++ [a.name]++a.x.names,_) ⟨g2,h2,by simp;omega,by simp <;> omega⟩ (Nat.lt_succ_self _))
       ·(simp only [go_sem,hD,hJ,hP,hY,au bf,List.map_append,List.map_cons,List.map_nil,encStr];try exact aT)
       ·(simp only [go_sem,hD,hJ,hP,hY,au bf,List.map_append,List.map_cons,List.map_nil,encStr];try exact aT)
      ·simp only [b1,Bool.false_eq_true,if_false]at h2
       have cf:=ey (l:=out) (nx:=a.x.names) rfl (by omega) (g:= .shared)
       repeat' (first
 | simp only [go_sem,hD,hJ,hP,hY,b1,cf]
 | (with_reducible refine CU (kf _) ?_)
 | (with_reducible first | refine ax fun hc=> ?_ | refine ay fun hc=> ?_ | refine az (fun hc=> ?_) fun hc=> ?_) <;> (try simp only [hc,bs, ↓reduceIte]at h) <;> try simp only [hc]
 | (with_reducible refine aA hQ ?_;(try cases h);simp only [aE,aF,aN,aO,go_sem,hD,hJ,hP,hY,b1,cf];try exact aQ)
 | (cases h;done))
       refine bX 1 1 ?_ ?_ (IH (rest,k+1,out++a.x.names,_) ⟨g2,h2,by simp;omega,by simp <;> omega⟩ (Nat.lt_succ_self _))
       ·(simp only [go_sem,hD,hJ,hP,hY,au bf];try exact aT)
       ·(simp only [go_sem,hD,hJ,hP,hY,au bf];try exact aT)
   ·have b3:(v.name == [])=true:=by simpa using b2
    repeat' (first
 | simp only [go_sem,hD,hJ,hP,hY,b1,b2,b3,cf]
 | (with_reducible refine CU (hx _) ?_)
 | (with_reducible first | refine ax fun hc=> ?_ | refine ay fun hc=> ?_ | refine az (fun hc=> ?_) fun hc=> ?_) <;> (try simp only [hc,bs, ↓reduceIte]at h) <;> try simp only [hc]
 | (with_reducible refine aA hQ ?_;(try cases h);simp only [aE,aF,aN,aO,go_sem,hD,hJ,hP,hY,b1,b2,b3,cf];try exact aQ)
 | (cases h;done))
    refine bl.kT 3 1 rfl ?_
    simp only [go_sem,hD,hJ,hP,hY]
    refine cP 1 1 (bl.ind (ι:=List Ar×Nat×List aH×Nat) (fun i=>v.args.drop i.2.1=i.1∧Ar.said i.2.2.1 i.1=R∧i.2.2.1.length+Ar.aU i.1≤2000000∧i.2.2.2=i.2.2.1.length) (fun i=>i.1.length)
     (fun i=> [(3, .slice (.tok 0) 1 (i.2.2.1.map encStr)),(1, .ptr 0 0),(25, .slice .shared 6 (v.args.map dt)),(26, .int .i64 (v.args.length:Int)),(27, .int .i64 (i.2.1:Int))]) (fun i=>⟨[bn v],[some i.2.2.2]⟩) ?_ (v.args,0,[],0) ⟨rfl,hG,by simp at uz ⊢;omega,by simp⟩)
    rintro⟨rest,k,out,n'⟩ ⟨h1,h2,h3,h4⟩ IH
    dsimp only at h1 h2 h3 h4
    subst h4
    cases rest with
    | nil=>
     have hD:=drop_nil h1
     simp only [Ar.said]at h2
     subst h2
     repeat' (first
 | simp only [go_sem,hD,hJ,hP,hY]
 | (with_reducible first | refine ax fun hc=> ?_ | refine ay fun hc=> ?_ | refine az (fun hc=> ?_) fun hc=> ?_) <;> (try simp only [hc,bs, ↓reduceIte]at h) <;> try simp only [hc]
 | (with_reducible refine aA hQ ?_;exact bx)
 | (cases h;done))
    | cons a rest=>
     obtain⟨hJ,g2,hD,g4⟩:=drop_cons h1
     have bf:k<4611686018427387904:=by omega
     simp only [Ar.said]at h2
     simp only [Ar.aU]at h3
     have kf:=fun s=>la (x:=a.x) (by have:=Ar.bS (List.mem_of_getElem? hJ);omega) (w8 a (List.mem_of_getElem? hJ)) s
     have hl:=fB a.x
     have hP:(out.length+1)*17≤bk:=by unfold bk;omega
     rcases Bool.eq_false_or_eq_true a.ref with b1 | b1
     ·simp only [b1,if_true]at h2
      have cf:=ey (l:=out++ [a.name]) (nx:=a.x.names) (n:=out.length+1) (by simp) (by simp;omega) (g:= .shared)
      simp only [List.map_append,List.map_cons,List.map_nil,encStr]at cf
      repeat' (first
 | simp only [go_sem,hD,hJ,hP,hY,b1,cf]
 | (with_reducible refine CU (kf _) ?_)
 | (with_reducible first | refine ax fun hc=> ?_ | refine ay fun hc=> ?_ | refine az (fun hc=> ?_) fun hc=> ?_) <;> (try simp only [hc,bs, ↓reduceIte]at h) <;> try simp only [hc]
 | (with_reducible refine aA hQ ?_;(try cases h);simp only [aE,aF,aN,aO,go_sem,hD,hJ,hP,hY,b1,cf];try exact aQ)
 | (cases h;done))
      refine bX 1 1 ?_ ?_ (IH (rest,k+1,out++ [a.name]++a.x.names,_) ⟨g2,h2,by simp;omega,by simp <;> omega⟩ (Nat.lt_succ_self _))
      ·(simp only [go_sem,hD,hJ,hP,hY,au bf,List.map_append,List.map_cons,List.map_nil,encStr];try exact aT)
      ·(simp only [go_sem,hD,hJ,hP,hY,au bf,List.map_append,List.map_cons,List.map_nil,encStr];try exact aT)
     ·simp only [b1,Bool.false_eq_true,if_false]at h2
      have cf:=ey (l:=out) (nx:=a.x.names) rfl (by omega) (g:= .shared)
      repeat' (first
 | simp only [go_sem,hD,hJ,hP,hY,b1,cf]
 | (with_reducible refine CU (kf _) ?_)
 | (with_reducible first | refine ax fun hc=> ?_ | refine ay fun hc=> ?_ | refine az (fun hc=> ?_) fun hc=> ?_) <;> (try simp only [hc,bs, ↓reduceIte]at h) <;> try simp only [hc]
 | (with_reducible refine aA hQ ?_;(try cases h);simp only [aE,aF,aN,aO,go_sem,hD,hJ,hP,hY,b1,cf];try exact aQ)
 | (cases h;done))
      refine bX 1 1 ?_ ?_ (IH (rest,k+1,out++a.x.names,_) ⟨g2,h2,by simp;omega,by simp <;> omega⟩ (Nat.lt_succ_self _))
      ·(simp only [go_sem,hD,hJ,hP,hY,au bf];try exact aT)
      ·(simp only [go_sem,hD,hJ,hP,hY,au bf];try exact aT)
  ·have cf : ∀ o:List (List D),gC 1 16 (.slice .full 0 []) (.slice .shared 1 (nx.map encStr)) ⟨o,[]⟩=some (.slice (.tok 0) 1 (nx.map encStr),⟨o,[some nx.length]⟩):=fun o=>by
    have:nx.length*17≤bk:=by unfold bk;omega
    cases nx with
    | nil=>exact absurd rfl xW
    | cons a r=>simp only [List.length_cons]at this;simp [gC,this]
   have HB:(v.kind != 10)=false∨(v.kind != 10)=true∧(v.name != [])=false:=by
    cases h1:(v.kind != 10)
    ·exact .inl rfl
    ·rw [h1]at oF;exact .inr ⟨rfl,by simpa using oF⟩
   rcases HB with b1 | ⟨b1,b2⟩
   ·rcases Bool.eq_false_or_eq_true (v.name != [])with b2 | b2
    all_goals
     have b3:(v.name == []) = !(v.name != []):=by simp only [bne,Bool.not_not]
     rw [b2]at b3
     repeat' (first
 | simp only [go_sem,hD,hJ,hP,hY,b1,b2,b3,Bool.not_true,Bool.not_false,cf]
 | (with_reducible refine CU (hx _) ?_)
 | (with_reducible first | refine ax fun hc=> ?_ | refine ay fun hc=> ?_ | refine az (fun hc=> ?_) fun hc=> ?_) <;> (try simp only [hc,bs, ↓reduceIte]at h) <;> try simp only [hc]
 | (with_reducible refine aA hQ ?_;(try cases h);simp only [aE,aF,aN,aO,go_sem,hD,hJ,hP,hY,b1,b2,b3,Bool.not_true,Bool.not_false,cf];repeat' (first | exact Ok.out | with_reducible refine gA ?_ ?_ | (simp;done)))
 | (cases h;done))
    all_goals
     refine cP 1 1 (bl.ind (ι:=List Ar×Nat×List aH×Nat) (fun i=>v.args.drop i.2.1=i.1∧Ar.said i.2.2.1 i.1=R∧i.2.2.1.length+Ar.aU i.1≤2000000∧i.2.2.2=i.2.2.1.length) (fun i=>i.1.length)
      (fun i=> [(3, .slice (.tok 0) 1 (i.2.2.1.map encStr)),(1, .ptr 0 0),(25, .slice .shared 6 (v.args.map dt)),(26, .int .i64 (v.args.length:Int)),(27, .int .i64 (i.2.1:Int))]) (fun i=>⟨[bn v],[some i.2.2.2]⟩) ?_ (v.args,0,nx,_) ⟨rfl,hG,by simp at uz ⊢;omega,by simp⟩)
     rintro⟨rest,k,out,n'⟩ ⟨h1,h2,h3,h4⟩ IH
     dsimp only at h1 h2 h3 h4
     subst h4
     cases rest with
     | nil=>
      have hD:=drop_nil h1
      simp only [Ar.said]at h2
      subst h2
      repeat' (first
 | simp only [go_sem,hD,hJ,hP,hY]
 | (with_reducible first | refine ax fun hc=> ?_ | refine ay fun hc=> ?_ | refine az (fun hc=> ?_) fun hc=> ?_) <;> (try simp only [hc,bs, ↓reduceIte]at h) <;> try simp only [hc]
 | (with_reducible refine aA hQ ?_;exact bx)
 | (cases h;done))
     | cons a rest=>
      obtain⟨hJ,g2,hD,g4⟩:=drop_cons h1
      have bf:k<4611686018427387904:=by omega
      simp only [Ar.said]at h2
      simp only [Ar.aU]at h3
      have kf:=fun s=>la (x:=a.x) (by have:=Ar.bS (List.mem_of_getElem? hJ);omega) (w8 a (List.mem_of_getElem? hJ)) s
      have hl:=fB a.x
      have hP:(out.length+1)*17≤bk:=by unfold bk;omega
      rcases Bool.eq_false_or_eq_true a.ref with b1 | b1
      ·simp only [b1,if_true]at h2
       have cf:=ey (l:=out++ [a.name]) (nx:=a.x.names) (n:=out.length+1) (by simp) (by simp;omega) (g:= .shared)
       simp only [List.map_append,List.map_cons,List.map_nil,encStr]at cf
       repeat' (first
 | simp only [go_sem,hD,hJ,hP,hY,b1,cf]
 | (with_reducible refine CU (kf _) ?_)
 | (with_reducible first | refine ax fun hc=> ?_ | refine ay fun hc=> ?_ | refine az (fun hc=> ?_) fun hc=> ?_) <;> (try simp only [hc,bs, ↓reduceIte]at h) <;> try simp only [hc]
 | (with_reducible refine aA hQ ?_;(try cases h);simp only [aE,aF,aN,aO,go_sem,hD,hJ,hP,hY,b1,cf];try exact aQ)
 | (cases h;done))
       refine bX 1 1 ?_ ?_ (IH (rest,k+1,out++ [a.name]++a.x.names,_) ⟨g2,h2,by simp;omega,by simp <;> omega⟩ (Nat.lt_succ_self _))
       ·(simp only [go_sem,hD,hJ,hP,hY,au bf,List.map_append,List.map_cons,List.map_nil,encStr];try exact aT)
       ·(simp only [go_sem,hD,hJ,hP,hY,au bf,List.map_append,List.map_cons,List.map_nil,encStr];try exact aT)
      ·simp only [b1,Bool.false_eq_true,if_false]at h2
       have cf:=ey (l:=out) (nx:=a.x.names) rfl (by omega) (g:= .shared)
       repeat' (first
 | simp only [go_sem,hD,hJ,hP,hY,b1,cf]
 | (with_reducible refine CU (kf _) ?_)
 | (with_reducible first | refine ax fun hc=> ?_ | refine ay fun hc=> ?_ | refine az (fun hc=> ?_) fun hc=> ?_) <;> (try simp only [hc,bs, ↓reduceIte]at h) <;> try simp only [hc]
 | (with_reducible refine aA hQ ?_;(try cases h);simp only [aE,aF,aN,aO,go_sem,hD,hJ,hP,hY,b1,cf];try exact aQ)
 | (cases h;done))
       refine bX 1 1 ?_ ?_ (IH (rest,k+1,out++a.x.names,_) ⟨g2,h2,by simp;omega,by simp <;> omega⟩ (Nat.lt_succ_self _))
       ·(simp only [go_sem,hD,hJ,hP,hY,au bf];try exact aT)
       ·(simp only [go_sem,hD,hJ,hP,hY,au bf];try exact aT)
   ·have b3:(v.name == [])=true:=by simpa using b2
    repeat' (first
 | simp only [go_sem,hD,hJ,hP,hY,b1,b2,b3,cf]
 | (with_reducible refine CU (hx _) ?_)
 | (with_reducible first | refine ax fun hc=> ?_ | refine ay fun hc=> ?_ | refine az (fun hc=> ?_) fun hc=> ?_) <;> (try simp only [hc,bs, ↓reduceIte]at h) <;> try simp only [hc]
 | (with_reducible refine aA hQ ?_;(try cases h);simp only [aE,aF,aN,aO,go_sem,hD,hJ,hP,hY,b1,b2,b3,cf];try exact aQ)
 | (cases h;done))
    refine cP 1 1 (bl.ind (ι:=List Ar×Nat×List aH×Nat) (fun i=>v.args.drop i.2.1=i.1∧Ar.said i.2.2.1 i.1=R∧i.2.2.1.length+Ar.aU i.1≤2000000∧i.2.2.2=i.2.2.1.length) (fun i=>i.1.length)
     (fun i=> [(3, .slice (.tok 0) 1 (i.2.2.1.map encStr)),(1, .ptr 0 0),(25, .slice .shared 6 (v.args.map dt)),(26, .int .i64 (v.args.length:Int)),(27, .int .i64 (i.2.1:Int))]) (fun i=>⟨[bn v],[some i.2.2.2]⟩) ?_ (v.args,0,nx,_) ⟨rfl,hG,by simp at uz ⊢;omega,by simp⟩)
    rintro⟨rest,k,out,n'⟩ ⟨h1,h2,h3,h4⟩ IH
    dsimp only at h1 h2 h3 h4
    subst h4
    cases rest with
    | nil=>
     have hD:=drop_nil h1
     simp only [Ar.said]at h2
     subst h2
     repeat' (first
 | simp only [go_sem,hD,hJ,hP,hY]
 | (with_reducible first | refine ax fun hc=> ?_ | refine ay fun hc=> ?_ | refine az (fun hc=> ?_) fun hc=> ?_) <;> (try simp only [hc,bs, ↓reduceIte]at h) <;> try simp only [hc]
 | (with_reducible refine aA hQ ?_;exact bx)
 | (cases h;done))
    | cons a rest=>
     obtain⟨hJ,g2,hD,g4⟩:=drop_cons h1
     have bf:k<4611686018427387904:=by omega
     simp only [Ar.said]at h2
     simp only [Ar.aU]at h3
     have kf:=fun s=>la (x:=a.x) (by have:=Ar.bS (List.mem_of_getElem? hJ);omega) (w8 a (List.mem_of_getElem? hJ)) s
     have hl:=fB a.x
     have hP:(out.length+1)*17≤bk:=by unfold bk;omega
     rcases Bool.eq_false_or_eq_true a.ref with b1 | b1
     ·simp only [b1,if_true]at h2
      have cf:=ey (l:=out++ [a.name]) (nx:=a.x.names) (n:=out.length+1) (by simp) (by simp;omega) (g:= .shared)
      simp only [List.map_append,List.map_cons,List.map_nil,encStr]at cf
      repeat' (first
 | simp only [go_sem,hD,hJ,hP,hY,b1,cf]
 | (with_reducible refine CU (kf _) ?_)
 | (with_reducible first | refine ax fun hc=> ?_ | refine ay fun hc=> ?_ | refine az (fun hc=> ?_) fun hc=> ?_) <;> (try simp only [hc,bs, ↓reduceIte]at h) <;> try simp only [hc]
 | (with_reducible refine aA hQ ?_;(try cases h);simp only [aE,aF,aN,aO,go_sem,hD,hJ,hP,hY,b1,cf];try exact aQ)
 | (cases h;done))
      refine bX 1 1 ?_ ?_ (IH (rest,k+1,out++ [a.name]++a.x.names,_) ⟨g2,h2,by simp;omega,by simp <;> omega⟩ (Nat.lt_succ_self _))
      ·(simp only [go_sem,hD,hJ,hP,hY,au bf,List.map_append,List.map_cons,List.map_nil,encStr];try exact aT)
      ·(simp only [go_sem,hD,hJ,hP,hY,au bf,List.map_append,List.map_cons,List.map_nil,encStr];try exact aT)
     ·simp only [b1,Bool.false_eq_true,if_false]at h2
      have cf:=ey (l:=out) (nx:=a.x.names) rfl (by omega) (g:= .shared)
      repeat' (first
 | simp only [go_sem,hD,hJ,hP,hY,b1,cf]
 | (with_reducible refine CU (kf _) ?_)
 | (with_reducible first | refine ax fun hc=> ?_ | refine ay fun hc=> ?_ | refine az (fun hc=> ?_) fun hc=> ?_) <;> (try simp only [hc,bs, ↓reduceIte]at h) <;> try simp only [hc]
 | (with_reducible refine aA hQ ?_;(try cases h);simp only [aE,aF,aN,aO,go_sem,hD,hJ,hP,hY,b1,cf];try exact aQ)
 | (cases h;done))
      refine bX 1 1 ?_ ?_ (IH (rest,k+1,out++a.x.names,_) ⟨g2,h2,by simp;omega,by simp <;> omega⟩ (Nat.lt_succ_self _))
      ·(simp only [go_sem,hD,hJ,hP,hY,au bf];try exact aT)
      ·(simp only [go_sem,hD,hJ,hP,hY,au bf];try exact aT)
end Go.Abs

/-! MayEq2 -/

namespace Go.Abs
theorem jj : ∀ (a b:List It) (n:Nat),It.dz n (a++b)=(It.dz n a && It.dz (n+a.length) b)
 | [],b,n=>by simp [It.dz]
 | i::a,b,n=>by
  simp only [List.cons_append,It.dz,jj a b (n+1),List.length_cons]
  have:n+1+a.length=n+(a.length+1):=by omega
  rw [this]
  split <;> simp
theorem zR (n:Nat) (i:It):It.dz n [i] = true↔i.s.id=((n+1:Nat):Int)∧i.deep≤12∧i.s.one=true:=by
 simp only [It.dz]
 split
 ·rename_i h
  simp only [Bool.or_eq_true,bne_iff_ne,ne_eq,decide_eq_true_eq,Bool.not_eq_true']at h
  refine⟨fun h=>(Bool.false_ne_true h).elim,fun⟨h1,h2,h3⟩=> ?_⟩
  rcases h with (h | h) | h
  ·exact(h h1).elim
  ·omega
  ·rw [h]at h3;cases h3
 ·rename_i h
  simp only [Bool.or_eq_true,bne_iff_ne,ne_eq,decide_eq_true_eq,Bool.not_eq_true',not_or,Decidable.not_not,Bool.not_eq_false]at h
  exact⟨fun _=>⟨h.1.1,by omega,h.2⟩,fun _=>rfl⟩
mutual
theorem w9 (deep b8:Int) (bc:Bool) : ∀ (s:Sm) (out:List It),∃ new,ga deep b8 bc out s=out++(⟨s,deep,b8,bc⟩::new)
 | ⟨id,kind,labels,name,proc,x,has,args,bp,e⟩,out=>by
  simp only [ga]
  split
  ·obtain⟨n1,h1⟩:=ow (deep+1) id false bp (out++ [⟨⟨id,kind,labels,name,proc,x,has,args,bp,e⟩,deep,b8,bc⟩])
   obtain⟨n2,h2⟩:=ow (deep+1) id true e (de (deep+1) id false (out++ [⟨⟨id,kind,labels,name,proc,x,has,args,bp,e⟩,deep,b8,bc⟩]) bp)
   rw [h2,h1]
   exact⟨n1++n2,by simp⟩
  ·exact⟨[],rfl⟩
theorem ow (deep b8:Int) (bc:Bool) : ∀ (l:List Sm) (out:List It),∃ new,de deep b8 bc out l=out++new
 | [],out=>⟨[],by simp [de]⟩
 | s::l,out=>by
  simp only [de]
  split
  ·obtain⟨n1,h1⟩:=w9 deep b8 bc s out
   obtain⟨n2,h2⟩:=ow deep b8 bc l (ga deep b8 bc out s)
   rw [h2,h1]
   exact⟨⟨s,deep,b8,bc⟩::n1++n2,by simp⟩
  ·exact⟨[],by simp⟩
end
theorem BW {nest:Int} {n:Nat} {s:Sm} (h:(Sm.nG nest n s).1=true) :
 n+1≤200∧s.id=((n+1:Nat):Int)∧s.one=true∧(Sm.fu (nest+1) (n+1) s.bp).1=true∧(Sm.fu (nest+1) (Sm.fu (nest+1) (n+1) s.bp).2 s.bc).1=true∧
 (Sm.nG nest n s).2=(Sm.fu (nest+1) (Sm.fu (nest+1) (n+1) s.bp).2 s.bc).2:=by
 rw [A9]at h ⊢
 split at h
 ·cases h
 rename_i h1
 simp only [Bool.or_eq_true,bne_iff_ne,ne_eq,decide_eq_true_eq,Bool.not_eq_true',not_or,Decidable.not_not,Bool.not_eq_false]at h1
 split at h
 ·cases h
 rename_i h2
 have qg:(Sm.fu (nest+1) (n+1) s.bp).1=true:=by simpa using h2
 refine⟨by omega,h1.1.1.2, ?_,qg,h, ?_⟩
 ·rw [zQ,h1.1.2,h1.2];rfl
 ·rw [if_neg (by simp only [Bool.or_eq_true,bne_iff_ne,ne_eq,decide_eq_true_eq,Bool.not_eq_true',not_or,Decidable.not_not,Bool.not_eq_false];exact h1),if_neg h2]
theorem qq {nest:Int} {n:Nat} {l:List Sm} (h:(Sm.fu nest n l).1=true):(l = []∨nest≤12)∧Sm.fu nest n l=Sm.eg nest n l:=by
 unfold Sm.fu gate at *
 split at h
 ·cases h
 ·rename_i hc
  rw [if_neg hc]
  refine⟨?_,rfl⟩
  simp only [Bool.and_eq_true,decide_eq_true_eq,not_and]at hc
  cases l with
  | nil=>exact .inl rfl
  | cons s l=>right;simp only [List.length_cons]at hc;omega
mutual
theorem KY : ∀ (s:Sm) (nest b8:Int) (bc:Bool) (n:Nat) (out:List It),nest≤12→out.length≤n→n≤200→(Sm.nG nest n s).1=true→
 ∃ new,ga nest b8 bc out s=out++new∧It.dz n new=true∧n+new.length=(Sm.nG nest n s).2∧(Sm.nG nest n s).2≤200
 | ⟨id,kind,labels,name,proc,x,has,args,bp,e⟩,nest,b8,bc,n,out,KZ,ho,hn,h=>by
  obtain⟨h1,h2,h3,h4,h5,h6⟩:=BW h
  dsimp only at h2 h4 h5 h6
  rw [h6]
  obtain⟨g1,e1⟩:=qq h4
  rw [e1]at h4 h5 ⊢
  obtain⟨g2,e2⟩:=qq h5
  rw [e2]at h5 ⊢
  have ni:It.dz n [(⟨⟨id,kind,labels,name,proc,x,has,args,bp,e⟩,nest,b8,bc⟩:It)] = true:=(zR _ _).2 ⟨h2,KZ,h3⟩
  obtain⟨n1,k1,k2,k3,k4⟩:=sT bp (nest+1) id false (n+1) (out++ [⟨⟨id,kind,labels,name,proc,x,has,args,bp,e⟩,nest,b8,bc⟩]) g1 (by simp;omega) h1 h4
  obtain⟨n2,j1,j2,j3,j4⟩:=sT e (nest+1) id true _ (out++ [⟨⟨id,kind,labels,name,proc,x,has,args,bp,e⟩,nest,b8,bc⟩]++n1) g2 (by simp;omega) k4 h5
  simp only [ga]
  rw [if_pos (by simpa using KZ),k1,j1]
  refine⟨⟨⟨id,kind,labels,name,proc,x,has,args,bp,e⟩,nest,b8,bc⟩::(n1++n2),by simp, ?_, ?_,j4⟩
  ·have:(⟨⟨id,kind,labels,name,proc,x,has,args,bp,e⟩,nest,b8,bc⟩:It)::(n1++n2) = [⟨⟨id,kind,labels,name,proc,x,has,args,bp,e⟩,nest,b8,bc⟩]++n1++n2:=by simp
   rw [this,jj,jj,ni,Bool.true_and]
   have e3:n+([(⟨⟨id,kind,labels,name,proc,x,has,args,bp,e⟩,nest,b8,bc⟩:It)]++n1).length=(Sm.eg (nest+1) (n+1) bp).2:=by simp;omega
   rw [e3,j2]
   have e4:n + [(⟨⟨id,kind,labels,name,proc,x,has,args,bp,e⟩,nest,b8,bc⟩:It)].length=n+1:=rfl
   rw [e4,k2];rfl
  ·simp only [List.length_cons,List.length_append];omega
theorem sT : ∀ (l:List Sm) (nest b8:Int) (bc:Bool) (n:Nat) (out:List It),(l = []∨nest≤12)→out.length≤n→n≤200→(Sm.eg nest n l).1=true→
 ∃ new,de nest b8 bc out l=out++new∧It.dz n new=true∧n+new.length=(Sm.eg nest n l).2∧(Sm.eg nest n l).2≤200
 | [],nest,b8,bc,n,out,KZ,ho,hn,h=>⟨[],by simp [de],rfl,by simp [Sm.eg],by simpa [Sm.eg]using hn⟩
 | s::l,nest,b8,bc,n,out,KZ,ho,hn,h=>by
  have Te:nest≤12:=KZ.resolve_left (by simp)
  simp only [Sm.eg]at h ⊢
  split at h
  ·cases h
  rename_i hc
  rw [if_neg hc]
  obtain⟨n1,k1,k2,k3,k4⟩:=KY s nest b8 bc n out Te ho hn (by simpa using hc)
  obtain⟨n2,j1,j2,j3,j4⟩:=sT l nest b8 bc _ (out++n1) (.inr Te) (by simp;omega) k4 h
  simp only [de]
  rw [if_pos (by simp only [decide_eq_true_eq];omega),k1,j1]
  refine⟨n1++n2,by simp, ?_,by simp;omega,j4⟩
  rw [jj,k2,k3,j2];rfl
end
mutual
theorem K0 : ∀ (s:Sm) (nest b8:Int) (bc:Bool) (n:Nat) (out new:List It),ga nest b8 bc out s=out++new→It.dz n new=true→out.length≤n→n+new.length≤200→
 Sm.nG nest n s=(true,n+new.length)∧nest≤12
 | ⟨id,kind,labels,name,proc,x,has,args,bp,e⟩,nest,b8,bc,n,out,new,iZ,hm,ho,hn=>by
  obtain⟨n0,h0⟩:=w9 nest b8 bc ⟨id,kind,labels,name,proc,x,has,args,bp,e⟩ out
  have e0:new = ⟨⟨id,kind,labels,name,proc,x,has,args,bp,e⟩,nest,b8,bc⟩::n0:=List.append_cancel_left (iZ.symm.trans h0)
  subst e0
  have Wo:(⟨⟨id,kind,labels,name,proc,x,has,args,bp,e⟩,nest,b8,bc⟩:It)::n0 = [⟨⟨id,kind,labels,name,proc,x,has,args,bp,e⟩,nest,b8,bc⟩]++n0:=rfl
  rw [Wo,jj,Bool.and_eq_true]at hm
  obtain⟨Eu,hm2⟩:=hm
  obtain⟨c1,c2,c3⟩:=(zR _ _).1 Eu
  dsimp only at c1 c2 c3
  simp only [List.length_cons]at hn ⊢
  have NH:de (nest+1) id true (de (nest+1) id false (out++ [⟨⟨id,kind,labels,name,proc,x,has,args,bp,e⟩,nest,b8,bc⟩]) bp) e=out++([⟨⟨id,kind,labels,name,proc,x,has,args,bp,e⟩,nest,b8,bc⟩]++n0):=by
   simp only [ga]at iZ
   rw [if_pos (by simpa using c2)]at iZ
   exact iZ
  obtain⟨n1,g1⟩:=ow (nest+1) id false bp (out++ [⟨⟨id,kind,labels,name,proc,x,has,args,bp,e⟩,nest,b8,bc⟩])
  obtain⟨n2,g2⟩:=ow (nest+1) id true e (de (nest+1) id false (out++ [⟨⟨id,kind,labels,name,proc,x,has,args,bp,e⟩,nest,b8,bc⟩]) bp)
  have en:n0=n1++n2:=by
   rw [g2,g1]at NH
   simp only [List.append_assoc,List.append_cancel_left_eq]at NH
   exact NH.symm
  subst en
  have NK:It.dz (n+1) (n1++n2)=true:=hm2
  rw [jj,Bool.and_eq_true]at NK
  simp only [List.length_append]at hn ⊢
  obtain⟨r1,r2⟩:=sU bp (nest+1) id false (n+1) _ n1 g1 NK.1 (by simp;omega) (by omega)
  obtain⟨q1,q2⟩:=sU e (nest+1) id true (n+1+n1.length) _ n2 g2 NK.2 (by rw [g1];simp;omega) (by omega)
  refine⟨?_,c2⟩
  have gg : ∀ {l:List Sm} {m:Nat} {r:Bool×Nat},Sm.eg (nest+1) m l=r→(l = []∨nest+1≤12)→Sm.fu (nest+1) m l=r:=by
   intro l m r h1 h2
   unfold Sm.fu gate
   rw [if_neg]
   ·exact h1
   ·simp only [Bool.and_eq_true,decide_eq_true_eq,not_and]
    rcases h2 with h2 | h2
    ·subst h2;simp
    ·omega
  have t1:=gg r1 r2
  have t2:=gg q1 q2
  rw [A9]
  dsimp only
  rw [t1]
  dsimp only
  rw [t2]
  rw [zQ,Bool.and_eq_true]at c3
  rw [if_neg]
  ·simp;omega
  ·simp only [Bool.or_eq_true,bne_iff_ne,ne_eq,decide_eq_true_eq,Bool.not_eq_true',not_or,Decidable.not_not,Bool.not_eq_false]
   exact⟨⟨⟨by omega,c1⟩,c3.1⟩,c3.2⟩
theorem sU : ∀ (l:List Sm) (nest b8:Int) (bc:Bool) (n:Nat) (out new:List It),de nest b8 bc out l=out++new→It.dz n new=true→out.length≤n→n+new.length≤200→
 Sm.eg nest n l=(true,n+new.length)∧(l = []∨nest≤12)
 | [],nest,b8,bc,n,out,new,iZ,hm,ho,hn=>by
  simp only [de]at iZ
  have:new = []:=by simpa using iZ
  subst this
  exact⟨by simp [Sm.eg], .inl rfl⟩
 | s::l,nest,b8,bc,n,out,new,iZ,hm,ho,hn=>by
  simp only [de]at iZ
  rw [if_pos (by simp only [decide_eq_true_eq];omega)]at iZ
  obtain⟨n1,g1⟩:=w9 nest b8 bc s out
  obtain⟨n2,g2⟩:=ow nest b8 bc l (ga nest b8 bc out s)
  have en:new=(⟨s,nest,b8,bc⟩::n1)++n2:=by
   rw [g2,g1,List.append_assoc,List.append_cancel_left_eq]at iZ
   exact iZ.symm
  subst en
  rw [jj,Bool.and_eq_true]at hm
  rw [List.length_append]at hn ⊢
  obtain⟨r1,r2⟩:=K0 s nest b8 bc n out _ g1 hm.1 ho (by omega)
  obtain⟨q1,q2⟩:=sU l nest b8 bc (n+(⟨s,nest,b8,bc⟩::n1:List It).length) _ n2 g2 hm.2 (by rw [g1,List.length_append];omega) (by omega)
  refine⟨?_, .inr r2⟩
  simp only [Sm.eg,r1,Bool.not_true,Bool.false_eq_true, ↓reduceIte,q1]
  congr 1;omega
end
theorem xa : ∀ (l:List Pc) (out:List It),out.length≤200→(Pc.eg out.length l=true↔Pc.kc l=true∧∃ new,allM out l=out++new∧(out++new).length≤200∧It.dz out.length new=true)
 | [],out,ho=>by simp [Pc.eg,Pc.kc,allM,It.dz];exact ho
 | f::l,out,ho=>by
  have NL : ∀ (l:List Pc) (out:List It),∃ new,allM out l=out++new:=by
   intro l
   induction l with
   | nil=>intro out;exact⟨[],by simp [allM]⟩
   | cons f l ih=>
    intro out
    simp only [allM]
    split
    ·exact⟨_,rfl⟩
    ·obtain⟨n1,h1⟩:=ih (out++f.flat)
     exact⟨f.flat++n1,by rw [h1,List.append_assoc]⟩
  simp only [Pc.eg,Pc.kc]
  have Wp:(decide ((f.params.length:Int) > 8) || decide ((f.vars.length:Int) > 16) || !(isName f.name) || !(dm f.vars) || !(dm f.fin))=(!(isName f.name) || decide ((f.params.length:Int) > 8) || decide ((f.vars.length:Int) > 16) || !(dm f.vars) || !(dm f.fin)):=by
   cases isName f.name <;> simp
  rw [Wp]
  split
  ·simp
  split
  ·simp
  have hg:Sm.fu 1 out.length f.body=Sm.eg 1 out.length f.body:=by unfold Sm.fu gate;rw [if_neg (by simp)]
  rw [hg]
  constructor
  ·intro h
   split at h
   ·cases h
   rename_i hc
   obtain⟨n1,k1,k2,k3,k4⟩:=sT f.body 1 0 false out.length [] (.inr (by omega)) (by simp) ho (by simpa using hc)
   have iZ:f.flat=n1:=by unfold Pc.flat;rw [k1];rfl
   rw [← k3, ← List.length_append]at h
   obtain⟨hh,n2,j1,j2,j3⟩:=(xa l (out++n1) (by rw [List.length_append];omega)).1 h
   refine⟨hh,n1++n2, ?_,by simpa using j2, ?_⟩
   ·simp only [allM,iZ]
    rw [if_neg (by simp only [List.length_append,decide_eq_true_eq];omega),j1,List.append_assoc]
   ·rw [jj,k2, ← List.length_append,j3];rfl
  ·rintro⟨hh,new,j1,j2,j3⟩
   simp only [allM]at j1
   split at j1
   ·rename_i hc
    have:new=f.flat:=(List.append_cancel_left j1).symm
    subst this
    simp only [decide_eq_true_eq]at hc
    omega
   rename_i hc
   simp only [decide_eq_true_eq]at hc
   obtain⟨n2,g2⟩:=NL l (out++f.flat)
   have en:new=f.flat++n2:=by
    rw [g2,List.append_assoc]at j1
    exact(List.append_cancel_left j1).symm
   subst en
   rw [jj,Bool.and_eq_true]at j3
   rw [List.length_append,List.length_append]at j2
   obtain⟨r1,_⟩:=sU f.body 1 0 false out.length [] f.flat (by unfold Pc.flat;rfl) j3.1 (by simp) (by omega)
   rw [r1]
   simp only [Bool.not_true,Bool.false_eq_true, ↓reduceIte]
   rw [← List.length_append]
   exact(xa l (out++f.flat) (by rw [List.length_append];omega)).2 ⟨hh,n2,g2,by simp;omega,by rw [List.length_append];exact j3.2⟩
theorem Bd (p:Pg):p.Bb=p.may:=by
 have h:=xa p.procs [] (by simp)
 unfold Pg.Bb Pg.may
 split
 ·rfl
 ·have e:Pc.eg 0 p.procs=(if !(Pc.kc p.procs)then false else if decide ((p.all.length:Int) > 200)then false else It.dz 0 p.all):=by
   rw [Bool.eq_iff_iff]
   have h':Pc.eg 0 p.procs=true↔_:=h
   rw [h']
   have ha:p.all=allM [] p.procs:=rfl
   constructor
   ·rintro⟨h1,new,h2,h3,h4⟩
    rw [ha,h2,h1]
    simp only [List.nil_append]at h3 ⊢
    simp only [Bool.not_true,Bool.false_eq_true, ↓reduceIte]
    rw [if_neg (by simp only [decide_eq_true_eq];omega)]
    exact h4
   ·intro h1
    cases hh:Pc.kc p.procs
    ·rw [hh]at h1;simp at h1
    ·rw [hh]at h1
     simp only [Bool.not_true,Bool.false_eq_true, ↓reduceIte]at h1
     split at h1
     ·cases h1
     ·rename_i hc
      simp only [decide_eq_true_eq]at hc
      exact⟨rfl,p.all,by rw [ha];rfl,by simp;omega,h1⟩
  exact e
end Go.Abs

/-! Tree1 -/

namespace Go.Abs
set_option maxRecDepth 8000
open Go.Proofs
end Go.Abs

/-! Tree2 -/

namespace Go.Abs
set_option maxRecDepth 8000
open Go.Proofs
abbrev ajA (b:Bool) (N:Nat):Prop:=∀ l:List Sm,Sm.aU l<N→∀ n:Nat,n+Sm.aU l<1073741824→∀ s:St,
 aD Tryz.prog Cv [.slice .shared 13 (l.map bn), .int .i64 (n:Int), .bool b] s (.tuple [.slice .shared 13 ((Sm.oJ b n l).1.map bn), .int .i64 ((Sm.oJ b n l).2:Int)]) s
end Go.Abs
