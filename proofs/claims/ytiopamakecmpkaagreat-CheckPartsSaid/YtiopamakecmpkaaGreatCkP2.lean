/-
  What is proved here: part 2 of the road to the claim (Codes3, Codes4, Have4, Codes5, Have5, Have3, Frz, MirLex, MirMay, Prs, Lex1, Lex2, RefLex1, Prs2, Ref1, Ref2, Ref3, RefMay1, RefMay2, Flat1, Flat2, Flat3, Sl1, MirFlat2, Sl2, TMay1, TMay2, RefMay3, RefMay4, TMay3, TMay4, MayFine, MayEq).
  No conditions.
-/
import Derived.Test.YtiopamakecmpkaaGreatCkP1
import Derived.Test.YtiopamakecmpkaaGreatProg
import Derived.KernelRfl

set_option linter.unusedSimpArgs false
set_option linter.unusedVariables false

/-! Codes3 -/

namespace Go.Abs
abbrev age:AC:= .cond dz (.seq (.run [.o 6 (.mv (.k (.int .i64 3)))]) .ret) .skip
abbrev agf:AC:= .cond dP (.seq (.run [.o 6 (.mv (.k (.int .i64 2)))]) .ret) .skip
abbrev agh:AC:= .seq (.seq (.run [.o 16 (.av cf 0), .o 17 (.load cm false 1), .m 18 cH, .o 19 (.bin .eql cO cK), .m 20 c6, .g 21 20 true (.av cf 1), .g 22 20 true (.load dr false 1), .o 23 (.pick dk dw (.k (.bool false)))]) age) (.seq (.run [.o 24 (.av cf 0), .o 25 (.load da false 1), .m 26 cH, .o 27 (.bin .eql c7 eo)]) agf)
abbrev agi:AC:= .seq (.block 1 (.seq (.run [.o 14 (.ca bW cp 2), .o 15 (.load bU true 2), .o 8 (.alloc [(.str []),(.bool false)]), .op none none (.store cf cv 2)]) agh)) (.run [.o 28 (.bin .add cp (.k (.int .i64 1))), .m 12 eK])
abbrev agj:AC:= .block 0 (.loop (.seq (.run [.o 13 (.bin .lss cp b8)]) (.seq (.cond bZ .skip (.exit 0)) agi)))
abbrev agk:AC:= .cond eZ (.seq (.run [.o 6 (.mv (.k (.int .i64 4)))]) .ret) .skip
abbrev agl:AC:= .cond fm (.seq (.run [.o 6 (.mv (.k (.int .i64 1)))]) .ret) .skip
abbrev agm:AC:= .seq (.seq (.run [.o 33 (.av bI 0), .o 34 (.load eV false 1), .m 35 cH, .c 36 b7 [fh,fb]]) agl) (.seq (.run [.o 6 (.mv (.k (.int .i64 0)))]) .ret)
abbrev agn:AC:= .seq (.seq (.run [.o 9 (.av cU 1), .o 10 (.load cA false 1), .o 11 (.len bW), .o 12 (.mv (.k (.int .i64 0)))]) agj) (.seq (.seq (.run [.o 29 (.av cU 2), .o 30 (.load eG false 1), .m 31 cH, .c 32 b7 [eY,eP]]) agk) agm)
abbrev ago:AC:= .seq (.run [.o 3 (.box aU), .o 4 (.box bn), .o 6 (.mv (.k (.int .i64 0)))]) agn
abbrev agp:AC:= .cond b8 (.seq (.run [.o 4 (.mv (.k (.bool false)))]) .ret) .skip
abbrev agq:AC:= .par [.o 19 (.av bP 1), .o 20 (.load c6 false 1), .m 21 bn, .m 22 bo, .o 23 (.ca dr dw 6), .o 24 (.av dz 0), .o 25 (.load da false 1), .o 26 (.xH true dk c7)] [(0,0),(1,0),(2,0),(3,0),(4,0),(5,0),(6,0),(7,0)]
abbrev agr:AC:= .cond eo (.seq (.run [.o 4 (.mv (.k (.bool false)))]) .ret) .skip
abbrev ags:AC:= .seq (.block 1 (.seq (.run [.m 16 bU, .o 17 (.ca cp bU 2), .o 18 (.load cO true 2), .o 6 (.alloc [(.str []),(.bool false)]), .m 5 cm, .op none none (.store bP cK 2)]) (.seq agq agr))) (.run [.o 27 (.bin .add bU (.k (.int .i64 1))), .m 14 dP])
abbrev agt:AC:= .block 0 (.loop (.seq (.run [.o 15 (.bin .lss bU bZ)]) (.seq (.cond cv .skip (.exit 0)) ags)))
abbrev agu:AC:= .seq (.seq (.run [.m 12 aU, .o 13 (.len cp), .o 14 (.mv (.k (.int .i64 0)))]) agt) (.seq (.run [.o 4 (.mv (.k (.bool true)))]) .ret)
abbrev agv:AC:= .seq (.run [.o 4 (.mv (.k (.bool false)))]) (.seq (.seq (.run [.m 7 aU, .o 8 (.len bO), .m 9 bn, .o 10 (.len cA), .o 11 (.bin .neq cf bW)]) agp) agu)
abbrev agw:AC:= .cond dw (.seq (.run [.o 23 (.av cA 0), .o 24 (.av dz 0), .o 25 (.load da false 1), .m 6 c7, .o 7 (.mv (.k (.bool true)))]) .ret) .skip
abbrev agx:AC:= .seq (.block 1 (.seq (.run [.o 16 (.ca cp bU 17), .o 17 (.load cm true 17), .o 9 (.alloc [(.int .i64 0),(.int .i64 0),(.slice .full 0 []),(.str []),(.str []),(.int .i64 0),(.int .i64 0),(.str []),(.slice .full 0 []),(.bool false),(.slice .full 0 []),(.slice .full 0 []),(.slice .full 0 []),(.int .i64 0),(.int .i64 0),(.int .i64 0),(.int .i64 0)]), .op none none (.store cA cO 17)]) (.seq (.run [.o 18 (.av cA 0), .o 19 (.av cK 2), .o 20 (.load c6 false 1), .m 21 cH, .c 22 b7 [dk,dr]]) agw))) (.run [.o 26 (.bin .add bU (.k (.int .i64 1))), .m 14 eo])
abbrev agy:AC:= .block 0 (.loop (.seq (.run [.o 15 (.bin .lss bU bZ)]) (.seq (.cond cv .skip (.exit 0)) agx)))
abbrev agz:AC:= .seq (.run [(.o 6 (.mv (.k (.int .i64 (-1))))), .o 7 (.mv (.k (.bool true)))]) .ret
abbrev agA:AC:= .seq (.seq (.run [.m 27 aU, .o 28 (.db dP), .o 29 (.av eK 0), .o 30 (.av eG 1), .o 31 (.load eY false 1), .m 32 bn, .o 33 (.ca eP eZ 5), .o 34 (.av eV 4), .o 35 (.load fh false 1), .m 36 cH, .c 37 b7 [fb,fm]]) (.cond fy agz .skip)) (.seq (.run [.o 6 (.mv (.k (.int .i64 0))), .o 7 (.mv (.k (.bool false)))]) .ret)
abbrev agB:AC:= .seq (.seq (.run [.m 10 aU, .m 11 bn, .c 12 fT [bW,b8], .o 13 (.len cp), .o 14 (.mv (.k (.int .i64 0)))]) agy) agA
abbrev agC:AC:= .seq (.run [.o 6 (.mv (.k (.int .i64 0))), .o 7 (.mv (.k (.bool false)))]) agB
abbrev agD:AC:= .seq (.run [.o 2 (.box aU), .o 3 (.box bn), .o 4 (.mv (.k (.bool false)))]) (.seq (.run [.o 5 (.load cH true 2), .c 6 kV [bo], .o 7 (.rl bP 0 false 1), .o 8 (.bin .eql bO (.k (.int .i64 0))), .m 9 cf, .g 10 9 true (.av cH 1), .g 11 9 true (.load bW false 1), .g 12 9 true (.sC 164 [bI]), .d 13 9 true fU [b8,cp], .o 14 (.pick cA bZ (.k (.bool false))), .m 4 bU]) .ret)
abbrev agE:AC:= .seq (.run [.o 26 (.ca dw da 1), .o 27 (.load eo false 1), .m 8 dP]) (.seq (.run [.m 28 bo, .m 29 cf, .c 30 b7 [eK,eG], .o 31 (.un .not eY)]) (.cond eP (.run [.m 32 bo, .m 33 cf, .o 34 (.cT [(.str [])] 1 1 [(0,eV)]), .o 35 (.app 1 16 eZ fh), .m 5 fb]) .skip))
abbrev agF:AC:= .seq (.cond c7 .skip (.exit 2)) (.seq (.block 3 agE) (.run [.o 36 (.bin .add da (.k (.int .i64 1))), .m 24 fm]))
abbrev agG:AC:= .seq (.run [.m 17 aU, .m 18 bo, .m 19 bP, .o 20 (.ca cK c6 1), .o 21 (.load dk false 1), .c 22 sd [cO,dr], .o 23 (.len dw), .o 24 (.mv (.k (.int .i64 0)))]) (.block 2 (.loop (.seq (.run [.o 25 (.bin .lss da dz)]) agF)))
abbrev agH:AC:= .seq (.seq (.run [.m 11 bP, .m 12 bo, .o 13 (.len cp), .o 14 (.bin .lss b8 bZ)]) (.cond bU .skip (.exit 0))) (.seq (.block 1 agG) (.run [.m 15 bP, .o 16 (.bin .add cv (.k (.int .i64 1))), .m 6 cm]))
abbrev ZB:AC:= .seq (.run [.m 39 bo, .m 4 gj]) .ret
abbrev agI:AC:= .seq (.seq (.run [.o 6 (.mv (.k (.int .i64 0)))]) (.block 0 (.loop agH))) (.seq (.run [.m 37 bo, .c 38 iw [fy]]) ZB)
abbrev agJ:AC:= .seq (.run [.o 4 (.mv (.k (.slice .full 0 [])))]) (.seq (.run [.m 9 bn, .o 10 (.cT [(.str [])] 1 1 [(0,cA)]), .m 5 bW]) agI)
abbrev agK:AC:= .seq (.run [.o 3 (.box bn), .o 4 (.mv (.k (.int .i64 0)))]) (.seq (.run [.m 5 aU, .o 6 (.db bo), .o 7 (.av bP 0), .o 8 (.av bO 1), .o 9 (.load cf false 1), .o 10 (.sC 167 [bI]), .c 11 fu [cA,bW], .m 4 b8]) .ret)
abbrev agL:AC:= .seq (.run [.o 2 (.mv (.k (.bool false)))]) (.seq (.run [.m 3 aU, .o 4 (.bin .geq bI (.k (.int .u8 48))), .m 5 cU, .g 6 5 true (.mv aU), .g 7 5 true (.bin .leq bP (.k (.int .u8 57))), .o 8 (.pick bo bO (.k (.bool false))), .m 2 cf]) .ret)
abbrev agM:AC:= .seq (.run [.o 20 (.bin .eql bU (.k (.str [38,38]))), .m 15 dk]) (.cond cv .skip (.run [.o 21 (.bin .eql bU (.k (.str [124,124]))), .m 15 dr]))
abbrev agN:AC:= .cond cv .skip (.seq (.run [.o 19 (.bin .eql bU (.k (.str [62,61]))), .m 15 c6]) (.cond cv .skip agM))
abbrev agO:AC:= .cond cv .skip (.seq (.run [.o 18 (.bin .eql bU (.k (.str [60,61]))), .m 15 cK]) agN)
abbrev agP:AC:= .cond cv .skip (.seq (.run [.o 17 (.bin .eql bU (.k (.str [33,61]))), .m 15 cO]) agO)
abbrev agQ:AC:= .cond cv (.seq (.run [.o 4 (.mv (.k (.int .i64 2)))]) .ret) .skip
abbrev agR:AC:= .seq (.seq (.run [.o 16 (.bin .eql bU (.k (.str [61,61]))), .m 15 cm]) agP) agQ
abbrev agS:AC:= .cond cA (.seq (.run [.m 10 aU, .m 11 bn, .m 12 bn, .o 13 (.bin .add cp (.k (.int .i64 2))), .o 14 (.va bW (some b8) (some bZ))]) (.block 0 agR)) .skip
abbrev agT:AC:= .seq (.run [.o 40 (.bin .eql da (.k (.int .u8 47))), .m 25 gU]) (.cond c7 .skip (.run [.o 41 (.bin .eql da (.k (.int .u8 37))), .m 25 gI]))
abbrev agU:AC:= .cond c7 .skip (.seq (.run [.o 39 (.bin .eql da (.k (.int .u8 42))), .m 25 gj]) (.cond c7 .skip agT))
abbrev agV:AC:= .cond c7 .skip (.seq (.run [.o 38 (.bin .eql da (.k (.int .u8 45))), .m 25 gC]) agU)
abbrev agW:AC:= .cond c7 .skip (.seq (.run [.o 37 (.bin .eql da (.k (.int .u8 43))), .m 25 fy]) agV)
abbrev agX:AC:= .cond c7 .skip (.seq (.run [.o 36 (.bin .eql da (.k (.int .u8 62))), .m 25 fm]) agW)
abbrev agY:AC:= .cond c7 .skip (.seq (.run [.o 35 (.bin .eql da (.k (.int .u8 60))), .m 25 fb]) agX)
abbrev agZ:AC:= .cond c7 .skip (.seq (.run [.o 34 (.bin .eql da (.k (.int .u8 33))), .m 25 fh]) agY)
abbrev ag0:AC:= .cond c7 .skip (.seq (.run [.o 33 (.bin .eql da (.k (.int .u8 61))), .m 25 eV]) agZ)
abbrev ag1:AC:= .cond c7 .skip (.seq (.run [.o 32 (.bin .eql da (.k (.int .u8 58))), .m 25 eZ]) ag0)
abbrev ag2:AC:= .cond c7 .skip (.seq (.run [.o 31 (.bin .eql da (.k (.int .u8 59))), .m 25 eP]) ag1)
abbrev ag3:AC:= .cond c7 .skip (.seq (.run [.o 30 (.bin .eql da (.k (.int .u8 44))), .m 25 eY]) ag2)
abbrev ag4:AC:= .cond c7 .skip (.seq (.run [.o 29 (.bin .eql da (.k (.int .u8 125))), .m 25 eG]) ag3)
abbrev ag5:AC:= .cond c7 .skip (.seq (.run [.o 28 (.bin .eql da (.k (.int .u8 123))), .m 25 eK]) ag4)
abbrev ag6:AC:= .cond c7 .skip (.seq (.run [.o 27 (.bin .eql da (.k (.int .u8 41))), .m 25 dP]) ag5)
abbrev ag7:AC:= .cond c7 (.seq (.run [.o 4 (.mv (.k (.int .i64 1)))]) .ret) .skip
abbrev ag8:AC:= .seq (.seq (.run [.o 26 (.bin .eql da (.k (.int .u8 40))), .m 25 eo]) ag6) ag7
abbrev ag9:AC:= .seq (.seq (.run [.m 22 aU, .m 23 bn, .o 24 (.nJ dw dz)]) (.block 1 ag8)) (.seq (.run [.o 4 (.mv (.k (.int .i64 0)))]) .ret)
abbrev aha:AC:= .seq (.seq (.run [.m 5 bn, .o 6 (.bin .add bo (.k (.int .i64 1))), .m 7 aU, .o 8 (.ll bO), .o 9 (.bin .lss bP cf)]) agS) ag9
abbrev ahb:AC:= .seq (.run [.o 4 (.mv (.k (.int .i64 0)))]) aha
abbrev ahc:AC:= .cond dw (.seq (.run [.o 2 (.mv (.k (.int .i64 0))), .o 3 (.mv (.k (.bool false)))]) .ret) .skip
abbrev ahd:AC:= .seq (.seq (.run [.m 18 cU, .m 19 bP, .o 20 (.bin .sub (.k (.int .i64 9223372036854775807)) c6), .o 21 (.bin .quo dk (.k (.int .i64 10))), .o 22 (.bin .gtr cK dr)]) ahc) (.run [.m 23 cU, .o 24 (.bin .mul dz (.k (.int .i64 10))), .m 25 bP, .o 26 (.bin .add da c7), .m 4 eo])
abbrev ahe:AC:= .block 1 (.seq (.run [.m 13 aU, .m 14 bo, .o 15 (.nJ bZ bU), .o 16 (.bin .sub cv (.k (.int .u8 48))), .o 17 (.conv .i64 cm), .m 6 cO]) ahd)
abbrev ahf:AC:= .seq (.seq (.run [.m 7 bo, .m 8 aU, .o 9 (.ll cf), .o 10 (.bin .lss bO cA)]) (.cond bW .skip (.exit 0))) (.seq ahe (.run [.m 11 bo, .o 12 (.bin .add b8 (.k (.int .i64 1))), .m 5 cp]))
abbrev ahg:AC:= .seq (.seq (.run [.o 5 (.mv (.k (.int .i64 0)))]) (.block 0 (.loop ahf))) (.seq (.run [.m 27 cU, .m 2 dP, .o 3 (.mv (.k (.bool true)))]) .ret)
abbrev ahh:AC:= .seq (.run [.o 2 (.mv (.k (.int .i64 0))), .o 3 (.mv (.k (.bool false)))]) (.seq (.run [.o 4 (.mv (.k (.int .i64 0)))]) ahg)
abbrev ahi:AC:= .cond bZ (.seq (.run [.o 4 (.mv (.k (.bool false)))]) .ret) .skip
abbrev ahj:AC:= .seq (.run [.m 14 aU, .o 15 (.db bU), .o 16 (.av cv 1), .o 17 (.load cm false 1), .o 18 (.bin .add cO (.k (.int .i64 1))), .o 19 (.db bU), .o 20 (.av c6 1), .op none none (.store dk cK 1)]) (.seq (.run [.o 4 (.mv (.k (.bool true)))]) .ret)
abbrev ahk:AC:= .seq (.seq (.run [.m 5 aU, .c 6 cr [bo], .o 7 (.un .not bP), .m 8 bO, .g 9 8 false (.mv aU), .g 10 8 false (.mv bn), .d 11 8 false eW [cA,bW], .g 12 8 false (.un .not b8), .o 13 (.pick cf (.k (.bool true)) cp)]) ahi) ahj
abbrev ahl:AC:= .seq (.run [.o 4 (.mv (.k (.bool false)))]) ahk
abbrev ahm:AC:= .cond dk (.seq (.run [.m 21 aU,(.c 22 cM [dr,(.k (.str [59]))])]) (.seq (.run [.m 23 bn, .m 6 dz]) .ret)) .skip
abbrev ahn:AC:= .seq (.run [.m 9 bn, .m 10 aU, .m 11 bn, .o 12 (.len b8), .m 13 cH, .o 14 (.bin .lss cp bZ), .c 15 dY [bW,bU], .o 16 (.cT [(.str [])] 1 1 [(0,cv)]), .o 17 (.app 1 16 cA cm), .m 1 cO]) (.seq (.run [.m 18 aU,(.c 19 di [cK,(.k (.str [44]))]), .o 20 (.un .not c6)]) ahm)
abbrev aho:AC:= .block 0 (.loop (.seq (.seq (.run [.m 7 aU, .c 8 cr [bO]]) (.cond cf .skip (.exit 0))) (.block 1 ahn)))
abbrev ahp:AC:= .seq (.run [.o 6 (.mv (.k (.slice .full 0 [])))]) (.seq aho (.seq (.run [.m 24 bn, .m 6 da]) .ret))
abbrev ahq:AC:= .seq (.run [.o 2 (.mv (.k (.bool false)))]) (.seq (.run [.m 3 aU, .o 4 (.db bI), .o 5 (.av cU 2), .o 6 (.av bo 0), .o 7 (.load bP false 1), .o 8 (.bin .eql bO (.k (.int .i64 0))), .m 2 cf]) .ret)
abbrev ahr:AC:= .seq (.run [.m 6 aU, .c 7 dj [bP], .o 5 (.alloc [(.int .i64 0),(.str []),(.int .i64 0),(.int .i64 0)]), .op none none (.store bo bO 4)]) (.seq (.run [.o 8 (.av bo 0), .o 9 (.load cf false 1), .o 10 (.bin .eql cA (.k (.int .i64 3))), .m 11 bW, .g 12 11 false (.av bo 0), .g 13 11 false (.load cp false 1), .g 14 11 false (.bin .eql bZ (.k (.int .i64 4))), .o 15 (.pick b8 (.k (.bool true)) bU), .m 16 cv, .g 17 16 true (.av bo 1), .g 18 16 true (.load cO false 1), .g 19 16 true (.mv bn), .g 20 16 true (.bin .eql cK c6), .o 21 (.pick cm dk (.k (.bool false))), .m 4 dr]) .ret)
abbrev ahs:AC:= .seq (.run [.o 4 (.mv (.k (.bool false)))]) ahr
abbrev aht:AC:= .seq (.run [.m 4 aU, .c 5 cr [cU]]) (.cond bo (.run [.m 6 aU, .m 7 bn, .m 8 aU, .c 9 dj [cf], .o 10 (.rl cA 3 false 1), .o 11 (.build [(.int .i64 0),(.int .i64 0)] [(0,(1,bO)),(1,(1,bW))]), .o 12 (.db bP), .o 13 (.av cp 2), .op none none (.store bZ b8 2)]) .skip)
abbrev ahu:AC:= .par [.o 21 (.av bI 1), .o 22 (.load dr false 1), .m 23 aU, .o 24 (.av bI 1), .o 25 (.load da false 1), .o 26 (.len c7), .o 27 (.bin .lss eo (.k (.int .i64 8))), .c 28 dY [dz,dP], .m 29 cU, .o 30 (.build [(.str []),(.bool false)] [(0,(1,eK)),(1,(1,eG))]), .o 31 (.cT [(.str []),(.bool false)] 2 1 [(0,eY)]), .o 32 (.app 2 24 dw eP), .o 33 (.av bI 1), .op none none (.store eV eZ 1)] [(2,0),(3,0),(4,0),(5,0),(6,0),(7,0),(0,0),(1,1),(8,0),(9,0),(10,0),(11,0),(12,0),(13,0)]
abbrev ahv:AC:= .seq ahu (.seq (.run [.m 34 aU,(.c 35 di [fh,(.k (.str [44]))]), .o 36 (.un .not fb)]) (.cond fm (.exit 0) .skip))
abbrev ahw:AC:= .block 1 (.seq (.run [.m 19 aU,(.c 20 di [c6,(.k (.str [114,101,102]))]), .m 4 dk]) ahv)
abbrev ahx:AC:= .block 0 (.loop (.seq (.seq (.run [.m 17 aU, .c 18 cr [cO]]) (.cond cK .skip (.exit 0))) ahw))
abbrev ZC:AC:= .seq (.seq (.run [.m 41 aU,(.c 42 di [gI,(.k (.str [118,97,114]))])]) (.cond iz .skip (.exit 2))) (.block 3 (.run [.m 43 aU, .o 44 (.av bI 2), .o 45 (.load jo false 1), .c 46 ix [iI,jG,(.k (.int .i64 16))], .o 47 (.av bI 2), .op none none (.store jT jH 1)]))
abbrev ZD:AC:= .seq (.run [.m 49 aU, .c 50 fN [jq,(.k (.int .i64 1)),(.k (.bool true))], .m 48 ky, .o 51 (.ext iV 0), .o 52 (.ext iV 1), .o 53 (.av bI 3), .op none none (.store kz jI 1), .o 54 (.av bI 4), .op none none (.store kT jU 1)]) (.seq (.run [.o 55 (.load bI true 5), .op none none (.store cH lA 5)]) .ret)
abbrev ahy:AC:= .seq (.run [.m 37 aU,(.c 38 cM [fy,(.k (.str [41]))])]) (.seq (.run [.m 39 aU,(.c 40 cM [gj,(.k (.str [123]))])]) (.seq (.block 2 (.loop ZC)) ZD))
abbrev ahz:AC:= .seq (.seq (.run [.m 10 aU, .c 11 cr [bW], .m 12 b8, .g 13 12 true (.mv aU),(.d 14 12 true eW [bZ,(.k (.str [41]))]), .g 15 12 true (.un .not bU), .o 16 (.pick cp cv (.k (.bool false)))]) (.cond cm ahx .skip)) ahy
abbrev ahA:AC:= .seq (.run [.m 5 aU, .c 6 dY [bo,(.k (.bool true))], .o 7 (.build [(.str []),(.slice .full 0 []),(.slice .full 0 []),(.slice .full 0 []),(.slice .full 0 [])] [(0,(1,bP))]), .o 3 (.alloc [(.str []),(.slice .full 0 []),(.slice .full 0 []),(.slice .full 0 []),(.slice .full 0 [])]), .op none none (.store bI bO 5)]) (.seq (.run [.m 8 aU,(.c 9 cM [cf,(.k (.str [40]))])]) ahz)
abbrev ahB:AC:= .seq (.run [.o 2 (.alloc [(.str []),(.slice .full 0 []),(.slice .full 0 []),(.slice .full 0 []),(.slice .full 0 [])])]) ahA
abbrev ahC:AC:= .par [.m 3 aU, .o 4 (.db bI), .o 5 (.av cU 0), .o 6 (.load bo false 1), .m 7 aU, .o 8 (.db bO), .o 9 (.av cf 1), .o 10 (.load cA false 1), .o 11 (.ca bP bW 4), .o 12 (.load b8 true 4), .op none none (.store cH cp 4)] [(0,0),(1,0),(2,0),(3,0),(4,0),(5,0),(6,0),(7,0),(8,0),(9,0),(10,0)]
abbrev ahD:AC:= .seq (.run [.o 2 (.alloc [(.int .i64 0),(.str []),(.int .i64 0),(.int .i64 0)])]) (.seq ahC .ret)
abbrev ahE:AC:= .cond cU (.seq (.run [.o 2 (.mv (.k (.slice .full 0 [])))]) .ret) .skip
abbrev ahF:AC:= .seq (.run [.o 2 (.mv (.k (.slice .full 0 [])))]) (.seq (.seq (.run [.m 3 aU, .nil (some 4) none false bI]) ahE) (.seq (.run [.o 5 (.cT [(.str [])] 1 0 []), .m 6 aU, .o 7 (.app 1 16 bo bP), .m 2 bO]) .ret))
abbrev ahG:AC:= .cond cU (.seq (.run [.o 2 (.mv (.k (.slice .full 0 [])))]) .ret) .skip
abbrev ahH:AC:= .seq (.run [.o 2 (.mv (.k (.slice .full 0 [])))]) (.seq (.seq (.run [.m 3 aU, .nil (some 4) none false bI]) ahG) (.seq (.run [.o 5 (.cT [(.str []),(.bool false)] 2 0 []), .m 6 aU, .o 7 (.app 2 24 bo bP), .m 2 bO]) .ret))
abbrev ahI:AC:= .par [.o 26 (.av bW 2), .o 27 (.load eo false 1), .c 28 gb [dP], .o 29 (.av bW 5), .o 30 (.load eG true 4), .c 31 lz [eY], .o 32 (.av b8 2), .op none none (.store eZ eK 1), .o 33 (.av b8 5), .op none none (.store eV eP 4), .o 34 (.av b8 10), .op none none (.store fh (.k (.slice .full 0 [])) 1)] [(0,0),(1,0),(2,0),(3,0),(4,1),(5,0),(6,0),(7,0),(8,0),(9,0),(10,0),(11,0)]
abbrev ahJ:AC:= .block 3 (.seq (.run [.o 40 (.ca fm gC 6), .o 41 (.load gU true 6), .o 13 (.alloc [(.bool false),(.str []),(.int .i64 0),(.int .i64 0),(.str []),(.slice .full 0 [])]), .op none none (.store bZ gI 6)]) (.seq (.run [.o 42 (.av bZ 2), .o 43 (.load iz true 4), .c 44 lz [iI], .o 45 (.av bZ 2), .op none none (.store jG jo 4)]) (.run [.o 46 (.av b8 10), .o 47 (.load jH false 1), .o 48 (.load bZ true 6), .o 49 (.cT [(.bool false),(.str []),(.int .i64 0),(.int .i64 0),(.str []),(.slice .full 0 [])] 6 1 [(0,iV)]), .o 50 (.app 6 80 jT jq), .o 51 (.av b8 10), .op none none (.store jI ky 1)])))
abbrev ahK:AC:= .seq (.cond gj .skip (.exit 2)) (.seq ahJ (.run [.o 52 (.bin .add gC (.k (.int .i64 1))), .m 38 jU]))
abbrev ahL:AC:= .seq (.run [.o 35 (.av bW 10), .o 36 (.load fb false 1), .o 37 (.len fm), .o 38 (.mv (.k (.int .i64 0)))]) (.block 2 (.loop (.seq (.run [.o 39 (.bin .lss gC fy)]) ahK)))
abbrev ahM:AC:= .seq ahL (.seq (.run [.o 54 (.av bW 11), .o 55 (.load kT false 1), .m 56 bn, .m 57 cH, .c 58 jE [lA,mI,ni], .m 53 mJ, .o 59 (.ext kz 0), .o 60 (.ext kz 1), .o 61 (.av b8 11), .op none none (.store pg kU 1), .m 1 oA]) (.seq (.run [.o 63 (.av bW 12), .o 64 (.load qf false 1), .m 65 bn, .m 66 cH, .c 67 jE [qO,tC,vx], .m 62 qP, .o 68 (.ext qe 0), .o 69 (.ext qe 1), .o 70 (.av b8 12), .op none none (.store tE tD 1), .m 1 vy]) (.run [.m 71 cf, .o 72 (.load b8 true 13), .o 73 (.cT [(.int .i64 0),(.int .i64 0),(.slice .full 0 []),(.str []),(.str []),(.int .i64 0),(.int .i64 0),(.str []),(.slice .full 0 []),(.bool false),(.slice .full 0 []),(.slice .full 0 []),(.slice .full 0 [])] 13 1 [(0,w9)]), .o 74 (.app 13 208 yN yO), .m 8 yP])))
abbrev ahN:AC:= .seq (.run [.o 22 (.load bW true 13), .o 11 (.alloc [(.int .i64 0),(.int .i64 0),(.slice .full 0 []),(.str []),(.str []),(.int .i64 0),(.int .i64 0),(.str []),(.slice .full 0 []),(.bool false),(.slice .full 0 []),(.slice .full 0 []),(.slice .full 0 [])]), .op none none (.store b8 dw 13)]) (.seq (.seq (.run [.m 23 cH]) (.cond dz (.run [.m 24 bn, .o 25 (.av b8 0), .op none none (.store c7 da 1)]) .skip)) (.seq ahI ahM))
abbrev ahO:AC:= .seq (.run [.o 18 (.ca bU cm 13), .o 19 (.load cK true 13), .o 10 (.alloc [(.int .i64 0),(.int .i64 0),(.slice .full 0 []),(.str []),(.str []),(.int .i64 0),(.int .i64 0),(.str []),(.slice .full 0 []),(.bool false),(.slice .full 0 []),(.slice .full 0 []),(.slice .full 0 [])]), .op none none (.store bW c6 13)]) (.seq (.run [.m 20 bn, .o 21 (.bin .add dk (.k (.int .i64 1))), .m 1 dr]) ahN)
abbrev ahP:AC:= .seq (.cond cO .skip (.exit 0)) (.seq (.block 1 ahO) (.run [.o 75 (.bin .add cm (.k (.int .i64 1))), .m 16 yQ]))
abbrev ahQ:AC:= .seq (.run [.m 14 aU, .o 15 (.len bU), .o 16 (.mv (.k (.int .i64 0)))]) (.block 0 (.loop (.seq (.run [.o 17 (.bin .lss cm cv)]) ahP)))
abbrev ahR:AC:= .seq (.run [.o 6 (.mv (.k (.slice .full 0 []))), .o 7 (.mv (.k (.int .i64 0)))]) (.seq (.run [.o 8 (.mv (.k (.slice .full 0 [])))]) (.seq ahQ (.seq (.run [.m 76 cf, .m 77 bn, .m 6 xa, .m 7 yR]) .ret)))
abbrev ahS:AC:= .cond bZ (.seq (.run [.o 2 (.mv (.k (.bool false)))]) .ret) .skip
abbrev ahT:AC:= .seq (.block 1 (.seq (.run [.o 9 (.ca bo bO 1), .o 10 (.load cA false 1), .m 4 bW]) (.seq (.run [.m 11 cU, .c 12 j8 [b8], .o 13 (.un .not cp)]) ahS))) (.run [.o 14 (.bin .add bO (.k (.int .i64 1))), .m 7 bU])
abbrev ahU:AC:= .block 0 (.loop (.seq (.run [.o 8 (.bin .lss bO bP)]) (.seq (.cond cf .skip (.exit 0)) ahT)))
abbrev ahV:AC:= .seq (.seq (.run [.m 5 aU, .o 6 (.len bo), .o 7 (.mv (.k (.int .i64 0)))]) ahU) (.seq (.run [.o 2 (.mv (.k (.bool true)))]) .ret)
abbrev ahW:AC:= .seq (.run [.o 2 (.mv (.k (.bool false)))]) ahV
abbrev ahX:AC:= .cond cm (.seq (.run [.o 2 (.mv (.k (.bool false)))]) .ret) .skip
abbrev ahY:AC:= .cond fh (.seq (.run [.o 2 (.mv (.k (.bool false)))]) .ret) .skip
abbrev ahZ:AC:= .block 1 (.seq (.run [.m 23 aU, .m 24 bI, .o 25 (.nJ dz da), .c 26 qd [c7], .o 27 (.un .not eo), .m 28 dP, .g 29 28 true (.mv aU), .g 30 28 true (.mv bI), .g 31 28 true (.nJ eG eY), .d 32 28 true tz [eP], .g 33 28 true (.un .not eZ), .o 34 (.pick eK eV (.k (.bool false)))]) ahY)
abbrev ah0:AC:= .seq (.seq (.run [.m 17 bI, .m 18 aU, .o 19 (.ll cK), .o 20 (.bin .lss cO c6)]) (.cond dk .skip (.exit 0))) (.seq ahZ (.run [.m 21 bI, .o 22 (.bin .add dr (.k (.int .i64 1))), .m 3 dw]))
abbrev ah1:AC:= .seq (.seq (.run [.o 3 (.mv (.k (.int .i64 1)))]) (.block 0 (.loop ah0))) (.seq (.run [.m 35 aU, .c 36 vu [fb], .o 37 (.un .not fm), .m 2 fy]) .ret)
abbrev ah2:AC:= .seq (.seq (.run [.m 4 aU, .o 5 (.bin .eql cU (.k (.str []))), .m 6 bo, .g 7 6 false (.mv aU), .g 8 6 false (.ll bO), .g 9 6 false (.bin .gtr cf (.k (.int .i64 8))), .o 10 (.pick bP (.k (.bool true)) cA), .m 11 bW, .g 12 11 false (.mv aU), .g 13 11 false (.nJ cp (.k (.int .i64 0))), .d 14 11 false qd [bZ], .g 15 11 false (.un .not bU), .o 16 (.pick b8 (.k (.bool true)) cv)]) ahX) ah1
abbrev ah3:AC:= .seq (.run [.o 2 (.mv (.k (.bool false)))]) ah2
abbrev ah4:AC:= .run [.o 8 (.av bn 1), .o 9 (.load cf false 1), .o 10 (.bin .eql cA (.k (.int .i64 1))), .m 11 bW, .g 12 11 false (.av bn 1), .g 13 11 false (.load cp false 1), .g 14 11 false (.bin .eql bZ (.k (.int .i64 3))), .o 15 (.pick b8 (.k (.bool true)) bU), .m 16 cv, .g 17 16 false (.av bn 1), .g 18 16 false (.load cO false 1), .g 19 16 false (.bin .eql cK (.k (.int .i64 5))), .o 20 (.pick cm (.k (.bool true)) c6), .m 21 dk, .g 22 21 false (.av bn 1), .g 23 21 false (.load dw false 1), .g 24 21 false (.bin .eql dz (.k (.int .i64 6))), .o 25 (.pick dr (.k (.bool true)) da), .m 26 c7, .g 27 26 false (.av bn 1), .g 28 26 false (.load dP false 1), .g 29 26 false (.bin .eql eK (.k (.int .i64 9))), .g 30 26 false (.mv eG), .g 31 30 true (.av bn 9), .g 32 30 true (.load eP false 1), .g 33 26 false (.pick eY eZ (.k (.bool false))), .o 34 (.pick eo (.k (.bool true)) eV), .m 3 fh]
abbrev ah5:AC:= .run [.o 51 (.av bn 1), .o 52 (.load jI false 1), .o 53 (.bin .lss jU (.k (.int .i64 1))), .m 54 kz, .g 55 54 false (.av bn 1), .g 56 54 false (.load lA false 1), .g 57 54 false (.bin .gtr mI (.k (.int .i64 10))), .o 58 (.pick kT (.k (.bool true)) ni), .m 59 mJ, .g 60 59 false (.av bn 2), .g 61 59 false (.load oA false 1), .d 62 59 false tx [pg], .g 63 59 false (.un .not qe), .o 64 (.pick kU (.k (.bool true)) qf), .m 65 qO, .g 66 65 false (.mv bI), .g 67 65 false (.mv vx), .g 68 67 true (.av bn 5), .g 69 67 true (.load tD true 4), .d 70 67 true n8 [vy], .g 71 67 true (.un .not tE), .g 72 65 false (.pick qP yN (.k (.bool false))), .o 73 (.pick tC (.k (.bool true)) w9), .m 74 yO, .g 75 74 false (.mv bI), .g 76 74 false (.un .not yQ), .g 77 74 false (.mv xa), .g 78 77 true (.av bn 5), .g 79 77 true (.load xb true 4), .d 80 77 true ra [CR], .g 81 77 true (.un .not CS), .g 82 74 false (.pick yR yS (.k (.bool false))), .o 83 (.pick yP (.k (.bool true)) CT), .m 84 CW, .g 85 84 false (.av bn 9), .g 86 84 false (.load CY false 1), .g 87 84 false (.mv CZ), .g 88 87 true (.av bn 1), .g 89 87 true (.load C1 false 1), .g 90 87 true (.bin .neq C2 (.k (.int .i64 9))), .g 91 84 false (.pick C0 C3 (.k (.bool false))), .o 92 (.pick CX (.k (.bool true)) C4)]
abbrev ah6:AC:= .cond C5 (.seq (.run [.o 2 (.mv (.k (.bool false)))]) .ret) .skip
abbrev ah7:AC:= .run [.m 93 cU, .m 94 Gq, .g 95 94 true (.av bn 3), .g 96 94 true (.load Gs false 1), .d 97 94 true j8 [LN], .g 98 94 true (.un .not Sq), .o 99 (.pick Gr Sr (.k (.bool false))), .m 100 Ss, .g 101 100 false (.mv cU), .g 102 100 false (.un .not LP), .g 103 100 false (.mv LQ), .g 104 103 true (.av bn 3), .g 105 103 true (.load LS false 1), .g 106 103 true (.bin .neq LU (.k (.str []))), .g 107 100 false (.pick LR LV (.k (.bool false))), .g 108 100 false (.mv LW), .g 109 108 true (.mv bo), .g 110 108 true (.mv LY), .g 111 110 true (.av bn 3), .g 112 110 true (.load L0 false 1), .d 113 110 true j8 [L1], .g 114 108 true (.pick LZ L2 (.k (.bool false))), .g 115 108 true (.un .not L3), .g 116 100 false (.pick LX L4 (.k (.bool false))), .o 117 (.pick LO (.k (.bool true)) L5)]
abbrev ah8:AC:= .cond L6 (.seq (.run [.o 2 (.mv (.k (.bool false)))]) .ret) .skip
abbrev ah9:AC:= .run [.m 118 bo, .o 119 (.av bn 4), .o 120 (.load L8 false 1), .o 121 (.bin .neq L9 (.k (.str []))), .o 122 (.xH true L7 Ma), .m 123 Mb, .g 124 123 false (.mv bo), .g 125 123 false (.mv Md), .g 126 125 true (.av bn 4), .g 127 125 true (.load Mf false 1), .d 128 125 true j8 [U3], .g 129 125 true (.un .not U4), .g 130 123 false (.pick Me U5 (.k (.bool false))), .o 131 (.pick Mc (.k (.bool true)) U6), .m 132 U7, .g 133 132 false (.mv bo), .g 134 132 false (.un .not U8), .g 135 132 false (.mv U9), .g 136 135 true (.av bn 10), .g 137 135 true (.load Vb false 1), .g 138 135 true (.len Vc), .g 139 135 true (.bin .gtr Vd (.k (.int .i64 0))), .g 140 132 false (.pick Va Ve (.k (.bool false))), .o 141 (.pick Mg (.k (.bool true)) Vf)]
abbrev aia:AC:= .cond Vg (.seq (.run [.o 2 (.mv (.k (.bool false)))]) .ret) .skip
abbrev aib:AC:= .cond Vo (.seq (.run [.o 2 (.mv (.k (.bool false)))]) .ret) .skip
abbrev aic:AC:= .seq (.block 1 (.seq (.run [.o 147 (.ca Mh Ff 6), .o 148 (.load Vk true 6), .o 7 (.alloc [(.bool false),(.str []),(.int .i64 0),(.int .i64 0),(.str []),(.slice .full 0 [])]), .op none none (.store bO Vl 6)]) (.seq (.run [.o 149 (.load bO true 6), .c 150 w8 [Vm], .o 151 (.un .not Vn)]) aib))) (.run [.o 152 (.bin .add Ff (.k (.int .i64 1))), .m 145 acX])
abbrev aid:AC:= .block 0 (.loop (.seq (.run [.o 146 (.bin .lss Ff Vi)]) (.seq (.cond Vj .skip (.exit 0)) aic)))
abbrev aie:AC:= .run [.o 153 (.av bn 11), .o 154 (.load acY false 1), .o 155 (.len acZ), .o 156 (.bin .eql ac0 (.k (.int .i64 0))), .m 157 ac1, .g 158 157 false (.av bn 1), .g 159 157 false (.load ac3 false 1), .g 160 157 false (.bin .eql ac4 (.k (.int .i64 5))), .o 161 (.pick ac2 (.k (.bool true)) ac5), .m 162 ac6, .g 163 162 false (.av bn 1), .g 164 162 false (.load ac8 false 1), .g 165 162 false (.bin .eql ac9 (.k (.int .i64 6))), .o 166 (.pick ac7 (.k (.bool true)) ada), .m 167 adb, .g 168 167 true (.av bn 12), .g 169 167 true (.load adf false 1), .g 170 167 true (.len adg), .g 171 167 true (.bin .eql adh (.k (.int .i64 0))), .g 172 167 true (.mv adi), .g 173 172 false (.av bn 1), .g 174 172 false (.load adk false 1), .g 175 172 false (.bin .eql adl (.k (.int .i64 5))), .g 176 167 true (.pick adj (.k (.bool true)) adn), .o 177 (.pick ade ado (.k (.bool false))), .m 2 adp]
abbrev ZE:AC:= .seq (.seq (.run [.o 142 (.av bn 10), .o 143 (.load Vh false 1), .o 144 (.len Mh), .o 145 (.mv (.k (.int .i64 0)))]) aid) (.seq aie .ret)
abbrev ZF:AC:= .seq (.seq ah9 aia) ZE
abbrev ZG:AC:= .seq (.seq ah7 ah8) ZF
abbrev ZH:AC:= .seq (.seq ah5 ah6) ZG
abbrev ZI:AC:= .seq (.run [.o 48 (.av bn 1), .o 49 (.load iV false 1), .o 50 (.bin .eql jq (.k (.int .i64 4))), .m 5 ky]) ZH
abbrev ZJ:AC:= .seq (.run [.o 35 (.av bn 1), .o 36 (.load fb false 1), .o 37 (.bin .eql fm (.k (.int .i64 1))), .m 38 fy, .g 39 38 false (.av bn 1), .g 40 38 false (.load gj false 1), .g 41 38 false (.bin .eql gU (.k (.int .i64 2))), .o 42 (.pick gC (.k (.bool true)) gI), .m 43 iz, .g 44 43 false (.av bn 1), .g 45 43 false (.load jo false 1), .g 46 43 false (.bin .eql jG (.k (.int .i64 10))), .o 47 (.pick iI (.k (.bool true)) jH), .m 4 jT]) ZI
abbrev ZK:AC:= .seq ah4 ZJ
abbrev aif:AC:= .seq (.run [.o 1 (.box aU), .o 2 (.mv (.k (.bool false)))]) ZK
abbrev aih:AC:= .run [.o 6 (.av cH 0), .o 7 (.load bP false 1), .o 8 (.av bI 0), .o 9 (.load cf false 1), .o 10 (.bin .neq bO cA), .m 11 bW, .g 12 11 false (.av cH 1), .g 13 11 false (.load cp false 1), .g 14 11 false (.av bI 1), .g 15 11 false (.load bU false 1), .g 16 11 false (.bin .neq bZ cv), .o 17 (.pick b8 (.k (.bool true)) cm), .m 18 cO, .g 19 18 false (.av cH 2), .g 20 18 false (.load c6 false 1), .g 21 18 false (.av bI 2), .g 22 18 false (.load dr false 1), .g 23 18 false (.bin .neq dk dw), .o 24 (.pick cK (.k (.bool true)) dz), .m 25 da, .g 26 25 false (.av cH 3), .g 27 25 false (.load eo false 1), .g 28 25 false (.len dP), .g 29 25 false (.av bI 3), .g 30 25 false (.load eG false 1), .g 31 25 false (.len eY), .g 32 25 false (.bin .neq eK eP), .o 33 (.pick c7 (.k (.bool true)) eZ)]
abbrev aii:AC:= .cond eV (.seq (.run [.o 4 (.mv (.k (.bool false)))]) .ret) .skip
abbrev aij:AC:= .par [.o 40 (.av cH 3), .o 41 (.load gU false 1), .m 42 bo, .o 43 (.ca gI iz 4), .o 44 (.load iI true 4), .o 45 (.av bI 3), .o 46 (.load jG false 1), .m 47 bo, .o 48 (.ca jH jT 4), .o 49 (.load iV true 4), .c 50 jF [jo,jq], .o 51 (.un .not ky)] [(0,0),(1,0),(2,0),(3,0),(4,0),(5,0),(6,0),(7,0),(8,0),(9,0),(10,0),(11,0)]
abbrev aik:AC:= .cond jI (.seq (.run [.o 4 (.mv (.k (.bool false)))]) .ret) .skip
abbrev ail:AC:= .seq (.cond gC .skip (.exit 0)) (.seq (.block 1 (.seq (.run [.m 39 fy, .m 5 gj]) (.seq aij aik))) (.run [.o 52 (.bin .add fy (.k (.int .i64 1))), .m 37 jU]))
abbrev aim:AC:= .seq (.run [.o 34 (.av cH 3), .o 35 (.load fh false 1), .o 36 (.len fb), .o 37 (.mv (.k (.int .i64 0)))]) (.block 0 (.loop (.seq (.run [.o 38 (.bin .lss fy fm)]) ail)))
abbrev ain:AC:= .seq aim (.seq (.run [.o 4 (.mv (.k (.bool true)))]) .ret)
abbrev aio:AC:= .seq (.run [.o 2 (.box aU), .o 3 (.box bn), .o 4 (.mv (.k (.bool false)))]) (.seq (.seq aih aii) ain)
abbrev aip:AC:= .seq (.run [.o 4 (.mv (.k (.bool false)))]) (.seq (.run [.m 5 bn, .m 6 bo, .g 7 6 true (.mv aU), .d 8 6 true mE [bO], .o 9 (.pick bP cf (.k (.bool false))), .m 10 cA, .g 11 10 false (.mv bn), .g 12 10 false (.un .not b8), .g 13 10 false (.mv cp), .g 14 13 true (.mv aU), .g 15 13 true (.bin .eql bU (.k (.str []))), .g 16 10 false (.pick bZ cv (.k (.bool false))), .o 17 (.pick bW (.k (.bool true)) cm), .m 4 cO]) .ret)
abbrev aiq:AC:= .seq (.run [.o 2 (.box aU), .o 4 (.mv (.k (.bool false)))]) (.seq (.run [.m 5 bn, .m 6 bo, .g 7 6 true (.load cH true 4), .d 8 6 true n9 [bO], .o 9 (.pick bP cf (.k (.bool false))), .m 10 cA, .g 11 10 false (.mv bn), .g 12 10 false (.un .not b8), .g 13 10 false (.mv cp), .g 14 13 true (.load cH true 4), .d 15 13 true vv [bU], .g 16 10 false (.pick bZ cv (.k (.bool false))), .o 17 (.pick bW (.k (.bool true)) cm), .m 4 cO]) .ret)
abbrev air:AC:= .cond c7 (.seq (.run [.o 2 (.mv (.k (.bool false)))]) .ret) .skip
abbrev ais:AC:= .seq (.run [.o 9 (.ca bo bO 6), .o 10 (.load cA true 6), .o 4 (.alloc [(.bool false),(.str []),(.int .i64 0),(.int .i64 0),(.str []),(.slice .full 0 [])]), .op none none (.store cU bW 6)]) (.seq (.run [.o 11 (.av cU 1), .o 12 (.load b8 false 1), .o 13 (.av cU 0), .o 14 (.load bZ false 1), .c 15 nV [cp,bU], .o 16 (.un .not cv), .m 17 cm, .g 18 17 false (.av cU 2), .g 19 17 false (.load cK true 4), .g 20 17 false (.av cU 0), .g 21 17 false (.load dk false 1), .g 22 17 false (.un .not dr), .d 23 17 false qb [c6,dw], .g 24 17 false (.un .not dz), .o 25 (.pick cO (.k (.bool true)) da)]) air)
abbrev ait:AC:= .seq (.cond cf .skip (.exit 0)) (.seq (.block 1 ais) (.run [.o 26 (.bin .add bO (.k (.int .i64 1))), .m 7 eo]))
abbrev aiu:AC:= .seq (.run [.m 5 aU, .o 6 (.len bo), .o 7 (.mv (.k (.int .i64 0)))]) (.block 0 (.loop (.seq (.run [.o 8 (.bin .lss bO bP)]) ait)))
abbrev aiv:AC:= .seq aiu (.seq (.run [.o 2 (.mv (.k (.bool true)))]) .ret)
abbrev aiw:AC:= .seq (.run [.o 2 (.mv (.k (.bool false)))]) aiv
abbrev aix:AC:= .seq (.block 1 (.seq (.run [.o 13 (.ca cA b8 13), .o 14 (.load bZ true 13), .o 5 (.alloc [(.int .i64 0),(.int .i64 0),(.slice .full 0 []),(.str []),(.str []),(.int .i64 0),(.int .i64 0),(.str []),(.slice .full 0 []),(.bool false),(.slice .full 0 []),(.slice .full 0 []),(.slice .full 0 [])]), .op none none (.store bo bU 13)]) (.run [.m 15 bI, .o 16 (.load bo true 13), .c 17 ly [cm], .o 18 (.bin .add cv cO), .m 3 cK]))) (.run [.o 19 (.bin .add b8 (.k (.int .i64 1))), .m 11 c6])
abbrev aiy:AC:= .block 0 (.loop (.seq (.run [.o 12 (.bin .lss b8 bW)]) (.seq (.cond cp .skip (.exit 0)) aix)))
abbrev aiz:AC:= .seq (.block 3 (.seq (.run [.o 25 (.ca dr dz 13), .o 26 (.load c7 true 13), .o 7 (.alloc [(.int .i64 0),(.int .i64 0),(.slice .full 0 []),(.str []),(.str []),(.int .i64 0),(.int .i64 0),(.str []),(.slice .full 0 []),(.bool false),(.slice .full 0 []),(.slice .full 0 []),(.slice .full 0 [])]), .op none none (.store bO eo 13)]) (.run [.m 27 bI, .o 28 (.load bO true 13), .c 29 ly [eK], .o 30 (.bin .add dP eG), .m 3 eY]))) (.run [.o 31 (.bin .add dz (.k (.int .i64 1))), .m 23 eP])
abbrev aiA:AC:= .block 2 (.loop (.seq (.run [.o 24 (.bin .lss dz dw)]) (.seq (.cond da .skip (.exit 2)) aiz)))
abbrev aiB:AC:= .seq (.seq (.run [.o 20 (.av bn 12), .o 21 (.load dk false 1), .o 22 (.len dr), .o 23 (.mv (.k (.int .i64 0)))]) aiA) (.seq (.run [.m 32 bI, .m 2 eZ]) .ret)
abbrev aiC:AC:= .seq (.seq (.run [.o 8 (.av bn 11), .o 9 (.load cf false 1), .o 10 (.len cA), .o 11 (.mv (.k (.int .i64 0)))]) aiy) aiB
abbrev aiD:AC:= .seq (.run [.o 1 (.box aU), .o 2 (.mv (.k (.int .i64 0)))]) (.seq (.run [.o 3 (.mv (.k (.int .i64 1)))]) aiC)
abbrev aiE:AC:= .cond bo (.seq (.run [.o 2 (.mv (.k (.slice .full 0 [])))]) .ret) .skip
abbrev aiF:AC:= .seq (.seq (.run [.o 3 (.load bn true 4), .c 4 n9 [bI], .o 5 (.un .not cU)]) aiE) (.seq (.run [.o 6 (.load bn true 4),(.c 7 gZ [bP,(.k (.slice .full 0 []))]), .m 2 bO]) .ret)
abbrev aiG:AC:= .seq (.run [.o 1 (.box aU), .o 2 (.mv (.k (.slice .full 0 [])))]) aiF
abbrev aiH:AC:= .seq (.run [.o 4 (.mv (.k (.bool false)))]) (.seq (.run [.m 5 aU, .m 6 bn, .c 7 fu [bo,bP], .o 8 (.bin .geq bO (.k (.int .i64 0))), .m 4 cf]) .ret)
abbrev aiI:AC:= .seq (.run [.o 2 (.box aU), .o 3 (.mv (.k (.bool false)))]) (.seq (.run [.o 4 (.av cH 0), .o 5 (.load cU false 1), .o 6 (.load bn false 1), .o 7 (.bin .eql bo bP), .m 3 bO]) .ret)
abbrev aiJ:AC:= .seq (.run [.o 16 (.ca cp bU 17), .o 17 (.load cm true 17), .o 7 (.alloc [(.int .i64 0),(.int .i64 0),(.slice .full 0 []),(.str []),(.str []),(.int .i64 0),(.int .i64 0),(.str []),(.slice .full 0 []),(.bool false),(.slice .full 0 []),(.slice .full 0 []),(.slice .full 0 []),(.int .i64 0),(.int .i64 0),(.int .i64 0),(.int .i64 0)]), .op none none (.store bO cO 17)]) (.seq (.run [.o 18 (.av bO 0), .o 19 (.av cK 1), .o 20 (.load c6 false 1), .o 21 (.bin .eql dk (.k (.int .i64 4)))]) (.cond dr (.run [.m 22 bo, .o 23 (.av bO 0), .o 24 (.av dz 4), .o 25 (.load da false 1), .o 26 (.cT [(.str [])] 1 1 [(0,c7)]), .o 27 (.app 1 16 dw eo), .m 5 dP]) .skip))
abbrev aiK:AC:= .seq (.cond cv .skip (.exit 0)) (.seq (.block 1 aiJ) (.run [.o 28 (.bin .add bU (.k (.int .i64 1))), .m 14 eK]))
abbrev aiL:AC:= .seq (.run [.m 8 aU, .m 9 aU, .m 10 bn, .c 11 lR [cA,bW], .c 12 fT [cf,b8], .o 13 (.len cp), .o 14 (.mv (.k (.int .i64 0)))]) (.block 0 (.loop (.seq (.run [.o 15 (.bin .lss bU bZ)]) aiK)))
abbrev aiM:AC:= .seq (.run [.o 4 (.mv (.k (.slice .full 0 [])))]) (.seq (.run [.o 5 (.mv (.k (.slice .full 0 [])))]) (.seq aiL (.seq (.run [.m 29 bo, .c 30 iw [eG]]) (.seq (.run [.m 31 bo, .c 32 iK [eP], .m 4 eZ]) .ret))))
end Go.Abs

/-! Codes4 -/

namespace Go.Abs
abbrev aiN:AC:= .block 1 (.seq (.run [.m 10 cf, .m 5 bW]) (.seq (.run [.m 11 bn, .m 12 aU, .m 13 bo, .o 14 (.ca cp bZ 5), .o 15 (.load bU true 5),(.im (some 16) none 11 [cv])]) (.cond cm (.seq (.run [.m 17 bo, .m 4 cO]) .ret) .skip)))
abbrev aiO:AC:= .seq (.cond cA .skip (.exit 0)) (.seq aiN (.run [.o 18 (.bin .add cf (.k (.int .i64 1))), .m 8 cK]))
abbrev aiP:AC:= .seq (.run [.m 6 aU, .o 7 (.len bP), .o 8 (.mv (.k (.int .i64 0)))]) (.block 0 (.loop (.seq (.run [.o 9 (.bin .lss cf bO)]) aiO)))
abbrev aiQ:AC:= .seq (.run [(.o 4 (.mv (.k (.int .i64 (-1)))))]) .ret
abbrev aiR:AC:= .seq (.run [.o 4 (.mv (.k (.int .i64 0)))]) (.seq aiP aiQ)
abbrev aiS:AC:= .seq (.run [.o 2 (.box aU), .o 3 (.mv (.k (.bool false)))]) (.seq (.run [.o 4 (.av cH 0), .o 5 (.load cU false 1), .o 6 (.load bn false 1), .o 7 (.bin .eql bo bP), .m 3 bO]) .ret)
abbrev aiT:AC:= .seq (.run [.m 16 aU, .c 17 ew [cm,(.k (.int .i64 3))]]) (.seq (.run [.o 4 (.mv (.k (.str [])))]) .ret)
abbrev aiU:AC:= .seq (.run [.m 20 aU, .c 21 ew [dk,(.k (.int .i64 4))]]) (.seq (.run [.o 4 (.mv (.k (.str [])))]) .ret)
abbrev aiV:AC:= .seq (.seq (.run [.m 18 bn, .o 19 (.un .not cK)]) (.cond c6 aiU .skip)) (.seq (.run [.m 22 aU, .o 23 (.db dw), .o 24 (.av dz 1), .o 25 (.load da false 1), .o 26 (.bin .add c7 (.k (.int .i64 1))), .o 27 (.db dw), .o 28 (.av dP 1), .op none none (.store eK eo 1)]) (.seq (.run [.o 29 (.av bo 1), .o 30 (.load eG false 1), .m 4 eY]) .ret))
abbrev aiW:AC:= .seq (.seq (.run [.m 8 aU, .c 9 cr [cf], .o 10 (.un .not cA), .m 11 bW, .g 12 11 false (.av bo 0), .g 13 11 false (.load cp false 1), .g 14 11 false (.bin .neq bZ (.k (.int .i64 1))), .o 15 (.pick b8 (.k (.bool true)) bU)]) (.cond cv aiT .skip)) aiV
abbrev aiX:AC:= .seq (.run [.o 4 (.mv (.k (.str [])))]) (.seq (.run [.m 6 aU, .c 7 dj [bP], .o 5 (.alloc [(.int .i64 0),(.str []),(.int .i64 0),(.int .i64 0)]), .op none none (.store bo bO 4)]) aiW)
abbrev aiY:AC:= .seq (.run [.m 4 aU, .m 5 bn, .c 6 di [cU,bo], .o 7 (.un .not bP)]) (.cond bO (.run [.m 8 aU, .c 9 ew [cf,(.k (.int .i64 3))]]) .skip)
abbrev aiZ:AC:= .cond da (.seq (.run [.m 25 aU, .o 26 (.db c7), .o 27 (.av eo 1), .o 28 (.load dP false 1), .o 29 (.bin .add eK (.k (.int .i64 1))), .o 30 (.db c7), .o 31 (.av eY 1), .op none none (.store eP eG 1)]) (.seq (.run [.m 32 cf, .m 33 cA, .m 6 eZ, .m 7 eV]) .ret)) .skip
abbrev ai0:AC:= .seq (.seq (.run [.m 15 aU,(.c 16 eW [cv,(.k (.str [125]))]), .m 17 cm, .g 18 17 true (.mv cH), .g 19 17 true (.mv cK), .g 20 19 false (.mv cA), .g 21 19 false (.len dk), .g 22 19 false (.bin .eql dr (.k (.int .i64 0))), .g 23 17 true (.pick c6 (.k (.bool true)) dw), .o 24 (.pick cO dz (.k (.bool false)))]) aiZ) (.seq (.run [.m 34 aU, .m 35 bn, .c 36 nh [fh,fb], .o 10 (.alloc [(.int .i64 0),(.int .i64 0),(.slice .full 0 []),(.str []),(.str []),(.int .i64 0),(.int .i64 0),(.str []),(.slice .full 0 []),(.bool false),(.slice .full 0 []),(.slice .full 0 []),(.slice .full 0 [])]), .op none none (.store bW fm 13)]) (.seq (.run [.m 37 cA, .o 38 (.av bW 2), .op none none (.store gC fy 1)]) (.run [.m 39 cf, .o 40 (.load bW true 13), .o 41 (.cT [(.int .i64 0),(.int .i64 0),(.slice .full 0 []),(.str []),(.str []),(.int .i64 0),(.int .i64 0),(.str []),(.slice .full 0 []),(.bool false),(.slice .full 0 []),(.slice .full 0 []),(.slice .full 0 [])] 13 1 [(0,gU)]), .o 42 (.app 13 208 gj gI), .m 8 iz])))
abbrev ai1:AC:= .block 0 (.loop (.seq (.seq (.run [.m 11 aU, .c 12 cr [b8]]) (.cond cp .skip (.exit 0))) (.block 1 (.seq (.run [.m 13 aU, .c 14 l6 [bZ], .m 9 bU]) ai0))))
abbrev ai2:AC:= .seq ai1 (.seq (.run [.o 6 (.mv (.k (.slice .full 0 []))), .o 7 (.mv (.k (.slice .full 0 [])))]) .ret)
abbrev ai3:AC:= .seq (.run [.o 6 (.mv (.k (.slice .full 0 []))), .o 7 (.mv (.k (.slice .full 0 [])))]) (.seq (.run [.o 8 (.mv (.k (.slice .full 0 [])))]) ai2)
abbrev ai4:AC:= .par [.o 15 (.av bn 3), .o 16 (.load cv false 1), .o 17 (.load bo true 4), .c 18 lz [cO], .o 19 (.cT [(.int .i64 0),(.int .i64 0),(.str []),(.slice .full 0 [])] 4 1 [(0,cK)]), .o 20 (.app 4 56 cm c6), .o 21 (.av bn 3), .op none none (.store dr dk 1)] [(2,0),(3,0),(0,0),(1,1),(4,0),(5,0),(6,0),(7,0)]
abbrev ai5:AC:= .seq (.block 1 (.seq (.run [.o 13 (.ca cA b8 4), .o 14 (.load bZ true 4), .o 5 (.alloc [(.int .i64 0),(.int .i64 0),(.str []),(.slice .full 0 [])]), .op none none (.store bo bU 4)]) ai4)) (.run [.o 22 (.bin .add b8 (.k (.int .i64 1))), .m 11 dw])
abbrev ai6:AC:= .block 0 (.loop (.seq (.run [.o 12 (.bin .lss b8 bW)]) (.seq (.cond cp .skip (.exit 0)) ai5)))
abbrev ai7:AC:= .seq (.seq (.run [.m 9 bI, .o 10 (.len cA), .o 11 (.mv (.k (.int .i64 0)))]) ai6) (.seq (.run [.o 23 (.load bn true 4), .op none none (.store cH dz 4)]) .ret)
abbrev ai8:AC:= .seq (.run [.o 6 (.av bn 3), .o 7 (.load bP false 1), .m 3 bO]) (.seq (.run [.o 8 (.av bn 3), .op none none (.store cf (.k (.slice .full 0 [])) 1)]) ai7)
abbrev ai9:AC:= .seq (.run [.o 1 (.box aU), .o 2 (.alloc [(.int .i64 0),(.int .i64 0),(.str []),(.slice .full 0 [])])]) ai8
abbrev aja:AC:= .seq (.run [.o 1 (.box aU), .o 2 (.mv (.k (.bool false)))]) (.seq (.run [.o 3 (.load bn true 4), .c 4 oN [bI,(.k (.int .i64 20))], .o 5 (.bin .leq cU (.k (.int .i64 20))), .m 6 bo, .g 7 6 true (.load bn true 4), .d 8 6 true oO [bO], .o 9 (.pick bP cf (.k (.bool false))), .m 2 cA]) .ret)
abbrev ajb:AC:= .seq (.run [.o 2 (.mv (.k (.bool false)))]) (.seq (.run [.m 3 aU, .o 4 (.bin .geq bI (.k (.int .u8 97))), .m 5 cU, .g 6 5 true (.mv aU), .g 7 5 true (.bin .leq bP (.k (.int .u8 122))), .o 8 (.pick bo bO (.k (.bool false))), .m 2 cf]) .ret)
abbrev ajc:AC:= .seq (.run [.o 2 (.mv (.k (.bool false)))]) (.seq (.run [.m 3 aU, .o 4 (.bin .geq bI (.k (.int .u8 48))), .m 5 cU, .g 6 5 true (.mv aU), .g 7 5 true (.bin .leq bP (.k (.int .u8 57))), .o 8 (.pick bo bO (.k (.bool false))), .m 2 cf]) .ret)
abbrev ajd:AC:= .cond bZ (.seq (.run [.o 2 (.mv (.k (.bool true)))]) .ret) .skip
abbrev aje:AC:= .seq (.block 1 (.seq (.run [.o 9 (.ca bo bO 1), .o 10 (.load cA false 1), .m 4 bW]) (.seq (.run [.m 11 cU, .m 12 aU, .o 13 (.bin .eql b8 cp)]) ajd))) (.run [.o 14 (.bin .add bO (.k (.int .i64 1))), .m 7 bU])
abbrev ajf:AC:= .block 0 (.loop (.seq (.run [.o 8 (.bin .lss bO bP)]) (.seq (.cond cf .skip (.exit 0)) aje)))
abbrev ajg:AC:= .seq (.seq (.run [.c 5 tA [], .o 6 (.len bo), .o 7 (.mv (.k (.int .i64 0)))]) ajf) (.seq (.run [.o 2 (.mv (.k (.bool false)))]) .ret)
abbrev ajh:AC:= .seq (.run [.o 2 (.mv (.k (.bool false)))]) ajg
abbrev aji:AC:= .seq (.run [.o 1 (.box aU), .o 2 (.mv (.k (.bool false)))]) (.seq (.run [.o 3 (.av bn 0), .o 4 (.load bI false 1), .o 5 (.bin .eql cU (.k (.int .i64 0))), .m 6 bo, .g 7 6 true (.av bn 1), .g 8 6 true (.load bO false 1), .g 9 6 true (.bin .eql cf (.k (.int .i64 0))), .o 10 (.pick bP cA (.k (.bool false))), .m 11 bW, .g 12 11 true (.av bn 2), .g 13 11 true (.load cp false 1), .g 14 11 true (.bin .eql bZ (.k (.str []))), .o 15 (.pick b8 bU (.k (.bool false))), .m 16 cv, .g 17 16 true (.av bn 3), .g 18 16 true (.load cO false 1), .g 19 16 true (.len cK), .g 20 16 true (.bin .eql c6 (.k (.int .i64 0))), .o 21 (.pick cm dk (.k (.bool false))), .m 2 dr]) .ret)
abbrev ajj:AC:= .cond cU (.seq (.run [.o 5 (.av bn 1), .o 6 (.load bo false 1), .c 7 j8 [bP], .m 8 bO, .g 9 8 true (.av bn 2), .g 10 8 true (.load cA true 4), .d 11 8 true ra [bW], .o 12 (.pick cf b8 (.k (.bool false))), .m 2 cp]) .ret) .skip
abbrev ajk:AC:= .seq (.seq (.run [.o 3 (.av bn 0), .o 4 (.load bI false 1)]) ajj) (.seq (.run [.o 13 (.av bn 1), .o 14 (.load bZ false 1), .o 15 (.bin .eql bU (.k (.str []))), .m 16 cv, .g 17 16 true (.av bn 2), .g 18 16 true (.load cO true 4), .d 19 16 true n8 [cK], .o 20 (.pick cm c6 (.k (.bool false))), .m 2 dk]) .ret)
abbrev ajl:AC:= .seq (.run [.o 1 (.box aU), .o 2 (.mv (.k (.bool false)))]) ajk
abbrev ajm:AC:= .seq (.run [.o 1 (.box aU), .o 2 (.mv (.k (.bool false)))]) (.seq (.run [.o 3 (.load bn true 4), .c 4 oP [bI,(.k (.int .i64 20))], .m 2 cU]) .ret)
abbrev ajn:AC:= .seq (.run [.o 1 (.box aU), .o 2 (.mv (.k (.bool false)))]) (.seq (.run [.o 3 (.av bn 0), .o 4 (.load bI false 1), .o 5 (.bin .eql cU (.k (.int .i64 0))), .m 6 bo, .g 7 6 true (.av bn 1), .g 8 6 true (.load bO false 1), .g 9 6 true (.bin .eql cf (.k (.int .i64 0))), .o 10 (.pick bP cA (.k (.bool false))), .m 11 bW, .g 12 11 true (.av bn 2), .g 13 11 true (.load cp false 1), .g 14 11 true (.bin .eql bZ (.k (.str []))), .o 15 (.pick b8 bU (.k (.bool false))), .m 16 cv, .g 17 16 true (.av bn 3), .g 18 16 true (.load cO false 1), .g 19 16 true (.len cK), .g 20 16 true (.bin .eql c6 (.k (.int .i64 0))), .o 21 (.pick cm dk (.k (.bool false))), .m 2 dr]) .ret)
abbrev ajo:AC:= .seq (.block 1 (.seq (.run [.o 27 (.ca dz c7 4), .o 28 (.load dP true 4), .o 6 (.alloc [(.int .i64 0),(.int .i64 0),(.str []),(.slice .full 0 [])]), .op none none (.store bP eK 4)]) (.run [.o 29 (.load bP true 4), .m 30 bn, .c 31 gZ [eG,eY], .m 1 eP]))) (.run [.o 32 (.bin .add c7 (.k (.int .i64 1))), .m 25 eZ])
abbrev ajp:AC:= .block 0 (.loop (.seq (.run [.o 26 (.bin .lss c7 da)]) (.seq (.cond eo .skip (.exit 0)) ajo)))
abbrev ajq:AC:= .seq (.seq (.run [.o 22 (.av cH 3), .o 23 (.load dw false 1), .o 24 (.len dz), .o 25 (.mv (.k (.int .i64 0)))]) ajp) (.seq (.run [.m 33 bn, .m 4 eV]) .ret)
abbrev ajr:AC:= .seq (.seq (.run [.o 7 (.av cH 0), .o 8 (.load bO false 1), .o 9 (.bin .eql cf (.k (.int .i64 2))), .m 10 cA, .g 11 10 true (.mv bn), .g 12 10 true (.av cH 2), .g 13 10 true (.load cp false 1), .d 14 10 true b7 [b8,bZ], .g 15 10 true (.un .not bU), .o 16 (.pick bW cv (.k (.bool false)))]) (.cond cm (.run [.m 17 bn, .o 18 (.av cH 2), .o 19 (.load cK false 1), .o 20 (.cT [(.str [])] 1 1 [(0,c6)]), .o 21 (.app 1 16 cO dk), .m 1 dr]) .skip)) ajq
abbrev ajs:AC:= .seq (.run [.o 2 (.box aU), .o 4 (.mv (.k (.slice .full 0 [])))]) ajr
abbrev ajt:AC:= .par [.m 4 aU, .c 5 cr [cU], .m 6 bo, .g 7 6 true (.mv aU), .d 8 6 true dj [bO], .g 9 6 true (.rl cf 0 false 1), .g 10 6 true (.bin .eql cA (.k (.int .i64 1))), .o 11 (.pick bP bW (.k (.bool false))), .m 12 b8, .g 13 12 true (.mv aU), .g 14 12 true (.db bZ), .g 15 12 true (.av bU 0), .g 16 12 true (.load cv false 1), .g 17 12 true (.mv aU), .g 18 12 true (.db cO), .g 19 12 true (.av cK 1), .g 20 12 true (.load c6 false 1), .g 21 12 true (.bin .add dk (.k (.int .i64 1))), .g 22 12 true (.ca cm dr 4), .g 23 12 true (.av dw 0), .g 24 12 true (.load dz false 1), .g 25 12 true (.bin .eql da (.k (.int .i64 4))), .o 26 (.pick cp c7 (.k (.bool false))), .m 27 eo, .g 28 27 true (.mv aU), .g 29 27 true (.db eK), .g 30 27 true (.av eG 0), .g 31 27 true (.load eY false 1), .g 32 27 true (.mv aU), .g 33 27 true (.db eZ), .g 34 27 true (.av eV 1), .g 35 27 true (.load fh false 1), .g 36 27 true (.bin .add fb (.k (.int .i64 1))), .g 37 27 true (.ca eP fm 4), .g 38 27 true (.av fy 1), .g 39 27 true (.load gC false 1), .g 40 27 true (.bin .eql gj (.k (.str [58]))), .o 41 (.pick dP gU (.k (.bool false)))] [(0,0),(1,0),(2,0),(3,0),(4,0),(5,0),(6,0),(7,0),(8,0),(9,0),(10,0),(11,0),(12,0),(13,0),(14,0),(15,0),(16,0),(17,0),(18,0),(19,0),(20,0),(21,0),(22,0),(23,0),(24,0),(25,0),(26,0),(27,0),(28,0),(29,0),(30,0),(31,0),(32,0),(33,0),(34,0),(35,0),(36,0),(37,0)]
abbrev aju:AC:= .block 1 (.seq (.run [.m 42 bI, .m 43 aU, .c 44 dj [iI], .o 45 (.rl jo 1 false 1), .o 46 (.cT [(.str [])] 1 1 [(0,jG)]), .o 47 (.app 1 16 iz jH), .m 3 jT]) (.run [.m 48 aU, .o 49 (.db iV), .o 50 (.av jq 1), .o 51 (.load ky false 1), .o 52 (.bin .add jI (.k (.int .i64 2))), .o 53 (.db iV), .o 54 (.av kz 1), .op none none (.store kT jU 1)]))
abbrev ajv:AC:= .block 0 (.loop (.seq (.seq ajt (.cond gI .skip (.exit 0))) aju))
abbrev ajw:AC:= .seq (.run [.o 2 (.mv (.k (.slice .full 0 [])))]) (.seq (.run [.o 3 (.mv (.k (.slice .full 0 [])))]) (.seq ajv (.seq (.run [.m 55 bI, .m 2 lA]) .ret)))
end Go.Abs

/-! Have4 -/

namespace Go.Abs
open Go.Proofs
theorem qw:Has Tryz.prog fu 19 [(4,none)] aiR:=⟨Tryz.f166,by kernel_rfl,by kernel_rfl⟩
theorem vZ:Has Tryz.prog kI 8 [(3,none)] aiS:=⟨Tryz.f167,by kernel_rfl,by kernel_rfl⟩
theorem v7:Has Tryz.prog dY 31 [(4,none)] aiX:=⟨Tryz.f170,by kernel_rfl,by kernel_rfl⟩
theorem v8:Has Tryz.prog cM 10 [] aiY:=⟨Tryz.f171,by kernel_rfl,by kernel_rfl⟩
theorem pD:Has Tryz.prog fN 43 [(6,none),(7,none)] ai3:=⟨Tryz.f172,by kernel_rfl,by kernel_rfl⟩
theorem ET:Has Tryz.prog lz 24 [(2,(some (true,4)))] ai9:=⟨Tryz.f173,by kernel_rfl,by kernel_rfl⟩
theorem AQ:Has Tryz.prog n8 10 [(2,none)] aja:=⟨Tryz.f174,by kernel_rfl,by kernel_rfl⟩
theorem Dc:Has Tryz.prog qd 9 [(2,none)] ajb:=⟨Tryz.f177,by kernel_rfl,by kernel_rfl⟩
theorem Dd:Has Tryz.prog tz 9 [(2,none)] ajc:=⟨Tryz.f178,by kernel_rfl,by kernel_rfl⟩
theorem EU:Has Tryz.prog vu 15 [(2,none)] ajh:=⟨Tryz.f179,by kernel_rfl,by kernel_rfl⟩
theorem EV:Has Tryz.prog ra 22 [(2,none)] aji:=⟨Tryz.f180,by kernel_rfl,by kernel_rfl⟩
theorem Gz:Has Tryz.prog w8 21 [(2,none)] ajl:=⟨Tryz.f181,by kernel_rfl,by kernel_rfl⟩
theorem AR:Has Tryz.prog n9 5 [(2,none)] ajm:=⟨Tryz.f190,by kernel_rfl,by kernel_rfl⟩
theorem EW:Has Tryz.prog vv 22 [(2,none)] ajn:=⟨Tryz.f191,by kernel_rfl,by kernel_rfl⟩
theorem qi:Has Tryz.prog gZ 34 [(4,none)] ajs:=⟨Tryz.f192,by kernel_rfl,by kernel_rfl⟩
theorem ub:Has Tryz.prog l6 56 [(2,none)] ajw:=⟨Tryz.f204,by kernel_rfl,by kernel_rfl⟩
end Go.Abs

/-! Codes5 -/

namespace Go.Abs
abbrev ajx:AC:= .cond bW (.seq (.run [.m 11 aU, .c 12 ew [b8,(.k (.int .i64 3))]]) (.seq (.run [.o 13 (.build [(.int .i64 0),(.int .i64 0),(.slice .full 0 []),(.str []),(.str []),(.int .i64 0),(.int .i64 0),(.str []),(.slice .full 0 []),(.bool false),(.slice .full 0 []),(.slice .full 0 []),(.slice .full 0 [])] []), .op none none (.store cU bZ 13)]) .ret)) .skip
abbrev ajy:AC:= .cond eG (.seq (.run [.m 30 aU, .c 31 ew [eY,(.k (.int .i64 4))]]) (.seq (.run [.o 32 (.build [(.int .i64 0),(.int .i64 0),(.slice .full 0 []),(.str []),(.str []),(.int .i64 0),(.int .i64 0),(.str []),(.slice .full 0 []),(.bool false),(.slice .full 0 []),(.slice .full 0 []),(.slice .full 0 [])] []), .op none none (.store cU eZ 13)]) .ret)) .skip
abbrev ajz:AC:= .seq (.run [.m 56 aU, .c 57 kJ [mI],(.o 58 (.build [(.int .i64 0),(.int .i64 0),(.slice .full 0 []),(.str []),(.str []),(.int .i64 0),(.int .i64 0),(.str []),(.slice .full 0 []),(.bool false),(.slice .full 0 []),(.slice .full 0 []),(.slice .full 0 [])] [(1,(1,(.k (.int .i64 6)))),(5,(4,ni))])), .o 6 (.alloc [(.int .i64 0),(.int .i64 0),(.slice .full 0 []),(.str []),(.str []),(.int .i64 0),(.int .i64 0),(.str []),(.slice .full 0 []),(.bool false),(.slice .full 0 []),(.slice .full 0 []),(.slice .full 0 [])]), .op none none (.store bP mJ 13)]) (.seq (.run [.m 59 aU, .m 60 bn, .c 61 iy [kU,oA], .o 62 (.av bP 11), .op none none (.store qe pg 1)]) (.seq (.run [.o 63 (.load bP true 13), .op none none (.store cU qf 13)]) .ret))
abbrev ajA:AC:= .cond jq (.seq (.run [.m 51 aU, .m 52 bn, .c 53 l8 [jI,jU], .op none none (.store cU kz 13)]) .ret) (.seq (.run [.o 55 (.bin .eql iV (.k (.str [119,104,105,108,101]))), .m 54 lA]) (.cond kT ajz .skip))
abbrev ajB:AC:= .block 0 (.seq (.run [.o 50 (.bin .eql iV (.k (.str [105,102]))), .m 49 ky]) ajA)
abbrev ajC:AC:= .seq (.run [.m 64 aU, .o 65 (.av bo 1), .o 66 (.load tC false 1), .c 67 mH [qO,vx], .o 7 (.alloc [(.int .i64 0),(.int .i64 0),(.slice .full 0 []),(.str []),(.str []),(.int .i64 0),(.int .i64 0),(.str []),(.slice .full 0 []),(.bool false),(.slice .full 0 []),(.slice .full 0 []),(.slice .full 0 [])]), .op none none (.store bO qP 13)]) (.seq (.run [.m 68 aU,(.c 69 cM [tD,(.k (.str [59]))])]) (.seq (.run [.o 70 (.load bO true 13), .op none none (.store cU tE 13)]) .ret))
abbrev ajD:AC:= .seq (.seq (.run [.o 35 (.av bo 0), .o 36 (.load fb false 1), .o 37 (.bin .eql fm (.k (.int .i64 1)))]) (.cond fy (.seq (.run [.m 38 aU, .c 39 mF [gC], .op none none (.store cU gj 13)]) .ret) .skip)) (.seq (.run [.m 40 aU, .o 41 (.db gU), .o 42 (.av gI 1), .o 43 (.load iz false 1), .o 44 (.bin .add iI (.k (.int .i64 1))), .o 45 (.db gU), .o 46 (.av jG 1), .op none none (.store jH jo 1)]) (.seq (.seq (.run [.o 47 (.av bo 1), .o 48 (.load jT false 1)]) ajB) ajC))
abbrev ajE:AC:= .seq (.seq (.run [.m 21 aU, .o 22 (.db dr), .o 23 (.av dw 4), .o 24 (.load dz false 1), .o 25 (.bin .gtr da (.k (.int .i64 200))), .m 26 c7, .g 27 26 false (.mv bn), .g 28 26 false (.bin .gtr dP (.k (.int .i64 12))), .o 29 (.pick eo (.k (.bool true)) eK)]) ajy) (.seq (.run [.m 33 aU, .c 34 dj [eV], .o 5 (.alloc [(.int .i64 0),(.str []),(.int .i64 0),(.int .i64 0)]), .op none none (.store bo fh 4)]) ajD)
abbrev ajF:AC:= .seq (.seq (.run [.m 8 aU, .c 9 l7 [cf], .o 10 (.un .not cA)]) ajx) (.seq (.run [.m 14 aU, .o 15 (.db bU), .o 16 (.av cv 4), .o 17 (.load cm false 1), .o 18 (.bin .add cO (.k (.int .i64 1))), .o 19 (.db bU), .o 20 (.av c6 4), .op none none (.store dk cK 1)]) ajE)
abbrev ajG:AC:= .seq (.run [.o 4 (.alloc [(.int .i64 0),(.int .i64 0),(.slice .full 0 []),(.str []),(.str []),(.int .i64 0),(.int .i64 0),(.str []),(.slice .full 0 []),(.bool false),(.slice .full 0 []),(.slice .full 0 []),(.slice .full 0 [])])]) ajF
abbrev ajH:AC:= .cond cA (.seq (.run [.o 4 (.mv (.k (.int .i64 1)))]) .ret) .skip
abbrev ajI:AC:= .block 1 (.seq (.run [.o 22 (.av cH 3), .o 23 (.load dw false 1), .m 24 bP, .o 25 (.ca dz da 4), .o 26 (.load c7 true 4), .m 27 bn, .o 28 (.bin .sub dP (.k (.int .i64 1))), .c 29 oN [eo,eK], .m 7 eG]) (.seq (.run [.m 30 bO, .m 31 bo, .o 32 (.bin .gtr eY eP)]) (.cond eZ (.run [.m 33 bO, .m 5 eV]) .skip)))
abbrev ajJ:AC:= .seq (.seq (.run [.m 10 bP, .o 11 (.av cH 3), .o 12 (.load b8 false 1), .o 13 (.len cp), .o 14 (.bin .lss bW bZ), .m 15 bU, .g 16 15 true (.mv bo), .g 17 15 true (.mv bn), .g 18 15 true (.bin .lss cm cO), .o 19 (.pick cv cK (.k (.bool false)))]) (.cond c6 .skip (.exit 0))) (.seq ajI (.run [.m 20 bP, .o 21 (.bin .add dk (.k (.int .i64 1))), .m 6 dr]))
abbrev ajK:AC:= .seq (.seq (.run [.o 6 (.mv (.k (.int .i64 0)))]) (.block 0 (.loop ajJ))) (.seq (.run [.m 34 bo, .o 35 (.bin .add fh (.k (.int .i64 1))), .m 4 fb]) .ret)
abbrev ajL:AC:= .seq (.seq (.run [.m 8 bn, .o 9 (.bin .eql cf (.k (.int .i64 0)))]) ajH) (.seq (.run [.o 5 (.mv (.k (.int .i64 0)))]) ajK)
abbrev ajM:AC:= .seq (.run [.o 2 (.box aU), .o 4 (.mv (.k (.int .i64 0)))]) ajL
abbrev ajN:AC:= .par [.o 4 (.av bn 0), .o 5 (.load cU false 1), .c 6 tB [bo], .o 7 (.av bn 3), .o 8 (.load bO false 1), .o 9 (.len cf), .o 10 (.bin .neq bP cA), .m 11 bW, .g 12 11 false (.av bn 0), .g 13 11 false (.load cp false 1), .g 14 11 false (.bin .neq bZ (.k (.int .i64 1))), .g 15 11 false (.mv bU), .g 16 15 true (.av bn 1), .g 17 15 true (.load cm false 1), .g 18 15 true (.bin .neq cO (.k (.int .i64 0))), .g 19 11 false (.pick cv cK (.k (.bool false))), .o 20 (.pick b8 (.k (.bool true)) c6), .m 21 dk, .g 22 21 false (.av bn 1), .g 23 21 false (.load dw false 1), .g 24 21 false (.bin .lss dz (.k (.int .i64 0))), .o 25 (.pick dr (.k (.bool true)) da), .m 26 c7, .g 27 26 false (.av bn 0), .g 28 26 false (.load dP false 1), .g 29 26 false (.bin .eql eK (.k (.int .i64 2))), .g 30 26 false (.av bn 2), .g 31 26 false (.load eY false 1), .g 32 26 false (.bin .neq eP (.k (.str []))), .g 33 26 false (.xH true eG eZ), .o 34 (.pick eo (.k (.bool true)) eV), .m 35 fh, .g 36 35 false (.av bn 2), .g 37 35 false (.load fm false 1), .g 38 35 false (.bin .neq fy (.k (.str []))), .g 39 35 false (.mv gC), .g 40 39 true (.av bn 2), .g 41 39 true (.load gU false 1), .d 42 39 true j8 [gI], .g 43 39 true (.un .not iz), .g 44 35 false (.pick gj iI (.k (.bool false))), .o 45 (.pick fb (.k (.bool true)) jo)] [(0,0),(1,0),(2,0),(3,0),(4,1),(5,0),(6,0),(7,0),(8,0),(9,0),(10,0),(11,0),(12,0),(13,0),(14,0),(15,0),(16,0),(17,0),(18,0),(19,0),(20,0),(21,0),(22,0),(23,0),(24,0),(25,0),(26,0),(27,0),(28,0),(29,0),(30,0),(31,0),(32,0),(33,0),(34,0),(35,0),(36,0),(37,0),(38,0),(39,0),(40,0),(41,0)]
abbrev ajO:AC:= .cond jG (.seq (.run [.o 2 (.mv (.k (.bool false)))]) .ret) .skip
abbrev ajP:AC:= .cond mJ (.seq (.run [.o 2 (.mv (.k (.bool false)))]) .ret) .skip
abbrev ajQ:AC:= .seq (.block 1 (.seq (.run [.m 51 jq, .m 3 jI]) (.seq (.run [.o 52 (.av bn 3), .o 53 (.load jU false 1), .m 54 bI, .o 55 (.ca kz kT 4), .o 56 (.load lA true 4), .c 57 oO [mI], .o 58 (.un .not ni)]) ajP))) (.run [.o 59 (.bin .add jq (.k (.int .i64 1))), .m 49 kU])
abbrev ajR:AC:= .block 0 (.loop (.seq (.run [.o 50 (.bin .lss jq iV)]) (.seq (.cond ky .skip (.exit 0)) ajQ)))
abbrev ajS:AC:= .seq (.seq (.run [.o 46 (.av bn 3), .o 47 (.load jH false 1), .o 48 (.len jT), .o 49 (.mv (.k (.int .i64 0)))]) ajR) (.seq (.run [.o 2 (.mv (.k (.bool true)))]) .ret)
abbrev ajT:AC:= .seq (.run [.o 1 (.box aU), .o 2 (.mv (.k (.bool false)))]) (.seq (.seq ajN ajO) ajS)
abbrev ajU:AC:= .seq (.run [(.o 1 (.cT [(.str [])] 1 13 [(0,(.k (.str [103,108,111,98,97,108]))),(1,(.k (.str [112,114,111,99]))),(2,(.k (.str [118,97,114]))),(3,(.k (.str [114,101,102]))),(4,(.k (.str [105,102]))),(5,(.k (.str [101,108,115,101]))),(6,(.k (.str [119,104,105,108,101]))),(7,(.k (.str [98,114,101,97,107]))),(8,(.k (.str [99,111,110,116,105,110,117,101]))),(9,(.k (.str [114,101,116,117,114,110]))),(10,(.k (.str [103,111,116,111]))),(11,(.k (.str [114,101,97,100]))),(12,(.k (.str [112,114,105,110,116])))])), .m 0 bn]) .ret
abbrev ajV:AC:= .seq (.run [.o 0 (.mv (.k (.slice .full 0 [])))]) ajU
abbrev ajW:AC:= .cond cO (.seq (.run [.o 2 (.mv (.k (.int .i64 2)))]) .ret) .skip
abbrev ajX:AC:= .cond bW (.seq (.run [.o 2 (.mv (.k (.int .i64 1)))]) .ret) (.seq (.run [.m 18 aU, .o 19 (.bin .geq cK (.k (.int .i64 5))), .m 20 c6, .g 21 20 true (.mv aU), .g 22 20 true (.bin .leq dr (.k (.int .i64 17))), .o 23 (.pick dk dw (.k (.bool false))), .m 17 dz]) ajW)
abbrev ajY:AC:= .cond bI (.seq (.run [.o 2 (.mv (.k (.int .i64 0)))]) .ret) (.seq (.run [.m 11 aU, .o 12 (.bin .eql b8 (.k (.int .i64 3))), .m 13 cp, .g 14 13 false (.mv aU), .g 15 13 false (.bin .eql bU (.k (.int .i64 4))), .o 16 (.pick bZ (.k (.bool true)) cv), .m 10 cm]) ajX)
abbrev ajZ:AC:= .block 0 (.seq (.run [.m 4 aU, .o 5 (.bin .eql cU (.k (.int .i64 1))), .m 6 bo, .g 7 6 false (.mv aU), .g 8 6 false (.bin .eql bO (.k (.int .i64 2))), .o 9 (.pick bP (.k (.bool true)) cf), .m 3 cA]) ajY)
abbrev aj0:AC:= .seq (.run [(.o 2 (.mv (.k (.int .i64 (-1)))))]) .ret
abbrev aj1:AC:= .seq (.run [.o 2 (.mv (.k (.int .i64 0)))]) (.seq ajZ aj0)
abbrev aj2:AC:= .par [.m 7 bn, .o 8 (.bin .lss bO (.k (.int .i64 1))), .m 9 cf, .g 10 9 false (.av cH 3), .g 11 9 false (.load bW false 1), .g 12 9 false (.len b8), .g 13 9 false (.av cH 0), .g 14 9 false (.load bZ false 1), .d 15 9 false vw [bU], .g 16 9 false (.bin .neq cp cv), .o 17 (.pick cA (.k (.bool true)) cm)] [(0,0),(1,0),(2,0),(6,0),(7,0),(8,0),(3,0),(4,1),(5,0),(9,0),(10,0)]
abbrev aj3:AC:= .cond cO (.seq (.run [.o 4 (.mv (.k (.bool false)))]) .ret) .skip
abbrev aj4:AC:= .cond eY (.seq (.run [.o 32 (.av cH 1), .o 33 (.load eZ false 1), .o 34 (.bin .eql eV (.k (.int .i64 0))), .m 35 fh, .g 36 35 true (.av cH 2), .g 37 35 true (.load fm false 1), .d 38 35 true mE [fy], .o 39 (.pick fb gC (.k (.bool false))), .m 4 gj]) .ret) .skip
abbrev aj5:AC:= .cond dk (.seq (.run [.o 22 (.av cH 1), .o 23 (.load dw false 1), .o 24 (.bin .geq dz (.k (.int .i64 0))), .m 25 da, .g 26 25 true (.av cH 2), .g 27 25 true (.load eo false 1), .g 28 25 true (.bin .eql dP (.k (.str []))), .o 29 (.pick c7 eK (.k (.bool false))), .m 4 eG]) .ret) (.seq (.run [.o 31 (.bin .eql c6 (.k (.int .i64 2))), .m 30 eP]) aj4)
abbrev aj6:AC:= .block 0 (.seq (.run [.o 21 (.bin .eql c6 (.k (.int .i64 1))), .m 20 dr]) aj5)
abbrev aj7:AC:= .cond jT (.seq (.run [.o 4 (.mv (.k (.bool false)))]) .ret) .skip
abbrev aj8:AC:= .cond kU (.seq (.run [.o 4 (.mv (.k (.bool false)))]) .ret) .skip
abbrev aj9:AC:= .seq (.run [.o 53 (.ca jq jI 4), .o 54 (.load kz true 4), .o 6 (.alloc [(.int .i64 0),(.int .i64 0),(.str []),(.slice .full 0 [])]), .op none none (.store bP kT 4)]) (.seq (.run [.o 55 (.load bP true 4), .m 56 bn, .o 57 (.bin .sub mI (.k (.int .i64 1))), .c 58 oP [lA,ni], .o 59 (.un .not mJ)]) aj8)
abbrev aka:AC:= .seq (.cond jU .skip (.exit 1)) (.seq (.block 2 aj9) (.run [.o 60 (.bin .add jI (.k (.int .i64 1))), .m 51 oA]))
abbrev akb:AC:= .seq (.run [.o 48 (.av cH 3), .o 49 (.load iV false 1), .o 50 (.len jq), .o 51 (.mv (.k (.int .i64 0)))]) (.block 1 (.loop (.seq (.run [.o 52 (.bin .lss jI ky)]) aka)))
abbrev akc:AC:= .seq akb (.seq (.run [.o 4 (.mv (.k (.bool true)))]) .ret)
abbrev akd:AC:= .seq (.seq (.run [.o 40 (.av cH 1), .o 41 (.load gU false 1), .o 42 (.bin .neq gI (.k (.int .i64 0))), .m 43 iz, .g 44 43 false (.av cH 2), .g 45 43 false (.load jo false 1), .g 46 43 false (.bin .neq jG (.k (.str []))), .o 47 (.pick iI (.k (.bool true)) jH)]) aj7) akc
abbrev ake:AC:= .seq (.run [.o 2 (.box aU), .o 4 (.mv (.k (.bool false)))]) (.seq (.seq aj2 aj3) (.seq (.seq (.run [.o 18 (.av cH 0), .o 19 (.load cK false 1)]) aj6) akd))
abbrev akf:AC:= .cond cf (.seq (.run [.o 2 (.mv (.k (.bool true)))]) .ret) .skip
abbrev akg:AC:= .cond b8 (.seq (.run [.o 2 (.mv (.k (.bool false)))]) .ret) .skip
abbrev akh:AC:= .seq (.run [.o 21 (.bin .eql bZ (.k (.str [114,101,97,100]))), .m 14 dr]) (.cond bU .skip (.run [.o 22 (.bin .eql bZ (.k (.str [112,114,105,110,116]))), .m 14 dw]))
abbrev aki:AC:= .cond bU .skip (.seq (.run [.o 20 (.bin .eql bZ (.k (.str [103,111,116,111]))), .m 14 dk]) (.cond bU .skip akh))
abbrev akj:AC:= .cond bU .skip (.seq (.run [.o 19 (.bin .eql bZ (.k (.str [114,101,116,117,114,110]))), .m 14 c6]) aki)
abbrev akk:AC:= .cond bU .skip (.seq (.run [.o 18 (.bin .eql bZ (.k (.str [99,111,110,116,105,110,117,101]))), .m 14 cK]) akj)
abbrev akl:AC:= .cond bU .skip (.seq (.run [.o 17 (.bin .eql bZ (.k (.str [98,114,101,97,107]))), .m 14 cO]) akk)
abbrev akm:AC:= .cond bU .skip (.seq (.run [.o 16 (.bin .eql bZ (.k (.str [119,104,105,108,101]))), .m 14 cm]) akl)
abbrev akn:AC:= .cond bU (.seq (.run [.o 2 (.mv (.k (.bool true)))]) .ret) .skip
abbrev ako:AC:= .seq (.seq (.run [.o 15 (.bin .eql bZ (.k (.str [105,102]))), .m 14 cv]) akm) akn
abbrev akp:AC:= .seq (.seq (.run [.o 12 (.av bI 1), .o 13 (.load cp false 1)]) (.block 0 ako)) (.seq (.run [.o 2 (.mv (.k (.bool false)))]) .ret)
abbrev akq:AC:= .seq (.seq (.run [.o 9 (.av bI 0), .o 10 (.load cA false 1), .o 11 (.bin .neq bW (.k (.int .i64 3)))]) akg) akp
abbrev akr:AC:= .seq (.seq (.run [.o 6 (.av bI 0), .o 7 (.load bP false 1), .o 8 (.bin .eql bO (.k (.int .i64 1)))]) akf) akq
abbrev aks:AC:= .seq (.run [.o 2 (.mv (.k (.bool false)))]) (.seq (.run [.m 4 aU, .c 5 dj [cU], .o 3 (.alloc [(.int .i64 0),(.str []),(.int .i64 0),(.int .i64 0)]), .op none none (.store bI bo 4)]) akr)
abbrev akt:AC:= .cond cf (.seq (.run [.m 9 aU, .m 10 bI,(.c 11 kK [cA,(.k (.str [])),bW]), .op none none (.store cH b8 13)]) .ret) .skip
abbrev aku:AC:= .par [.m 14 aU, .c 15 cr [bU], .m 16 cv, .g 17 16 true (.mv aU), .d 18 16 true dj [cO], .g 19 16 true (.rl cK 0 false 1), .g 20 16 true (.bin .eql c6 (.k (.int .i64 1))), .o 21 (.pick cm dk (.k (.bool false))), .m 22 dr, .g 23 22 true (.mv aU), .g 24 22 true (.db dz), .g 25 22 true (.av da 0), .g 26 22 true (.load c7 false 1), .g 27 22 true (.mv aU), .g 28 22 true (.db dP), .g 29 22 true (.av eK 1), .g 30 22 true (.load eG false 1), .g 31 22 true (.bin .add eY (.k (.int .i64 1))), .g 32 22 true (.ca eo eP 4), .g 33 22 true (.av eZ 0), .g 34 22 true (.load eV false 1), .g 35 22 true (.bin .eql fh (.k (.int .i64 4))), .o 36 (.pick dw fb (.k (.bool false))), .m 37 fm, .g 38 37 true (.mv aU), .g 39 37 true (.db gC), .g 40 37 true (.av gj 0), .g 41 37 true (.load gU false 1), .g 42 37 true (.mv aU), .g 43 37 true (.db iz), .g 44 37 true (.av iI 1), .g 45 37 true (.load jo false 1), .g 46 37 true (.bin .add jG (.k (.int .i64 1))), .g 47 37 true (.ca gI jH 4), .g 48 37 true (.av jT 1), .g 49 37 true (.load iV false 1), .g 50 37 true (.bin .eql jq (.k (.str [40]))), .o 51 (.pick fy ky (.k (.bool false)))] [(0,0),(1,0),(2,0),(3,0),(4,0),(5,0),(6,0),(7,0),(8,0),(9,0),(10,0),(11,0),(12,0),(13,0),(14,0),(15,0),(16,0),(17,0),(18,0),(19,0),(20,0),(21,0),(22,0),(23,0),(24,0),(25,0),(26,0),(27,0),(28,0),(29,0),(30,0),(31,0),(32,0),(33,0),(34,0),(35,0),(36,0),(37,0)]
abbrev akv:AC:= .seq aku (.cond jI (.seq (.run [.m 52 aU, .m 53 bI, .m 54 aU, .c 55 dY [kT,(.k (.bool true))], .c 56 kK [jU,kz,lA], .op none none (.store cH mI 13)]) .ret) .skip)
abbrev akw:AC:= .seq (.run [.m 57 bI, .m 58 aU, .c 59 fx [mJ],(.o 60 (.build [(.int .i64 0),(.int .i64 0),(.slice .full 0 []),(.str []),(.str []),(.int .i64 0),(.int .i64 0),(.str []),(.slice .full 0 []),(.bool false),(.slice .full 0 []),(.slice .full 0 []),(.slice .full 0 [])] [(1,(1,(.k (.int .i64 1)))),(3,(1,ni)),(5,(4,kU))])), .o 4 (.alloc [(.int .i64 0),(.int .i64 0),(.slice .full 0 []),(.str []),(.str []),(.int .i64 0),(.int .i64 0),(.str []),(.slice .full 0 []),(.bool false),(.slice .full 0 []),(.slice .full 0 []),(.slice .full 0 [])]), .op none none (.store cU oA 13)]) (.seq (.run [.m 61 aU,(.c 62 cM [pg,(.k (.str [59]))])]) (.seq (.run [.o 63 (.load cU true 13), .op none none (.store cH qf 13)]) .ret))
abbrev akx:AC:= .seq (.seq (.run [.m 7 aU,(.c 8 eW [bO,(.k (.str [40]))])]) akt) (.seq (.run [.m 12 aU,(.c 13 cM [cp,(.k (.str [61]))])]) (.seq akv akw))
abbrev aky:AC:= .seq (.run [.o 2 (.alloc [(.int .i64 0),(.int .i64 0),(.slice .full 0 []),(.str []),(.str []),(.int .i64 0),(.int .i64 0),(.str []),(.slice .full 0 []),(.bool false),(.slice .full 0 []),(.slice .full 0 []),(.slice .full 0 [])])]) (.seq (.run [.m 5 aU, .c 6 dY [bo,(.k (.bool true))], .m 3 bP]) akx)
abbrev akz:AC:= .seq (.seq (.run [.m 13 aU,(.c 14 di [bZ,(.k (.str [101,108,115,101]))])]) (.cond bU (.run [.m 15 aU, .m 16 bn, .c 17 iy [cv,cm], .o 18 (.av bo 12), .op none none (.store cK cO 1)]) .skip)) (.seq (.run [.o 19 (.load bo true 13), .op none none (.store cU c6 13)]) .ret)
abbrev akA:AC:= .seq (.run [.m 6 aU, .c 7 kJ [bP],(.o 8 (.build [(.int .i64 0),(.int .i64 0),(.slice .full 0 []),(.str []),(.str []),(.int .i64 0),(.int .i64 0),(.str []),(.slice .full 0 []),(.bool false),(.slice .full 0 []),(.slice .full 0 []),(.slice .full 0 [])] [(1,(1,(.k (.int .i64 5)))),(5,(4,bO))])), .o 5 (.alloc [(.int .i64 0),(.int .i64 0),(.slice .full 0 []),(.str []),(.str []),(.int .i64 0),(.int .i64 0),(.str []),(.slice .full 0 []),(.bool false),(.slice .full 0 []),(.slice .full 0 []),(.slice .full 0 [])]), .op none none (.store bo cf 13)]) (.seq (.run [.m 9 aU, .m 10 bn, .c 11 iy [cA,bW], .o 12 (.av bo 11), .op none none (.store cp b8 1)]) akz)
abbrev akB:AC:= .seq (.run [.o 4 (.alloc [(.int .i64 0),(.int .i64 0),(.slice .full 0 []),(.str []),(.str []),(.int .i64 0),(.int .i64 0),(.str []),(.slice .full 0 []),(.bool false),(.slice .full 0 []),(.slice .full 0 []),(.slice .full 0 [])])]) akA
abbrev akC:AC:= .seq (.run [.m 6 aU, .c 7 fx [bP], .o 3 (.alloc [(.int .i64 0),(.int .i64 0),(.str []),(.slice .full 0 [])]), .op none none (.store bI bO 4)]) (.seq (.run [.m 8 aU,(.c 9 cM [cf,(.k (.str [41]))])]) (.seq (.run [.o 10 (.load bI true 4), .op none none (.store cH bW 4)]) .ret))
abbrev akD:AC:= .seq (.run [.o 2 (.alloc [(.int .i64 0),(.int .i64 0),(.str []),(.slice .full 0 [])])]) (.seq (.run [.m 4 aU,(.c 5 cM [cU,(.k (.str [40]))])]) akC)
abbrev akE:AC:= .seq (.run [.m 7 aU,(.c 8 cM [bO,(.k (.str [123]))])]) (.seq (.run [.m 10 aU, .m 11 bn, .o 12 (.bin .add b8 (.k (.int .i64 1))), .c 13 fN [bW,cp,(.k (.bool false))], .m 9 bZ, .o 14 (.ext cA 0), .o 15 (.ext cA 1), .m 5 bU, .m 6 cv]) (.seq (.run [.m 16 bo, .m 4 cm]) .ret))
abbrev akF:AC:= .seq (.run [.o 4 (.mv (.k (.slice .full 0 [])))]) akE
abbrev akG:AC:= .seq (.run [.m 16 aU,(.c 17 eW [cm,(.k (.str [59]))]), .o 18 (.un .not cO)]) (.cond cK (.run [.m 19 aU, .c 20 fx [c6], .o 21 (.av bo 9), .op none none (.store dr (.k (.bool true)) 1), .o 22 (.av bo 5), .op none none (.store dw dk 4)]) .skip)
abbrev akH:AC:= .seq (.run [.o 36 (.bin .eql bP (.k (.str [112,114,105,110,116]))), .m 35 fm]) (.cond fb (.run [.m 37 aU, .c 38 fx [fy], .o 39 (.av bo 1), .op none none (.store gj (.k (.int .i64 3)) 1), .o 40 (.av bo 5), .op none none (.store gU gC 4)]) .skip)
abbrev akI:AC:= .seq (.run [.o 30 (.bin .eql bP (.k (.str [114,101,97,100]))), .m 29 eY]) (.cond eG (.run [.m 31 aU, .c 32 dY [eP,(.k (.bool true))], .o 33 (.av bo 1), .op none none (.store eV (.k (.int .i64 2)) 1), .o 34 (.av bo 3), .op none none (.store fh eZ 1)]) akH)
abbrev akJ:AC:= .seq (.run [.o 24 (.bin .eql bP (.k (.str [103,111,116,111]))), .m 23 da]) (.cond dz (.run [.m 25 aU, .c 26 dY [c7,(.k (.bool true))], .o 27 (.av bo 1), .op none none (.store dP (.k (.int .i64 10)) 1), .o 28 (.av bo 3), .op none none (.store eK eo 1)]) akI)
abbrev akK:AC:= .cond bZ (.seq (.run [.o 15 (.av bo 1), .op none none (.store cv (.k (.int .i64 9)) 1)]) akG) akJ
abbrev akL:AC:= .cond bW (.run [.o 12 (.av bo 1), .op none none (.store cp (.k (.int .i64 8)) 1)]) (.seq (.run [.o 14 (.bin .eql bP (.k (.str [114,101,116,117,114,110]))), .m 13 bU]) akK)
abbrev akM:AC:= .cond bO (.run [.o 9 (.av bo 1), .op none none (.store cA (.k (.int .i64 7)) 1)]) (.seq (.run [.o 11 (.bin .eql bP (.k (.str [99,111,110,116,105,110,117,101]))), .m 10 b8]) akL)
abbrev akN:AC:= .block 0 (.seq (.run [.o 8 (.bin .eql bP (.k (.str [98,114,101,97,107]))), .m 7 cf]) akM)
abbrev akO:AC:= .seq (.run [.o 4 (.alloc [(.int .i64 0),(.int .i64 0),(.slice .full 0 []),(.str []),(.str []),(.int .i64 0),(.int .i64 0),(.str []),(.slice .full 0 []),(.bool false),(.slice .full 0 []),(.slice .full 0 []),(.slice .full 0 [])])]) (.seq (.run [.o 5 (.alloc [(.int .i64 0),(.int .i64 0),(.slice .full 0 []),(.str []),(.str []),(.int .i64 0),(.int .i64 0),(.str []),(.slice .full 0 []),(.bool false),(.slice .full 0 []),(.slice .full 0 []),(.slice .full 0 [])])]) (.seq (.seq (.run [.m 6 bn]) akN) (.seq (.run [.o 41 (.load bo true 13), .op none none (.store cU gI 13)]) .ret)))
abbrev akP:AC:= .cond cO (.seq (.run [.o 2 (.mv (.k (.int .i64 2)))]) .ret) .skip
abbrev akQ:AC:= .cond bW (.seq (.run [.o 2 (.mv (.k (.int .i64 1)))]) .ret) (.seq (.run [.m 18 aU, .o 19 (.bin .geq cK (.k (.int .i64 5))), .m 20 c6, .g 21 20 true (.mv aU), .g 22 20 true (.bin .leq dr (.k (.int .i64 17))), .o 23 (.pick dk dw (.k (.bool false))), .m 17 dz]) akP)
abbrev akR:AC:= .cond bI (.seq (.run [.o 2 (.mv (.k (.int .i64 0)))]) .ret) (.seq (.run [.m 11 aU, .o 12 (.bin .eql b8 (.k (.int .i64 3))), .m 13 cp, .g 14 13 false (.mv aU), .g 15 13 false (.bin .eql bU (.k (.int .i64 4))), .o 16 (.pick bZ (.k (.bool true)) cv), .m 10 cm]) akQ)
abbrev akS:AC:= .block 0 (.seq (.run [.m 4 aU, .o 5 (.bin .eql cU (.k (.int .i64 1))), .m 6 bo, .g 7 6 false (.mv aU), .g 8 6 false (.bin .eql bO (.k (.int .i64 2))), .o 9 (.pick bP (.k (.bool true)) cf), .m 3 cA]) akR)
abbrev akT:AC:= .seq (.run [(.o 2 (.mv (.k (.int .i64 (-1)))))]) .ret
abbrev akU:AC:= .seq (.run [.o 2 (.mv (.k (.int .i64 0)))]) (.seq akS akT)
abbrev akV:AC:= .par [.o 24 (.av bO 10), .o 25 (.load da false 1), .m 26 aU, .c 27 dY [eo,(.k (.bool true))],(.o 28 (.build [(.bool false),(.str []),(.int .i64 0),(.int .i64 0),(.str []),(.slice .full 0 [])] [(0,(1,(.k (.bool true)))),(1,(1,dP))])), .o 29 (.cT [(.bool false),(.str []),(.int .i64 0),(.int .i64 0),(.str []),(.slice .full 0 [])] 6 1 [(0,eK)]), .o 30 (.app 6 80 c7 eG), .o 31 (.av bO 10), .op none none (.store eP eY 1)] [(2,0),(3,0),(0,0),(1,1),(4,0),(5,0),(6,0),(7,0),(8,0)]
abbrev akW:AC:= .par [.o 32 (.av bO 10), .o 33 (.load eZ false 1), .m 34 aU, .c 35 fx [fh], .o 36 (.build [(.bool false),(.str []),(.int .i64 0),(.int .i64 0),(.str []),(.slice .full 0 [])] [(2,(4,fb))]), .o 37 (.cT [(.bool false),(.str []),(.int .i64 0),(.int .i64 0),(.str []),(.slice .full 0 [])] 6 1 [(0,fm)]), .o 38 (.app 6 80 eV fy), .o 39 (.av bO 10), .op none none (.store gj gC 1)] [(2,0),(3,0),(0,0),(1,1),(4,0),(5,0),(6,0),(7,0),(8,0)]
abbrev akX:AC:= .seq (.seq (.run [.m 22 aU,(.c 23 di [dw,(.k (.str [114,101,102]))])]) (.cond dz akV akW)) (.seq (.run [.m 40 aU,(.c 41 di [gU,(.k (.str [44]))]), .o 42 (.un .not gI)]) (.cond iz (.exit 0) .skip))
abbrev akY:AC:= .block 0 (.loop (.seq (.seq (.run [.m 20 aU, .c 21 cr [dk]]) (.cond dr .skip (.exit 0))) (.block 1 akX)))
abbrev akZ:AC:= .seq (.run [.m 43 aU,(.c 44 cM [iI,(.k (.str [41]))])]) (.seq (.run [.m 45 aU,(.c 46 cM [jG,(.k (.str [59]))])]) (.seq (.run [.o 47 (.load bO true 13), .op none none (.store bP jT 13)]) .ret))
abbrev ak0:AC:= .seq (.seq (.run [.m 13 aU, .c 14 cr [bZ], .m 15 bU, .g 16 15 true (.mv aU),(.d 17 15 true eW [cm,(.k (.str [41]))]), .g 18 15 true (.un .not cO), .o 19 (.pick cv cK (.k (.bool false)))]) (.cond c6 akY .skip)) akZ
abbrev ak1:AC:= .seq (.run [.m 8 bn, .m 9 cH,(.o 10 (.build [(.int .i64 0),(.int .i64 0),(.slice .full 0 []),(.str []),(.str []),(.int .i64 0),(.int .i64 0),(.str []),(.slice .full 0 []),(.bool false),(.slice .full 0 []),(.slice .full 0 []),(.slice .full 0 [])] [(1,(1,(.k (.int .i64 4)))),(3,(1,cf)),(4,(1,cA))])), .o 7 (.alloc [(.int .i64 0),(.int .i64 0),(.slice .full 0 []),(.str []),(.str []),(.int .i64 0),(.int .i64 0),(.str []),(.slice .full 0 []),(.bool false),(.slice .full 0 []),(.slice .full 0 []),(.slice .full 0 [])]), .op none none (.store bO bW 13)]) (.seq (.run [.m 11 aU,(.c 12 cM [b8,(.k (.str [40]))])]) ak0)
abbrev ak2:AC:= .seq (.run [.o 6 (.alloc [(.int .i64 0),(.int .i64 0),(.slice .full 0 []),(.str []),(.str []),(.int .i64 0),(.int .i64 0),(.str []),(.slice .full 0 []),(.bool false),(.slice .full 0 []),(.slice .full 0 []),(.slice .full 0 [])])]) ak1
abbrev ak3:AC:= .cond cm (.run [.m 17 aU, .m 18 bI,(.o 19 (.build [(.int .i64 0),(.int .i64 0)] [(0,(1,(.k (.int .i64 4)))),(1,(1,cK))])), .o 20 (.db cO), .o 21 (.av dk 2), .op none none (.store dr c6 2)]) .skip
abbrev ak4:AC:= .seq (.seq (.run [.m 10 aU, .c 11 cr [bW], .m 12 b8, .g 13 12 true (.load cU true 4), .d 14 12 true kW [bZ], .g 15 12 true (.bin .gtr bU (.k (.int .i64 20))), .o 16 (.pick cp cv (.k (.bool false)))]) ak3) (.seq (.run [.o 22 (.load cU true 4), .op none none (.store cH dw 4)]) .ret)
abbrev ak5:AC:= .seq (.run [.o 2 (.alloc [(.int .i64 0),(.int .i64 0),(.str []),(.slice .full 0 [])])]) (.seq (.run [.m 5 aU, .c 6 dj [bo], .o 7 (.rl bP 3 false 1), .m 3 bO]) (.seq (.run [.m 8 aU, .c 9 ig [cf,(.k (.int .i64 1))], .o 4 (.alloc [(.int .i64 0),(.int .i64 0),(.str []),(.slice .full 0 [])]), .op none none (.store cU cA 4)]) ak4))
abbrev ak6:AC:= .seq (.run [.m 27 aU, .o 28 (.db dP), .o 29 (.av eK 1), .o 30 (.load eG false 1), .o 31 (.bin .add eY (.k (.int .i64 1))), .o 32 (.db dP), .o 33 (.av eZ 1), .op none none (.store eV eP 1)]) (.seq (.run [.m 34 aU, .m 35 bO, .o 36 (.bin .add fb (.k (.int .i64 1))), .c 37 ig [fh,fm], .o 8 (.alloc [(.int .i64 0),(.int .i64 0),(.str []),(.slice .full 0 [])]), .op none none (.store cf fy 4)]) (.run [.m 38 bP, .o 39 (.load bo true 4), .o 40 (.load cf true 4), .o 41 (.cT [(.int .i64 0),(.int .i64 0),(.str []),(.slice .full 0 [])] 4 2 [(0,gj),(1,gU)]), .o 42 (.build [(.int .i64 0),(.int .i64 0),(.str []),(.slice .full 0 [])] [(0,(1,gC)),(3,(1,gI))]), .op none none (.store bo iz 4)]))
abbrev ak7:AC:= .seq (.seq (.run [.m 19 bO, .m 20 bn, .o 21 (.bin .lss c6 dk), .m 22 dr, .g 23 22 false (.mv bP), .g 24 22 false (.bin .eql dz (.k (.int .i64 0))), .o 25 (.pick dw (.k (.bool true)) da)]) (.cond c7 (.seq (.run [.o 26 (.load bo true 4), .op none none (.store cU eo 4)]) .ret) .skip)) ak6
abbrev ak8:AC:= .loop (.seq (.seq (.run [.m 11 aU, .c 12 cr [b8]]) (.cond cp .skip (.exit 0))) (.block 1 (.seq (.run [.m 14 aU, .c 15 dj [bU], .c 16 sO [cv], .m 13 cm, .o 17 (.ext bZ 0), .o 18 (.ext bZ 1), .m 6 cO, .m 7 cK]) ak7)))
abbrev ak9:AC:= .seq (.run [.o 4 (.alloc [(.int .i64 0),(.int .i64 0),(.str []),(.slice .full 0 [])])]) (.seq (.run [.m 9 aU, .c 10 jn [cA], .o 5 (.alloc [(.int .i64 0),(.int .i64 0),(.str []),(.slice .full 0 [])]), .op none none (.store bo bW 4)]) (.seq (.block 0 ak8) (.seq (.run [.o 43 (.load bo true 4), .op none none (.store cU iI 4)]) .ret)))
abbrev ala:AC:= .seq (.block 1 (.seq (.run [.o 11 (.ca bO cA 4), .o 12 (.load b8 true 4), .o 5 (.alloc [(.int .i64 0),(.int .i64 0),(.str []),(.slice .full 0 [])]), .op none none (.store bo cp 4)]) (.run [.m 13 bI, .o 14 (.load bo true 4), .c 15 kW [bU], .o 16 (.mm true bZ cv), .m 3 cm]))) (.run [.o 17 (.bin .add cA (.k (.int .i64 1))), .m 9 cO])
abbrev alb:AC:= .block 0 (.loop (.seq (.run [.o 10 (.bin .lss cA cf)]) (.seq (.cond bW .skip (.exit 0)) ala)))
abbrev alc:AC:= .seq (.seq (.run [.o 6 (.av bn 3), .o 7 (.load bP false 1), .o 8 (.len bO), .o 9 (.mv (.k (.int .i64 0)))]) alb) (.seq (.run [.m 18 bI, .o 19 (.bin .add cK (.k (.int .i64 1))), .m 2 c6]) .ret)
abbrev ald:AC:= .seq (.run [.o 1 (.box aU), .o 2 (.mv (.k (.int .i64 0)))]) (.seq (.run [.o 3 (.mv (.k (.int .i64 0)))]) alc)
abbrev ale:AC:= .seq (.run [.m 7 aU, .c 8 cr [bO], .o 9 (.un .not cf)]) (.cond cA (.seq (.run [.o 10 (.build [(.int .i64 0),(.int .i64 0),(.str []),(.slice .full 0 [])] []), .op none none (.store cH bW 4)]) .ret) .skip)
abbrev alf:AC:= .seq (.run [.o 22 (.av bI 2), .o 23 (.load dw false 1),(.o 24 (.build [(.int .i64 0),(.int .i64 0),(.str []),(.slice .full 0 [])] [(0,(1,(.k (.int .i64 1)))),(1,(1,dz))])), .op none none (.store cH da 4)]) .ret
abbrev alg:AC:= .seq (.run [.o 36 (.av bI 1), .o 37 (.load fm false 1),(.o 38 (.build [(.int .i64 0),(.int .i64 0),(.str []),(.slice .full 0 [])] [(0,(1,(.k (.int .i64 2)))),(2,(1,fy))])), .op none none (.store cH gC 4)]) .ret
abbrev alh:AC:= .seq (.run [.m 42 aU, .c 43 ig [iz,(.k (.int .i64 1))], .o 4 (.alloc [(.int .i64 0),(.int .i64 0),(.str []),(.slice .full 0 [])]), .op none none (.store cU iI 4)]) (.seq (.run [.m 44 aU,(.c 45 cM [jo,(.k (.str [41]))])]) (.seq (.run [.o 46 (.load cU true 4), .op none none (.store cH jH 4)]) .ret))
abbrev ali:AC:= .seq (.run [.m 50 aU, .c 51 jn [ky], .o 52 (.cT [(.int .i64 0),(.int .i64 0),(.str []),(.slice .full 0 [])] 4 1 [(0,jI)]),(.o 53 (.build [(.int .i64 0),(.int .i64 0),(.str []),(.slice .full 0 [])] [(0,(1,(.k (.int .i64 3)))),(3,(1,jU))])), .op none none (.store cH kz 4)]) .ret
abbrev alj:AC:= .seq (.run [.m 57 aU, .c 58 jn [ni], .o 59 (.cT [(.int .i64 0),(.int .i64 0),(.str []),(.slice .full 0 [])] 4 1 [(0,mJ)]),(.o 60 (.build [(.int .i64 0),(.int .i64 0),(.str []),(.slice .full 0 [])] [(0,(1,(.k (.int .i64 4)))),(3,(1,kU))])), .op none none (.store cH oA 4)]) .ret
abbrev alk:AC:= .cond jT ali (.seq (.run [.m 55 aU,(.c 56 di [lA,(.k (.str [33]))]), .m 54 mI]) (.cond kT alj .skip))
abbrev alm:AC:= .cond gj alh (.seq (.run [.m 48 aU,(.c 49 di [iV,(.k (.str [45]))]), .m 47 jq]) alk)
abbrev aln:AC:= .cond c7 (.seq (.run [.m 29 aU, .o 30 (.db eG), .o 31 (.av eY 1), .o 32 (.load eP false 1), .o 33 (.bin .add eZ (.k (.int .i64 1))), .o 34 (.db eG), .o 35 (.av fh 1), .op none none (.store fb eV 1)]) alg) (.seq (.run [.m 40 aU,(.c 41 di [gU,(.k (.str [40]))]), .m 39 gI]) alm)
abbrev alo:AC:= .cond b8 (.seq (.run [.m 15 aU, .o 16 (.db cv), .o 17 (.av cm 1), .o 18 (.load cO false 1), .o 19 (.bin .add cK (.k (.int .i64 1))), .o 20 (.db cv), .o 21 (.av dk 1), .op none none (.store dr c6 1)]) alf) (.seq (.run [.o 26 (.av bI 0), .o 27 (.load eo false 1), .o 28 (.bin .eql dP (.k (.int .i64 1))), .m 25 eK]) aln)
abbrev alp:AC:= .block 0 (.seq (.run [.o 12 (.av bI 0), .o 13 (.load cp false 1), .o 14 (.bin .eql bZ (.k (.int .i64 2))), .m 11 bU]) alo)
abbrev alq:AC:= .seq alp (.seq (.run [.m 61 aU, .c 62 ew [pg,(.k (.int .i64 3))]]) (.seq (.run [.o 63 (.build [(.int .i64 0),(.int .i64 0),(.str []),(.slice .full 0 [])] []), .op none none (.store cH qf 4)]) .ret))
abbrev alr:AC:= .seq (.run [.o 2 (.alloc [(.int .i64 0),(.int .i64 0),(.str []),(.slice .full 0 [])])]) (.seq (.run [.m 5 aU, .c 6 dj [bo], .o 3 (.alloc [(.int .i64 0),(.str []),(.int .i64 0),(.int .i64 0)]), .op none none (.store bI bP 4)]) (.seq ale alq))
abbrev als:AC:= .cond bP (.seq (.run [.o 2 (.mv (.k (.int .i64 0))), .o 3 (.mv (.k (.int .i64 0)))]) .ret) .skip
abbrev alu:AC:= .cond eV (.seq (.run [.o 2 (.mv (.k (.int .i64 7))), .o 3 (.mv (.k (.int .i64 6)))]) .ret) .skip
abbrev alv:AC:= .cond eP (.seq (.run [.o 2 (.mv (.k (.int .i64 6))), .o 3 (.mv (.k (.int .i64 6)))]) .ret) (.seq (.run [.o 34 (.bin .eql cf (.k (.str [37]))), .m 33 fh]) alu)
abbrev alw:AC:= .cond eG (.seq (.run [.o 2 (.mv (.k (.int .i64 5))), .o 3 (.mv (.k (.int .i64 6)))]) .ret) (.seq (.run [.o 32 (.bin .eql cf (.k (.str [47]))), .m 31 eZ]) alv)
abbrev alx:AC:= .cond dP (.seq (.run [.o 2 (.mv (.k (.int .i64 9))), .o 3 (.mv (.k (.int .i64 5)))]) .ret) (.seq (.run [.o 30 (.bin .eql cf (.k (.str [42]))), .m 29 eY]) alw)
abbrev aly:AC:= .cond c7 (.seq (.run [.o 2 (.mv (.k (.int .i64 8))), .o 3 (.mv (.k (.int .i64 5)))]) .ret) (.seq (.run [.o 28 (.bin .eql cf (.k (.str [45]))), .m 27 eK]) alx)
abbrev alz:AC:= .cond dz (.seq (.run [.o 2 (.mv (.k (.int .i64 13))), .o 3 (.mv (.k (.int .i64 4)))]) .ret) (.seq (.run [.o 26 (.bin .eql cf (.k (.str [43]))), .m 25 eo]) aly)
abbrev alA:AC:= .cond dr (.seq (.run [.o 2 (.mv (.k (.int .i64 12))), .o 3 (.mv (.k (.int .i64 4)))]) .ret) (.seq (.run [.o 24 (.bin .eql cf (.k (.str [62,61]))), .m 23 da]) alz)
abbrev alB:AC:= .cond c6 (.seq (.run [.o 2 (.mv (.k (.int .i64 11))), .o 3 (.mv (.k (.int .i64 4)))]) .ret) (.seq (.run [.o 22 (.bin .eql cf (.k (.str [62]))), .m 21 dw]) alA)
abbrev alC:AC:= .cond cO (.seq (.run [.o 2 (.mv (.k (.int .i64 10))), .o 3 (.mv (.k (.int .i64 4)))]) .ret) (.seq (.run [.o 20 (.bin .eql cf (.k (.str [60,61]))), .m 19 dk]) alB)
abbrev alD:AC:= .cond cv (.seq (.run [.o 2 (.mv (.k (.int .i64 15))), .o 3 (.mv (.k (.int .i64 3)))]) .ret) (.seq (.run [.o 18 (.bin .eql cf (.k (.str [60]))), .m 17 cK]) alC)
abbrev alE:AC:= .cond bZ (.seq (.run [.o 2 (.mv (.k (.int .i64 14))), .o 3 (.mv (.k (.int .i64 3)))]) .ret) (.seq (.run [.o 16 (.bin .eql cf (.k (.str [33,61]))), .m 15 cm]) alD)
abbrev alG:AC:= .cond b8 (.seq (.run [.o 2 (.mv (.k (.int .i64 16))), .o 3 (.mv (.k (.int .i64 2)))]) .ret) (.seq (.run [.o 14 (.bin .eql cf (.k (.str [61,61]))), .m 13 bU]) alE)
abbrev alH:AC:= .cond cA (.seq (.run [.o 2 (.mv (.k (.int .i64 17))), .o 3 (.mv (.k (.int .i64 1)))]) .ret) (.seq (.run [.o 12 (.bin .eql cf (.k (.str [38,38]))), .m 11 cp]) alG)
abbrev alI:AC:= .block 0 (.seq (.run [.o 10 (.bin .eql cf (.k (.str [124,124]))), .m 9 bW]) alH)
abbrev alJ:AC:= .seq (.seq (.run [.o 7 (.av bn 1), .o 8 (.load bO false 1)]) alI) (.seq (.run [.o 2 (.mv (.k (.int .i64 0))), .o 3 (.mv (.k (.int .i64 0)))]) .ret)
abbrev alK:AC:= .seq (.seq (.run [.o 4 (.av bn 0), .o 5 (.load cU false 1), .o 6 (.bin .neq bo (.k (.int .i64 4)))]) als) alJ
abbrev alL:AC:= .seq (.run [.o 1 (.box aU), .o 2 (.mv (.k (.int .i64 0))), .o 3 (.mv (.k (.int .i64 0)))]) alK
end Go.Abs

/-! Have5 -/

namespace Go.Abs
open Go.Proofs
theorem wa:Has Tryz.prog nh 71 [(4,(some (true,13)))] ajG:=⟨Tryz.f205,by kernel_rfl,by kernel_rfl⟩
theorem xR:Has Tryz.prog oN 36 [(4,none)] ajM:=⟨Tryz.f206,by kernel_rfl,by kernel_rfl⟩
theorem EX:Has Tryz.prog oO 60 [(2,none)] ajT:=⟨Tryz.f207,by kernel_rfl,by kernel_rfl⟩
theorem De:Has Tryz.prog tA 2 [(0,none)] ajV:=⟨Tryz.f209,by kernel_rfl,by kernel_rfl⟩
theorem Df:Has Tryz.prog tB 24 [(2,none)] aj1:=⟨Tryz.f210,by kernel_rfl,by kernel_rfl⟩
theorem xS:Has Tryz.prog oP 61 [(4,none)] ake:=⟨Tryz.f219,by kernel_rfl,by kernel_rfl⟩
theorem uc:Has Tryz.prog l7 23 [(2,none)] aks:=⟨Tryz.f226,by kernel_rfl,by kernel_rfl⟩
theorem vz:Has Tryz.prog mF 64 [(2,(some (true,13)))] aky:=⟨Tryz.f227,by kernel_rfl,by kernel_rfl⟩
theorem ud:Has Tryz.prog l8 20 [(4,(some (true,13)))] akB:=⟨Tryz.f228,by kernel_rfl,by kernel_rfl⟩
theorem wb:Has Tryz.prog kJ 11 [(2,(some (true,4)))] akD:=⟨Tryz.f229,by kernel_rfl,by kernel_rfl⟩
theorem vA:Has Tryz.prog iy 17 [(4,none)] akF:=⟨Tryz.f230,by kernel_rfl,by kernel_rfl⟩
theorem vB:Has Tryz.prog mH 42 [(4,(some (true,13)))] akO:=⟨Tryz.f231,by kernel_rfl,by kernel_rfl⟩
theorem EY:Has Tryz.prog vw 24 [(2,none)] akU:=⟨Tryz.f237,by kernel_rfl,by kernel_rfl⟩
theorem wc:Has Tryz.prog kK 48 [(6,(some (true,13)))] ak2:=⟨Tryz.f239,by kernel_rfl,by kernel_rfl⟩
theorem vC:Has Tryz.prog fx 23 [(2,(some (true,4)))] ak5:=⟨Tryz.f240,by kernel_rfl,by kernel_rfl⟩
theorem xc:Has Tryz.prog ig 44 [(4,(some (true,4)))] ak9:=⟨Tryz.f242,by kernel_rfl,by kernel_rfl⟩
theorem BK:Has Tryz.prog kW 20 [(2,none)] ald:=⟨Tryz.f243,by kernel_rfl,by kernel_rfl⟩
theorem xd:Has Tryz.prog jn 64 [(2,(some (true,4)))] alr:=⟨Tryz.f244,by kernel_rfl,by kernel_rfl⟩
theorem GC:Has Tryz.prog sO 35 [(2,none),(3,none)] alL:=⟨Tryz.f245,by kernel_rfl,by kernel_rfl⟩
end Go.Abs

/-! Have3 -/

namespace Go.Abs
open Go.Proofs
theorem Dg:Has Tryz.prog tu 37 [(6,none)] ago:=⟨Tryz.f120,by kernel_rfl,by kernel_rfl⟩
theorem we:Has Tryz.prog tv 28 [(4,none)] agv:=⟨Tryz.f121,by kernel_rfl,by kernel_rfl⟩
theorem zL:Has Tryz.prog qa 38 [(6,none),(7,none)] agC:=⟨Tryz.f122,by kernel_rfl,by kernel_rfl⟩
theorem uI:Has Tryz.prog sb 15 [(4,none)] agD:=⟨Tryz.f123,by kernel_rfl,by kernel_rfl⟩
theorem EZ:Has Tryz.prog vt 40 [(4,none)] agJ:=⟨Tryz.f124,by kernel_rfl,by kernel_rfl⟩
theorem x5:Has Tryz.prog lR 12 [(4,none)] agK:=⟨Tryz.f125,by kernel_rfl,by kernel_rfl⟩
theorem E0:Has Tryz.prog oM 9 [(2,none)] agL:=⟨Tryz.f128,by kernel_rfl,by kernel_rfl⟩
theorem yV:Has Tryz.prog w7 42 [(4,none)] ahb:=⟨Tryz.f129,by kernel_rfl,by kernel_rfl⟩
theorem Dh:Has Tryz.prog tw 28 [(2,none),(3,none)] ahh:=⟨Tryz.f130,by kernel_rfl,by kernel_rfl⟩
theorem wg:Has Tryz.prog di 21 [(4,none)] ahl:=⟨Tryz.f131,by kernel_rfl,by kernel_rfl⟩
theorem vD:Has Tryz.prog ix 25 [(6,none)] ahp:=⟨Tryz.f132,by kernel_rfl,by kernel_rfl⟩
theorem wh:Has Tryz.prog cr 9 [(2,none)] ahq:=⟨Tryz.f133,by kernel_rfl,by kernel_rfl⟩
theorem x6:Has Tryz.prog eW 22 [(4,none)] ahs:=⟨Tryz.f134,by kernel_rfl,by kernel_rfl⟩
theorem xe:Has Tryz.prog ew 14 [] aht:=⟨Tryz.f135,by kernel_rfl,by kernel_rfl⟩
theorem wi:Has Tryz.prog ng 56 [(2,(some (true,5)))] ahB:=⟨Tryz.f136,by kernel_rfl,by kernel_rfl⟩
theorem wj:Has Tryz.prog dj 13 [(2,(some (true,4)))] ahD:=⟨Tryz.f137,by kernel_rfl,by kernel_rfl⟩
theorem uf:Has Tryz.prog gb 8 [(2,none)] ahF:=⟨Tryz.f138,by kernel_rfl,by kernel_rfl⟩
theorem sf:Has Tryz.prog kx 8 [(2,none)] ahH:=⟨Tryz.f139,by kernel_rfl,by kernel_rfl⟩
theorem BL:Has Tryz.prog jE 78 [(6,none),(7,none)] ahR:=⟨Tryz.f140,by kernel_rfl,by kernel_rfl⟩
theorem Di:Has Tryz.prog tx 15 [(2,none)] ahW:=⟨Tryz.f148,by kernel_rfl,by kernel_rfl⟩
theorem xT:Has Tryz.prog j8 38 [(2,none)] ah3:=⟨Tryz.f149,by kernel_rfl,by kernel_rfl⟩
theorem GD:Has Tryz.prog BB 178 [(2,none)] aif:=⟨Tryz.f150,by kernel_rfl,by kernel_rfl⟩
theorem BM:Has Tryz.prog jF 53 [(4,none)] aio:=⟨Tryz.f157,by kernel_rfl,by kernel_rfl⟩
theorem Dj:Has Tryz.prog nV 18 [(4,none)] aip:=⟨Tryz.f158,by kernel_rfl,by kernel_rfl⟩
theorem Dk:Has Tryz.prog qb 18 [(4,none)] aiq:=⟨Tryz.f159,by kernel_rfl,by kernel_rfl⟩
theorem BN:Has Tryz.prog sc 27 [(2,none)] aiw:=⟨Tryz.f160,by kernel_rfl,by kernel_rfl⟩
theorem E1:Has Tryz.prog ly 33 [(2,none)] aiD:=⟨Tryz.f161,by kernel_rfl,by kernel_rfl⟩
theorem wk:Has Tryz.prog qc 8 [(2,none)] aiG:=⟨Tryz.f162,by kernel_rfl,by kernel_rfl⟩
theorem ph:Has Tryz.prog fU 9 [(4,none)] aiH:=⟨Tryz.f163,by kernel_rfl,by kernel_rfl⟩
theorem zM:Has Tryz.prog nD 8 [(3,none)] aiI:=⟨Tryz.f164,by kernel_rfl,by kernel_rfl⟩
theorem BO:Has Tryz.prog sd 33 [(4,none)] aiM:=⟨Tryz.f165,by kernel_rfl,by kernel_rfl⟩
end Go.Abs

/-! Frz -/

namespace Go.Abs
theorem aD.yd {P:Program} {f:Nat} {args:List D} {s0 s:St} {o off n m:Nat} {row:List D} (h:aD P f args s0 (.ptr o off) s) (ho:s.az[o]? = some row) (hn:s0.az.length≤n) (hno:n≤o) (hm:s0.aC.length≤m) :
 aD P f args s0 (.dD (D.gE n m row) off) (s.cut n m):=by
 intro M0 w0 fD r0 kH alM ha
 refine(h M0 w0 fD r0 kH alM ha).mono ?_
 rintro en w ⟨M,d,v0,s',rfl,⟨rfl,rfl⟩,e,r,hv⟩
 have vN:=hv.yl
 have r5:v0 = .pointer (some ⟨M.mu o,off,none⟩):=hv.qH.1
 have Mi:o<s'.az.length:=(List.getElem?_eq_some_iff.1 ho).1
 obtain⟨vs,T,hh,ep,⟨jO,_⟩,oG⟩:=r.obj o row ho
 replace hh:=hh.cells vN
 let M':Map:= {M with G:=fun b q=>if b=M.mu o then vs[q]? else M.G b q}
 have hGo : ∀ q,M.G (M.mu o) q=none:=r.ko o Mi
 have le:Le M s' M' s':=⟨fun b q v hq=>by
  show(if b=M.mu o then vs[q]? else M.G b q)=some v
  by_cases hb:b=M.mu o
  ·subst hb;rw [hGo]at hq;cases hq
  ·rw [if_neg hb];exact hq,Nat.le_refl _,fun _ _=>rfl,Nat.le_refl _,fun t n' _ e=>⟨n',e,Nat.le_refl _,fun _=>rfl⟩⟩
 have hC : ∀ q,q<(s'.cut n m).az.length→q<s'.az.length∧q≠o:=fun q h=>by rw [pe]at h;omega
 have uJ:w0.heap.size≤M.mu o:=e.pL o (by omega) Mi
 have ec:=e.cut hn hm
 have ZL:Le M (s'.cut n m) M' (s'.cut n m):=⟨le.G,Nat.le_refl _,fun _ _=>rfl,Nat.le_refl _,fun t n' _ e=>⟨n',e,Nat.le_refl _,fun _=>rfl⟩⟩
 have rc:=r.cut n m
 have rq : ∀ b,b≠M.mu o→∀ q,M'.G b q=M.G b q:=fun b hb q=>if_neg hb
 refine⟨M',_,v0,_,rfl,⟨rfl,rfl⟩,⟨ec.le.trans ZL,ec.kept,ec.pL,ec.pM,fun b q fi=> ?_,ec.size,ec.os,ec.tape,ec.output⟩,⟨fun b q v hq=> ?_,fun q ds hq=> ?_,fun q hq ve=> ?_,rc.inj,fun t n' nw=> ?_,rc.eX,rc.fz⟩, ?_⟩
 ·by_cases hb:b=M.mu o
  ·subst hb;exact .inl uJ
  ·rw [rq b hb]at fi;exact ec.rX b q fi
 ·have qA:(if b=M.mu o then vs[q]? else M.G b q)=some v:=hq
  by_cases hb:b=M.mu o
  ·rw [if_pos hb]at qA
   rw [hb,jY hh]
   exact⟨qA,jO v (Array.mem_of_getElem? qA)⟩
  ·rw [if_neg hb]at qA
   exact r.comm b q v qA
 ·obtain⟨fj,T',h3,h4,h5,h6⟩:=rc.obj q ds hq
  exact⟨fj,T',h3,h4,h5,fun i d v e1 e2=>(h6 i d v e1 e2).mono ZL⟩
 ·obtain⟨h3,h4⟩:=hC q hq
  show M'.G (M.mu q) ve=none
  rw [rq _ (fun e=>h4 (r.inj q o h3 Mi e))]
  exact r.ko q h3 ve
 ·rcases rc.tok t n' nw with h3 | ⟨b,cap,z,fj,T',h3,h4,h5,h6,h7⟩
  ·exact .inl h3
  ·refine .inr ⟨b,cap,z,fj,T',h3,h4,h5,h6,fun ve Az=> ?_,h7.2⟩
   rw [rq _ (fun e=>r.eX t b cap z o (tf ⟨n',nw⟩) h3 Mi e.symm)]
   exact h7.1 ve Az
 ·rw [r5]
  have:=RD.dD (M:=M') (s:=s'.cut n m) (D.gE n m row) off (M.mu o) 0 (fun i d e1=> ?_) (fun i d u e1 eu=> ?_)
  ·simpa using this
  ·rw [mR,List.getElem?_map,Option.map_eq_some_iff]at e1
   obtain⟨d0,e1,rfl⟩:=e1
   have hi:=(List.getElem?_eq_some_iff.1 e1).1
   refine⟨vs[i]'(by omega), ?_⟩
   show(if M.mu o=M.mu o then vs[0+i]? else _)=_
   rw [if_pos rfl,Nat.zero_add]
   exact Array.getElem?_eq_getElem _
  ·rw [mR,List.getElem?_map,Option.map_eq_some_iff]at e1
   obtain⟨d0,e1,rfl⟩:=e1
   have I8:(if M.mu o=M.mu o then vs[0+i]? else M.G (M.mu o) (0+i))=some u:=eu
   rw [if_pos rfl,Nat.zero_add]at I8
   exact((oG i d0 u e1 I8).fg n m).mono ZL
theorem aD.goK {P:Program} {f:FuncId} {res:List (Nat×Option (Bool×Nat))} {body:AC} {args:List D} {s:St} {d:D} {s':St} {nt:Nat} (n m:Nat) (hn:s.az.length≤n) (hm:s.aC.length≤m) (h0:Has P f nt res body) (hl:Nat.ble args.length nt=true)
 (h : ∀ (B:eU) (Q:Exit→Tm→St→Prop),B.s=s→hZ n m res d s'=Q→gp P B nt body Q (nu 0 args) s):aD P f args s d s':=by
 obtain⟨fn,hf,hc⟩:=h0
 refine dT.UB (dT.intro (Q:=fun d1 s1=>Wk d1 d∧gS s1.az s'.az∧s1.aC=s'.aC) hf hc (Nat.le_of_ble_eq_true hl) fun B hB=>(gL (h B _ hB rfl)).mono fun e tm s1 hr=> ?_) fun d1 s1 ⟨h1,h2,h3⟩=>⟨d,s',h1,h2,h3,rfl,rfl⟩
 subst hB
 cases e with
 | normal=>obtain⟨l,h1,h2,h3,h4⟩:=hr;exact⟨l,h1,_,_,hn,hm,h2,h3,h4⟩
 | ret=>obtain⟨l,h1,h2,h3,h4⟩:=hr;exact⟨l,h1,_,_,hn,hm,h2,h3,h4⟩
 | exit id=>exact hr.elim
 | goto l=>exact hr.elim
 | panic ch=>exact hr.elim
 | outgrown=>exact hr.elim
end Go.Abs

/-! MirLex -/

namespace Go.Abs
def mq (c:UInt8):Bool:=decide ((c.toNat:Int)≥97) && decide ((c.toNat:Int)≤122)
def j9 (c:UInt8):Bool:=decide ((c.toNat:Int)≥48) && decide ((c.toNat:Int)≤57)
def sw (c:UInt8):Bool:=(c.toNat:Int)==32 || (c.toNat:Int)==9 || (c.toNat:Int)==10 || (c.toNat:Int)==13
def gm:ay→Nat
 | []=>0
 | c::r=>if mq c || j9 c then gm r+1 else 0
def lB:ay→Nat
 | []=>0
 | c::r=>if j9 c then lB r+1 else 0
def ij:ay→Nat
 | []=>0
 | c::r=>if(c.toNat:Int) != 10 then ij r+1 else 0
def isWord (s:ay):Bool:=
 s == [103,108,111,98,97,108] || s == [112,114,111,99] || s == [118,97,114] || s == [114,101,102] || s == [105,102] || s == [101,108,115,101] || s == [119,104,105,108,101] || s == [98,114,101,97,107] || s == [99,111,110,116,105,110,117,101] || s == [114,101,116,117,114,110] || s == [103,111,116,111] || s == [114,101,97,100] || s == [112,114,105,110,116]
def Vp (s:ay):Bool:=s == [61,61] || s == [33,61] || s == [60,61] || s == [62,61] || s == [38,38] || s == [124,124]
def Fg (c:UInt8):Bool:=
 (c.toNat:Int)==40 || (c.toNat:Int)==41 || (c.toNat:Int)==123 || (c.toNat:Int)==125 || (c.toNat:Int)==44 || (c.toNat:Int)==59 || (c.toNat:Int)==58 || (c.toNat:Int)==61 ||
 (c.toNat:Int)==33 || (c.toNat:Int)==60 || (c.toNat:Int)==62 || (c.toNat:Int)==43 || (c.toNat:Int)==45 || (c.toNat:Int)==42 || (c.toNat:Int)==47 || (c.toNat:Int)==37
def nE:ay→Nat
 | []=>0
 | [c]=>if Fg c then 1 else 0
 | c::d::_=>if Vp [c,d]then 2 else if Fg c then 1 else 0
def qj:Int→ay→Option Int
 | n,[]=>some n
 | n,c::r=>if n > (9223372036854775807 - ((c.toNat:Int) - 48)) / 10 then none else qj (n*10+((c.toNat:Int) - 48)) r
def kA (pos:Nat):ay→bA ⊕ Int
 | []=> .inr 2
 | c::r=>
  if mq c then
   let s:=(c::r).take (gm (c::r))
   if s.length > 8 then .inr 4 else .inl ⟨if isWord s then 3 else 1,s,0,pos⟩
  else if j9 c then
   let s:=(c::r).take (lB (c::r))
   if s.length > 1∧(c.toNat:Int)=48 then .inr 2 else
   match qj 0 s with
   | some n=> .inl ⟨2,s,n,pos⟩
   | none=> .inr 4
  else
   if nE (c::r)=0 then .inr 2 else .inl ⟨4,(c::r).take (nE (c::r)),0,pos⟩
def il:Nat→Nat→ay→List bA→List bA×Int×Int
 | 0,_,_,_=>([],0,0)
 | _+1,pos,[],out=>(out++ [⟨0,[],0,pos⟩],0,0)
 | n+1,pos,c::r,out=>
  if sw c then il n (pos+1) r out
  else if(c.toNat:Int)==35 then il n (pos+ij (c::r)) ((c::r).drop (ij (c::r))) out
  else match kA pos (c::r)with
   | .inr e=>([],e,pos)
   | .inl t=>if out.length=2000 then([],4,pos)else il n (pos+t.text.length) ((c::r).drop t.text.length) (out++ [t])
def fV (text:ay):List bA×Int×Int:=if text.length > 100000 then([],4,0)else il (text.length+1) 0 text []
end Go.Abs

/-! MirMay -/

namespace Go.Abs
def qk:ay→Bool
 | []=>true
 | c::r=>if !(mq c) && !(j9 c)then false else qk r
def isName:ay→Bool
 | []=>false
 | c::r=>if decide (((r.length+1:Nat):Int) > 8) || !(mq c)then false else if qk r then !(isWord (c::r))else false
def iO (op:Int):Int:=if op==1 || op==2 then 0 else if op==3 || op==4 then 1 else if decide (op≥5) && decide (op≤17)then 2 else -1
mutual
def Ex.form:Ex→Bool
 | ⟨op,n,name,kids⟩=>
  if iO op != (kids.length:Int) || (op != 1 && n != 0) || decide (n<0) || !((op==2) == !(name == [])) || (!(name == []) && !(isName name))then false else Ex.lf kids
def Ex.lf:List Ex→Bool
 | []=>true
 | x::l=>if !(Ex.form x)then false else Ex.lf l
end
mutual
def Ex.texts:Ex→Prop
 | ⟨_,_,name,kids⟩=>name.length<4611686018427387904∧Ex.wm kids
def Ex.wm:List Ex→Prop
 | []=>True
 | x::l=>x.texts∧Ex.wm l
end
theorem Ex.BQ {x:Ex} : ∀ {l:List Ex},Ex.wm l→x∈l→x.texts
 | y::l,h,m=>by
  rcases List.mem_cons.1 m with rfl | m
  ·exact h.1
  ·exact Ex.BQ h.2 m
theorem Ex.DW {op n:Int} {name:ay} {kids:List Ex} (h:Ex.texts ⟨op,n,name,kids⟩) {y:Ex} (m:y∈kids):y.texts:=Ex.BQ h.2 m
def Ex.may (x:Ex):Bool:=decide (((min x.depth 21:Nat):Int)≤20) && x.form
def Ex.none (x:Ex):Bool:=x.op==0 && x.n==0 && x.name == [] && (x.kids.length:Int)==0
def bX:List ay→Bool
 | []=>true
 | s::l=>if !(isName s)then false else bX l
def Ar.may (a:Ar):Bool:=if a.ref then isName a.name && a.x.none else a.name == [] && a.x.may
def Ar.cY:List Ar→Bool
 | []=>true
 | a::l=>if !(a.may)then false else Ar.cY l
def Sm.lC (s:Sm):Bool:=s.kind==1 || s.kind==3 || s.kind==5 || s.kind==6 || (s.kind==9 && s.has)
def Sm.hasName (s:Sm):Bool:=s.kind==1 || s.kind==2 || s.kind==10
def Sm.gV (s:Sm):Bool:=s.kind==4
def Sm.one (s:Sm):Bool:=
 if decide (s.kind<1) || decide (s.kind > 10) || !(bX s.labels) || (s.lC && !(s.x.may)) || (!(s.lC) && !(s.x.none)) || (s.has && s.kind != 9)then false
 else if(s.hasName && !(isName s.name)) || (!(s.hasName) && !(s.name == []) && !(s.gV && isName s.name))then false
 else if !(s.gV == !(s.proc == [])) || (s.gV && !(isName s.proc)) || (!(s.gV) && decide ((s.args.length:Int) > 0))then false
 else if !(Ar.cY s.args)then false
 else((s.a7.length:Int)==0 || s.kind==5 || s.kind==6) && ((s.aX.length:Int)==0 || s.kind==5)
structure It where
 s:Sm
 deep:Int
 b5:Int
 aX:Bool
mutual
def iA (deep b5:Int) (aX:Bool) (out:List It):Sm→List It
 | ⟨id,kind,labels,name,proc,x,has,args,a7,e⟩=>
  if decide (deep≤12)then eQ (deep+1) id true (eQ (deep+1) id false (out++ [⟨⟨id,kind,labels,name,proc,x,has,args,a7,e⟩,deep,b5,aX⟩]) a7) e
  else out++ [⟨⟨id,kind,labels,name,proc,x,has,args,a7,e⟩,deep,b5,aX⟩]
def eQ (deep b5:Int) (aX:Bool) (out:List It):List Sm→List It
 | []=>out
 | s::l=>if decide ((out.length:Int)≤200)then eQ deep b5 aX (iA deep b5 aX out s) l else out
end
def Pc.flat (f:Pc):List It:=eQ 1 0 false [] f.body
def allM (out:List It):List Pc→List It
 | []=>out
 | f::l=>if decide (((out++f.flat).length:Int) > 200)then out++f.flat else allM (out++f.flat) l
def Pg.all (p:Pg):List It:=allM [] p.procs
def Pm.cY:List Pm→Bool
 | []=>true
 | a::l=>if !(isName a.name)then false else Pm.cY l
def Pc.mL:List Pc→Bool
 | []=>true
 | f::l=>
  if !(isName f.name) || decide ((f.params.length:Int) > 8) || decide ((f.vars.length:Int) > 16) || !(bX f.vars) || !(bX f.fin)then false
  else if !(Pm.cY f.params)then false else Pc.mL l
def It.cY (n:Nat):List It→Bool
 | []=>true
 | i::l=>if i.s.id != ((n+1:Nat):Int) || decide (i.deep > 12) || !(i.s.one)then false else It.cY (n+1) l
def Pg.may (p:Pg):Bool:=
 if decide ((p.globals.length:Int) > 16) || decide ((p.procs.length:Int) > 16) || !(bX p.globals)then false
 else if !(Pc.mL p.procs)then false
 else if decide ((p.all.length:Int) > 200)then false else It.cY 0 p.all
end Go.Abs

/-! Prs -/

namespace Go.Abs
set_option maxRecDepth 8000
open Go.Proofs
@[go_sem] def cb (r:Rd):List D:= [.slice .shared 4 (r.l.map dU), .int .i64 r.i, .int .i64 r.code, .int .i64 r.jk, .int .i64 r.n]
theorem e9 (r:Rd):D.bT 0 0 (cb r)=true:=by simp [cb,D.bT,D.ok,Tag.ok,Gl]
theorem qR {r:Rd} {t:bA} (h:r.gi=some t):r.i<4611686018427387904:=(mD h).1
theorem is_lt {r:Rd} {s:ay} {t:Bool} (h:r.is s=some t):r.i<4611686018427387904:=by
 obtain⟨t,h1,h⟩:=Option.bind_eq_some_iff.1 h
 exact qR h1
-- good
theorem ZM (l:List bA) (i c f n:Int):aD Tryz.prog cr [.ptr 0 0] ⟨[[.slice .shared 4 (l.map dU), .int .i64 i, .int .i64 c, .int .i64 f, .int .i64 n]],[]⟩ (.bool (c==0)) ⟨[[.slice .shared 4 (l.map dU), .int .i64 i, .int .i64 c, .int .i64 f, .int .i64 n]],[]⟩:=by
 refine aD.go wh rfl fun B Q hB hQ=> ?_
 have⟨hC,hE,hF,hM⟩:=bL
 repeat' (first
 | simp only [go_sem,hC,hE,hF,hM,lZ]
 | (with_reducible refine aH hQ ?_;simp only [aA,aB,Option.some.injEq,exists_eq_left',go_sem,hC,hE,hF,hM];repeat' (first | exact Ok.out | with_reducible refine aJ ?_ ?_ | (simp;done))))
theorem jM {l:List bA} {i c f n:Int} {s:St} {o:Nat} (ho:s.az[o]? = some [.slice .shared 4 (l.map dU), .int .i64 i, .int .i64 c, .int .i64 f, .int .i64 n]):aD Tryz.prog cr [.ptr o 0] s (.bool (c==0)) ⟨s.az.set o [.slice .shared 4 (l.map dU), .int .i64 i, .int .i64 c, .int .i64 f, .int .i64 n],s.aC⟩:=
 have hk:D.bT 0 0 [.slice .shared 4 (l.map dU), .int .i64 i, .int .i64 c, .int .i64 f, .int .i64 n] = true:=by simp [D.bT,D.ok,Tag.ok,Gl]
 aD.jB (ZM l i c f n) rfl hk hk rfl ho
theorem ZN {r:Rd} {t:bA} (h:r.gi=some t):aD Tryz.prog dj [.ptr 0 0] ⟨[cb r],[]⟩ (.agg (dU t)) ⟨[cb r],[]⟩:=by
 obtain⟨h2,h,_,_⟩:=mD h
 refine aD.go wj rfl fun B Q hB hQ=> ?_
 have⟨hC,hE,hF,hM⟩:=bL
 repeat' (first
 | simp only [go_sem,hC,hE,hF,hM,lZ,h]
 | (with_reducible refine aH hQ ?_;simp only [aA,aB,Option.some.injEq,exists_eq_left',go_sem,hC,hE,hF,hM];repeat' (first | exact Ok.out | with_reducible refine aJ ?_ ?_ | (simp;done))))
theorem nW {r:Rd} {t:bA} (h:r.gi=some t) {s:St} {o:Nat} (ho:s.az[o]? = some (cb r)):aD Tryz.prog dj [.ptr o 0] s (.agg (dU t)) ⟨s.az.set o (cb r),s.aC⟩:=
 (ZN h).jB rfl (e9 r) (e9 r) (Fb t) ho
theorem alN {r:Rd} {text:ay} {b:Bool} (h:r.is text=some b):aD Tryz.prog eW [.ptr 0 0, .str text] ⟨[cb r],[]⟩ (.bool b) ⟨[cb r],[]⟩:=by
 unfold Rd.is at h
 refine aD.go x6 rfl fun B Q hB hQ=> ?_
 have⟨hC,hE,hF,hM⟩:=bL
 repeat' (first
 | simp only [go_sem,hC,hE,hF,hM,lZ]
 | (rw [Option.bind_eq_some_iff]at h;obtain⟨_,h1,h⟩:=h;first | (with_reducible refine CU (nW h1 (by with_unfolding_all rfl)) ?_))
 | (with_reducible first | refine bD fun hc=> ?_ | refine bE fun hc=> ?_ | refine bF (fun hc=> ?_) fun hc=> ?_) <;> (try simp only [hc,bs, ↓reduceIte]at h) <;> try simp only [hc]
 | (with_reducible refine aH hQ ?_;(try cases h);simp only [aA,aB,bM,bN,go_sem,hC,hE,hF,hM,lZ];repeat' (first | exact Ok.out | with_reducible refine aJ ?_ ?_ | (simp;done))))
theorem yW {r:Rd} {text:ay} {b:Bool} (h:r.is text=some b) {s:St} {o:Nat} (ho:s.az[o]? = some (cb r)):aD Tryz.prog eW [.ptr o 0, .str text] s (.bool b) ⟨s.az.set o (cb r),s.aC⟩:=
 (alN h).jB rfl (e9 r) (e9 r) rfl ho
theorem adq {r r':Rd} {c:Int} (h:r.bad c=some r'):aD Tryz.prog ew [.ptr 0 0, .int .i64 c] ⟨[cb r],[]⟩ (.tuple []) ⟨[cb r'],[]⟩:=by
 unfold Rd.bad at h
 refine aD.go xe rfl fun B Q hB hQ=> ?_
 have⟨hC,hE,hF,hM⟩:=bL
 repeat' (first
 | simp only [go_sem,hC,hE,hF,hM,lZ]
 | (rw [Option.bind_eq_some_iff]at h;obtain⟨_,h1,h⟩:=h;first | (with_reducible refine CU (nW h1 (by with_unfolding_all rfl)) ?_))
 | (with_reducible refine CU (jM (by with_unfolding_all rfl)) ?_)
 | (with_reducible first | refine bD fun hc=> ?_ | refine bE fun hc=> ?_ | refine bF (fun hc=> ?_) fun hc=> ?_) <;> (try simp only [hc,bs, ↓reduceIte]at h) <;> try simp only [hc]
 | (with_reducible refine aH hQ ?_;(try cases h);simp only [aA,aB,bM,bN,go_sem,hC,hE,hF,hM,lZ];repeat' (first | exact Ok.out | with_reducible refine aJ ?_ ?_ | (simp;done))))
theorem BR {r r':Rd} {c:Int} (h:r.bad c=some r') {s:St} {o:Nat} (ho:s.az[o]? = some (cb r)):aD Tryz.prog ew [.ptr o 0, .int .i64 c] s (.tuple []) ⟨s.az.set o (cb r'),s.aC⟩:=
 (adq h).jB rfl (e9 r) (e9 r') rfl ho
theorem ZO {r:Rd} {text:ay} {p:Bool×Rd} (h:r.take text=some p):aD Tryz.prog di [.ptr 0 0, .str text] ⟨[cb r],[]⟩ (.bool p.1) ⟨[cb p.2],[]⟩:=by
 unfold Rd.take at h
 refine aD.go wg rfl fun B Q hB hQ=> ?_
 have⟨hC,hE,hF,hM⟩:=bL
 repeat' (first
 | simp only [go_sem,hC,hE,hF,hM,lZ]
 | (rw [Option.bind_eq_some_iff]at h;obtain⟨_,h1,h⟩:=h;first | (with_reducible refine CU (yW h1 (by with_unfolding_all rfl)) ?_;have hC:=is_lt h1))
 | (with_reducible refine CU (jM (by with_unfolding_all rfl)) ?_)
 | (with_reducible first | refine bD fun hc=> ?_ | refine bE fun hc=> ?_ | refine bF (fun hc=> ?_) fun hc=> ?_) <;> (try simp only [hc,bs, ↓reduceIte]at h) <;> try simp only [hc]
 | (with_reducible refine aH hQ ?_;(try cases h);simp only [aA,aB,bM,bN,go_sem,hC,hE,hF,hM,lZ];repeat' (first | exact Ok.out | with_reducible refine aJ ?_ ?_ | (simp;done))))
theorem rN {r:Rd} {text:ay} {p:Bool×Rd} (h:r.take text=some p) {s:St} {o:Nat} (ho:s.az[o]? = some (cb r)):aD Tryz.prog di [.ptr o 0, .str text] s (.bool p.1) ⟨s.az.set o (cb p.2),s.aC⟩:=
 (ZO h).jB rfl (e9 r) (e9 p.2) rfl ho
theorem ZP {r r':Rd} {text:ay} (h:r.want text=some r'):aD Tryz.prog cM [.ptr 0 0, .str text] ⟨[cb r],[]⟩ (.tuple []) ⟨[cb r'],[]⟩:=by
 unfold Rd.want at h
 refine aD.go v8 rfl fun B Q hB hQ=> ?_
 have⟨hC,hE,hF,hM⟩:=bL
 repeat' (first
 | simp only [go_sem,hC,hE,hF,hM,lZ]
 | (rw [Option.bind_eq_some_iff]at h;obtain⟨_,h1,h⟩:=h;first | (with_reducible refine CU (rN h1 (by with_unfolding_all rfl)) ?_))
 | (with_reducible refine CU (BR h (by with_unfolding_all rfl)) ?_)
 | (with_reducible first | refine bD fun hc=> ?_ | refine bE fun hc=> ?_ | refine bF (fun hc=> ?_) fun hc=> ?_) <;> (try simp only [hc,bs, ↓reduceIte]at h) <;> try simp only [hc]
 | (with_reducible refine aH hQ ?_;(try cases h);simp only [aA,aB,bM,bN,go_sem,hC,hE,hF,hM,lZ];repeat' (first | exact Ok.out | with_reducible refine aJ ?_ ?_ | (simp;done))))
theorem oQ {r r':Rd} {text:ay} (h:r.want text=some r') {s:St} {o:Nat} (ho:s.az[o]? = some (cb r)):aD Tryz.prog cM [.ptr o 0, .str text] s (.tuple []) ⟨s.az.set o (cb r'),s.aC⟩:=
 (ZP h).jB rfl (e9 r) (e9 r') rfl ho
theorem ZQ {r:Rd} {room:Bool} {p:ay×Rd} (h:r.name room=some p):aD Tryz.prog dY [.ptr 0 0, .bool room] ⟨[cb r],[]⟩ (.str p.1) ⟨[cb p.2],[]⟩:=by
 unfold Rd.name at h
 refine aD.go v7 rfl fun B Q hB hQ=> ?_
 have⟨hC,hE,hF,hM⟩:=bL
 repeat' (first
 | simp only [go_sem,hC,hE,hF,hM,lZ]
 | (rw [Option.bind_eq_some_iff]at h;obtain⟨_,h1,h⟩:=h;first | (with_reducible refine CU (nW h1 (by with_unfolding_all rfl)) ?_;have hC:=qR h1) | (with_reducible refine CU (BR h1 (by with_unfolding_all rfl)) ?_))
 | (with_reducible refine CU (jM (by with_unfolding_all rfl)) ?_)
 | (with_reducible first | refine bD fun hc=> ?_ | refine bE fun hc=> ?_ | refine bF (fun hc=> ?_) fun hc=> ?_) <;> (try simp only [hc,bs, ↓reduceIte]at h) <;> try simp only [hc]
 | (with_reducible refine aH hQ ?_;(try cases h);simp only [aA,aB,bM,bN,go_sem,hC,hE,hF,hM,lZ];repeat' (first | exact Ok.out | with_reducible refine aJ ?_ ?_ | (simp;done))))
theorem wo {r:Rd} {room:Bool} {p:ay×Rd} (h:r.name room=some p) {s:St} {o:Nat} (ho:s.az[o]? = some (cb r)):aD Tryz.prog dY [.ptr o 0, .bool room] s (.str p.1) ⟨s.az.set o (cb p.2),s.aC⟩:=
 (ZQ h).jB rfl (e9 r) (e9 p.2) rfl ho
end Go.Abs

/-! Lex1 -/

namespace Go.Abs
set_option maxRecDepth 8000
open Go.Proofs
theorem gJ (c:UInt8) (s:St):aD Tryz.prog nU [.int .u8 (c.toNat:Int)] s (.bool (mq c)) s:=by
 refine aD.pure ?_ rfl rfl s
 generalize h:mq c=b
 unfold mq at h
 unfold S0
 refine aD.go C8 rfl fun B Q hB hQ=> ?_
 have⟨hC,hE,hF,hM⟩:=bL
 repeat' (first
 | simp only [go_sem,hC,hE,hF,hM]
 | (with_reducible first | refine bD fun hc=> ?_ | refine bE fun hc=> ?_ | refine bF (fun hc=> ?_) fun hc=> ?_) <;> (try simp only [hc,bs, ↓reduceIte]at h) <;> try simp only [hc]
 | (with_reducible refine aH hQ ?_;(try cases h);simp only [aA,aB,bM,bN,go_sem,hC,hE,hF,hM];repeat' (first | exact Ok.out | with_reducible refine aJ ?_ ?_ | (simp;done))))
theorem iW (c:UInt8) (s:St):aD Tryz.prog oM [.int .u8 (c.toNat:Int)] s (.bool (j9 c)) s:=by
 refine aD.pure ?_ rfl rfl s
 generalize h:j9 c=b
 unfold j9 at h
 unfold S0
 refine aD.go E0 rfl fun B Q hB hQ=> ?_
 have⟨hC,hE,hF,hM⟩:=bL
 repeat' (first
 | simp only [go_sem,hC,hE,hF,hM]
 | (with_reducible first | refine bD fun hc=> ?_ | refine bE fun hc=> ?_ | refine bF (fun hc=> ?_) fun hc=> ?_) <;> (try simp only [hc,bs, ↓reduceIte]at h) <;> try simp only [hc]
 | (with_reducible refine aH hQ ?_;(try cases h);simp only [aA,aB,bM,bN,go_sem,hC,hE,hF,hM];repeat' (first | exact Ok.out | with_reducible refine aJ ?_ ?_ | (simp;done))))
theorem tH (t:ay) (s:St):aD Tryz.prog sM [.str t] s (.bool (isWord t)) s:=by
 refine aD.pure ?_ rfl rfl s
 generalize h:isWord t=b
 unfold isWord at h
 unfold S0
 refine aD.go Gw rfl fun B Q hB hQ=> ?_
 have⟨hC,hE,hF,hM⟩:=bL
 repeat' (first
 | simp only [go_sem,hC,hE,hF,hM]
 | (with_reducible first | refine bD fun hc=> ?_ | refine bE fun hc=> ?_ | refine bF (fun hc=> ?_) fun hc=> ?_) <;> (try simp only [hc,bs, ↓reduceIte]at h) <;> try simp only [hc]
 | (with_reducible refine aH hQ ?_;(try cases h);simp only [aA,aB,bM,bN,go_sem,hC,hE,hF,hM];repeat' (first | exact Ok.out | with_reducible refine aJ ?_ ?_ | (simp;done))))
theorem Vq {text:ay} {pos:Nat} (hl:text.length<4611686018427387904) (s:St):aD Tryz.prog uE [.str text, .int .i64 (pos:Int)] s (.int .i64 ((pos+gm (text.drop pos):Nat):Int)) s:=by
 refine aD.pure ?_ rfl rfl s
 unfold S0
 refine aD.go Ix rfl fun B Q hB hQ=> ?_
 have⟨hC,hE,hF,hM⟩:=bL
 repeat' (first
 | simp only [go_sem,hC,hE,hF,hM]
 | (with_reducible refine aH hQ ?_;simp only [aA,aB,Option.some.injEq,exists_eq_left',go_sem,hC,hE,hF,hM];repeat' (first | exact Ok.out | with_reducible refine aJ ?_ ?_ | (simp;done))))
 refine dc 0 0 (bw.ind (ι:=ay×Nat) (fun i=>text.drop i.2=i.1∧i.2+gm i.1=pos+gm (text.drop pos)) (fun i=>i.1.length)
  (fun i=> [(0, .str text),(1, .int .i64 (i.2:Int))]) (fun i=>⟨[],[]⟩) ?_ (text.drop pos,pos) ⟨rfl,rfl⟩)
 rintro⟨rest,k⟩ ⟨h1,h2⟩ IH
 dsimp only at h1 h2
 cases rest with
 | nil=>
  have hC:=drop_nil h1
  simp only [gm,Nat.add_zero]at h2
  rw [← h2]at hQ
  repeat' (first
 | simp only [go_sem,hC,hE,hF,hM]
 | (with_reducible refine aH hQ ?_;simp only [aA,aB,Option.some.injEq,exists_eq_left',go_sem,hC,hE,hF,hM];repeat' (first | exact Ok.out | with_reducible refine aJ ?_ ?_ | (simp;done))))
 | cons c rest=>
  obtain⟨hE,g2,hC,g4⟩:=drop_cons h1
  have hF:k<4611686018427387904:=by omega
  cases hb:(mq c || j9 c)
  ·simp only [gm,hb,Bool.false_eq_true, ↓reduceIte,Nat.add_zero]at h2
   rw [← h2]at hQ
   simp only [Bool.or_eq_false_iff]at hb
   repeat' (first
 | simp only [go_sem,hC,hE,hF,hM,hb.1,hb.2]
 | (with_reducible refine CU (gJ _ _) ?_)
 | (with_reducible refine CU (iW _ _) ?_)
 | (with_reducible refine aH hQ ?_;simp only [aA,aB,Option.some.injEq,exists_eq_left',go_sem,hC,hE,hF,hM];repeat' (first | exact Ok.out | with_reducible refine aJ ?_ ?_ | (simp;done))))
  ·simp only [gm,hb, ↓reduceIte]at h2
   cases FP:mq c
   ·rw [FP,Bool.false_or]at hb
    repeat' (first
 | simp only [go_sem,hC,hE,hF,hM,hb,FP]
 | (with_reducible refine CU (gJ _ _) ?_)
 | (with_reducible refine CU (iW _ _) ?_)
 | (with_reducible refine aH hQ ?_;simp only [aA,aB,Option.some.injEq,exists_eq_left',go_sem,hC,hE,hF,hM];repeat' (first | exact Ok.out | with_reducible refine aJ ?_ ?_ | (simp;done))))
    refine dc 0 0 (IH (rest,k+1) ⟨g2,by dsimp only;omega⟩ (Nat.lt_succ_self _))
   ·repeat' (first
 | simp only [go_sem,hC,hE,hF,hM,FP]
 | (with_reducible refine CU (gJ _ _) ?_)
 | (with_reducible refine CU (iW _ _) ?_)
 | (with_reducible refine aH hQ ?_;simp only [aA,aB,Option.some.injEq,exists_eq_left',go_sem,hC,hE,hF,hM];repeat' (first | exact Ok.out | with_reducible refine aJ ?_ ?_ | (simp;done))))
    refine dc 0 0 (IH (rest,k+1) ⟨g2,by dsimp only;omega⟩ (Nat.lt_succ_self _))
theorem xf (text:ay) (a b:Nat):(text.take (a+b)).drop a=(text.drop a).take b:=by rw [List.drop_take];congr 1;omega
set_option maxRecDepth 20000 in
theorem ZR {text : ay} {pos : Nat} {c : UInt8} {r : ay} (hd : text.drop pos = c :: r) (hl : text.length < 4611686018427387904) (s : St) :
   aD Tryz.prog w7 [.str text, .int .i64 (pos : Int)] s (.int .i64 ((nE (c :: r) : Nat) : Int)) s := by
 refine aD.pure ?_ rfl rfl s
 obtain ⟨hE, g2, g3, g4⟩ := drop_cons hd
 have hF : pos < 4611686018427387904 := by omega
 have hM : 0 < 1 := Nat.zero_lt_one
 generalize h : nE (c :: r) = k
 unfold S0
 cases r with
 | nil =>
   have hC : decide (((pos + 1 : Nat) : Int) < (text.length : Int)) = false := drop_nil g2
   simp only [nE, Fg] at h
   refine aD.go yV rfl fun B Q hB hQ => ?_
   repeat' (first
 | simp only [go_sem, hC, hE, hF, hM]
 | (with_reducible first | refine bD fun hc => ?_ | refine bE fun hc => ?_ | refine bF (fun hc => ?_) fun hc => ?_) <;> (try simp only [hc, bs, ↓reduceIte] at h) <;> try simp only [hc]
 | (with_reducible refine aH hQ ?_; exact lJ)
 | (cases h; done))
 | cons d r =>
   obtain ⟨_, _, hC, _⟩ := drop_cons g2
   have e1 : (text.take (pos + 2)).drop pos = [c, d] := by rw [xf, hd]; rfl
   have e2 : (0 : Int) ≤ (pos : Int) ∧ (pos : Int) ≤ ((pos + 2 : Nat) : Int) ∧ ((pos + 2 : Nat) : Int) ≤ (text.length : Int) := by omega
   simp only [nE, Fg, Vp] at h
   refine aD.go yV rfl fun B Q hB hQ => ?_
   repeat' (first
 | simp only [go_sem, hC, hE, hF, hM, e1, e2]
 | (with_reducible first | refine bD fun hc => ?_ | refine bE fun hc => ?_ | refine bF (fun hc => ?_) fun hc => ?_) <;> (try simp only [hc, bs, ↓reduceIte] at h) <;> try simp only [hc]
 | (with_reducible refine aH hQ ?_; (try cases h); simp only [aA, aB, bM, bN, go_sem, hC, hE, hF, hM, e1, e2]; try exact rH)
 | (cases h; done))
theorem OS {c:UInt8} (h:j9 c=true):48≤(c.toNat:Int)∧(c.toNat:Int)≤57:=by
 simp only [j9,Bool.and_eq_true,decide_eq_true_eq]at h
 omega
def nX (s:ay):Int×Bool:=match qj 0 s with | some n=>(n,true) | none=>(0,false)
theorem Sv {text:ay} (hd : ∀ c∈text,j9 c=true) (hl:text.length<4611686018427387904) (s:St) :
 aD Tryz.prog tw [.str text] s (.tuple [.int .i64 (nX text).1, .bool (nX text).2]) s:=by
 refine aD.pure ?_ rfl rfl s
 generalize hw:nX text=p
 unfold S0
 refine aD.go Dh rfl fun B Q hB hQ=> ?_
 have⟨hC,hE,hF,hM⟩:=bL
 repeat' (first
 | simp only [go_sem,hC,hE,hF,hM]
 | (with_reducible first | refine bD fun hc=> ?_ | refine bE fun hc=> ?_ | refine bF (fun hc=> ?_) fun hc=> ?_) <;> (try simp only [hc,bs, ↓reduceIte]at h) <;> try simp only [hc]
 | (with_reducible refine aH hQ ?_;exact lJ)
 | (cases h;done))
 refine dc 0 0 (bw.ind (ι:=ay×Nat×Int) (fun i=>text.drop i.2.1=i.1∧0≤i.2.2∧i.2.2≤9223372036854775807∧(match qj i.2.2 i.1 with | some n=>(n,true) | none=>(0,false))=p) (fun i=>i.1.length)
  (fun i=> [(0, .str text),(4, .int .i64 i.2.2),(5, .int .i64 (i.2.1:Int))]) (fun i=>⟨[],[]⟩) ?_ (text,0,0) ⟨rfl,Int.le_refl 0,by dsimp only;omega,hw⟩)
 rintro⟨rest,k,n⟩ ⟨h1,h2,h3,h⟩ IH
 dsimp only at h1 h2 h3 h
 cases rest with
 | nil=>
  have hC:=drop_nil h1
  simp only [qj]at h
  repeat' (first
 | simp only [go_sem,hC,hE,hF,hM]
 | (with_reducible first | refine bD fun hc=> ?_ | refine bE fun hc=> ?_ | refine bF (fun hc=> ?_) fun hc=> ?_) <;> (try simp only [hc,bs, ↓reduceIte]at h) <;> try simp only [hc]
 | (with_reducible refine aH hQ ?_;exact lJ)
 | (cases h;done))
 | cons c rest=>
  obtain⟨hE,g2,hC,g4⟩:=drop_cons h1
  have hF:k<4611686018427387904:=by omega
  have hc:=OS (hd c (List.mem_of_getElem? hE))
  have w1:IntKind.wrap .u8 ((c.toNat:Int) - 48)=(c.toNat:Int) - 48:=by rw [IntKind.wrap_u8];omega
  have w2:IntKind.wrap .i64 ((c.toNat:Int) - 48)=(c.toNat:Int) - 48:=dJ (by omega) (by omega)
  have w3:IntKind.wrap .i64 (9223372036854775807 - ((c.toNat:Int) - 48))=9223372036854775807 - ((c.toNat:Int) - 48):=dJ (by omega) (by omega)
  have w4:IntKind.wrap .i64 ((9223372036854775807 - ((c.toNat:Int) - 48)).tdiv 10)=(9223372036854775807 - ((c.toNat:Int) - 48)) / 10:=by
   rw [Int.tdiv_eq_ediv_of_nonneg (by omega)];exact dJ (by omega) (by omega)
  have t10:((10:Int)=0)=False:=by simp
  simp only [qj]at h
  by_cases hn:n > (9223372036854775807 - ((c.toNat:Int) - 48)) / 10
  ·have oI:decide (n > (9223372036854775807 - ((c.toNat:Int) - 48)) / 10)=true:=by simpa using hn
   rw [if_pos hn]at h
   repeat' (first
 | simp only [go_sem,hC,hE,hF,hM,w1,w2,w3,w4,t10,oI]
 | (with_reducible first | refine bD fun hc=> ?_ | refine bE fun hc=> ?_ | refine bF (fun hc=> ?_) fun hc=> ?_) <;> (try simp only [hc,bs, ↓reduceIte]at h) <;> try simp only [hc]
 | (with_reducible refine aH hQ ?_;(try cases h);simp only [aA,aB,bM,bN,go_sem,hC,hE,hF,hM,w1,w2,w3,w4,t10,oI];try exact rH)
 | (cases h;done))
  ·have oI:decide (n > (9223372036854775807 - ((c.toNat:Int) - 48)) / 10)=false:=by simpa using hn
   rw [if_neg hn]at h
   have w5:IntKind.wrap .i64 (n*10)=n*10:=dJ (by omega) (by omega)
   have w6:IntKind.wrap .i64 (n*10+((c.toNat:Int) - 48))=n*10+((c.toNat:Int) - 48):=dJ (by omega) (by omega)
   repeat' (first
 | simp only [go_sem,hC,hE,hF,hM,w1,w2,w3,w4,t10,oI,w5,w6]
 | (with_reducible first | refine bD fun hc=> ?_ | refine bE fun hc=> ?_ | refine bF (fun hc=> ?_) fun hc=> ?_) <;> (try simp only [hc,bs, ↓reduceIte]at h) <;> try simp only [hc]
 | (with_reducible refine aH hQ ?_;(try cases h);simp only [aA,aB,bM,bN,go_sem,hC,hE,hF,hM,w1,w2,w3,w4,t10,oI,w5,w6];try exact rH)
 | (cases h;done))
   refine dc 0 0 (IH (rest,k+1,n*10+((c.toNat:Int) - 48)) ⟨g2,by dsimp only;omega,by dsimp only;omega,h⟩ (Nat.lt_succ_self _))
end Go.Abs

/-! Lex2 -/

namespace Go.Abs
set_option maxRecDepth 8000
open Go.Proofs
theorem Sw {c:UInt8} {r:ay} (h:mq c=true):0<gm (c::r):=by simp [gm,h]
theorem GG : ∀ s:ay,gm s≤s.length
 | []=>Nat.le_refl _
 | c::r=>by simp only [gm];split <;> simp only [List.length_cons] <;> have:=GG r <;> omega
theorem GH : ∀ s:ay,lB s≤s.length
 | []=>Nat.le_refl _
 | c::r=>by simp only [lB];split <;> simp only [List.length_cons] <;> have:=GH r <;> omega
theorem DX : ∀ s:ay,ij s≤s.length
 | []=>Nat.le_refl _
 | c::r=>by simp only [ij];split <;> simp only [List.length_cons] <;> have:=DX r <;> omega
theorem OT : ∀ s:ay,nE s≤s.length
 | []=>Nat.le_refl _
 | [c]=>by simp only [nE];split <;> simp
 | c::d::r=>by simp only [nE];(repeat' split) <;> simp
theorem GM : ∀ (s:ay),∀ c∈s.take (lB s),j9 c=true
 | [],c,h=>by simp [lB]at h
 | d::r,c,h=>by
  simp only [lB]at h
  split at h
  ·rw [List.take_succ_cons]at h
   rcases List.mem_cons.1 h with rfl | h
   ·assumption
   ·exact GM r c h
  ·simp at h
def kB (f:Int×Int):List D:= [.int .i64 f.1, .int .i64 f.2]
def nF (text:ay) (out:List bA) (pos:Nat):Tm:= [(0, .str text),(3, .ptr 0 0),(4, .slice (.tok 0) 4 (out.map dU)),(5, .ptr 1 0),(6, .int .i64 (pos:Int))]
def oc (out:List bA):St:=⟨[[.int .i64 0, .int .i64 0],[.junk, .junk, .junk, .junk]],[some out.length]⟩
theorem OU {c:UInt8} {r:ay} (h:((c.toNat:Int)==35)=true):0<ij (c::r):=by
 have:((c.toNat:Int) != 10)=true:=by simp only [beq_iff_eq]at h;simp [h]
 simp [ij,this]
def rb (text:ay) (B:eU) (Q:Exit→Tm→St→Prop) (p:List bA×Int×Int) (N:Nat):Prop:=
 ∀ (n pos:Nat) (rest:ay) (out:List bA),text.drop pos=rest→il n pos rest out=p→rest.length<n→out.length≤2000→pos≤text.length→n<N→
  nf Tryz.prog B 152 tF (.seq .skip yT) Q (nF text out pos) (oc out)
theorem rb.to {text:ay} {B:eU} {Q:Exit→Tm→St→Prop} {p:List bA×Int×Int} {N:Nat} (hB:B.s=S0) (IH:rb text B Q p N) {n pos:Nat} {rest:ay} {out:List bA} {tm:Tm} {s:St}
 (h1:text.drop pos=rest) (h:il n pos rest out=p) (h2:rest.length<n) (h3:out.length≤2000) (h4:pos≤text.length) (h5:n<N)
 (ht:su tm 2 1 (nF text out pos)) (ho:gS (s.cut 2 1).az (oc out).az) (hk:(s.cut 2 1).aC=(oc out).aC) :
 jc Tryz.prog B 152 tF Q (.goto 0) tm s:=by
 refine Rq (l:=0) (r:= .seq .skip yT) rfl (nf.re _ _ 2 1 (by rw [hB];exact lI rfl) (by rw [hB];exact lI rfl) ht ho ?_)
 have:=IH n pos rest out h1 h h2 h3 h4 h5
 rw [hk]
 exact this
attribute [go_sem] nF oc kB
theorem lex_nil {text:ay} (hl:text.length≤100000) {B:eU} {Q:Exit→Tm→St→Prop} {p:List bA×Int×Int} (hB:B.s=S0)
 (hQ:hZ 0 0 [(2,none),(3,some (true,2))] (.tuple [.slice .shared 4 (p.1.map dU), .agg (kB p.2)]) ⟨[],[]⟩=Q)
 {n pos:Nat} {out:List bA} (ho:out.length≤2000) (hp:pos≤text.length) (IH:rb text B Q p (n+1))
 (h1:text.drop pos = []) (h:il (n+1) pos [] out=p):gp Tryz.prog B 152 yT (jc Tryz.prog B 152 tF Q) (nF text out pos) (oc out):=by
 have⟨hC,hE,hF,hM⟩:=bL
 have fC:(out.length+1)*41≤bQ:=by simp only [bQ];omega
 have ez:decide ((pos:Int)≥(text.length:Int))=true:=by have:=List.drop_eq_nil_iff.1 h1;simp;omega
 have:pos=text.length:=by have:=List.drop_eq_nil_iff.1 h1;omega
 subst this
 simp only [il]at h
 repeat' (first
 | simp only [go_sem,hC,hE,hF,hM,ez,fC]
 | (with_reducible first | refine bD fun hc=> ?_ | refine bE fun hc=> ?_ | refine bF (fun hc=> ?_) fun hc=> ?_) <;> (try simp only [hc,bs, ↓reduceIte]at h) <;> try simp only [hc]
 | (with_reducible refine aH hQ ?_;(try cases h);simp only [aA,aB,bM,bN,go_sem,hC,hE,hF,hM,ez,fC];repeat' (first | exact Ok.out | with_reducible refine aJ ?_ ?_ | (simp;done))))
theorem OV {text:ay} (hl:text.length≤100000) {B:eU} {Q:Exit→Tm→St→Prop} {p:List bA×Int×Int} (hB:B.s=S0)
 (hQ:hZ 0 0 [(2,none),(3,some (true,2))] (.tuple [.slice .shared 4 (p.1.map dU), .agg (kB p.2)]) ⟨[],[]⟩=Q)
 {n pos:Nat} {out:List bA} (ho:out.length≤2000) (hp:pos≤text.length) (IH:rb text B Q p (n+1))
 {c:UInt8} {r:ay} (h1:text.drop pos=c::r) (hb:sw c=true) (hn:(c::r).length<n+1) (h:il (n+1) pos (c::r) out=p) :
 gp Tryz.prog B 152 yT (jc Tryz.prog B 152 tF Q) (nF text out pos) (oc out):=by
 have hF:0<1:=Nat.zero_lt_one
 have hM:0<1:=Nat.zero_lt_one
 obtain⟨hE,g2,g3,g4⟩:=drop_cons h1
 have hC:pos<4611686018427387904:=by omega
 have ez:decide ((pos:Int)≥(text.length:Int))=false:=by simp;omega
 simp only [il,hb, ↓reduceIte]at h
 have oI:r.length<n:=by simp only [List.length_cons]at hn;omega
 have e : ∀ x y:Int,(x==y)=false→(x==y)=true→False:=fun x y a b=>by rw [a]at b;cases b
 simp only [sw]at hb
 repeat' (first
 | simp only [go_sem,hC,hE,hF,hM,ez]
 | (refine IH.to hB g2 h oI ho g4 (Nat.lt_succ_self _) ?_ ?_ ?_ <;> ((try simp only [go_sem,hC,hE,hF,hM]);repeat' (first | exact Ok.out | with_reducible refine aJ ?_ ?_ | omega | (simp;done)));done)
 | (with_reducible first | refine bD fun hc=> ?_ | refine bE fun hc=> ?_ | refine bF (fun hc=> ?_) fun hc=> ?_) <;> (try simp only [hc,bs, ↓reduceIte]at h) <;> try simp only [hc]
 | (with_reducible refine aH hQ ?_;simp only [aA,aB,bM,bN,go_sem,hC,hE,hF,hM];repeat' (first | exact Ok.out | with_reducible refine aJ ?_ ?_ | (simp;done))))
 all_goals (exfalso;simp_all;done)
theorem Mk {text:ay} (hl:text.length≤100000) {B:eU} {Q:Exit→Tm→St→Prop} {p:List bA×Int×Int} (hB:B.s=S0)
 (hQ:hZ 0 0 [(2,none),(3,some (true,2))] (.tuple [.slice .shared 4 (p.1.map dU), .agg (kB p.2)]) ⟨[],[]⟩=Q)
 {n pos:Nat} {out:List bA} (ho:out.length≤2000) (hp:pos≤text.length) (IH:rb text B Q p (n+1))
 {c:UInt8} {r:ay} (h1:text.drop pos=c::r) (hb:sw c=false) (hc:((c.toNat:Int)==35)=true) (hn:(c::r).length<n+1) (h:il (n+1) pos (c::r) out=p) :
 gp Tryz.prog B 152 yT (jc Tryz.prog B 152 tF Q) (nF text out pos) (oc out):=by
 have hF:0<1:=Nat.zero_lt_one
 have hM:0<1:=Nat.zero_lt_one
 have adr:=(drop_cons h1).1
 have hE:=adr
 have g4:=(drop_cons h1).2.2.2
 have hC:pos<4611686018427387904:=by omega
 have ez:decide ((pos:Int)≥(text.length:Int))=false:=by simp;omega
 simp only [il,hb,Bool.false_eq_true, ↓reduceIte,hc]at h
 simp only [sw,Bool.or_eq_false_iff]at hb
 have hk:=OU (r:=r) hc
 have bS:=DX (c::r)
 have rO:(c::r).length=text.length - pos:=by rw [← h1,List.length_drop]
 generalize hL:ij (c::r)=L at h hk bS
 repeat' (first
 | simp only [go_sem,hC,hE,hF,hM,ez,hb.1.1.1,hb.1.1.2,hb.1.2,hb.2,hc]
 | (with_reducible refine bY (l:=1) (by with_unfolding_all rfl) ?_)
 | (with_reducible refine aH hQ ?_;simp only [aA,aB,Option.some.injEq,exists_eq_left',go_sem,hC,hE,hF,hM];repeat' (first | exact Ok.out | with_reducible refine aJ ?_ ?_ | (simp;done))))
 refine dc 2 1 (bw.ind (ι:=ay×Nat) (fun i=>text.drop i.2=i.1∧i.2+ij i.1=pos+L) (fun i=>i.1.length)
  (fun i=>nF text out i.2) (fun i=>oc out) ?_ (c::r,pos) ⟨h1,by dsimp only;omega⟩)
 rintro⟨rest,k⟩ ⟨j1,j2⟩ ZS
 dsimp only at j1 j2
 have fin:text.drop (pos+L)=(c::r).drop L:=by rw [← h1,List.drop_drop]
 have hlen:((c::r).drop L).length<n:=by rw [List.length_drop];omega
 cases rest with
 | nil=>
  have ez:=drop_nil j1
  simp only [ij,Nat.add_zero]at j2
  subst j2
  repeat' (first
 | simp only [go_sem,hC,hE,hF,hM,ez]
 | (refine IH.to hB fin h hlen ho (by omega) (Nat.lt_succ_self _) ?_ ?_ ?_ <;> ((try simp only [go_sem,hC,hE,hF,hM]);repeat' (first | exact Ok.out | with_reducible refine aJ ?_ ?_ | omega | (simp;done)));done)
 | (with_reducible refine aH hQ ?_;simp only [aA,aB,Option.some.injEq,exists_eq_left',go_sem,hC,hE,hF,hM];repeat' (first | exact Ok.out | with_reducible refine aJ ?_ ?_ | (simp;done))))
 | cons d rest=>
  obtain⟨hE,g2,ez,g5⟩:=drop_cons j1
  have hC:k<4611686018427387904:=by omega
  cases hd:((d.toNat:Int) != 10)
  ·simp only [ij,hd,Bool.false_eq_true, ↓reduceIte,Nat.add_zero]at j2
   subst j2
   repeat' (first
 | simp only [go_sem,hC,hE,hF,hM,ez,hd]
 | (refine IH.to hB fin h hlen ho (by omega) (Nat.lt_succ_self _) ?_ ?_ ?_ <;> ((try simp only [go_sem,hC,hE,hF,hM]);repeat' (first | exact Ok.out | with_reducible refine aJ ?_ ?_ | omega | (simp;done)));done)
 | (with_reducible refine aH hQ ?_;simp only [aA,aB,Option.some.injEq,exists_eq_left',go_sem,hC,hE,hF,hM];repeat' (first | exact Ok.out | with_reducible refine aJ ?_ ?_ | (simp;done))))
  ·simp only [ij,hd, ↓reduceIte]at j2
   repeat' (first
 | simp only [go_sem,hC,hE,hF,hM,ez,hd]
 | (with_reducible refine aH hQ ?_;simp only [aA,aB,Option.some.injEq,exists_eq_left',go_sem,hC,hE,hF,hM];repeat' (first | exact Ok.out | with_reducible refine aJ ?_ ?_ | (simp;done))))
   refine dc 2 1 (ZS (rest,k+1) ⟨g2,by dsimp only;omega⟩ (Nat.lt_succ_self _))
theorem Sx {text:ay} (hl:text.length≤100000) {B:eU} {Q:Exit→Tm→St→Prop} {p:List bA×Int×Int} (hB:B.s=S0)
 (hQ:hZ 0 0 [(2,none),(3,some (true,2))] (.tuple [.slice .shared 4 (p.1.map dU), .agg (kB p.2)]) ⟨[],[]⟩=Q)
 {n pos:Nat} {out:List bA} (ho:out.length≤2000) (hp:pos≤text.length) (IH:rb text B Q p (n+1))
 {c:UInt8} {r:ay} (h1:text.drop pos=c::r) (hb:sw c=false) (hc:((c.toNat:Int)==35)=false) (hL:mq c=false) (hD:j9 c=false) (hn:(c::r).length<n+1) (h:il (n+1) pos (c::r) out=p) :
 gp Tryz.prog B 152 yT (jc Tryz.prog B 152 tF Q) (nF text out pos) (oc out):=by
 have hF:0<1:=Nat.zero_lt_one
 have hM:0<1:=Nat.zero_lt_one
 have hE:=(drop_cons h1).1
 have g4:=(drop_cons h1).2.2.2
 have hC:pos<4611686018427387904:=by omega
 have ez:decide ((pos:Int)≥(text.length:Int))=false:=by simp;omega
 have fC:(out.length+1)*41≤bQ:=by simp only [bQ];omega
 have Fh:=fun s=>ZR h1 (by omega) s
 have bS:=OT (c::r)
 have rO:(c::r).length=text.length - pos:=by rw [← h1,List.length_drop]
 simp only [il,hb,Bool.false_eq_true, ↓reduceIte,hc,kA,hL,hD]at h
 simp only [sw,Bool.or_eq_false_iff]at hb
 generalize hK:nE (c::r)=k at h Fh bS
 have e1:IntKind.wrap .i64 ((pos:Int)+(k:Int))=((pos+k:Nat):Int):=by rw [dJ] <;> omega
 have e2:(0:Int)≤(pos:Int)∧(pos:Int)≤((pos+k:Nat):Int)∧((pos+k:Nat):Int)≤(text.length:Int):=by omega
 have e3:(text.take (pos+k)).drop pos=(c::r).take k:=by rw [xf,h1]
 by_cases hz:k=0
 ·have mV:decide (((pos+k:Nat):Int) > (pos:Int))=false:=by simp;omega
  simp only [hz, ↓reduceIte]at h
  repeat' (first
 | simp only [go_sem,hC,hE,hF,hM,ez,hb.1.1.1,hb.1.1.2,hb.1.2,hb.2,hc,hL,hD,e1,e2,e3,mV]
 | (with_reducible refine CU (gJ _ _) ?_)
 | (with_reducible refine CU (iW _ _) ?_)
 | (with_reducible refine CU (Fh _) ?_)
 | (with_reducible refine bY (l:=4) (by with_unfolding_all rfl) ?_)
 | (with_reducible refine bY (l:=5) (by with_unfolding_all rfl) ?_)
 | (with_reducible first | refine bD fun hc=> ?_ | refine bE fun hc=> ?_ | refine bF (fun hc=> ?_) fun hc=> ?_) <;> (try simp only [hc,bs, ↓reduceIte]at h) <;> try simp only [hc]
 | (with_reducible refine aH hQ ?_;(try cases h);simp only [aA,aB,bM,bN,go_sem,hC,hE,hF,hM,ez,hb.1.1.1,hb.1.1.2,hb.1.2,hb.2,hc,hL,hD,e1,e2,e3,mV];repeat' (first | exact Ok.out | with_reducible refine aJ ?_ ?_ | (simp;done))))
 ·have mV:decide (((pos+k:Nat):Int) > (pos:Int))=true:=by simp;omega
  have hlen:((c::r).take k).length=k:=by rw [List.length_take];omega
  have fin:text.drop (pos+k)=(c::r).drop k:=by rw [← h1,List.drop_drop]
  have sQ:((c::r).drop k).length<n:=by rw [List.length_drop];omega
  simp only [hz, ↓reduceIte,hlen]at h
  by_cases qB:out.length=2000
  ·have ju:((out.length:Int)==2000)=true:=by simp [qB]
   simp only [qB, ↓reduceIte]at h
   repeat' (first
 | simp only [go_sem,hC,hE,hF,hM,ez,hb.1.1.1,hb.1.1.2,hb.1.2,hb.2,hc,hL,hD,e1,e2,e3,mV,ju]
 | (with_reducible refine CU (gJ _ _) ?_)
 | (with_reducible refine CU (iW _ _) ?_)
 | (with_reducible refine CU (Fh _) ?_)
 | (with_reducible refine bY (l:=4) (by with_unfolding_all rfl) ?_)
 | (with_reducible refine bY (l:=5) (by with_unfolding_all rfl) ?_)
 | (with_reducible first | refine bD fun hc=> ?_ | refine bE fun hc=> ?_ | refine bF (fun hc=> ?_) fun hc=> ?_) <;> (try simp only [hc,bs, ↓reduceIte]at h) <;> try simp only [hc]
 | (with_reducible refine aH hQ ?_;(try cases h);simp only [aA,aB,bM,bN,go_sem,hC,hE,hF,hM,ez,hb.1.1.1,hb.1.1.2,hb.1.2,hb.2,hc,hL,hD,e1,e2,e3,mV,ju];repeat' (first | exact Ok.out | with_reducible refine aJ ?_ ?_ | (simp;done))))
  ·have ju:((out.length:Int)==2000)=false:=by simp;omega
   have z7 : ∀ t:bA,(out++ [t]).length≤2000:=by intro t;simp;omega
   simp only [qB, ↓reduceIte]at h
   repeat' (first
 | simp only [go_sem,hC,hE,hF,hM,ez,hb.1.1.1,hb.1.1.2,hb.1.2,hb.2,hc,hL,hD,e1,e2,e3,mV,ju,fC]
 | (with_reducible refine CU (gJ _ _) ?_)
 | (with_reducible refine CU (iW _ _) ?_)
 | (with_reducible refine CU (Fh _) ?_)
 | (with_reducible refine bY (l:=4) (by with_unfolding_all rfl) ?_)
 | (with_reducible refine bY (l:=5) (by with_unfolding_all rfl) ?_)
 | (refine IH.to hB fin h sQ (z7 _) (by omega) (Nat.lt_succ_self _) ?_ ?_ ?_ <;> ((try simp only [go_sem,hC,hE,hF,hM]);repeat' (first | exact Ok.out | with_reducible refine aJ ?_ ?_ | omega | (simp;done)));done)
 | (with_reducible refine aH hQ ?_;simp only [aA,aB,bM,bN,go_sem,hC,hE,hF,hM];repeat' (first | exact Ok.out | with_reducible refine aJ ?_ ?_ | (simp;done))))
theorem Sy {text:ay} (hl:text.length≤100000) {B:eU} {Q:Exit→Tm→St→Prop} {p:List bA×Int×Int} (hB:B.s=S0)
 (hQ:hZ 0 0 [(2,none),(3,some (true,2))] (.tuple [.slice .shared 4 (p.1.map dU), .agg (kB p.2)]) ⟨[],[]⟩=Q)
 {n pos:Nat} {out:List bA} (ho:out.length≤2000) (hp:pos≤text.length) (IH:rb text B Q p (n+1))
 {c:UInt8} {r:ay} (h1:text.drop pos=c::r) (hb:sw c=false) (hc:((c.toNat:Int)==35)=false) (hL:mq c=true) (hn:(c::r).length<n+1) (h:il (n+1) pos (c::r) out=p) :
 gp Tryz.prog B 152 yT (jc Tryz.prog B 152 tF Q) (nF text out pos) (oc out):=by
 have hF:0<1:=Nat.zero_lt_one
 have hM:0<1:=Nat.zero_lt_one
 have hE:=(drop_cons h1).1
 have g4:=(drop_cons h1).2.2.2
 have hC:pos<4611686018427387904:=by omega
 have ez:decide ((pos:Int)≥(text.length:Int))=false:=by simp;omega
 have fC:(out.length+1)*41≤bQ:=by simp only [bQ];omega
 have dA:=fun s=>Vq (text:=text) (pos:=pos) (by omega) s
 rw [h1]at dA
 have bS:=GG (c::r)
 have k6:=Sw (r:=r) hL
 have rO:(c::r).length=text.length - pos:=by rw [← h1,List.length_drop]
 simp only [il,hb,Bool.false_eq_true, ↓reduceIte,hc,kA,hL]at h
 simp only [sw,Bool.or_eq_false_iff]at hb
 generalize hK:gm (c::r)=k at h dA bS k6
 have hlen:((c::r).take k).length=k:=by rw [List.length_take];omega
 simp only [hlen]at h
 have e1:IntKind.wrap .i64 (((pos+k:Nat):Int) - (pos:Int))=(k:Int):=by rw [dJ] <;> omega
 have e2:(0:Int)≤(pos:Int)∧(pos:Int)≤((pos+k:Nat):Int)∧((pos+k:Nat):Int)≤(text.length:Int):=by omega
 have e3:(text.take (pos+k)).drop pos=(c::r).take k:=by rw [xf,h1]
 by_cases hz:k > 8
 ·have mV:decide ((k:Int) > 8)=true:=by simp;omega
  simp only [hz, ↓reduceIte]at h
  cases hw:isWord ((c::r).take k)
  ·repeat' (first
 | simp only [go_sem,hC,hE,hF,hM,ez,hb.1.1.1,hb.1.1.2,hb.1.2,hb.2,hc,hL,e1,e2,e3,mV,hw]
 | (with_reducible refine CU (gJ _ _) ?_)
 | (with_reducible refine CU (dA _) ?_)
 | (with_reducible refine CU (tH _ _) ?_)
 | (with_reducible refine bY (l:=2) (by with_unfolding_all rfl) ?_)
 | (with_reducible refine bY (l:=4) (by with_unfolding_all rfl) ?_)
 | (with_reducible refine bY (l:=5) (by with_unfolding_all rfl) ?_)
 | (with_reducible first | refine bD fun hc=> ?_ | refine bE fun hc=> ?_ | refine bF (fun hc=> ?_) fun hc=> ?_) <;> (try simp only [hc,bs, ↓reduceIte]at h) <;> try simp only [hc]
 | (with_reducible refine aH hQ ?_;(try cases h);simp only [aA,aB,bM,bN,go_sem,hC,hE,hF,hM,ez,hb.1.1.1,hb.1.1.2,hb.1.2,hb.2,hc,hL,e1,e2,e3,mV,hw];repeat' (first | exact Ok.out | with_reducible refine aJ ?_ ?_ | (simp;done))))
  ·repeat' (first
 | simp only [go_sem,hC,hE,hF,hM,ez,hb.1.1.1,hb.1.1.2,hb.1.2,hb.2,hc,hL,e1,e2,e3,mV,hw]
 | (with_reducible refine CU (gJ _ _) ?_)
 | (with_reducible refine CU (dA _) ?_)
 | (with_reducible refine CU (tH _ _) ?_)
 | (with_reducible refine bY (l:=2) (by with_unfolding_all rfl) ?_)
 | (with_reducible refine bY (l:=4) (by with_unfolding_all rfl) ?_)
 | (with_reducible refine bY (l:=5) (by with_unfolding_all rfl) ?_)
 | (with_reducible first | refine bD fun hc=> ?_ | refine bE fun hc=> ?_ | refine bF (fun hc=> ?_) fun hc=> ?_) <;> (try simp only [hc,bs, ↓reduceIte]at h) <;> try simp only [hc]
 | (with_reducible refine aH hQ ?_;(try cases h);simp only [aA,aB,bM,bN,go_sem,hC,hE,hF,hM,ez,hb.1.1.1,hb.1.1.2,hb.1.2,hb.2,hc,hL,e1,e2,e3,mV,hw];repeat' (first | exact Ok.out | with_reducible refine aJ ?_ ?_ | (simp;done))))
 ·have mV:decide ((k:Int) > 8)=false:=by simp;omega
  have fin:text.drop (pos+k)=(c::r).drop k:=by rw [← h1,List.drop_drop]
  have sQ:((c::r).drop k).length<n:=by rw [List.length_drop];omega
  simp only [hz, ↓reduceIte,hlen]at h
  by_cases qB:out.length=2000
  ·have ju:((out.length:Int)==2000)=true:=by simp [qB]
   simp only [qB, ↓reduceIte]at h
   cases hw:isWord ((c::r).take k)
   ·repeat' (first
 | simp only [go_sem,hC,hE,hF,hM,ez,hb.1.1.1,hb.1.1.2,hb.1.2,hb.2,hc,hL,e1,e2,e3,mV,ju,hw]
 | (with_reducible refine CU (gJ _ _) ?_)
 | (with_reducible refine CU (dA _) ?_)
 | (with_reducible refine CU (tH _ _) ?_)
 | (with_reducible refine bY (l:=2) (by with_unfolding_all rfl) ?_)
 | (with_reducible refine bY (l:=4) (by with_unfolding_all rfl) ?_)
 | (with_reducible refine bY (l:=5) (by with_unfolding_all rfl) ?_)
 | (with_reducible first | refine bD fun hc=> ?_ | refine bE fun hc=> ?_ | refine bF (fun hc=> ?_) fun hc=> ?_) <;> (try simp only [hc,bs, ↓reduceIte]at h) <;> try simp only [hc]
 | (with_reducible refine aH hQ ?_;(try cases h);simp only [aA,aB,bM,bN,go_sem,hC,hE,hF,hM,ez,hb.1.1.1,hb.1.1.2,hb.1.2,hb.2,hc,hL,e1,e2,e3,mV,ju,hw];repeat' (first | exact Ok.out | with_reducible refine aJ ?_ ?_ | (simp;done))))
   ·repeat' (first
 | simp only [go_sem,hC,hE,hF,hM,ez,hb.1.1.1,hb.1.1.2,hb.1.2,hb.2,hc,hL,e1,e2,e3,mV,ju,hw]
 | (with_reducible refine CU (gJ _ _) ?_)
 | (with_reducible refine CU (dA _) ?_)
 | (with_reducible refine CU (tH _ _) ?_)
 | (with_reducible refine bY (l:=2) (by with_unfolding_all rfl) ?_)
 | (with_reducible refine bY (l:=4) (by with_unfolding_all rfl) ?_)
 | (with_reducible refine bY (l:=5) (by with_unfolding_all rfl) ?_)
 | (with_reducible first | refine bD fun hc=> ?_ | refine bE fun hc=> ?_ | refine bF (fun hc=> ?_) fun hc=> ?_) <;> (try simp only [hc,bs, ↓reduceIte]at h) <;> try simp only [hc]
 | (with_reducible refine aH hQ ?_;(try cases h);simp only [aA,aB,bM,bN,go_sem,hC,hE,hF,hM,ez,hb.1.1.1,hb.1.1.2,hb.1.2,hb.2,hc,hL,e1,e2,e3,mV,ju,hw];repeat' (first | exact Ok.out | with_reducible refine aJ ?_ ?_ | (simp;done))))
  ·have ju:((out.length:Int)==2000)=false:=by simp;omega
   have z7 : ∀ t:bA,(out++ [t]).length≤2000:=by intro t;simp;omega
   simp only [qB, ↓reduceIte]at h
   cases hw:isWord ((c::r).take k)
   ·simp only [hw,Bool.false_eq_true, ↓reduceIte]at h
    repeat' (first
 | simp only [go_sem,hC,hE,hF,hM,ez,hb.1.1.1,hb.1.1.2,hb.1.2,hb.2,hc,hL,e1,e2,e3,mV,ju,fC,hw]
 | (with_reducible refine CU (gJ _ _) ?_)
 | (with_reducible refine CU (dA _) ?_)
 | (with_reducible refine CU (tH _ _) ?_)
 | (with_reducible refine bY (l:=2) (by with_unfolding_all rfl) ?_)
 | (with_reducible refine bY (l:=4) (by with_unfolding_all rfl) ?_)
 | (with_reducible refine bY (l:=5) (by with_unfolding_all rfl) ?_)
 | (refine IH.to hB fin h sQ (z7 _) (by omega) (Nat.lt_succ_self _) ?_ ?_ ?_ <;> ((try simp only [go_sem,hC,hE,hF,hM]);repeat' (first | exact Ok.out | with_reducible refine aJ ?_ ?_ | omega | (simp;done)));done)
 | (with_reducible first | refine bD fun hc=> ?_ | refine bE fun hc=> ?_ | refine bF (fun hc=> ?_) fun hc=> ?_) <;> (try simp only [hc,bs, ↓reduceIte]at h) <;> try simp only [hc]
 | (with_reducible refine aH hQ ?_;(try cases h);simp only [aA,aB,bM,bN,go_sem,hC,hE,hF,hM,ez,hb.1.1.1,hb.1.1.2,hb.1.2,hb.2,hc,hL,e1,e2,e3,mV,ju,fC,hw];repeat' (first | exact Ok.out | with_reducible refine aJ ?_ ?_ | (simp;done))))
   ·simp only [hw, ↓reduceIte]at h
    repeat' (first
 | simp only [go_sem,hC,hE,hF,hM,ez,hb.1.1.1,hb.1.1.2,hb.1.2,hb.2,hc,hL,e1,e2,e3,mV,ju,fC,hw]
 | (with_reducible refine CU (gJ _ _) ?_)
 | (with_reducible refine CU (dA _) ?_)
 | (with_reducible refine CU (tH _ _) ?_)
 | (with_reducible refine bY (l:=2) (by with_unfolding_all rfl) ?_)
 | (with_reducible refine bY (l:=4) (by with_unfolding_all rfl) ?_)
 | (with_reducible refine bY (l:=5) (by with_unfolding_all rfl) ?_)
 | (refine IH.to hB fin h sQ (z7 _) (by omega) (Nat.lt_succ_self _) ?_ ?_ ?_ <;> ((try simp only [go_sem,hC,hE,hF,hM]);repeat' (first | exact Ok.out | with_reducible refine aJ ?_ ?_ | omega | (simp;done)));done)
 | (with_reducible refine aH hQ ?_;simp only [aA,aB,bM,bN,go_sem,hC,hE,hF,hM];repeat' (first | exact Ok.out | with_reducible refine aJ ?_ ?_ | (simp;done))))
end Go.Abs

/-! RefLex1 -/

namespace Go.Abs
set_option maxRecDepth 8000
open Go.Proofs
theorem GN (c:UInt8) (s:St):aD Tryz.prog qd [.int .u8 (c.toNat:Int)] s (.bool (mq c)) s:=by
 refine aD.pure ?_ rfl rfl s
 generalize h:mq c=b
 unfold mq at h
 unfold S0
 refine aD.go Dc rfl fun B Q hB hQ=> ?_
 have⟨hC,hE,hF,hM⟩:=bL
 repeat' (first
 | simp only [go_sem,hC,hE,hF,hM]
 | (with_reducible first | refine bD fun hc=> ?_ | refine bE fun hc=> ?_ | refine bF (fun hc=> ?_) fun hc=> ?_) <;> (try simp only [hc,bs, ↓reduceIte]at h) <;> try simp only [hc]
 | (with_reducible refine aH hQ ?_;(try cases h);simp only [aA,aB,bM,bN,go_sem,hC,hE,hF,hM];repeat' (first | exact Ok.out | with_reducible refine aJ ?_ ?_ | (simp;done))))
theorem Sz (c:UInt8) (s:St):aD Tryz.prog tz [.int .u8 (c.toNat:Int)] s (.bool (j9 c)) s:=by
 refine aD.pure ?_ rfl rfl s
 generalize h:j9 c=b
 unfold j9 at h
 unfold S0
 refine aD.go Dd rfl fun B Q hB hQ=> ?_
 have⟨hC,hE,hF,hM⟩:=bL
 repeat' (first
 | simp only [go_sem,hC,hE,hF,hM]
 | (with_reducible first | refine bD fun hc=> ?_ | refine bE fun hc=> ?_ | refine bF (fun hc=> ?_) fun hc=> ?_) <;> (try simp only [hc,bs, ↓reduceIte]at h) <;> try simp only [hc]
 | (with_reducible refine aH hQ ?_;(try cases h);simp only [aA,aB,bM,bN,go_sem,hC,hE,hF,hM];repeat' (first | exact Ok.out | with_reducible refine aJ ?_ ?_ | (simp;done))))
theorem WK (s:St):aD Tryz.prog tA [] s (.slice .shared 1 [[.str [103,108,111,98,97,108]],[.str [112,114,111,99]],[.str [118,97,114]],[.str [114,101,102]],[.str [105,102]],[.str [101,108,115,101]],[.str [119,104,105,108,101]],[.str [98,114,101,97,107]],[.str [99,111,110,116,105,110,117,101]],[.str [114,101,116,117,114,110]],[.str [103,111,116,111]],[.str [114,101,97,100]],[.str [112,114,105,110,116]]]) s:=by
 refine aD.pure ?_ rfl rfl s
 unfold S0
 refine aD.go De rfl fun B Q hB hQ=> ?_
 have⟨hC,hE,hF,hM⟩:=bL
 repeat' (first
 | simp only [go_sem,hC,hE,hF,hM]
 | (with_reducible refine aH hQ ?_;simp only [aA,aB,Option.some.injEq,exists_eq_left',go_sem,hC,hE,hF,hM];repeat' (first | exact Ok.out | with_reducible refine aJ ?_ ?_ | (simp;done))))
def zt (s:ay):Bool:=
 [103,108,111,98,97,108] == s || [112,114,111,99] == s || [118,97,114] == s || [114,101,102] == s || [105,102] == s || [101,108,115,101] == s || [119,104,105,108,101] == s || [98,114,101,97,107] == s || [99,111,110,116,105,110,117,101] == s || [114,101,116,117,114,110] == s || [103,111,116,111] == s || [114,101,97,100] == s || [112,114,105,110,116] == s
theorem Ml (s:ay):zt s=isWord s:=by
 have e : ∀ a:ay,(a==s)=(s==a):=fun a=>BEq.comm
 simp only [zt,isWord,e]
theorem WL (text:ay) (s:St):aD Tryz.prog vu [.str text] s (.bool (isWord text)) s:=by
 refine aD.pure ?_ rfl rfl s
 rw [← Ml]
 generalize h:zt text=p
 unfold zt at h
 unfold S0
 refine aD.go EU rfl fun B Q hB hQ=> ?_
 have⟨hC,hE,hF,hM⟩:=bL
 repeat' (first
 | simp only [go_sem,hC,hE,hF,hM,Int.cast_ofNat_Int,dJ,Int.reduceAdd,Int.reduceLT,Int.reduceNeg,decide_true,decide_false,Int.reduceToNat]
 | (with_reducible refine CU (WK _) ?_)
 | (with_reducible refine bw.wY ?_)
 | (with_reducible first | refine bD fun hc=> ?_ | refine bE fun hc=> ?_ | refine bF (fun hc=> ?_) fun hc=> ?_) <;> (try simp only [hc,bs, ↓reduceIte]at h) <;> try simp only [hc]
 | (with_reducible refine aH hQ ?_;(try cases h);simp only [aA,aB,bM,bN,go_sem,hC,hE,hF,hM,Int.cast_ofNat_Int,dJ,Int.reduceAdd,Int.reduceLT,Int.reduceNeg,decide_true,decide_false,Int.reduceToNat];repeat' (first | exact Ok.out | with_reducible refine aJ ?_ ?_ | (simp;done))))
end Go.Abs

/-! Prs2 -/

namespace Go.Abs
set_option maxRecDepth 8000
open Go.Proofs
theorem alO {t:bA} {p:Int×Int} (h:fw t=p):aD Tryz.prog sO [.agg (dU t)] S0 (.tuple [.int .i64 p.1, .int .i64 p.2]) S0:=by
 unfold fw at h
 unfold S0
 refine aD.go GC rfl fun B Q hB hQ=> ?_
 have⟨hC,hE,hF,hM⟩:=bL
 repeat' (first
 | simp only [go_sem,hC,hE,hF,hM]
 | (with_reducible first | refine bD fun hc=> ?_ | refine bE fun hc=> ?_ | refine bF (fun hc=> ?_) fun hc=> ?_) <;> (try simp only [hc,bs, ↓reduceIte]at h) <;> try simp only [hc]
 | (with_reducible refine aH hQ ?_;(try cases h);simp only [aA,aB,bM,bN,go_sem,hC,hE,hF,hM];repeat' (first | exact Ok.out | with_reducible refine aJ ?_ ?_ | (simp;done))))
theorem WM : ∀ n,n<4611686018427387904→∀ x:Ex,x.size≤n→aD Tryz.prog kW [.agg (bC x)] S0 (.int .i64 (x.depth:Int)) S0:=by
 intro n
 induction n with
 | zero=>rintro _ ⟨op,m,name,kids⟩ h;simp only [Ex.size]at h;omega
 | succ n ZT=>
 rintro hn ⟨op,m,name,kids⟩ hx
 have hk : ∀ y∈kids,aD Tryz.prog kW [.agg (bC y)] S0 (.int .i64 (y.depth:Int)) S0:=fun y hy=>ZT (by omega) y (by simp only [Ex.size]at hx;have:=Ex.cd hy;omega)
 have hlen:kids.length<4611686018427387904:=by simp only [Ex.size]at hx;have:=Ex.c9 kids;omega
 have Kw:Ex.fS kids<4611686018427387904:=by have:=Ex.LM _ _ hx;simp only [Ex.depth]at this;omega
 unfold S0
 refine aD.go BK rfl fun B Q hB hQ=> ?_
 have⟨hC,hE,hF,hM⟩:=bL
 repeat' (first
 | simp only [go_sem,hC,hE,hF,hM]
 | (with_reducible first | refine bD fun hc=> ?_ | refine bE fun hc=> ?_ | refine bF (fun hc=> ?_) fun hc=> ?_) <;> (try simp only [hc,bs, ↓reduceIte]at h) <;> try simp only [hc]
 | (with_reducible refine aH hQ ?_;simp only [aA,aB,bM,bN,go_sem,hC,hE,hF,hM];repeat' (first | exact Ok.out | with_reducible refine aJ ?_ ?_ | (simp;done))))
 refine dc 0 0 (bw.ind (ι:=List Ex×Nat×Nat) (fun i=>kids.drop i.2.1=i.1∧max i.2.2 (Ex.fS i.1)=Ex.fS kids) (fun i=>i.1.length)
  (fun i=> [(3, .int .i64 (i.2.2:Int)),(7, .slice .shared 4 (kids.map bC)),(8, .int .i64 (kids.length:Int)),(9, .int .i64 (i.2.1:Int))]) (fun _=>S0) ?_ (kids,0,0) ⟨rfl,by simp⟩)
 rintro⟨rest,k,acc⟩ ⟨h1,h2⟩ IH
 unfold S0
 cases rest with
 | nil=>
  have hC:=drop_nil h1
  simp only [Ex.fS,Nat.max_zero]at h2
  subst h2
  repeat' (first
 | simp only [go_sem,hC,hE,hF,hM,aP Kw,Ex.depth]
 | (with_reducible first | refine bD fun hc=> ?_ | refine bE fun hc=> ?_ | refine bF (fun hc=> ?_) fun hc=> ?_) <;> (try simp only [hc,bs, ↓reduceIte]at h) <;> try simp only [hc]
 | (with_reducible refine aH hQ ?_;simp only [aA,aB,bM,bN,go_sem,hC,hE,hF,hM,aP Kw,Ex.depth];repeat' (first | exact Ok.out | with_reducible refine aJ ?_ ?_ | (simp;done))))
 | cons y rest=>
  obtain⟨g1,g2,hC,g4⟩:=drop_cons h1
  simp only [Ex.fS]at h2
  have hy:=fun s=>(hk y (List.mem_of_getElem? g1)).pure (by simp [D.bT,D.ok,gH]) rfl s
  dsimp only at g1 g2 hC g4 h2
  repeat' (first
 | simp only [go_sem,hC,hE,hF,hM,g1]
 | (with_reducible refine CU (hy _) ?_)
 | (with_reducible refine aH hQ ?_;simp only [aA,aB,bM,bN,go_sem,hC,hE,hF,hM];repeat' (first | exact Ok.out | with_reducible refine aJ ?_ ?_ | (simp;done))))
  refine dV 0 0 ?_ ?_ (IH (rest,k+1,max acc y.depth) ⟨g2,by dsimp only;omega⟩ (by simp))
  ·(simp only [go_sem,hC,hE,hF,hM,mx,aP (show k<4611686018427387904 by omega)];try exact bR)
  ·(simp only [go_sem,hC,hE,hF,hM,mx,aP (show k<4611686018427387904 by omega)];try exact bR)
theorem WN {x:Ex} {d:Int} (h:yJ x=some d) (s:St):aD Tryz.prog kW [.agg (bC x)] s (.int .i64 d) s:=by
 unfold yJ at h
 split at h
 ·cases h;exact(WM x.size ‹_› x (Nat.le_refl _)).pure (by simp [D.bT,D.ok,gH]) rfl s
 ·cases h
theorem alP (t:bA) (s:St):aD Tryz.prog sO [.agg (dU t)] s (.tuple [.int .i64 (fw t).1, .int .i64 (fw t).2]) s:=(alO rfl).pure rfl rfl s
theorem ads {c:Prop} [Decidable c] {α:Type} {P:α→Prop} {a b:α} (ha:P a) (hb:P b):P (if c then a else b):=by
 by_cases h:c
 ·rw [if_pos h];exact ha
 ·rw [if_neg h];exact hb
def OpR (p:Int×Int):Prop:=0≤p.2∧p.2≤6
theorem SA (t:bA):OpR (fw t):=by
 unfold fw
 repeat' with_reducible refine ads (P:=OpR) ?_ ?_
 all_goals exact⟨by decide,by decide⟩
theorem I9 (t:bA):IntKind.wrap .i64 ((fw t).2+1)=(fw t).2+1:=by
 have:0≤(fw t).2∧(fw t).2≤6:=SA t
 rw [dJ] <;> omega
abbrev Fi (m:Nat):Prop:=∀ {r:Rd} {p:Ex×Rd},Rd.one m r=some p→∀ {s:St} {o:Nat},s.az[o]? = some (cb r)→aD Tryz.prog jn [.ptr o 0] s (.agg (bC p.1)) ⟨s.az.set o (cb p.2),s.aC⟩
abbrev Fj (m:Nat):Prop:=∀ {k:Int} {r:Rd} {p:Ex×Rd},Rd.two m k r=some p→∀ {s:St} {o:Nat},s.az[o]? = some (cb r)→aD Tryz.prog ig [.ptr o 0, .int .i64 k] s (.agg (bC p.1)) ⟨s.az.set o (cb p.2),s.aC⟩
theorem SB {m:Nat} (Fk:Fi m) (BS:Fj m):Fi (m+1):=by
 intro r p h s o ho
 refine aD.jB ?_ rfl (e9 r) (e9 p.2) (by simp [D.ok,gH]) ho
 unfold Rd.one at h
 refine aD.go xd rfl fun B Q hB hQ=> ?_
 have⟨hC,hE,hF,hM⟩:=bL
 repeat' (first
 | simp only [go_sem,hC,hE,hF,hM]
 | (rw [Option.bind_eq_some_iff]at h;obtain⟨_,h1,h⟩:=h;first | (with_reducible refine CU (nW h1 (by with_unfolding_all rfl)) ?_;have hC:=qR h1) | (with_reducible refine CU (rN h1 (by with_unfolding_all rfl)) ?_) | (with_reducible refine CU (BS h1 (by with_unfolding_all rfl)) ?_) | (with_reducible refine CU (oQ h1 (by with_unfolding_all rfl)) ?_) | (with_reducible refine CU (Fk h1 (by with_unfolding_all rfl)) ?_) | (with_reducible refine CU (BR h1 (by with_unfolding_all rfl)) ?_))
 | (with_reducible refine CU (jM (by with_unfolding_all rfl)) ?_)
 | (with_reducible first | refine bD fun hc=> ?_ | refine bE fun hc=> ?_ | refine bF (fun hc=> ?_) fun hc=> ?_) <;> (try simp only [hc,bs, ↓reduceIte]at h) <;> try simp only [hc]
 | (with_reducible refine aH hQ ?_;(try cases h);simp only [aA,aB,bM,bN,go_sem,hC,hE,hF,hM];repeat' (first | exact Ok.out | with_reducible refine aJ ?_ ?_ | (simp;done))))
theorem SC {m:Nat} (Fk:Fi m) (BS : ∀ j<m,Fj j):Fj (m+1):=by
 intro k r p h s o ho
 refine aD.jB ?_ rfl (e9 r) (e9 p.2) (by simp [D.ok,gH]) ho
 unfold Rd.two at h
 refine aD.go xc rfl fun B Q hB hQ=> ?_
 have⟨hC,hE,hF,hM⟩:=bL
 repeat' (first
 | simp only [go_sem,hC,hE,hF,hM]
 | (rw [Option.bind_eq_some_iff]at h;obtain⟨_,h1,h⟩:=h;first | (with_reducible refine CU (Fk h1 (by with_unfolding_all rfl)) ?_))
 | (with_reducible refine aH hQ ?_;simp only [aA,aB,bM,bN,go_sem,hC,hE,hF,hM];repeat' (first | exact Ok.out | with_reducible refine aJ ?_ ?_ | (simp;done))))
 refine dc 3 0 (bw.ind (ι:=Nat×Ex×Rd) (fun i=>Rd.jD i.1 k i.2.1 i.2.2=some p∧i.1≤m) (fun i=>i.1)
  (fun i=> [(0, .ptr 0 0),(1, .int .i64 k),(4, .ptr 1 0),(5, .ptr 2 0)]) (fun i=>⟨[cb i.2.2,bC iG,bC i.2.1],[]⟩) ?_ (m,_,_) ⟨h,Nat.le_refl _⟩)
 rintro⟨n,x,r⟩ ⟨h,hn⟩ IH
 cases n with
 | zero=>simp only [Rd.jD]at h;cases h
 | succ n=>
  have adt:=@BS n (by omega)
  simp only [Rd.jD]at h
  repeat' (first
 | simp only [go_sem,hC,hE,hF,hM,I9]
 | (rw [Option.bind_eq_some_iff]at h;obtain⟨_,h1,h⟩:=h;first | (with_reducible refine CU (nW h1 (by with_unfolding_all rfl)) ?_;have hC:=qR h1) | (with_reducible refine CU (adt h1 (by with_unfolding_all rfl)) ?_))
 | (with_reducible refine CU (jM (by with_unfolding_all rfl)) ?_)
 | (with_reducible refine CU (alP _ _) ?_)
 | (with_reducible first | refine bD fun hc=> ?_ | refine bE fun hc=> ?_ | refine bF (fun hc=> ?_) fun hc=> ?_) <;> (try simp only [hc,bs, ↓reduceIte]at h) <;> try simp only [hc]
 | (with_reducible refine aH hQ ?_;(try cases h);simp only [aA,aB,bM,bN,go_sem,hC,hE,hF,hM,I9];repeat' (first | exact Ok.out | with_reducible refine aJ ?_ ?_ | (simp;done))))
  refine dc 3 0 (IH (n,_,_) ⟨h,by dsimp only at hn ⊢;omega⟩ (Nat.lt_succ_self _))
theorem WO : ∀ n,∀ m<n,Fi m∧Fj m:=by
 intro n
 induction n with
 | zero=>intro m h;exact absurd h (Nat.not_lt_zero _)
 | succ n ih=>
  intro m h
  cases m with
  | zero=>
   refine⟨?_, ?_⟩
   ·intro r p h;simp only [Rd.one]at h;cases h
   ·intro k r p h;simp only [Rd.two]at h;cases h
  | succ m=>
   have hm:=ih m (by omega)
   exact⟨SB hm.1 hm.2,SC hm.1 fun j hj=>(ih j (by omega)).2⟩
theorem BS {m:Nat} {k:Int} {r:Rd} {p:Ex×Rd} (h:Rd.two m k r=some p) {s:St} {o:Nat} (ho:s.az[o]? = some (cb r)) :
 aD Tryz.prog ig [.ptr o 0, .int .i64 k] s (.agg (bC p.1)) ⟨s.az.set o (cb p.2),s.aC⟩:=(WO (m+1) m (Nat.lt_succ_self _)).2 h ho
theorem zu {n:Nat} {r:Rd} {p:Ex×Rd} (h:Rd.whole n r=some p) {s:St} {o:Nat} (ho:s.az[o]? = some (cb r)) :
 aD Tryz.prog fx [.ptr o 0] s (.agg (bC p.1)) ⟨s.az.set o (cb p.2),s.aC⟩:=by
 refine aD.jB ?_ rfl (e9 r) (e9 p.2) (by simp [D.ok,gH]) ho
 unfold Rd.whole at h
 refine aD.go vC rfl fun B Q hB hQ=> ?_
 have⟨hC,hE,hF,hM⟩:=bL
 repeat' (first
 | simp only [go_sem,hC,hE,hF,hM]
 | (rw [Option.bind_eq_some_iff]at h;obtain⟨_,h1,h⟩:=h;first | (with_reducible refine CU (nW h1 (by with_unfolding_all rfl)) ?_) | (with_reducible refine CU (WN h1 _) ?_) | (with_reducible refine CU (BS h1 (by with_unfolding_all rfl)) ?_))
 | (with_reducible refine CU (jM (by with_unfolding_all rfl)) ?_)
 | (with_reducible first | refine bD fun hc=> ?_ | refine bE fun hc=> ?_ | refine bF (fun hc=> ?_) fun hc=> ?_) <;> (try simp only [hc,bs, ↓reduceIte]at h) <;> try simp only [hc]
 | (with_reducible refine aH hQ ?_;(try cases h);simp only [aA,aB,bM,bN,go_sem,hC,hE,hF,hM];repeat' (first | exact Ok.out | with_reducible refine aJ ?_ ?_ | (simp;done))))
end Go.Abs

/-! Ref1 -/

namespace Go.Abs
set_option maxRecDepth 8000
open Go.Proofs
@[go_sem] def uK (z:D) (r:Rd):List D:= [.slice .shared 4 (r.l.map dU), .int .i64 r.i, .int .i64 r.code, .int .i64 r.jk,z]
class Cell (z:D):Prop where
 ok:D.ok 0 0 z=true
 fg : ∀ n m,D.fg n m z=z
instance (n:Int):Cell (.int .i64 n):=⟨rfl,fun _ _=>rfl⟩
instance:Cell .junk:=⟨rfl,fun _ _=>rfl⟩
theorem WQ (z:D) [h:Cell z] (n m:Nat):D.fg n m z=z:=h.fg n m
attribute [go_sem] WQ
def Rd.isO (text:ay) (r:Rd):Option Bool:=if r.good then r.is text else some false
end Go.Abs

/-! Ref2 -/

namespace Go.Abs
set_option maxRecDepth 8000
open Go.Proofs
def ZU (s:ay):Int×Int:=
 if [42] == s then(6,5)else if [47] == s then(6,6)else if [37] == s then(6,7)else if [43] == s then(5,8)else if [45] == s then(5,9)
 else if [60] == s then(4,10)else if [60,61] == s then(4,11)else if [62] == s then(4,12)else if [62,61] == s then(4,13)
 else if [61,61] == s then(3,14)else if [33,61] == s then(3,15)else if [38,38] == s then(2,16)else if [124,124] == s then(1,17)else(0,0)
abbrev ams (m:Nat):Prop:=∀ {z:D} [Cell z] {r:Rd} {p:Ex×Rd},Rd.one m r=some p→∀ {s:St} {o:Nat},s.az[o]? = some (uK z r)→aD Tryz.prog CQ [.ptr o 0] s (.agg (bC p.1)) ⟨s.az.set o (uK z p.2),s.aC⟩
abbrev asc (m:Nat):Prop:=∀ {z:D} [Cell z] {k:Int} {x:Ex} {r:Rd} {p:Ex×Rd},Rd.jD m k x r=some p→∀ {s:St} {o:Nat},s.az[o]? = some (uK z r)→aD Tryz.prog EM [.ptr o 0, .agg (bC x), .int .i64 k] s (.agg (bC p.1)) ⟨s.az.set o (uK z p.2),s.aC⟩
def BZ (p:Int×Int):Prop:=(p.2==0)=(p.1==0)
end Go.Abs

/-! Ref3 -/

namespace Go.Abs
set_option maxRecDepth 8000
open Go.Proofs
theorem ZV : ∀ (dL:Nat),dL<1000000→∀ x:Ex,x.size<4611686018427387904→∀ s:St,aD Tryz.prog oN [.agg (bC x), .int .i64 (dL:Int)] s (.int .i64 ((min x.depth (dL+1):Nat):Int)) s:=by
 intro dL
 induction dL with
 | zero=>
  rintro _ ⟨op,m,name,kids⟩ hx s
  refine aD.pure ?_ (by simp [D.bT,D.ok,gH]) rfl s
  have hz:((0:Int)==0)=true:=rfl
  have e:min (Ex.depth ⟨op,m,name,kids⟩) (0+1)=1:=by simp only [Ex.depth];omega
  rw [e]
  unfold S0
  refine aD.go xR rfl fun B Q hB hQ=> ?_
  have⟨hC,hE,hF,hM⟩:=bL
  repeat' (first
 | simp only [go_sem,hC,hE,hF,hM,hz]
 | (with_reducible refine aH hQ ?_;simp only [aA,aB,Option.some.injEq,exists_eq_left',go_sem,hC,hE,hF,hM];repeat' (first | exact Ok.out | with_reducible refine aJ ?_ ?_ | (simp;done))))
 | succ dL ih=>
  rintro atN ⟨op,m,name,kids⟩ hx s
  refine aD.pure ?_ (by simp [D.bT,D.ok,gH]) rfl s
  have hlen:kids.length<4611686018427387904:=by simp only [Ex.size]at hx;have:=Ex.c9 kids;omega
  have hk : ∀ y∈kids,∀ s,aD Tryz.prog oN [.agg (bC y), .int .i64 (dL:Int)] s (.int .i64 ((min y.depth (dL+1):Nat):Int)) s:=fun y hy s=>
   ih (by omega) y (by simp only [Ex.size]at hx;have:=Ex.cd hy;omega) s
  have hz:(((dL+1:Nat):Int)==0)=false:=by simp;omega
  have w1:IntKind.wrap .i64 (((dL+1:Nat):Int) - 1)=(dL:Int):=by rw [dJ] <;> omega
  unfold S0
  refine aD.go xR rfl fun B Q hB hQ=> ?_
  have⟨hC,hE,hF,hM⟩:=bL
  repeat' (first
 | simp only [go_sem,hC,hE,hF,hM,hz]
 | (with_reducible refine aH hQ ?_;simp only [aA,aB,Option.some.injEq,exists_eq_left',go_sem,hC,hE,hF,hM];repeat' (first | exact Ok.out | with_reducible refine aJ ?_ ?_ | (simp;done))))
  refine dc 1 0 (bw.ind (ι:=List Ex×Nat×Nat) (fun i=>kids.drop i.2.1=i.1∧i.2.2≤dL+1∧min (max i.2.2 (Ex.fS i.1)) (dL+1)=min (Ex.fS kids) (dL+1)) (fun i=>i.1.length)
   (fun i=> [(1, .int .i64 ((dL+1:Nat):Int)),(2, .ptr 0 0),(5, .int .i64 (i.2.2:Int)),(6, .int .i64 (i.2.1:Int))]) (fun i=>⟨[bC ⟨op,m,name,kids⟩],[]⟩) ?_ (kids,0,0) ⟨rfl,Nat.zero_le _,by simp⟩)
  rintro⟨rest,k,d⟩ ⟨h1,h2,h3⟩ IH
  dsimp only at h1 h2 h3
  have hd:min (Ex.depth ⟨op,m,name,kids⟩) (dL+1+1)=min (Ex.fS kids) (dL+1)+1:=by simp only [Ex.depth];omega
  rw [hd, ← h3]at hQ
  have w2:IntKind.wrap .i64 ((d:Int)+1)=((d+1:Nat):Int):=by rw [dJ] <;> omega
  by_cases aug:d<dL+1
  ·have c2:decide ((d:Int)<((dL+1:Nat):Int))=true:=by simp;omega
   cases rest with
   | nil=>
    have hC:=drop_nil h1
    simp only [Ex.fS,Nat.max_zero]at hQ
    have e:min d (dL+1)=d:=by omega
    rw [e]at hQ
    repeat' (first
 | simp only [go_sem,hC,hE,hF,hM,c2,w2]
 | (with_reducible refine aH hQ ?_;simp only [aA,aB,Option.some.injEq,exists_eq_left',go_sem,hC,hE,hF,hM];repeat' (first | exact Ok.out | with_reducible refine aJ ?_ ?_ | (simp;done))))
   | cons y rest=>
    obtain⟨hE,g2,hC,g4⟩:=drop_cons h1
    have hy:=hk y (List.mem_of_getElem? hE)
    simp only [Ex.fS]at h3
    have bS:k<4611686018427387904:=by omega
    by_cases mV:min y.depth (dL+1) > d
    ·have c3:decide (((min y.depth (dL+1):Nat):Int) > (d:Int))=true:=by simp only [decide_eq_true_eq];omega
     repeat' (first
 | simp only [go_sem,hC,hE,hF,hM,c2,w1,c3]
 | (with_reducible refine CU (hy _) ?_)
 | (with_reducible refine aH hQ ?_;simp only [aA,aB,Option.some.injEq,exists_eq_left',go_sem,hC,hE,hF,hM];repeat' (first | exact Ok.out | with_reducible refine aJ ?_ ?_ | (simp;done))))
     refine dV 1 0 ?_ ?_ (IH (rest,k+1,min y.depth (dL+1)) ⟨g2,by dsimp only;omega,by dsimp only;omega⟩ (Nat.lt_succ_self _))
     ·(simp only [go_sem,hC,hE,hF,hM,aP bS];try exact bR)
     ·(simp only [go_sem,hC,hE,hF,hM,aP bS];try exact bR)
    ·have c3:decide (((min y.depth (dL+1):Nat):Int) > (d:Int))=false:=by simp only [decide_eq_false_iff_not];omega
     repeat' (first
 | simp only [go_sem,hC,hE,hF,hM,c2,w1,c3]
 | (with_reducible refine CU (hy _) ?_)
 | (with_reducible refine aH hQ ?_;simp only [aA,aB,Option.some.injEq,exists_eq_left',go_sem,hC,hE,hF,hM];repeat' (first | exact Ok.out | with_reducible refine aJ ?_ ?_ | (simp;done))))
     refine dV 1 0 ?_ ?_ (IH (rest,k+1,d) ⟨g2,h2,by dsimp only;omega⟩ (Nat.lt_succ_self _))
     ·(simp only [go_sem,hC,hE,hF,hM,aP bS];try exact bR)
     ·(simp only [go_sem,hC,hE,hF,hM,aP bS];try exact bR)
  ·have c2:decide ((d:Int)<((dL+1:Nat):Int))=false:=by simp;omega
   have e:min (max d (Ex.fS rest)) (dL+1)=d:=by omega
   rw [e]at hQ
   cases rest with
   | nil=>
    have hC:=drop_nil h1
    repeat' (first
 | simp only [go_sem,hC,hE,hF,hM,c2,w2]
 | (with_reducible refine aH hQ ?_;simp only [aA,aB,Option.some.injEq,exists_eq_left',go_sem,hC,hE,hF,hM];repeat' (first | exact Ok.out | with_reducible refine aJ ?_ ?_ | (simp;done))))
   | cons y rest=>
    obtain⟨hE,g2,hC,g4⟩:=drop_cons h1
    repeat' (first
 | simp only [go_sem,hC,hE,hF,hM,c2,w2]
 | (with_reducible refine aH hQ ?_;simp only [aA,aB,Option.some.injEq,exists_eq_left',go_sem,hC,hE,hF,hM];repeat' (first | exact Ok.out | with_reducible refine aJ ?_ ?_ | (simp;done))))
theorem SD : ∀ N,N<4611686018427387904→∀ x y:Ex,x.size≤N→∀ s:St,aD Tryz.prog jF [.agg (bC x), .agg (bC y)] s (.bool (Ex.beq x y)) s:=by
 intro N
 induction N with
 | zero=>rintro _ ⟨op,m,name,kids⟩ y h;simp only [Ex.size]at h;omega
 | succ N ih=>
 rintro hN ⟨op,m,name,kids⟩ ⟨UT,m',o4,sK⟩ hx s
 refine aD.pure ?_ (by simp [D.bT,D.ok,gH]) rfl s
 have hk : ∀ a∈kids,∀ b s,aD Tryz.prog jF [.agg (bC a), .agg (bC b)] s (.bool (Ex.beq a b)) s:=fun a ha b s=>
  ih (by omega) a b (by simp only [Ex.size]at hx;have:=Ex.cd ha;omega) s
 have hlen:kids.length<4611686018427387904:=by simp only [Ex.size]at hx;have:=Ex.c9 kids;omega
 generalize h:Ex.beq ⟨op,m,name,kids⟩ ⟨UT,m',o4,sK⟩=p
 simp only [Ex.beq]at h
 unfold S0
 refine aD.go BM rfl fun B Q hB hQ=> ?_
 have⟨hC,hE,hF,hM⟩:=bL
 repeat' (first
 | simp only [go_sem,hC,hE,hF,hM]
 | (with_reducible first | refine bD fun hc=> ?_ | refine bE fun hc=> ?_ | refine bF (fun hc=> ?_) fun hc=> ?_) <;> (try simp only [hc,bs, ↓reduceIte]at h) <;> try simp only [hc]
 | (with_reducible refine aH hQ ?_;exact lJ)
 | (cases h;done))
 rename_i hl4
 have Vr:kids.length=sK.length:=by
  have:((kids.length:Int) != (sK.length:Int))=false:=by assumption
  simp only [bne_eq_false_iff_eq]at this
  omega
 refine dc 2 0 (bw.ind (ι:=List Ex×List Ex×Nat) (fun i=>kids.drop i.2.2=i.1∧sK.drop i.2.2=i.2.1∧Ex.fa i.1 i.2.1=p) (fun i=>i.1.length)
  (fun i=> [(2, .ptr 0 0),(3, .ptr 1 0),(36, .int .i64 (kids.length:Int)),(37, .int .i64 (i.2.2:Int))]) (fun i=>⟨[bC ⟨op,m,name,kids⟩,bC ⟨UT,m',o4,sK⟩],[]⟩) ?_ (kids,sK,0) ⟨rfl,rfl,h⟩)
 rintro⟨r1,r2,k⟩ ⟨h1,h2,h⟩ IH
 dsimp only at h1 h2 h
 cases r1 with
 | nil=>
  have hC:=drop_nil h1
  simp only [Ex.fa]at h
  repeat' (first
 | simp only [go_sem,hC,hE,hF,hM]
 | (with_reducible first | refine bD fun hc=> ?_ | refine bE fun hc=> ?_ | refine bF (fun hc=> ?_) fun hc=> ?_) <;> (try simp only [hc,bs, ↓reduceIte]at h) <;> try simp only [hc]
 | (with_reducible refine aH hQ ?_;exact lJ)
 | (cases h;done))
 | cons a r1=>
  obtain⟨hE,g2,hC,g4⟩:=drop_cons h1
  cases r2 with
  | nil=>have:=List.drop_eq_nil_iff.1 h2;omega
  | cons b r2=>
   obtain⟨mr,b2,_,_⟩:=drop_cons h2
   have bS:k<4611686018427387904:=by omega
   have Aa:=hk a (List.mem_of_getElem? hE)
   simp only [Ex.fa]at h
   repeat' (first
 | simp only [go_sem,hC,hE,hF,hM,mr]
 | (with_reducible refine CU (Aa _ _) ?_)
 | (with_reducible first | refine bD fun hc=> ?_ | refine bE fun hc=> ?_ | refine bF (fun hc=> ?_) fun hc=> ?_) <;> (try simp only [hc,bs, ↓reduceIte]at h) <;> try simp only [hc]
 | (with_reducible refine aH hQ ?_;(try cases h);simp only [aA,aB,bM,bN,go_sem,hC,hE,hF,hM,mr];try exact rH)
 | (cases h;done))
   refine dV 2 0 ?_ ?_ (IH (r1,r2,k+1) ⟨g2,b2,h⟩ (Nat.lt_succ_self _))
   ·(simp only [go_sem,hC,hE,hF,hM,aP bS];try exact bR)
   ·(simp only [go_sem,hC,hE,hF,hM,aP bS];try exact bR)
theorem GO {x y:Ex} (hx:x.size<4611686018427387904) (s:St):aD Tryz.prog jF [.agg (bC x), .agg (bC y)] s (.bool (Ex.beq x y)) s:=SD _ hx x y (Nat.le_refl _) s
end Go.Abs

/-! RefMay1 -/

namespace Go.Abs
set_option maxRecDepth 8000
open Go.Proofs
theorem wq (text:ay) (hl:text.length<4611686018427387904) (s:St):aD Tryz.prog j8 [.str text] s (.bool (isName text)) s:=by
 refine aD.pure ?_ rfl rfl s
 unfold S0
 cases text with
 | nil=>
  have e:(([] : ay) == [])=true:=rfl
  refine aD.go xT rfl fun B Q hB hQ=> ?_
  have⟨hC,hE,hF,hM⟩:=bL
  repeat' (first
 | simp only [go_sem,hC,hE,hF,hM,e,isName]
 | (with_reducible first | refine bD fun hc=> ?_ | refine bE fun hc=> ?_ | refine bF (fun hc=> ?_) fun hc=> ?_) <;> (try simp only [hc,bs, ↓reduceIte]at h) <;> try simp only [hc]
 | (with_reducible refine aH hQ ?_;simp only [aA,aB,bM,bN,go_sem,hC,hE,hF,hM,e,isName];repeat' (first | exact Ok.out | with_reducible refine aJ ?_ ?_ | (simp;done))))
 | cons c r=>
  have e:((c::r) == [])=false:=rfl
  generalize h:isName (c::r)=p
  simp only [isName]at h
  refine aD.go xT rfl fun B Q hB hQ=> ?_
  have⟨hC,hE,hF,hM⟩:=bL
  repeat' (first
 | simp only [go_sem,hC,hE,hF,hM,e]
 | (with_reducible refine CU (GN _ _) ?_)
 | (with_reducible first | refine bD fun hc=> ?_ | refine bE fun hc=> ?_ | refine bF (fun hc=> ?_) fun hc=> ?_) <;> (try simp only [hc,bs, ↓reduceIte]at h) <;> try simp only [hc]
 | (with_reducible refine aH hQ ?_;(try cases h);simp only [aA,aB,bM,bN,go_sem,hC,hE,hF,hM,e];repeat' (first | exact Ok.out | with_reducible refine aJ ?_ ?_ | (simp;done))))
  refine dc 0 0 (bw.ind (ι:=ay×Nat) (fun i=>(c::r).drop i.2=i.1∧(if qk i.1 then !(isWord (c::r))else false)=p) (fun i=>i.1.length)
   (fun i=> [(0, .str (c::r)),(3, .int .i64 (i.2:Int))]) (fun i=>⟨[],[]⟩) ?_ (r,1) ⟨rfl,h⟩)
  rintro⟨rest,k⟩ ⟨h1,h⟩ IH
  dsimp only at h1 h
  cases rest with
  | nil=>
   have hC:=drop_nil h1
   simp only [List.length_cons]at hC
   simp only [qk, ↓reduceIte]at h
   repeat' (first
 | simp only [go_sem,hC,hE,hF,hM]
 | (with_reducible refine CU (WL _ _) ?_)
 | (with_reducible first | refine bD fun hc=> ?_ | refine bE fun hc=> ?_ | refine bF (fun hc=> ?_) fun hc=> ?_) <;> (try simp only [hc,bs, ↓reduceIte]at h) <;> try simp only [hc]
 | (with_reducible refine aH hQ ?_;(try cases h);simp only [aA,aB,bM,bN,go_sem,hC,hE,hF,hM];repeat' (first | exact Ok.out | with_reducible refine aJ ?_ ?_ | (simp;done))))
  | cons d rest=>
   obtain⟨hE,g2,hC,g4⟩:=drop_cons h1
   simp only [List.length_cons]at hC
   have hF:k<4611686018427387904:=by omega
   simp only [qk]at h
   repeat' (first
 | simp only [go_sem,hC,hE,hF,hM]
 | (with_reducible refine CU (GN _ _) ?_)
 | (with_reducible refine CU (Sz _ _) ?_)
 | (with_reducible first | refine bD fun hc=> ?_ | refine bE fun hc=> ?_ | refine bF (fun hc=> ?_) fun hc=> ?_) <;> (try simp only [hc,bs, ↓reduceIte]at h) <;> try simp only [hc]
 | (with_reducible refine aH hQ ?_;(try cases h);simp only [aA,aB,bM,bN,go_sem,hC,hE,hF,hM];repeat' (first | exact Ok.out | with_reducible refine aJ ?_ ?_ | (simp;done)))
 | (cases h;done))
   all_goals
    refine dc 0 0 (IH (rest,k+1) ⟨g2,h⟩ (Nat.lt_succ_self _))
theorem WR (op:Int) (s:St):aD Tryz.prog tB [.int .i64 op] s (.int .i64 (iO op)) s:=by
 refine aD.pure ?_ rfl rfl s
 unfold S0
 generalize h:iO op=p
 unfold iO at h
 refine aD.go Df rfl fun B Q hB hQ=> ?_
 have⟨hC,hE,hF,hM⟩:=bL
 repeat' (first
 | simp only [go_sem,hC,hE,hF,hM]
 | (with_reducible first | refine bD fun hc=> ?_ | refine bE fun hc=> ?_ | refine bF (fun hc=> ?_) fun hc=> ?_) <;> (try simp only [hc,bs, ↓reduceIte]at h) <;> try simp only [hc]
 | (with_reducible refine aH hQ ?_;(try cases h);simp only [aA,aB,bM,bN,go_sem,hC,hE,hF,hM];repeat' (first | exact Ok.out | with_reducible refine aJ ?_ ?_ | (simp;done))))
theorem SE {l:List ay} (hl:l.length<4611686018427387904) (hs : ∀ t∈l,t.length<4611686018427387904) (s:St):aD Tryz.prog tx [.slice .shared 1 (l.map encStr)] s (.bool (bX l)) s:=by
 refine aD.pure ?_ (by simp [D.bT,D.ok,eI,Tag.ok]) rfl s
 unfold S0
 generalize h:bX l=p
 refine aD.go Di rfl fun B Q hB hQ=> ?_
 have⟨hC,hE,hF,hM⟩:=bL
 repeat' (first
 | simp only [go_sem,hC,hE,hF,hM]
 | (with_reducible first | refine bD fun hc=> ?_ | refine bE fun hc=> ?_ | refine bF (fun hc=> ?_) fun hc=> ?_) <;> (try simp only [hc,bs, ↓reduceIte]at h) <;> try simp only [hc]
 | (with_reducible refine aH hQ ?_;(try cases h);simp only [aA,aB,bM,bN,go_sem,hC,hE,hF,hM];repeat' (first | exact Ok.out | with_reducible refine aJ ?_ ?_ | (simp;done))))
 refine dc 0 0 (bw.ind (ι:=List ay×Nat) (fun i=>l.drop i.2=i.1∧bX i.1=p) (fun i=>i.1.length)
  (fun i=> [(5, .slice .shared 1 (l.map encStr)),(6, .int .i64 (l.length:Int)),(7, .int .i64 (i.2:Int))]) (fun i=>⟨[],[]⟩) ?_ (l,0) ⟨rfl,h⟩)
 rintro⟨rest,k⟩ ⟨h1,h⟩ IH
 dsimp only at h1 h
 cases rest with
 | nil=>
  have hC:=drop_nil h1
  simp only [bX]at h
  repeat' (first
 | simp only [go_sem,hC,hE,hF,hM]
 | (with_reducible first | refine bD fun hc=> ?_ | refine bE fun hc=> ?_ | refine bF (fun hc=> ?_) fun hc=> ?_) <;> (try simp only [hc,bs, ↓reduceIte]at h) <;> try simp only [hc]
 | (with_reducible refine aH hQ ?_;(try cases h);simp only [aA,aB,bM,bN,go_sem,hC,hE,hF,hM];repeat' (first | exact Ok.out | with_reducible refine aJ ?_ ?_ | (simp;done))))
 | cons t rest=>
  obtain⟨hE,g2,hC,g4⟩:=drop_cons h1
  have hF:k<4611686018427387904:=by omega
  have hn:=wq t (hs t (List.mem_of_getElem? hE))
  simp only [bX]at h
  repeat' (first
 | simp only [go_sem,hC,hE,hF,hM]
 | (with_reducible refine CU (hn _) ?_)
 | (with_reducible first | refine bD fun hc=> ?_ | refine bE fun hc=> ?_ | refine bF (fun hc=> ?_) fun hc=> ?_) <;> (try simp only [hc,bs, ↓reduceIte]at h) <;> try simp only [hc]
 | (with_reducible refine aH hQ ?_;(try cases h);simp only [aA,aB,bM,bN,go_sem,hC,hE,hF,hM];repeat' (first | exact Ok.out | with_reducible refine aJ ?_ ?_ | (simp;done))))
  refine dc 0 0 (IH (rest,k+1) ⟨g2,h⟩ (Nat.lt_succ_self _))
theorem ZW : ∀ (n:Nat) (x:Ex),x.size≤n→x.size<4611686018427387904→x.texts→∀ s:St,aD Tryz.prog oO [.agg (bC x)] s (.bool x.form) s:=by
 intro n
 induction n with
 | zero=>rintro⟨op,m,name,kids⟩ h;simp only [Ex.size]at h;omega
 | succ n ih=>
  rintro⟨op,m,name,kids⟩ h hx ht s
  refine aD.pure ?_ (by simp [D.bT,D.ok,gH]) rfl s
  have hlen:kids.length<4611686018427387904:=by simp only [Ex.size]at hx;have:=Ex.c9 kids;omega
  have hk : ∀ y∈kids,∀ s,aD Tryz.prog oO [.agg (bC y)] s (.bool y.form) s:=fun y hy s=>
   ih y (by simp only [Ex.size]at h;have:=Ex.cd hy;omega) (by simp only [Ex.size]at hx;have:=Ex.cd hy;omega) (Ex.DW ht hy) s
  have hn:=wq name ht.1
  unfold S0
  generalize h:Ex.form ⟨op,m,name,kids⟩=p
  simp only [Ex.form]at h
  refine aD.go EX rfl fun B Q hB hQ=> ?_
  have⟨hC,hE,hF,hM⟩:=bL
  repeat' (first
 | simp only [go_sem,hC,hE,hF,hM]
 | (with_reducible refine CU (WR _ _) ?_)
 | (with_reducible refine CU (hn _) ?_)
 | (with_reducible first | refine bD fun hc=> ?_ | refine bE fun hc=> ?_ | refine bF (fun hc=> ?_) fun hc=> ?_) <;> (try simp only [hc,bs, ↓reduceIte]at h) <;> try simp only [hc]
 | (with_reducible refine aH hQ ?_;(try cases h);simp only [aA,aB,bM,bN,go_sem,hC,hE,hF,hM];repeat' (first | exact Ok.out | with_reducible refine aJ ?_ ?_ | (simp;done))))
  all_goals
   refine dc 1 0 (bw.ind (ι:=List Ex×Nat) (fun i=>kids.drop i.2=i.1∧Ex.lf i.1=p) (fun i=>i.1.length)
    (fun i=> [(1, .ptr 0 0),(48, .int .i64 (kids.length:Int)),(49, .int .i64 (i.2:Int))]) (fun i=>⟨[bC ⟨op,m,name,kids⟩],[]⟩) ?_ (kids,0) ⟨rfl,h⟩)
   rintro⟨rest,k⟩ ⟨h1,h⟩ IH
   dsimp only at h1 h
   cases rest with
   | nil=>
    have hC:=drop_nil h1
    simp only [Ex.lf]at h
    repeat' (first
 | simp only [go_sem,hC,hE,hF,hM]
 | (with_reducible first | refine bD fun hc=> ?_ | refine bE fun hc=> ?_ | refine bF (fun hc=> ?_) fun hc=> ?_) <;> (try simp only [hc,bs, ↓reduceIte]at h) <;> try simp only [hc]
 | (with_reducible refine aH hQ ?_;exact lJ)
 | (cases h;done))
   | cons y rest=>
    obtain⟨hE,g2,hC,g4⟩:=drop_cons h1
    have hy:=hk y (List.mem_of_getElem? hE)
    have hF:k<4611686018427387904:=by omega
    simp only [Ex.lf]at h
    repeat' (first
 | simp only [go_sem,hC,hE,hF,hM]
 | (with_reducible refine CU (hy _) ?_)
 | (with_reducible first | refine bD fun hc=> ?_ | refine bE fun hc=> ?_ | refine bF (fun hc=> ?_) fun hc=> ?_) <;> (try simp only [hc,bs, ↓reduceIte]at h) <;> try simp only [hc]
 | (with_reducible refine aH hQ ?_;(try cases h);simp only [aA,aB,bM,bN,go_sem,hC,hE,hF,hM];repeat' (first | exact Ok.out | with_reducible refine aJ ?_ ?_ | (simp;done))))
    refine dc 1 0 (IH (rest,k+1) ⟨g2,h⟩ (Nat.lt_succ_self _))
theorem DY {x:Ex} (hx:x.size<4611686018427387904) (ht:x.texts) (s:St):aD Tryz.prog n8 [.agg (bC x)] s (.bool x.may) s:=by
 refine aD.pure ?_ (by simp [D.bT,D.ok,gH]) rfl s
 have hd:=fun s=>ZV 20 (by decide) x hx s
 have c20:((20:Nat):Int)=20:=rfl
 rw [c20]at hd
 have hf:=ZW _ x (Nat.le_refl _) hx ht
 unfold S0
 generalize h:Ex.may x=p
 unfold Ex.may at h
 refine aD.go AQ rfl fun B Q hB hQ=> ?_
 have⟨hC,hE,hF,hM⟩:=bL
 repeat' (first
 | simp only [go_sem,hC,hE,hF,hM]
 | (with_reducible refine CU (hd _) ?_)
 | (with_reducible refine CU (hf _) ?_)
 | (with_reducible first | refine bD fun hc=> ?_ | refine bE fun hc=> ?_ | refine bF (fun hc=> ?_) fun hc=> ?_) <;> (try simp only [hc,bs, ↓reduceIte]at h) <;> try simp only [hc]
 | (with_reducible refine aH hQ ?_;(try cases h);simp only [aA,aB,bM,bN,go_sem,hC,hE,hF,hM];repeat' (first | exact Ok.out | with_reducible refine aJ ?_ ?_ | (simp;done))))
theorem OW (x:Ex) (s:St):aD Tryz.prog ra [.agg (bC x)] s (.bool x.none) s:=by
 refine aD.pure ?_ (by simp [D.bT,D.ok,gH]) rfl s
 unfold S0
 generalize h:Ex.none x=p
 unfold Ex.none at h
 refine aD.go EV rfl fun B Q hB hQ=> ?_
 have⟨hC,hE,hF,hM⟩:=bL
 repeat' (first
 | simp only [go_sem,hC,hE,hF,hM]
 | (with_reducible first | refine bD fun hc=> ?_ | refine bE fun hc=> ?_ | refine bF (fun hc=> ?_) fun hc=> ?_) <;> (try simp only [hc,bs, ↓reduceIte]at h) <;> try simp only [hc]
 | (with_reducible refine aH hQ ?_;(try cases h);simp only [aA,aB,bM,bN,go_sem,hC,hE,hF,hM];repeat' (first | exact Ok.out | with_reducible refine aJ ?_ ?_ | (simp;done))))
theorem adu {a:Ar} (hx:a.x.size<4611686018427387904) (ht:a.x.texts) (hn:a.name.length<4611686018427387904) (s:St):aD Tryz.prog w8 [.agg (ek a)] s (.bool a.may) s:=by
 refine aD.pure ?_ (by simp [D.bT,D.ok,Gk]) rfl s
 have hm:=DY hx ht
 have h1:=wq a.name hn
 unfold S0
 generalize h:Ar.may a=p
 simp only [Ar.may]at h
 refine aD.go Gz rfl fun B Q hB hQ=> ?_
 have⟨hC,hE,hF,hM⟩:=bL
 repeat' (first
 | simp only [go_sem,hC,hE,hF,hM]
 | (with_reducible refine CU (hm _) ?_)
 | (with_reducible refine CU (h1 _) ?_)
 | (with_reducible refine CU (OW _ _) ?_)
 | (with_reducible first | refine bD fun hc=> ?_ | refine bE fun hc=> ?_ | refine bF (fun hc=> ?_) fun hc=> ?_) <;> (try simp only [hc,bs, ↓reduceIte]at h) <;> try simp only [hc]
 | (with_reducible refine aH hQ ?_;(try cases h);simp only [aA,aB,bM,bN,go_sem,hC,hE,hF,hM];repeat' (first | exact Ok.out | with_reducible refine aJ ?_ ?_ | (simp;done))))
end Go.Abs

/-! RefMay2 -/

namespace Go.Abs
set_option maxRecDepth 8000
open Go.Proofs
structure Sm.ma (s:Sm):Prop where
 Vs : ∀ t∈s.labels,t.length<4611686018427387904
 ZX:s.labels.length<4611686018427387904
 name:s.name.length<4611686018427387904
 proc:s.proc.length<4611686018427387904
 x:s.x.size<4611686018427387904
 xt:s.x.texts
 ZY:s.args.length<4611686018427387904
 arg : ∀ a∈s.args,a.x.size<4611686018427387904∧a.x.texts∧a.name.length<4611686018427387904
section
variable {v:Sm} {B:eU} {Q:Exit→Tm→St→Prop} {p:Bool}
theorem adv (hf:v.ma) (hB:B.s = ⟨[],[]⟩) (hQ:hZ 0 0 [(2,none)] (.bool p) ⟨[],[]⟩=Q)
 (h:(if !(Ar.cY v.args)then false else((v.a7.length:Int)==0 || v.kind==5 || v.kind==6) && ((v.aX.length:Int)==0 || v.kind==5))=p) :
 Sem Tryz.prog B 178 ZE Q [(1, .ptr 0 0)] ⟨[bh v],[]⟩:=by
 have atO:=hf.ZY
 have SF:=fun a ha s=>adu (hf.arg a ha).1 (hf.arg a ha).2.1 (hf.arg a ha).2.2 s
 have⟨hC,hE,hF,hM⟩:=bL
 refine gL ?_
 repeat' (first
 | simp only [go_sem,hC,hE,hF,hM]
 | (with_reducible refine aH hQ ?_;simp only [aA,aB,bM,bN,go_sem,hC,hE,hF,hM];repeat' (first | exact Ok.out | with_reducible refine aJ ?_ ?_ | (simp;done))))
 refine dc 1 0 (bw.ind (ι:=List Ar×Nat) (fun i=>v.args.drop i.2=i.1∧(if !(Ar.cY i.1)then false else((v.a7.length:Int)==0 || v.kind==5 || v.kind==6) && ((v.aX.length:Int)==0 || v.kind==5))=p) (fun i=>i.1.length)
  (fun i=> [(1, .ptr 0 0),(143, .slice .shared 6 (v.args.map ek)),(144, .int .i64 (v.args.length:Int)),(145, .int .i64 (i.2:Int))]) (fun i=>⟨[bh v],[]⟩) ?_ (v.args,0) ⟨rfl,h⟩)
 rintro⟨rest,k⟩ ⟨h1,h⟩ IH
 dsimp only at h1 h
 cases rest with
 | nil=>
  have hC:=drop_nil h1
  simp only [Ar.cY,Bool.not_true,Bool.false_eq_true, ↓reduceIte]at h
  repeat' (first
 | simp only [go_sem,hC,hE,hF,hM]
 | (with_reducible first | refine bD fun hc=> ?_ | refine bE fun hc=> ?_ | refine bF (fun hc=> ?_) fun hc=> ?_) <;> (try simp only [hc,bs, ↓reduceIte]at h) <;> try simp only [hc]
 | (with_reducible refine aH hQ ?_;(try cases h);simp only [aA,aB,bM,bN,go_sem,hC,hE,hF,hM];repeat' (first | exact Ok.out | with_reducible refine aJ ?_ ?_ | (simp;done))))
  all_goals
   simp only [*]
   exact Ok.out
 | cons a rest=>
  obtain⟨hE,g2,hC,g4⟩:=drop_cons h1
  have ha:=SF a (List.mem_of_getElem? hE)
  have hF:k<4611686018427387904:=by omega
  simp only [Ar.cY]at h
  repeat' (first
 | simp only [go_sem,hC,hE,hF,hM]
 | (with_reducible refine CU (ha _) ?_)
 | (with_reducible first | refine bD fun hc=> ?_ | refine bE fun hc=> ?_ | refine bF (fun hc=> ?_) fun hc=> ?_) <;> (try simp only [hc,bs, ↓reduceIte]at h) <;> try simp only [hc]
 | (with_reducible refine aH hQ ?_;(try cases h);simp only [aA,aB,bM,bN,go_sem,hC,hE,hF,hM];repeat' (first | exact Ok.out | with_reducible refine aJ ?_ ?_ | (simp;done))))
  refine dc 1 0 (IH (rest,k+1) ⟨g2,h⟩ (Nat.lt_succ_self _))
theorem adw {cl:Bool} (hf:v.ma) (hB:B.s = ⟨[],[]⟩) (hQ:hZ 0 0 [(2,none)] (.bool p) ⟨[],[]⟩=Q)
 (h:(if !(cl == !(v.proc == [])) || (cl && !(isName v.proc)) || (!cl && decide ((v.args.length:Int) > 0))then false
  else if !(Ar.cY v.args)then false else((v.a7.length:Int)==0 || v.kind==5 || v.kind==6) && ((v.aX.length:Int)==0 || v.kind==5))=p) :
 Sem Tryz.prog B 178 ZF Q [(1, .ptr 0 0),(5, .bool cl)] ⟨[bh v],[]⟩:=by
 have Mn:=wq v.proc hf.proc
 have⟨hC,hE,hF,hM⟩:=bL
 refine Sem.jR ?_
 repeat' (first
 | simp only [go_sem,hC,hE,hF,hM]
 | (with_reducible refine CU (Mn _) ?_)
 | (with_reducible first | refine bD fun hc=> ?_ | refine bE fun hc=> ?_ | refine bF (fun hc=> ?_) fun hc=> ?_) <;> (try simp only [hc,bs, ↓reduceIte]at h) <;> try simp only [hc]
 | (with_reducible refine aH hQ ?_;(try cases h);simp only [aA,aB,bM,bN,go_sem,hC,hE,hF,hM];repeat' (first | exact Ok.out | with_reducible refine aJ ?_ ?_ | (simp;done))))
 all_goals
  refine Sem.re _ _ 1 0 (by rw [hB];exact lI rfl) (by rw [hB];exact lI rfl) ?_ ?_ (adv hf hB hQ h)
  ·(simp only [go_sem,hC,hE,hF,hM];repeat' (first | exact Ok.out | with_reducible refine aJ ?_ ?_))
  ·(simp only [go_sem,hC,hE,hF,hM];repeat' (first | exact Ok.out | with_reducible refine aJ ?_ ?_))
theorem adx {hn cl:Bool} (hf:v.ma) (hB:B.s = ⟨[],[]⟩) (hQ:hZ 0 0 [(2,none)] (.bool p) ⟨[],[]⟩=Q)
 (h:(if(hn && !(isName v.name)) || (!hn && !(v.name == []) && !(cl && isName v.name))then false
  else if !(cl == !(v.proc == [])) || (cl && !(isName v.proc)) || (!cl && decide ((v.args.length:Int) > 0))then false
  else if !(Ar.cY v.args)then false else((v.a7.length:Int)==0 || v.kind==5 || v.kind==6) && ((v.aX.length:Int)==0 || v.kind==5))=p) :
 Sem Tryz.prog B 178 ZG Q [(1, .ptr 0 0),(4, .bool hn),(5, .bool cl)] ⟨[bh v],[]⟩:=by
 have J1:=wq v.name hf.name
 have⟨hC,hE,hF,hM⟩:=bL
 have k:=@adw v B Q p cl hf hB hQ
 cases cl
 all_goals
  refine Sem.jR ?_
  repeat' (first
 | simp only [go_sem,hC,hE,hF,hM]
 | (with_reducible refine CU (J1 _) ?_)
 | (with_reducible first | refine bD fun hc=> ?_ | refine bE fun hc=> ?_ | refine bF (fun hc=> ?_) fun hc=> ?_) <;> (try simp only [hc,bs, ↓reduceIte]at h) <;> try simp only [hc]
 | (with_reducible refine aH hQ ?_;(try cases h);simp only [aA,aB,bM,bN,go_sem,hC,hE,hF,hM];repeat' (first | exact Ok.out | with_reducible refine aJ ?_ ?_ | (simp;done))))
 all_goals
  refine Sem.re _ _ 1 0 (by rw [hB];exact lI rfl) (by rw [hB];exact lI rfl) ?_ ?_ (k (by simpa only [bs, ↓reduceIte]using h))
  ·(simp only [go_sem,hC,hE,hF,hM];repeat' (first | exact Ok.out | with_reducible refine aJ ?_ ?_))
  ·(simp only [go_sem,hC,hE,hF,hM];repeat' (first | exact Ok.out | with_reducible refine aJ ?_ ?_))
theorem ady {hx hn cl:Bool} (hf:v.ma) (hB:B.s = ⟨[],[]⟩) (hQ:hZ 0 0 [(2,none)] (.bool p) ⟨[],[]⟩=Q)
 (h:(if decide (v.kind<1) || decide (v.kind > 10) || !(bX v.labels) || (hx && !(v.x.may)) || (!hx && !(v.x.none)) || (v.has && v.kind != 9)then false
  else if(hn && !(isName v.name)) || (!hn && !(v.name == []) && !(cl && isName v.name))then false
  else if !(cl == !(v.proc == [])) || (cl && !(isName v.proc)) || (!cl && decide ((v.args.length:Int) > 0))then false
  else if !(Ar.cY v.args)then false else((v.a7.length:Int)==0 || v.kind==5 || v.kind==6) && ((v.aX.length:Int)==0 || v.kind==5))=p) :
 Sem Tryz.prog B 178 ZH Q [(1, .ptr 0 0),(3, .bool hx),(4, .bool hn),(5, .bool cl)] ⟨[bh v],[]⟩:=by
 have hns:=fun s=>SE hf.ZX hf.Vs s
 have hm:=DY hf.x hf.xt
 have⟨hC,hE,hF,hM⟩:=bL
 refine Sem.jR ?_
 repeat' (first
 | simp only [go_sem,hC,hE,hF,hM]
 | (with_reducible refine CU (hns _) ?_)
 | (with_reducible refine CU (hm _) ?_)
 | (with_reducible refine CU (OW _ _) ?_)
 | (with_reducible first | refine bD fun hc=> ?_ | refine bE fun hc=> ?_ | refine bF (fun hc=> ?_) fun hc=> ?_) <;> (try simp only [hc,bs, ↓reduceIte]at h) <;> try simp only [hc]
 | (with_reducible refine aH hQ ?_;(try cases h);simp only [aA,aB,bM,bN,go_sem,hC,hE,hF,hM];repeat' (first | exact Ok.out | with_reducible refine aJ ?_ ?_ | (simp;done))))
 all_goals
  refine Sem.re _ _ 1 0 (by rw [hB];exact lI rfl) (by rw [hB];exact lI rfl) ?_ ?_ (adx hf hB hQ h)
  ·(simp only [go_sem,hC,hE,hF,hM];repeat' (first | exact Ok.out | with_reducible refine aJ ?_ ?_))
  ·(simp only [go_sem,hC,hE,hF,hM];repeat' (first | exact Ok.out | with_reducible refine aJ ?_ ?_))
theorem adz {hx hn:Bool} (hf:v.ma) (hB:B.s = ⟨[],[]⟩) (hQ:hZ 0 0 [(2,none)] (.bool p) ⟨[],[]⟩=Q) (ex:v.lC=hx) (en:v.hasName=hn) (h:v.one=p) :
 Sem Tryz.prog B 178 ZI Q [(1, .ptr 0 0),(3, .bool hx),(4, .bool hn)] ⟨[bh v],[]⟩:=by
 unfold Sm.one at h
 rw [ex,en]at h
 have⟨hC,hE,hF,hM⟩:=bL
 refine Sem.jR ?_
 repeat' (first
 | simp only [go_sem,hC,hE,hF,hM]
 | (with_reducible refine aH hQ ?_;simp only [aA,aB,Option.some.injEq,exists_eq_left',go_sem,hC,hE,hF,hM];repeat' (first | exact Ok.out | with_reducible refine aJ ?_ ?_ | (simp;done))))
 refine Sem.re _ _ 1 0 (by rw [hB];exact lI rfl) (by rw [hB];exact lI rfl) ?_ ?_ (ady hf hB hQ h)
 ·(simp only [go_sem,hC,hE,hF,hM,Sm.gV];repeat' (first | exact Ok.out | with_reducible refine aJ ?_ ?_))
 ·(simp only [go_sem,hC,hE,hF,hM,Sm.gV];repeat' (first | exact Ok.out | with_reducible refine aJ ?_ ?_))
theorem adA {hx:Bool} (hf:v.ma) (hB:B.s = ⟨[],[]⟩) (hQ:hZ 0 0 [(2,none)] (.bool p) ⟨[],[]⟩=Q) (ex:v.lC=hx) (hp:v.one=p) :
 Sem Tryz.prog B 178 ZJ Q [(1, .ptr 0 0),(3, .bool hx)] ⟨[bh v],[]⟩:=by
 generalize h:v.hasName=hn
 have hn:=h
 unfold Sm.hasName at h
 have⟨hC,hE,hF,hM⟩:=bL
 refine Sem.jR ?_
 repeat' (first
 | simp only [go_sem,hC,hE,hF,hM]
 | (with_reducible first | refine bD fun hc=> ?_ | refine bE fun hc=> ?_ | refine bF (fun hc=> ?_) fun hc=> ?_) <;> (try simp only [hc,bs, ↓reduceIte]at h) <;> try simp only [hc]
 | (with_reducible refine aH hQ ?_;simp only [aA,aB,bM,bN,go_sem,hC,hE,hF,hM];repeat' (first | exact Ok.out | with_reducible refine aJ ?_ ?_ | (simp;done))))
 all_goals
  refine Sem.re _ _ 1 0 (by rw [hB];exact lI rfl) (by rw [hB];exact lI rfl) ?_ ?_ (adz hf hB hQ ex hn hp)
  ·(simp only [go_sem,hC,hE,hF,hM,h];repeat' (first | exact Ok.out | with_reducible refine aJ ?_ ?_))
  ·(simp only [go_sem,hC,hE,hF,hM,h];repeat' (first | exact Ok.out | with_reducible refine aJ ?_ ?_))
theorem adB (hf:v.ma) (hB:B.s = ⟨[],[]⟩) (hQ:hZ 0 0 [(2,none)] (.bool p) ⟨[],[]⟩=Q) (hp:v.one=p) :
 Sem Tryz.prog B 178 ZK Q [(1, .ptr 0 0)] ⟨[bh v],[]⟩:=by
 generalize h:v.lC=hx
 have ex:=h
 unfold Sm.lC at h
 have⟨hC,hE,hF,hM⟩:=bL
 refine Sem.jR ?_
 repeat' (first
 | simp only [go_sem,hC,hE,hF,hM]
 | (with_reducible first | refine bD fun hc=> ?_ | refine bE fun hc=> ?_ | refine bF (fun hc=> ?_) fun hc=> ?_) <;> (try simp only [hc,bs, ↓reduceIte]at h) <;> try simp only [hc]
 | (with_reducible refine aH hQ ?_;simp only [aA,aB,bM,bN,go_sem,hC,hE,hF,hM];repeat' (first | exact Ok.out | with_reducible refine aJ ?_ ?_ | (simp;done))))
 all_goals
  refine Sem.re _ _ 1 0 (by rw [hB];exact lI rfl) (by rw [hB];exact lI rfl) ?_ ?_ (adA hf hB hQ ex hp)
  ·(simp only [go_sem,hC,hE,hF,hM,h];repeat' (first | exact Ok.out | with_reducible refine aJ ?_ ?_))
  ·(simp only [go_sem,hC,hE,hF,hM,h];repeat' (first | exact Ok.out | with_reducible refine aJ ?_ ?_))
end
theorem aD.goS {P:Program} {f:FuncId} {nt:Nat} {res:List (Nat×Option (Bool×Nat))} {body:AC} {args:List D} {s:St} {d:D} {s':St} (h0:Has P f nt res body) (hl:Nat.ble args.length nt=true)
 (h : ∀ (B:eU) (Q:Exit→Tm→St→Prop),B.s=s→hZ s.az.length s.aC.length res d s'=Q→Sem P B nt body Q (nu 0 args) s):aD P f args s d s':=by
 obtain⟨fn,hf,hc⟩:=h0
 exact aD.intro ⟨fn,hf,hc⟩ (Nat.le_of_ble_eq_true hl) fun B hB=>h B _ hB rfl
theorem Fk {v:Sm} (hf:v.ma) (s:St):aD Tryz.prog BB [.agg (bh v)] s (.bool v.one) s:=by
 refine aD.pure ?_ (by simp [D.bT,D.ok,mC]) rfl s
 unfold S0
 refine aD.goS GD rfl fun B Q hB hQ=> ?_
 have⟨hC,hE,hF,hM⟩:=bL
 refine Sem.jR ?_
 repeat' (first
 | simp only [go_sem,hC,hE,hF,hM]
 | (with_reducible refine aH hQ ?_;simp only [aA,aB,Option.some.injEq,exists_eq_left',go_sem,hC,hE,hF,hM];repeat' (first | exact Ok.out | with_reducible refine aJ ?_ ?_ | (simp;done))))
 refine Sem.re _ _ 1 0 (by rw [hB];exact lI rfl) (by rw [hB];exact lI rfl) ?_ ?_ (adB hf hB hQ rfl)
 ·(simp only [go_sem,hC,hE,hF,hM];repeat' (first | exact Ok.out | with_reducible refine aJ ?_ ?_))
 ·(simp only [go_sem,hC,hE,hF,hM];repeat' (first | exact Ok.out | with_reducible refine aJ ?_ ?_))
end Go.Abs

/-! Flat1 -/

namespace Go.Abs
set_option maxRecDepth 8000
open Go.Proofs
def eC (i:Im):List D:= [.int .i64 i.s.id, .int .i64 i.s.kind, .slice .shared 1 (i.s.labels.map encStr), .str i.s.name, .str i.s.proc,
 .int .i64 i.s.x.op, .int .i64 i.s.x.n, .str i.s.x.name, .slice .shared 4 (i.s.x.kids.map bC), .bool i.s.has, .slice .shared 6 (i.s.args.map ek), .slice .shared 13 (i.s.a7.map bh), .slice .shared 13 (i.s.aX.map bh), .int .i64 i.proc, .int .i64 i.up, .int .i64 i.next, .int .i64 i.loop]
def lg (n:Int):List D:= [.int .i64 n]
theorem Mp (i:Im):D.bT 0 0 (eC i)=true:=by simp [eC,D.bT,D.ok,Tag.ok,eI,UR,Fc,nB]
theorem Fl (l:List Im):D.ja 0 0 (l.map eC)=true:=gB Mp l
theorem Vt (n m:Nat) (l:List Im):D.jv n m (l.map eC)=l.map eC:=lY Mp n m l
theorem adC (n m:Nat) (i:Im):D.gE n m (eC i)=eC i:=gT n m _ (Mp i)
theorem adD (x:Im):(eC x).length=17:=nd rfl
theorem WS (x:Im):List.take 17 (eC x)=eC x:=nd rfl
theorem ZZ (x:Im):List.drop 17 (eC x) = []:=nd rfl
theorem Z0 (x:Im):List.take 13 (eC x)=bh x.s:=by simp only [eC,dt];rfl
theorem SG (x:Im):(eC x)[0]? = some (.int .i64 x.s.id):=nd rfl
theorem SH (x:Im):(eC x)[1]? = some (.int .i64 x.s.kind):=nd rfl
theorem SI (x:Im):(eC x)[4]? = some (.str x.s.proc):=nd rfl
theorem OX (x:Im):(eC x)[13]? = some (.int .i64 x.proc):=nd rfl
theorem OY (x:Im):(eC x)[14]? = some (.int .i64 x.up):=nd rfl
theorem OZ (x:Im):(eC x)[15]? = some (.int .i64 x.next):=nd rfl
theorem O0 (x:Im):(eC x)[16]? = some (.int .i64 x.loop):=nd rfl
theorem Mq (s:Sm) (a b c d:Int):eC ⟨s,a,b,c,d⟩ = [.int .i64 s.id, .int .i64 s.kind, .slice .shared 1 (s.labels.map encStr), .str s.name, .str s.proc,
 .int .i64 s.x.op, .int .i64 s.x.n, .str s.x.name, .slice .shared 4 (s.x.kids.map bC), .bool s.has, .slice .shared 6 (s.args.map ek), .slice .shared 13 (s.a7.map bh), .slice .shared 13 (s.aX.map bh), .int .i64 a, .int .i64 b, .int .i64 c, .int .i64 d]:=nd rfl
theorem Vu (n:Int):D.bT 0 0 (lg n)=true:=rfl
theorem yX (l:List Int):D.ja 0 0 (l.map lg)=true:=gB Vu l
theorem O1 (n m:Nat) (l:List Int):D.jv n m (l.map lg)=l.map lg:=lY Vu n m l
attribute [go_sem] Vt adC adD WS ZZ Z0 SG SH SI OX OY OZ O0 O1 lg
theorem Z1 : ∀ n,n<1000000000→∀ v:Sm,v.size≤n→aD Tryz.prog ly [.agg (bh v)] S0 (.int .i64 (v.fI:Int)) S0:=by
 intro n
 induction n with
 | zero=>intro _ v h;obtain⟨_,_,_,_,_,_,_,_,_,_⟩:=v;simp only [Sm.size]at h;omega
 | succ n ih=>
 intro hn v hv
 have ep:Sm.aR v.a7≤n∧Sm.aR v.aX≤n∧v.fI=1+Sm.dB v.a7+Sm.dB v.aX:=by
  obtain⟨_,_,_,_,_,_,_,_,_,_⟩:=v
  simp only [Sm.size]at hv;exact⟨by dsimp only;omega,by dsimp only;omega,rfl⟩
 obtain⟨h1,h2,h3⟩:=ep
 have c1:=jZ v.a7
 have c2:=jZ v.aX
 have l1:=Sm.c9 v.a7
 have l2:=Sm.c9 v.aX
 have hk : ∀ y,y∈v.a7∨y∈v.aX→∀ s,aD Tryz.prog ly [.agg (bh y)] s (.int .i64 (y.fI:Int)) s:=fun y hy s=>
  (ih (by omega) y (by rcases hy with hy | hy <;> (have:=Sm.cd hy;omega))).pure (by simp only [D.bT,D.ok,mC];rfl) rfl s
 rw [h3]
 unfold S0
 refine aD.go E1 rfl fun B Q hB hQ=> ?_
 have⟨hC,hE,hF,hM⟩:=bL
 repeat' (first
 | simp only [go_sem,hC,hE,hF,hM]
 | (with_reducible refine aH hQ ?_;simp only [aA,aB,Option.some.injEq,exists_eq_left',go_sem,hC,hE,hF,hM];repeat' (first | exact Ok.out | with_reducible refine aJ ?_ ?_ | (simp;done))))
 refine dc 1 0 (bw.ind (ι:=List Sm×Nat×Nat) (fun i=>v.a7.drop i.2.1=i.1∧i.2.2+Sm.dB i.1=1+Sm.dB v.a7) (fun i=>i.1.length)
  (fun i=> [(1, .ptr 0 0),(3, .int .i64 (i.2.2:Int)),(9, .slice .shared 13 (v.a7.map bh)),(10, .int .i64 (v.a7.length:Int)),(11, .int .i64 (i.2.1:Int))]) (fun i=>⟨[bh v],[]⟩) ?_ (v.a7,0,1) ⟨rfl,rfl⟩)
 rintro⟨rest,k,c⟩ ⟨g1,g2⟩ IH
 dsimp only at g1 g2
 cases rest with
 | cons y rest=>
  obtain⟨hE,g3,hC,g4⟩:=drop_cons g1
  have hy:=hk y (.inl (List.mem_of_getElem? hE))
  simp only [Sm.dB]at g2
  have hcy:=AG y
  have Nv:=Sm.cd (List.mem_of_getElem? hE)
  have w1:IntKind.wrap .i64 ((k:Int)+1)=((k+1:Nat):Int):=by rw [dJ] <;> omega
  have w2:IntKind.wrap .i64 ((c:Int)+(y.fI:Int))=((c+y.fI:Nat):Int):=by rw [dJ] <;> omega
  repeat' (first
 | simp only [go_sem,hC,hE,hF,hM,w1,w2]
 | (with_reducible refine CU (hy _) ?_)
 | (with_reducible refine aH hQ ?_;simp only [aA,aB,Option.some.injEq,exists_eq_left',go_sem,hC,hE,hF,hM];repeat' (first | exact Ok.out | with_reducible refine aJ ?_ ?_ | (simp;done))))
  refine dc 1 0 (IH (rest,k+1,c+y.fI) ⟨g3,by dsimp only;omega⟩ (Nat.lt_succ_self _))
 | nil=>
  have hC:=drop_nil g1
  simp only [Sm.dB,Nat.add_zero]at g2
  subst g2
  repeat' (first
 | simp only [go_sem,hC,hE,hF,hM]
 | (with_reducible refine aH hQ ?_;simp only [aA,aB,Option.some.injEq,exists_eq_left',go_sem,hC,hE,hF,hM];repeat' (first | exact Ok.out | with_reducible refine aJ ?_ ?_ | (simp;done))))
  refine dc 1 0 (bw.ind (ι:=List Sm×Nat×Nat) (fun i=>v.aX.drop i.2.1=i.1∧i.2.2+Sm.dB i.1=1+Sm.dB v.a7+Sm.dB v.aX) (fun i=>i.1.length)
   (fun i=> [(1, .ptr 0 0),(3, .int .i64 (i.2.2:Int)),(21, .slice .shared 13 (v.aX.map bh)),(22, .int .i64 (v.aX.length:Int)),(23, .int .i64 (i.2.1:Int))]) (fun i=>⟨[bh v],[]⟩) ?_ (v.aX,0,1+Sm.dB v.a7) ⟨rfl,rfl⟩)
  rintro⟨rest,k,c⟩ ⟨g1,g2⟩ IH
  dsimp only at g1 g2
  cases rest with
  | cons y rest=>
   obtain⟨hE,g3,hC,g4⟩:=drop_cons g1
   have hy:=hk y (.inr (List.mem_of_getElem? hE))
   simp only [Sm.dB]at g2
   have hcy:=AG y
   have Nv:=Sm.cd (List.mem_of_getElem? hE)
   have w1:IntKind.wrap .i64 ((k:Int)+1)=((k+1:Nat):Int):=by rw [dJ] <;> omega
   have w2:IntKind.wrap .i64 ((c:Int)+(y.fI:Int))=((c+y.fI:Nat):Int):=by rw [dJ] <;> omega
   repeat' (first
 | simp only [go_sem,hC,hE,hF,hM,w1,w2]
 | (with_reducible refine CU (hy _) ?_)
 | (with_reducible refine aH hQ ?_;simp only [aA,aB,Option.some.injEq,exists_eq_left',go_sem,hC,hE,hF,hM];repeat' (first | exact Ok.out | with_reducible refine aJ ?_ ?_ | (simp;done))))
   refine dc 1 0 (IH (rest,k+1,c+y.fI) ⟨g3,by dsimp only;omega⟩ (Nat.lt_succ_self _))
  | nil=>
   have hC:=drop_nil g1
   simp only [Sm.dB,Nat.add_zero]at g2
   subst g2
   repeat' (first
 | simp only [go_sem,hC,hE,hF,hM]
 | (with_reducible refine aH hQ ?_;simp only [aA,aB,Option.some.injEq,exists_eq_left',go_sem,hC,hE,hF,hM];repeat' (first | exact Ok.out | with_reducible refine aJ ?_ ?_ | (simp;done))))
theorem Z2 {v:Sm} (h:v.size<1000000000) (s:St):aD Tryz.prog ly [.agg (bh v)] s (.int .i64 (v.fI:Int)) s:=
 (Z1 v.size h v (Nat.le_refl _)).pure (by simp only [D.bT,D.ok,mC];rfl) rfl s
end Go.Abs

/-! Flat2 -/

namespace Go.Abs
set_option maxRecDepth 8000
open Go.Proofs
abbrev hO (g ps:D) (L:List Im) (lo hi:List Int):List D:= [g,ps, .slice (.tok 0) 17 (L.map eC), .slice (.tok 1) 1 (lo.map lg), .slice (.tok 2) 1 (hi.map lg)]
abbrev SJ (proc up next loop:Int):List D:= [.int .i64 0, .int .i64 0, .slice .full 0 [], .str [], .str [], .int .i64 0, .int .i64 0, .str [], .slice .full 0 [], .bool false, .slice .full 0 [], .slice .full 0 [], .slice .full 0 [], .int .i64 proc, .int .i64 up, .int .i64 next, .int .i64 loop]
theorem aD.adE {P:Program} {f:Nat} {args:List D} {g ps:D} {L L':List Im} {lo hi DI gD:List Int} {a b c a' b' c':Option Nat}
 (h:aD P f (.ptr 0 0::args) ⟨[hO g ps L lo hi],[a,b,c]⟩ (.tuple []) ⟨[hO g ps L' DI gD],[a',b',c']⟩)
 (ha:D.bT 0 0 args=true) (hg:D.ok 0 0 g=true) (hp:D.ok 0 0 ps=true)
 {s:St} {o:Nat} (ho:s.az[o]? = some (hO g ps L lo hi)) (ht:s.aC = [a,b,c]):aD P f (.ptr o 0::args) s (.tuple []) ⟨s.az.set o (hO g ps L' DI gD),[a',b',c']⟩:=by
 have hr : ∀ (L:List Im) (lo hi:List Int),D.fK [o] [0,1,2] (hO g ps L lo hi)=hO g ps L lo hi:=fun L lo hi=>by
  simp [D.fK,D.dF,Tag.dF,qM _ _ _ hg,qM _ _ _ hp,iF _ _ _ (Fl L),iF _ _ _ (yX lo),iF _ _ _ (yX hi)]
 have hk : ∀ (L:List Im) (lo hi:List Int),D.bT 1 3 (hO g ps L lo hi)=true:=fun L lo hi=>by
  simp [D.bT,D.ok,Tag.ok,CK (Nat.zero_le 1) (Nat.zero_le 3) _ hg,CK (Nat.zero_le 1) (Nat.zero_le 3) _ hp,mB (Nat.zero_le 1) (Nat.zero_le 3) _ (Fl L),mB (Nat.zero_le 1) (Nat.zero_le 3) _ (yX lo),mB (Nat.zero_le 1) (Nat.zero_le 3) _ (yX hi)]
 refine dT.frame [o] [0,1,2] h (by simp) (by decide) (by simpa using (List.getElem?_eq_some_iff.1 ho).1) (by rw [ht];simp) rfl (fun i o' ds e1 e2=> ?_) rfl (fun i t' e1=> ?_)
  (by simp [D.fK,D.dF,eR _ _ _ ha])
  (by simp [D.bT,D.ok,gG (Nat.zero_le 1) (Nat.zero_le 3) _ ha]) ?_
 ·cases i with
  | zero=>simp only [List.getElem?_cons_zero,Option.some.injEq]at e1 e2;subst e1;subst e2;exact⟨by rw [hr];exact ho,hk L lo hi⟩
  | succ i=>simp at e1
 ·rw [ht]
  match i,e1 with
  | 0,e1=>simp at e1;subst e1;rfl
  | 1,e1=>simp at e1;subst e1;rfl
  | 2,e1=>simp at e1;subst e1;rfl
  | i+3,e1=>simp at e1
 ·rintro _ _ ⟨rfl,rfl⟩
  refine⟨by simp [D.back,D.dF,D.fK], ?_⟩
  have:=hr L' DI gD
  simp [St.back,jA,jw,this,ht]
abbrev Vv (N:Nat):Prop:=∀ (l:List Sm) (proc up next loop:Int) (out:List Im) (g ps:D) (lo hi:List Int) (b c:Option Nat),Sm.aR l<N→out.length+Sm.dB l<1000000000→D.ok 0 0 g=true→D.ok 0 0 ps=true→
 ∀ {s:St} {o:Nat},s.az[o]? = some (hO g ps out lo hi)→s.aC = [some out.length,b,c]→
 aD Tryz.prog iU [.ptr o 0, .slice .shared 13 (l.map bh), .agg (SJ proc up next loop)] s (.tuple []) ⟨s.az.set o (hO g ps (Im.rows proc up next loop out l) lo hi),[some (Im.rows proc up next loop out l).length,b,c]⟩
theorem adF {N:Nat} (ih:Vv N) {l:List Sm} {proc up next loop:Int} {out:List Im} {g ps:D} {lo hi:List Int} {b c:Option Nat} (hs:Sm.aR l<N+1) (hc:out.length+Sm.dB l<1000000000) (hg:D.ok 0 0 g=true) (hp:D.ok 0 0 ps=true) (hN:N<1000000000) :
 aD Tryz.prog iU [.ptr 0 0, .slice .shared 13 (l.map bh), .agg (SJ proc up next loop)] ⟨[hO g ps out lo hi],[some out.length,b,c]⟩ (.tuple []) ⟨[hO g ps (Im.rows proc up next loop out l) lo hi],[some (Im.rows proc up next loop out l).length,b,c]⟩:=by
 obtain⟨R,hR⟩ : ∃ R,R=Im.rows proc up next loop out l:=⟨_,rfl⟩
 have hlR:R.length=out.length+Sm.dB l:=by rw [hR,fM]
 rw [← hR]
 have k1 : ∀ n m,D.fg n m g=g:=fun n m=>LI n m _ hg
 have k2 : ∀ n m,D.fg n m ps=ps:=fun n m=>LI n m _ hp
 refine aD.go yU rfl fun B Q hB hQ=> ?_
 have⟨hC,hE,hF,hM⟩:=bL
 repeat' (first
 | simp only [go_sem,hC,hE,hF,hM,k1,k2]
 | (with_reducible first | refine bD fun hc=> ?_ | refine bE fun hc=> ?_ | refine bF (fun hc=> ?_) fun hc=> ?_) <;> (try simp only [hc,bs, ↓reduceIte]at h) <;> try simp only [hc]
 | (with_reducible refine aH hQ ?_;simp only [aA,aB,bM,bN,go_sem,hC,hE,hF,hM,k1,k2];repeat' (first | exact Ok.out | with_reducible refine aJ ?_ ?_ | (simp;done))))
 refine dV 2 3 ?_ ?_ (bw.ind (ι:=List Sm×Nat×List Im) (fun i=>l.drop i.2.1=i.1∧Im.rows proc up next loop i.2.2 i.1=R∧i.2.2.length+Sm.dB i.1=out.length+Sm.dB l) (fun i=>i.1.length)
  (fun i=> [(0, .ptr 0 0),(1, .slice .shared 13 (l.map bh)),(5, .ptr 1 0),(11, .slice .shared 13 (l.map bh)),(12, .int .i64 (l.length:Int)),(13, .int .i64 (i.2.1:Int))]) (fun i=>⟨[hO g ps i.2.2 lo hi,SJ proc up next loop],[some i.2.2.length,b,c]⟩) ?_ (l,0,out) ⟨rfl,hR.symm,rfl⟩)
 ·(simp only [go_sem,hC,hE,hF,hM,k1,k2];try exact bR)
 ·(simp only [go_sem,hC,hE,hF,hM,k1,k2];try exact bR)
 rintro⟨rest,k,b9⟩ ⟨h1,h2,h3⟩ IH
 dsimp only at h1 h2 h3
 have hlen:l.length<1000000000:=by have:=Sm.c9 l;omega
 cases rest with
 | nil=>
  have hC:=drop_nil h1
  simp only [Im.rows]at h2
  subst h2
  repeat' (first
 | simp only [go_sem,hC,hE,hF,hM,k1,k2]
 | (with_reducible first | refine bD fun hc=> ?_ | refine bE fun hc=> ?_ | refine bF (fun hc=> ?_) fun hc=> ?_) <;> (try simp only [hc,bs, ↓reduceIte]at h) <;> try simp only [hc]
 | (with_reducible refine aH hQ ?_;simp only [aA,aB,bM,bN,go_sem,hC,hE,hF,hM,k1,k2];repeat' (first | exact Ok.out | with_reducible refine aJ ?_ ?_ | (simp;done))))
 | cons v rest=>
  obtain⟨hE,g2,hC,g4⟩:=drop_cons h1
  have bS:k<4611686018427387904:=by omega
  have hv:=Sm.cd (List.mem_of_getElem? hE)
  have rA:Sm.aR v.a7<N∧Sm.aR v.aX<N∧v.fI=1+Sm.dB v.a7+Sm.dB v.aX:=by
   obtain⟨_,_,_,_,_,_,_,_,_,_⟩:=v
   simp only [Sm.size]at hv
   exact⟨by dsimp only;omega,by dsimp only;omega,rfl⟩
  obtain⟨Bp,FN,hv3⟩:=rA
  simp only [Sm.dB]at h3
  simp only [Im.rows,Im.Ze]at h2
  have hF:(b9.length+1)*241≤bQ:=by unfold bQ;omega
  have Ja:IntKind.wrap .i64 ((b9.length:Int)+1)=(b9.length:Int)+1:=dJ (by omega) (by omega)
  have uL:IntKind.wrap .i64 ((k:Int)+1)=((k+1:Nat):Int):=by rw [dJ] <;> omega
  have Vw:IntKind.wrap .i64 ((b9.length:Int)+1+(v.fI:Int))=(b9.length:Int)+1+(v.fI:Int):=dJ (by omega) (by omega)
  have ep:=fun s=>Z2 (v:=v) (by omega) s
  simp only [dt]at ep
  have IV:rest.length=l.length - (k+1):=by rw [← g2,List.length_drop]
  by_cases atP:k+1<l.length
  ·have d1:decide (((k+1:Nat):Int)<(l.length:Int))=true:=by simp;omega
   have e1:(rest.length=0)=False:=by simp;intro h;rw [h]at IV;simp at IV;omega
   by_cases O2:v.kind=6
   ·have d2:(v.kind==6)=true:=by simp [O2]
    simp only [e1,d2, ↓reduceIte,Bool.false_eq_true]at h2
    have f1:=fun {s:St} {o:Nat}=>@ih v.a7 proc ((b9.length:Int)+1) ((b9.length:Int)+1) ((b9.length:Int)+1) (b9++ [⟨v,proc,up,((b9.length:Int)+1+(v.fI:Int)),loop⟩]) g ps lo hi b c Bp (by simp;omega) hg hp s o
    have f2:=fun {s:St} {o:Nat}=>@ih v.aX proc ((b9.length:Int)+1) ((b9.length:Int)+1) ((b9.length:Int)+1) _ g ps lo hi b c FN (by rw [fM proc ((b9.length:Int)+1) ((b9.length:Int)+1) ((b9.length:Int)+1) (b9++ [⟨v,proc,up,((b9.length:Int)+1+(v.fI:Int)),loop⟩]) v.a7];simp;omega) hg hp s o
    have hl:(Im.rows proc ((b9.length:Int)+1) ((b9.length:Int)+1) ((b9.length:Int)+1) (Im.rows proc ((b9.length:Int)+1) ((b9.length:Int)+1) ((b9.length:Int)+1) (b9++ [⟨v,proc,up,((b9.length:Int)+1+(v.fI:Int)),loop⟩]) v.a7) v.aX).length=b9.length+v.fI:=by rw [fM,fM];simp;omega
    simp only [hO,List.map_append,List.map_cons,List.map_nil,Mq,List.length_append,List.length_cons,List.length_nil]at f1
    repeat' (first
 | simp only [go_sem,hC,hE,hF,hM,k1,k2,Ja,uL,Vw,d1,d2,dt]
 | (with_reducible refine CU (ep _) ?_)
 | (with_reducible refine CU (f1 (by with_unfolding_all rfl) (by with_unfolding_all rfl)) ?_)
 | (with_reducible refine CU (f2 (by with_unfolding_all rfl) (by with_unfolding_all rfl)) ?_)
 | (with_reducible refine aH hQ ?_;simp only [aA,aB,bM,bN,go_sem,hC,hE,hF,hM];repeat' (first | exact Ok.out | with_reducible refine aJ ?_ ?_ | (simp;done))))
    refine dV 2 3 ?_ ?_ (IH (rest,k+1,_) ⟨g2,h2,by dsimp only;rw [hl];omega⟩ (Nat.lt_succ_self _))
    ·(simp only [go_sem,hC,hE,hF,hM,uL,k1,k2];try exact bR)
    ·(simp only [go_sem,hC,hE,hF,hM,uL,k1,k2];try exact bR)
   ·have d2:(v.kind==6)=false:=by simp [O2]
    simp only [e1,d2, ↓reduceIte,Bool.false_eq_true]at h2
    have f1:=fun {s:St} {o:Nat}=>@ih v.a7 proc ((b9.length:Int)+1) ((b9.length:Int)+1+(v.fI:Int)) loop (b9++ [⟨v,proc,up,((b9.length:Int)+1+(v.fI:Int)),loop⟩]) g ps lo hi b c Bp (by simp;omega) hg hp s o
    have f2:=fun {s:St} {o:Nat}=>@ih v.aX proc ((b9.length:Int)+1) ((b9.length:Int)+1+(v.fI:Int)) loop _ g ps lo hi b c FN (by rw [fM proc ((b9.length:Int)+1) ((b9.length:Int)+1+(v.fI:Int)) loop (b9++ [⟨v,proc,up,((b9.length:Int)+1+(v.fI:Int)),loop⟩]) v.a7];simp;omega) hg hp s o
    have hl:(Im.rows proc ((b9.length:Int)+1) ((b9.length:Int)+1+(v.fI:Int)) loop (Im.rows proc ((b9.length:Int)+1) ((b9.length:Int)+1+(v.fI:Int)) loop (b9++ [⟨v,proc,up,((b9.length:Int)+1+(v.fI:Int)),loop⟩]) v.a7) v.aX).length=b9.length+v.fI:=by rw [fM,fM];simp;omega
    simp only [hO,List.map_append,List.map_cons,List.map_nil,Mq,List.length_append,List.length_cons,List.length_nil]at f1
    repeat' (first
 | simp only [go_sem,hC,hE,hF,hM,k1,k2,Ja,uL,Vw,d1,d2,dt]
 | (with_reducible refine CU (ep _) ?_)
 | (with_reducible refine CU (f1 (by with_unfolding_all rfl) (by with_unfolding_all rfl)) ?_)
 | (with_reducible refine CU (f2 (by with_unfolding_all rfl) (by with_unfolding_all rfl)) ?_)
 | (with_reducible refine aH hQ ?_;simp only [aA,aB,bM,bN,go_sem,hC,hE,hF,hM];repeat' (first | exact Ok.out | with_reducible refine aJ ?_ ?_ | (simp;done))))
    refine dV 2 3 ?_ ?_ (IH (rest,k+1,_) ⟨g2,h2,by dsimp only;rw [hl];omega⟩ (Nat.lt_succ_self _))
    ·(simp only [go_sem,hC,hE,hF,hM,uL,k1,k2];try exact bR)
    ·(simp only [go_sem,hC,hE,hF,hM,uL,k1,k2];try exact bR)
  ·have d1:decide (((k+1:Nat):Int)<(l.length:Int))=false:=by simp;omega
   have e1:(rest.length=0)=True:=by simp only [eq_iff_iff,iff_true];omega
   by_cases O2:v.kind=6
   ·have d2:(v.kind==6)=true:=by simp [O2]
    simp only [e1,d2, ↓reduceIte,Bool.false_eq_true]at h2
    have f1:=fun {s:St} {o:Nat}=>@ih v.a7 proc ((b9.length:Int)+1) ((b9.length:Int)+1) ((b9.length:Int)+1) (b9++ [⟨v,proc,up,next,loop⟩]) g ps lo hi b c Bp (by simp;omega) hg hp s o
    have f2:=fun {s:St} {o:Nat}=>@ih v.aX proc ((b9.length:Int)+1) ((b9.length:Int)+1) ((b9.length:Int)+1) _ g ps lo hi b c FN (by rw [fM proc ((b9.length:Int)+1) ((b9.length:Int)+1) ((b9.length:Int)+1) (b9++ [⟨v,proc,up,next,loop⟩]) v.a7];simp;omega) hg hp s o
    have hl:(Im.rows proc ((b9.length:Int)+1) ((b9.length:Int)+1) ((b9.length:Int)+1) (Im.rows proc ((b9.length:Int)+1) ((b9.length:Int)+1) ((b9.length:Int)+1) (b9++ [⟨v,proc,up,next,loop⟩]) v.a7) v.aX).length=b9.length+v.fI:=by rw [fM,fM];simp;omega
    simp only [hO,List.map_append,List.map_cons,List.map_nil,Mq,List.length_append,List.length_cons,List.length_nil]at f1
    repeat' (first
 | simp only [go_sem,hC,hE,hF,hM,k1,k2,Ja,uL,Vw,d1,d2,dt]
 | (with_reducible refine CU (ep _) ?_)
 | (with_reducible refine CU (f1 (by with_unfolding_all rfl) (by with_unfolding_all rfl)) ?_)
 | (with_reducible refine CU (f2 (by with_unfolding_all rfl) (by with_unfolding_all rfl)) ?_)
 | (with_reducible refine aH hQ ?_;simp only [aA,aB,bM,bN,go_sem,hC,hE,hF,hM];repeat' (first | exact Ok.out | with_reducible refine aJ ?_ ?_ | (simp;done))))
    refine dV 2 3 ?_ ?_ (IH (rest,k+1,_) ⟨g2,h2,by dsimp only;rw [hl];omega⟩ (Nat.lt_succ_self _))
    ·(simp only [go_sem,hC,hE,hF,hM,uL,k1,k2];try exact bR)
    ·(simp only [go_sem,hC,hE,hF,hM,uL,k1,k2];try exact bR)
   ·have d2:(v.kind==6)=false:=by simp [O2]
    simp only [e1,d2, ↓reduceIte,Bool.false_eq_true]at h2
    have f1:=fun {s:St} {o:Nat}=>@ih v.a7 proc ((b9.length:Int)+1) next loop (b9++ [⟨v,proc,up,next,loop⟩]) g ps lo hi b c Bp (by simp;omega) hg hp s o
    have f2:=fun {s:St} {o:Nat}=>@ih v.aX proc ((b9.length:Int)+1) next loop _ g ps lo hi b c FN (by rw [fM proc ((b9.length:Int)+1) next loop (b9++ [⟨v,proc,up,next,loop⟩]) v.a7];simp;omega) hg hp s o
    have hl:(Im.rows proc ((b9.length:Int)+1) next loop (Im.rows proc ((b9.length:Int)+1) next loop (b9++ [⟨v,proc,up,next,loop⟩]) v.a7) v.aX).length=b9.length+v.fI:=by rw [fM,fM];simp;omega
    simp only [hO,List.map_append,List.map_cons,List.map_nil,Mq,List.length_append,List.length_cons,List.length_nil]at f1
    repeat' (first
 | simp only [go_sem,hC,hE,hF,hM,k1,k2,Ja,uL,Vw,d1,d2,dt]
 | (with_reducible refine CU (ep _) ?_)
 | (with_reducible refine CU (f1 (by with_unfolding_all rfl) (by with_unfolding_all rfl)) ?_)
 | (with_reducible refine CU (f2 (by with_unfolding_all rfl) (by with_unfolding_all rfl)) ?_)
 | (with_reducible refine aH hQ ?_;simp only [aA,aB,bM,bN,go_sem,hC,hE,hF,hM];repeat' (first | exact Ok.out | with_reducible refine aJ ?_ ?_ | (simp;done))))
    refine dV 2 3 ?_ ?_ (IH (rest,k+1,_) ⟨g2,h2,by dsimp only;rw [hl];omega⟩ (Nat.lt_succ_self _))
    ·(simp only [go_sem,hC,hE,hF,hM,uL,k1,k2];try exact bR)
    ·(simp only [go_sem,hC,hE,hF,hM,uL,k1,k2];try exact bR)
theorem WT : ∀ N,N<1000000000→Vv N:=by
 intro N
 induction N with
 | zero=>exact fun _ l proc up next loop out g ps lo hi b c h=>absurd h (Nat.not_lt_zero _)
 | succ N ih=>
  intro h l proc up next loop out g ps lo hi b c hs hc hg hp s o ho ht
  exact(adF (ih (by omega)) hs hc hg hp (by omega)).adE (by simp [D.bT,D.ok,Tag.ok,nB,D.ja]) hg hp ho ht
end Go.Abs

/-! Flat3 -/

namespace Go.Abs
set_option maxRecDepth 8000
open Go.Proofs
def gM (p:Pg):List D:= [.slice .shared 1 (p.globals.map encStr), .slice .shared 5 (p.procs.map cL), .slice .shared 17 (p.eL.L.map eC), .slice .shared 1 (p.eL.lo.map lg), .slice .shared 1 (p.eL.hi.map lg)]
theorem qS (p:Pg):gM p = [.slice .shared 1 (p.globals.map encStr), .slice .shared 5 (p.procs.map cL), .slice .shared 17 (p.eL.L.map eC), .slice .shared 1 (p.eL.lo.map lg), .slice .shared 1 (p.eL.hi.map lg)]:=nd rfl
theorem xg (p:Pg):D.bT 0 0 (gM p)=true:=by simp [gM,D.bT,D.ok,Tag.ok,eI,Fe,Fl,yX]
theorem O3 (p:Pg):cB p = [.slice .shared 1 (p.globals.map encStr), .slice .shared 5 (p.procs.map cL)]:=nd rfl
theorem adG {p:Pg} (hs:Pc.aR p.procs<1000000000):aD Tryz.prog ld [.agg (cB p)] S0 (.ptr 1 0) ⟨[cB p,hO (.slice .shared 1 (p.globals.map encStr)) (.slice .shared 5 (p.procs.map cL)) p.eL.L p.eL.lo p.eL.hi],[some p.eL.L.length,some p.eL.lo.length,some p.eL.hi.length]⟩:=by
 have hlen:p.procs.length<1000000000:=by have:=Pc.c9 p.procs;omega
 obtain⟨R,hR⟩ : ∃ R,R=p.eL:=⟨_,rfl⟩
 have hR':=hR
 unfold Pg.eL at hR'
 unfold S0
 rw [O3, ← hR]
 refine aD.goK 2 3 (Nat.zero_le _) (Nat.zero_le _) Gv rfl fun B Q hB hQ=> ?_
 have⟨hC,hE,hF,hM⟩:=bL
 repeat' (first
 | simp only [go_sem,hC,hE,hF,hM,O3]
 | (with_reducible refine aH hQ ?_;simp only [aA,aB,Option.some.injEq,exists_eq_left',go_sem,hC,hE,hF,hM];repeat' (first | exact Ok.out | with_reducible refine aJ ?_ ?_ | (simp;done))))
 refine bw.tj 1 2 17 rfl rfl ?_
 simp only [go_sem,hC,hE,hF,hM]
 refine bw.tj 1 3 1 rfl rfl ?_
 simp only [go_sem,hC,hE,hF,hM]
 refine bw.tj 1 4 1 rfl rfl ?_
 simp only [go_sem,hC,hE,hF,hM]
 refine dV 2 3 ?_ ?_ (bw.ind (ι:=List Pc×Nat×Sh×Nat×Nat) (fun i=>p.procs.drop i.2.1=i.1∧Sh.go i.2.1 i.2.2.1 i.1=R∧i.2.2.1.L.length+Pc.aR i.1≤Pc.aR p.procs∧i.2.2.1.lo.length=i.2.1∧i.2.2.1.hi.length=i.2.1∧i.2.2.2.1=i.2.2.1.lo.length∧i.2.2.2.2=i.2.2.1.hi.length) (fun i=>i.1.length)
  (fun i=> [(1, .ptr 0 0),(3, .ptr 1 0),(10, .slice .shared 5 (p.procs.map cL)),(11, .int .i64 (p.procs.length:Int)),(12, .int .i64 (i.2.1:Int))]) (fun i=>⟨[[.slice .shared 1 (p.globals.map encStr), .slice .shared 5 (p.procs.map cL)],hO (.slice .shared 1 (p.globals.map encStr)) (.slice .shared 5 (p.procs.map cL)) i.2.2.1.L i.2.2.1.lo i.2.2.1.hi],[some i.2.2.1.L.length,some i.2.2.2.1,some i.2.2.2.2]⟩) ?_ (p.procs,0,⟨[],[],[]⟩,0,0) ⟨rfl,hR'.symm,by simp,rfl,rfl,rfl,rfl⟩)
 ·(simp only [go_sem,hC,hE,hF,hM,hO];try exact bR)
 ·(simp only [go_sem,hC,hE,hF,hM,hO];try exact bR)
 rintro⟨rest,k,h,n1,n2⟩ ⟨h1,h2,h3,h4,h5,h6,h7⟩ IH
 dsimp only at h1 h2 h3 h4 h5 h6 h7
 subst h6 h7
 cases rest with
 | nil=>
  have hC:=drop_nil h1
  simp only [Sh.go]at h2
  rw [← h2]at hQ
  repeat' (first
 | simp only [go_sem,hC,hE,hF,hM,hO]
 | (with_reducible refine aH hQ ?_;simp only [aA,aB,Option.some.injEq,exists_eq_left',go_sem,hC,hE,hF,hM];repeat' (first | exact Ok.out | with_reducible refine aJ ?_ ?_ | (simp;done))))
 | cons f rest=>
  obtain⟨hE,g2,hC,g4⟩:=drop_cons h1
  have bS:k<4611686018427387904:=by omega
  simp only [Pc.aR,Pc.size]at h3
  simp only [Sh.go]at h2
  have c1:=jZ f.body
  have hF:(h.lo.length+1)*9≤bQ:=by unfold bQ;omega
  have alR:(h.hi.length+1)*9≤bQ:=by unfold bQ;omega
  have Ja:IntKind.wrap .i64 ((h.L.length:Int)+1)=(h.L.length:Int)+1:=dJ (by omega) (by omega)
  have hl:(Im.rows (k:Int) 0 (-1) 0 h.L f.body).length=h.L.length+Sm.dB f.body:=fM ..
  have uL:IntKind.wrap .i64 (((Im.rows (k:Int) 0 (-1) 0 h.L f.body).length:Int)+1)=((Im.rows (k:Int) 0 (-1) 0 h.L f.body).length:Int)+1:=dJ (by omega) (by omega)
  have hr:=fun {s:St} {o:Nat}=>@WT (Sm.aR f.body+1) (by omega) f.body (k:Int) 0 (-1) 0 h.L (.slice .shared 1 (p.globals.map encStr)) (.slice .shared 5 (p.procs.map cL)) (h.lo++ [(h.L.length:Int)+1]) h.hi (some (h.lo.length+1)) (some h.hi.length) (Nat.lt_succ_self _) (by omega) (by simp [D.ok,Tag.ok,eI]) (by simp [D.ok,Tag.ok,Fe]) s o
  simp only [hO,List.map_append,List.map_cons,List.map_nil,lg]at hr
  repeat' (first
 | simp only [go_sem,hC,hE,hF,hM,Ja,uL,alR,hO]
 | (with_reducible refine CU (hr (by with_unfolding_all rfl) (by with_unfolding_all rfl)) ?_)
 | (with_reducible refine aH hQ ?_;simp only [aA,aB,Option.some.injEq,exists_eq_left',go_sem,hC,hE,hF,hM];repeat' (first | exact Ok.out | with_reducible refine aJ ?_ ?_ | (simp;done))))
  refine dV 2 3 ?_ ?_ (IH (rest,k+1,⟨Im.rows (k:Int) 0 (-1) 0 h.L f.body,h.lo++ [(h.L.length:Int)+1],h.hi++ [((Im.rows (k:Int) 0 (-1) 0 h.L f.body).length:Int)+1]⟩,_,_) ⟨g2,h2,by dsimp only;rw [hl];omega,by simp [h4],by simp [h5],by simp,by simp⟩ (Nat.lt_succ_self _))
  ·(simp only [go_sem,hC,hE,hF,hM,hO,aP bS,List.map_append,List.map_cons,List.map_nil,lg];try exact bR)
  ·(simp only [go_sem,hC,hE,hF,hM,hO,aP bS,List.map_append,List.map_cons,List.map_nil,lg];try exact bR)
theorem BT {p:Pg} (hs:Pc.aR p.procs<1000000000) (s:St):aD Tryz.prog ld [.agg (cB p)] s (.dD (gM p) 0) s:=by
 refine aD.pure ?_ (by simp only [D.bT,D.ok,jC];rfl) (by simp only [D.ok,xg]) s
 have h:=(adG hs).yd (n:=0) (m:=0) rfl (Nat.le_refl _) (Nat.zero_le _) (Nat.le_refl _)
 simpa [D.gE,D.fg,Tag.fg,OP,US,Vt,O1,St.cut,gM,S0]using h
end Go.Abs

/-! Sl1 -/

namespace Go.Abs
set_option maxRecDepth 8000
open Go.Proofs
def nj (x:ay) (k:Int):List ay→Int
 | []=> -1
 | s::l=>if x==s then k else nj x (k+1) l
def eH (l:List ay) (x:ay):Bool:=decide (nj x 0 l≥0)
def lD {α:Type} (b:α→Bool) (k:Int):List α→Int
 | []=> -1
 | s::l=>if b s then k else lD b (k+1) l
theorem Jb (x:ay) : ∀ (l:List ay) (k:Int),0≤k→(nj x k l≥0↔x∈l)
 | [],k,h=>by simp [nj]
 | s::l,k,h=>by
  by_cases e:x=s
  ·simp [nj,e];omega
  ·have e':(x==s)=false:=by simp [e]
   simp only [nj,e',Bool.false_eq_true,if_false,List.mem_cons,e,false_or]
   exact Jb x l (k+1) (by omega)
theorem iX (l:List ay) (x:ay):eH l x=true↔x∈l:=by
 simp only [eH,decide_eq_true_eq];exact Jb x l 0 (Int.le_refl 0)
theorem Dl {α:Type} (b:α→Bool) : ∀ (l:List α) (k:Int),0≤k→(lD b k l≥0↔l.any b=true)
 | [],k,h=>by simp [lD]
 | s::l,k,h=>by
  by_cases e:b s=true
  ·simp [lD,e];omega
  ·have e':b s=false:=by simpa using e
   simp only [lD,e',Bool.false_eq_true,if_false,List.any_cons,Bool.or_eq_true,false_or]
   exact Dl b l (k+1) (by omega)
theorem Jc {l:List ay} (hl:l.length<4611686018427387904) (x:ay) (s:St):aD Tryz.prog ie [.slice .shared 1 (l.map encStr), .str x] s (.int .i64 (nj x 0 l)) s:=by
 refine aD.pure ?_ (by simp [D.bT,D.ok,Tag.ok,eI]) rfl s
 generalize h:nj x 0 l=p
 unfold S0
 refine aD.go ua rfl fun B Q hB hQ=> ?_
 have⟨hC,hE,hF,hM⟩:=bL
 repeat' (first
 | simp only [go_sem,hC,hE,hF,hM]
 | (with_reducible first | refine bD fun hc=> ?_ | refine bE fun hc=> ?_ | refine bF (fun hc=> ?_) fun hc=> ?_) <;> (try simp only [hc,bs, ↓reduceIte]at h) <;> try simp only [hc]
 | (with_reducible refine aH hQ ?_;(try cases h);simp only [aA,aB,bM,bN,go_sem,hC,hE,hF,hM];repeat' (first | exact Ok.out | with_reducible refine aJ ?_ ?_ | (simp;done))))
 refine dc 0 0 (bw.ind (ι:=List ay×Nat) (fun i=>l.drop i.2=i.1∧nj x (i.2:Int) i.1=p) (fun i=>i.1.length)
  (fun i=> [(0, .slice .shared 1 (l.map encStr)),(1, .str x),(7, .int .i64 (l.length:Int)),(8, .int .i64 (i.2:Int))]) (fun i=>⟨[],[]⟩) ?_ (l,0) ⟨rfl,h⟩)
 rintro⟨rest,k⟩ ⟨h1,h⟩ IH
 dsimp only at h1 h
 cases rest with
 | nil=>
  have hC:=drop_nil h1
  simp only [nj]at h
  repeat' (first
 | simp only [go_sem,hC,hE,hF,hM]
 | (with_reducible first | refine bD fun hc=> ?_ | refine bE fun hc=> ?_ | refine bF (fun hc=> ?_) fun hc=> ?_) <;> (try simp only [hc,bs, ↓reduceIte]at h) <;> try simp only [hc]
 | (with_reducible refine aH hQ ?_;(try cases h);simp only [aA,aB,bM,bN,go_sem,hC,hE,hF,hM];repeat' (first | exact Ok.out | with_reducible refine aJ ?_ ?_ | (simp;done))))
 | cons a rest=>
  obtain⟨hE,g2,hC,g4⟩:=drop_cons h1
  have bS:k<4611686018427387904:=by omega
  simp only [nj]at h
  repeat' (first
 | simp only [go_sem,hC,hE,hF,hM]
 | (with_reducible first | refine bD fun hc=> ?_ | refine bE fun hc=> ?_ | refine bF (fun hc=> ?_) fun hc=> ?_) <;> (try simp only [hc,bs, ↓reduceIte]at h) <;> try simp only [hc]
 | (with_reducible refine aH hQ ?_;(try cases h);simp only [aA,aB,bM,bN,go_sem,hC,hE,hF,hM];repeat' (first | exact Ok.out | with_reducible refine aJ ?_ ?_ | (simp;done))))
  refine dV 0 0 ?_ ?_ (IH (rest,k+1) ⟨g2,h⟩ (Nat.lt_succ_self _))
  ·(simp only [go_sem,hC,hE,hF,hM,aP bS];try exact bR)
  ·(simp only [go_sem,hC,hE,hF,hM,aP bS];try exact bR)
theorem ql {l:List ay} (hl:l.length<4611686018427387904) (x:ay) (s:St):aD Tryz.prog b7 [.slice .shared 1 (l.map encStr), .str x] s (.bool (eH l x)) s:=by
 refine aD.pure ?_ (by simp [D.bT,D.ok,Tag.ok,eI]) rfl s
 have hi:=fun s=>Jc hl x s
 unfold S0
 refine aD.go se rfl fun B Q hB hQ=> ?_
 have⟨hC,hE,hF,hM⟩:=bL
 repeat' (first
 | simp only [go_sem,hC,hE,hF,hM,eH]
 | (with_reducible refine CU (hi _) ?_)
 | (with_reducible first | refine bD fun hc=> ?_ | refine bE fun hc=> ?_ | refine bF (fun hc=> ?_) fun hc=> ?_) <;> (try simp only [hc,bs, ↓reduceIte]at h) <;> try simp only [hc]
 | (with_reducible refine aH hQ ?_;simp only [aA,aB,bM,bN,go_sem,hC,hE,hF,hM,eH];repeat' (first | exact Ok.out | with_reducible refine aJ ?_ ?_ | (simp;done))))
theorem aD.O4 {P:Program} {f:Nat} {d d':D} {r:List D} {s s':St} {x:D} (h:aD P f (d'::r) s x s') (hw:Wk d d'):aD P f (d::r) s x s':=dT.yC (.cons hw (lV.refl r)) h
theorem iB {l:List ay} (hl:l.length<4611686018427387904) (x:ay) (g:Tag) (s:St):aD Tryz.prog b7 [.slice g 1 (l.map encStr), .str x] s (.bool (eH l x)) s:=
 (ql hl x s).O4 (Wk.shared _ _ _)
theorem GQ (x:ay) (z:Nat) (g:Tag) (s:St):aD Tryz.prog b7 [.slice g z [], .str x] s (.bool false) s:=
 (ql (l:= []) (by simp) x s).O4 (Wk.nil _ _ _)
theorem yY {l:List ay} (hl:l.length<4611686018427387904) {f:Nat} {row:List D} {b:ay→Bool} (sx:D.bT 0 0 row=true) (he:enters Tryz.prog f=true)
 (hb : ∀ x∈l,aD Tryz.prog f ([.str x]++ [.ptr 0 0]) ⟨[row],[]⟩ (.bool (b x)) ⟨[row],[]⟩) :
 aD Tryz.prog jS [.slice .shared 1 (l.map encStr), .ga f [.ptr 0 0]] ⟨[row],[]⟩ (.int .i64 (lD b 0 l)) ⟨[row],[]⟩:=by
 generalize h:lD b 0 l=p
 have k1 : ∀ n m,D.gE n m row=row:=fun n m=>gT n m _ sx
 refine aD.go rM rfl fun B Q hB hQ=> ?_
 have⟨hC,hE,hF,hM⟩:=bL
 repeat' (first
 | simp only [go_sem,hC,hE,hF,hM,k1]
 | (with_reducible first | refine bD fun hc=> ?_ | refine bE fun hc=> ?_ | refine bF (fun hc=> ?_) fun hc=> ?_) <;> (try simp only [hc,bs, ↓reduceIte]at h) <;> try simp only [hc]
 | (with_reducible refine aH hQ ?_;(try cases h);simp only [aA,aB,bM,bN,go_sem,hC,hE,hF,hM,k1];repeat' (first | exact Ok.out | with_reducible refine aJ ?_ ?_ | (simp;done))))
 refine dV 1 0 ?_ ?_ (bw.ind (ι:=List ay×Nat) (fun i=>l.drop i.2=i.1∧lD b (i.2:Int) i.1=p) (fun i=>i.1.length)
  (fun i=> [(0, .slice .shared 1 (l.map encStr)),(1, .ga f [.ptr 0 0]),(7, .int .i64 (l.length:Int)),(8, .int .i64 (i.2:Int))]) (fun i=>⟨[row],[]⟩) ?_ (l,0) ⟨rfl,h⟩)
 ·(simp only [go_sem,hC,hE,hF,hM,k1];try exact bR)
 ·(simp only [go_sem,hC,hE,hF,hM,k1];try exact bR)
 rintro⟨rest,k⟩ ⟨h1,h⟩ IH
 dsimp only at h1 h
 cases rest with
 | nil=>
  have hC:=drop_nil h1
  simp only [lD]at h
  repeat' (first
 | simp only [go_sem,hC,hE,hF,hM,k1]
 | (with_reducible first | refine bD fun hc=> ?_ | refine bE fun hc=> ?_ | refine bF (fun hc=> ?_) fun hc=> ?_) <;> (try simp only [hc,bs, ↓reduceIte]at h) <;> try simp only [hc]
 | (with_reducible refine aH hQ ?_;(try cases h);simp only [aA,aB,bM,bN,go_sem,hC,hE,hF,hM,k1];repeat' (first | exact Ok.out | with_reducible refine aJ ?_ ?_ | (simp;done))))
 | cons a rest=>
  obtain⟨hE,g2,hC,g4⟩:=drop_cons h1
  have bS:k<4611686018427387904:=by omega
  have Z3:=hb a (List.mem_of_getElem? hE)
  simp only [lD]at h
  repeat' (first
 | simp only [go_sem,hC,hE,hF,hM,k1]
 | (with_reducible refine CV.use (he) (Z3) ?_)
 | (with_reducible first | refine bD fun hc=> ?_ | refine bE fun hc=> ?_ | refine bF (fun hc=> ?_) fun hc=> ?_) <;> (try simp only [hc,bs, ↓reduceIte]at h) <;> try simp only [hc]
 | (with_reducible refine aH hQ ?_;(try cases h);simp only [aA,aB,bM,bN,go_sem,hC,hE,hF,hM,k1];repeat' (first | exact Ok.out | with_reducible refine aJ ?_ ?_ | (simp;done))))
  refine dV 1 0 ?_ ?_ (IH (rest,k+1) ⟨g2,h⟩ (Nat.lt_succ_self _))
  ·(simp only [go_sem,hC,hE,hF,hM,k1,aP bS];try exact bR)
  ·(simp only [go_sem,hC,hE,hF,hM,k1,aP bS];try exact bR)
theorem yZ {P:Program} {g f:Nat} {row:List D} {rows:List (List D)} {z:Nat} {d:D} (h:aD P g [.slice .shared z rows, .ga f [.ptr 0 0]] ⟨[row],[]⟩ d ⟨[row],[]⟩) (sx:D.bT 0 0 row=true) (hw:D.ja 0 0 rows=true) (hd:D.ok 0 0 d=true) {s:St} {o:Nat} (ho:s.az[o]? = some row) :
 aD P g [.slice .shared z rows, .ga f [.ptr o 0]] s d s:=by
 refine dT.frame [o] [] h (by simp) List.nodup_nil (by simpa using (List.getElem?_eq_some_iff.1 ho).1) (by simp) rfl (fun i o' ds e1 e2=> ?_) rfl (by simp) (by simp [D.fK,D.dF,Tag.dF,iF _ _ _ hw])
  (by simp [D.bT,D.ok,Tag.ok,mB (Nat.zero_le 1) (Nat.le_refl 0) _ hw]) ?_
 ·cases i with
  | zero=>simp at e1 e2;subst e1;subst e2;exact⟨by rw [eR _ _ _ sx];exact ho,gG (Nat.zero_le 1) (Nat.le_refl 0) _ sx⟩
  | succ i=>simp at e1
 ·rintro _ _ ⟨rfl,rfl⟩
  refine⟨qM _ _ _ hd, ?_⟩
  have:s.az.set o row=s.az:=by
   apply List.ext_getElem?
   intro i
   rw [List.getElem?_set]
   split
   ·rename_i e;subst e;rw [ho];split
    ·rfl
    ·rename_i hh;exact absurd (List.getElem?_eq_some_iff.1 ho).1 hh
   ·rfl
  simp [St.back,jA,eR _ _ _ sx,this]
theorem wu {l:List ay} (hl:l.length<4611686018427387904) {f:Nat} {row:List D} {b:ay→Bool} (sx:D.bT 0 0 row=true) (he:enters Tryz.prog f=true)
 (hb : ∀ x∈l,aD Tryz.prog f ([.str x]++ [.ptr 0 0]) ⟨[row],[]⟩ (.bool (b x)) ⟨[row],[]⟩) :
 aD Tryz.prog fl [.slice .shared 1 (l.map encStr), .ga f [.ptr 0 0]] ⟨[row],[]⟩ (.bool (l.any b)) ⟨[row],[]⟩:=by
 have k1 : ∀ n m,D.gE n m row=row:=fun n m=>gT n m _ sx
 have hi:=yY hl sx he hb
 have e:decide (lD b 0 l≥0)=l.any b:=by
  have:=Dl b l 0 (Int.le_refl 0)
  cases hh:l.any b <;> simp_all
 refine aD.go qh rfl fun B Q hB hQ=> ?_
 have⟨hC,hE,hF,hM⟩:=bL
 repeat' (first
 | simp only [go_sem,hC,hE,hF,hM,k1,e]
 | (with_reducible refine CU (hi) ?_)
 | (with_reducible first | refine bD fun hc=> ?_ | refine bE fun hc=> ?_ | refine bF (fun hc=> ?_) fun hc=> ?_) <;> (try simp only [hc,bs, ↓reduceIte]at h) <;> try simp only [hc]
 | (with_reducible refine aH hQ ?_;simp only [aA,aB,bM,bN,go_sem,hC,hE,hF,hM,k1,e];repeat' (first | exact Ok.out | with_reducible refine aJ ?_ ?_ | (simp;done))))
theorem wv {l:List ay} (hl:l.length<4611686018427387904) {f:Nat} {row:List D} {b:ay→Bool} (sx:D.bT 0 0 row=true) (he:enters Tryz.prog f=true)
 (hb : ∀ x∈l,aD Tryz.prog f ([.str x]++ [.ptr 0 0]) ⟨[row],[]⟩ (.bool (b x)) ⟨[row],[]⟩) {s:St} {o:Nat} (ho:s.az[o]? = some row) :
 aD Tryz.prog fl [.slice .shared 1 (l.map encStr), .ga f [.ptr o 0]] s (.bool (l.any b)) s:=
 yZ (wu hl sx he hb) sx (eI l) rfl ho
theorem tI {l:List Pc} (hl:l.length<4611686018427387904) {f:Nat} {row:List D} {b:Pc→Bool} (sx:D.bT 0 0 row=true) (he:enters Tryz.prog f=true)
 (hb : ∀ x∈l,aD Tryz.prog f ([.agg (cL x)]++ [.ptr 0 0]) ⟨[row],[]⟩ (.bool (b x)) ⟨[row],[]⟩) :
 aD Tryz.prog fu [.slice .shared 5 (l.map cL), .ga f [.ptr 0 0]] ⟨[row],[]⟩ (.int .i64 (lD b 0 l)) ⟨[row],[]⟩:=by
 generalize h:lD b 0 l=p
 have k1 : ∀ n m,D.gE n m row=row:=fun n m=>gT n m _ sx
 refine aD.go qw rfl fun B Q hB hQ=> ?_
 have⟨hC,hE,hF,hM⟩:=bL
 repeat' (first
 | simp only [go_sem,hC,hE,hF,hM,k1]
 | (with_reducible first | refine bD fun hc=> ?_ | refine bE fun hc=> ?_ | refine bF (fun hc=> ?_) fun hc=> ?_) <;> (try simp only [hc,bs, ↓reduceIte]at h) <;> try simp only [hc]
 | (with_reducible refine aH hQ ?_;(try cases h);simp only [aA,aB,bM,bN,go_sem,hC,hE,hF,hM,k1];repeat' (first | exact Ok.out | with_reducible refine aJ ?_ ?_ | (simp;done))))
 refine dV 1 0 ?_ ?_ (bw.ind (ι:=List Pc×Nat) (fun i=>l.drop i.2=i.1∧lD b (i.2:Int) i.1=p) (fun i=>i.1.length)
  (fun i=> [(0, .slice .shared 5 (l.map cL)),(1, .ga f [.ptr 0 0]),(7, .int .i64 (l.length:Int)),(8, .int .i64 (i.2:Int))]) (fun i=>⟨[row],[]⟩) ?_ (l,0) ⟨rfl,h⟩)
 ·(simp only [go_sem,hC,hE,hF,hM,k1];try exact bR)
 ·(simp only [go_sem,hC,hE,hF,hM,k1];try exact bR)
 rintro⟨rest,k⟩ ⟨h1,h⟩ IH
 dsimp only at h1 h
 cases rest with
 | nil=>
  have hC:=drop_nil h1
  simp only [lD]at h
  repeat' (first
 | simp only [go_sem,hC,hE,hF,hM,k1]
 | (with_reducible first | refine bD fun hc=> ?_ | refine bE fun hc=> ?_ | refine bF (fun hc=> ?_) fun hc=> ?_) <;> (try simp only [hc,bs, ↓reduceIte]at h) <;> try simp only [hc]
 | (with_reducible refine aH hQ ?_;(try cases h);simp only [aA,aB,bM,bN,go_sem,hC,hE,hF,hM,k1];repeat' (first | exact Ok.out | with_reducible refine aJ ?_ ?_ | (simp;done))))
 | cons a rest=>
  obtain⟨hE,g2,hC,g4⟩:=drop_cons h1
  have bS:k<4611686018427387904:=by omega
  have Z3:=hb a (List.mem_of_getElem? hE)
  simp only [lD]at h
  repeat' (first
 | simp only [go_sem,hC,hE,hF,hM,k1]
 | (with_reducible refine CV.use (he) (Z3) ?_)
 | (with_reducible first | refine bD fun hc=> ?_ | refine bE fun hc=> ?_ | refine bF (fun hc=> ?_) fun hc=> ?_) <;> (try simp only [hc,bs, ↓reduceIte]at h) <;> try simp only [hc]
 | (with_reducible refine aH hQ ?_;(try cases h);simp only [aA,aB,bM,bN,go_sem,hC,hE,hF,hM,k1];repeat' (first | exact Ok.out | with_reducible refine aJ ?_ ?_ | (simp;done))))
  refine dV 1 0 ?_ ?_ (IH (rest,k+1) ⟨g2,h⟩ (Nat.lt_succ_self _))
  ·(simp only [go_sem,hC,hE,hF,hM,k1,aP bS];try exact bR)
  ·(simp only [go_sem,hC,hE,hF,hM,k1,aP bS];try exact bR)
theorem x7 {l:List Pc} (hl:l.length<4611686018427387904) {f:Nat} {row:List D} {b:Pc→Bool} (sx:D.bT 0 0 row=true) (he:enters Tryz.prog f=true)
 (hb : ∀ x∈l,aD Tryz.prog f ([.agg (cL x)]++ [.ptr 0 0]) ⟨[row],[]⟩ (.bool (b x)) ⟨[row],[]⟩) :
 aD Tryz.prog fU [.slice .shared 5 (l.map cL), .ga f [.ptr 0 0]] ⟨[row],[]⟩ (.bool (l.any b)) ⟨[row],[]⟩:=by
 have k1 : ∀ n m,D.gE n m row=row:=fun n m=>gT n m _ sx
 have hi:=tI hl sx he hb
 have e:decide (lD b 0 l≥0)=l.any b:=by
  have:=Dl b l 0 (Int.le_refl 0)
  cases hh:l.any b <;> simp_all
 refine aD.go ph rfl fun B Q hB hQ=> ?_
 have⟨hC,hE,hF,hM⟩:=bL
 repeat' (first
 | simp only [go_sem,hC,hE,hF,hM,k1,e]
 | (with_reducible refine CU (hi) ?_)
 | (with_reducible first | refine bD fun hc=> ?_ | refine bE fun hc=> ?_ | refine bF (fun hc=> ?_) fun hc=> ?_) <;> (try simp only [hc,bs, ↓reduceIte]at h) <;> try simp only [hc]
 | (with_reducible refine aH hQ ?_;simp only [aA,aB,bM,bN,go_sem,hC,hE,hF,hM,k1,e];repeat' (first | exact Ok.out | with_reducible refine aJ ?_ ?_ | (simp;done))))
end Go.Abs

/-! MirFlat2 -/

namespace Go.Abs
mutual
def Sm.pre:Sm→List Sm
 | ⟨id,kind,labels,name,pc,x,has,args,a7,aX⟩=>⟨id,kind,labels,name,pc,x,has,args,a7,aX⟩::(Sm.dH a7++Sm.dH aX)
def Sm.dH:List Sm→List Sm
 | []=> []
 | s::l=>s.pre++Sm.dH l
end
def Pg.pre (p:Pg):List Sm:=(p.procs.map fun f=>Sm.dH f.body).flatten
theorem Sm.GR (s:Sm):s.pre=s::(Sm.dH s.a7++Sm.dH s.aX):=by cases s;simp only [Sm.pre]
mutual
theorem WU (proc up next loop:Int) (out:List Im) : ∀ s:Sm,∃ e:List Im,Im.one proc up next loop out s=out++e∧e.map Im.s=s.pre
 | ⟨id,kind,labels,name,pc,x,has,args,a7,aX⟩=>by
  simp only [Im.one,Sm.pre]
  obtain⟨e1,h1,k1⟩:=xh proc ((out.length:Int)+1) (if kind==6 then(out.length:Int)+1 else next) (if kind==6 then(out.length:Int)+1 else loop) (out++ [⟨⟨id,kind,labels,name,pc,x,has,args,a7,aX⟩,proc,up,next,loop⟩]) a7
  obtain⟨e2,h2,k2⟩:=xh proc ((out.length:Int)+1) (if kind==6 then(out.length:Int)+1 else next) (if kind==6 then(out.length:Int)+1 else loop) (Im.rows proc ((out.length:Int)+1) (if kind==6 then(out.length:Int)+1 else next) (if kind==6 then(out.length:Int)+1 else loop) (out++ [⟨⟨id,kind,labels,name,pc,x,has,args,a7,aX⟩,proc,up,next,loop⟩]) a7) aX
  refine⟨⟨⟨id,kind,labels,name,pc,x,has,args,a7,aX⟩,proc,up,next,loop⟩::(e1++e2), ?_, ?_⟩
  ·rw [h2,h1];simp
  ·simp [k1,k2]
theorem xh (proc up next loop:Int) (out:List Im) : ∀ l:List Sm,∃ e:List Im,Im.rows proc up next loop out l=out++e∧e.map Im.s=Sm.dH l
 | []=>⟨[],by simp [Im.rows],rfl⟩
 | s::l=>by
  simp only [Im.rows,Sm.dH]
  obtain⟨e1,h1,k1⟩:=WU proc up (if l.length=0 then next else(out.length:Int)+1+(s.fI:Int)) loop out s
  obtain⟨e2,h2,k2⟩:=xh proc up next loop (Im.one proc up (if l.length=0 then next else(out.length:Int)+1+(s.fI:Int)) loop out s) l
  refine⟨e1++e2, ?_,by simp [k1,k2]⟩
  rw [h2,h1];simp
end
theorem O5 : ∀ (l:List Pc) (n:Nat) (h:Sh),h.lo.length=n→h.hi.length=n→
 ∃ e lo hi,Sh.go n h l = ⟨h.L++e,h.lo++lo,h.hi++hi⟩∧e.map Im.s=(l.map fun f=>Sm.dH f.body).flatten∧lo.length=l.length∧hi.length=l.length∧
  ∀ (i:Nat) (f:Pc),l[i]? = some f→∃ a b e' Ng:List Im,lo[i]? = some (((h.L++a).length:Int)+1)∧hi[i]? = some (((h.L++a++b).length:Int)+1)∧b.map Im.s=Sm.dH f.body∧e=a++b++e'
 | [],n,h,hl,hh=>⟨[],[],[],by simp [Sh.go],rfl,rfl,rfl,fun i f h=>by simp at h⟩
 | f::l,n,h,hl,hh=>by
  simp only [Sh.go]
  obtain⟨e1,h1,k1⟩:=xh (n:Int) 0 (-1) 0 h.L f.body
  obtain⟨e2,lo,hi,h2,k2,h3,h4,h5⟩:=O5 l (n+1) ⟨Im.rows (n:Int) 0 (-1) 0 h.L f.body,h.lo++ [(h.L.length:Int)+1],h.hi++ [((Im.rows (n:Int) 0 (-1) 0 h.L f.body).length:Int)+1]⟩ (by simp [hl]) (by simp [hh])
  refine⟨e1++e2,((h.L.length:Int)+1)::lo,(((Im.rows (n:Int) 0 (-1) 0 h.L f.body).length:Int)+1)::hi, ?_,by simp [k1,k2],by simp [h3],by simp [h4],fun i g gD=> ?_⟩
  ·rw [h2,h1];simp
  ·cases i with
   | zero=>
    simp only [List.getElem?_cons_zero,Option.some.injEq]at gD
    subst gD
    exact⟨[],e1,e2,[],by simp,by rw [h1];simp,k1,by simp⟩
   | succ i=>
    simp only [List.getElem?_cons_succ]at gD
    obtain⟨a,b,e',Ng,g1,g2,g3,g4⟩:=h5 i g gD
    refine⟨e1++a,b,e',Ng, ?_, ?_,g3,by rw [g4];simp⟩
    ·rw [List.getElem?_cons_succ,g1,h1];simp
    ·rw [List.getElem?_cons_succ,g2,h1];simp
theorem pE (p:Pg):p.eL.L.map Im.s=p.pre∧∀ (i:Nat) (f:Pc),p.procs[i]? = some f→∃ a b e:List Im,p.eL.lo[i]? = some ((a.length:Int)+1)∧p.eL.hi[i]? = some (((a++b).length:Int)+1)∧b.map Im.s=Sm.dH f.body∧p.eL.L=a++b++e:=by
 obtain⟨e,lo,hi,h1,h2,h3,h4,h5⟩:=O5 p.procs 0 ⟨[],[],[]⟩ rfl rfl
 unfold Pg.eL
 rw [h1]
 refine⟨by simpa [Pg.pre]using h2,fun i f hf=> ?_⟩
 obtain⟨a,b,e',_,g1,g2,g3,g4⟩:=h5 i f hf
 exact⟨a,b,e',by simpa using g1,by simpa using g2,g3,by simpa using g4⟩
end Go.Abs

/-! Sl2 -/

namespace Go.Abs
set_option maxRecDepth 8000
open Go.Proofs
def Pg.at (p:Pg) (name:ay):Int:=lD (fun f:Pc=>f.name==name) 0 p.procs
theorem WV (name:ay) (f:Pc):aD Tryz.prog kI ([.agg (cL f)]++ [.ptr 0 0]) ⟨[[.str name]],[]⟩ (.bool (f.name==name)) ⟨[[.str name]],[]⟩:=by
 show aD Tryz.prog kI [.agg (cL f), .ptr 0 0] _ _ _
 refine aD.go vZ rfl fun B Q hB hQ=> ?_
 have⟨hC,hE,hF,hM⟩:=bL
 repeat' (first
 | simp only [go_sem,hC,hE,hF,hM]
 | (with_reducible refine aH hQ ?_;simp only [aA,aB,Option.some.injEq,exists_eq_left',go_sem,hC,hE,hF,hM];repeat' (first | exact Ok.out | with_reducible refine aJ ?_ ?_ | (simp;done))))
theorem O6 {p:Pg} (hs:p.procs.length<4611686018427387904) (name:ay) (s:St):aD Tryz.prog lR [.dD (gM p) 0, .str name] s (.int .i64 (p.at name)) s:=by
 refine aD.pure ?_ (by simp [D.bT,D.ok,xg]) rfl s
 have hi:=fun {s:St} {o:Nat} (ho:s.az[o]? = some [.str name])=>yZ (tI (l:=p.procs) (f:=kI) (row:= [.str name]) (b:=fun f:Pc=>f.name==name) hs rfl (by with_unfolding_all rfl) (fun x _=>WV name x)) rfl (Fe _) rfl ho
 have gD:=fun {s:St} {o:Nat} (ho:s.az[o]? = some [.str name])=>(show aD Tryz.prog fu [.slice .shared 5 (p.procs.map cL), .ga 167 [.ptr o 0]] s (.int .i64 (p.at name)) s from hi ho)
 unfold S0
 rw [qS]
 refine aD.go x5 rfl fun B Q hB hQ=> ?_
 have⟨hC,hE,hF,hM⟩:=bL
 repeat' (first
 | simp only [go_sem,hC,hE,hF,hM]
 | (with_reducible refine CU (gD (by with_unfolding_all rfl)) ?_)
 | (with_reducible refine aH hQ ?_;simp only [aA,aB,Option.some.injEq,exists_eq_left',go_sem,hC,hE,hF,hM];repeat' (first | exact Ok.out | with_reducible refine aJ ?_ ?_ | (simp;done))))
theorem O7 : ∀ (l:List Pc) (n:Nat) (h:Sh),(Sh.go n h l).L.length≤h.L.length+Pc.aR l
 | [],n,h=>by simp [Sh.go]
 | f::l,n,h=>by
  simp only [Sh.go]
  refine Nat.le_trans (O7 l _ _) ?_
  have:=fM (n:Int) 0 (-1) 0 h.L f.body
  have:=jZ f.body
  simp only [Pc.aR,Pc.size];omega
theorem pF (p:Pg):p.eL.L.length≤Pc.aR p.procs:=by have:=O7 p.procs 0 ⟨[],[],[]⟩;simpa [Pg.eL]using this
theorem Z4 {p:Pg} {i:Nat} (hs:Pc.aR p.procs<1000000000) {a b e:List Im} (h1:p.eL.lo[i]? = some ((a.length:Int)+1)) (h2:p.eL.hi[i]? = some (((a++b).length:Int)+1)) (h4:p.eL.L=a++b++e) (s:St) :
 aD Tryz.prog fT [.dD (gM p) 0, .int .i64 (i:Int)] s (.slice .shared 17 (b.map eC)) s:=by
 refine aD.pure ?_ (by simp [D.bT,D.ok,xg]) (by simp [D.ok,Tag.ok,Fl]) s
 have hL:p.eL.L.length<1000000000:=Nat.lt_of_le_of_lt (pF p) hs
 have l1:(i:Int)<(p.eL.lo.length:Int):=by have:=(List.getElem?_eq_some_iff.1 h1).1;omega
 have l2:(i:Int)<(p.eL.hi.length:Int):=by have:=(List.getElem?_eq_some_iff.1 h2).1;omega
 have Aa:a.length+b.length≤p.eL.L.length:=by rw [h4];simp
 have w1:IntKind.wrap .i64 ((a.length:Int)+1 - 1)=(a.length:Int):=by rw [show(a.length:Int)+1 - 1=(a.length:Int) by omega];exact dJ (by omega) (by omega)
 have w2:IntKind.wrap .i64 (((a.length+b.length:Nat):Int)+1 - 1)=((a.length+b.length:Nat):Int):=by rw [show((a.length+b.length:Nat):Int)+1 - 1=((a.length+b.length:Nat):Int) by omega];exact dJ (by omega) (by omega)
 have c1:((a.length:Int)≤((a.length+b.length:Nat):Int))=True:=by simp only [eq_iff_iff,iff_true];omega
 have c2:(((a.length+b.length:Nat):Int)≤(p.eL.L.length:Int))=True:=by simp only [eq_iff_iff,iff_true];omega
 have hb:List.drop a.length (List.take (a.length+b.length) (List.map eC p.eL.L))=List.map eC b:=by rw [h4];simp [List.map_append,List.take_append,List.drop_append]
 unfold S0
 rw [qS]
 refine aD.go zK rfl fun B Q hB hQ=> ?_
 have⟨hC,hE,hF,hM⟩:=bL
 repeat' (first
 | simp only [go_sem,hC,hE,hF,hM,h1,h2,List.length_append,w1,w2,c1,c2,or_true,true_and,and_self,ite_self,Int.toNat_natCast,hb]
 | (with_reducible first | refine bD fun hc=> ?_ | refine bE fun hc=> ?_ | refine bF (fun hc=> ?_) fun hc=> ?_) <;> (try simp only [hc,bs, ↓reduceIte]at h) <;> try simp only [hc]
 | (with_reducible refine aH hQ ?_;(try cases h);simp only [aA,aB,bM,bN,go_sem,hC,hE,hF,hM,h1,h2,List.length_append,w1,w2,c1,c2,or_true,true_and,and_self,ite_self,Int.toNat_natCast,hb];try exact rH)
 | (cases h;done))
theorem SK {p:Pg} {i:Nat} {f:Pc} (hf:p.procs[i]? = some f) (hs:Pc.aR p.procs<1000000000) : ∃ it:List Im,it.map Im.s=Sm.dH f.body∧∀ s,aD Tryz.prog fT [.dD (gM p) 0, .int .i64 (i:Int)] s (.slice .shared 17 (it.map eC)) s:=by
 obtain⟨a,b,e,h1,h2,h3,h4⟩:=(pE p).2 i f hf
 exact⟨b,h3,Z4 hs h1 h2 h4⟩
end Go.Abs

/-! TMay1 -/

namespace Go.Abs
set_option maxRecDepth 8000
open Go.Proofs
theorem DZ {r:ay} : qk r=true↔gm r=r.length:=by
 induction r with
 | nil=>simp [qk,gm]
 | cons c r ih=>
  simp only [qk,gm]
  cases h1:mq c <;> cases h2:j9 c <;> simp [ih]
theorem y0 (t:ay) (hl:t.length<4611686018427387904) (s:St):aD Tryz.prog mE [.str t] s (.bool (isName t)) s:=by
 refine aD.pure ?_ rfl rfl s
 have hr:=fun s=>Vq (pos:=0) hl s
 simp only [List.drop_zero,Nat.zero_add]at hr
 unfold S0
 cases t with
 | nil=>
  have z:decide (((0:Nat):Int)<1)=true:=rfl
  have z':decide ((0:Int)<1)=true:=rfl
  have e:isName [] = false:=rfl
  rw [e]
  refine aD.go l9 rfl fun B Q hB hQ=> ?_
  have⟨hC,hE,hF,hM⟩:=bL
  repeat' (first
 | simp only [go_sem,hC,hE,hF,hM,z,z']
 | (with_reducible refine aH hQ ?_;simp only [aA,aB,Option.some.injEq,exists_eq_left',go_sem,hC,hE,hF,hM];repeat' (first | exact Ok.out | with_reducible refine aJ ?_ ?_ | (simp;done))))
 | cons c r=>
  have l1:decide (((r.length+1:Nat):Int)<1)=false:=by simp;omega
  generalize h:isName (c::r)=p
  simp only [isName]at h
  cases hL:mq c
  ·simp only [hL,Bool.not_false,Bool.or_true, ↓reduceIte]at h
   subst h
   by_cases c8:decide (((r.length+1:Nat):Int) > 8)=true
   ·refine aD.go l9 rfl fun B Q hB hQ=> ?_
    have⟨hC,hE,hF,hM⟩:=bL
    repeat' (first
 | simp only [go_sem,hC,hE,hF,hM,l1,c8]
 | (with_reducible refine aH hQ ?_;simp only [aA,aB,Option.some.injEq,exists_eq_left',go_sem,hC,hE,hF,hM];repeat' (first | exact Ok.out | with_reducible refine aJ ?_ ?_ | (simp;done))))
   ·have c8:decide (((r.length+1:Nat):Int) > 8)=false:=by simpa using c8
    refine aD.go l9 rfl fun B Q hB hQ=> ?_
    have⟨hC,hE,hF,hM⟩:=bL
    repeat' (first
 | simp only [go_sem,hC,hE,hF,hM,l1,c8,hL]
 | (with_reducible refine CU (gJ _ _) ?_)
 | (with_reducible refine aH hQ ?_;simp only [aA,aB,Option.some.injEq,exists_eq_left',go_sem,hC,hE,hF,hM];repeat' (first | exact Ok.out | with_reducible refine aJ ?_ ?_ | (simp;done))))
  ·simp only [hL,Bool.not_true,Bool.or_false]at h
   by_cases c8:decide (((r.length+1:Nat):Int) > 8)=true
   ·simp only [c8, ↓reduceIte]at h
    subst h
    refine aD.go l9 rfl fun B Q hB hQ=> ?_
    have⟨hC,hE,hF,hM⟩:=bL
    repeat' (first
 | simp only [go_sem,hC,hE,hF,hM,l1,c8]
 | (with_reducible refine aH hQ ?_;simp only [aA,aB,Option.some.injEq,exists_eq_left',go_sem,hC,hE,hF,hM];repeat' (first | exact Ok.out | with_reducible refine aJ ?_ ?_ | (simp;done))))
   ·have c8:decide (((r.length+1:Nat):Int) > 8)=false:=by simpa using c8
    simp only [c8,Bool.false_eq_true, ↓reduceIte]at h
    have dA:gm (c::r)=gm r+1:=by simp [gm,hL]
    cases hn:qk r
    ·simp only [hn,Bool.false_eq_true, ↓reduceIte]at h
     have:gm r≠r.length:=fun e=>by rw [DZ.2 e]at hn;cases hn
     have e:(((gm (c::r):Nat):Int)==((r.length+1:Nat):Int))=false:=by rw [dA];simp;omega
     subst h
     refine aD.go l9 rfl fun B Q hB hQ=> ?_
     have⟨hC,hE,hF,hM⟩:=bL
     repeat' (first
 | simp only [go_sem,hC,hE,hF,hM,l1,c8,hL,e]
 | (with_reducible refine CU (gJ _ _) ?_)
 | (with_reducible refine CU (hr _) ?_)
 | (with_reducible refine aH hQ ?_;simp only [aA,aB,Option.some.injEq,exists_eq_left',go_sem,hC,hE,hF,hM];repeat' (first | exact Ok.out | with_reducible refine aJ ?_ ?_ | (simp;done))))
    ·simp only [hn, ↓reduceIte]at h
     have:=DZ.1 hn
     have e:(((gm (c::r):Nat):Int)==((r.length+1:Nat):Int))=true:=by rw [dA];simp;omega
     subst h
     refine aD.go l9 rfl fun B Q hB hQ=> ?_
     have⟨hC,hE,hF,hM⟩:=bL
     repeat' (first
 | simp only [go_sem,hC,hE,hF,hM,l1,c8,hL,e]
 | (with_reducible refine CU (gJ _ _) ?_)
 | (with_reducible refine CU (hr _) ?_)
 | (with_reducible refine CU (tH _ _) ?_)
 | (with_reducible refine aH hQ ?_;simp only [aA,aB,Option.some.injEq,exists_eq_left',go_sem,hC,hE,hF,hM];repeat' (first | exact Ok.out | with_reducible refine aJ ?_ ?_ | (simp;done))))
theorem Jd (op:Int) (s:St):aD Tryz.prog vw [.int .i64 op] s (.int .i64 (iO op)) s:=by
 refine aD.pure ?_ rfl rfl s
 unfold S0
 generalize h:iO op=p
 unfold iO at h
 refine aD.go EY rfl fun B Q hB hQ=> ?_
 have⟨hC,hE,hF,hM⟩:=bL
 repeat' (first
 | simp only [go_sem,hC,hE,hF,hM]
 | (with_reducible first | refine bD fun hc=> ?_ | refine bE fun hc=> ?_ | refine bF (fun hc=> ?_) fun hc=> ?_) <;> (try simp only [hc,bs, ↓reduceIte]at h) <;> try simp only [hc]
 | (with_reducible refine aH hQ ?_;(try cases h);simp only [aA,aB,bM,bN,go_sem,hC,hE,hF,hM];repeat' (first | exact Ok.out | with_reducible refine aJ ?_ ?_ | (simp;done))))
theorem xi {l:List ay} (hl:l.length<4611686018427387904) (hs : ∀ t∈l,t.length<4611686018427387904) (s:St):aD Tryz.prog l5 [.slice .shared 1 (l.map encStr)] s (.bool (bX l)) s:=by
 refine aD.pure ?_ (by simp [D.bT,D.ok,eI,Tag.ok]) rfl s
 unfold S0
 generalize h:bX l=p
 refine aD.go C7 rfl fun B Q hB hQ=> ?_
 have⟨hC,hE,hF,hM⟩:=bL
 repeat' (first
 | simp only [go_sem,hC,hE,hF,hM]
 | (with_reducible first | refine bD fun hc=> ?_ | refine bE fun hc=> ?_ | refine bF (fun hc=> ?_) fun hc=> ?_) <;> (try simp only [hc,bs, ↓reduceIte]at h) <;> try simp only [hc]
 | (with_reducible refine aH hQ ?_;(try cases h);simp only [aA,aB,bM,bN,go_sem,hC,hE,hF,hM];repeat' (first | exact Ok.out | with_reducible refine aJ ?_ ?_ | (simp;done))))
 refine dc 0 0 (bw.ind (ι:=List ay×Nat) (fun i=>l.drop i.2=i.1∧bX i.1=p) (fun i=>i.1.length)
  (fun i=> [(5, .slice .shared 1 (l.map encStr)),(6, .int .i64 (l.length:Int)),(7, .int .i64 (i.2:Int))]) (fun i=>⟨[],[]⟩) ?_ (l,0) ⟨rfl,h⟩)
 rintro⟨rest,k⟩ ⟨h1,h⟩ IH
 dsimp only at h1 h
 cases rest with
 | nil=>
  have hC:=drop_nil h1
  simp only [bX]at h
  repeat' (first
 | simp only [go_sem,hC,hE,hF,hM]
 | (with_reducible first | refine bD fun hc=> ?_ | refine bE fun hc=> ?_ | refine bF (fun hc=> ?_) fun hc=> ?_) <;> (try simp only [hc,bs, ↓reduceIte]at h) <;> try simp only [hc]
 | (with_reducible refine aH hQ ?_;(try cases h);simp only [aA,aB,bM,bN,go_sem,hC,hE,hF,hM];repeat' (first | exact Ok.out | with_reducible refine aJ ?_ ?_ | (simp;done))))
 | cons t rest=>
  obtain⟨hE,g2,hC,g4⟩:=drop_cons h1
  have hF:k<4611686018427387904:=by omega
  have hn:=y0 t (hs t (List.mem_of_getElem? hE))
  simp only [bX]at h
  repeat' (first
 | simp only [go_sem,hC,hE,hF,hM]
 | (with_reducible refine CU (hn _) ?_)
 | (with_reducible first | refine bD fun hc=> ?_ | refine bE fun hc=> ?_ | refine bF (fun hc=> ?_) fun hc=> ?_) <;> (try simp only [hc,bs, ↓reduceIte]at h) <;> try simp only [hc]
 | (with_reducible refine aH hQ ?_;(try cases h);simp only [aA,aB,bM,bN,go_sem,hC,hE,hF,hM];repeat' (first | exact Ok.out | with_reducible refine aJ ?_ ?_ | (simp;done))))
  refine dc 0 0 (IH (rest,k+1) ⟨g2,h⟩ (Nat.lt_succ_self _))
mutual
def Ex.dp (left:Int):Ex→Bool
 | ⟨op,n,name,kids⟩=>
  if decide (left<1) || (kids.length:Int) != iO op then false
  else if op==1 then decide (n≥0) && name == []
  else if op==2 then n==0 && isName name
  else if n != 0 || !(name == [])then false
  else Ex.BU (left - 1) kids
def Ex.BU (left:Int):List Ex→Bool
 | []=>true
 | x::l=>if !(Ex.dp left x)then false else Ex.BU left l
end
theorem WW : ∀ (m:Nat) (x:Ex),x.size≤m→x.size<4611686018427387904→x.texts→∀ left:Int,0≤left→left≤100→∀ s:St,aD Tryz.prog oP [.agg (bC x), .int .i64 left] s (.bool (x.dp left)) s:=by
 intro m
 induction m with
 | zero=>rintro⟨op,v,name,kids⟩ h;simp only [Ex.size]at h;omega
 | succ m ih=>
  rintro⟨op,v,name,kids⟩ h hx ht left h0 auh s
  refine aD.pure ?_ (by simp [D.bT,D.ok,gH]) rfl s
  have hlen:kids.length<4611686018427387904:=by simp only [Ex.size]at hx;have:=Ex.c9 kids;omega
  have hn:=y0 name ht.1
  generalize hp:Ex.dp left ⟨op,v,name,kids⟩=p
  simp only [Ex.dp]at hp
  unfold S0
  by_cases sy:left<1
  ·have d1:decide (left<1)=true:=by simpa using sy
   simp only [d1,Bool.true_or, ↓reduceIte]at hp
   subst hp
   refine aD.go xS rfl fun B Q hB hQ=> ?_
   have⟨hC,hE,hF,hM⟩:=bL
   repeat' (first
 | simp only [go_sem,hC,hE,hF,hM,d1]
 | (with_reducible refine CU (Jd _ _) ?_)
 | (with_reducible refine CU (hn _) ?_)
 | (with_reducible refine aH hQ ?_;simp only [aA,aB,bM,bN,go_sem,hC,hE,hF,hM];repeat' (first | exact Ok.out | with_reducible refine aJ ?_ ?_ | (simp;done))))
  ·have d1:decide (left<1)=false:=by simpa using sy
   have w1:IntKind.wrap .i64 (left - 1)=left - 1:=dJ (by omega) (by omega)
   have hk : ∀ y∈kids,∀ s,aD Tryz.prog oP [.agg (bC y), .int .i64 (left - 1)] s (.bool (y.dp (left - 1))) s:=fun y hy s=>
    ih y (by simp only [Ex.size]at h;have:=Ex.cd hy;omega) (by simp only [Ex.size]at hx;have:=Ex.cd hy;omega) (Ex.DW ht hy) (left - 1) (by omega) (by omega) s
   simp only [d1,Bool.false_or]at hp
   have h:=hp
   clear hp
   refine aD.go xS rfl fun B Q hB hQ=> ?_
   have⟨hC,hE,hF,hM⟩:=bL
   repeat' (first
 | simp only [go_sem,hC,hE,hF,hM,d1]
 | (with_reducible refine CU (Jd _ _) ?_)
 | (with_reducible refine CU (hn _) ?_)
 | (with_reducible first | refine bD fun hc=> ?_ | refine bE fun hc=> ?_ | refine bF (fun hc=> ?_) fun hc=> ?_) <;> (try simp only [hc,bs, ↓reduceIte]at h) <;> try simp only [hc]
 | (with_reducible refine aH hQ ?_;(try cases h);simp only [aA,aB,bM,bN,go_sem,hC,hE,hF,hM,d1];repeat' (first | exact Ok.out | with_reducible refine aJ ?_ ?_ | (simp;done))))
   all_goals
    refine dc 1 0 (bw.ind (ι:=List Ex×Nat) (fun i=>kids.drop i.2=i.1∧Ex.BU (left - 1) i.1=p) (fun i=>i.1.length)
     (fun i=> [(1, .int .i64 left),(49, .slice .shared 4 (kids.map bC)),(50, .int .i64 (kids.length:Int)),(51, .int .i64 (i.2:Int))]) (fun i=>⟨[bC ⟨op,v,name,kids⟩],[]⟩) ?_ (kids,0) ⟨rfl,h⟩)
    rintro⟨rest,k⟩ ⟨h1,h⟩ IH
    dsimp only at h1 h
    cases rest with
    | nil=>
     have hC:=drop_nil h1
     simp only [Ex.BU]at h
     repeat' (first
 | simp only [go_sem,hC,hE,hF,hM]
 | (with_reducible first | refine bD fun hc=> ?_ | refine bE fun hc=> ?_ | refine bF (fun hc=> ?_) fun hc=> ?_) <;> (try simp only [hc,bs, ↓reduceIte]at h) <;> try simp only [hc]
 | (with_reducible refine aH hQ ?_;exact lJ)
 | (cases h;done))
    | cons y rest=>
     obtain⟨hE,g2,hC,g4⟩:=drop_cons h1
     have hy:=hk y (List.mem_of_getElem? hE)
     have hF:k<4611686018427387904:=by omega
     simp only [Ex.BU]at h
     repeat' (first
 | simp only [go_sem,hC,hE,hF,hM,w1]
 | (with_reducible refine CU (hy _) ?_)
 | (with_reducible first | refine bD fun hc=> ?_ | refine bE fun hc=> ?_ | refine bF (fun hc=> ?_) fun hc=> ?_) <;> (try simp only [hc,bs, ↓reduceIte]at h) <;> try simp only [hc]
 | (with_reducible refine aH hQ ?_;(try cases h);simp only [aA,aB,bM,bN,go_sem,hC,hE,hF,hM,w1];repeat' (first | exact Ok.out | with_reducible refine aJ ?_ ?_ | (simp;done))))
     refine dc 1 0 (IH (rest,k+1) ⟨g2,h⟩ (Nat.lt_succ_self _))
end Go.Abs

/-! TMay2 -/

namespace Go.Abs
set_option maxRecDepth 8000
open Go.Proofs
theorem BV {x:Ex} (hx:x.size<4611686018427387904) (ht:x.texts) (s:St):aD Tryz.prog n9 [.agg (bC x)] s (.bool (x.dp 20)) s:=by
 refine aD.pure ?_ (by simp [D.bT,D.ok,gH]) rfl s
 have hd:=fun s=>WW _ x (Nat.le_refl _) hx ht 20 (by omega) (by omega) s
 unfold S0
 refine aD.go AR rfl fun B Q hB hQ=> ?_
 have⟨hC,hE,hF,hM⟩:=bL
 repeat' (first
 | simp only [go_sem,hC,hE,hF,hM]
 | (with_reducible refine CU (hd _) ?_)
 | (with_reducible refine aH hQ ?_;simp only [aA,aB,Option.some.injEq,exists_eq_left',go_sem,hC,hE,hF,hM];repeat' (first | exact Ok.out | with_reducible refine aJ ?_ ?_ | (simp;done))))
theorem WX (x:Ex) (s:St):aD Tryz.prog vv [.agg (bC x)] s (.bool x.none) s:=by
 refine aD.pure ?_ (by simp [D.bT,D.ok,gH]) rfl s
 unfold S0
 generalize h:Ex.none x=p
 unfold Ex.none at h
 refine aD.go EW rfl fun B Q hB hQ=> ?_
 have⟨hC,hE,hF,hM⟩:=bL
 repeat' (first
 | simp only [go_sem,hC,hE,hF,hM]
 | (with_reducible first | refine bD fun hc=> ?_ | refine bE fun hc=> ?_ | refine bF (fun hc=> ?_) fun hc=> ?_) <;> (try simp only [hc,bs, ↓reduceIte]at h) <;> try simp only [hc]
 | (with_reducible refine aH hQ ?_;(try cases h);simp only [aA,aB,bM,bN,go_sem,hC,hE,hF,hM];repeat' (first | exact Ok.out | with_reducible refine aJ ?_ ?_ | (simp;done))))
def qm (t:ay) (is:Bool):Bool:=(is && isName t) || (!is && t == [])
theorem AS (t:ay) (is:Bool) (hl:t.length<4611686018427387904) (s:St):aD Tryz.prog nV [.str t, .bool is] s (.bool (qm t is)) s:=by
 refine aD.pure ?_ rfl rfl s
 have hn:=y0 t hl
 unfold S0
 generalize h:qm t is=p
 unfold qm at h
 refine aD.go Dj rfl fun B Q hB hQ=> ?_
 have⟨hC,hE,hF,hM⟩:=bL
 repeat' (first
 | simp only [go_sem,hC,hE,hF,hM]
 | (with_reducible refine CU (hn _) ?_)
 | (with_reducible first | refine bD fun hc=> ?_ | refine bE fun hc=> ?_ | refine bF (fun hc=> ?_) fun hc=> ?_) <;> (try simp only [hc,bs, ↓reduceIte]at h) <;> try simp only [hc]
 | (with_reducible refine aH hQ ?_;(try cases h);simp only [aA,aB,bM,bN,go_sem,hC,hE,hF,hM];repeat' (first | exact Ok.out | with_reducible refine aJ ?_ ?_ | (simp;done))))
def tJ (x:Ex) (is:Bool):Bool:=(is && x.dp 20) || (!is && x.none)
theorem Je {x:Ex} (is:Bool) (hx:x.size<4611686018427387904) (ht:x.texts) (s:St):aD Tryz.prog qb [.agg (bC x), .bool is] s (.bool (tJ x is)) s:=by
 refine aD.pure ?_ (by simp [D.bT,D.ok,gH]) rfl s
 have hm:=BV hx ht
 unfold S0
 generalize h:tJ x is=p
 unfold tJ at h
 refine aD.go Dk rfl fun B Q hB hQ=> ?_
 have⟨hC,hE,hF,hM⟩:=bL
 repeat' (first
 | simp only [go_sem,hC,hE,hF,hM]
 | (with_reducible refine CU (hm _) ?_)
 | (with_reducible refine CU (WX _ _) ?_)
 | (with_reducible first | refine bD fun hc=> ?_ | refine bE fun hc=> ?_ | refine bF (fun hc=> ?_) fun hc=> ?_) <;> (try simp only [hc,bs, ↓reduceIte]at h) <;> try simp only [hc]
 | (with_reducible refine aH hQ ?_;(try cases h);simp only [aA,aB,bM,bN,go_sem,hC,hE,hF,hM];repeat' (first | exact Ok.out | with_reducible refine aJ ?_ ?_ | (simp;done))))
def od:List Ar→Bool
 | []=>true
 | a::l=>if !(qm a.name a.ref) || !(tJ a.x !a.ref)then false else od l
theorem SL {l:List Ar} (hl:l.length<4611686018427387904) (hs : ∀ a∈l,a.x.size<4611686018427387904∧a.x.texts∧a.name.length<4611686018427387904) (s:St) :
 aD Tryz.prog sc [.slice .shared 6 (l.map ek)] s (.bool (od l)) s:=by
 refine aD.pure ?_ (by simp [D.bT,D.ok,Fc,Tag.ok]) rfl s
 unfold S0
 generalize h:od l=p
 refine aD.go BN rfl fun B Q hB hQ=> ?_
 have⟨hC,hE,hF,hM⟩:=bL
 repeat' (first
 | simp only [go_sem,hC,hE,hF,hM]
 | (with_reducible first | refine bD fun hc=> ?_ | refine bE fun hc=> ?_ | refine bF (fun hc=> ?_) fun hc=> ?_) <;> (try simp only [hc,bs, ↓reduceIte]at h) <;> try simp only [hc]
 | (with_reducible refine aH hQ ?_;(try cases h);simp only [aA,aB,bM,bN,go_sem,hC,hE,hF,hM];repeat' (first | exact Ok.out | with_reducible refine aJ ?_ ?_ | (simp;done))))
 refine dc 0 0 (bw.ind (ι:=List Ar×Nat) (fun i=>l.drop i.2=i.1∧od i.1=p) (fun i=>i.1.length)
  (fun i=> [(5, .slice .shared 6 (l.map ek)),(6, .int .i64 (l.length:Int)),(7, .int .i64 (i.2:Int))]) (fun i=>⟨[],[]⟩) ?_ (l,0) ⟨rfl,h⟩)
 rintro⟨rest,k⟩ ⟨h1,h⟩ IH
 dsimp only at h1 h
 cases rest with
 | nil=>
  have hC:=drop_nil h1
  simp only [od]at h
  repeat' (first
 | simp only [go_sem,hC,hE,hF,hM]
 | (with_reducible first | refine bD fun hc=> ?_ | refine bE fun hc=> ?_ | refine bF (fun hc=> ?_) fun hc=> ?_) <;> (try simp only [hc,bs, ↓reduceIte]at h) <;> try simp only [hc]
 | (with_reducible refine aH hQ ?_;(try cases h);simp only [aA,aB,bM,bN,go_sem,hC,hE,hF,hM];repeat' (first | exact Ok.out | with_reducible refine aJ ?_ ?_ | (simp;done))))
 | cons a rest=>
  obtain⟨hE,g2,hC,g4⟩:=drop_cons h1
  have hF:k<4611686018427387904:=by omega
  obtain⟨a1,a2,a3⟩:=hs a (List.mem_of_getElem? hE)
  have hn:=fun b s=>AS a.name b a3 s
  have hw:=fun b s=>Je b a1 a2 s
  simp only [od]at h
  repeat' (first
 | simp only [go_sem,hC,hE,hF,hM]
 | (with_reducible refine CU (hn _ _) ?_)
 | (with_reducible refine CU (hw _ _) ?_)
 | (with_reducible first | refine bD fun hc=> ?_ | refine bE fun hc=> ?_ | refine bF (fun hc=> ?_) fun hc=> ?_) <;> (try simp only [hc,bs, ↓reduceIte]at h) <;> try simp only [hc]
 | (with_reducible refine aH hQ ?_;(try cases h);simp only [aA,aB,bM,bN,go_sem,hC,hE,hF,hM];repeat' (first | exact Ok.out | with_reducible refine aJ ?_ ?_ | (simp;done))))
  refine dc 0 0 (IH (rest,k+1) ⟨g2,h⟩ (Nat.lt_succ_self _))
def Sm.flags (s:Sm):Option (Bool×Bool×Bool×Bool×Bool×Bool):=
 if s.kind==1 then some (true,false,true,s.has,false,false)
 else if s.kind==2 || s.kind==10 then some (true,false,false,s.has,false,false)
 else if s.kind==3 then some (false,false,true,s.has,false,false)
 else if s.kind==4 then some (!(s.name == []),true,false,s.has,false,false)
 else if s.kind==5 then some (false,false,true,s.has,true,true)
 else if s.kind==6 then some (false,false,true,s.has,true,false)
 else if s.kind==9 then some (false,false,s.has,false,false,false)
 else if s.kind==7 || s.kind==8 then some (false,false,false,s.has,false,false)
 else none
def Sm.Fm (s:Sm) (nm pr x:Bool):Bool:=if !(qm s.name nm) || !(qm s.proc pr) || !(tJ s.x x)then false else od s.args
def Sm.Fo (s:Sm) (f:Bool×Bool×Bool×Bool×Bool×Bool):Bool:=
 if f.2.2.2.1 || (!f.2.2.2.2.1 && decide ((s.a7.length:Int) > 0)) || (!f.2.2.2.2.2 && decide ((s.aX.length:Int) > 0)) || (!(s.kind==4) && decide ((s.args.length:Int) > 0))then false
 else s.Fm f.1 f.2.1 f.2.2.1
def Sm.fields (s:Sm):Bool:=match s.flags with
 | none=>false
 | some f=>s.Fo f
section
variable {v:Sm} {B:eU} {Q:Exit→Tm→St→Prop} {p:Bool}
theorem SM {nm pr x:Bool} (hf:v.ma) (hB:B.s = ⟨[],[]⟩) (hQ:hZ 0 0 [(2,none)] (.bool p) ⟨[],[]⟩=Q) (h:v.Fm nm pr x=p) :
 Sem Tryz.prog B 93 QZ5 Q [(1, .ptr 0 0),(3, .bool nm),(4, .bool pr),(5, .bool x)] ⟨[bh v],[]⟩:=by
 have h1:=fun b s=>AS v.name b hf.name s
 have h2:=fun b s=>AS v.proc b hf.proc s
 have h3:=fun b s=>Je b hf.x hf.xt s
 have h4:=fun s=>SL hf.ZY hf.arg s
 unfold Sm.Fm at h
 have⟨hC,hE,hF,hM⟩:=bL
 refine gL ?_
 repeat' (first
 | simp only [go_sem,hC,hE,hF,hM]
 | (with_reducible refine CU (h1 _ _) ?_)
 | (with_reducible refine CU (h2 _ _) ?_)
 | (with_reducible refine CU (h3 _ _) ?_)
 | (with_reducible refine CU (h4 _) ?_)
 | (with_reducible first | refine bD fun hc=> ?_ | refine bE fun hc=> ?_ | refine bF (fun hc=> ?_) fun hc=> ?_) <;> (try simp only [hc,bs, ↓reduceIte]at h) <;> try simp only [hc]
 | (with_reducible refine aH hQ ?_;(try cases h);simp only [aA,aB,bM,bN,go_sem,hC,hE,hF,hM];repeat' (first | exact Ok.out | with_reducible refine aJ ?_ ?_ | (simp;done))))
theorem SN {nm pr x has th ot ar:Bool} (hf:v.ma) (hB:B.s = ⟨[],[]⟩) (hQ:hZ 0 0 [(2,none)] (.bool p) ⟨[],[]⟩=Q) (e:(v.kind==4)=ar) (h:v.Fo (nm,pr,x,has,th,ot)=p) :
 Sem Tryz.prog B 93 QZ6 Q [(1, .ptr 0 0),(3, .bool nm),(4, .bool pr),(5, .bool x),(6, .bool has),(7, .bool th),(8, .bool ot),(9, .bool ar)] ⟨[bh v],[]⟩:=by
 simp only [Sm.Fo,e]at h
 have⟨hC,hE,hF,hM⟩:=bL
 refine Sem.jR ?_
 repeat' (first
 | simp only [go_sem,hC,hE,hF,hM]
 | (with_reducible first | refine bD fun hc=> ?_ | refine bE fun hc=> ?_ | refine bF (fun hc=> ?_) fun hc=> ?_) <;> (try simp only [hc,bs, ↓reduceIte]at h) <;> try simp only [hc]
 | (with_reducible refine aH hQ ?_;(try cases h);simp only [aA,aB,bM,bN,go_sem,hC,hE,hF,hM];repeat' (first | exact Ok.out | with_reducible refine aJ ?_ ?_ | (simp;done))))
 all_goals
  refine Sem.re _ _ 1 0 (by rw [hB];exact lI rfl) (by rw [hB];exact lI rfl) ?_ ?_ (SM hf hB hQ h)
  ·(simp only [go_sem,hC,hE,hF,hM];repeat' (first | exact Ok.out | with_reducible refine aJ ?_ ?_))
  ·(simp only [go_sem,hC,hE,hF,hM];repeat' (first | exact Ok.out | with_reducible refine aJ ?_ ?_))
theorem SO {ar:Bool} (hf:v.ma) (hB:B.s = ⟨[],[]⟩) (hQ:hZ 0 0 [(2,none)] (.bool p) ⟨[],[]⟩=Q) (e:(v.kind==4)=ar) (h:v.fields=p) :
 Sem Tryz.prog B 93 ZA Q [(1, .ptr 0 0),(3, .bool false),(4, .bool false),(5, .bool false),(6, .bool v.has),(7, .bool false),(8, .bool false),(9, .bool ar)] ⟨[bh v],[]⟩:=by
 simp only [Sm.fields,Sm.flags]at h
 have⟨hC,hE,hF,hM⟩:=bL
 refine Sem.jR ?_
 repeat' (first
 | simp only [go_sem,hC,hE,hF,hM]
 | (with_reducible first | refine bD fun hc=> ?_ | refine bE fun hc=> ?_ | refine bF (fun hc=> ?_) fun hc=> ?_) <;> (try simp only [hc,bs, ↓reduceIte]at h) <;> try simp only [hc]
 | (with_reducible refine aH hQ ?_;(try cases h);simp only [aA,aB,bM,bN,go_sem,hC,hE,hF,hM];repeat' (first | exact Ok.out | with_reducible refine aJ ?_ ?_ | (simp;done))))
 all_goals
  refine Sem.re _ _ 1 0 (by rw [hB];exact lI rfl) (by rw [hB];exact lI rfl) ?_ ?_ (SN hf hB hQ e h)
  ·(simp only [go_sem,hC,hE,hF,hM];repeat' (first | exact Ok.out | with_reducible refine aJ ?_ ?_))
  ·(simp only [go_sem,hC,hE,hF,hM];repeat' (first | exact Ok.out | with_reducible refine aJ ?_ ?_))
end
theorem SP {v:Sm} (hf:v.ma) (s:St):aD Tryz.prog sa [.agg (bh v)] s (.bool v.fields) s:=by
 refine aD.pure ?_ (by simp [D.bT,D.ok,mC]) rfl s
 unfold S0
 refine aD.goS BJ rfl fun B Q hB hQ=> ?_
 have⟨hC,hE,hF,hM⟩:=bL
 refine Sem.seq (b:=QZ9) (gL ?_)
 repeat' (first
 | simp only [go_sem,hC,hE,hF,hM]
 | (with_reducible refine aH hQ ?_;simp only [aA,aB,Option.some.injEq,exists_eq_left',go_sem,hC,hE,hF,hM];repeat' (first | exact Ok.out | with_reducible refine aJ ?_ ?_ | (simp;done))))
 refine Sem.seq (b:=QZ8) (gL ?_)
 repeat' (first
 | simp only [go_sem,hC,hE,hF,hM]
 | (with_reducible refine aH hQ ?_;simp only [aA,aB,Option.some.injEq,exists_eq_left',go_sem,hC,hE,hF,hM];repeat' (first | exact Ok.out | with_reducible refine aJ ?_ ?_ | (simp;done))))
 refine Sem.seq (b:=ZA) (gL ?_)
 repeat' (first
 | simp only [go_sem,hC,hE,hF,hM]
 | (with_reducible refine aH hQ ?_;simp only [aA,aB,Option.some.injEq,exists_eq_left',go_sem,hC,hE,hF,hM];repeat' (first | exact Ok.out | with_reducible refine aJ ?_ ?_ | (simp;done))))
 refine Sem.re _ _ 1 0 (by rw [hB];exact lI rfl) (by rw [hB];exact lI rfl) ?_ ?_ (SO hf hB hQ rfl rfl)
 ·(simp only [go_sem,hC,hE,hF,hM];repeat' (first | exact Ok.out | with_reducible refine aJ ?_ ?_))
 ·(simp only [go_sem,hC,hE,hF,hM];repeat' (first | exact Ok.out | with_reducible refine aJ ?_ ?_))
end Go.Abs

/-! RefMay3 -/

namespace Go.Abs
set_option maxRecDepth 8000
open Go.Proofs
def iL (i:It):List D:= [.int .i64 i.s.id, .int .i64 i.s.kind, .slice .shared 1 (i.s.labels.map encStr), .str i.s.name, .str i.s.proc,
 .int .i64 i.s.x.op, .int .i64 i.s.x.n, .str i.s.x.name, .slice .shared 4 (i.s.x.kids.map bC), .bool i.s.has, .slice .shared 6 (i.s.args.map ek), .slice .shared 13 (i.s.a7.map bh), .slice .shared 13 (i.s.aX.map bh), .int .i64 i.deep, .int .i64 i.b5, .bool i.aX]
theorem Z6 (i:It):D.bT 0 0 (iL i)=true:=by simp [iL,D.bT,D.ok,Tag.ok,eI,UR,Fc,nB]
theorem adH (n m:Nat) (l:List It):D.jv n m (l.map iL)=l.map iL:=lY Z6 n m l
theorem adI (n m:Nat) (i:It):D.gE n m (iL i)=iL i:=gT n m _ (Z6 i)
theorem adJ (x:It):(iL x).length=16:=nd rfl
theorem Z7 (x:It):List.take 13 (iL x)=bh x.s:=by simp only [iL,dt];rfl
theorem SQ (x:It):(iL x)[0]? = some (.int .i64 x.s.id):=nd rfl
theorem O8 (x:It):(iL x)[13]? = some (.int .i64 x.deep):=nd rfl
attribute [go_sem] adH adI adJ Z7 SQ O8
abbrev ash (N:Nat):Prop:=∀ (l:List Sm) (deep b5:Int) (aX:Bool) (out:List It),Sm.aR l<N→0≤deep→deep≤13→out.length≤201→∀ {s:St} {t:Nat},s.aC[t]? = some (some out.length)→
 aD Tryz.prog Ir [.slice .shared 13 (l.map bh), .int .i64 deep, .int .i64 b5, .bool aX, .slice (.tok t) 16 (out.map iL)] s (.slice (.tok t) 16 ((eQ deep b5 aX out l).map iL)) ⟨s.az,s.aC.set t (some (eQ deep b5 aX out l).length)⟩
end Go.Abs

/-! RefMay4 -/

namespace Go.Abs
set_option maxRecDepth 8000
open Go.Proofs
structure Pg.ma (p:Pg):Prop where
 sz:p.size<4611686018427387000
 GU : ∀ t∈p.globals,t.length<4611686018427387904
 mL : ∀ f∈p.procs,f.name.length<4611686018427387904∧(∀ t∈f.vars,t.length<4611686018427387904)∧(∀ t∈f.fin,t.length<4611686018427387904)∧∀ a∈f.params,a.name.length<4611686018427387904
 items : ∀ i∈p.all,i.s.ma
end Go.Abs

/-! TMay3 -/

namespace Go.Abs
set_option maxRecDepth 8000
open Go.Proofs
def gate (nest:Int) (len n:Nat) (r:Bool×Nat):Bool×Nat:=if decide (nest > 12) && decide ((len:Int) > 0)then(false,n)else r
mutual
def Sm.oB (nest:Int) (n:Nat):Sm→Bool×Nat
 | ⟨id,kind,labels,name,proc,x,has,args,a7,aX⟩=>
  if decide (((n+1:Nat):Int) > 200) || id != ((n+1:Nat):Int) || !(bX labels) || !(Sm.fields ⟨id,kind,labels,name,proc,x,has,args,a7,aX⟩)then(false,n+1)
  else if !(gate (nest+1) a7.length (n+1) (Sm.eA (nest+1) (n+1) a7)).1 then(false,(gate (nest+1) a7.length (n+1) (Sm.eA (nest+1) (n+1) a7)).2)
  else gate (nest+1) aX.length (gate (nest+1) a7.length (n+1) (Sm.eA (nest+1) (n+1) a7)).2 (Sm.eA (nest+1) (gate (nest+1) a7.length (n+1) (Sm.eA (nest+1) (n+1) a7)).2 aX)
def Sm.eA (nest:Int) (n:Nat):List Sm→Bool×Nat
 | []=>(true,n)
 | s::l=>if !(Sm.oB nest n s).1 then(false,(Sm.oB nest n s).2)else Sm.eA nest (Sm.oB nest n s).2 l
end
def Sm.fA (nest:Int) (n:Nat) (l:List Sm):Bool×Nat:=gate nest l.length n (Sm.eA nest n l)
theorem Dm (nest:Int) (n:Nat) (s:Sm):Sm.oB nest n s =
 if decide (((n+1:Nat):Int) > 200) || s.id != ((n+1:Nat):Int) || !(bX s.labels) || !(s.fields)then(false,n+1)
 else if !(Sm.fA (nest+1) (n+1) s.a7).1 then(false,(Sm.fA (nest+1) (n+1) s.a7).2)
 else Sm.fA (nest+1) (Sm.fA (nest+1) (n+1) s.a7).2 s.aX:=by
 cases s;simp only [Sm.oB,Sm.fA];rfl
mutual
def Sm.xj:Sm→Prop
 | ⟨id,kind,labels,name,proc,x,has,args,a7,aX⟩=>Sm.ma ⟨id,kind,labels,name,proc,x,has,args,a7,aX⟩∧Sm.mb a7∧Sm.mb aX
def Sm.mb:List Sm→Prop
 | []=>True
 | s::l=>s.xj∧Sm.mb l
end
theorem GV (s:Sm):s.xj↔s.ma∧Sm.mb s.a7∧Sm.mb s.aX:=by cases s;simp only [Sm.xj]
theorem BX {s:Sm} : ∀ {l:List Sm},Sm.mb l→s∈l→s.xj
 | y::l,h,m=>by
  simp only [Sm.mb]at h
  rcases List.mem_cons.1 m with rfl | m
  ·exact h.1
  ·exact BX h.2 m
mutual
theorem WY (nest:Int) (n:Nat) : ∀ s:Sm,n≤201→(Sm.oB nest n s).2≤202∧((Sm.oB nest n s).1=true→(Sm.oB nest n s).2≤200)
 | ⟨id,kind,labels,name,proc,x,has,args,a7,aX⟩,hn=>by
  simp only [Sm.oB]
  split
  ·exact⟨by dsimp only;omega,fun h=>by cases h⟩
  rename_i hc
  simp only [Bool.or_eq_true,decide_eq_true_eq,not_or]at hc
  have wx:n+1≤200:=by omega
  have g1 : ∀ (nest:Int) (l:List Sm) (m:Nat),m≤200→(Sm.eA nest m l).2≤202∧((Sm.eA nest m l).1=true→(Sm.eA nest m l).2≤200)→
   (gate nest l.length m (Sm.eA nest m l)).2≤202∧((gate nest l.length m (Sm.eA nest m l)).1=true→(gate nest l.length m (Sm.eA nest m l)).2≤200):=by
   intro nest l m hm h
   unfold gate
   split
   ·exact⟨by dsimp only;omega,fun h=>by cases h⟩
   ·exact h
  have h1:=g1 (nest+1) a7 (n+1) wx (zv (nest+1) (n+1) a7 wx)
  split
  ·exact⟨h1.1,fun h=>by cases h⟩
  rename_i yq
  have h2:=h1.2 (by simpa using yq)
  exact g1 (nest+1) aX _ h2 (zv (nest+1) _ aX h2)
theorem zv (nest:Int) (n:Nat) : ∀ l:List Sm,n≤200→(Sm.eA nest n l).2≤202∧((Sm.eA nest n l).1=true→(Sm.eA nest n l).2≤200)
 | [],hn=>by simp only [Sm.eA];exact⟨by omega,fun _=>hn⟩
 | s::l,hn=>by
  simp only [Sm.eA]
  have h1:=WY nest n s (by omega)
  split
  ·exact⟨h1.1,fun h=>by cases h⟩
  rename_i hc
  exact zv nest _ l (h1.2 (by simpa using hc))
end
theorem Dn {nest:Int} {n:Nat} {l:List Sm} (hn:n≤200):(Sm.fA nest n l).2≤202∧((Sm.fA nest n l).1=true→(Sm.fA nest n l).2≤200):=by
 unfold Sm.fA gate
 split
 ·exact⟨by dsimp only;omega,fun h=>by cases h⟩
 ·exact zv nest n l hn
theorem WZ : ∀ (m:Nat) (l:List Sm),Sm.aR l≤m→Sm.aR l<4611686018427387000→Sm.mb l→∀ (nest:Int) (n:Nat),0≤nest→nest≤13→n≤200→
 aD Tryz.prog jl [.ptr 0 0, .slice .shared 13 (l.map bh), .int .i64 nest] ⟨[[.int .i64 n]],[]⟩ (.bool (Sm.fA nest n l).1) ⟨[[.int .i64 (Sm.fA nest n l).2]],[]⟩:=by
 intro m
 induction m with
 | zero=>
  intro l h hs hf nest n h0 h13 hn
  cases l with
  | nil=>
   have d1:decide ((0:Int) > 0)=false:=rfl
   have e:Sm.fA nest n [] = (true,n):=by simp [Sm.fA,gate,Sm.eA]
   have z:decide ((0:Int)<0)=false:=rfl
   rw [e]
   refine aD.go qg rfl fun B Q hB hQ=> ?_
   have⟨hC,hE,hF,hM⟩:=bL
   repeat' (first
 | simp only [go_sem,hC,hE,hF,hM,d1,z]
 | (with_reducible refine bw.wY ?_)
 | (with_reducible first | refine bD fun hc=> ?_ | refine bE fun hc=> ?_ | refine bF (fun hc=> ?_) fun hc=> ?_) <;> (try simp only [hc,bs, ↓reduceIte]at h) <;> try simp only [hc]
 | (with_reducible refine aH hQ ?_;simp only [aA,aB,bM,bN,go_sem,hC,hE,hF,hM];repeat' (first | exact Ok.out | with_reducible refine aJ ?_ ?_ | (simp;done))))
  | cons s l=>simp only [Sm.aR]at h;omega
 | succ m ih=>
  intro l h hs hf nest n h0 h13 hn
  generalize hR:Sm.fA nest n l=R
  have hlen:=Sm.c9 l
  unfold Sm.fA gate at hR
  have h:=hR
  refine aD.go qg rfl fun B Q hB hQ=> ?_
  have⟨hC,hE,hF,hM⟩:=bL
  repeat' (first
 | simp only [go_sem,hC,hE,hF,hM]
 | (with_reducible first | refine bD fun hc=> ?_ | refine bE fun hc=> ?_ | refine bF (fun hc=> ?_) fun hc=> ?_) <;> (try simp only [hc,bs, ↓reduceIte]at h) <;> try simp only [hc]
 | (with_reducible refine aH hQ ?_;(try cases h);simp only [aA,aB,bM,bN,go_sem,hC,hE,hF,hM];repeat' (first | exact Ok.out | with_reducible refine aJ ?_ ?_ | (simp;done))))
  all_goals
   have adK:l≠ []→nest≤12:=by
    intro fi
    have:l.length≠0:=by simpa using fi
    simp_all <;> omega
   refine dc 1 0 (bw.ind (ι:=List Sm×Nat×Nat) (fun i=>l.drop i.2.1=i.1∧Sm.eA nest i.2.2 i.1=R∧i.2.2≤200) (fun i=>i.1.length)
    (fun i=> [(0, .ptr 0 0),(2, .int .i64 nest),(16, .slice .shared 13 (l.map bh)),(17, .int .i64 (l.length:Int)),(18, .int .i64 (i.2.1:Int))]) (fun i=>⟨[[.int .i64 (i.2.2:Int)]],[]⟩) ?_ (l,0,n) ⟨rfl,h,hn⟩)
   rintro⟨rest,k,j⟩ ⟨h1,h,hj⟩ IH
   dsimp only at h1 h hj
   cases rest with
   | nil=>
    have hC:=drop_nil h1
    simp only [Sm.eA]at h
    repeat' (first
 | simp only [go_sem,hC,hE,hF,hM]
 | (with_reducible first | refine bD fun hc=> ?_ | refine bE fun hc=> ?_ | refine bF (fun hc=> ?_) fun hc=> ?_) <;> (try simp only [hc,bs, ↓reduceIte]at h) <;> try simp only [hc]
 | (with_reducible refine aH hQ ?_;(try cases h);simp only [aA,aB,bM,bN,go_sem,hC,hE,hF,hM];repeat' (first | exact Ok.out | with_reducible refine aJ ?_ ?_ | (simp;done))))
   | cons s rest=>
    obtain⟨hE,g2,hC,g4⟩:=drop_cons h1
    have hF:k<4611686018427387904:=by omega
    have oy:=List.mem_of_getElem? hE
    have ep:=Sm.cd oy
    have aui:=adK (by rintro rfl;simp at oy)
    obtain⟨FK,hft,hfe⟩:=(GV s).1 (BX hf oy)
    have auj:Sm.aR s.a7<s.size∧Sm.aR s.aX<s.size:=by cases s;simp only [Sm.size];omega
    have w1:IntKind.wrap .i64 ((j:Int)+1)=((j+1:Nat):Int):=by rw [dJ] <;> omega
    have w2:IntKind.wrap .i64 (nest+1)=nest+1:=dJ (by omega) (by omega)
    have c1:=fun s=>xi FK.ZX FK.Vs s
    have c2:=fun s=>SP FK s
    simp only [Sm.eA,Dm]at h
    by_cases O9:j+1≤200
    ·have r1:=Dn (nest:=nest+1) (l:=s.a7) O9
     have c3:=fun s' ho=>(ih s.a7 (by omega) (by omega) hft (nest+1) (j+1) (by omega) (by omega) O9).jB (s:=s') (o:=0) (by simp [D.bT,D.ok,nB,Tag.ok]) rfl rfl rfl ho
     by_cases sA:(Sm.fA (nest+1) (j+1) s.a7).1=true
     ·have c4:=fun s' ho=>(ih s.aX (by omega) (by omega) hfe (nest+1) _ (by omega) (by omega) (r1.2 sA)).jB (s:=s') (o:=0) (by simp [D.bT,D.ok,nB,Tag.ok]) rfl rfl rfl ho
      have r2:=Dn (nest:=nest+1) (l:=s.aX) (r1.2 sA)
      simp only [sA]at c3
      simp only [sA,Bool.not_true,Bool.false_eq_true, ↓reduceIte]at h
      repeat' (first
 | simp only [go_sem,hC,hE,hF,hM,w1,w2,sA]
 | (with_reducible refine CU (c1 _) ?_)
 | (with_reducible refine CU (c2 _) ?_)
 | (with_reducible refine CU (c3 _ rfl) ?_)
 | (with_reducible refine CU (c4 _ rfl) ?_)
 | (with_reducible first | refine bD fun hc=> ?_ | refine bE fun hc=> ?_ | refine bF (fun hc=> ?_) fun hc=> ?_) <;> (try simp only [hc,bs, ↓reduceIte]at h) <;> try simp only [hc]
 | (with_reducible refine aH hQ ?_;(try cases h);simp only [aA,aB,bM,bN,go_sem,hC,hE,hF,hM,w1,w2,sA];repeat' (first | exact Ok.out | with_reducible refine aJ ?_ ?_ | (simp;done))))
      refine dc 1 0 (IH (rest,k+1,(Sm.fA (nest+1) (Sm.fA (nest+1) (j+1) s.a7).2 s.aX).2) ⟨g2,h,r2.2 (by assumption)⟩ (Nat.lt_succ_self _))
     ·have sA:(Sm.fA (nest+1) (j+1) s.a7).1=false:=by simpa using sA
      simp only [sA]at c3
      simp only [sA,Bool.not_false, ↓reduceIte]at h
      repeat' (first
 | simp only [go_sem,hC,hE,hF,hM,w1,w2,sA]
 | (with_reducible refine CU (c1 _) ?_)
 | (with_reducible refine CU (c2 _) ?_)
 | (with_reducible refine CU (c3 _ rfl) ?_)
 | (with_reducible first | refine bD fun hc=> ?_ | refine bE fun hc=> ?_ | refine bF (fun hc=> ?_) fun hc=> ?_) <;> (try simp only [hc,bs, ↓reduceIte]at h) <;> try simp only [hc]
 | (with_reducible refine aH hQ ?_;(try cases h);simp only [aA,aB,bM,bN,go_sem,hC,hE,hF,hM,w1,w2,sA];repeat' (first | exact Ok.out | with_reducible refine aJ ?_ ?_ | (simp;done))))
    ·have d1:decide (((j+1:Nat):Int) > 200)=true:=by simp;omega
     simp only [d1,Bool.true_or,Bool.not_false, ↓reduceIte]at h
     repeat' (first
 | simp only [go_sem,hC,hE,hF,hM,w1,w2,d1]
 | (with_reducible refine CU (c1 _) ?_)
 | (with_reducible refine CU (c2 _) ?_)
 | (with_reducible first | refine bD fun hc=> ?_ | refine bE fun hc=> ?_ | refine bF (fun hc=> ?_) fun hc=> ?_) <;> (try simp only [hc,bs, ↓reduceIte]at h) <;> try simp only [hc]
 | (with_reducible refine aH hQ ?_;(try cases h);simp only [aA,aB,bM,bN,go_sem,hC,hE,hF,hM,w1,w2,d1];repeat' (first | exact Ok.out | with_reducible refine aJ ?_ ?_ | (simp;done))))
end Go.Abs

/-! TMay4 -/

namespace Go.Abs
set_option maxRecDepth 8000
open Go.Proofs
def Pc.eA (n:Nat):List Pc→Bool
 | []=>true
 | f::l=>
  if decide ((f.params.length:Int) > 8) || decide ((f.vars.length:Int) > 16) || !(isName f.name) || !(bX f.vars) || !(bX f.fin)then false
  else if !(Pm.cY f.params)then false
  else if !(Sm.fA 1 n f.body).1 then false
  else Pc.eA (Sm.fA 1 n f.body).2 l
def Pg.Dp (p:Pg):Bool:=
 if decide ((p.globals.length:Int) > 16) || decide ((p.procs.length:Int) > 16) || !(bX p.globals)then false
 else Pc.eA 0 p.procs
structure Pg.Mr (p:Pg):Prop where
 sz:p.size<4611686018427387000
 GU : ∀ t∈p.globals,t.length<4611686018427387904
 mL : ∀ f∈p.procs,f.name.length<4611686018427387904∧(∀ t∈f.vars,t.length<4611686018427387904)∧(∀ t∈f.fin,t.length<4611686018427387904)∧∀ a∈f.params,a.name.length<4611686018427387904
 body : ∀ f∈p.procs,Sm.mb f.body
theorem Pa {p:Pg} (hf:p.Mr) (s:St):aD Tryz.prog sL [.agg (cB p)] s (.bool p.Dp) s:=by
 refine aD.pure ?_ (by simp only [D.bT,D.ok,jC];rfl) rfl s
 obtain⟨ep,xU,Z8,Kg⟩:=hf
 have sB:Pc.aR p.procs<4611686018427387000:=by simp only [Pg.size]at ep;omega
 have adL:p.globals.length<4611686018427387904:=by simp only [Pg.size]at ep;omega
 have atQ:p.procs.length<4611686018427387904:=by have:=Pc.c9 p.procs;omega
 have hg:=fun s=>xi adL xU s
 unfold S0
 generalize h:p.Dp=R
 unfold Pg.Dp at h
 refine aD.go Gu rfl fun B Q hB hQ=> ?_
 have⟨hC,hE,hF,hM⟩:=bL
 repeat' (first
 | simp only [go_sem,hC,hE,hF,hM]
 | (with_reducible refine CU (hg _) ?_)
 | (with_reducible first | refine bD fun hc=> ?_ | refine bE fun hc=> ?_ | refine bF (fun hc=> ?_) fun hc=> ?_) <;> (try simp only [hc,bs, ↓reduceIte]at h) <;> try simp only [hc]
 | (with_reducible refine aH hQ ?_;(try cases h);simp only [aA,aB,bM,bN,go_sem,hC,hE,hF,hM];repeat' (first | exact Ok.out | with_reducible refine aJ ?_ ?_ | (simp;done))))
 refine dc 2 0 (bw.ind (ι:=List Pc×Nat×Nat) (fun i=>p.procs.drop i.2.1=i.1∧Pc.eA i.2.2 i.1=R∧i.2.2≤200) (fun i=>i.1.length)
  (fun i=> [(1, .ptr 0 0),(3, .ptr 1 0),(27, .slice .shared 5 (p.procs.map cL)),(28, .int .i64 (p.procs.length:Int)),(29, .int .i64 (i.2.1:Int))]) (fun i=>⟨[cB p,[.int .i64 (i.2.2:Int)]],[]⟩) ?_ (p.procs,0,0) ⟨rfl,h,Nat.zero_le _⟩)
 rintro⟨rest,k,n⟩ ⟨h1,h,hn⟩ IH
 dsimp only at h1 h hn
 cases rest with
 | nil=>
  have hC:=drop_nil h1
  simp only [Pc.eA]at h
  repeat' (first
 | simp only [go_sem,hC,hE,hF,hM]
 | (with_reducible first | refine bD fun hc=> ?_ | refine bE fun hc=> ?_ | refine bF (fun hc=> ?_) fun hc=> ?_) <;> (try simp only [hc,bs, ↓reduceIte]at h) <;> try simp only [hc]
 | (with_reducible refine aH hQ ?_;(try cases h);simp only [aA,aB,bM,bN,go_sem,hC,hE,hF,hM];repeat' (first | exact Ok.out | with_reducible refine aJ ?_ ?_ | (simp;done))))
 | cons f rest=>
  obtain⟨hE,g2,hC,g4⟩:=drop_cons h1
  have bS:k<4611686018427387904:=by omega
  have oy:=List.mem_of_getElem? hE
  have xV:=Pc.cd oy
  simp only [Pc.size]at xV
  obtain⟨xW,hfv,hff,hfp⟩:=Z8 f oy
  have Z9:=y0 f.name xW
  have hv:=fun s=>xi (by omega) hfv s
  have he:=fun s=>xi (by omega) hff s
  have hb:=fun s' o ho=>(WZ _ f.body (Nat.le_refl _) (by omega) (Kg f oy) 1 n (by omega) (by omega) hn).jB (s:=s') (o:=o) (by simp [D.bT,D.ok,nB,Tag.ok]) rfl rfl rfl ho
  have hle:=Dn (nest:=1) (l:=f.body) hn
  simp only [Pc.eA]at h
  repeat' (first
 | simp only [go_sem,hC,hE,hF,hM]
 | (with_reducible refine CU (Z9 _) ?_)
 | (with_reducible refine CU (hv _) ?_)
 | (with_reducible refine CU (he _) ?_)
 | (with_reducible first | refine bD fun hc=> ?_ | refine bE fun hc=> ?_ | refine bF (fun hc=> ?_) fun hc=> ?_) <;> (try simp only [hc,bs, ↓reduceIte]at h) <;> try simp only [hc]
 | (with_reducible refine aH hQ ?_;exact lJ)
 | (cases h;done))
  refine dc 3 0 (bw.ind (ι:=List Pm×Nat) (fun i=>f.params.drop i.2=i.1∧(if !(Pm.cY i.1)then false else if !(Sm.fA 1 n f.body).1 then false else Pc.eA (Sm.fA 1 n f.body).2 rest)=R) (fun i=>i.1.length)
   (fun i=> [(1, .ptr 0 0),(3, .ptr 1 0),(5, .ptr 2 0),(27, .slice .shared 5 (p.procs.map cL)),(28, .int .i64 (p.procs.length:Int)),(29, .int .i64 (k:Int)),(62, .slice .shared 2 (f.params.map ff)),(63, .int .i64 (f.params.length:Int)),(64, .int .i64 (i.2:Int))]) (fun i=>⟨[cB p,[.int .i64 (n:Int)],cL f],[]⟩) ?_ (f.params,0) ⟨rfl,h⟩)
  rintro⟨Ms,j⟩ ⟨j1,h⟩ Pb
  dsimp only at j1 h
  cases Ms with
  | nil=>
   have hC:=drop_nil j1
   simp only [Pm.cY,Bool.not_true,Bool.false_eq_true, ↓reduceIte]at h
   repeat' (first
 | simp only [go_sem,hC,hE,hF,hM]
 | (with_reducible refine CU (hb _ _ rfl) ?_)
 | (with_reducible first | refine bD fun hc=> ?_ | refine bE fun hc=> ?_ | refine bF (fun hc=> ?_) fun hc=> ?_) <;> (try simp only [hc,bs, ↓reduceIte]at h) <;> try simp only [hc]
 | (with_reducible refine aH hQ ?_;exact lJ)
 | (cases h;done))
   refine dV 2 0 ?_ ?_ (IH (rest,k+1,(Sm.fA 1 n f.body).2) ⟨g2,h,hle.2 (by assumption)⟩ (Nat.lt_succ_self _))
   ·(simp only [go_sem,hC,hE,hF,hM,aP bS];try exact bR)
   ·(simp only [go_sem,hC,hE,hF,hM,aP bS];try exact bR)
  | cons a Ms=>
   obtain⟨hE,b2,hC,b4⟩:=drop_cons j1
   have O9:j<4611686018427387904:=by omega
   have ha:=y0 a.name (hfp a (List.mem_of_getElem? hE))
   simp only [Pm.cY]at h
   repeat' (first
 | simp only [go_sem,hC,hE,hF,hM]
 | (with_reducible refine CU (ha _) ?_)
 | (with_reducible first | refine bD fun hc=> ?_ | refine bE fun hc=> ?_ | refine bF (fun hc=> ?_) fun hc=> ?_) <;> (try simp only [hc,bs, ↓reduceIte]at h) <;> try simp only [hc]
 | (with_reducible refine aH hQ ?_;exact lJ)
 | (cases h;done))
   refine dV 3 0 ?_ ?_ (Pb (Ms,j+1) ⟨b2,h⟩ (Nat.lt_succ_self _))
   ·(simp only [go_sem,hC,hE,hF,hM,aP O9];try exact bR)
   ·(simp only [go_sem,hC,hE,hF,hM,aP O9];try exact bR)
end Go.Abs

/-! MayFine -/

namespace Go.Abs
theorem xk {s:ay} (h:isName s=true):s.length≤8:=by
 cases s with
 | nil=>simp
 | cons c r=>
  simp only [isName]at h
  split at h
  ·cases h
  ·rename_i hc
   simp only [Bool.or_eq_true,decide_eq_true_eq,not_or]at hc
   simp only [List.length_cons];omega
theorem nY {t:ay} : ∀ {l:List ay},bX l=true→t∈l→isName t=true
 | s::l,h,m=>by
  simp only [bX]at h
  cases hs:isName s
  ·simp [hs]at h
  ·simp [hs]at h
   rcases List.mem_cons.1 m with rfl | m
   ·exact hs
   ·exact nY h m
theorem GX {a:Ar} : ∀ {l:List Ar},Ar.cY l=true→a∈l→a.may=true
 | s::l,h,m=>by
  simp only [Ar.cY]at h
  cases hs:s.may
  ·simp [hs]at h
  ·simp [hs]at h
   rcases List.mem_cons.1 m with rfl | m
   ·exact hs
   ·exact GX h m
theorem D0 {a:Pm} : ∀ {l:List Pm},Pm.cY l=true→a∈l→isName a.name=true
 | s::l,h,m=>by
  simp only [Pm.cY]at h
  cases hs:isName s.name
  ·simp [hs]at h
  ·simp [hs]at h
   rcases List.mem_cons.1 m with rfl | m
   ·exact hs
   ·exact D0 h m
mutual
theorem BY : ∀ x:Ex,x.form=true→x.texts
 | ⟨op,n,name,kids⟩,h=>by
  simp only [Ex.form]at h
  split at h
  ·cases h
  ·rename_i hc
   refine⟨?_,Ab kids h⟩
   simp only [Bool.or_eq_true,Bool.and_eq_true,Bool.not_eq_true',not_or,not_and,Bool.not_eq_false]at hc
   cases hn:(name == [])
   ·have:=xk (hc.2 hn);omega
   ·simp at hn;subst hn;simp
theorem Ab : ∀ l:List Ex,Ex.lf l=true→Ex.wm l
 | [],_=>trivial
 | x::l,h=>by
  simp only [Ex.lf]at h
  cases hx:x.form
  ·simp [hx]at h
  ·simp [hx]at h
   exact⟨BY x hx,Ab l h⟩
end
theorem D1 {x:Ex} (h:x.may=true):x.texts:=by
 unfold Ex.may at h
 simp only [Bool.and_eq_true]at h
 exact BY x h.2
theorem B0 {x:Ex} (h:x.none=true):x.texts:=by
 obtain⟨op,n,name,kids⟩:=x
 simp [Ex.none]at h
 obtain⟨⟨_,h1⟩,h2⟩:=h
 subst h1 h2
 exact⟨by simp,trivial⟩
mutual
theorem Pe {deep b5:Int} {aX:Bool} {out:List It} {i:It} : ∀ s:Sm,i∈iA deep b5 aX out s→i∈out∨i.s.size≤s.size
 | ⟨id,kind,labels,name,proc,x,has,args,a7,e⟩,h=>by
  simp only [iA]at h
  have key:i∈out++ [(⟨⟨id,kind,labels,name,proc,x,has,args,a7,e⟩,deep,b5,aX⟩:It)]→i∈out∨i.s.size≤(⟨id,kind,labels,name,proc,x,has,args,a7,e⟩:Sm).size:=by
   intro h
   rcases List.mem_append.1 h with h | h
   ·exact .inl h
   ·simp at h;subst h;exact .inr (Nat.le_refl _)
  split at h
  ·rcases uM e h with h | h
   ·rcases uM a7 h with h | h
    ·exact key h
    ·right;simp only [Sm.size];omega
   ·right;simp only [Sm.size];omega
  ·exact key h
theorem uM {deep b5:Int} {aX:Bool} {out:List It} {i:It} : ∀ l:List Sm,i∈eQ deep b5 aX out l→i∈out∨i.s.size<Sm.aR l
 | [],h=>by simp only [eQ]at h;exact .inl h
 | s::l,h=>by
  simp only [eQ]at h
  split at h
  ·rcases uM l h with h | h
   ·rcases Pe s h with h | h
    ·exact .inl h
    ·right;simp only [Sm.aR];omega
   ·right;simp only [Sm.aR];omega
  ·exact .inl h
end
theorem GY {i:It} : ∀ (l:List Pc) (out:List It),i∈allM out l→i∈out∨i.s.size<Pc.aR l
 | [],out,h=>by simp only [allM]at h;exact .inl h
 | f::l,out,h=>by
  have key:i∈out++f.flat→i∈out∨i.s.size<Pc.aR (f::l):=by
   intro h
   rcases List.mem_append.1 h with h | h
   ·exact .inl h
   ·rcases uM _ h with h | h
    ·simp at h
    ·right;simp only [Pc.aR,Pc.size];omega
  simp only [allM]at h
  split at h
  ·exact key h
  ·rcases GY l _ h with h | h
   ·exact key h
   ·right;simp only [Pc.aR];omega
theorem B1 {i:It} : ∀ (l:List It) (n:Nat),It.cY n l=true→i∈l→i.s.one=true
 | s::l,n,h,m=>by
  simp only [It.cY]at h
  split at h
  ·cases h
  ·rename_i hc
   simp only [Bool.or_eq_true,Bool.not_eq_true',not_or,Bool.not_eq_false]at hc
   rcases List.mem_cons.1 m with rfl | m
   ·exact hc.2
   ·exact B1 l (n+1) h m
theorem GZ {s:Sm} (h:s.one=true) (hs:s.size<4611686018427387000):s.ma:=by
 unfold Sm.one at h
 split at h
 ·cases h
 split at h
 ·cases h
 split at h
 ·cases h
 split at h
 ·cases h
 rename_i c1 c2 c3 c4
 simp only [Bool.or_eq_true,Bool.and_eq_true,Bool.not_eq_true',not_or,not_and,Bool.not_eq_false,decide_eq_true_eq]at c1 c2 c3 c4
 obtain⟨⟨⟨⟨⟨_,_⟩,alT⟩,cx⟩,cn⟩,_⟩:=c1
 obtain⟨c21,c22⟩:=c2
 obtain⟨⟨c31,c32⟩,c33⟩:=c3
 have nm : ∀ {t:ay},isName t=true→t.length<4611686018427387904:=fun h=>by have:=xk h;omega
 have ep:1+s.labels.length+s.x.size+Ar.aR s.args≤s.size:=by cases s;simp only [Sm.size];omega
 have zY:=Ar.c9 s.args
 refine⟨fun t ht=>nm (nY alT ht),by omega, ?_, ?_,by omega, ?_,by omega,fun a ha=> ?_⟩
 ·cases hn:s.hasName
  ·cases he:(s.name == [])
   ·exact nm (c22 ⟨hn,he⟩).2
   ·simp at he;rw [he];simp
  ·exact nm (c21 hn)
 ·cases xM:s.gV
  ·rw [xM]at c31
   have:s.proc = []:=by simpa using c31
   rw [this];simp
  ·exact nm (c32 xM)
 ·cases hx:s.lC
  ·exact B0 (cn hx)
  ·exact D1 (cx hx)
 ·have hm:=GX c4 ha
  have Vx:=Ar.cd ha
  unfold Ar.may at hm
  split at hm
  ·simp only [Bool.and_eq_true]at hm
   exact⟨by omega,B0 hm.2,nm hm.1⟩
  ·simp only [Bool.and_eq_true,beq_iff_eq]at hm
   exact⟨by omega,D1 hm.2,by rw [hm.1];simp⟩
theorem D2 {f:Pc} : ∀ {l:List Pc},Pc.mL l=true→f∈l→isName f.name=true∧bX f.vars=true∧bX f.fin=true∧Pm.cY f.params=true
 | s::l,h,m=>by
  simp only [Pc.mL]at h
  split at h
  ·cases h
  split at h
  ·cases h
  rename_i c1 c2
  simp only [Bool.or_eq_true,Bool.not_eq_true',not_or,Bool.not_eq_false]at c1 c2
  rcases List.mem_cons.1 m with rfl | m
  ·exact⟨c1.1.1.1.1,c1.1.2,c1.2,c2⟩
  ·exact D2 h m
theorem SS {p:Pg} (h:p.may=true) (hs:p.size<4611686018427387000):p.ma:=by
 unfold Pg.may at h
 split at h
 ·cases h
 split at h
 ·cases h
 split at h
 ·cases h
 rename_i c1 c2 c3
 simp only [Bool.or_eq_true,Bool.not_eq_true',not_or,Bool.not_eq_false]at c1 c2
 have nm : ∀ {t:ay},isName t=true→t.length<4611686018427387904:=fun h=>by have:=xk h;omega
 refine⟨hs,fun t ht=>nm (nY c1.2 ht),fun f hf=> ?_,fun i hi=> ?_⟩
 ·obtain⟨a,b,c,d⟩:=D2 c2 hf
  exact⟨nm a,fun t ht=>nm (nY b ht),fun t ht=>nm (nY c ht),fun t ht=>nm (D0 d ht)⟩
 ·refine GZ (B1 _ _ h hi) ?_
  rcases GY _ _ hi with h1 | h1
  ·simp at h1
  ·simp only [Pg.size]at hs;omega
end Go.Abs

/-! MayEq -/

namespace Go.Abs
theorem Pf {t:ay} (h:isName t=true):t≠ []:=by rintro rfl;cases h
theorem SU (op n:Int) (name:ay) (kids:List Ex):Ex.form ⟨op,n,name,kids⟩=true↔
 iO op=(kids.length:Int)∧(op=1∨n=0)∧0≤n∧(op=2↔name≠ [])∧(name = []∨isName name=true)∧Ex.lf kids=true:=by
 simp only [Ex.form]
 split
 ·rename_i h
  simp only [Bool.or_eq_true,Bool.and_eq_true,bne_iff_ne,ne_eq,decide_eq_true_eq,Bool.not_eq_true']at h
  refine⟨fun h=>(Bool.false_ne_true h).elim,fun⟨h1,h2,h3,h4,h5,_⟩=> ?_⟩
  exfalso
  rcases h with (((h | h) | h) | h) | h
  ·exact h h1
  ·rcases h2 with h2 | h2
   ·exact h.1 h2
   ·exact h.2 h2
  ·omega
  ·by_cases h2:op=2 <;> cases name <;> simp_all
  ·rcases h5 with h5 | h5
   ·subst h5;simp at h
   ·rw [h5]at h;simp at h
 ·rename_i h
  simp only [Bool.or_eq_true,Bool.and_eq_true,bne_iff_ne,ne_eq,decide_eq_true_eq,Bool.not_eq_true',not_or,not_and,Decidable.not_not,Bool.not_eq_false]at h
  obtain⟨⟨⟨⟨h1,h2⟩,h3⟩,h4⟩,h5⟩:=h
  refine⟨fun h=>⟨h1, ?_,by omega, ?_, ?_,h⟩,fun h=>h.2.2.2.2.2⟩
  ·by_cases h:op=1
   ·exact .inl h
   ·exact .inr (h2 h)
  ·by_cases h2:op=2 <;> cases name <;> simp_all
  ·cases name with
   | nil=>exact .inl rfl
   | cons c r=>exact .inr (h5 rfl)
theorem aac (op n:Int) (name:ay) (kids:List Ex) (k:Int):Ex.dp k ⟨op,n,name,kids⟩=true↔
 1≤k∧(kids.length:Int)=iO op∧(if op=1 then 0≤n∧name = []else if op=2 then n=0∧isName name=true else n=0∧name = []∧Ex.BU (k - 1) kids=true):=by
 simp only [Ex.dp]
 split
 ·rename_i h
  simp only [Bool.or_eq_true,decide_eq_true_eq,bne_iff_ne,ne_eq]at h
  refine⟨fun h=>(Bool.false_ne_true h).elim,fun⟨h1,h2,_⟩=> ?_⟩
  rcases h with h | h
  ·omega
  ·exact(h h2).elim
 rename_i h
 simp only [Bool.or_eq_true,decide_eq_true_eq,bne_iff_ne,ne_eq,not_or,Decidable.not_not]at h
 have h1:1≤k:=by omega
 simp only [h1,h.2,true_and]
 by_cases o1:op=1
 ·subst o1
  cases name <;> simp
 ·have o1' : ¬ (op==1)=true:=by simpa using o1
  rw [if_neg o1',if_neg o1]
  by_cases o2:op=2
  ·subst o2;simp
  ·have o2' : ¬ (op==2)=true:=by simpa using o2
   rw [if_neg o2',if_neg o2]
   by_cases hn:n=0
   ·subst hn
    cases name <;> simp
   ·simp [hn]
mutual
theorem Vy : ∀ (x:Ex) (k:Int),0≤k→(x.dp k=true↔(x.depth:Int)≤k∧x.form=true)
 | ⟨op,n,name,kids⟩,k,hk=>by
  rw [aac,SU]
  have hd:Ex.depth ⟨op,n,name,kids⟩=Ex.fS kids+1:=by simp only [Ex.depth]
  rw [hd]
  by_cases h1:1≤k
  ·have ih:=Ph kids (k - 1) (by omega)
   by_cases o1:op=1
   ·subst o1
    have ha:iO 1=0:=rfl
    rw [ha,if_pos rfl]
    constructor
    ·rintro⟨_,h2,h3,h4⟩
     have:kids = []:=List.eq_nil_of_length_eq_zero (by omega)
     subst this;subst h4
     simp [Ex.fS,Ex.lf,h3];omega
    ·rintro⟨h2,h3,_,h4,h5,_⟩
     refine⟨h1,h3.symm,h4, ?_⟩
     cases name
     ·rfl
     ·simp at h5
   ·rw [if_neg o1]
    by_cases o2:op=2
    ·subst o2
     have ha:iO 2=0:=rfl
     rw [ha,if_pos rfl]
     constructor
     ·rintro⟨_,h2,h3,h4⟩
      have:kids = []:=List.eq_nil_of_length_eq_zero (by omega)
      subst this;subst h3
      have:=Pf h4
      simp [Ex.fS,Ex.lf,h4,this];omega
     ·rintro⟨h2,h3,h4,_,h5,h6,_⟩
      refine⟨h1,h3.symm,h4.resolve_left o1, ?_⟩
      exact h6.resolve_left (h5.1 rfl)
    ·rw [if_neg o2,ih]
     constructor
     ·rintro⟨_,h2,h3,h4,h5,h6⟩
      subst h3;subst h4
      exact⟨by omega,h2.symm, .inr rfl,Int.le_refl _,by simp [o2], .inl rfl,h6⟩
     ·rintro⟨h2,h3,h4,_,h5,h6,h7⟩
      refine⟨h1,h3.symm,h4.resolve_left o1, ?_,by omega,h7⟩
      exact Decidable.byContradiction fun h=>o2 (h5.2 h)
  ·constructor
   ·rintro⟨h,_⟩;exact(h1 h).elim
   ·rintro⟨h,_⟩;omega
theorem Ph : ∀ (l:List Ex) (k:Int),0≤k→(Ex.BU k l=true↔(Ex.fS l:Int)≤k∧Ex.lf l=true)
 | [],k,hk=>by simp [Ex.BU,Ex.fS,Ex.lf,hk]
 | x::l,k,hk=>by
  have h1:=Vy x k hk
  have h2:=Ph l k hk
  have hd:Ex.fS (x::l)=max x.depth (Ex.fS l):=by simp only [Ex.fS]
  rw [hd]
  simp only [Ex.BU,Ex.lf]
  cases hx:Ex.dp k x
  ·simp only [Bool.not_false, ↓reduceIte,Bool.false_eq_true,false_iff,not_and]
   intro h3
   have : ¬ ((x.depth:Int)≤k∧x.form=true):=by rw [← h1,hx];simp
   have hf:x.form=false:=by
    cases hf:x.form
    ·rfl
    ·exact(this ⟨by omega,hf⟩).elim
   simp [hf]
  ·have:=h1.1 hx
   simp only [Bool.not_true,Bool.false_eq_true, ↓reduceIte,this.2,h2]
   have h3:=this.1
   refine and_congr_left fun _=> ?_
   omega
end
theorem Pj (x:Ex):x.dp 20=x.may:=by
 rw [Bool.eq_iff_iff,Vy x 20 (by omega)]
 unfold Ex.may
 simp only [Bool.and_eq_true,decide_eq_true_eq]
 refine and_congr_left fun _=> ?_
 omega
theorem D3 (x:Ex) (b:Bool):tJ x b=if b then x.may else x.none:=by
 unfold tJ
 rw [Pj]
 cases b <;> simp
theorem D4 (t:ay) (b:Bool):qm t b=if b then isName t else t == []:=by
 unfold qm
 cases b <;> simp
theorem Ac : ∀ l:List Ar,od l=Ar.cY l
 | []=>rfl
 | a::l=>by
  simp only [od,Ar.cY,Ar.may,D3,D4,Ac l]
  grind
theorem alU {α:Type} (l:List α):((l.length:Int)==0) = !(decide ((l.length:Int) > 0)):=by
 cases l with
 | nil=>rfl
 | cons a l=>
  have h1:(((a::l).length:Int)==0)=false:=by simp only [List.length_cons,beq_eq_false_iff_ne];omega
  have h2:decide (((a::l).length:Int) > 0)=true:=by simp only [List.length_cons,decide_eq_true_eq];omega
  rw [h1,h2];rfl
theorem B2 (s:Sm):s.one=(bX s.labels && s.fields):=by
 have hk:s.kind=1∨s.kind=2∨s.kind=3∨s.kind=4∨s.kind=5∨s.kind=6∨s.kind=7∨s.kind=8∨s.kind=9∨s.kind=10∨s.kind<1∨s.kind > 10:=by omega
 unfold Sm.one Sm.fields Sm.flags Sm.lC Sm.hasName Sm.gV
 have p1:isName [] = false:=rfl
 rcases hk with h | h | h | h | h | h | h | h | h | h | h | h
 all_goals
  simp only [h,alU,Ac,D3,D4,Sm.Fo,Sm.Fm]
  grind
end Go.Abs
