/-
  What is proved here: part 2 of the road to the claim (Codes3, Codes4, Have4, Codes5, Have5, Have3, Frz, MirLex, MirMay, Prs, Lex1, Lex2, RefLex1, Prs2, Ref1, Ref2, Ref3, RefMay1, RefMay2, Flat1, Flat2, Flat3, Sl1, MirFlat2, Sl2, TMay1, TMay2, RefMay3, RefMay4, TMay3, TMay4, MayFine, MayEq).
  No conditions.
-/
import Derived.Test.YtiopamakecmpkaaGreatCkS1
import Derived.Test.YtiopamakecmpkaaGreatProg
import Derived.KernelRfl

set_option linter.unusedSimpArgs false
set_option linter.unusedVariables false

/-! Codes3 -/

namespace Go.Abs
abbrev afH:AC:= .cond dB (.seq (.run [.o 6 (.mv (.k (.int .i64 3)))]) .ret) .skip
abbrev afI:AC:= .cond dS (.seq (.run [.o 6 (.mv (.k (.int .i64 2)))]) .ret) .skip
abbrev afJ:AC:= .seq (.seq (.run [.o 16 (.au b9 0), .o 17 (.load b6 false 1), .m 18 cQ, .o 19 (.bin .eql cO cH), .m 20 cZ, .g 21 20 true (.au b9 1), .g 22 20 true (.load dt false 1), .o 23 (.pick dc dk (.k (.bool false)))]) afH) (.seq (.run [.o 24 (.au b9 0), .o 25 (.load dd false 1), .m 26 cQ, .o 27 (.bin .eql de ej)]) afI)
abbrev afK:AC:= .seq (.block 1 (.seq (.run [.o 14 (.cu bF bO 2), .o 15 (.load bK true 2), .o 8 (.alloc [(.str []),(.bool false)]), .op none none (.store b9 cq 2)]) afJ)) (.run [.o 28 (.bin .add bO (.k (.int .i64 1))), .m 12 eI])
abbrev afL:AC:= .block 0 (.loop (.seq (.run [.o 13 (.bin .lss bO bU)]) (.seq (.cond bP .skip (.exit 0)) afK)))
abbrev afM:AC:= .cond fe (.seq (.run [.o 6 (.mv (.k (.int .i64 4)))]) .ret) .skip
abbrev afN:AC:= .cond fA (.seq (.run [.o 6 (.mv (.k (.int .i64 1)))]) .ret) .skip
abbrev afO:AC:= .seq (.seq (.run [.o 33 (.au bI 0), .o 34 (.load eZ false 1), .m 35 cQ, .c 36 bX [fw,fq]]) afN) (.seq (.run [.o 6 (.mv (.k (.int .i64 0)))]) .ret)
abbrev afP:AC:= .seq (.seq (.run [.o 9 (.au c7 1), .o 10 (.load bY false 1), .o 11 (.len bF), .o 12 (.mv (.k (.int .i64 0)))]) afL) (.seq (.seq (.run [.o 29 (.au c7 2), .o 30 (.load eJ false 1), .m 31 cQ, .c 32 bX [fc,eW]]) afM) afO)
abbrev afQ:AC:= .seq (.run [.o 3 (.box aR), .o 4 (.box bc), .o 6 (.mv (.k (.int .i64 0)))]) afP
abbrev afR:AC:= .cond bU (.seq (.run [.o 4 (.mv (.k (.bool false)))]) .ret) .skip
abbrev afS:AC:= .par [.o 19 (.au bL 1), .o 20 (.load cZ false 1), .m 21 bc, .m 22 bh, .o 23 (.cu dt dk 6), .o 24 (.au dB 0), .o 25 (.load dd false 1), .o 26 (.As true dc de)] [(0,0),(1,0),(2,0),(3,0),(4,0),(5,0),(6,0),(7,0)]
abbrev afT:AC:= .cond ej (.seq (.run [.o 4 (.mv (.k (.bool false)))]) .ret) .skip
abbrev afU:AC:= .seq (.block 1 (.seq (.run [.m 16 bK, .o 17 (.cu bO bK 2), .o 18 (.load cO true 2), .o 6 (.alloc [(.str []),(.bool false)]), .m 5 b6, .op none none (.store bL cH 2)]) (.seq afS afT))) (.run [.o 27 (.bin .add bK (.k (.int .i64 1))), .m 14 dS])
abbrev afV:AC:= .block 0 (.loop (.seq (.run [.o 15 (.bin .lss bK bP)]) (.seq (.cond cq .skip (.exit 0)) afU)))
abbrev afW:AC:= .seq (.seq (.run [.m 12 aR, .o 13 (.len bO), .o 14 (.mv (.k (.int .i64 0)))]) afV) (.seq (.run [.o 4 (.mv (.k (.bool true)))]) .ret)
abbrev afX:AC:= .seq (.run [.o 4 (.mv (.k (.bool false)))]) (.seq (.seq (.run [.m 7 aR, .o 8 (.len bE), .m 9 bc, .o 10 (.len bY), .o 11 (.bin .neq b9 bF)]) afR) afW)
abbrev afY:AC:= .cond dk (.seq (.run [.o 23 (.au bY 0), .o 24 (.au dB 0), .o 25 (.load dd false 1), .m 6 de, .o 7 (.mv (.k (.bool true)))]) .ret) .skip
abbrev afZ:AC:= .seq (.block 1 (.seq (.run [.o 16 (.cu bO bK 17), .o 17 (.load b6 true 17), .o 9 (.alloc [(.int .i64 0),(.int .i64 0),(.slice .full 0 []),(.str []),(.str []),(.int .i64 0),(.int .i64 0),(.str []),(.slice .full 0 []),(.bool false),(.slice .full 0 []),(.slice .full 0 []),(.slice .full 0 []),(.int .i64 0),(.int .i64 0),(.int .i64 0),(.int .i64 0)]), .op none none (.store bY cO 17)]) (.seq (.run [.o 18 (.au bY 0), .o 19 (.au cH 2), .o 20 (.load cZ false 1), .m 21 cQ, .c 22 bX [dc,dt]]) afY))) (.run [.o 26 (.bin .add bK (.k (.int .i64 1))), .m 14 ej])
abbrev af0:AC:= .block 0 (.loop (.seq (.run [.o 15 (.bin .lss bK bP)]) (.seq (.cond cq .skip (.exit 0)) afZ)))
abbrev af1:AC:= .seq (.run [(.o 6 (.mv (.k (.int .i64 (-1))))), .o 7 (.mv (.k (.bool true)))]) .ret
abbrev af2:AC:= .seq (.seq (.run [.m 27 aR, .o 28 (.di dS), .o 29 (.au eI 0), .o 30 (.au eJ 1), .o 31 (.load fc false 1), .m 32 bc, .o 33 (.cu eW fe 5), .o 34 (.au eZ 4), .o 35 (.load fw false 1), .m 36 cQ, .c 37 bX [fq,fA]]) (.cond fR af1 .skip)) (.seq (.run [.o 6 (.mv (.k (.int .i64 0))), .o 7 (.mv (.k (.bool false)))]) .ret)
abbrev af3:AC:= .seq (.seq (.run [.m 10 aR, .m 11 bc, .c 12 gi [bF,bU], .o 13 (.len bO), .o 14 (.mv (.k (.int .i64 0)))]) af0) af2
abbrev af4:AC:= .seq (.run [.o 6 (.mv (.k (.int .i64 0))), .o 7 (.mv (.k (.bool false)))]) af3
abbrev af5:AC:= .seq (.run [.o 2 (.box aR), .o 3 (.box bc), .o 4 (.mv (.k (.bool false)))]) (.seq (.run [.o 5 (.load cQ true 2), .c 6 kW [bh], .o 7 (.rj bL 0 false 1), .o 8 (.bin .eql bE (.k (.int .i64 0))), .m 9 b9, .g 10 9 true (.au cQ 1), .g 11 9 true (.load bF false 1), .g 12 9 true (.sA 164 [bI]), .d 13 9 true gj [bU,bO], .o 14 (.pick bY bP (.k (.bool false))), .m 4 bK]) .ret)
abbrev af6:AC:= .seq (.run [.o 26 (.cu dk dd 1), .o 27 (.load ej false 1), .m 8 dS]) (.seq (.run [.m 28 bh, .m 29 b9, .c 30 bX [eI,eJ], .o 31 (.un .not fc)]) (.cond eW (.run [.m 32 bh, .m 33 b9, .o 34 (.cG [(.str [])] 1 1 [(0,eZ)]), .o 35 (.app 1 16 fe fw), .m 5 fq]) .skip))
abbrev af7:AC:= .seq (.cond de .skip (.exit 2)) (.seq (.block 3 af6) (.run [.o 36 (.bin .add dd (.k (.int .i64 1))), .m 24 fA]))
abbrev af8:AC:= .seq (.run [.m 17 aR, .m 18 bh, .m 19 bL, .o 20 (.cu cH cZ 1), .o 21 (.load dc false 1), .c 22 sa [cO,dt], .o 23 (.len dk), .o 24 (.mv (.k (.int .i64 0)))]) (.block 2 (.loop (.seq (.run [.o 25 (.bin .lss dd dB)]) af7)))
abbrev af9:AC:= .seq (.seq (.run [.m 11 bL, .m 12 bh, .o 13 (.len bO), .o 14 (.bin .lss bU bP)]) (.cond bK .skip (.exit 0))) (.seq (.block 1 af8) (.run [.m 15 bL, .o 16 (.bin .add cq (.k (.int .i64 1))), .m 6 b6]))
abbrev YS:AC:= .seq (.run [.m 39 bh, .m 4 ga]) .ret
abbrev aga:AC:= .seq (.seq (.run [.o 6 (.mv (.k (.int .i64 0)))]) (.block 0 (.loop af9))) (.seq (.run [.m 37 bh, .c 38 iD [fR]]) YS)
abbrev agb:AC:= .seq (.run [.o 4 (.mv (.k (.slice .full 0 [])))]) (.seq (.run [.m 9 bc, .o 10 (.cG [(.str [])] 1 1 [(0,bY)]), .m 5 bF]) aga)
abbrev agc:AC:= .seq (.run [.o 3 (.box bc), .o 4 (.mv (.k (.int .i64 0)))]) (.seq (.run [.m 5 aR, .o 6 (.di bh), .o 7 (.au bL 0), .o 8 (.au bE 1), .o 9 (.load b9 false 1), .o 10 (.sA 167 [bI]), .c 11 fL [bY,bF], .m 4 bU]) .ret)
abbrev agd:AC:= .seq (.run [.o 2 (.mv (.k (.bool false)))]) (.seq (.run [.m 3 aR, .o 4 (.bin .geq bI (.k (.int .u8 48))), .m 5 c7, .g 6 5 true (.mv aR), .g 7 5 true (.bin .leq bL (.k (.int .u8 57))), .o 8 (.pick bh bE (.k (.bool false))), .m 2 b9]) .ret)
abbrev age:AC:= .seq (.run [.o 20 (.bin .eql bK (.k (.str [38,38]))), .m 15 dc]) (.cond cq .skip (.run [.o 21 (.bin .eql bK (.k (.str [124,124]))), .m 15 dt]))
abbrev agf:AC:= .cond cq .skip (.seq (.run [.o 19 (.bin .eql bK (.k (.str [62,61]))), .m 15 cZ]) (.cond cq .skip age))
abbrev agh:AC:= .cond cq .skip (.seq (.run [.o 18 (.bin .eql bK (.k (.str [60,61]))), .m 15 cH]) agf)
abbrev agi:AC:= .cond cq .skip (.seq (.run [.o 17 (.bin .eql bK (.k (.str [33,61]))), .m 15 cO]) agh)
abbrev agj:AC:= .cond cq (.seq (.run [.o 4 (.mv (.k (.int .i64 2)))]) .ret) .skip
abbrev agk:AC:= .seq (.seq (.run [.o 16 (.bin .eql bK (.k (.str [61,61]))), .m 15 b6]) agi) agj
abbrev agl:AC:= .cond bY (.seq (.run [.m 10 aR, .m 11 bc, .m 12 bc, .o 13 (.bin .add bO (.k (.int .i64 2))), .o 14 (.wR bF (some bU) (some bP))]) (.block 0 agk)) .skip
abbrev agm:AC:= .seq (.run [.o 40 (.bin .eql dd (.k (.int .u8 47))), .m 25 gJ]) (.cond de .skip (.run [.o 41 (.bin .eql dd (.k (.int .u8 37))), .m 25 gK]))
abbrev agn:AC:= .cond de .skip (.seq (.run [.o 39 (.bin .eql dd (.k (.int .u8 42))), .m 25 ga]) (.cond de .skip agm))
abbrev ago:AC:= .cond de .skip (.seq (.run [.o 38 (.bin .eql dd (.k (.int .u8 45))), .m 25 gl]) agn)
abbrev agp:AC:= .cond de .skip (.seq (.run [.o 37 (.bin .eql dd (.k (.int .u8 43))), .m 25 fR]) ago)
abbrev agq:AC:= .cond de .skip (.seq (.run [.o 36 (.bin .eql dd (.k (.int .u8 62))), .m 25 fA]) agp)
abbrev agr:AC:= .cond de .skip (.seq (.run [.o 35 (.bin .eql dd (.k (.int .u8 60))), .m 25 fq]) agq)
abbrev ags:AC:= .cond de .skip (.seq (.run [.o 34 (.bin .eql dd (.k (.int .u8 33))), .m 25 fw]) agr)
abbrev agt:AC:= .cond de .skip (.seq (.run [.o 33 (.bin .eql dd (.k (.int .u8 61))), .m 25 eZ]) ags)
abbrev agu:AC:= .cond de .skip (.seq (.run [.o 32 (.bin .eql dd (.k (.int .u8 58))), .m 25 fe]) agt)
abbrev agv:AC:= .cond de .skip (.seq (.run [.o 31 (.bin .eql dd (.k (.int .u8 59))), .m 25 eW]) agu)
abbrev agw:AC:= .cond de .skip (.seq (.run [.o 30 (.bin .eql dd (.k (.int .u8 44))), .m 25 fc]) agv)
abbrev agx:AC:= .cond de .skip (.seq (.run [.o 29 (.bin .eql dd (.k (.int .u8 125))), .m 25 eJ]) agw)
abbrev agy:AC:= .cond de .skip (.seq (.run [.o 28 (.bin .eql dd (.k (.int .u8 123))), .m 25 eI]) agx)
abbrev agz:AC:= .cond de .skip (.seq (.run [.o 27 (.bin .eql dd (.k (.int .u8 41))), .m 25 dS]) agy)
abbrev agA:AC:= .cond de (.seq (.run [.o 4 (.mv (.k (.int .i64 1)))]) .ret) .skip
abbrev agB:AC:= .seq (.seq (.run [.o 26 (.bin .eql dd (.k (.int .u8 40))), .m 25 ej]) agz) agA
abbrev agC:AC:= .seq (.seq (.run [.m 22 aR, .m 23 bc, .o 24 (.nJ dk dB)]) (.block 1 agB)) (.seq (.run [.o 4 (.mv (.k (.int .i64 0)))]) .ret)
abbrev agD:AC:= .seq (.seq (.run [.m 5 bc, .o 6 (.bin .add bh (.k (.int .i64 1))), .m 7 aR, .o 8 (.kR bE), .o 9 (.bin .lss bL b9)]) agl) agC
abbrev agE:AC:= .seq (.run [.o 4 (.mv (.k (.int .i64 0)))]) agD
abbrev agF:AC:= .cond dk (.seq (.run [.o 2 (.mv (.k (.int .i64 0))), .o 3 (.mv (.k (.bool false)))]) .ret) .skip
abbrev agG:AC:= .seq (.seq (.run [.m 18 c7, .m 19 bL, .o 20 (.bin .sub (.k (.int .i64 9223372036854775807)) cZ), .o 21 (.bin .quo dc (.k (.int .i64 10))), .o 22 (.bin .gtr cH dt)]) agF) (.run [.m 23 c7, .o 24 (.bin .mul dB (.k (.int .i64 10))), .m 25 bL, .o 26 (.bin .add dd de), .m 4 ej])
abbrev agH:AC:= .block 1 (.seq (.run [.m 13 aR, .m 14 bh, .o 15 (.nJ bP bK), .o 16 (.bin .sub cq (.k (.int .u8 48))), .o 17 (.conv .i64 b6), .m 6 cO]) agG)
abbrev agI:AC:= .seq (.seq (.run [.m 7 bh, .m 8 aR, .o 9 (.kR b9), .o 10 (.bin .lss bE bY)]) (.cond bF .skip (.exit 0))) (.seq agH (.run [.m 11 bh, .o 12 (.bin .add bU (.k (.int .i64 1))), .m 5 bO]))
abbrev agJ:AC:= .seq (.seq (.run [.o 5 (.mv (.k (.int .i64 0)))]) (.block 0 (.loop agI))) (.seq (.run [.m 27 c7, .m 2 dS, .o 3 (.mv (.k (.bool true)))]) .ret)
abbrev agK:AC:= .seq (.run [.o 2 (.mv (.k (.int .i64 0))), .o 3 (.mv (.k (.bool false)))]) (.seq (.run [.o 4 (.mv (.k (.int .i64 0)))]) agJ)
abbrev agL:AC:= .cond bP (.seq (.run [.o 4 (.mv (.k (.bool false)))]) .ret) .skip
abbrev agM:AC:= .seq (.run [.m 14 aR, .o 15 (.di bK), .o 16 (.au cq 1), .o 17 (.load b6 false 1), .o 18 (.bin .add cO (.k (.int .i64 1))), .o 19 (.di bK), .o 20 (.au cZ 1), .op none none (.store dc cH 1)]) (.seq (.run [.o 4 (.mv (.k (.bool true)))]) .ret)
abbrev agN:AC:= .seq (.seq (.run [.m 5 aR, .c 6 cB [bh], .o 7 (.un .not bL), .m 8 bE, .g 9 8 false (.mv aR), .g 10 8 false (.mv bc), .d 11 8 false fl [bY,bF], .g 12 8 false (.un .not bU), .o 13 (.pick b9 (.k (.bool true)) bO)]) agL) agM
abbrev agO:AC:= .seq (.run [.o 4 (.mv (.k (.bool false)))]) agN
abbrev agP:AC:= .cond dc (.seq (.run [.m 21 aR,(.c 22 cT [dt,(.k (.str [59]))])]) (.seq (.run [.m 23 bc, .m 6 dB]) .ret)) .skip
abbrev agQ:AC:= .seq (.run [.m 9 bc, .m 10 aR, .m 11 bc, .o 12 (.len bU), .m 13 cQ, .o 14 (.bin .lss bO bP), .c 15 eh [bF,bK], .o 16 (.cG [(.str [])] 1 1 [(0,cq)]), .o 17 (.app 1 16 bY b6), .m 1 cO]) (.seq (.run [.m 18 aR,(.c 19 dq [cH,(.k (.str [44]))]), .o 20 (.un .not cZ)]) agP)
abbrev agR:AC:= .block 0 (.loop (.seq (.seq (.run [.m 7 aR, .c 8 cB [bE]]) (.cond b9 .skip (.exit 0))) (.block 1 agQ)))
abbrev agS:AC:= .seq (.run [.o 6 (.mv (.k (.slice .full 0 [])))]) (.seq agR (.seq (.run [.m 24 bc, .m 6 dd]) .ret))
abbrev agT:AC:= .seq (.run [.o 2 (.mv (.k (.bool false)))]) (.seq (.run [.m 3 aR, .o 4 (.di bI), .o 5 (.au c7 2), .o 6 (.au bh 0), .o 7 (.load bL false 1), .o 8 (.bin .eql bE (.k (.int .i64 0))), .m 2 b9]) .ret)
abbrev agU:AC:= .seq (.run [.m 6 aR, .c 7 dr [bL], .o 5 (.alloc [(.int .i64 0),(.str []),(.int .i64 0),(.int .i64 0)]), .op none none (.store bh bE 4)]) (.seq (.run [.o 8 (.au bh 0), .o 9 (.load b9 false 1), .o 10 (.bin .eql bY (.k (.int .i64 3))), .m 11 bF, .g 12 11 false (.au bh 0), .g 13 11 false (.load bO false 1), .g 14 11 false (.bin .eql bP (.k (.int .i64 4))), .o 15 (.pick bU (.k (.bool true)) bK), .m 16 cq, .g 17 16 true (.au bh 1), .g 18 16 true (.load cO false 1), .g 19 16 true (.mv bc), .g 20 16 true (.bin .eql cH cZ), .o 21 (.pick b6 dc (.k (.bool false))), .m 4 dt]) .ret)
abbrev agV:AC:= .seq (.run [.o 4 (.mv (.k (.bool false)))]) agU
abbrev agW:AC:= .seq (.run [.m 4 aR, .c 5 cB [c7]]) (.cond bh (.run [.m 6 aR, .m 7 bc, .m 8 aR, .c 9 dr [b9], .o 10 (.rj bY 3 false 1), .o 11 (.build [(.int .i64 0),(.int .i64 0)] [(0,(1,bE)),(1,(1,bF))]), .o 12 (.di bL), .o 13 (.au bO 2), .op none none (.store bP bU 2)]) .skip)
abbrev agX:AC:= .par [.o 21 (.au bI 1), .o 22 (.load dt false 1), .m 23 aR, .o 24 (.au bI 1), .o 25 (.load dd false 1), .o 26 (.len de), .o 27 (.bin .lss ej (.k (.int .i64 8))), .c 28 eh [dB,dS], .m 29 c7, .o 30 (.build [(.str []),(.bool false)] [(0,(1,eI)),(1,(1,eJ))]), .o 31 (.cG [(.str []),(.bool false)] 2 1 [(0,fc)]), .o 32 (.app 2 24 dk eW), .o 33 (.au bI 1), .op none none (.store eZ fe 1)] [(2,0),(3,0),(4,0),(5,0),(6,0),(7,0),(0,0),(1,1),(8,0),(9,0),(10,0),(11,0),(12,0),(13,0)]
abbrev agY:AC:= .seq agX (.seq (.run [.m 34 aR,(.c 35 dq [fw,(.k (.str [44]))]), .o 36 (.un .not fq)]) (.cond fA (.exit 0) .skip))
abbrev agZ:AC:= .block 1 (.seq (.run [.m 19 aR,(.c 20 dq [cZ,(.k (.str [114,101,102]))]), .m 4 dc]) agY)
abbrev ag0:AC:= .block 0 (.loop (.seq (.seq (.run [.m 17 aR, .c 18 cB [cO]]) (.cond cH .skip (.exit 0))) agZ))
abbrev YT:AC:= .seq (.seq (.run [.m 41 aR,(.c 42 dq [gK,(.k (.str [118,97,114]))])]) (.cond iH .skip (.exit 2))) (.block 3 (.run [.m 43 aR, .o 44 (.au bI 2), .o 45 (.load jx false 1), .c 46 iE [iS,jM,(.k (.int .i64 16))], .o 47 (.au bI 2), .op none none (.store jO jN 1)]))
abbrev YU:AC:= .seq (.run [.m 49 aR, .c 50 fZ [iU,(.k (.int .i64 1)),(.k (.bool true))], .m 48 jP, .o 51 (.ext iT 0), .o 52 (.ext iT 1), .o 53 (.au bI 3), .op none none (.store ke jQ 1), .o 54 (.au bI 4), .op none none (.store kE kd 1)]) (.seq (.run [.o 55 (.load bI true 5), .op none none (.store cQ kU 5)]) .ret)
abbrev ag1:AC:= .seq (.run [.m 37 aR,(.c 38 cT [fR,(.k (.str [41]))])]) (.seq (.run [.m 39 aR,(.c 40 cT [ga,(.k (.str [123]))])]) (.seq (.block 2 (.loop YT)) YU))
abbrev ag2:AC:= .seq (.seq (.run [.m 10 aR, .c 11 cB [bF], .m 12 bU, .g 13 12 true (.mv aR),(.d 14 12 true fl [bP,(.k (.str [41]))]), .g 15 12 true (.un .not bK), .o 16 (.pick bO cq (.k (.bool false)))]) (.cond b6 ag0 .skip)) ag1
abbrev ag3:AC:= .seq (.run [.m 5 aR, .c 6 eh [bh,(.k (.bool true))], .o 7 (.build [(.str []),(.slice .full 0 []),(.slice .full 0 []),(.slice .full 0 []),(.slice .full 0 [])] [(0,(1,bL))]), .o 3 (.alloc [(.str []),(.slice .full 0 []),(.slice .full 0 []),(.slice .full 0 []),(.slice .full 0 [])]), .op none none (.store bI bE 5)]) (.seq (.run [.m 8 aR,(.c 9 cT [b9,(.k (.str [40]))])]) ag2)
abbrev ag4:AC:= .seq (.run [.o 2 (.alloc [(.str []),(.slice .full 0 []),(.slice .full 0 []),(.slice .full 0 []),(.slice .full 0 [])])]) ag3
abbrev ag5:AC:= .par [.m 3 aR, .o 4 (.di bI), .o 5 (.au c7 0), .o 6 (.load bh false 1), .m 7 aR, .o 8 (.di bE), .o 9 (.au b9 1), .o 10 (.load bY false 1), .o 11 (.cu bL bF 4), .o 12 (.load bU true 4), .op none none (.store cQ bO 4)] [(0,0),(1,0),(2,0),(3,0),(4,0),(5,0),(6,0),(7,0),(8,0),(9,0),(10,0)]
abbrev ag6:AC:= .seq (.run [.o 2 (.alloc [(.int .i64 0),(.str []),(.int .i64 0),(.int .i64 0)])]) (.seq ag5 .ret)
abbrev ag7:AC:= .cond c7 (.seq (.run [.o 2 (.mv (.k (.slice .full 0 [])))]) .ret) .skip
abbrev ag8:AC:= .seq (.run [.o 2 (.mv (.k (.slice .full 0 [])))]) (.seq (.seq (.run [.m 3 aR, .nil (some 4) none false bI]) ag7) (.seq (.run [.o 5 (.cG [(.str [])] 1 0 []), .m 6 aR, .o 7 (.app 1 16 bh bL), .m 2 bE]) .ret))
abbrev ag9:AC:= .cond c7 (.seq (.run [.o 2 (.mv (.k (.slice .full 0 [])))]) .ret) .skip
abbrev aha:AC:= .seq (.run [.o 2 (.mv (.k (.slice .full 0 [])))]) (.seq (.seq (.run [.m 3 aR, .nil (some 4) none false bI]) ag9) (.seq (.run [.o 5 (.cG [(.str []),(.bool false)] 2 0 []), .m 6 aR, .o 7 (.app 2 24 bh bL), .m 2 bE]) .ret))
abbrev ahb:AC:= .par [.o 26 (.au bF 2), .o 27 (.load ej false 1), .c 28 gp [dS], .o 29 (.au bF 5), .o 30 (.load eJ true 4), .c 31 lB [fc], .o 32 (.au bU 2), .op none none (.store fe eI 1), .o 33 (.au bU 5), .op none none (.store eZ eW 4), .o 34 (.au bU 10), .op none none (.store fw (.k (.slice .full 0 [])) 1)] [(0,0),(1,0),(2,0),(3,0),(4,1),(5,0),(6,0),(7,0),(8,0),(9,0),(10,0),(11,0)]
abbrev ahc:AC:= .block 3 (.seq (.run [.o 40 (.cu fA gl 6), .o 41 (.load gJ true 6), .o 13 (.alloc [(.bool false),(.str []),(.int .i64 0),(.int .i64 0),(.str []),(.slice .full 0 [])]), .op none none (.store bP gK 6)]) (.seq (.run [.o 42 (.au bP 2), .o 43 (.load iH true 4), .c 44 lB [iS], .o 45 (.au bP 2), .op none none (.store jM jx 4)]) (.run [.o 46 (.au bU 10), .o 47 (.load jN false 1), .o 48 (.load bP true 6), .o 49 (.cG [(.bool false),(.str []),(.int .i64 0),(.int .i64 0),(.str []),(.slice .full 0 [])] 6 1 [(0,iT)]), .o 50 (.app 6 80 jO iU), .o 51 (.au bU 10), .op none none (.store jQ jP 1)])))
abbrev ahd:AC:= .seq (.cond ga .skip (.exit 2)) (.seq ahc (.run [.o 52 (.bin .add gl (.k (.int .i64 1))), .m 38 kd]))
abbrev ahe:AC:= .seq (.run [.o 35 (.au bF 10), .o 36 (.load fq false 1), .o 37 (.len fA), .o 38 (.mv (.k (.int .i64 0)))]) (.block 2 (.loop (.seq (.run [.o 39 (.bin .lss gl fR)]) ahd)))
abbrev ahf:AC:= .seq ahe (.seq (.run [.o 54 (.au bF 11), .o 55 (.load kE false 1), .m 56 bc, .m 57 cQ, .c 58 jL [kU,l6,mF], .m 53 l7, .o 59 (.ext ke 0), .o 60 (.ext ke 1), .o 61 (.au bU 11), .op none none (.store pd kF 1), .m 1 nX]) (.seq (.run [.o 63 (.au bF 12), .o 64 (.load pf false 1), .m 65 bc, .m 66 cQ, .c 67 jL [qd,sb,tH], .m 62 sc, .o 68 (.ext pe 0), .o 69 (.ext pe 1), .o 70 (.au bU 12), .op none none (.store tJ sd 1), .m 1 vF]) (.run [.m 71 b9, .o 72 (.load bU true 13), .o 73 (.cG [(.int .i64 0),(.int .i64 0),(.slice .full 0 []),(.str []),(.str []),(.int .i64 0),(.int .i64 0),(.str []),(.slice .full 0 []),(.bool false),(.slice .full 0 []),(.slice .full 0 []),(.slice .full 0 [])] 13 1 [(0,xd)]), .o 74 (.app 13 208 yS yT), .m 8 yU])))
abbrev ahg:AC:= .seq (.run [.o 22 (.load bF true 13), .o 11 (.alloc [(.int .i64 0),(.int .i64 0),(.slice .full 0 []),(.str []),(.str []),(.int .i64 0),(.int .i64 0),(.str []),(.slice .full 0 []),(.bool false),(.slice .full 0 []),(.slice .full 0 []),(.slice .full 0 [])]), .op none none (.store bU dk 13)]) (.seq (.seq (.run [.m 23 cQ]) (.cond dB (.run [.m 24 bc, .o 25 (.au bU 0), .op none none (.store de dd 1)]) .skip)) (.seq ahb ahf))
abbrev ahh:AC:= .seq (.run [.o 18 (.cu bK b6 13), .o 19 (.load cH true 13), .o 10 (.alloc [(.int .i64 0),(.int .i64 0),(.slice .full 0 []),(.str []),(.str []),(.int .i64 0),(.int .i64 0),(.str []),(.slice .full 0 []),(.bool false),(.slice .full 0 []),(.slice .full 0 []),(.slice .full 0 [])]), .op none none (.store bF cZ 13)]) (.seq (.run [.m 20 bc, .o 21 (.bin .add dc (.k (.int .i64 1))), .m 1 dt]) ahg)
abbrev ahi:AC:= .seq (.cond cO .skip (.exit 0)) (.seq (.block 1 ahh) (.run [.o 75 (.bin .add b6 (.k (.int .i64 1))), .m 16 yV]))
abbrev ahj:AC:= .seq (.run [.m 14 aR, .o 15 (.len bK), .o 16 (.mv (.k (.int .i64 0)))]) (.block 0 (.loop (.seq (.run [.o 17 (.bin .lss b6 cq)]) ahi)))
abbrev ahk:AC:= .seq (.run [.o 6 (.mv (.k (.slice .full 0 []))), .o 7 (.mv (.k (.int .i64 0)))]) (.seq (.run [.o 8 (.mv (.k (.slice .full 0 [])))]) (.seq ahj (.seq (.run [.m 76 b9, .m 77 bc, .m 6 yW, .m 7 Bf]) .ret)))
abbrev ahl:AC:= .par [.o 9 (.au bI 0), .o 10 (.load bY false 1), .o 11 (.au bI 1), .o 12 (.load bU false 1), .o 13 (.au bI 2), .o 14 (.load bP false 1), .m 15 bc, .m 16 cQ, .c 17 iC [bK,cq,b6], .o 18 (.build [(.int .i64 0),(.int .i64 0),(.str []),(.slice .full 0 [])] [(0,(1,bF)),(1,(1,bO)),(2,(1,cO))]), .o 7 (.alloc [(.int .i64 0),(.int .i64 0),(.str []),(.slice .full 0 [])]), .op none none (.store bE cH 4)] [(4,0),(5,0),(6,0),(7,0),(8,0),(10,0),(0,0),(1,2),(2,0),(3,2),(9,0),(11,0)]
abbrev ahm:AC:= .par [.o 25 (.au bE 3), .o 26 (.load de false 1), .o 27 (.au bI 3), .o 28 (.load dS false 1), .m 29 b9, .o 30 (.cu eI eJ 4), .o 31 (.load fc true 4), .m 32 bc, .m 33 cQ, .c 34 iF [eW,fe,eZ], .o 35 (.cG [(.int .i64 0),(.int .i64 0),(.str []),(.slice .full 0 [])] 4 1 [(0,fw)]), .o 36 (.app 4 56 ej fq), .o 37 (.au bE 3), .op none none (.store fR fA 1)] [(2,0),(3,0),(4,0),(5,0),(6,0),(7,0),(8,0),(9,0),(0,0),(1,1),(10,0),(11,0),(12,0),(13,0)]
abbrev ahn:AC:= .seq (.cond dB .skip (.exit 0)) (.seq (.block 1 (.seq (.run [.m 24 dk, .m 8 dd]) ahm)) (.run [.o 38 (.bin .add dk (.k (.int .i64 1))), .m 22 gl]))
abbrev aho:AC:= .seq (.run [.o 19 (.au bI 3), .o 20 (.load cZ false 1), .o 21 (.len dc), .o 22 (.mv (.k (.int .i64 0)))]) (.block 0 (.loop (.seq (.run [.o 23 (.bin .lss dk dt)]) ahn)))
abbrev ahp:AC:= .seq (.run [.o 3 (.box aR), .o 6 (.alloc [(.int .i64 0),(.int .i64 0),(.str []),(.slice .full 0 [])])]) (.seq ahl (.seq aho (.seq (.run [.o 39 (.load bE true 4), .op none none (.store bL ga 4)]) .ret)))
abbrev ahq:AC:= .cond bP (.seq (.run [.o 2 (.mv (.k (.bool false)))]) .ret) .skip
abbrev ahr:AC:= .seq (.block 1 (.seq (.run [.o 9 (.cu bh bE 1), .o 10 (.load bY false 1), .m 4 bF]) (.seq (.run [.m 11 c7, .c 12 kn [bU], .o 13 (.un .not bO)]) ahq))) (.run [.o 14 (.bin .add bE (.k (.int .i64 1))), .m 7 bK])
abbrev ahs:AC:= .block 0 (.loop (.seq (.run [.o 8 (.bin .lss bE bL)]) (.seq (.cond b9 .skip (.exit 0)) ahr)))
abbrev aht:AC:= .seq (.seq (.run [.m 5 aR, .o 6 (.len bh), .o 7 (.mv (.k (.int .i64 0)))]) ahs) (.seq (.run [.o 2 (.mv (.k (.bool true)))]) .ret)
abbrev ahu:AC:= .seq (.run [.o 2 (.mv (.k (.bool false)))]) aht
abbrev ahv:AC:= .cond b6 (.seq (.run [.o 2 (.mv (.k (.bool false)))]) .ret) .skip
abbrev ahw:AC:= .cond fw (.seq (.run [.o 2 (.mv (.k (.bool false)))]) .ret) .skip
abbrev ahx:AC:= .block 1 (.seq (.run [.m 23 aR, .m 24 bI, .o 25 (.nJ dB dd), .c 26 qc [de], .o 27 (.un .not ej), .m 28 dS, .g 29 28 true (.mv aR), .g 30 28 true (.mv bI), .g 31 28 true (.nJ eJ fc), .d 32 28 true tD [eW], .g 33 28 true (.un .not fe), .o 34 (.pick eI eZ (.k (.bool false)))]) ahw)
abbrev ahy:AC:= .seq (.seq (.run [.m 17 bI, .m 18 aR, .o 19 (.kR cH), .o 20 (.bin .lss cO cZ)]) (.cond dc .skip (.exit 0))) (.seq ahx (.run [.m 21 bI, .o 22 (.bin .add dt (.k (.int .i64 1))), .m 3 dk]))
abbrev ahz:AC:= .seq (.seq (.run [.o 3 (.mv (.k (.int .i64 1)))]) (.block 0 (.loop ahy))) (.seq (.run [.m 35 aR, .c 36 vC [fq], .o 37 (.un .not fA), .m 2 fR]) .ret)
abbrev ahA:AC:= .seq (.seq (.run [.m 4 aR, .o 5 (.bin .eql c7 (.k (.str []))), .m 6 bh, .g 7 6 false (.mv aR), .g 8 6 false (.kR bE), .g 9 6 false (.bin .gtr b9 (.k (.int .i64 8))), .o 10 (.pick bL (.k (.bool true)) bY), .m 11 bF, .g 12 11 false (.mv aR), .g 13 11 false (.nJ bO (.k (.int .i64 0))), .d 14 11 false qc [bP], .g 15 11 false (.un .not bK), .o 16 (.pick bU (.k (.bool true)) cq)]) ahv) ahz
abbrev ahB:AC:= .seq (.run [.o 2 (.mv (.k (.bool false)))]) ahA
abbrev ahC:AC:= .run [.o 8 (.au bc 1), .o 9 (.load b9 false 1), .o 10 (.bin .eql bY (.k (.int .i64 1))), .m 11 bF, .g 12 11 false (.au bc 1), .g 13 11 false (.load bO false 1), .g 14 11 false (.bin .eql bP (.k (.int .i64 3))), .o 15 (.pick bU (.k (.bool true)) bK), .m 16 cq, .g 17 16 false (.au bc 1), .g 18 16 false (.load cO false 1), .g 19 16 false (.bin .eql cH (.k (.int .i64 5))), .o 20 (.pick b6 (.k (.bool true)) cZ), .m 21 dc, .g 22 21 false (.au bc 1), .g 23 21 false (.load dk false 1), .g 24 21 false (.bin .eql dB (.k (.int .i64 6))), .o 25 (.pick dt (.k (.bool true)) dd), .m 26 de, .g 27 26 false (.au bc 1), .g 28 26 false (.load dS false 1), .g 29 26 false (.bin .eql eI (.k (.int .i64 9))), .g 30 26 false (.mv eJ), .g 31 30 true (.au bc 9), .g 32 30 true (.load eW false 1), .g 33 26 false (.pick fc fe (.k (.bool false))), .o 34 (.pick ej (.k (.bool true)) eZ), .m 3 fw]
abbrev ahD:AC:= .run [.o 51 (.au bc 1), .o 52 (.load jQ false 1), .o 53 (.bin .lss kd (.k (.int .i64 1))), .m 54 ke, .g 55 54 false (.au bc 1), .g 56 54 false (.load kU false 1), .g 57 54 false (.bin .gtr l6 (.k (.int .i64 10))), .o 58 (.pick kE (.k (.bool true)) mF), .m 59 l7, .g 60 59 false (.au bc 2), .g 61 59 false (.load nX false 1), .d 62 59 false tC [pd], .g 63 59 false (.un .not pe), .o 64 (.pick kF (.k (.bool true)) pf), .m 65 qd, .g 66 65 false (.mv bI), .g 67 65 false (.mv tH), .g 68 67 true (.au bc 5), .g 69 67 true (.load sd true 4), .d 70 67 true od [vF], .g 71 67 true (.un .not tJ), .g 72 65 false (.pick sc yS (.k (.bool false))), .o 73 (.pick sb (.k (.bool true)) xd), .m 74 yT, .g 75 74 false (.mv bI), .g 76 74 false (.un .not yV), .g 77 74 false (.mv yW), .g 78 77 true (.au bc 5), .g 79 77 true (.load yX true 4), .d 80 77 true q6 [GU], .g 81 77 true (.un .not GV), .g 82 74 false (.pick Bf GX (.k (.bool false))), .o 83 (.pick yU (.k (.bool true)) GY), .m 84 GZ, .g 85 84 false (.au bc 9), .g 86 84 false (.load G1 false 1), .g 87 84 false (.mv G2), .g 88 87 true (.au bc 1), .g 89 87 true (.load G4 false 1), .g 90 87 true (.bin .neq G5 (.k (.int .i64 9))), .g 91 84 false (.pick G3 LN (.k (.bool false))), .o 92 (.pick G0 (.k (.bool true)) LO)]
abbrev ahE:AC:= .cond LP (.seq (.run [.o 2 (.mv (.k (.bool false)))]) .ret) .skip
abbrev ahF:AC:= .run [.m 93 c7, .m 94 Rw, .g 95 94 true (.au bc 3), .g 96 94 true (.load Ry false 1), .d 97 94 true kn [YI], .g 98 94 true (.un .not YJ), .o 99 (.pick Rx YK (.k (.bool false))), .m 100 YL, .g 101 100 false (.mv c7), .g 102 100 false (.un .not TU), .g 103 100 false (.mv TV), .g 104 103 true (.au bc 3), .g 105 103 true (.load TY false 1), .g 106 103 true (.bin .neq T1 (.k (.str []))), .g 107 100 false (.pick TX T2 (.k (.bool false))), .g 108 100 false (.mv T3), .g 109 108 true (.mv bh), .g 110 108 true (.mv T5), .g 111 110 true (.au bc 3), .g 112 110 true (.load T7 false 1), .d 113 110 true kn [T8], .g 114 108 true (.pick T6 T9 (.k (.bool false))), .g 115 108 true (.un .not Ua), .g 116 100 false (.pick T4 Ub (.k (.bool false))), .o 117 (.pick TT (.k (.bool true)) Uc)]
abbrev ahG:AC:= .cond Ud (.seq (.run [.o 2 (.mv (.k (.bool false)))]) .ret) .skip
abbrev ahH:AC:= .run [.m 118 bh, .o 119 (.au bc 4), .o 120 (.load Uf false 1), .o 121 (.bin .neq Ug (.k (.str []))), .o 122 (.As true Ue Uh), .m 123 Ui, .g 124 123 false (.mv bh), .g 125 123 false (.mv Uk), .g 126 125 true (.au bc 4), .g 127 125 true (.load Um false 1), .d 128 125 true kn [Un], .g 129 125 true (.un .not Uo), .g 130 123 false (.pick Ul Uq (.k (.bool false))), .o 131 (.pick Uj (.k (.bool true)) Ur), .m 132 Us, .g 133 132 false (.mv bh), .g 134 132 false (.un .not Ut), .g 135 132 false (.mv Uu), .g 136 135 true (.au bc 10), .g 137 135 true (.load Uw false 1), .g 138 135 true (.len Ux), .g 139 135 true (.bin .gtr Uy (.k (.int .i64 0))), .g 140 132 false (.pick Uv Uz (.k (.bool false))), .o 141 (.pick LQ (.k (.bool true)) UA)]
abbrev ahI:AC:= .cond UB (.seq (.run [.o 2 (.mv (.k (.bool false)))]) .ret) .skip
abbrev ahJ:AC:= .cond UJ (.seq (.run [.o 2 (.mv (.k (.bool false)))]) .ret) .skip
abbrev ahK:AC:= .seq (.block 1 (.seq (.run [.o 147 (.cu LR Fv 6), .o 148 (.load UF true 6), .o 7 (.alloc [(.bool false),(.str []),(.int .i64 0),(.int .i64 0),(.str []),(.slice .full 0 [])]), .op none none (.store bE UG 6)]) (.seq (.run [.o 149 (.load bE true 6), .c 150 xc [UH], .o 151 (.un .not UI)]) ahJ))) (.run [.o 152 (.bin .add Fv (.k (.int .i64 1))), .m 145 acg])
abbrev ahL:AC:= .block 0 (.loop (.seq (.run [.o 146 (.bin .lss Fv UD)]) (.seq (.cond UE .skip (.exit 0)) ahK)))
abbrev ahM:AC:= .run [.o 153 (.au bc 11), .o 154 (.load ach false 1), .o 155 (.len aci), .o 156 (.bin .eql acj (.k (.int .i64 0))), .m 157 ack, .g 158 157 false (.au bc 1), .g 159 157 false (.load acn false 1), .g 160 157 false (.bin .eql aco (.k (.int .i64 5))), .o 161 (.pick acm (.k (.bool true)) acp), .m 162 acq, .g 163 162 false (.au bc 1), .g 164 162 false (.load acs false 1), .g 165 162 false (.bin .eql acu (.k (.int .i64 6))), .o 166 (.pick acr (.k (.bool true)) acv), .m 167 acw, .g 168 167 true (.au bc 12), .g 169 167 true (.load acy false 1), .g 170 167 true (.len acz), .g 171 167 true (.bin .eql acA (.k (.int .i64 0))), .g 172 167 true (.mv acB), .g 173 172 false (.au bc 1), .g 174 172 false (.load acD false 1), .g 175 172 false (.bin .eql acE (.k (.int .i64 5))), .g 176 167 true (.pick acC (.k (.bool true)) acF), .o 177 (.pick acx acG (.k (.bool false))), .m 2 acH]
abbrev YV:AC:= .seq (.seq (.run [.o 142 (.au bc 10), .o 143 (.load UC false 1), .o 144 (.len LR), .o 145 (.mv (.k (.int .i64 0)))]) ahL) (.seq ahM .ret)
abbrev YW:AC:= .seq (.seq ahH ahI) YV
abbrev YX:AC:= .seq (.seq ahF ahG) YW
abbrev YY:AC:= .seq (.seq ahD ahE) YX
abbrev YZ:AC:= .seq (.run [.o 48 (.au bc 1), .o 49 (.load iT false 1), .o 50 (.bin .eql iU (.k (.int .i64 4))), .m 5 jP]) YY
abbrev Y0:AC:= .seq (.run [.o 35 (.au bc 1), .o 36 (.load fq false 1), .o 37 (.bin .eql fA (.k (.int .i64 1))), .m 38 fR, .g 39 38 false (.au bc 1), .g 40 38 false (.load ga false 1), .g 41 38 false (.bin .eql gJ (.k (.int .i64 2))), .o 42 (.pick gl (.k (.bool true)) gK), .m 43 iH, .g 44 43 false (.au bc 1), .g 45 43 false (.load jx false 1), .g 46 43 false (.bin .eql jM (.k (.int .i64 10))), .o 47 (.pick iS (.k (.bool true)) jN), .m 4 jO]) YZ
abbrev Y1:AC:= .seq ahC Y0
abbrev ahN:AC:= .seq (.run [.o 1 (.box aR), .o 2 (.mv (.k (.bool false)))]) Y1
abbrev ahO:AC:= .seq (.run [.o 4 (.mv (.k (.bool false)))]) (.seq (.run [.m 5 bc, .m 6 bh, .g 7 6 true (.mv aR), .d 8 6 true jn [bE], .o 9 (.pick bL b9 (.k (.bool false))), .m 10 bY, .g 11 10 false (.mv bc), .g 12 10 false (.un .not bU), .g 13 10 false (.mv bO), .g 14 13 true (.mv aR), .g 15 13 true (.bin .eql bK (.k (.str []))), .g 16 10 false (.pick bP cq (.k (.bool false))), .o 17 (.pick bF (.k (.bool true)) b6), .m 4 cO]) .ret)
abbrev ahP:AC:= .seq (.run [.o 2 (.box aR), .o 4 (.mv (.k (.bool false)))]) (.seq (.run [.m 5 bc, .m 6 bh, .g 7 6 true (.load cQ true 4), .d 8 6 true oe [bE], .o 9 (.pick bL b9 (.k (.bool false))), .m 10 bY, .g 11 10 false (.mv bc), .g 12 10 false (.un .not bU), .g 13 10 false (.mv bO), .g 14 13 true (.load cQ true 4), .d 15 13 true vD [bK], .g 16 10 false (.pick bP cq (.k (.bool false))), .o 17 (.pick bF (.k (.bool true)) b6), .m 4 cO]) .ret)
abbrev ahQ:AC:= .cond de (.seq (.run [.o 2 (.mv (.k (.bool false)))]) .ret) .skip
abbrev ahR:AC:= .seq (.run [.o 9 (.cu bh bE 6), .o 10 (.load bY true 6), .o 4 (.alloc [(.bool false),(.str []),(.int .i64 0),(.int .i64 0),(.str []),(.slice .full 0 [])]), .op none none (.store c7 bF 6)]) (.seq (.run [.o 11 (.au c7 1), .o 12 (.load bU false 1), .o 13 (.au c7 0), .o 14 (.load bP false 1), .c 15 nW [bO,bK], .o 16 (.un .not cq), .m 17 b6, .g 18 17 false (.au c7 2), .g 19 17 false (.load cH true 4), .g 20 17 false (.au c7 0), .g 21 17 false (.load dc false 1), .g 22 17 false (.un .not dt), .d 23 17 false qa [cZ,dk], .g 24 17 false (.un .not dB), .o 25 (.pick cO (.k (.bool true)) dd)]) ahQ)
abbrev ahS:AC:= .seq (.cond b9 .skip (.exit 0)) (.seq (.block 1 ahR) (.run [.o 26 (.bin .add bE (.k (.int .i64 1))), .m 7 ej]))
abbrev ahT:AC:= .seq (.run [.m 5 aR, .o 6 (.len bh), .o 7 (.mv (.k (.int .i64 0)))]) (.block 0 (.loop (.seq (.run [.o 8 (.bin .lss bE bL)]) ahS)))
abbrev ahU:AC:= .seq ahT (.seq (.run [.o 2 (.mv (.k (.bool true)))]) .ret)
abbrev ahV:AC:= .seq (.run [.o 2 (.mv (.k (.bool false)))]) ahU
abbrev ahW:AC:= .seq (.block 1 (.seq (.run [.o 13 (.cu bY bU 13), .o 14 (.load bP true 13), .o 5 (.alloc [(.int .i64 0),(.int .i64 0),(.slice .full 0 []),(.str []),(.str []),(.int .i64 0),(.int .i64 0),(.str []),(.slice .full 0 []),(.bool false),(.slice .full 0 []),(.slice .full 0 []),(.slice .full 0 [])]), .op none none (.store bh bK 13)]) (.run [.m 15 bI, .o 16 (.load bh true 13), .c 17 lA [b6], .o 18 (.bin .add cq cO), .m 3 cH]))) (.run [.o 19 (.bin .add bU (.k (.int .i64 1))), .m 11 cZ])
abbrev ahX:AC:= .block 0 (.loop (.seq (.run [.o 12 (.bin .lss bU bF)]) (.seq (.cond bO .skip (.exit 0)) ahW)))
abbrev ahY:AC:= .seq (.block 3 (.seq (.run [.o 25 (.cu dt dB 13), .o 26 (.load de true 13), .o 7 (.alloc [(.int .i64 0),(.int .i64 0),(.slice .full 0 []),(.str []),(.str []),(.int .i64 0),(.int .i64 0),(.str []),(.slice .full 0 []),(.bool false),(.slice .full 0 []),(.slice .full 0 []),(.slice .full 0 [])]), .op none none (.store bE ej 13)]) (.run [.m 27 bI, .o 28 (.load bE true 13), .c 29 lA [eI], .o 30 (.bin .add dS eJ), .m 3 fc]))) (.run [.o 31 (.bin .add dB (.k (.int .i64 1))), .m 23 eW])
abbrev ahZ:AC:= .block 2 (.loop (.seq (.run [.o 24 (.bin .lss dB dk)]) (.seq (.cond dd .skip (.exit 2)) ahY)))
abbrev ah0:AC:= .seq (.seq (.run [.o 20 (.au bc 12), .o 21 (.load dc false 1), .o 22 (.len dt), .o 23 (.mv (.k (.int .i64 0)))]) ahZ) (.seq (.run [.m 32 bI, .m 2 fe]) .ret)
abbrev ah1:AC:= .seq (.seq (.run [.o 8 (.au bc 11), .o 9 (.load b9 false 1), .o 10 (.len bY), .o 11 (.mv (.k (.int .i64 0)))]) ahX) ah0
abbrev ah2:AC:= .seq (.run [.o 1 (.box aR), .o 2 (.mv (.k (.int .i64 0)))]) (.seq (.run [.o 3 (.mv (.k (.int .i64 1)))]) ah1)
abbrev ah3:AC:= .cond bh (.seq (.run [.o 2 (.mv (.k (.slice .full 0 [])))]) .ret) .skip
abbrev ah4:AC:= .seq (.seq (.run [.o 3 (.load bc true 4), .c 4 oe [bI], .o 5 (.un .not c7)]) ah3) (.seq (.run [.o 6 (.load bc true 4),(.c 7 gY [bL,(.k (.slice .full 0 []))]), .m 2 bE]) .ret)
abbrev ah5:AC:= .seq (.run [.o 1 (.box aR), .o 2 (.mv (.k (.slice .full 0 [])))]) ah4
abbrev ah6:AC:= .seq (.run [.o 4 (.mv (.k (.bool false)))]) (.seq (.run [.m 5 aR, .m 6 bc, .c 7 fL [bh,bL], .o 8 (.bin .geq bE (.k (.int .i64 0))), .m 4 b9]) .ret)
abbrev ah7:AC:= .seq (.run [.o 2 (.box aR), .o 3 (.mv (.k (.bool false)))]) (.seq (.run [.o 4 (.au cQ 0), .o 5 (.load c7 false 1), .o 6 (.load bc false 1), .o 7 (.bin .eql bh bL), .m 3 bE]) .ret)
abbrev ah8:AC:= .seq (.run [.o 16 (.cu bO bK 17), .o 17 (.load b6 true 17), .o 7 (.alloc [(.int .i64 0),(.int .i64 0),(.slice .full 0 []),(.str []),(.str []),(.int .i64 0),(.int .i64 0),(.str []),(.slice .full 0 []),(.bool false),(.slice .full 0 []),(.slice .full 0 []),(.slice .full 0 []),(.int .i64 0),(.int .i64 0),(.int .i64 0),(.int .i64 0)]), .op none none (.store bE cO 17)]) (.seq (.run [.o 18 (.au bE 0), .o 19 (.au cH 1), .o 20 (.load cZ false 1), .o 21 (.bin .eql dc (.k (.int .i64 4)))]) (.cond dt (.run [.m 22 bh, .o 23 (.au bE 0), .o 24 (.au dB 4), .o 25 (.load dd false 1), .o 26 (.cG [(.str [])] 1 1 [(0,de)]), .o 27 (.app 1 16 dk ej), .m 5 dS]) .skip))
abbrev ah9:AC:= .seq (.cond cq .skip (.exit 0)) (.seq (.block 1 ah8) (.run [.o 28 (.bin .add bK (.k (.int .i64 1))), .m 14 eI]))
abbrev aia:AC:= .seq (.run [.m 8 aR, .m 9 aR, .m 10 bc, .c 11 lN [bY,bF], .c 12 gi [b9,bU], .o 13 (.len bO), .o 14 (.mv (.k (.int .i64 0)))]) (.block 0 (.loop (.seq (.run [.o 15 (.bin .lss bK bP)]) ah9)))
abbrev aib:AC:= .seq (.run [.o 4 (.mv (.k (.slice .full 0 [])))]) (.seq (.run [.o 5 (.mv (.k (.slice .full 0 [])))]) (.seq aia (.seq (.run [.m 29 bh, .c 30 iD [eJ]]) (.seq (.run [.m 31 bh, .c 32 iV [eW], .m 4 fe]) .ret))))
end Go.Abs

/-! Codes4 -/

namespace Go.Abs
abbrev aic:AC:= .block 1 (.seq (.run [.m 10 b9, .m 5 bF]) (.seq (.run [.m 11 bc, .m 12 aR, .m 13 bh, .o 14 (.cu bO bP 5), .o 15 (.load bK true 5),(.iA (some 16) none 11 [cq])]) (.cond b6 (.seq (.run [.m 17 bh, .m 4 cO]) .ret) .skip)))
abbrev aid:AC:= .seq (.cond bY .skip (.exit 0)) (.seq aic (.run [.o 18 (.bin .add b9 (.k (.int .i64 1))), .m 8 cH]))
abbrev aie:AC:= .seq (.run [.m 6 aR, .o 7 (.len bL), .o 8 (.mv (.k (.int .i64 0)))]) (.block 0 (.loop (.seq (.run [.o 9 (.bin .lss b9 bE)]) aid)))
abbrev aif:AC:= .seq (.run [(.o 4 (.mv (.k (.int .i64 (-1)))))]) .ret
abbrev aih:AC:= .seq (.run [.o 4 (.mv (.k (.int .i64 0)))]) (.seq aie aif)
abbrev aii:AC:= .seq (.run [.o 2 (.box aR), .o 3 (.mv (.k (.bool false)))]) (.seq (.run [.o 4 (.au cQ 0), .o 5 (.load c7 false 1), .o 6 (.load bc false 1), .o 7 (.bin .eql bh bL), .m 3 bE]) .ret)
abbrev aij:AC:= .seq (.run [.m 16 aR, .c 17 ez [b6,(.k (.int .i64 3))]]) (.seq (.run [.o 4 (.mv (.k (.str [])))]) .ret)
abbrev aik:AC:= .seq (.run [.m 20 aR, .c 21 ez [dc,(.k (.int .i64 4))]]) (.seq (.run [.o 4 (.mv (.k (.str [])))]) .ret)
abbrev ail:AC:= .seq (.seq (.run [.m 18 bc, .o 19 (.un .not cH)]) (.cond cZ aik .skip)) (.seq (.run [.m 22 aR, .o 23 (.di dk), .o 24 (.au dB 1), .o 25 (.load dd false 1), .o 26 (.bin .add de (.k (.int .i64 1))), .o 27 (.di dk), .o 28 (.au dS 1), .op none none (.store eI ej 1)]) (.seq (.run [.o 29 (.au bh 1), .o 30 (.load eJ false 1), .m 4 fc]) .ret))
abbrev aim:AC:= .seq (.seq (.run [.m 8 aR, .c 9 cB [b9], .o 10 (.un .not bY), .m 11 bF, .g 12 11 false (.au bh 0), .g 13 11 false (.load bO false 1), .g 14 11 false (.bin .neq bP (.k (.int .i64 1))), .o 15 (.pick bU (.k (.bool true)) bK)]) (.cond cq aij .skip)) ail
abbrev ain:AC:= .seq (.run [.o 4 (.mv (.k (.str [])))]) (.seq (.run [.m 6 aR, .c 7 dr [bL], .o 5 (.alloc [(.int .i64 0),(.str []),(.int .i64 0),(.int .i64 0)]), .op none none (.store bh bE 4)]) aim)
abbrev aio:AC:= .seq (.run [.m 4 aR, .m 5 bc, .c 6 dq [c7,bh], .o 7 (.un .not bL)]) (.cond bE (.run [.m 8 aR, .c 9 ez [b9,(.k (.int .i64 3))]]) .skip)
abbrev aip:AC:= .cond dd (.seq (.run [.m 25 aR, .o 26 (.di de), .o 27 (.au ej 1), .o 28 (.load dS false 1), .o 29 (.bin .add eI (.k (.int .i64 1))), .o 30 (.di de), .o 31 (.au fc 1), .op none none (.store eW eJ 1)]) (.seq (.run [.m 32 b9, .m 33 bY, .m 6 fe, .m 7 eZ]) .ret)) .skip
abbrev aiq:AC:= .seq (.seq (.run [.m 15 aR,(.c 16 fl [cq,(.k (.str [125]))]), .m 17 b6, .g 18 17 true (.mv cQ), .g 19 17 true (.mv cH), .g 20 19 false (.mv bY), .g 21 19 false (.len dc), .g 22 19 false (.bin .eql dt (.k (.int .i64 0))), .g 23 17 true (.pick cZ (.k (.bool true)) dk), .o 24 (.pick cO dB (.k (.bool false)))]) aip) (.seq (.run [.m 34 aR, .m 35 bc, .c 36 nj [fw,fq], .o 10 (.alloc [(.int .i64 0),(.int .i64 0),(.slice .full 0 []),(.str []),(.str []),(.int .i64 0),(.int .i64 0),(.str []),(.slice .full 0 []),(.bool false),(.slice .full 0 []),(.slice .full 0 []),(.slice .full 0 [])]), .op none none (.store bF fA 13)]) (.seq (.run [.m 37 bY, .o 38 (.au bF 2), .op none none (.store gl fR 1)]) (.run [.m 39 b9, .o 40 (.load bF true 13), .o 41 (.cG [(.int .i64 0),(.int .i64 0),(.slice .full 0 []),(.str []),(.str []),(.int .i64 0),(.int .i64 0),(.str []),(.slice .full 0 []),(.bool false),(.slice .full 0 []),(.slice .full 0 []),(.slice .full 0 [])] 13 1 [(0,gJ)]), .o 42 (.app 13 208 ga gK), .m 8 iH])))
abbrev air:AC:= .block 0 (.loop (.seq (.seq (.run [.m 11 aR, .c 12 cB [bU]]) (.cond bO .skip (.exit 0))) (.block 1 (.seq (.run [.m 13 aR, .c 14 lY [bP], .m 9 bK]) aiq))))
abbrev ais:AC:= .seq air (.seq (.run [.o 6 (.mv (.k (.slice .full 0 []))), .o 7 (.mv (.k (.slice .full 0 [])))]) .ret)
abbrev ait:AC:= .seq (.run [.o 6 (.mv (.k (.slice .full 0 []))), .o 7 (.mv (.k (.slice .full 0 [])))]) (.seq (.run [.o 8 (.mv (.k (.slice .full 0 [])))]) ais)
abbrev aiu:AC:= .par [.o 15 (.au bc 3), .o 16 (.load cq false 1), .o 17 (.load bh true 4), .c 18 lB [cO], .o 19 (.cG [(.int .i64 0),(.int .i64 0),(.str []),(.slice .full 0 [])] 4 1 [(0,cH)]), .o 20 (.app 4 56 b6 cZ), .o 21 (.au bc 3), .op none none (.store dt dc 1)] [(2,0),(3,0),(0,0),(1,1),(4,0),(5,0),(6,0),(7,0)]
abbrev aiv:AC:= .seq (.block 1 (.seq (.run [.o 13 (.cu bY bU 4), .o 14 (.load bP true 4), .o 5 (.alloc [(.int .i64 0),(.int .i64 0),(.str []),(.slice .full 0 [])]), .op none none (.store bh bK 4)]) aiu)) (.run [.o 22 (.bin .add bU (.k (.int .i64 1))), .m 11 dk])
abbrev aiw:AC:= .block 0 (.loop (.seq (.run [.o 12 (.bin .lss bU bF)]) (.seq (.cond bO .skip (.exit 0)) aiv)))
abbrev aix:AC:= .seq (.seq (.run [.m 9 bI, .o 10 (.len bY), .o 11 (.mv (.k (.int .i64 0)))]) aiw) (.seq (.run [.o 23 (.load bc true 4), .op none none (.store cQ dB 4)]) .ret)
abbrev aiy:AC:= .seq (.run [.o 6 (.au bc 3), .o 7 (.load bL false 1), .m 3 bE]) (.seq (.run [.o 8 (.au bc 3), .op none none (.store b9 (.k (.slice .full 0 [])) 1)]) aix)
abbrev aiz:AC:= .seq (.run [.o 1 (.box aR), .o 2 (.alloc [(.int .i64 0),(.int .i64 0),(.str []),(.slice .full 0 [])])]) aiy
abbrev aiA:AC:= .seq (.run [.o 1 (.box aR), .o 2 (.mv (.k (.bool false)))]) (.seq (.run [.o 3 (.load bc true 4), .c 4 oP [bI,(.k (.int .i64 20))], .o 5 (.bin .leq c7 (.k (.int .i64 20))), .m 6 bh, .g 7 6 true (.load bc true 4), .d 8 6 true oQ [bE], .o 9 (.pick bL b9 (.k (.bool false))), .m 2 bY]) .ret)
abbrev aiB:AC:= .seq (.run [.o 2 (.mv (.k (.bool false)))]) (.seq (.run [.m 3 aR, .o 4 (.bin .geq bI (.k (.int .u8 97))), .m 5 c7, .g 6 5 true (.mv aR), .g 7 5 true (.bin .leq bL (.k (.int .u8 122))), .o 8 (.pick bh bE (.k (.bool false))), .m 2 b9]) .ret)
abbrev aiC:AC:= .seq (.run [.o 2 (.mv (.k (.bool false)))]) (.seq (.run [.m 3 aR, .o 4 (.bin .geq bI (.k (.int .u8 48))), .m 5 c7, .g 6 5 true (.mv aR), .g 7 5 true (.bin .leq bL (.k (.int .u8 57))), .o 8 (.pick bh bE (.k (.bool false))), .m 2 b9]) .ret)
abbrev aiD:AC:= .cond bP (.seq (.run [.o 2 (.mv (.k (.bool true)))]) .ret) .skip
abbrev aiE:AC:= .seq (.block 1 (.seq (.run [.o 9 (.cu bh bE 1), .o 10 (.load bY false 1), .m 4 bF]) (.seq (.run [.m 11 c7, .m 12 aR, .o 13 (.bin .eql bU bO)]) aiD))) (.run [.o 14 (.bin .add bE (.k (.int .i64 1))), .m 7 bK])
abbrev aiF:AC:= .block 0 (.loop (.seq (.run [.o 8 (.bin .lss bE bL)]) (.seq (.cond b9 .skip (.exit 0)) aiE)))
abbrev aiG:AC:= .seq (.seq (.run [.c 5 tF [], .o 6 (.len bh), .o 7 (.mv (.k (.int .i64 0)))]) aiF) (.seq (.run [.o 2 (.mv (.k (.bool false)))]) .ret)
abbrev aiH:AC:= .seq (.run [.o 2 (.mv (.k (.bool false)))]) aiG
abbrev aiI:AC:= .seq (.run [.o 1 (.box aR), .o 2 (.mv (.k (.bool false)))]) (.seq (.run [.o 3 (.au bc 0), .o 4 (.load bI false 1), .o 5 (.bin .eql c7 (.k (.int .i64 0))), .m 6 bh, .g 7 6 true (.au bc 1), .g 8 6 true (.load bE false 1), .g 9 6 true (.bin .eql b9 (.k (.int .i64 0))), .o 10 (.pick bL bY (.k (.bool false))), .m 11 bF, .g 12 11 true (.au bc 2), .g 13 11 true (.load bO false 1), .g 14 11 true (.bin .eql bP (.k (.str []))), .o 15 (.pick bU bK (.k (.bool false))), .m 16 cq, .g 17 16 true (.au bc 3), .g 18 16 true (.load cO false 1), .g 19 16 true (.len cH), .g 20 16 true (.bin .eql cZ (.k (.int .i64 0))), .o 21 (.pick b6 dc (.k (.bool false))), .m 2 dt]) .ret)
abbrev aiJ:AC:= .cond c7 (.seq (.run [.o 5 (.au bc 1), .o 6 (.load bh false 1), .c 7 kn [bL], .m 8 bE, .g 9 8 true (.au bc 2), .g 10 8 true (.load bY true 4), .d 11 8 true q6 [bF], .o 12 (.pick b9 bU (.k (.bool false))), .m 2 bO]) .ret) .skip
abbrev aiK:AC:= .seq (.seq (.run [.o 3 (.au bc 0), .o 4 (.load bI false 1)]) aiJ) (.seq (.run [.o 13 (.au bc 1), .o 14 (.load bP false 1), .o 15 (.bin .eql bK (.k (.str []))), .m 16 cq, .g 17 16 true (.au bc 2), .g 18 16 true (.load cO true 4), .d 19 16 true od [cH], .o 20 (.pick b6 cZ (.k (.bool false))), .m 2 dc]) .ret)
abbrev aiL:AC:= .seq (.run [.o 1 (.box aR), .o 2 (.mv (.k (.bool false)))]) aiK
abbrev aiM:AC:= .seq (.run [.o 1 (.box aR), .o 2 (.mv (.k (.bool false)))]) (.seq (.run [.o 3 (.load bc true 4), .c 4 oR [bI,(.k (.int .i64 20))], .m 2 c7]) .ret)
abbrev aiN:AC:= .seq (.run [.o 1 (.box aR), .o 2 (.mv (.k (.bool false)))]) (.seq (.run [.o 3 (.au bc 0), .o 4 (.load bI false 1), .o 5 (.bin .eql c7 (.k (.int .i64 0))), .m 6 bh, .g 7 6 true (.au bc 1), .g 8 6 true (.load bE false 1), .g 9 6 true (.bin .eql b9 (.k (.int .i64 0))), .o 10 (.pick bL bY (.k (.bool false))), .m 11 bF, .g 12 11 true (.au bc 2), .g 13 11 true (.load bO false 1), .g 14 11 true (.bin .eql bP (.k (.str []))), .o 15 (.pick bU bK (.k (.bool false))), .m 16 cq, .g 17 16 true (.au bc 3), .g 18 16 true (.load cO false 1), .g 19 16 true (.len cH), .g 20 16 true (.bin .eql cZ (.k (.int .i64 0))), .o 21 (.pick b6 dc (.k (.bool false))), .m 2 dt]) .ret)
abbrev aiO:AC:= .seq (.block 1 (.seq (.run [.o 27 (.cu dB de 4), .o 28 (.load dS true 4), .o 6 (.alloc [(.int .i64 0),(.int .i64 0),(.str []),(.slice .full 0 [])]), .op none none (.store bL eI 4)]) (.run [.o 29 (.load bL true 4), .m 30 bc, .c 31 gY [eJ,fc], .m 1 eW]))) (.run [.o 32 (.bin .add de (.k (.int .i64 1))), .m 25 fe])
abbrev aiP:AC:= .block 0 (.loop (.seq (.run [.o 26 (.bin .lss de dd)]) (.seq (.cond ej .skip (.exit 0)) aiO)))
abbrev aiQ:AC:= .seq (.seq (.run [.o 22 (.au cQ 3), .o 23 (.load dk false 1), .o 24 (.len dB), .o 25 (.mv (.k (.int .i64 0)))]) aiP) (.seq (.run [.m 33 bc, .m 4 eZ]) .ret)
abbrev aiR:AC:= .seq (.seq (.run [.o 7 (.au cQ 0), .o 8 (.load bE false 1), .o 9 (.bin .eql b9 (.k (.int .i64 2))), .m 10 bY, .g 11 10 true (.mv bc), .g 12 10 true (.au cQ 2), .g 13 10 true (.load bO false 1), .d 14 10 true bX [bU,bP], .g 15 10 true (.un .not bK), .o 16 (.pick bF cq (.k (.bool false)))]) (.cond b6 (.run [.m 17 bc, .o 18 (.au cQ 2), .o 19 (.load cH false 1), .o 20 (.cG [(.str [])] 1 1 [(0,cZ)]), .o 21 (.app 1 16 cO dc), .m 1 dt]) .skip)) aiQ
abbrev aiS:AC:= .seq (.run [.o 2 (.box aR), .o 4 (.mv (.k (.slice .full 0 [])))]) aiR
abbrev aiT:AC:= .par [.m 4 aR, .c 5 cB [c7], .m 6 bh, .g 7 6 true (.mv aR), .d 8 6 true dr [bE], .g 9 6 true (.rj b9 0 false 1), .g 10 6 true (.bin .eql bY (.k (.int .i64 1))), .o 11 (.pick bL bF (.k (.bool false))), .m 12 bU, .g 13 12 true (.mv aR), .g 14 12 true (.di bP), .g 15 12 true (.au bK 0), .g 16 12 true (.load cq false 1), .g 17 12 true (.mv aR), .g 18 12 true (.di cO), .g 19 12 true (.au cH 1), .g 20 12 true (.load cZ false 1), .g 21 12 true (.bin .add dc (.k (.int .i64 1))), .g 22 12 true (.cu b6 dt 4), .g 23 12 true (.au dk 0), .g 24 12 true (.load dB false 1), .g 25 12 true (.bin .eql dd (.k (.int .i64 4))), .o 26 (.pick bO de (.k (.bool false))), .m 27 ej, .g 28 27 true (.mv aR), .g 29 27 true (.di eI), .g 30 27 true (.au eJ 0), .g 31 27 true (.load fc false 1), .g 32 27 true (.mv aR), .g 33 27 true (.di fe), .g 34 27 true (.au eZ 1), .g 35 27 true (.load fw false 1), .g 36 27 true (.bin .add fq (.k (.int .i64 1))), .g 37 27 true (.cu eW fA 4), .g 38 27 true (.au fR 1), .g 39 27 true (.load gl false 1), .g 40 27 true (.bin .eql ga (.k (.str [58]))), .o 41 (.pick dS gJ (.k (.bool false)))] [(0,0),(1,0),(2,0),(3,0),(4,0),(5,0),(6,0),(7,0),(8,0),(9,0),(10,0),(11,0),(12,0),(13,0),(14,0),(15,0),(16,0),(17,0),(18,0),(19,0),(20,0),(21,0),(22,0),(23,0),(24,0),(25,0),(26,0),(27,0),(28,0),(29,0),(30,0),(31,0),(32,0),(33,0),(34,0),(35,0),(36,0),(37,0)]
abbrev aiU:AC:= .block 1 (.seq (.run [.m 42 bI, .m 43 aR, .c 44 dr [iS], .o 45 (.rj jx 1 false 1), .o 46 (.cG [(.str [])] 1 1 [(0,jM)]), .o 47 (.app 1 16 iH jN), .m 3 jO]) (.run [.m 48 aR, .o 49 (.di iT), .o 50 (.au iU 1), .o 51 (.load jP false 1), .o 52 (.bin .add jQ (.k (.int .i64 2))), .o 53 (.di iT), .o 54 (.au ke 1), .op none none (.store kE kd 1)]))
abbrev aiV:AC:= .block 0 (.loop (.seq (.seq aiT (.cond gK .skip (.exit 0))) aiU))
abbrev aiW:AC:= .seq (.run [.o 2 (.mv (.k (.slice .full 0 [])))]) (.seq (.run [.o 3 (.mv (.k (.slice .full 0 [])))]) (.seq aiV (.seq (.run [.m 55 bI, .m 2 kU]) .ret)))
end Go.Abs

/-! Have4 -/

namespace Go.Abs
open Go.Proofs
theorem qw:Has Tryz.prog fL 19 [(4,none)] aih:=⟨Tryz.f166,by kernel_rfl,by kernel_rfl⟩
theorem wg:Has Tryz.prog kL 8 [(3,none)] aii:=⟨Tryz.f167,by kernel_rfl,by kernel_rfl⟩
theorem wh:Has Tryz.prog eh 31 [(4,none)] ain:=⟨Tryz.f170,by kernel_rfl,by kernel_rfl⟩
theorem wi:Has Tryz.prog cT 10 [] aio:=⟨Tryz.f171,by kernel_rfl,by kernel_rfl⟩
theorem pD:Has Tryz.prog fZ 43 [(6,none),(7,none)] ait:=⟨Tryz.f172,by kernel_rfl,by kernel_rfl⟩
theorem E6:Has Tryz.prog lB 24 [(2,(some (true,4)))] aiz:=⟨Tryz.f173,by kernel_rfl,by kernel_rfl⟩
theorem Bh:Has Tryz.prog od 10 [(2,none)] aiA:=⟨Tryz.f174,by kernel_rfl,by kernel_rfl⟩
theorem Df:Has Tryz.prog qc 9 [(2,none)] aiB:=⟨Tryz.f177,by kernel_rfl,by kernel_rfl⟩
theorem Dg:Has Tryz.prog tD 9 [(2,none)] aiC:=⟨Tryz.f178,by kernel_rfl,by kernel_rfl⟩
theorem E7:Has Tryz.prog vC 15 [(2,none)] aiH:=⟨Tryz.f179,by kernel_rfl,by kernel_rfl⟩
theorem E8:Has Tryz.prog q6 22 [(2,none)] aiI:=⟨Tryz.f180,by kernel_rfl,by kernel_rfl⟩
theorem Hb:Has Tryz.prog xc 21 [(2,none)] aiL:=⟨Tryz.f181,by kernel_rfl,by kernel_rfl⟩
theorem Bi:Has Tryz.prog oe 5 [(2,none)] aiM:=⟨Tryz.f190,by kernel_rfl,by kernel_rfl⟩
theorem E9:Has Tryz.prog vD 22 [(2,none)] aiN:=⟨Tryz.f191,by kernel_rfl,by kernel_rfl⟩
theorem qg:Has Tryz.prog gY 34 [(4,none)] aiS:=⟨Tryz.f192,by kernel_rfl,by kernel_rfl⟩
theorem uh:Has Tryz.prog lY 56 [(2,none)] aiW:=⟨Tryz.f204,by kernel_rfl,by kernel_rfl⟩
end Go.Abs

/-! Codes5 -/

namespace Go.Abs
abbrev aiX:AC:= .cond bF (.seq (.run [.m 11 aR, .c 12 ez [bU,(.k (.int .i64 3))]]) (.seq (.run [.o 13 (.build [(.int .i64 0),(.int .i64 0),(.slice .full 0 []),(.str []),(.str []),(.int .i64 0),(.int .i64 0),(.str []),(.slice .full 0 []),(.bool false),(.slice .full 0 []),(.slice .full 0 []),(.slice .full 0 [])] []), .op none none (.store c7 bP 13)]) .ret)) .skip
abbrev aiY:AC:= .cond eJ (.seq (.run [.m 30 aR, .c 31 ez [fc,(.k (.int .i64 4))]]) (.seq (.run [.o 32 (.build [(.int .i64 0),(.int .i64 0),(.slice .full 0 []),(.str []),(.str []),(.int .i64 0),(.int .i64 0),(.str []),(.slice .full 0 []),(.bool false),(.slice .full 0 []),(.slice .full 0 []),(.slice .full 0 [])] []), .op none none (.store c7 fe 13)]) .ret)) .skip
abbrev aiZ:AC:= .seq (.run [.m 56 aR, .c 57 kM [l6],(.o 58 (.build [(.int .i64 0),(.int .i64 0),(.slice .full 0 []),(.str []),(.str []),(.int .i64 0),(.int .i64 0),(.str []),(.slice .full 0 []),(.bool false),(.slice .full 0 []),(.slice .full 0 []),(.slice .full 0 [])] [(1,(1,(.k (.int .i64 6)))),(5,(4,mF))])), .o 6 (.alloc [(.int .i64 0),(.int .i64 0),(.slice .full 0 []),(.str []),(.str []),(.int .i64 0),(.int .i64 0),(.str []),(.slice .full 0 []),(.bool false),(.slice .full 0 []),(.slice .full 0 []),(.slice .full 0 [])]), .op none none (.store bL l7 13)]) (.seq (.run [.m 59 aR, .m 60 bc, .c 61 iG [kF,nX], .o 62 (.au bL 11), .op none none (.store pe pd 1)]) (.seq (.run [.o 63 (.load bL true 13), .op none none (.store c7 pf 13)]) .ret))
abbrev ai0:AC:= .cond iU (.seq (.run [.m 51 aR, .m 52 bc, .c 53 l5 [jQ,kd], .op none none (.store c7 ke 13)]) .ret) (.seq (.run [.o 55 (.bin .eql iT (.k (.str [119,104,105,108,101]))), .m 54 kU]) (.cond kE aiZ .skip))
abbrev ai1:AC:= .block 0 (.seq (.run [.o 50 (.bin .eql iT (.k (.str [105,102]))), .m 49 jP]) ai0)
abbrev ai2:AC:= .seq (.run [.m 64 aR, .o 65 (.au bh 1), .o 66 (.load sb false 1), .c 67 mE [qd,tH], .o 7 (.alloc [(.int .i64 0),(.int .i64 0),(.slice .full 0 []),(.str []),(.str []),(.int .i64 0),(.int .i64 0),(.str []),(.slice .full 0 []),(.bool false),(.slice .full 0 []),(.slice .full 0 []),(.slice .full 0 [])]), .op none none (.store bE sc 13)]) (.seq (.run [.m 68 aR,(.c 69 cT [sd,(.k (.str [59]))])]) (.seq (.run [.o 70 (.load bE true 13), .op none none (.store c7 tJ 13)]) .ret))
abbrev ai3:AC:= .seq (.seq (.run [.o 35 (.au bh 0), .o 36 (.load fq false 1), .o 37 (.bin .eql fA (.k (.int .i64 1)))]) (.cond fR (.seq (.run [.m 38 aR, .c 39 mD [gl], .op none none (.store c7 ga 13)]) .ret) .skip)) (.seq (.run [.m 40 aR, .o 41 (.di gJ), .o 42 (.au gK 1), .o 43 (.load iH false 1), .o 44 (.bin .add iS (.k (.int .i64 1))), .o 45 (.di gJ), .o 46 (.au jM 1), .op none none (.store jN jx 1)]) (.seq (.seq (.run [.o 47 (.au bh 1), .o 48 (.load jO false 1)]) ai1) ai2))
abbrev ai4:AC:= .seq (.seq (.run [.m 21 aR, .o 22 (.di dt), .o 23 (.au dk 4), .o 24 (.load dB false 1), .o 25 (.bin .gtr dd (.k (.int .i64 200))), .m 26 de, .g 27 26 false (.mv bc), .g 28 26 false (.bin .gtr dS (.k (.int .i64 12))), .o 29 (.pick ej (.k (.bool true)) eI)]) aiY) (.seq (.run [.m 33 aR, .c 34 dr [eZ], .o 5 (.alloc [(.int .i64 0),(.str []),(.int .i64 0),(.int .i64 0)]), .op none none (.store bh fw 4)]) ai3)
abbrev ai5:AC:= .seq (.seq (.run [.m 8 aR, .c 9 lZ [b9], .o 10 (.un .not bY)]) aiX) (.seq (.run [.m 14 aR, .o 15 (.di bK), .o 16 (.au cq 4), .o 17 (.load b6 false 1), .o 18 (.bin .add cO (.k (.int .i64 1))), .o 19 (.di bK), .o 20 (.au cZ 4), .op none none (.store dc cH 1)]) ai4)
abbrev ai6:AC:= .seq (.run [.o 4 (.alloc [(.int .i64 0),(.int .i64 0),(.slice .full 0 []),(.str []),(.str []),(.int .i64 0),(.int .i64 0),(.str []),(.slice .full 0 []),(.bool false),(.slice .full 0 []),(.slice .full 0 []),(.slice .full 0 [])])]) ai5
abbrev ai7:AC:= .cond bY (.seq (.run [.o 4 (.mv (.k (.int .i64 1)))]) .ret) .skip
abbrev ai8:AC:= .block 1 (.seq (.run [.o 22 (.au cQ 3), .o 23 (.load dk false 1), .m 24 bL, .o 25 (.cu dB dd 4), .o 26 (.load de true 4), .m 27 bc, .o 28 (.bin .sub dS (.k (.int .i64 1))), .c 29 oP [ej,eI], .m 7 eJ]) (.seq (.run [.m 30 bE, .m 31 bh, .o 32 (.bin .gtr fc eW)]) (.cond fe (.run [.m 33 bE, .m 5 eZ]) .skip)))
abbrev ai9:AC:= .seq (.seq (.run [.m 10 bL, .o 11 (.au cQ 3), .o 12 (.load bU false 1), .o 13 (.len bO), .o 14 (.bin .lss bF bP), .m 15 bK, .g 16 15 true (.mv bh), .g 17 15 true (.mv bc), .g 18 15 true (.bin .lss b6 cO), .o 19 (.pick cq cH (.k (.bool false)))]) (.cond cZ .skip (.exit 0))) (.seq ai8 (.run [.m 20 bL, .o 21 (.bin .add dc (.k (.int .i64 1))), .m 6 dt]))
abbrev aja:AC:= .seq (.seq (.run [.o 6 (.mv (.k (.int .i64 0)))]) (.block 0 (.loop ai9))) (.seq (.run [.m 34 bh, .o 35 (.bin .add fw (.k (.int .i64 1))), .m 4 fq]) .ret)
abbrev ajb:AC:= .seq (.seq (.run [.m 8 bc, .o 9 (.bin .eql b9 (.k (.int .i64 0)))]) ai7) (.seq (.run [.o 5 (.mv (.k (.int .i64 0)))]) aja)
abbrev ajc:AC:= .seq (.run [.o 2 (.box aR), .o 4 (.mv (.k (.int .i64 0)))]) ajb
abbrev ajd:AC:= .par [.o 4 (.au bc 0), .o 5 (.load c7 false 1), .c 6 tG [bh], .o 7 (.au bc 3), .o 8 (.load bE false 1), .o 9 (.len b9), .o 10 (.bin .neq bL bY), .m 11 bF, .g 12 11 false (.au bc 0), .g 13 11 false (.load bO false 1), .g 14 11 false (.bin .neq bP (.k (.int .i64 1))), .g 15 11 false (.mv bK), .g 16 15 true (.au bc 1), .g 17 15 true (.load b6 false 1), .g 18 15 true (.bin .neq cO (.k (.int .i64 0))), .g 19 11 false (.pick cq cH (.k (.bool false))), .o 20 (.pick bU (.k (.bool true)) cZ), .m 21 dc, .g 22 21 false (.au bc 1), .g 23 21 false (.load dk false 1), .g 24 21 false (.bin .lss dB (.k (.int .i64 0))), .o 25 (.pick dt (.k (.bool true)) dd), .m 26 de, .g 27 26 false (.au bc 0), .g 28 26 false (.load dS false 1), .g 29 26 false (.bin .eql eI (.k (.int .i64 2))), .g 30 26 false (.au bc 2), .g 31 26 false (.load fc false 1), .g 32 26 false (.bin .neq eW (.k (.str []))), .g 33 26 false (.As true eJ fe), .o 34 (.pick ej (.k (.bool true)) eZ), .m 35 fw, .g 36 35 false (.au bc 2), .g 37 35 false (.load fA false 1), .g 38 35 false (.bin .neq fR (.k (.str []))), .g 39 35 false (.mv gl), .g 40 39 true (.au bc 2), .g 41 39 true (.load gJ false 1), .d 42 39 true kn [gK], .g 43 39 true (.un .not iH), .g 44 35 false (.pick ga iS (.k (.bool false))), .o 45 (.pick fq (.k (.bool true)) jx)] [(0,0),(1,0),(2,0),(3,0),(4,1),(5,0),(6,0),(7,0),(8,0),(9,0),(10,0),(11,0),(12,0),(13,0),(14,0),(15,0),(16,0),(17,0),(18,0),(19,0),(20,0),(21,0),(22,0),(23,0),(24,0),(25,0),(26,0),(27,0),(28,0),(29,0),(30,0),(31,0),(32,0),(33,0),(34,0),(35,0),(36,0),(37,0),(38,0),(39,0),(40,0),(41,0)]
abbrev aje:AC:= .cond jM (.seq (.run [.o 2 (.mv (.k (.bool false)))]) .ret) .skip
abbrev ajf:AC:= .cond l7 (.seq (.run [.o 2 (.mv (.k (.bool false)))]) .ret) .skip
abbrev ajg:AC:= .seq (.block 1 (.seq (.run [.m 51 iU, .m 3 jQ]) (.seq (.run [.o 52 (.au bc 3), .o 53 (.load kd false 1), .m 54 bI, .o 55 (.cu ke kE 4), .o 56 (.load kU true 4), .c 57 oQ [l6], .o 58 (.un .not mF)]) ajf))) (.run [.o 59 (.bin .add iU (.k (.int .i64 1))), .m 49 kF])
abbrev ajh:AC:= .block 0 (.loop (.seq (.run [.o 50 (.bin .lss iU iT)]) (.seq (.cond jP .skip (.exit 0)) ajg)))
abbrev aji:AC:= .seq (.seq (.run [.o 46 (.au bc 3), .o 47 (.load jN false 1), .o 48 (.len jO), .o 49 (.mv (.k (.int .i64 0)))]) ajh) (.seq (.run [.o 2 (.mv (.k (.bool true)))]) .ret)
abbrev ajj:AC:= .seq (.run [.o 1 (.box aR), .o 2 (.mv (.k (.bool false)))]) (.seq (.seq ajd aje) aji)
abbrev ajk:AC:= .seq (.run [(.o 1 (.cG [(.str [])] 1 13 [(0,(.k (.str [103,108,111,98,97,108]))),(1,(.k (.str [112,114,111,99]))),(2,(.k (.str [118,97,114]))),(3,(.k (.str [114,101,102]))),(4,(.k (.str [105,102]))),(5,(.k (.str [101,108,115,101]))),(6,(.k (.str [119,104,105,108,101]))),(7,(.k (.str [98,114,101,97,107]))),(8,(.k (.str [99,111,110,116,105,110,117,101]))),(9,(.k (.str [114,101,116,117,114,110]))),(10,(.k (.str [103,111,116,111]))),(11,(.k (.str [114,101,97,100]))),(12,(.k (.str [112,114,105,110,116])))])), .m 0 bc]) .ret
abbrev ajl:AC:= .seq (.run [.o 0 (.mv (.k (.slice .full 0 [])))]) ajk
abbrev ajm:AC:= .cond cO (.seq (.run [.o 2 (.mv (.k (.int .i64 2)))]) .ret) .skip
abbrev ajn:AC:= .cond bF (.seq (.run [.o 2 (.mv (.k (.int .i64 1)))]) .ret) (.seq (.run [.m 18 aR, .o 19 (.bin .geq cH (.k (.int .i64 5))), .m 20 cZ, .g 21 20 true (.mv aR), .g 22 20 true (.bin .leq dt (.k (.int .i64 17))), .o 23 (.pick dc dk (.k (.bool false))), .m 17 dB]) ajm)
abbrev ajo:AC:= .cond bI (.seq (.run [.o 2 (.mv (.k (.int .i64 0)))]) .ret) (.seq (.run [.m 11 aR, .o 12 (.bin .eql bU (.k (.int .i64 3))), .m 13 bO, .g 14 13 false (.mv aR), .g 15 13 false (.bin .eql bK (.k (.int .i64 4))), .o 16 (.pick bP (.k (.bool true)) cq), .m 10 b6]) ajn)
abbrev ajp:AC:= .block 0 (.seq (.run [.m 4 aR, .o 5 (.bin .eql c7 (.k (.int .i64 1))), .m 6 bh, .g 7 6 false (.mv aR), .g 8 6 false (.bin .eql bE (.k (.int .i64 2))), .o 9 (.pick bL (.k (.bool true)) b9), .m 3 bY]) ajo)
abbrev ajq:AC:= .seq (.run [(.o 2 (.mv (.k (.int .i64 (-1)))))]) .ret
abbrev ajr:AC:= .seq (.run [.o 2 (.mv (.k (.int .i64 0)))]) (.seq ajp ajq)
abbrev ajs:AC:= .par [.m 7 bc, .o 8 (.bin .lss bE (.k (.int .i64 1))), .m 9 b9, .g 10 9 false (.au cQ 3), .g 11 9 false (.load bF false 1), .g 12 9 false (.len bU), .g 13 9 false (.au cQ 0), .g 14 9 false (.load bP false 1), .d 15 9 false vE [bK], .g 16 9 false (.bin .neq bO cq), .o 17 (.pick bY (.k (.bool true)) b6)] [(0,0),(1,0),(2,0),(6,0),(7,0),(8,0),(3,0),(4,1),(5,0),(9,0),(10,0)]
abbrev ajt:AC:= .cond cO (.seq (.run [.o 4 (.mv (.k (.bool false)))]) .ret) .skip
abbrev aju:AC:= .cond fc (.seq (.run [.o 32 (.au cQ 1), .o 33 (.load fe false 1), .o 34 (.bin .eql eZ (.k (.int .i64 0))), .m 35 fw, .g 36 35 true (.au cQ 2), .g 37 35 true (.load fA false 1), .d 38 35 true jn [fR], .o 39 (.pick fq gl (.k (.bool false))), .m 4 ga]) .ret) .skip
abbrev ajv:AC:= .cond dc (.seq (.run [.o 22 (.au cQ 1), .o 23 (.load dk false 1), .o 24 (.bin .geq dB (.k (.int .i64 0))), .m 25 dd, .g 26 25 true (.au cQ 2), .g 27 25 true (.load ej false 1), .g 28 25 true (.bin .eql dS (.k (.str []))), .o 29 (.pick de eI (.k (.bool false))), .m 4 eJ]) .ret) (.seq (.run [.o 31 (.bin .eql cZ (.k (.int .i64 2))), .m 30 eW]) aju)
abbrev ajw:AC:= .block 0 (.seq (.run [.o 21 (.bin .eql cZ (.k (.int .i64 1))), .m 20 dt]) ajv)
abbrev ajx:AC:= .cond jO (.seq (.run [.o 4 (.mv (.k (.bool false)))]) .ret) .skip
abbrev ajy:AC:= .cond kF (.seq (.run [.o 4 (.mv (.k (.bool false)))]) .ret) .skip
abbrev ajz:AC:= .seq (.run [.o 53 (.cu iU jQ 4), .o 54 (.load ke true 4), .o 6 (.alloc [(.int .i64 0),(.int .i64 0),(.str []),(.slice .full 0 [])]), .op none none (.store bL kE 4)]) (.seq (.run [.o 55 (.load bL true 4), .m 56 bc, .o 57 (.bin .sub l6 (.k (.int .i64 1))), .c 58 oR [kU,mF], .o 59 (.un .not l7)]) ajy)
abbrev ajA:AC:= .seq (.cond kd .skip (.exit 1)) (.seq (.block 2 ajz) (.run [.o 60 (.bin .add jQ (.k (.int .i64 1))), .m 51 nX]))
abbrev ajB:AC:= .seq (.run [.o 48 (.au cQ 3), .o 49 (.load iT false 1), .o 50 (.len iU), .o 51 (.mv (.k (.int .i64 0)))]) (.block 1 (.loop (.seq (.run [.o 52 (.bin .lss jQ jP)]) ajA)))
abbrev ajC:AC:= .seq ajB (.seq (.run [.o 4 (.mv (.k (.bool true)))]) .ret)
abbrev ajD:AC:= .seq (.seq (.run [.o 40 (.au cQ 1), .o 41 (.load gJ false 1), .o 42 (.bin .neq gK (.k (.int .i64 0))), .m 43 iH, .g 44 43 false (.au cQ 2), .g 45 43 false (.load jx false 1), .g 46 43 false (.bin .neq jM (.k (.str []))), .o 47 (.pick iS (.k (.bool true)) jN)]) ajx) ajC
abbrev ajE:AC:= .seq (.run [.o 2 (.box aR), .o 4 (.mv (.k (.bool false)))]) (.seq (.seq ajs ajt) (.seq (.seq (.run [.o 18 (.au cQ 0), .o 19 (.load cH false 1)]) ajw) ajD))
abbrev ajF:AC:= .cond b9 (.seq (.run [.o 2 (.mv (.k (.bool true)))]) .ret) .skip
abbrev ajG:AC:= .cond bU (.seq (.run [.o 2 (.mv (.k (.bool false)))]) .ret) .skip
abbrev ajH:AC:= .seq (.run [.o 21 (.bin .eql bP (.k (.str [114,101,97,100]))), .m 14 dt]) (.cond bK .skip (.run [.o 22 (.bin .eql bP (.k (.str [112,114,105,110,116]))), .m 14 dk]))
abbrev ajI:AC:= .cond bK .skip (.seq (.run [.o 20 (.bin .eql bP (.k (.str [103,111,116,111]))), .m 14 dc]) (.cond bK .skip ajH))
abbrev ajJ:AC:= .cond bK .skip (.seq (.run [.o 19 (.bin .eql bP (.k (.str [114,101,116,117,114,110]))), .m 14 cZ]) ajI)
abbrev ajK:AC:= .cond bK .skip (.seq (.run [.o 18 (.bin .eql bP (.k (.str [99,111,110,116,105,110,117,101]))), .m 14 cH]) ajJ)
abbrev ajL:AC:= .cond bK .skip (.seq (.run [.o 17 (.bin .eql bP (.k (.str [98,114,101,97,107]))), .m 14 cO]) ajK)
abbrev ajM:AC:= .cond bK .skip (.seq (.run [.o 16 (.bin .eql bP (.k (.str [119,104,105,108,101]))), .m 14 b6]) ajL)
abbrev ajN:AC:= .cond bK (.seq (.run [.o 2 (.mv (.k (.bool true)))]) .ret) .skip
abbrev ajO:AC:= .seq (.seq (.run [.o 15 (.bin .eql bP (.k (.str [105,102]))), .m 14 cq]) ajM) ajN
abbrev ajP:AC:= .seq (.seq (.run [.o 12 (.au bI 1), .o 13 (.load bO false 1)]) (.block 0 ajO)) (.seq (.run [.o 2 (.mv (.k (.bool false)))]) .ret)
abbrev ajQ:AC:= .seq (.seq (.run [.o 9 (.au bI 0), .o 10 (.load bY false 1), .o 11 (.bin .neq bF (.k (.int .i64 3)))]) ajG) ajP
abbrev ajR:AC:= .seq (.seq (.run [.o 6 (.au bI 0), .o 7 (.load bL false 1), .o 8 (.bin .eql bE (.k (.int .i64 1)))]) ajF) ajQ
abbrev ajS:AC:= .seq (.run [.o 2 (.mv (.k (.bool false)))]) (.seq (.run [.m 4 aR, .c 5 dr [c7], .o 3 (.alloc [(.int .i64 0),(.str []),(.int .i64 0),(.int .i64 0)]), .op none none (.store bI bh 4)]) ajR)
abbrev ajT:AC:= .cond b9 (.seq (.run [.m 9 aR, .m 10 bI,(.c 11 kN [bY,(.k (.str [])),bF]), .op none none (.store cQ bU 13)]) .ret) .skip
abbrev ajU:AC:= .par [.m 14 aR, .c 15 cB [bK], .m 16 cq, .g 17 16 true (.mv aR), .d 18 16 true dr [cO], .g 19 16 true (.rj cH 0 false 1), .g 20 16 true (.bin .eql cZ (.k (.int .i64 1))), .o 21 (.pick b6 dc (.k (.bool false))), .m 22 dt, .g 23 22 true (.mv aR), .g 24 22 true (.di dB), .g 25 22 true (.au dd 0), .g 26 22 true (.load de false 1), .g 27 22 true (.mv aR), .g 28 22 true (.di dS), .g 29 22 true (.au eI 1), .g 30 22 true (.load eJ false 1), .g 31 22 true (.bin .add fc (.k (.int .i64 1))), .g 32 22 true (.cu ej eW 4), .g 33 22 true (.au fe 0), .g 34 22 true (.load eZ false 1), .g 35 22 true (.bin .eql fw (.k (.int .i64 4))), .o 36 (.pick dk fq (.k (.bool false))), .m 37 fA, .g 38 37 true (.mv aR), .g 39 37 true (.di gl), .g 40 37 true (.au ga 0), .g 41 37 true (.load gJ false 1), .g 42 37 true (.mv aR), .g 43 37 true (.di iH), .g 44 37 true (.au iS 1), .g 45 37 true (.load jx false 1), .g 46 37 true (.bin .add jM (.k (.int .i64 1))), .g 47 37 true (.cu gK jN 4), .g 48 37 true (.au jO 1), .g 49 37 true (.load iT false 1), .g 50 37 true (.bin .eql iU (.k (.str [40]))), .o 51 (.pick fR jP (.k (.bool false)))] [(0,0),(1,0),(2,0),(3,0),(4,0),(5,0),(6,0),(7,0),(8,0),(9,0),(10,0),(11,0),(12,0),(13,0),(14,0),(15,0),(16,0),(17,0),(18,0),(19,0),(20,0),(21,0),(22,0),(23,0),(24,0),(25,0),(26,0),(27,0),(28,0),(29,0),(30,0),(31,0),(32,0),(33,0),(34,0),(35,0),(36,0),(37,0)]
abbrev ajV:AC:= .seq ajU (.cond jQ (.seq (.run [.m 52 aR, .m 53 bI, .m 54 aR, .c 55 eh [kE,(.k (.bool true))], .c 56 kN [kd,ke,kU], .op none none (.store cQ l6 13)]) .ret) .skip)
abbrev ajW:AC:= .seq (.run [.m 57 bI, .m 58 aR, .c 59 fQ [l7],(.o 60 (.build [(.int .i64 0),(.int .i64 0),(.slice .full 0 []),(.str []),(.str []),(.int .i64 0),(.int .i64 0),(.str []),(.slice .full 0 []),(.bool false),(.slice .full 0 []),(.slice .full 0 []),(.slice .full 0 [])] [(1,(1,(.k (.int .i64 1)))),(3,(1,mF)),(5,(4,kF))])), .o 4 (.alloc [(.int .i64 0),(.int .i64 0),(.slice .full 0 []),(.str []),(.str []),(.int .i64 0),(.int .i64 0),(.str []),(.slice .full 0 []),(.bool false),(.slice .full 0 []),(.slice .full 0 []),(.slice .full 0 [])]), .op none none (.store c7 nX 13)]) (.seq (.run [.m 61 aR,(.c 62 cT [pd,(.k (.str [59]))])]) (.seq (.run [.o 63 (.load c7 true 13), .op none none (.store cQ pf 13)]) .ret))
abbrev ajX:AC:= .seq (.seq (.run [.m 7 aR,(.c 8 fl [bE,(.k (.str [40]))])]) ajT) (.seq (.run [.m 12 aR,(.c 13 cT [bO,(.k (.str [61]))])]) (.seq ajV ajW))
abbrev ajY:AC:= .seq (.run [.o 2 (.alloc [(.int .i64 0),(.int .i64 0),(.slice .full 0 []),(.str []),(.str []),(.int .i64 0),(.int .i64 0),(.str []),(.slice .full 0 []),(.bool false),(.slice .full 0 []),(.slice .full 0 []),(.slice .full 0 [])])]) (.seq (.run [.m 5 aR, .c 6 eh [bh,(.k (.bool true))], .m 3 bL]) ajX)
abbrev ajZ:AC:= .seq (.seq (.run [.m 13 aR,(.c 14 dq [bP,(.k (.str [101,108,115,101]))])]) (.cond bK (.run [.m 15 aR, .m 16 bc, .c 17 iG [cq,b6], .o 18 (.au bh 12), .op none none (.store cH cO 1)]) .skip)) (.seq (.run [.o 19 (.load bh true 13), .op none none (.store c7 cZ 13)]) .ret)
abbrev aj0:AC:= .seq (.run [.m 6 aR, .c 7 kM [bL],(.o 8 (.build [(.int .i64 0),(.int .i64 0),(.slice .full 0 []),(.str []),(.str []),(.int .i64 0),(.int .i64 0),(.str []),(.slice .full 0 []),(.bool false),(.slice .full 0 []),(.slice .full 0 []),(.slice .full 0 [])] [(1,(1,(.k (.int .i64 5)))),(5,(4,bE))])), .o 5 (.alloc [(.int .i64 0),(.int .i64 0),(.slice .full 0 []),(.str []),(.str []),(.int .i64 0),(.int .i64 0),(.str []),(.slice .full 0 []),(.bool false),(.slice .full 0 []),(.slice .full 0 []),(.slice .full 0 [])]), .op none none (.store bh b9 13)]) (.seq (.run [.m 9 aR, .m 10 bc, .c 11 iG [bY,bF], .o 12 (.au bh 11), .op none none (.store bO bU 1)]) ajZ)
abbrev aj1:AC:= .seq (.run [.o 4 (.alloc [(.int .i64 0),(.int .i64 0),(.slice .full 0 []),(.str []),(.str []),(.int .i64 0),(.int .i64 0),(.str []),(.slice .full 0 []),(.bool false),(.slice .full 0 []),(.slice .full 0 []),(.slice .full 0 [])])]) aj0
abbrev aj2:AC:= .seq (.run [.m 6 aR, .c 7 fQ [bL], .o 3 (.alloc [(.int .i64 0),(.int .i64 0),(.str []),(.slice .full 0 [])]), .op none none (.store bI bE 4)]) (.seq (.run [.m 8 aR,(.c 9 cT [b9,(.k (.str [41]))])]) (.seq (.run [.o 10 (.load bI true 4), .op none none (.store cQ bF 4)]) .ret))
abbrev aj3:AC:= .seq (.run [.o 2 (.alloc [(.int .i64 0),(.int .i64 0),(.str []),(.slice .full 0 [])])]) (.seq (.run [.m 4 aR,(.c 5 cT [c7,(.k (.str [40]))])]) aj2)
abbrev aj4:AC:= .seq (.run [.m 7 aR,(.c 8 cT [bE,(.k (.str [123]))])]) (.seq (.run [.m 10 aR, .m 11 bc, .o 12 (.bin .add bU (.k (.int .i64 1))), .c 13 fZ [bF,bO,(.k (.bool false))], .m 9 bP, .o 14 (.ext bY 0), .o 15 (.ext bY 1), .m 5 bK, .m 6 cq]) (.seq (.run [.m 16 bh, .m 4 b6]) .ret))
abbrev aj5:AC:= .seq (.run [.o 4 (.mv (.k (.slice .full 0 [])))]) aj4
abbrev aj6:AC:= .seq (.run [.m 16 aR,(.c 17 fl [b6,(.k (.str [59]))]), .o 18 (.un .not cO)]) (.cond cH (.run [.m 19 aR, .c 20 fQ [cZ], .o 21 (.au bh 9), .op none none (.store dt (.k (.bool true)) 1), .o 22 (.au bh 5), .op none none (.store dk dc 4)]) .skip)
abbrev aj7:AC:= .seq (.run [.o 36 (.bin .eql bL (.k (.str [112,114,105,110,116]))), .m 35 fA]) (.cond fq (.run [.m 37 aR, .c 38 fQ [fR], .o 39 (.au bh 1), .op none none (.store ga (.k (.int .i64 3)) 1), .o 40 (.au bh 5), .op none none (.store gJ gl 4)]) .skip)
abbrev aj8:AC:= .seq (.run [.o 30 (.bin .eql bL (.k (.str [114,101,97,100]))), .m 29 fc]) (.cond eJ (.run [.m 31 aR, .c 32 eh [eW,(.k (.bool true))], .o 33 (.au bh 1), .op none none (.store eZ (.k (.int .i64 2)) 1), .o 34 (.au bh 3), .op none none (.store fw fe 1)]) aj7)
abbrev aj9:AC:= .seq (.run [.o 24 (.bin .eql bL (.k (.str [103,111,116,111]))), .m 23 dd]) (.cond dB (.run [.m 25 aR, .c 26 eh [de,(.k (.bool true))], .o 27 (.au bh 1), .op none none (.store dS (.k (.int .i64 10)) 1), .o 28 (.au bh 3), .op none none (.store eI ej 1)]) aj8)
abbrev aka:AC:= .cond bP (.seq (.run [.o 15 (.au bh 1), .op none none (.store cq (.k (.int .i64 9)) 1)]) aj6) aj9
abbrev akb:AC:= .cond bF (.run [.o 12 (.au bh 1), .op none none (.store bO (.k (.int .i64 8)) 1)]) (.seq (.run [.o 14 (.bin .eql bL (.k (.str [114,101,116,117,114,110]))), .m 13 bK]) aka)
abbrev akc:AC:= .cond bE (.run [.o 9 (.au bh 1), .op none none (.store bY (.k (.int .i64 7)) 1)]) (.seq (.run [.o 11 (.bin .eql bL (.k (.str [99,111,110,116,105,110,117,101]))), .m 10 bU]) akb)
abbrev akd:AC:= .block 0 (.seq (.run [.o 8 (.bin .eql bL (.k (.str [98,114,101,97,107]))), .m 7 b9]) akc)
abbrev ake:AC:= .seq (.run [.o 4 (.alloc [(.int .i64 0),(.int .i64 0),(.slice .full 0 []),(.str []),(.str []),(.int .i64 0),(.int .i64 0),(.str []),(.slice .full 0 []),(.bool false),(.slice .full 0 []),(.slice .full 0 []),(.slice .full 0 [])])]) (.seq (.run [.o 5 (.alloc [(.int .i64 0),(.int .i64 0),(.slice .full 0 []),(.str []),(.str []),(.int .i64 0),(.int .i64 0),(.str []),(.slice .full 0 []),(.bool false),(.slice .full 0 []),(.slice .full 0 []),(.slice .full 0 [])])]) (.seq (.seq (.run [.m 6 bc]) akd) (.seq (.run [.o 41 (.load bh true 13), .op none none (.store c7 gK 13)]) .ret)))
abbrev akf:AC:= .cond cO (.seq (.run [.o 2 (.mv (.k (.int .i64 2)))]) .ret) .skip
abbrev akg:AC:= .cond bF (.seq (.run [.o 2 (.mv (.k (.int .i64 1)))]) .ret) (.seq (.run [.m 18 aR, .o 19 (.bin .geq cH (.k (.int .i64 5))), .m 20 cZ, .g 21 20 true (.mv aR), .g 22 20 true (.bin .leq dt (.k (.int .i64 17))), .o 23 (.pick dc dk (.k (.bool false))), .m 17 dB]) akf)
abbrev akh:AC:= .cond bI (.seq (.run [.o 2 (.mv (.k (.int .i64 0)))]) .ret) (.seq (.run [.m 11 aR, .o 12 (.bin .eql bU (.k (.int .i64 3))), .m 13 bO, .g 14 13 false (.mv aR), .g 15 13 false (.bin .eql bK (.k (.int .i64 4))), .o 16 (.pick bP (.k (.bool true)) cq), .m 10 b6]) akg)
abbrev aki:AC:= .block 0 (.seq (.run [.m 4 aR, .o 5 (.bin .eql c7 (.k (.int .i64 1))), .m 6 bh, .g 7 6 false (.mv aR), .g 8 6 false (.bin .eql bE (.k (.int .i64 2))), .o 9 (.pick bL (.k (.bool true)) b9), .m 3 bY]) akh)
abbrev akj:AC:= .seq (.run [(.o 2 (.mv (.k (.int .i64 (-1)))))]) .ret
abbrev akk:AC:= .seq (.run [.o 2 (.mv (.k (.int .i64 0)))]) (.seq aki akj)
abbrev akl:AC:= .par [.o 24 (.au bE 10), .o 25 (.load dd false 1), .m 26 aR, .c 27 eh [ej,(.k (.bool true))],(.o 28 (.build [(.bool false),(.str []),(.int .i64 0),(.int .i64 0),(.str []),(.slice .full 0 [])] [(0,(1,(.k (.bool true)))),(1,(1,dS))])), .o 29 (.cG [(.bool false),(.str []),(.int .i64 0),(.int .i64 0),(.str []),(.slice .full 0 [])] 6 1 [(0,eI)]), .o 30 (.app 6 80 de eJ), .o 31 (.au bE 10), .op none none (.store eW fc 1)] [(2,0),(3,0),(0,0),(1,1),(4,0),(5,0),(6,0),(7,0),(8,0)]
abbrev akm:AC:= .par [.o 32 (.au bE 10), .o 33 (.load fe false 1), .m 34 aR, .c 35 fQ [fw], .o 36 (.build [(.bool false),(.str []),(.int .i64 0),(.int .i64 0),(.str []),(.slice .full 0 [])] [(2,(4,fq))]), .o 37 (.cG [(.bool false),(.str []),(.int .i64 0),(.int .i64 0),(.str []),(.slice .full 0 [])] 6 1 [(0,fA)]), .o 38 (.app 6 80 eZ fR), .o 39 (.au bE 10), .op none none (.store ga gl 1)] [(2,0),(3,0),(0,0),(1,1),(4,0),(5,0),(6,0),(7,0),(8,0)]
abbrev akn:AC:= .seq (.seq (.run [.m 22 aR,(.c 23 dq [dk,(.k (.str [114,101,102]))])]) (.cond dB akl akm)) (.seq (.run [.m 40 aR,(.c 41 dq [gJ,(.k (.str [44]))]), .o 42 (.un .not gK)]) (.cond iH (.exit 0) .skip))
abbrev ako:AC:= .block 0 (.loop (.seq (.seq (.run [.m 20 aR, .c 21 cB [dc]]) (.cond dt .skip (.exit 0))) (.block 1 akn)))
abbrev akp:AC:= .seq (.run [.m 43 aR,(.c 44 cT [iS,(.k (.str [41]))])]) (.seq (.run [.m 45 aR,(.c 46 cT [jM,(.k (.str [59]))])]) (.seq (.run [.o 47 (.load bE true 13), .op none none (.store bL jO 13)]) .ret))
abbrev akq:AC:= .seq (.seq (.run [.m 13 aR, .c 14 cB [bP], .m 15 bK, .g 16 15 true (.mv aR),(.d 17 15 true fl [b6,(.k (.str [41]))]), .g 18 15 true (.un .not cO), .o 19 (.pick cq cH (.k (.bool false)))]) (.cond cZ ako .skip)) akp
abbrev akr:AC:= .seq (.run [.m 8 bc, .m 9 cQ,(.o 10 (.build [(.int .i64 0),(.int .i64 0),(.slice .full 0 []),(.str []),(.str []),(.int .i64 0),(.int .i64 0),(.str []),(.slice .full 0 []),(.bool false),(.slice .full 0 []),(.slice .full 0 []),(.slice .full 0 [])] [(1,(1,(.k (.int .i64 4)))),(3,(1,b9)),(4,(1,bY))])), .o 7 (.alloc [(.int .i64 0),(.int .i64 0),(.slice .full 0 []),(.str []),(.str []),(.int .i64 0),(.int .i64 0),(.str []),(.slice .full 0 []),(.bool false),(.slice .full 0 []),(.slice .full 0 []),(.slice .full 0 [])]), .op none none (.store bE bF 13)]) (.seq (.run [.m 11 aR,(.c 12 cT [bU,(.k (.str [40]))])]) akq)
abbrev aks:AC:= .seq (.run [.o 6 (.alloc [(.int .i64 0),(.int .i64 0),(.slice .full 0 []),(.str []),(.str []),(.int .i64 0),(.int .i64 0),(.str []),(.slice .full 0 []),(.bool false),(.slice .full 0 []),(.slice .full 0 []),(.slice .full 0 [])])]) akr
abbrev akt:AC:= .cond b6 (.run [.m 17 aR, .m 18 bI,(.o 19 (.build [(.int .i64 0),(.int .i64 0)] [(0,(1,(.k (.int .i64 4)))),(1,(1,cH))])), .o 20 (.di cO), .o 21 (.au dc 2), .op none none (.store dt cZ 2)]) .skip
abbrev aku:AC:= .seq (.seq (.run [.m 10 aR, .c 11 cB [bF], .m 12 bU, .g 13 12 true (.load c7 true 4), .d 14 12 true kX [bP], .g 15 12 true (.bin .gtr bK (.k (.int .i64 20))), .o 16 (.pick bO cq (.k (.bool false)))]) akt) (.seq (.run [.o 22 (.load c7 true 4), .op none none (.store cQ dk 4)]) .ret)
abbrev akv:AC:= .seq (.run [.o 2 (.alloc [(.int .i64 0),(.int .i64 0),(.str []),(.slice .full 0 [])])]) (.seq (.run [.m 5 aR, .c 6 dr [bh], .o 7 (.rj bL 3 false 1), .m 3 bE]) (.seq (.run [.m 8 aR, .c 9 iu [b9,(.k (.int .i64 1))], .o 4 (.alloc [(.int .i64 0),(.int .i64 0),(.str []),(.slice .full 0 [])]), .op none none (.store c7 bY 4)]) aku))
abbrev akw:AC:= .seq (.run [.m 27 aR, .o 28 (.di dS), .o 29 (.au eI 1), .o 30 (.load eJ false 1), .o 31 (.bin .add fc (.k (.int .i64 1))), .o 32 (.di dS), .o 33 (.au fe 1), .op none none (.store eZ eW 1)]) (.seq (.run [.m 34 aR, .m 35 bE, .o 36 (.bin .add fq (.k (.int .i64 1))), .c 37 iu [fw,fA], .o 8 (.alloc [(.int .i64 0),(.int .i64 0),(.str []),(.slice .full 0 [])]), .op none none (.store b9 fR 4)]) (.run [.m 38 bL, .o 39 (.load bh true 4), .o 40 (.load b9 true 4), .o 41 (.cG [(.int .i64 0),(.int .i64 0),(.str []),(.slice .full 0 [])] 4 2 [(0,ga),(1,gJ)]), .o 42 (.build [(.int .i64 0),(.int .i64 0),(.str []),(.slice .full 0 [])] [(0,(1,gl)),(3,(1,gK))]), .op none none (.store bh iH 4)]))
abbrev akx:AC:= .seq (.seq (.run [.m 19 bE, .m 20 bc, .o 21 (.bin .lss cZ dc), .m 22 dt, .g 23 22 false (.mv bL), .g 24 22 false (.bin .eql dB (.k (.int .i64 0))), .o 25 (.pick dk (.k (.bool true)) dd)]) (.cond de (.seq (.run [.o 26 (.load bh true 4), .op none none (.store c7 ej 4)]) .ret) .skip)) akw
abbrev aky:AC:= .loop (.seq (.seq (.run [.m 11 aR, .c 12 cB [bU]]) (.cond bO .skip (.exit 0))) (.block 1 (.seq (.run [.m 14 aR, .c 15 dr [bK], .c 16 sM [cq], .m 13 b6, .o 17 (.ext bP 0), .o 18 (.ext bP 1), .m 6 cO, .m 7 cH]) akx)))
abbrev akz:AC:= .seq (.run [.o 4 (.alloc [(.int .i64 0),(.int .i64 0),(.str []),(.slice .full 0 [])])]) (.seq (.run [.m 9 aR, .c 10 jw [bY], .o 5 (.alloc [(.int .i64 0),(.int .i64 0),(.str []),(.slice .full 0 [])]), .op none none (.store bh bF 4)]) (.seq (.block 0 aky) (.seq (.run [.o 43 (.load bh true 4), .op none none (.store c7 iS 4)]) .ret)))
abbrev akA:AC:= .seq (.block 1 (.seq (.run [.o 11 (.cu bE bY 4), .o 12 (.load bU true 4), .o 5 (.alloc [(.int .i64 0),(.int .i64 0),(.str []),(.slice .full 0 [])]), .op none none (.store bh bO 4)]) (.run [.m 13 bI, .o 14 (.load bh true 4), .c 15 kX [bK], .o 16 (.mm true bP cq), .m 3 b6]))) (.run [.o 17 (.bin .add bY (.k (.int .i64 1))), .m 9 cO])
abbrev akB:AC:= .block 0 (.loop (.seq (.run [.o 10 (.bin .lss bY b9)]) (.seq (.cond bF .skip (.exit 0)) akA)))
abbrev akC:AC:= .seq (.seq (.run [.o 6 (.au bc 3), .o 7 (.load bL false 1), .o 8 (.len bE), .o 9 (.mv (.k (.int .i64 0)))]) akB) (.seq (.run [.m 18 bI, .o 19 (.bin .add cH (.k (.int .i64 1))), .m 2 cZ]) .ret)
abbrev akD:AC:= .seq (.run [.o 1 (.box aR), .o 2 (.mv (.k (.int .i64 0)))]) (.seq (.run [.o 3 (.mv (.k (.int .i64 0)))]) akC)
abbrev akE:AC:= .seq (.run [.m 7 aR, .c 8 cB [bE], .o 9 (.un .not b9)]) (.cond bY (.seq (.run [.o 10 (.build [(.int .i64 0),(.int .i64 0),(.str []),(.slice .full 0 [])] []), .op none none (.store cQ bF 4)]) .ret) .skip)
abbrev akF:AC:= .seq (.run [.o 22 (.au bI 2), .o 23 (.load dk false 1),(.o 24 (.build [(.int .i64 0),(.int .i64 0),(.str []),(.slice .full 0 [])] [(0,(1,(.k (.int .i64 1)))),(1,(1,dB))])), .op none none (.store cQ dd 4)]) .ret
abbrev akG:AC:= .seq (.run [.o 36 (.au bI 1), .o 37 (.load fA false 1),(.o 38 (.build [(.int .i64 0),(.int .i64 0),(.str []),(.slice .full 0 [])] [(0,(1,(.k (.int .i64 2)))),(2,(1,fR))])), .op none none (.store cQ gl 4)]) .ret
abbrev akH:AC:= .seq (.run [.m 42 aR, .c 43 iu [iH,(.k (.int .i64 1))], .o 4 (.alloc [(.int .i64 0),(.int .i64 0),(.str []),(.slice .full 0 [])]), .op none none (.store c7 iS 4)]) (.seq (.run [.m 44 aR,(.c 45 cT [jx,(.k (.str [41]))])]) (.seq (.run [.o 46 (.load c7 true 4), .op none none (.store cQ jN 4)]) .ret))
abbrev akI:AC:= .seq (.run [.m 50 aR, .c 51 jw [jP], .o 52 (.cG [(.int .i64 0),(.int .i64 0),(.str []),(.slice .full 0 [])] 4 1 [(0,jQ)]),(.o 53 (.build [(.int .i64 0),(.int .i64 0),(.str []),(.slice .full 0 [])] [(0,(1,(.k (.int .i64 3)))),(3,(1,kd))])), .op none none (.store cQ ke 4)]) .ret
abbrev akJ:AC:= .seq (.run [.m 57 aR, .c 58 jw [mF], .o 59 (.cG [(.int .i64 0),(.int .i64 0),(.str []),(.slice .full 0 [])] 4 1 [(0,l7)]),(.o 60 (.build [(.int .i64 0),(.int .i64 0),(.str []),(.slice .full 0 [])] [(0,(1,(.k (.int .i64 4)))),(3,(1,kF))])), .op none none (.store cQ nX 4)]) .ret
abbrev akK:AC:= .cond jO akI (.seq (.run [.m 55 aR,(.c 56 dq [kU,(.k (.str [33]))]), .m 54 l6]) (.cond kE akJ .skip))
abbrev akL:AC:= .cond ga akH (.seq (.run [.m 48 aR,(.c 49 dq [iT,(.k (.str [45]))]), .m 47 iU]) akK)
abbrev akM:AC:= .cond de (.seq (.run [.m 29 aR, .o 30 (.di eJ), .o 31 (.au fc 1), .o 32 (.load eW false 1), .o 33 (.bin .add fe (.k (.int .i64 1))), .o 34 (.di eJ), .o 35 (.au fw 1), .op none none (.store fq eZ 1)]) akG) (.seq (.run [.m 40 aR,(.c 41 dq [gJ,(.k (.str [40]))]), .m 39 gK]) akL)
abbrev akN:AC:= .cond bU (.seq (.run [.m 15 aR, .o 16 (.di cq), .o 17 (.au b6 1), .o 18 (.load cO false 1), .o 19 (.bin .add cH (.k (.int .i64 1))), .o 20 (.di cq), .o 21 (.au dc 1), .op none none (.store dt cZ 1)]) akF) (.seq (.run [.o 26 (.au bI 0), .o 27 (.load ej false 1), .o 28 (.bin .eql dS (.k (.int .i64 1))), .m 25 eI]) akM)
abbrev akO:AC:= .block 0 (.seq (.run [.o 12 (.au bI 0), .o 13 (.load bO false 1), .o 14 (.bin .eql bP (.k (.int .i64 2))), .m 11 bK]) akN)
abbrev akP:AC:= .seq akO (.seq (.run [.m 61 aR, .c 62 ez [pd,(.k (.int .i64 3))]]) (.seq (.run [.o 63 (.build [(.int .i64 0),(.int .i64 0),(.str []),(.slice .full 0 [])] []), .op none none (.store cQ pf 4)]) .ret))
abbrev akQ:AC:= .seq (.run [.o 2 (.alloc [(.int .i64 0),(.int .i64 0),(.str []),(.slice .full 0 [])])]) (.seq (.run [.m 5 aR, .c 6 dr [bh], .o 3 (.alloc [(.int .i64 0),(.str []),(.int .i64 0),(.int .i64 0)]), .op none none (.store bI bL 4)]) (.seq akE akP))
abbrev akR:AC:= .cond bL (.seq (.run [.o 2 (.mv (.k (.int .i64 0))), .o 3 (.mv (.k (.int .i64 0)))]) .ret) .skip
abbrev akS:AC:= .cond eZ (.seq (.run [.o 2 (.mv (.k (.int .i64 7))), .o 3 (.mv (.k (.int .i64 6)))]) .ret) .skip
abbrev akT:AC:= .cond eW (.seq (.run [.o 2 (.mv (.k (.int .i64 6))), .o 3 (.mv (.k (.int .i64 6)))]) .ret) (.seq (.run [.o 34 (.bin .eql b9 (.k (.str [37]))), .m 33 fw]) akS)
abbrev akU:AC:= .cond eJ (.seq (.run [.o 2 (.mv (.k (.int .i64 5))), .o 3 (.mv (.k (.int .i64 6)))]) .ret) (.seq (.run [.o 32 (.bin .eql b9 (.k (.str [47]))), .m 31 fe]) akT)
abbrev akV:AC:= .cond dS (.seq (.run [.o 2 (.mv (.k (.int .i64 9))), .o 3 (.mv (.k (.int .i64 5)))]) .ret) (.seq (.run [.o 30 (.bin .eql b9 (.k (.str [42]))), .m 29 fc]) akU)
abbrev akW:AC:= .cond de (.seq (.run [.o 2 (.mv (.k (.int .i64 8))), .o 3 (.mv (.k (.int .i64 5)))]) .ret) (.seq (.run [.o 28 (.bin .eql b9 (.k (.str [45]))), .m 27 eI]) akV)
abbrev akX:AC:= .cond dB (.seq (.run [.o 2 (.mv (.k (.int .i64 13))), .o 3 (.mv (.k (.int .i64 4)))]) .ret) (.seq (.run [.o 26 (.bin .eql b9 (.k (.str [43]))), .m 25 ej]) akW)
abbrev akY:AC:= .cond dt (.seq (.run [.o 2 (.mv (.k (.int .i64 12))), .o 3 (.mv (.k (.int .i64 4)))]) .ret) (.seq (.run [.o 24 (.bin .eql b9 (.k (.str [62,61]))), .m 23 dd]) akX)
abbrev akZ:AC:= .cond cZ (.seq (.run [.o 2 (.mv (.k (.int .i64 11))), .o 3 (.mv (.k (.int .i64 4)))]) .ret) (.seq (.run [.o 22 (.bin .eql b9 (.k (.str [62]))), .m 21 dk]) akY)
abbrev ak0:AC:= .cond cO (.seq (.run [.o 2 (.mv (.k (.int .i64 10))), .o 3 (.mv (.k (.int .i64 4)))]) .ret) (.seq (.run [.o 20 (.bin .eql b9 (.k (.str [60,61]))), .m 19 dc]) akZ)
abbrev ak1:AC:= .cond cq (.seq (.run [.o 2 (.mv (.k (.int .i64 15))), .o 3 (.mv (.k (.int .i64 3)))]) .ret) (.seq (.run [.o 18 (.bin .eql b9 (.k (.str [60]))), .m 17 cH]) ak0)
abbrev ak2:AC:= .cond bP (.seq (.run [.o 2 (.mv (.k (.int .i64 14))), .o 3 (.mv (.k (.int .i64 3)))]) .ret) (.seq (.run [.o 16 (.bin .eql b9 (.k (.str [33,61]))), .m 15 b6]) ak1)
abbrev ak3:AC:= .cond bU (.seq (.run [.o 2 (.mv (.k (.int .i64 16))), .o 3 (.mv (.k (.int .i64 2)))]) .ret) (.seq (.run [.o 14 (.bin .eql b9 (.k (.str [61,61]))), .m 13 bK]) ak2)
abbrev ak4:AC:= .cond bY (.seq (.run [.o 2 (.mv (.k (.int .i64 17))), .o 3 (.mv (.k (.int .i64 1)))]) .ret) (.seq (.run [.o 12 (.bin .eql b9 (.k (.str [38,38]))), .m 11 bO]) ak3)
abbrev ak5:AC:= .block 0 (.seq (.run [.o 10 (.bin .eql b9 (.k (.str [124,124]))), .m 9 bF]) ak4)
abbrev ak6:AC:= .seq (.seq (.run [.o 7 (.au bc 1), .o 8 (.load bE false 1)]) ak5) (.seq (.run [.o 2 (.mv (.k (.int .i64 0))), .o 3 (.mv (.k (.int .i64 0)))]) .ret)
abbrev ak7:AC:= .seq (.seq (.run [.o 4 (.au bc 0), .o 5 (.load c7 false 1), .o 6 (.bin .neq bh (.k (.int .i64 4)))]) akR) ak6
abbrev ak8:AC:= .seq (.run [.o 1 (.box aR), .o 2 (.mv (.k (.int .i64 0))), .o 3 (.mv (.k (.int .i64 0)))]) ak7
end Go.Abs

/-! Have5 -/

namespace Go.Abs
open Go.Proofs
theorem wj:Has Tryz.prog nj 71 [(4,(some (true,13)))] ai6:=⟨Tryz.f205,by kernel_rfl,by kernel_rfl⟩
theorem xV:Has Tryz.prog oP 36 [(4,none)] ajc:=⟨Tryz.f206,by kernel_rfl,by kernel_rfl⟩
theorem Fa:Has Tryz.prog oQ 60 [(2,none)] ajj:=⟨Tryz.f207,by kernel_rfl,by kernel_rfl⟩
theorem Dh:Has Tryz.prog tF 2 [(0,none)] ajl:=⟨Tryz.f209,by kernel_rfl,by kernel_rfl⟩
theorem Di:Has Tryz.prog tG 24 [(2,none)] ajr:=⟨Tryz.f210,by kernel_rfl,by kernel_rfl⟩
theorem xW:Has Tryz.prog oR 61 [(4,none)] ajE:=⟨Tryz.f219,by kernel_rfl,by kernel_rfl⟩
theorem ui:Has Tryz.prog lZ 23 [(2,none)] ajS:=⟨Tryz.f226,by kernel_rfl,by kernel_rfl⟩
theorem vG:Has Tryz.prog mD 64 [(2,(some (true,13)))] ajY:=⟨Tryz.f227,by kernel_rfl,by kernel_rfl⟩
theorem uj:Has Tryz.prog l5 20 [(4,(some (true,13)))] aj1:=⟨Tryz.f228,by kernel_rfl,by kernel_rfl⟩
theorem wk:Has Tryz.prog kM 11 [(2,(some (true,4)))] aj3:=⟨Tryz.f229,by kernel_rfl,by kernel_rfl⟩
theorem vH:Has Tryz.prog iG 17 [(4,none)] aj5:=⟨Tryz.f230,by kernel_rfl,by kernel_rfl⟩
theorem vI:Has Tryz.prog mE 42 [(4,(some (true,13)))] ake:=⟨Tryz.f231,by kernel_rfl,by kernel_rfl⟩
theorem Fb:Has Tryz.prog vE 24 [(2,none)] akk:=⟨Tryz.f237,by kernel_rfl,by kernel_rfl⟩
theorem wm:Has Tryz.prog kN 48 [(6,(some (true,13)))] aks:=⟨Tryz.f239,by kernel_rfl,by kernel_rfl⟩
theorem vJ:Has Tryz.prog fQ 23 [(2,(some (true,4)))] akv:=⟨Tryz.f240,by kernel_rfl,by kernel_rfl⟩
theorem xe:Has Tryz.prog iu 44 [(4,(some (true,4)))] akz:=⟨Tryz.f242,by kernel_rfl,by kernel_rfl⟩
theorem B3:Has Tryz.prog kX 20 [(2,none)] akD:=⟨Tryz.f243,by kernel_rfl,by kernel_rfl⟩
theorem xf:Has Tryz.prog jw 64 [(2,(some (true,4)))] akQ:=⟨Tryz.f244,by kernel_rfl,by kernel_rfl⟩
theorem Hc:Has Tryz.prog sM 35 [(2,none),(3,none)] ak8:=⟨Tryz.f245,by kernel_rfl,by kernel_rfl⟩
end Go.Abs

/-! Have3 -/

namespace Go.Abs
open Go.Proofs
theorem Dj:Has Tryz.prog tz 37 [(6,none)] afQ:=⟨Tryz.f120,by kernel_rfl,by kernel_rfl⟩
theorem wo:Has Tryz.prog tA 28 [(4,none)] afX:=⟨Tryz.f121,by kernel_rfl,by kernel_rfl⟩
theorem An:Has Tryz.prog p9 38 [(6,none),(7,none)] af4:=⟨Tryz.f122,by kernel_rfl,by kernel_rfl⟩
theorem uN:Has Tryz.prog rY 15 [(4,none)] af5:=⟨Tryz.f123,by kernel_rfl,by kernel_rfl⟩
theorem Fc:Has Tryz.prog vB 40 [(4,none)] agb:=⟨Tryz.f124,by kernel_rfl,by kernel_rfl⟩
theorem ya:Has Tryz.prog lN 12 [(4,none)] agc:=⟨Tryz.f125,by kernel_rfl,by kernel_rfl⟩
theorem Fe:Has Tryz.prog oO 9 [(2,none)] agd:=⟨Tryz.f128,by kernel_rfl,by kernel_rfl⟩
theorem ze:Has Tryz.prog xb 42 [(4,none)] agE:=⟨Tryz.f129,by kernel_rfl,by kernel_rfl⟩
theorem Dk:Has Tryz.prog tB 28 [(2,none),(3,none)] agK:=⟨Tryz.f130,by kernel_rfl,by kernel_rfl⟩
theorem wq:Has Tryz.prog dq 21 [(4,none)] agO:=⟨Tryz.f131,by kernel_rfl,by kernel_rfl⟩
theorem vK:Has Tryz.prog iE 25 [(6,none)] agS:=⟨Tryz.f132,by kernel_rfl,by kernel_rfl⟩
theorem wu:Has Tryz.prog cB 9 [(2,none)] agT:=⟨Tryz.f133,by kernel_rfl,by kernel_rfl⟩
theorem yc:Has Tryz.prog fl 22 [(4,none)] agV:=⟨Tryz.f134,by kernel_rfl,by kernel_rfl⟩
theorem xg:Has Tryz.prog ez 14 [] agW:=⟨Tryz.f135,by kernel_rfl,by kernel_rfl⟩
theorem wv:Has Tryz.prog ni 56 [(2,(some (true,5)))] ag4:=⟨Tryz.f136,by kernel_rfl,by kernel_rfl⟩
theorem wx:Has Tryz.prog dr 13 [(2,(some (true,4)))] ag6:=⟨Tryz.f137,by kernel_rfl,by kernel_rfl⟩
theorem uk:Has Tryz.prog gp 8 [(2,none)] ag8:=⟨Tryz.f138,by kernel_rfl,by kernel_rfl⟩
theorem sf:Has Tryz.prog kD 8 [(2,none)] aha:=⟨Tryz.f139,by kernel_rfl,by kernel_rfl⟩
theorem B4:Has Tryz.prog jL 78 [(6,none),(7,none)] ahk:=⟨Tryz.f140,by kernel_rfl,by kernel_rfl⟩
theorem Ao:Has Tryz.prog iF 40 [(6,(some (true,4)))] ahp:=⟨Tryz.f141,by kernel_rfl,by kernel_rfl⟩
theorem Dl:Has Tryz.prog tC 15 [(2,none)] ahu:=⟨Tryz.f148,by kernel_rfl,by kernel_rfl⟩
theorem xX:Has Tryz.prog kn 38 [(2,none)] ahB:=⟨Tryz.f149,by kernel_rfl,by kernel_rfl⟩
theorem Hd:Has Tryz.prog BU 178 [(2,none)] ahN:=⟨Tryz.f150,by kernel_rfl,by kernel_rfl⟩
theorem Dm:Has Tryz.prog nW 18 [(4,none)] ahO:=⟨Tryz.f158,by kernel_rfl,by kernel_rfl⟩
theorem Dn:Has Tryz.prog qa 18 [(4,none)] ahP:=⟨Tryz.f159,by kernel_rfl,by kernel_rfl⟩
theorem B5:Has Tryz.prog rZ 27 [(2,none)] ahV:=⟨Tryz.f160,by kernel_rfl,by kernel_rfl⟩
theorem Ff:Has Tryz.prog lA 33 [(2,none)] ah2:=⟨Tryz.f161,by kernel_rfl,by kernel_rfl⟩
theorem wy:Has Tryz.prog qb 8 [(2,none)] ah5:=⟨Tryz.f162,by kernel_rfl,by kernel_rfl⟩
theorem pg:Has Tryz.prog gj 9 [(4,none)] ah6:=⟨Tryz.f163,by kernel_rfl,by kernel_rfl⟩
theorem Ap:Has Tryz.prog nz 8 [(3,none)] ah7:=⟨Tryz.f164,by kernel_rfl,by kernel_rfl⟩
theorem B6:Has Tryz.prog sa 33 [(4,none)] aib:=⟨Tryz.f165,by kernel_rfl,by kernel_rfl⟩
end Go.Abs

/-! Frz -/

namespace Go.Abs
theorem aD.yh {P:Program} {f:Nat} {args:List D} {s0 s:St} {o off n m:Nat} {row:List D} (h:aD P f args s0 (.ptr o off) s) (ho:s.aA[o]? = some row) (hn:s0.aA.length≤n) (hno:n≤o) (hm:s0.aC.length≤m) :
 aD P f args s0 (.dI (D.gG n m row) off) (s.cut n m):=by
 intro M0 w0 fU r0 kK ak9 ha
 refine(h M0 w0 fU r0 kK ak9 ha).mono ?_
 rintro en w ⟨M,d,v0,s',rfl,⟨rfl,rfl⟩,e,r,hv⟩
 have vV:=hv.yp
 have pS:v0 = .pointer (some ⟨M.mu o,off,none⟩):=hv.qG.1
 have LS:o<s'.aA.length:=(List.getElem?_eq_some_iff.1 ho).1
 obtain⟨vs,T,hh,ew,⟨mw,_⟩,oJ⟩:=r.obj o row ho
 replace hh:=hh.cells vV
 let M':Map:= {M with G:=fun b q=>if b=M.mu o then vs[q]? else M.G b q}
 have hGo : ∀ q,M.G (M.mu o) q=none:=r.kz o LS
 have le:Le M s' M' s':=⟨fun b q v hq=>by
  show(if b=M.mu o then vs[q]? else M.G b q)=some v
  by_cases hb:b=M.mu o
  ·subst hb;rw [hGo]at hq;cases hq
  ·rw [if_neg hb];exact hq,Nat.le_refl _,fun _ _=>rfl,Nat.le_refl _,fun t n' _ e=>⟨n',e,Nat.le_refl _,fun _=>rfl⟩⟩
 have hP : ∀ q,q<(s'.cut n m).aA.length→q<s'.aA.length∧q≠o:=fun q h=>by rw [o9]at h;omega
 have uO:w0.heap.size≤M.mu o:=e.pL o (by omega) LS
 have ec:=e.cut hn hm
 have Y2:Le M (s'.cut n m) M' (s'.cut n m):=⟨le.G,Nat.le_refl _,fun _ _=>rfl,Nat.le_refl _,fun t n' _ e=>⟨n',e,Nat.le_refl _,fun _=>rfl⟩⟩
 have rc:=r.cut n m
 have rm : ∀ b,b≠M.mu o→∀ q,M'.G b q=M.G b q:=fun b hb q=>if_neg hb
 refine⟨M',_,v0,_,rfl,⟨rfl,rfl⟩,⟨ec.le.trans Y2,ec.kept,ec.pL,ec.pM,fun b q fp=> ?_,ec.size,ec.os,ec.tape,ec.output⟩,⟨fun b q v hq=> ?_,fun q ds hq=> ?_,fun q hq vk=> ?_,rc.inj,fun t n' M8=> ?_,rc.fm,rc.fS⟩, ?_⟩
 ·by_cases hb:b=M.mu o
  ·subst hb;exact .inl uO
  ·rw [rm b hb]at fp;exact ec.rP b q fp
 ·have qz:(if b=M.mu o then vs[q]? else M.G b q)=some v:=hq
  by_cases hb:b=M.mu o
  ·rw [if_pos hb]at qz
   rw [hb,kj hh]
   exact⟨qz,mw v (Array.mem_of_getElem? qz)⟩
  ·rw [if_neg hb]at qz
   exact r.comm b q v qz
 ·obtain⟨fD,T',h3,h4,h5,h6⟩:=rc.obj q ds hq
  exact⟨fD,T',h3,h4,h5,fun i d v e1 e2=>(h6 i d v e1 e2).mono Y2⟩
 ·obtain⟨h3,h4⟩:=hP q hq
  show M'.G (M.mu q) vk=none
  rw [rm _ (fun e=>h4 (r.inj q o h3 LS e))]
  exact r.kz q h3 vk
 ·rcases rc.tok t n' M8 with h3 | ⟨b,cap,z,fD,T',h3,h4,h5,h6,h7⟩
  ·exact .inl h3
  ·refine .inr ⟨b,cap,z,fD,T',h3,h4,h5,h6,fun vk Bb=> ?_,h7.2⟩
   rw [rm _ (fun e=>r.fm t b cap z o (tj ⟨n',M8⟩) h3 LS e.symm)]
   exact h7.1 vk Bb
 ·rw [pS]
  have:=RD.dI (M:=M') (s:=s'.cut n m) (D.gG n m row) off (M.mu o) 0 (fun i d e1=> ?_) (fun i d u e1 eu=> ?_)
  ·simpa using this
  ·rw [mQ,List.getElem?_map,Option.map_eq_some_iff]at e1
   obtain⟨d0,e1,rfl⟩:=e1
   have hi:=(List.getElem?_eq_some_iff.1 e1).1
   refine⟨vs[i]'(by omega), ?_⟩
   show(if M.mu o=M.mu o then vs[0+i]? else _)=_
   rw [if_pos rfl,Nat.zero_add]
   exact Array.getElem?_eq_getElem _
  ·rw [mQ,List.getElem?_map,Option.map_eq_some_iff]at e1
   obtain⟨d0,e1,rfl⟩:=e1
   have Jm:(if M.mu o=M.mu o then vs[0+i]? else M.G (M.mu o) (0+i))=some u:=eu
   rw [if_pos rfl,Nat.zero_add]at Jm
   exact((oJ i d0 u e1 Jm).fg n m).mono Y2
theorem aD.goK {P:Program} {f:FuncId} {res:List (Nat×Option (Bool×Nat))} {body:AC} {args:List D} {s:St} {d:D} {s':St} {nt:Nat} (n m:Nat) (hn:s.aA.length≤n) (hm:s.aC.length≤m) (h0:Has P f nt res body) (hl:Nat.ble args.length nt=true)
 (h : ∀ (B:fj) (Q:Exit→Tm→St→Prop),B.s=s→ig n m res d s'=Q→gB P B nt body Q (nr 0 args) s):aD P f args s d s':=by
 obtain⟨fn,hf,hc⟩:=h0
 refine eg.Tp (eg.intro (Q:=fun d1 s1=>Wk d1 d∧gT s1.aA s'.aA∧s1.aC=s'.aC) hf hc (Nat.le_of_ble_eq_true hl) fun B hB=>(gN (h B _ hB rfl)).mono fun e tm s1 hr=> ?_) fun d1 s1 ⟨h1,h2,h3⟩=>⟨d,s',h1,h2,h3,rfl,rfl⟩
 subst hB
 cases e with
 | normal=>obtain⟨l,h1,h2,h3,h4⟩:=hr;exact⟨l,h1,_,_,hn,hm,h2,h3,h4⟩
 | ret=>obtain⟨l,h1,h2,h3,h4⟩:=hr;exact⟨l,h1,_,_,hn,hm,h2,h3,h4⟩
 | exit id=>exact hr.elim
 | goto l=>exact hr.elim
 | panic ch=>exact hr.elim
 | outgrown=>exact hr.elim
end Go.Abs

/-! MirLex -/

namespace Go.Abs
def oS (c:UInt8):Bool:=decide ((c.toNat:Int)≥97) && decide ((c.toNat:Int)≤122)
def nA (c:UInt8):Bool:=decide ((c.toNat:Int)≥48) && decide ((c.toNat:Int)≤57)
def tO (c:UInt8):Bool:=(c.toNat:Int)==32 || (c.toNat:Int)==9 || (c.toNat:Int)==10 || (c.toNat:Int)==13
def kV:ay→Nat
 | []=>0
 | c::r=>if oS c || nA c then kV r+1 else 0
def qh:ay→Nat
 | []=>0
 | c::r=>if nA c then qh r+1 else 0
def nB:ay→Nat
 | []=>0
 | c::r=>if(c.toNat:Int) != 10 then nB r+1 else 0
def isWord (s:ay):Bool:=
 s == [103,108,111,98,97,108] || s == [112,114,111,99] || s == [118,97,114] || s == [114,101,102] || s == [105,102] || s == [101,108,115,101] || s == [119,104,105,108,101] || s == [98,114,101,97,107] || s == [99,111,110,116,105,110,117,101] || s == [114,101,116,117,114,110] || s == [103,111,116,111] || s == [114,101,97,100] || s == [112,114,105,110,116]
def UK (s:ay):Bool:=s == [61,61] || s == [33,61] || s == [60,61] || s == [62,61] || s == [38,38] || s == [124,124]
def Fw (c:UInt8):Bool:=
 (c.toNat:Int)==40 || (c.toNat:Int)==41 || (c.toNat:Int)==123 || (c.toNat:Int)==125 || (c.toNat:Int)==44 || (c.toNat:Int)==59 || (c.toNat:Int)==58 || (c.toNat:Int)==61 ||
 (c.toNat:Int)==33 || (c.toNat:Int)==60 || (c.toNat:Int)==62 || (c.toNat:Int)==43 || (c.toNat:Int)==45 || (c.toNat:Int)==42 || (c.toNat:Int)==47 || (c.toNat:Int)==37
def q7:ay→Nat
 | []=>0
 | [c]=>if Fw c then 1 else 0
 | c::d::_=>if UK [c,d]then 2 else if Fw c then 1 else 0
def uP:Int→ay→Option Int
 | n,[]=>some n
 | n,c::r=>if n > (9223372036854775807 - ((c.toNat:Int) - 48)) / 10 then none else uP (n*10+((c.toNat:Int) - 48)) r
def Dp (pos:Nat):ay→bM ⊕ Int
 | []=> .inr 2
 | c::r=>
  if oS c then
   let s:=(c::r).take (kV (c::r))
   if s.length > 8 then .inr 4 else .inl ⟨if isWord s then 3 else 1,s,0,pos⟩
  else if nA c then
   let s:=(c::r).take (qh (c::r))
   if s.length > 1∧(c.toNat:Int)=48 then .inr 2 else
   match uP 0 s with
   | some n=> .inl ⟨2,s,n,pos⟩
   | none=> .inr 4
  else
   if q7 (c::r)=0 then .inr 2 else .inl ⟨4,(c::r).take (q7 (c::r)),0,pos⟩
def mH:Nat→Nat→ay→List bM→List bM×Int×Int
 | 0,_,_,_=>([],0,0)
 | _+1,pos,[],out=>(out++ [⟨0,[],0,pos⟩],0,0)
 | n+1,pos,c::r,out=>
  if tO c then mH n (pos+1) r out
  else if(c.toNat:Int)==35 then mH n (pos+nB (c::r)) ((c::r).drop (nB (c::r))) out
  else match Dp pos (c::r)with
   | .inr e=>([],e,pos)
   | .inl t=>if out.length=2000 then([],4,pos)else mH n (pos+t.text.length) ((c::r).drop t.text.length) (out++ [t])
def nZ (text:ay):List bM×Int×Int:=if text.length > 100000 then([],4,0)else mH (text.length+1) 0 text []
end Go.Abs

/-! MirMay -/

namespace Go.Abs
def sN:ay→Bool
 | []=>true
 | c::r=>if !(oS c) && !(nA c)then false else sN r
def isName:ay→Bool
 | []=>false
 | c::r=>if decide (((r.length+1:Nat):Int) > 8) || !(oS c)then false else if sN r then !(isWord (c::r))else false
def lg (op:Int):Int:=if op==1 || op==2 then 0 else if op==3 || op==4 then 1 else if decide (op≥5) && decide (op≤17)then 2 else -1
mutual
def Ex.form:Ex→Bool
 | ⟨op,n,name,kids⟩=>
  if lg op != (kids.length:Int) || (op != 1 && n != 0) || decide (n<0) || !((op==2) == !(name == [])) || (!(name == []) && !(isName name))then false else Ex.lO kids
def Ex.lO:List Ex→Bool
 | []=>true
 | x::l=>if !(Ex.form x)then false else Ex.lO l
end
mutual
def Ex.texts:Ex→Prop
 | ⟨_,_,name,kids⟩=>name.length<4611686018427387904∧Ex.tP kids
def Ex.tP:List Ex→Prop
 | []=>True
 | x::l=>x.texts∧Ex.tP l
end
theorem Ex.B7 {x:Ex} : ∀ {l:List Ex},Ex.tP l→x∈l→x.texts
 | y::l,h,m=>by
  rcases List.mem_cons.1 m with rfl | m
  ·exact h.1
  ·exact Ex.B7 h.2 m
theorem Ex.D2 {op n:Int} {name:ay} {kids:List Ex} (h:Ex.texts ⟨op,n,name,kids⟩) {y:Ex} (m:y∈kids):y.texts:=Ex.B7 h.2 m
def Ex.may (x:Ex):Bool:=decide (((min x.depth 21:Nat):Int)≤20) && x.form
def Ex.none (x:Ex):Bool:=x.op==0 && x.n==0 && x.name == [] && (x.kids.length:Int)==0
def c6:List ay→Bool
 | []=>true
 | s::l=>if !(isName s)then false else c6 l
def Ar.may (a:Ar):Bool:=if a.ref then isName a.name && a.x.none else a.name == [] && a.x.may
def Ar.dT:List Ar→Bool
 | []=>true
 | a::l=>if !(a.may)then false else Ar.dT l
def Sm.sg (s:Sm):Bool:=s.kind==1 || s.kind==3 || s.kind==5 || s.kind==6 || (s.kind==9 && s.has)
def Sm.hasName (s:Sm):Bool:=s.kind==1 || s.kind==2 || s.kind==10
def Sm.mV (s:Sm):Bool:=s.kind==4
def Sm.one (s:Sm):Bool:=
 if decide (s.kind<1) || decide (s.kind > 10) || !(c6 s.labels) || (s.sg && !(s.x.may)) || (!(s.sg) && !(s.x.none)) || (s.has && s.kind != 9)then false
 else if(s.hasName && !(isName s.name)) || (!(s.hasName) && !(s.name == []) && !(s.mV && isName s.name))then false
 else if !(s.mV == !(s.proc == [])) || (s.mV && !(isName s.proc)) || (!(s.mV) && decide ((s.args.length:Int) > 0))then false
 else if !(Ar.dT s.args)then false
 else((s.aY.length:Int)==0 || s.kind==5 || s.kind==6) && ((s.aT.length:Int)==0 || s.kind==5)
structure It where
 s:Sm
 deep:Int
 bS:Int
 aT:Bool
mutual
def iy (deep bS:Int) (aT:Bool) (out:List It):Sm→List It
 | ⟨id,kind,labels,name,proc,x,has,args,aY,e⟩=>
  if decide (deep≤12)then e8 (deep+1) id true (e8 (deep+1) id false (out++ [⟨⟨id,kind,labels,name,proc,x,has,args,aY,e⟩,deep,bS,aT⟩]) aY) e
  else out++ [⟨⟨id,kind,labels,name,proc,x,has,args,aY,e⟩,deep,bS,aT⟩]
def e8 (deep bS:Int) (aT:Bool) (out:List It):List Sm→List It
 | []=>out
 | s::l=>if decide ((out.length:Int)≤200)then e8 deep bS aT (iy deep bS aT out s) l else out
end
def Pc.flat (f:Pc):List It:=e8 1 0 false [] f.body
def allM (out:List It):List Pc→List It
 | []=>out
 | f::l=>if decide (((out++f.flat).length:Int) > 200)then out++f.flat else allM (out++f.flat) l
def Pg.all (p:Pg):List It:=allM [] p.procs
def Pm.dT:List Pm→Bool
 | []=>true
 | a::l=>if !(isName a.name)then false else Pm.dT l
def Pc.mI:List Pc→Bool
 | []=>true
 | f::l=>
  if !(isName f.name) || decide ((f.params.length:Int) > 8) || decide ((f.vars.length:Int) > 16) || !(c6 f.vars) || !(c6 f.fin)then false
  else if !(Pm.dT f.params)then false else Pc.mI l
def It.dT (n:Nat):List It→Bool
 | []=>true
 | i::l=>if i.s.id != ((n+1:Nat):Int) || decide (i.deep > 12) || !(i.s.one)then false else It.dT (n+1) l
def Pg.may (p:Pg):Bool:=
 if decide ((p.globals.length:Int) > 16) || decide ((p.procs.length:Int) > 16) || !(c6 p.globals)then false
 else if !(Pc.mI p.procs)then false
 else if decide ((p.all.length:Int) > 200)then false else It.dT 0 p.all
end Go.Abs

/-! Prs -/

namespace Go.Abs
set_option maxRecDepth 8000
open Go.Proofs
@[go_sem] def b8 (r:Rd):List D:= [.slice .shared 4 (r.l.map dX), .int .i64 r.i, .int .i64 r.code, .int .i64 r.pW, .int .i64 r.n]
theorem fx (r:Rd):D.bJ 0 0 (b8 r)=true:=by simp [b8,D.bJ,D.ok,Tag.ok,GG]
theorem qO {r:Rd} {t:bM} (h:r.mC=some t):r.i<4611686018427387904:=(GN h).1
theorem is_lt {r:Rd} {s:ay} {t:Bool} (h:r.is s=some t):r.i<4611686018427387904:=by
 obtain⟨t,h1,h⟩:=Option.bind_eq_some_iff.1 h
 exact qO h1
-- good
theorem Y3 (l:List bM) (i c f n:Int):aD Tryz.prog cB [.ptr 0 0] ⟨[[.slice .shared 4 (l.map dX), .int .i64 i, .int .i64 c, .int .i64 f, .int .i64 n]],[]⟩ (.bool (c==0)) ⟨[[.slice .shared 4 (l.map dX), .int .i64 i, .int .i64 c, .int .i64 f, .int .i64 n]],[]⟩:=by
 refine aD.go wu rfl fun B Q hB hQ=> ?_
 have⟨hP,hY,hZ,gA⟩:=bw
 repeat' (first
 | simp only [go_sem,hP,hY,hZ,gA,lW]
 | (with_reducible refine aF hQ ?_;simp only [az,aB,Option.some.injEq,exists_eq_left',go_sem,hP,hY,hZ,gA];repeat' (first | exact Ok.out | with_reducible refine aG ?_ ?_ | (simp;done))))
theorem jV {l:List bM} {i c f n:Int} {s:St} {o:Nat} (ho:s.aA[o]? = some [.slice .shared 4 (l.map dX), .int .i64 i, .int .i64 c, .int .i64 f, .int .i64 n]):aD Tryz.prog cB [.ptr o 0] s (.bool (c==0)) ⟨s.aA.set o [.slice .shared 4 (l.map dX), .int .i64 i, .int .i64 c, .int .i64 f, .int .i64 n],s.aC⟩:=
 have hk:D.bJ 0 0 [.slice .shared 4 (l.map dX), .int .i64 i, .int .i64 c, .int .i64 f, .int .i64 n] = true:=by simp [D.bJ,D.ok,Tag.ok,GG]
 aD.jK (Y3 l i c f n) rfl hk hk rfl ho
theorem Y4 {r:Rd} {t:bM} (h:r.mC=some t):aD Tryz.prog dr [.ptr 0 0] ⟨[b8 r],[]⟩ (.agg (dX t)) ⟨[b8 r],[]⟩:=by
 obtain⟨h2,h,_,_⟩:=GN h
 refine aD.go wx rfl fun B Q hB hQ=> ?_
 have⟨hP,hY,hZ,gA⟩:=bw
 repeat' (first
 | simp only [go_sem,hP,hY,hZ,gA,lW,h]
 | (with_reducible refine aF hQ ?_;simp only [az,aB,Option.some.injEq,exists_eq_left',go_sem,hP,hY,hZ,gA];repeat' (first | exact Ok.out | with_reducible refine aG ?_ ?_ | (simp;done))))
theorem n3 {r:Rd} {t:bM} (h:r.mC=some t) {s:St} {o:Nat} (ho:s.aA[o]? = some (b8 r)):aD Tryz.prog dr [.ptr o 0] s (.agg (dX t)) ⟨s.aA.set o (b8 r),s.aC⟩:=
 (Y4 h).jK rfl (fx r) (fx r) (Fs t) ho
theorem ala {r:Rd} {text:ay} {b:Bool} (h:r.is text=some b):aD Tryz.prog fl [.ptr 0 0, .str text] ⟨[b8 r],[]⟩ (.bool b) ⟨[b8 r],[]⟩:=by
 unfold Rd.is at h
 refine aD.go yc rfl fun B Q hB hQ=> ?_
 have⟨hP,hY,hZ,gA⟩:=bw
 repeat' (first
 | simp only [go_sem,hP,hY,hZ,gA,lW]
 | (rw [Option.bind_eq_some_iff]at h;obtain⟨_,h1,h⟩:=h;first | (with_reducible refine CU (n3 h1 (by with_unfolding_all rfl)) ?_))
 | (with_reducible first | refine br fun hc=> ?_ | refine bt fun hc=> ?_ | refine bu (fun hc=> ?_) fun hc=> ?_) <;> (try simp only [hc,bs, ↓reduceIte]at h) <;> try simp only [hc]
 | (with_reducible refine aF hQ ?_;(try cases h);simp only [az,aB,bB,bC,go_sem,hP,hY,hZ,gA,lW];repeat' (first | exact Ok.out | with_reducible refine aG ?_ ?_ | (simp;done))))
theorem zf {r:Rd} {text:ay} {b:Bool} (h:r.is text=some b) {s:St} {o:Nat} (ho:s.aA[o]? = some (b8 r)):aD Tryz.prog fl [.ptr o 0, .str text] s (.bool b) ⟨s.aA.set o (b8 r),s.aC⟩:=
 (ala h).jK rfl (fx r) (fx r) rfl ho
theorem acI {r r':Rd} {c:Int} (h:r.bad c=some r'):aD Tryz.prog ez [.ptr 0 0, .int .i64 c] ⟨[b8 r],[]⟩ (.tuple []) ⟨[b8 r'],[]⟩:=by
 unfold Rd.bad at h
 refine aD.go xg rfl fun B Q hB hQ=> ?_
 have⟨hP,hY,hZ,gA⟩:=bw
 repeat' (first
 | simp only [go_sem,hP,hY,hZ,gA,lW]
 | (rw [Option.bind_eq_some_iff]at h;obtain⟨_,h1,h⟩:=h;first | (with_reducible refine CU (n3 h1 (by with_unfolding_all rfl)) ?_))
 | (with_reducible refine CU (jV (by with_unfolding_all rfl)) ?_)
 | (with_reducible first | refine br fun hc=> ?_ | refine bt fun hc=> ?_ | refine bu (fun hc=> ?_) fun hc=> ?_) <;> (try simp only [hc,bs, ↓reduceIte]at h) <;> try simp only [hc]
 | (with_reducible refine aF hQ ?_;(try cases h);simp only [az,aB,bB,bC,go_sem,hP,hY,hZ,gA,lW];repeat' (first | exact Ok.out | with_reducible refine aG ?_ ?_ | (simp;done))))
theorem B8 {r r':Rd} {c:Int} (h:r.bad c=some r') {s:St} {o:Nat} (ho:s.aA[o]? = some (b8 r)):aD Tryz.prog ez [.ptr o 0, .int .i64 c] s (.tuple []) ⟨s.aA.set o (b8 r'),s.aC⟩:=
 (acI h).jK rfl (fx r) (fx r') rfl ho
theorem Y5 {r:Rd} {text:ay} {p:Bool×Rd} (h:r.take text=some p):aD Tryz.prog dq [.ptr 0 0, .str text] ⟨[b8 r],[]⟩ (.bool p.1) ⟨[b8 p.2],[]⟩:=by
 unfold Rd.take at h
 refine aD.go wq rfl fun B Q hB hQ=> ?_
 have⟨hP,hY,hZ,gA⟩:=bw
 repeat' (first
 | simp only [go_sem,hP,hY,hZ,gA,lW]
 | (rw [Option.bind_eq_some_iff]at h;obtain⟨_,h1,h⟩:=h;first | (with_reducible refine CU (zf h1 (by with_unfolding_all rfl)) ?_;have hP:=is_lt h1))
 | (with_reducible refine CU (jV (by with_unfolding_all rfl)) ?_)
 | (with_reducible first | refine br fun hc=> ?_ | refine bt fun hc=> ?_ | refine bu (fun hc=> ?_) fun hc=> ?_) <;> (try simp only [hc,bs, ↓reduceIte]at h) <;> try simp only [hc]
 | (with_reducible refine aF hQ ?_;(try cases h);simp only [az,aB,bB,bC,go_sem,hP,hY,hZ,gA,lW];repeat' (first | exact Ok.out | with_reducible refine aG ?_ ?_ | (simp;done))))
theorem rH {r:Rd} {text:ay} {p:Bool×Rd} (h:r.take text=some p) {s:St} {o:Nat} (ho:s.aA[o]? = some (b8 r)):aD Tryz.prog dq [.ptr o 0, .str text] s (.bool p.1) ⟨s.aA.set o (b8 p.2),s.aC⟩:=
 (Y5 h).jK rfl (fx r) (fx p.2) rfl ho
theorem Y6 {r r':Rd} {text:ay} (h:r.want text=some r'):aD Tryz.prog cT [.ptr 0 0, .str text] ⟨[b8 r],[]⟩ (.tuple []) ⟨[b8 r'],[]⟩:=by
 unfold Rd.want at h
 refine aD.go wi rfl fun B Q hB hQ=> ?_
 have⟨hP,hY,hZ,gA⟩:=bw
 repeat' (first
 | simp only [go_sem,hP,hY,hZ,gA,lW]
 | (rw [Option.bind_eq_some_iff]at h;obtain⟨_,h1,h⟩:=h;first | (with_reducible refine CU (rH h1 (by with_unfolding_all rfl)) ?_))
 | (with_reducible refine CU (B8 h (by with_unfolding_all rfl)) ?_)
 | (with_reducible first | refine br fun hc=> ?_ | refine bt fun hc=> ?_ | refine bu (fun hc=> ?_) fun hc=> ?_) <;> (try simp only [hc,bs, ↓reduceIte]at h) <;> try simp only [hc]
 | (with_reducible refine aF hQ ?_;(try cases h);simp only [az,aB,bB,bC,go_sem,hP,hY,hZ,gA,lW];repeat' (first | exact Ok.out | with_reducible refine aG ?_ ?_ | (simp;done))))
theorem oT {r r':Rd} {text:ay} (h:r.want text=some r') {s:St} {o:Nat} (ho:s.aA[o]? = some (b8 r)):aD Tryz.prog cT [.ptr o 0, .str text] s (.tuple []) ⟨s.aA.set o (b8 r'),s.aC⟩:=
 (Y6 h).jK rfl (fx r) (fx r') rfl ho
theorem Y7 {r:Rd} {room:Bool} {p:ay×Rd} (h:r.name room=some p):aD Tryz.prog eh [.ptr 0 0, .bool room] ⟨[b8 r],[]⟩ (.str p.1) ⟨[b8 p.2],[]⟩:=by
 unfold Rd.name at h
 refine aD.go wh rfl fun B Q hB hQ=> ?_
 have⟨hP,hY,hZ,gA⟩:=bw
 repeat' (first
 | simp only [go_sem,hP,hY,hZ,gA,lW]
 | (rw [Option.bind_eq_some_iff]at h;obtain⟨_,h1,h⟩:=h;first | (with_reducible refine CU (n3 h1 (by with_unfolding_all rfl)) ?_;have hP:=qO h1) | (with_reducible refine CU (B8 h1 (by with_unfolding_all rfl)) ?_))
 | (with_reducible refine CU (jV (by with_unfolding_all rfl)) ?_)
 | (with_reducible first | refine br fun hc=> ?_ | refine bt fun hc=> ?_ | refine bu (fun hc=> ?_) fun hc=> ?_) <;> (try simp only [hc,bs, ↓reduceIte]at h) <;> try simp only [hc]
 | (with_reducible refine aF hQ ?_;(try cases h);simp only [az,aB,bB,bC,go_sem,hP,hY,hZ,gA,lW];repeat' (first | exact Ok.out | with_reducible refine aG ?_ ?_ | (simp;done))))
theorem wz {r:Rd} {room:Bool} {p:ay×Rd} (h:r.name room=some p) {s:St} {o:Nat} (ho:s.aA[o]? = some (b8 r)):aD Tryz.prog eh [.ptr o 0, .bool room] s (.str p.1) ⟨s.aA.set o (b8 p.2),s.aC⟩:=
 (Y7 h).jK rfl (fx r) (fx p.2) rfl ho
end Go.Abs

/-! Lex1 -/

namespace Go.Abs
set_option maxRecDepth 8000
open Go.Proofs
theorem gL (c:UInt8) (s:St):aD Tryz.prog nV [.int .u8 (c.toNat:Int)] s (.bool (oS c)) s:=by
 refine aD.pure ?_ rfl rfl s
 generalize h:oS c=b
 unfold oS at h
 unfold S0
 refine aD.go Dc rfl fun B Q hB hQ=> ?_
 have⟨hP,hY,hZ,gA⟩:=bw
 repeat' (first
 | simp only [go_sem,hP,hY,hZ,gA]
 | (with_reducible first | refine br fun hc=> ?_ | refine bt fun hc=> ?_ | refine bu (fun hc=> ?_) fun hc=> ?_) <;> (try simp only [hc,bs, ↓reduceIte]at h) <;> try simp only [hc]
 | (with_reducible refine aF hQ ?_;(try cases h);simp only [az,aB,bB,bC,go_sem,hP,hY,hZ,gA];repeat' (first | exact Ok.out | with_reducible refine aG ?_ ?_ | (simp;done))))
theorem jj (c:UInt8) (s:St):aD Tryz.prog oO [.int .u8 (c.toNat:Int)] s (.bool (nA c)) s:=by
 refine aD.pure ?_ rfl rfl s
 generalize h:nA c=b
 unfold nA at h
 unfold S0
 refine aD.go Fe rfl fun B Q hB hQ=> ?_
 have⟨hP,hY,hZ,gA⟩:=bw
 repeat' (first
 | simp only [go_sem,hP,hY,hZ,gA]
 | (with_reducible first | refine br fun hc=> ?_ | refine bt fun hc=> ?_ | refine bu (fun hc=> ?_) fun hc=> ?_) <;> (try simp only [hc,bs, ↓reduceIte]at h) <;> try simp only [hc]
 | (with_reducible refine aF hQ ?_;(try cases h);simp only [az,aB,bB,bC,go_sem,hP,hY,hZ,gA];repeat' (first | exact Ok.out | with_reducible refine aG ?_ ?_ | (simp;done))))
theorem tQ (t:ay) (s:St):aD Tryz.prog sK [.str t] s (.bool (isWord t)) s:=by
 refine aD.pure ?_ rfl rfl s
 generalize h:isWord t=b
 unfold isWord at h
 unfold S0
 refine aD.go G8 rfl fun B Q hB hQ=> ?_
 have⟨hP,hY,hZ,gA⟩:=bw
 repeat' (first
 | simp only [go_sem,hP,hY,hZ,gA]
 | (with_reducible first | refine br fun hc=> ?_ | refine bt fun hc=> ?_ | refine bu (fun hc=> ?_) fun hc=> ?_) <;> (try simp only [hc,bs, ↓reduceIte]at h) <;> try simp only [hc]
 | (with_reducible refine aF hQ ?_;(try cases h);simp only [az,aB,bB,bC,go_sem,hP,hY,hZ,gA];repeat' (first | exact Ok.out | with_reducible refine aG ?_ ?_ | (simp;done))))
theorem UL {text:ay} {pos:Nat} (hl:text.length<4611686018427387904) (s:St):aD Tryz.prog uJ [.str text, .int .i64 (pos:Int)] s (.int .i64 ((pos+kV (text.drop pos):Nat):Int)) s:=by
 refine aD.pure ?_ rfl rfl s
 unfold S0
 refine aD.go IS rfl fun B Q hB hQ=> ?_
 have⟨hP,hY,hZ,gA⟩:=bw
 repeat' (first
 | simp only [go_sem,hP,hY,hZ,gA]
 | (with_reducible refine aF hQ ?_;simp only [az,aB,Option.some.injEq,exists_eq_left',go_sem,hP,hY,hZ,gA];repeat' (first | exact Ok.out | with_reducible refine aG ?_ ?_ | (simp;done))))
 refine cM 0 0 (bj.ind (ι:=ay×Nat) (fun i=>text.drop i.2=i.1∧i.2+kV i.1=pos+kV (text.drop pos)) (fun i=>i.1.length)
  (fun i=> [(0, .str text),(1, .int .i64 (i.2:Int))]) (fun i=>⟨[],[]⟩) ?_ (text.drop pos,pos) ⟨rfl,rfl⟩)
 rintro⟨rest,k⟩ ⟨h1,h2⟩ IH
 dsimp only at h1 h2
 cases rest with
 | nil=>
  have hP:=drop_nil h1
  simp only [kV,Nat.add_zero]at h2
  rw [← h2]at hQ
  repeat' (first
 | simp only [go_sem,hP,hY,hZ,gA]
 | (with_reducible refine aF hQ ?_;simp only [az,aB,Option.some.injEq,exists_eq_left',go_sem,hP,hY,hZ,gA];repeat' (first | exact Ok.out | with_reducible refine aG ?_ ?_ | (simp;done))))
 | cons c rest=>
  obtain⟨hY,g2,hP,g4⟩:=drop_cons h1
  have hZ:k<4611686018427387904:=by omega
  cases hb:(oS c || nA c)
  ·simp only [kV,hb,Bool.false_eq_true, ↓reduceIte,Nat.add_zero]at h2
   rw [← h2]at hQ
   simp only [Bool.or_eq_false_iff]at hb
   repeat' (first
 | simp only [go_sem,hP,hY,hZ,gA,hb.1,hb.2]
 | (with_reducible refine CU (gL _ _) ?_)
 | (with_reducible refine CU (jj _ _) ?_)
 | (with_reducible refine aF hQ ?_;simp only [az,aB,Option.some.injEq,exists_eq_left',go_sem,hP,hY,hZ,gA];repeat' (first | exact Ok.out | with_reducible refine aG ?_ ?_ | (simp;done))))
  ·simp only [kV,hb, ↓reduceIte]at h2
   cases F5:oS c
   ·rw [F5,Bool.false_or]at hb
    repeat' (first
 | simp only [go_sem,hP,hY,hZ,gA,hb,F5]
 | (with_reducible refine CU (gL _ _) ?_)
 | (with_reducible refine CU (jj _ _) ?_)
 | (with_reducible refine aF hQ ?_;simp only [az,aB,Option.some.injEq,exists_eq_left',go_sem,hP,hY,hZ,gA];repeat' (first | exact Ok.out | with_reducible refine aG ?_ ?_ | (simp;done))))
    refine cM 0 0 (IH (rest,k+1) ⟨g2,by dsimp only;omega⟩ (Nat.lt_succ_self _))
   ·repeat' (first
 | simp only [go_sem,hP,hY,hZ,gA,F5]
 | (with_reducible refine CU (gL _ _) ?_)
 | (with_reducible refine CU (jj _ _) ?_)
 | (with_reducible refine aF hQ ?_;simp only [az,aB,Option.some.injEq,exists_eq_left',go_sem,hP,hY,hZ,gA];repeat' (first | exact Ok.out | with_reducible refine aG ?_ ?_ | (simp;done))))
    refine cM 0 0 (IH (rest,k+1) ⟨g2,by dsimp only;omega⟩ (Nat.lt_succ_self _))
theorem xh (text:ay) (a b:Nat):(text.take (a+b)).drop a=(text.drop a).take b:=by rw [List.drop_take];congr 1;omega
set_option maxRecDepth 20000 in
theorem Y8 {text : ay} {pos : Nat} {c : UInt8} {r : ay} (hd : text.drop pos = c :: r) (hl : text.length < 4611686018427387904) (s : St) :
   aD Tryz.prog xb [.str text, .int .i64 (pos : Int)] s (.int .i64 ((q7 (c :: r) : Nat) : Int)) s := by
 refine aD.pure ?_ rfl rfl s
 obtain ⟨hY, g2, g3, g4⟩ := drop_cons hd
 have hZ : pos < 4611686018427387904 := by omega
 have gA : 0 < 1 := Nat.zero_lt_one
 generalize h : q7 (c :: r) = k
 unfold S0
 cases r with
 | nil =>
   have hP : decide (((pos + 1 : Nat) : Int) < (text.length : Int)) = false := drop_nil g2
   simp only [q7, Fw] at h
   refine aD.go ze rfl fun B Q hB hQ => ?_
   repeat' (first
 | simp only [go_sem, hP, hY, hZ, gA]
 | (with_reducible first | refine br fun hc => ?_ | refine bt fun hc => ?_ | refine bu (fun hc => ?_) fun hc => ?_) <;> (try simp only [hc, bs, ↓reduceIte] at h) <;> try simp only [hc]
 | (with_reducible refine aF hQ ?_; exact lG)
 | (cases h; done))
 | cons d r =>
   obtain ⟨_, _, hP, _⟩ := drop_cons g2
   have e1 : (text.take (pos + 2)).drop pos = [c, d] := by rw [xh, hd]; rfl
   have e2 : (0 : Int) ≤ (pos : Int) ∧ (pos : Int) ≤ ((pos + 2 : Nat) : Int) ∧ ((pos + 2 : Nat) : Int) ≤ (text.length : Int) := by omega
   simp only [q7, Fw, UK] at h
   refine aD.go ze rfl fun B Q hB hQ => ?_
   repeat' (first
 | simp only [go_sem, hP, hY, hZ, gA, e1, e2]
 | (with_reducible first | refine br fun hc => ?_ | refine bt fun hc => ?_ | refine bu (fun hc => ?_) fun hc => ?_) <;> (try simp only [hc, bs, ↓reduceIte] at h) <;> try simp only [hc]
 | (with_reducible refine aF hQ ?_; (try cases h); simp only [az, aB, bB, bC, go_sem, hP, hY, hZ, gA, e1, e2]; try exact pV)
 | (cases h; done))
theorem Od {c:UInt8} (h:nA c=true):48≤(c.toNat:Int)∧(c.toNat:Int)≤57:=by
 simp only [nA,Bool.and_eq_true,decide_eq_true_eq]at h
 omega
def n4 (s:ay):Int×Bool:=match uP 0 s with | some n=>(n,true) | none=>(0,false)
theorem RA {text:ay} (hd : ∀ c∈text,nA c=true) (hl:text.length<4611686018427387904) (s:St) :
 aD Tryz.prog tB [.str text] s (.tuple [.int .i64 (n4 text).1, .bool (n4 text).2]) s:=by
 refine aD.pure ?_ rfl rfl s
 generalize hw:n4 text=p
 unfold S0
 refine aD.go Dk rfl fun B Q hB hQ=> ?_
 have⟨hP,hY,hZ,gA⟩:=bw
 repeat' (first
 | simp only [go_sem,hP,hY,hZ,gA]
 | (with_reducible first | refine br fun hc=> ?_ | refine bt fun hc=> ?_ | refine bu (fun hc=> ?_) fun hc=> ?_) <;> (try simp only [hc,bs, ↓reduceIte]at h) <;> try simp only [hc]
 | (with_reducible refine aF hQ ?_;exact lG)
 | (cases h;done))
 refine cM 0 0 (bj.ind (ι:=ay×Nat×Int) (fun i=>text.drop i.2.1=i.1∧0≤i.2.2∧i.2.2≤9223372036854775807∧(match uP i.2.2 i.1 with | some n=>(n,true) | none=>(0,false))=p) (fun i=>i.1.length)
  (fun i=> [(0, .str text),(4, .int .i64 i.2.2),(5, .int .i64 (i.2.1:Int))]) (fun i=>⟨[],[]⟩) ?_ (text,0,0) ⟨rfl,Int.le_refl 0,by dsimp only;omega,hw⟩)
 rintro⟨rest,k,n⟩ ⟨h1,h2,h3,h⟩ IH
 dsimp only at h1 h2 h3 h
 cases rest with
 | nil=>
  have hP:=drop_nil h1
  simp only [uP]at h
  repeat' (first
 | simp only [go_sem,hP,hY,hZ,gA]
 | (with_reducible first | refine br fun hc=> ?_ | refine bt fun hc=> ?_ | refine bu (fun hc=> ?_) fun hc=> ?_) <;> (try simp only [hc,bs, ↓reduceIte]at h) <;> try simp only [hc]
 | (with_reducible refine aF hQ ?_;exact lG)
 | (cases h;done))
 | cons c rest=>
  obtain⟨hY,g2,hP,g4⟩:=drop_cons h1
  have hZ:k<4611686018427387904:=by omega
  have hc:=Od (hd c (List.mem_of_getElem? hY))
  have w1:IntKind.wrap .u8 ((c.toNat:Int) - 48)=(c.toNat:Int) - 48:=by rw [IntKind.wrap_u8];omega
  have w2:IntKind.wrap .i64 ((c.toNat:Int) - 48)=(c.toNat:Int) - 48:=cY (by omega) (by omega)
  have w3:IntKind.wrap .i64 (9223372036854775807 - ((c.toNat:Int) - 48))=9223372036854775807 - ((c.toNat:Int) - 48):=cY (by omega) (by omega)
  have w4:IntKind.wrap .i64 ((9223372036854775807 - ((c.toNat:Int) - 48)).tdiv 10)=(9223372036854775807 - ((c.toNat:Int) - 48)) / 10:=by
   rw [Int.tdiv_eq_ediv_of_nonneg (by omega)];exact cY (by omega) (by omega)
  have t10:((10:Int)=0)=False:=by simp
  simp only [uP]at h
  by_cases hn:n > (9223372036854775807 - ((c.toNat:Int) - 48)) / 10
  ·have oM:decide (n > (9223372036854775807 - ((c.toNat:Int) - 48)) / 10)=true:=by simpa using hn
   rw [if_pos hn]at h
   repeat' (first
 | simp only [go_sem,hP,hY,hZ,gA,w1,w2,w3,w4,t10,oM]
 | (with_reducible first | refine br fun hc=> ?_ | refine bt fun hc=> ?_ | refine bu (fun hc=> ?_) fun hc=> ?_) <;> (try simp only [hc,bs, ↓reduceIte]at h) <;> try simp only [hc]
 | (with_reducible refine aF hQ ?_;(try cases h);simp only [az,aB,bB,bC,go_sem,hP,hY,hZ,gA,w1,w2,w3,w4,t10,oM];try exact pV)
 | (cases h;done))
  ·have oM:decide (n > (9223372036854775807 - ((c.toNat:Int) - 48)) / 10)=false:=by simpa using hn
   rw [if_neg hn]at h
   have w5:IntKind.wrap .i64 (n*10)=n*10:=cY (by omega) (by omega)
   have w6:IntKind.wrap .i64 (n*10+((c.toNat:Int) - 48))=n*10+((c.toNat:Int) - 48):=cY (by omega) (by omega)
   repeat' (first
 | simp only [go_sem,hP,hY,hZ,gA,w1,w2,w3,w4,t10,oM,w5,w6]
 | (with_reducible first | refine br fun hc=> ?_ | refine bt fun hc=> ?_ | refine bu (fun hc=> ?_) fun hc=> ?_) <;> (try simp only [hc,bs, ↓reduceIte]at h) <;> try simp only [hc]
 | (with_reducible refine aF hQ ?_;(try cases h);simp only [az,aB,bB,bC,go_sem,hP,hY,hZ,gA,w1,w2,w3,w4,t10,oM,w5,w6];try exact pV)
 | (cases h;done))
   refine cM 0 0 (IH (rest,k+1,n*10+((c.toNat:Int) - 48)) ⟨g2,by dsimp only;omega,by dsimp only;omega,h⟩ (Nat.lt_succ_self _))
end Go.Abs

/-! Lex2 -/

namespace Go.Abs
set_option maxRecDepth 8000
open Go.Proofs
theorem RB {c:UInt8} {r:ay} (h:oS c=true):0<kV (c::r):=by simp [kV,h]
theorem He : ∀ s:ay,kV s≤s.length
 | []=>Nat.le_refl _
 | c::r=>by simp only [kV];split <;> simp only [List.length_cons] <;> have:=He r <;> omega
theorem Hf : ∀ s:ay,qh s≤s.length
 | []=>Nat.le_refl _
 | c::r=>by simp only [qh];split <;> simp only [List.length_cons] <;> have:=Hf r <;> omega
theorem D3 : ∀ s:ay,nB s≤s.length
 | []=>Nat.le_refl _
 | c::r=>by simp only [nB];split <;> simp only [List.length_cons] <;> have:=D3 r <;> omega
theorem Oe : ∀ s:ay,q7 s≤s.length
 | []=>Nat.le_refl _
 | [c]=>by simp only [q7];split <;> simp
 | c::d::r=>by simp only [q7];(repeat' split) <;> simp
theorem Hg : ∀ (s:ay),∀ c∈s.take (qh s),nA c=true
 | [],c,h=>by simp [qh]at h
 | d::r,c,h=>by
  simp only [qh]at h
  split at h
  ·rw [List.take_succ_cons]at h
   rcases List.mem_cons.1 h with rfl | h
   ·assumption
   ·exact Hg r c h
  ·simp at h
def l8 (f:Int×Int):List D:= [.int .i64 f.1, .int .i64 f.2]
def nC (text:ay) (out:List bM) (pos:Nat):Tm:= [(0, .str text),(3, .ptr 0 0),(4, .slice (.tok 0) 4 (out.map dX)),(5, .ptr 1 0),(6, .int .i64 (pos:Int))]
def oh (out:List bM):St:=⟨[[.int .i64 0, .int .i64 0],[.junk, .junk, .junk, .junk]],[some out.length]⟩
theorem Og {c:UInt8} {r:ay} (h:((c.toNat:Int)==35)=true):0<nB (c::r):=by
 have:((c.toNat:Int) != 10)=true:=by simp only [beq_iff_eq]at h;simp [h]
 simp [nB,this]
def q8 (text:ay) (B:fj) (Q:Exit→Tm→St→Prop) (p:List bM×Int×Int) (N:Nat):Prop:=
 ∀ (n pos:Nat) (rest:ay) (out:List bM),text.drop pos=rest→mH n pos rest out=p→rest.length<n→out.length≤2000→pos≤text.length→n<N→
  nf Tryz.prog B 152 tL (.seq .skip yY) Q (nC text out pos) (oh out)
theorem q8.to {text:ay} {B:fj} {Q:Exit→Tm→St→Prop} {p:List bM×Int×Int} {N:Nat} (hB:B.s=S0) (IH:q8 text B Q p N) {n pos:Nat} {rest:ay} {out:List bM} {tm:Tm} {s:St}
 (h1:text.drop pos=rest) (h:mH n pos rest out=p) (h2:rest.length<n) (h3:out.length≤2000) (h4:pos≤text.length) (h5:n<N)
 (ht:su tm 2 1 (nC text out pos)) (ho:gT (s.cut 2 1).aA (oh out).aA) (hk:(s.cut 2 1).aC=(oh out).aC) :
 jm Tryz.prog B 152 tL Q (.goto 0) tm s:=by
 refine QC (l:=0) (r:= .seq .skip yY) rfl (nf.re _ _ 2 1 (by rw [hB];exact lF rfl) (by rw [hB];exact lF rfl) ht ho ?_)
 have:=IH n pos rest out h1 h h2 h3 h4 h5
 rw [hk]
 exact this
attribute [go_sem] nC oh l8
theorem lex_nil {text:ay} (hl:text.length≤100000) {B:fj} {Q:Exit→Tm→St→Prop} {p:List bM×Int×Int} (hB:B.s=S0)
 (hQ:ig 0 0 [(2,none),(3,some (true,2))] (.tuple [.slice .shared 4 (p.1.map dX), .agg (l8 p.2)]) ⟨[],[]⟩=Q)
 {n pos:Nat} {out:List bM} (ho:out.length≤2000) (hp:pos≤text.length) (IH:q8 text B Q p (n+1))
 (h1:text.drop pos = []) (h:mH (n+1) pos [] out=p):gB Tryz.prog B 152 yY (jm Tryz.prog B 152 tL Q) (nC text out pos) (oh out):=by
 have⟨hP,hY,hZ,gA⟩:=bw
 have eU:(out.length+1)*41≤bx:=by simp only [bx];omega
 have eB:decide ((pos:Int)≥(text.length:Int))=true:=by have:=List.drop_eq_nil_iff.1 h1;simp;omega
 have:pos=text.length:=by have:=List.drop_eq_nil_iff.1 h1;omega
 subst this
 simp only [mH]at h
 repeat' (first
 | simp only [go_sem,hP,hY,hZ,gA,eB,eU]
 | (with_reducible first | refine br fun hc=> ?_ | refine bt fun hc=> ?_ | refine bu (fun hc=> ?_) fun hc=> ?_) <;> (try simp only [hc,bs, ↓reduceIte]at h) <;> try simp only [hc]
 | (with_reducible refine aF hQ ?_;(try cases h);simp only [az,aB,bB,bC,go_sem,hP,hY,hZ,gA,eB,eU];repeat' (first | exact Ok.out | with_reducible refine aG ?_ ?_ | (simp;done))))
theorem Oh {text:ay} (hl:text.length≤100000) {B:fj} {Q:Exit→Tm→St→Prop} {p:List bM×Int×Int} (hB:B.s=S0)
 (hQ:ig 0 0 [(2,none),(3,some (true,2))] (.tuple [.slice .shared 4 (p.1.map dX), .agg (l8 p.2)]) ⟨[],[]⟩=Q)
 {n pos:Nat} {out:List bM} (ho:out.length≤2000) (hp:pos≤text.length) (IH:q8 text B Q p (n+1))
 {c:UInt8} {r:ay} (h1:text.drop pos=c::r) (hb:tO c=true) (hn:(c::r).length<n+1) (h:mH (n+1) pos (c::r) out=p) :
 gB Tryz.prog B 152 yY (jm Tryz.prog B 152 tL Q) (nC text out pos) (oh out):=by
 have hZ:0<1:=Nat.zero_lt_one
 have gA:0<1:=Nat.zero_lt_one
 obtain⟨hY,g2,g3,g4⟩:=drop_cons h1
 have hP:pos<4611686018427387904:=by omega
 have eB:decide ((pos:Int)≥(text.length:Int))=false:=by simp;omega
 simp only [mH,hb, ↓reduceIte]at h
 have oM:r.length<n:=by simp only [List.length_cons]at hn;omega
 have e : ∀ x y:Int,(x==y)=false→(x==y)=true→False:=fun x y a b=>by rw [a]at b;cases b
 simp only [tO]at hb
 repeat' (first
 | simp only [go_sem,hP,hY,hZ,gA,eB]
 | (refine IH.to hB g2 h oM ho g4 (Nat.lt_succ_self _) ?_ ?_ ?_ <;> ((try simp only [go_sem,hP,hY,hZ,gA]);repeat' (first | exact Ok.out | with_reducible refine aG ?_ ?_ | omega | (simp;done)));done)
 | (with_reducible first | refine br fun hc=> ?_ | refine bt fun hc=> ?_ | refine bu (fun hc=> ?_) fun hc=> ?_) <;> (try simp only [hc,bs, ↓reduceIte]at h) <;> try simp only [hc]
 | (with_reducible refine aF hQ ?_;simp only [az,aB,bB,bC,go_sem,hP,hY,hZ,gA];repeat' (first | exact Ok.out | with_reducible refine aG ?_ ?_ | (simp;done))))
 all_goals (exfalso;simp_all;done)
theorem LU {text:ay} (hl:text.length≤100000) {B:fj} {Q:Exit→Tm→St→Prop} {p:List bM×Int×Int} (hB:B.s=S0)
 (hQ:ig 0 0 [(2,none),(3,some (true,2))] (.tuple [.slice .shared 4 (p.1.map dX), .agg (l8 p.2)]) ⟨[],[]⟩=Q)
 {n pos:Nat} {out:List bM} (ho:out.length≤2000) (hp:pos≤text.length) (IH:q8 text B Q p (n+1))
 {c:UInt8} {r:ay} (h1:text.drop pos=c::r) (hb:tO c=false) (hc:((c.toNat:Int)==35)=true) (hn:(c::r).length<n+1) (h:mH (n+1) pos (c::r) out=p) :
 gB Tryz.prog B 152 yY (jm Tryz.prog B 152 tL Q) (nC text out pos) (oh out):=by
 have hZ:0<1:=Nat.zero_lt_one
 have gA:0<1:=Nat.zero_lt_one
 have acJ:=(drop_cons h1).1
 have hY:=acJ
 have g4:=(drop_cons h1).2.2.2
 have hP:pos<4611686018427387904:=by omega
 have eB:decide ((pos:Int)≥(text.length:Int))=false:=by simp;omega
 simp only [mH,hb,Bool.false_eq_true, ↓reduceIte,hc]at h
 simp only [tO,Bool.or_eq_false_iff]at hb
 have hk:=Og (r:=r) hc
 have cz:=D3 (c::r)
 have rI:(c::r).length=text.length - pos:=by rw [← h1,List.length_drop]
 generalize hL:nB (c::r)=L at h hk cz
 repeat' (first
 | simp only [go_sem,hP,hY,hZ,gA,eB,hb.1.1.1,hb.1.1.2,hb.1.2,hb.2,hc]
 | (with_reducible refine bT (l:=1) (by with_unfolding_all rfl) ?_)
 | (with_reducible refine aF hQ ?_;simp only [az,aB,Option.some.injEq,exists_eq_left',go_sem,hP,hY,hZ,gA];repeat' (first | exact Ok.out | with_reducible refine aG ?_ ?_ | (simp;done))))
 refine cM 2 1 (bj.ind (ι:=ay×Nat) (fun i=>text.drop i.2=i.1∧i.2+nB i.1=pos+L) (fun i=>i.1.length)
  (fun i=>nC text out i.2) (fun i=>oh out) ?_ (c::r,pos) ⟨h1,by dsimp only;omega⟩)
 rintro⟨rest,k⟩ ⟨j1,j2⟩ Za
 dsimp only at j1 j2
 have fin:text.drop (pos+L)=(c::r).drop L:=by rw [← h1,List.drop_drop]
 have hlen:((c::r).drop L).length<n:=by rw [List.length_drop];omega
 cases rest with
 | nil=>
  have eB:=drop_nil j1
  simp only [nB,Nat.add_zero]at j2
  subst j2
  repeat' (first
 | simp only [go_sem,hP,hY,hZ,gA,eB]
 | (refine IH.to hB fin h hlen ho (by omega) (Nat.lt_succ_self _) ?_ ?_ ?_ <;> ((try simp only [go_sem,hP,hY,hZ,gA]);repeat' (first | exact Ok.out | with_reducible refine aG ?_ ?_ | omega | (simp;done)));done)
 | (with_reducible refine aF hQ ?_;simp only [az,aB,Option.some.injEq,exists_eq_left',go_sem,hP,hY,hZ,gA];repeat' (first | exact Ok.out | with_reducible refine aG ?_ ?_ | (simp;done))))
 | cons d rest=>
  obtain⟨hY,g2,eB,g5⟩:=drop_cons j1
  have hP:k<4611686018427387904:=by omega
  cases hd:((d.toNat:Int) != 10)
  ·simp only [nB,hd,Bool.false_eq_true, ↓reduceIte,Nat.add_zero]at j2
   subst j2
   repeat' (first
 | simp only [go_sem,hP,hY,hZ,gA,eB,hd]
 | (refine IH.to hB fin h hlen ho (by omega) (Nat.lt_succ_self _) ?_ ?_ ?_ <;> ((try simp only [go_sem,hP,hY,hZ,gA]);repeat' (first | exact Ok.out | with_reducible refine aG ?_ ?_ | omega | (simp;done)));done)
 | (with_reducible refine aF hQ ?_;simp only [az,aB,Option.some.injEq,exists_eq_left',go_sem,hP,hY,hZ,gA];repeat' (first | exact Ok.out | with_reducible refine aG ?_ ?_ | (simp;done))))
  ·simp only [nB,hd, ↓reduceIte]at j2
   repeat' (first
 | simp only [go_sem,hP,hY,hZ,gA,eB,hd]
 | (with_reducible refine aF hQ ?_;simp only [az,aB,Option.some.injEq,exists_eq_left',go_sem,hP,hY,hZ,gA];repeat' (first | exact Ok.out | with_reducible refine aG ?_ ?_ | (simp;done))))
   refine cM 2 1 (Za (rest,k+1) ⟨g2,by dsimp only;omega⟩ (Nat.lt_succ_self _))
theorem RC {text:ay} (hl:text.length≤100000) {B:fj} {Q:Exit→Tm→St→Prop} {p:List bM×Int×Int} (hB:B.s=S0)
 (hQ:ig 0 0 [(2,none),(3,some (true,2))] (.tuple [.slice .shared 4 (p.1.map dX), .agg (l8 p.2)]) ⟨[],[]⟩=Q)
 {n pos:Nat} {out:List bM} (ho:out.length≤2000) (hp:pos≤text.length) (IH:q8 text B Q p (n+1))
 {c:UInt8} {r:ay} (h1:text.drop pos=c::r) (hb:tO c=false) (hc:((c.toNat:Int)==35)=false) (hL:oS c=false) (hD:nA c=false) (hn:(c::r).length<n+1) (h:mH (n+1) pos (c::r) out=p) :
 gB Tryz.prog B 152 yY (jm Tryz.prog B 152 tL Q) (nC text out pos) (oh out):=by
 have hZ:0<1:=Nat.zero_lt_one
 have gA:0<1:=Nat.zero_lt_one
 have hY:=(drop_cons h1).1
 have g4:=(drop_cons h1).2.2.2
 have hP:pos<4611686018427387904:=by omega
 have eB:decide ((pos:Int)≥(text.length:Int))=false:=by simp;omega
 have eU:(out.length+1)*41≤bx:=by simp only [bx];omega
 have Fx:=fun s=>Y8 h1 (by omega) s
 have cz:=Oe (c::r)
 have rI:(c::r).length=text.length - pos:=by rw [← h1,List.length_drop]
 simp only [mH,hb,Bool.false_eq_true, ↓reduceIte,hc,Dp,hL,hD]at h
 simp only [tO,Bool.or_eq_false_iff]at hb
 generalize hK:q7 (c::r)=k at h Fx cz
 have e1:IntKind.wrap .i64 ((pos:Int)+(k:Int))=((pos+k:Nat):Int):=by rw [cY] <;> omega
 have e2:(0:Int)≤(pos:Int)∧(pos:Int)≤((pos+k:Nat):Int)∧((pos+k:Nat):Int)≤(text.length:Int):=by omega
 have e3:(text.take (pos+k)).drop pos=(c::r).take k:=by rw [xh,h1]
 by_cases hz:k=0
 ·have mW:decide (((pos+k:Nat):Int) > (pos:Int))=false:=by simp;omega
  simp only [hz, ↓reduceIte]at h
  repeat' (first
 | simp only [go_sem,hP,hY,hZ,gA,eB,hb.1.1.1,hb.1.1.2,hb.1.2,hb.2,hc,hL,hD,e1,e2,e3,mW]
 | (with_reducible refine CU (gL _ _) ?_)
 | (with_reducible refine CU (jj _ _) ?_)
 | (with_reducible refine CU (Fx _) ?_)
 | (with_reducible refine bT (l:=4) (by with_unfolding_all rfl) ?_)
 | (with_reducible refine bT (l:=5) (by with_unfolding_all rfl) ?_)
 | (with_reducible first | refine br fun hc=> ?_ | refine bt fun hc=> ?_ | refine bu (fun hc=> ?_) fun hc=> ?_) <;> (try simp only [hc,bs, ↓reduceIte]at h) <;> try simp only [hc]
 | (with_reducible refine aF hQ ?_;(try cases h);simp only [az,aB,bB,bC,go_sem,hP,hY,hZ,gA,eB,hb.1.1.1,hb.1.1.2,hb.1.2,hb.2,hc,hL,hD,e1,e2,e3,mW];repeat' (first | exact Ok.out | with_reducible refine aG ?_ ?_ | (simp;done))))
 ·have mW:decide (((pos+k:Nat):Int) > (pos:Int))=true:=by simp;omega
  have hlen:((c::r).take k).length=k:=by rw [List.length_take];omega
  have fin:text.drop (pos+k)=(c::r).drop k:=by rw [← h1,List.drop_drop]
  have sO:((c::r).drop k).length<n:=by rw [List.length_drop];omega
  simp only [hz, ↓reduceIte,hlen]at h
  by_cases qA:out.length=2000
  ·have jC:((out.length:Int)==2000)=true:=by simp [qA]
   simp only [qA, ↓reduceIte]at h
   repeat' (first
 | simp only [go_sem,hP,hY,hZ,gA,eB,hb.1.1.1,hb.1.1.2,hb.1.2,hb.2,hc,hL,hD,e1,e2,e3,mW,jC]
 | (with_reducible refine CU (gL _ _) ?_)
 | (with_reducible refine CU (jj _ _) ?_)
 | (with_reducible refine CU (Fx _) ?_)
 | (with_reducible refine bT (l:=4) (by with_unfolding_all rfl) ?_)
 | (with_reducible refine bT (l:=5) (by with_unfolding_all rfl) ?_)
 | (with_reducible first | refine br fun hc=> ?_ | refine bt fun hc=> ?_ | refine bu (fun hc=> ?_) fun hc=> ?_) <;> (try simp only [hc,bs, ↓reduceIte]at h) <;> try simp only [hc]
 | (with_reducible refine aF hQ ?_;(try cases h);simp only [az,aB,bB,bC,go_sem,hP,hY,hZ,gA,eB,hb.1.1.1,hb.1.1.2,hb.1.2,hb.2,hc,hL,hD,e1,e2,e3,mW,jC];repeat' (first | exact Ok.out | with_reducible refine aG ?_ ?_ | (simp;done))))
  ·have jC:((out.length:Int)==2000)=false:=by simp;omega
   have AN : ∀ t:bM,(out++ [t]).length≤2000:=by intro t;simp;omega
   simp only [qA, ↓reduceIte]at h
   repeat' (first
 | simp only [go_sem,hP,hY,hZ,gA,eB,hb.1.1.1,hb.1.1.2,hb.1.2,hb.2,hc,hL,hD,e1,e2,e3,mW,jC,eU]
 | (with_reducible refine CU (gL _ _) ?_)
 | (with_reducible refine CU (jj _ _) ?_)
 | (with_reducible refine CU (Fx _) ?_)
 | (with_reducible refine bT (l:=4) (by with_unfolding_all rfl) ?_)
 | (with_reducible refine bT (l:=5) (by with_unfolding_all rfl) ?_)
 | (refine IH.to hB fin h sO (AN _) (by omega) (Nat.lt_succ_self _) ?_ ?_ ?_ <;> ((try simp only [go_sem,hP,hY,hZ,gA]);repeat' (first | exact Ok.out | with_reducible refine aG ?_ ?_ | omega | (simp;done)));done)
 | (with_reducible refine aF hQ ?_;simp only [az,aB,bB,bC,go_sem,hP,hY,hZ,gA];repeat' (first | exact Ok.out | with_reducible refine aG ?_ ?_ | (simp;done))))
theorem RE {text:ay} (hl:text.length≤100000) {B:fj} {Q:Exit→Tm→St→Prop} {p:List bM×Int×Int} (hB:B.s=S0)
 (hQ:ig 0 0 [(2,none),(3,some (true,2))] (.tuple [.slice .shared 4 (p.1.map dX), .agg (l8 p.2)]) ⟨[],[]⟩=Q)
 {n pos:Nat} {out:List bM} (ho:out.length≤2000) (hp:pos≤text.length) (IH:q8 text B Q p (n+1))
 {c:UInt8} {r:ay} (h1:text.drop pos=c::r) (hb:tO c=false) (hc:((c.toNat:Int)==35)=false) (hL:oS c=true) (hn:(c::r).length<n+1) (h:mH (n+1) pos (c::r) out=p) :
 gB Tryz.prog B 152 yY (jm Tryz.prog B 152 tL Q) (nC text out pos) (oh out):=by
 have hZ:0<1:=Nat.zero_lt_one
 have gA:0<1:=Nat.zero_lt_one
 have hY:=(drop_cons h1).1
 have g4:=(drop_cons h1).2.2.2
 have hP:pos<4611686018427387904:=by omega
 have eB:decide ((pos:Int)≥(text.length:Int))=false:=by simp;omega
 have eU:(out.length+1)*41≤bx:=by simp only [bx];omega
 have dF:=fun s=>UL (text:=text) (pos:=pos) (by omega) s
 rw [h1]at dF
 have cz:=He (c::r)
 have ta:=RB (r:=r) hL
 have rI:(c::r).length=text.length - pos:=by rw [← h1,List.length_drop]
 simp only [mH,hb,Bool.false_eq_true, ↓reduceIte,hc,Dp,hL]at h
 simp only [tO,Bool.or_eq_false_iff]at hb
 generalize hK:kV (c::r)=k at h dF cz ta
 have hlen:((c::r).take k).length=k:=by rw [List.length_take];omega
 simp only [hlen]at h
 have e1:IntKind.wrap .i64 (((pos+k:Nat):Int) - (pos:Int))=(k:Int):=by rw [cY] <;> omega
 have e2:(0:Int)≤(pos:Int)∧(pos:Int)≤((pos+k:Nat):Int)∧((pos+k:Nat):Int)≤(text.length:Int):=by omega
 have e3:(text.take (pos+k)).drop pos=(c::r).take k:=by rw [xh,h1]
 by_cases hz:k > 8
 ·have mW:decide ((k:Int) > 8)=true:=by simp;omega
  simp only [hz, ↓reduceIte]at h
  cases hw:isWord ((c::r).take k)
  ·repeat' (first
 | simp only [go_sem,hP,hY,hZ,gA,eB,hb.1.1.1,hb.1.1.2,hb.1.2,hb.2,hc,hL,e1,e2,e3,mW,hw]
 | (with_reducible refine CU (gL _ _) ?_)
 | (with_reducible refine CU (dF _) ?_)
 | (with_reducible refine CU (tQ _ _) ?_)
 | (with_reducible refine bT (l:=2) (by with_unfolding_all rfl) ?_)
 | (with_reducible refine bT (l:=4) (by with_unfolding_all rfl) ?_)
 | (with_reducible refine bT (l:=5) (by with_unfolding_all rfl) ?_)
 | (with_reducible first | refine br fun hc=> ?_ | refine bt fun hc=> ?_ | refine bu (fun hc=> ?_) fun hc=> ?_) <;> (try simp only [hc,bs, ↓reduceIte]at h) <;> try simp only [hc]
 | (with_reducible refine aF hQ ?_;(try cases h);simp only [az,aB,bB,bC,go_sem,hP,hY,hZ,gA,eB,hb.1.1.1,hb.1.1.2,hb.1.2,hb.2,hc,hL,e1,e2,e3,mW,hw];repeat' (first | exact Ok.out | with_reducible refine aG ?_ ?_ | (simp;done))))
  ·repeat' (first
 | simp only [go_sem,hP,hY,hZ,gA,eB,hb.1.1.1,hb.1.1.2,hb.1.2,hb.2,hc,hL,e1,e2,e3,mW,hw]
 | (with_reducible refine CU (gL _ _) ?_)
 | (with_reducible refine CU (dF _) ?_)
 | (with_reducible refine CU (tQ _ _) ?_)
 | (with_reducible refine bT (l:=2) (by with_unfolding_all rfl) ?_)
 | (with_reducible refine bT (l:=4) (by with_unfolding_all rfl) ?_)
 | (with_reducible refine bT (l:=5) (by with_unfolding_all rfl) ?_)
 | (with_reducible first | refine br fun hc=> ?_ | refine bt fun hc=> ?_ | refine bu (fun hc=> ?_) fun hc=> ?_) <;> (try simp only [hc,bs, ↓reduceIte]at h) <;> try simp only [hc]
 | (with_reducible refine aF hQ ?_;(try cases h);simp only [az,aB,bB,bC,go_sem,hP,hY,hZ,gA,eB,hb.1.1.1,hb.1.1.2,hb.1.2,hb.2,hc,hL,e1,e2,e3,mW,hw];repeat' (first | exact Ok.out | with_reducible refine aG ?_ ?_ | (simp;done))))
 ·have mW:decide ((k:Int) > 8)=false:=by simp;omega
  have fin:text.drop (pos+k)=(c::r).drop k:=by rw [← h1,List.drop_drop]
  have sO:((c::r).drop k).length<n:=by rw [List.length_drop];omega
  simp only [hz, ↓reduceIte,hlen]at h
  by_cases qA:out.length=2000
  ·have jC:((out.length:Int)==2000)=true:=by simp [qA]
   simp only [qA, ↓reduceIte]at h
   cases hw:isWord ((c::r).take k)
   ·repeat' (first
 | simp only [go_sem,hP,hY,hZ,gA,eB,hb.1.1.1,hb.1.1.2,hb.1.2,hb.2,hc,hL,e1,e2,e3,mW,jC,hw]
 | (with_reducible refine CU (gL _ _) ?_)
 | (with_reducible refine CU (dF _) ?_)
 | (with_reducible refine CU (tQ _ _) ?_)
 | (with_reducible refine bT (l:=2) (by with_unfolding_all rfl) ?_)
 | (with_reducible refine bT (l:=4) (by with_unfolding_all rfl) ?_)
 | (with_reducible refine bT (l:=5) (by with_unfolding_all rfl) ?_)
 | (with_reducible first | refine br fun hc=> ?_ | refine bt fun hc=> ?_ | refine bu (fun hc=> ?_) fun hc=> ?_) <;> (try simp only [hc,bs, ↓reduceIte]at h) <;> try simp only [hc]
 | (with_reducible refine aF hQ ?_;(try cases h);simp only [az,aB,bB,bC,go_sem,hP,hY,hZ,gA,eB,hb.1.1.1,hb.1.1.2,hb.1.2,hb.2,hc,hL,e1,e2,e3,mW,jC,hw];repeat' (first | exact Ok.out | with_reducible refine aG ?_ ?_ | (simp;done))))
   ·repeat' (first
 | simp only [go_sem,hP,hY,hZ,gA,eB,hb.1.1.1,hb.1.1.2,hb.1.2,hb.2,hc,hL,e1,e2,e3,mW,jC,hw]
 | (with_reducible refine CU (gL _ _) ?_)
 | (with_reducible refine CU (dF _) ?_)
 | (with_reducible refine CU (tQ _ _) ?_)
 | (with_reducible refine bT (l:=2) (by with_unfolding_all rfl) ?_)
 | (with_reducible refine bT (l:=4) (by with_unfolding_all rfl) ?_)
 | (with_reducible refine bT (l:=5) (by with_unfolding_all rfl) ?_)
 | (with_reducible first | refine br fun hc=> ?_ | refine bt fun hc=> ?_ | refine bu (fun hc=> ?_) fun hc=> ?_) <;> (try simp only [hc,bs, ↓reduceIte]at h) <;> try simp only [hc]
 | (with_reducible refine aF hQ ?_;(try cases h);simp only [az,aB,bB,bC,go_sem,hP,hY,hZ,gA,eB,hb.1.1.1,hb.1.1.2,hb.1.2,hb.2,hc,hL,e1,e2,e3,mW,jC,hw];repeat' (first | exact Ok.out | with_reducible refine aG ?_ ?_ | (simp;done))))
  ·have jC:((out.length:Int)==2000)=false:=by simp;omega
   have AN : ∀ t:bM,(out++ [t]).length≤2000:=by intro t;simp;omega
   simp only [qA, ↓reduceIte]at h
   cases hw:isWord ((c::r).take k)
   ·simp only [hw,Bool.false_eq_true, ↓reduceIte]at h
    repeat' (first
 | simp only [go_sem,hP,hY,hZ,gA,eB,hb.1.1.1,hb.1.1.2,hb.1.2,hb.2,hc,hL,e1,e2,e3,mW,jC,eU,hw]
 | (with_reducible refine CU (gL _ _) ?_)
 | (with_reducible refine CU (dF _) ?_)
 | (with_reducible refine CU (tQ _ _) ?_)
 | (with_reducible refine bT (l:=2) (by with_unfolding_all rfl) ?_)
 | (with_reducible refine bT (l:=4) (by with_unfolding_all rfl) ?_)
 | (with_reducible refine bT (l:=5) (by with_unfolding_all rfl) ?_)
 | (refine IH.to hB fin h sO (AN _) (by omega) (Nat.lt_succ_self _) ?_ ?_ ?_ <;> ((try simp only [go_sem,hP,hY,hZ,gA]);repeat' (first | exact Ok.out | with_reducible refine aG ?_ ?_ | omega | (simp;done)));done)
 | (with_reducible first | refine br fun hc=> ?_ | refine bt fun hc=> ?_ | refine bu (fun hc=> ?_) fun hc=> ?_) <;> (try simp only [hc,bs, ↓reduceIte]at h) <;> try simp only [hc]
 | (with_reducible refine aF hQ ?_;(try cases h);simp only [az,aB,bB,bC,go_sem,hP,hY,hZ,gA,eB,hb.1.1.1,hb.1.1.2,hb.1.2,hb.2,hc,hL,e1,e2,e3,mW,jC,eU,hw];repeat' (first | exact Ok.out | with_reducible refine aG ?_ ?_ | (simp;done))))
   ·simp only [hw, ↓reduceIte]at h
    repeat' (first
 | simp only [go_sem,hP,hY,hZ,gA,eB,hb.1.1.1,hb.1.1.2,hb.1.2,hb.2,hc,hL,e1,e2,e3,mW,jC,eU,hw]
 | (with_reducible refine CU (gL _ _) ?_)
 | (with_reducible refine CU (dF _) ?_)
 | (with_reducible refine CU (tQ _ _) ?_)
 | (with_reducible refine bT (l:=2) (by with_unfolding_all rfl) ?_)
 | (with_reducible refine bT (l:=4) (by with_unfolding_all rfl) ?_)
 | (with_reducible refine bT (l:=5) (by with_unfolding_all rfl) ?_)
 | (refine IH.to hB fin h sO (AN _) (by omega) (Nat.lt_succ_self _) ?_ ?_ ?_ <;> ((try simp only [go_sem,hP,hY,hZ,gA]);repeat' (first | exact Ok.out | with_reducible refine aG ?_ ?_ | omega | (simp;done)));done)
 | (with_reducible refine aF hQ ?_;simp only [az,aB,bB,bC,go_sem,hP,hY,hZ,gA];repeat' (first | exact Ok.out | with_reducible refine aG ?_ ?_ | (simp;done))))
end Go.Abs

/-! RefLex1 -/

namespace Go.Abs
set_option maxRecDepth 8000
open Go.Proofs
theorem Hh (c:UInt8) (s:St):aD Tryz.prog qc [.int .u8 (c.toNat:Int)] s (.bool (oS c)) s:=by
 refine aD.pure ?_ rfl rfl s
 generalize h:oS c=b
 unfold oS at h
 unfold S0
 refine aD.go Df rfl fun B Q hB hQ=> ?_
 have⟨hP,hY,hZ,gA⟩:=bw
 repeat' (first
 | simp only [go_sem,hP,hY,hZ,gA]
 | (with_reducible first | refine br fun hc=> ?_ | refine bt fun hc=> ?_ | refine bu (fun hc=> ?_) fun hc=> ?_) <;> (try simp only [hc,bs, ↓reduceIte]at h) <;> try simp only [hc]
 | (with_reducible refine aF hQ ?_;(try cases h);simp only [az,aB,bB,bC,go_sem,hP,hY,hZ,gA];repeat' (first | exact Ok.out | with_reducible refine aG ?_ ?_ | (simp;done))))
theorem RF (c:UInt8) (s:St):aD Tryz.prog tD [.int .u8 (c.toNat:Int)] s (.bool (nA c)) s:=by
 refine aD.pure ?_ rfl rfl s
 generalize h:nA c=b
 unfold nA at h
 unfold S0
 refine aD.go Dg rfl fun B Q hB hQ=> ?_
 have⟨hP,hY,hZ,gA⟩:=bw
 repeat' (first
 | simp only [go_sem,hP,hY,hZ,gA]
 | (with_reducible first | refine br fun hc=> ?_ | refine bt fun hc=> ?_ | refine bu (fun hc=> ?_) fun hc=> ?_) <;> (try simp only [hc,bs, ↓reduceIte]at h) <;> try simp only [hc]
 | (with_reducible refine aF hQ ?_;(try cases h);simp only [az,aB,bB,bC,go_sem,hP,hY,hZ,gA];repeat' (first | exact Ok.out | with_reducible refine aG ?_ ?_ | (simp;done))))
theorem V8 (s:St):aD Tryz.prog tF [] s (.slice .shared 1 [[.str [103,108,111,98,97,108]],[.str [112,114,111,99]],[.str [118,97,114]],[.str [114,101,102]],[.str [105,102]],[.str [101,108,115,101]],[.str [119,104,105,108,101]],[.str [98,114,101,97,107]],[.str [99,111,110,116,105,110,117,101]],[.str [114,101,116,117,114,110]],[.str [103,111,116,111]],[.str [114,101,97,100]],[.str [112,114,105,110,116]]]) s:=by
 refine aD.pure ?_ rfl rfl s
 unfold S0
 refine aD.go Dh rfl fun B Q hB hQ=> ?_
 have⟨hP,hY,hZ,gA⟩:=bw
 repeat' (first
 | simp only [go_sem,hP,hY,hZ,gA]
 | (with_reducible refine aF hQ ?_;simp only [az,aB,Option.some.injEq,exists_eq_left',go_sem,hP,hY,hZ,gA];repeat' (first | exact Ok.out | with_reducible refine aG ?_ ?_ | (simp;done))))
def zY (s:ay):Bool:=
 [103,108,111,98,97,108] == s || [112,114,111,99] == s || [118,97,114] == s || [114,101,102] == s || [105,102] == s || [101,108,115,101] == s || [119,104,105,108,101] == s || [98,114,101,97,107] == s || [99,111,110,116,105,110,117,101] == s || [114,101,116,117,114,110] == s || [103,111,116,111] == s || [114,101,97,100] == s || [112,114,105,110,116] == s
theorem LV (s:ay):zY s=isWord s:=by
 have e : ∀ a:ay,(a==s)=(s==a):=fun a=>BEq.comm
 simp only [zY,isWord,e]
theorem V9 (text:ay) (s:St):aD Tryz.prog vC [.str text] s (.bool (isWord text)) s:=by
 refine aD.pure ?_ rfl rfl s
 rw [← LV]
 generalize h:zY text=p
 unfold zY at h
 unfold S0
 refine aD.go E7 rfl fun B Q hB hQ=> ?_
 have⟨hP,hY,hZ,gA⟩:=bw
 repeat' (first
 | simp only [go_sem,hP,hY,hZ,gA,Int.cast_ofNat_Int,cY,Int.reduceAdd,Int.reduceLT,Int.reduceNeg,decide_true,decide_false,Int.reduceToNat]
 | (with_reducible refine CU (V8 _) ?_)
 | (with_reducible refine bj.uI ?_)
 | (with_reducible first | refine br fun hc=> ?_ | refine bt fun hc=> ?_ | refine bu (fun hc=> ?_) fun hc=> ?_) <;> (try simp only [hc,bs, ↓reduceIte]at h) <;> try simp only [hc]
 | (with_reducible refine aF hQ ?_;(try cases h);simp only [az,aB,bB,bC,go_sem,hP,hY,hZ,gA,Int.cast_ofNat_Int,cY,Int.reduceAdd,Int.reduceLT,Int.reduceNeg,decide_true,decide_false,Int.reduceToNat];repeat' (first | exact Ok.out | with_reducible refine aG ?_ ?_ | (simp;done))))
end Go.Abs

/-! Prs2 -/

namespace Go.Abs
set_option maxRecDepth 8000
open Go.Proofs
theorem alb {t:bM} {p:Int×Int} (h:mB t=p):aD Tryz.prog sM [.agg (dX t)] S0 (.tuple [.int .i64 p.1, .int .i64 p.2]) S0:=by
 unfold mB at h
 unfold S0
 refine aD.go Hc rfl fun B Q hB hQ=> ?_
 have⟨hP,hY,hZ,gA⟩:=bw
 repeat' (first
 | simp only [go_sem,hP,hY,hZ,gA]
 | (with_reducible first | refine br fun hc=> ?_ | refine bt fun hc=> ?_ | refine bu (fun hc=> ?_) fun hc=> ?_) <;> (try simp only [hc,bs, ↓reduceIte]at h) <;> try simp only [hc]
 | (with_reducible refine aF hQ ?_;(try cases h);simp only [az,aB,bB,bC,go_sem,hP,hY,hZ,gA];repeat' (first | exact Ok.out | with_reducible refine aG ?_ ?_ | (simp;done))))
theorem Wa : ∀ n,n<4611686018427387904→∀ x:Ex,x.size≤n→aD Tryz.prog kX [.agg (bo x)] S0 (.int .i64 (x.depth:Int)) S0:=by
 intro n
 induction n with
 | zero=>rintro _ ⟨op,m,name,kids⟩ h;simp only [Ex.size]at h;omega
 | succ n Oi=>
 rintro hn ⟨op,m,name,kids⟩ hx
 have hk : ∀ y∈kids,aD Tryz.prog kX [.agg (bo y)] S0 (.int .i64 (y.depth:Int)) S0:=fun y hy=>Oi (by omega) y (by simp only [Ex.size]at hx;have:=Ex.bW hy;omega)
 have hlen:kids.length<4611686018427387904:=by simp only [Ex.size]at hx;have:=Ex.da kids;omega
 have Kv:Ex.fF kids<4611686018427387904:=by have:=Ex.LL _ _ hx;simp only [Ex.depth]at this;omega
 unfold S0
 refine aD.go B3 rfl fun B Q hB hQ=> ?_
 have⟨hP,hY,hZ,gA⟩:=bw
 repeat' (first
 | simp only [go_sem,hP,hY,hZ,gA]
 | (with_reducible first | refine br fun hc=> ?_ | refine bt fun hc=> ?_ | refine bu (fun hc=> ?_) fun hc=> ?_) <;> (try simp only [hc,bs, ↓reduceIte]at h) <;> try simp only [hc]
 | (with_reducible refine aF hQ ?_;simp only [az,aB,bB,bC,go_sem,hP,hY,hZ,gA];repeat' (first | exact Ok.out | with_reducible refine aG ?_ ?_ | (simp;done))))
 refine cM 0 0 (bj.ind (ι:=List Ex×Nat×Nat) (fun i=>kids.drop i.2.1=i.1∧max i.2.2 (Ex.fF i.1)=Ex.fF kids) (fun i=>i.1.length)
  (fun i=> [(3, .int .i64 (i.2.2:Int)),(7, .slice .shared 4 (kids.map bo)),(8, .int .i64 (kids.length:Int)),(9, .int .i64 (i.2.1:Int))]) (fun _=>S0) ?_ (kids,0,0) ⟨rfl,by simp⟩)
 rintro⟨rest,k,acc⟩ ⟨h1,h2⟩ IH
 unfold S0
 cases rest with
 | nil=>
  have hP:=drop_nil h1
  simp only [Ex.fF,Nat.max_zero]at h2
  subst h2
  repeat' (first
 | simp only [go_sem,hP,hY,hZ,gA,aN Kv,Ex.depth]
 | (with_reducible first | refine br fun hc=> ?_ | refine bt fun hc=> ?_ | refine bu (fun hc=> ?_) fun hc=> ?_) <;> (try simp only [hc,bs, ↓reduceIte]at h) <;> try simp only [hc]
 | (with_reducible refine aF hQ ?_;simp only [az,aB,bB,bC,go_sem,hP,hY,hZ,gA,aN Kv,Ex.depth];repeat' (first | exact Ok.out | with_reducible refine aG ?_ ?_ | (simp;done))))
 | cons y rest=>
  obtain⟨g1,g2,hP,g4⟩:=drop_cons h1
  simp only [Ex.fF]at h2
  have hy:=fun s=>(hk y (List.mem_of_getElem? g1)).pure (by simp [D.bJ,D.ok,fW]) rfl s
  dsimp only at g1 g2 hP g4 h2
  repeat' (first
 | simp only [go_sem,hP,hY,hZ,gA,g1]
 | (with_reducible refine CU (hy _) ?_)
 | (with_reducible refine aF hQ ?_;simp only [az,aB,bB,bC,go_sem,hP,hY,hZ,gA];repeat' (first | exact Ok.out | with_reducible refine aG ?_ ?_ | (simp;done))))
  refine eo 0 0 ?_ ?_ (IH (rest,k+1,max acc y.depth) ⟨g2,by dsimp only;omega⟩ (by simp))
  ·(simp only [go_sem,hP,hY,hZ,gA,mx,aN (show k<4611686018427387904 by omega)];try exact bQ)
  ·(simp only [go_sem,hP,hY,hZ,gA,mx,aN (show k<4611686018427387904 by omega)];try exact bQ)
theorem Wb {x:Ex} {d:Int} (h:GH x=some d) (s:St):aD Tryz.prog kX [.agg (bo x)] s (.int .i64 d) s:=by
 unfold GH at h
 split at h
 ·cases h;exact(Wa x.size ‹_› x (Nat.le_refl _)).pure (by simp [D.bJ,D.ok,fW]) rfl s
 ·cases h
theorem alc (t:bM) (s:St):aD Tryz.prog sM [.agg (dX t)] s (.tuple [.int .i64 (mB t).1, .int .i64 (mB t).2]) s:=(alb rfl).pure rfl rfl s
theorem acK {c:Prop} [Decidable c] {α:Type} {P:α→Prop} {a b:α} (ha:P a) (hb:P b):P (if c then a else b):=by
 by_cases h:c
 ·rw [if_pos h];exact ha
 ·rw [if_neg h];exact hb
def OpR (p:Int×Int):Prop:=0≤p.2∧p.2≤6
theorem RG (t:bM):OpR (mB t):=by
 unfold mB
 repeat' with_reducible refine acK (P:=OpR) ?_ ?_
 all_goals exact⟨by decide,by decide⟩
theorem Jn (t:bM):IntKind.wrap .i64 ((mB t).2+1)=(mB t).2+1:=by
 have:0≤(mB t).2∧(mB t).2≤6:=RG t
 rw [cY] <;> omega
abbrev Fy (m:Nat):Prop:=∀ {r:Rd} {p:Ex×Rd},Rd.one m r=some p→∀ {s:St} {o:Nat},s.aA[o]? = some (b8 r)→aD Tryz.prog jw [.ptr o 0] s (.agg (bo p.1)) ⟨s.aA.set o (b8 p.2),s.aC⟩
abbrev Fz (m:Nat):Prop:=∀ {k:Int} {r:Rd} {p:Ex×Rd},Rd.two m k r=some p→∀ {s:St} {o:Nat},s.aA[o]? = some (b8 r)→aD Tryz.prog iu [.ptr o 0, .int .i64 k] s (.agg (bo p.1)) ⟨s.aA.set o (b8 p.2),s.aC⟩
theorem RH {m:Nat} (FA:Fy m) (Ca:Fz m):Fy (m+1):=by
 intro r p h s o ho
 refine aD.jK ?_ rfl (fx r) (fx p.2) (by simp [D.ok,fW]) ho
 unfold Rd.one at h
 refine aD.go xf rfl fun B Q hB hQ=> ?_
 have⟨hP,hY,hZ,gA⟩:=bw
 repeat' (first
 | simp only [go_sem,hP,hY,hZ,gA]
 | (rw [Option.bind_eq_some_iff]at h;obtain⟨_,h1,h⟩:=h;first | (with_reducible refine CU (n3 h1 (by with_unfolding_all rfl)) ?_;have hP:=qO h1) | (with_reducible refine CU (rH h1 (by with_unfolding_all rfl)) ?_) | (with_reducible refine CU (Ca h1 (by with_unfolding_all rfl)) ?_) | (with_reducible refine CU (oT h1 (by with_unfolding_all rfl)) ?_) | (with_reducible refine CU (FA h1 (by with_unfolding_all rfl)) ?_) | (with_reducible refine CU (B8 h1 (by with_unfolding_all rfl)) ?_))
 | (with_reducible refine CU (jV (by with_unfolding_all rfl)) ?_)
 | (with_reducible first | refine br fun hc=> ?_ | refine bt fun hc=> ?_ | refine bu (fun hc=> ?_) fun hc=> ?_) <;> (try simp only [hc,bs, ↓reduceIte]at h) <;> try simp only [hc]
 | (with_reducible refine aF hQ ?_;(try cases h);simp only [az,aB,bB,bC,go_sem,hP,hY,hZ,gA];repeat' (first | exact Ok.out | with_reducible refine aG ?_ ?_ | (simp;done))))
theorem RI {m:Nat} (FA:Fy m) (Ca : ∀ j<m,Fz j):Fz (m+1):=by
 intro k r p h s o ho
 refine aD.jK ?_ rfl (fx r) (fx p.2) (by simp [D.ok,fW]) ho
 unfold Rd.two at h
 refine aD.go xe rfl fun B Q hB hQ=> ?_
 have⟨hP,hY,hZ,gA⟩:=bw
 repeat' (first
 | simp only [go_sem,hP,hY,hZ,gA]
 | (rw [Option.bind_eq_some_iff]at h;obtain⟨_,h1,h⟩:=h;first | (with_reducible refine CU (FA h1 (by with_unfolding_all rfl)) ?_))
 | (with_reducible refine aF hQ ?_;simp only [az,aB,bB,bC,go_sem,hP,hY,hZ,gA];repeat' (first | exact Ok.out | with_reducible refine aG ?_ ?_ | (simp;done))))
 refine cM 3 0 (bj.ind (ι:=Nat×Ex×Rd) (fun i=>Rd.yO i.1 k i.2.1 i.2.2=some p∧i.1≤m) (fun i=>i.1)
  (fun i=> [(0, .ptr 0 0),(1, .int .i64 k),(4, .ptr 1 0),(5, .ptr 2 0)]) (fun i=>⟨[b8 i.2.2,bo ld,bo i.2.1],[]⟩) ?_ (m,_,_) ⟨h,Nat.le_refl _⟩)
 rintro⟨n,x,r⟩ ⟨h,hn⟩ IH
 cases n with
 | zero=>simp only [Rd.yO]at h;cases h
 | succ n=>
  have acL:=@Ca n (by omega)
  simp only [Rd.yO]at h
  repeat' (first
 | simp only [go_sem,hP,hY,hZ,gA,Jn]
 | (rw [Option.bind_eq_some_iff]at h;obtain⟨_,h1,h⟩:=h;first | (with_reducible refine CU (n3 h1 (by with_unfolding_all rfl)) ?_;have hP:=qO h1) | (with_reducible refine CU (acL h1 (by with_unfolding_all rfl)) ?_))
 | (with_reducible refine CU (jV (by with_unfolding_all rfl)) ?_)
 | (with_reducible refine CU (alc _ _) ?_)
 | (with_reducible first | refine br fun hc=> ?_ | refine bt fun hc=> ?_ | refine bu (fun hc=> ?_) fun hc=> ?_) <;> (try simp only [hc,bs, ↓reduceIte]at h) <;> try simp only [hc]
 | (with_reducible refine aF hQ ?_;(try cases h);simp only [az,aB,bB,bC,go_sem,hP,hY,hZ,gA,Jn];repeat' (first | exact Ok.out | with_reducible refine aG ?_ ?_ | (simp;done))))
  refine cM 3 0 (IH (n,_,_) ⟨h,by dsimp only at hn ⊢;omega⟩ (Nat.lt_succ_self _))
theorem Wc : ∀ n,∀ m<n,Fy m∧Fz m:=by
 intro n
 induction n with
 | zero=>intro m h;exact absurd h (Nat.not_lt_zero _)
 | succ n ih=>
  intro m h
  cases m with
  | zero=>
   refine⟨?_, ?_⟩
   ·intro r p h;simp only [Rd.one]at h;cases h
   ·intro k r p h;simp only [Rd.two]at h;cases h
  | succ m=>
   have hm:=ih m (by omega)
   exact⟨RH hm.1 hm.2,RI hm.1 fun j hj=>(ih j (by omega)).2⟩
theorem Ca {m:Nat} {k:Int} {r:Rd} {p:Ex×Rd} (h:Rd.two m k r=some p) {s:St} {o:Nat} (ho:s.aA[o]? = some (b8 r)) :
 aD Tryz.prog iu [.ptr o 0, .int .i64 k] s (.agg (bo p.1)) ⟨s.aA.set o (b8 p.2),s.aC⟩:=(Wc (m+1) m (Nat.lt_succ_self _)).2 h ho
theorem zZ {n:Nat} {r:Rd} {p:Ex×Rd} (h:Rd.whole n r=some p) {s:St} {o:Nat} (ho:s.aA[o]? = some (b8 r)) :
 aD Tryz.prog fQ [.ptr o 0] s (.agg (bo p.1)) ⟨s.aA.set o (b8 p.2),s.aC⟩:=by
 refine aD.jK ?_ rfl (fx r) (fx p.2) (by simp [D.ok,fW]) ho
 unfold Rd.whole at h
 refine aD.go vJ rfl fun B Q hB hQ=> ?_
 have⟨hP,hY,hZ,gA⟩:=bw
 repeat' (first
 | simp only [go_sem,hP,hY,hZ,gA]
 | (rw [Option.bind_eq_some_iff]at h;obtain⟨_,h1,h⟩:=h;first | (with_reducible refine CU (n3 h1 (by with_unfolding_all rfl)) ?_) | (with_reducible refine CU (Wb h1 _) ?_) | (with_reducible refine CU (Ca h1 (by with_unfolding_all rfl)) ?_))
 | (with_reducible refine CU (jV (by with_unfolding_all rfl)) ?_)
 | (with_reducible first | refine br fun hc=> ?_ | refine bt fun hc=> ?_ | refine bu (fun hc=> ?_) fun hc=> ?_) <;> (try simp only [hc,bs, ↓reduceIte]at h) <;> try simp only [hc]
 | (with_reducible refine aF hQ ?_;(try cases h);simp only [az,aB,bB,bC,go_sem,hP,hY,hZ,gA];repeat' (first | exact Ok.out | with_reducible refine aG ?_ ?_ | (simp;done))))
end Go.Abs

/-! Ref1 -/

namespace Go.Abs
set_option maxRecDepth 8000
open Go.Proofs
@[go_sem] def uQ (z:D) (r:Rd):List D:= [.slice .shared 4 (r.l.map dX), .int .i64 r.i, .int .i64 r.code, .int .i64 r.pW,z]
class Cell (z:D):Prop where
 ok:D.ok 0 0 z=true
 fg : ∀ n m,D.fg n m z=z
instance (n:Int):Cell (.int .i64 n):=⟨rfl,fun _ _=>rfl⟩
instance:Cell .junk:=⟨rfl,fun _ _=>rfl⟩
theorem Wd (z:D) [h:Cell z] (n m:Nat):D.fg n m z=z:=h.fg n m
attribute [go_sem] Wd
def Rd.isO (text:ay) (r:Rd):Option Bool:=if r.good then r.is text else some false
end Go.Abs

/-! Ref2 -/

namespace Go.Abs
set_option maxRecDepth 8000
open Go.Proofs
def Zb (s:ay):Int×Int:=
 if [42] == s then(6,5)else if [47] == s then(6,6)else if [37] == s then(6,7)else if [43] == s then(5,8)else if [45] == s then(5,9)
 else if [60] == s then(4,10)else if [60,61] == s then(4,11)else if [62] == s then(4,12)else if [62,61] == s then(4,13)
 else if [61,61] == s then(3,14)else if [33,61] == s then(3,15)else if [38,38] == s then(2,16)else if [124,124] == s then(1,17)else(0,0)
abbrev alY (m:Nat):Prop:=∀ {z:D} [Cell z] {r:Rd} {p:Ex×Rd},Rd.one m r=some p→∀ {s:St} {o:Nat},s.aA[o]? = some (uQ z r)→aD Tryz.prog C9 [.ptr o 0] s (.agg (bo p.1)) ⟨s.aA.set o (uQ z p.2),s.aC⟩
abbrev arG (m:Nat):Prop:=∀ {z:D} [Cell z] {k:Int} {x:Ex} {r:Rd} {p:Ex×Rd},Rd.yO m k x r=some p→∀ {s:St} {o:Nat},s.aA[o]? = some (uQ z r)→aD Tryz.prog EY [.ptr o 0, .agg (bo x), .int .i64 k] s (.agg (bo p.1)) ⟨s.aA.set o (uQ z p.2),s.aC⟩
def BZ (p:Int×Int):Prop:=(p.2==0)=(p.1==0)
end Go.Abs

/-! Ref3 -/

namespace Go.Abs
set_option maxRecDepth 8000
open Go.Proofs
theorem Zc : ∀ (fk:Nat),fk<1000000→∀ x:Ex,x.size<4611686018427387904→∀ s:St,aD Tryz.prog oP [.agg (bo x), .int .i64 (fk:Int)] s (.int .i64 ((min x.depth (fk+1):Nat):Int)) s:=by
 intro fk
 induction fk with
 | zero=>
  rintro _ ⟨op,m,name,kids⟩ hx s
  refine aD.pure ?_ (by simp [D.bJ,D.ok,fW]) rfl s
  have hz:((0:Int)==0)=true:=rfl
  have e:min (Ex.depth ⟨op,m,name,kids⟩) (0+1)=1:=by simp only [Ex.depth];omega
  rw [e]
  unfold S0
  refine aD.go xV rfl fun B Q hB hQ=> ?_
  have⟨hP,hY,hZ,gA⟩:=bw
  repeat' (first
 | simp only [go_sem,hP,hY,hZ,gA,hz]
 | (with_reducible refine aF hQ ?_;simp only [az,aB,Option.some.injEq,exists_eq_left',go_sem,hP,hY,hZ,gA];repeat' (first | exact Ok.out | with_reducible refine aG ?_ ?_ | (simp;done))))
 | succ fk ih=>
  rintro ato ⟨op,m,name,kids⟩ hx s
  refine aD.pure ?_ (by simp [D.bJ,D.ok,fW]) rfl s
  have hlen:kids.length<4611686018427387904:=by simp only [Ex.size]at hx;have:=Ex.da kids;omega
  have hk : ∀ y∈kids,∀ s,aD Tryz.prog oP [.agg (bo y), .int .i64 (fk:Int)] s (.int .i64 ((min y.depth (fk+1):Nat):Int)) s:=fun y hy s=>
   ih (by omega) y (by simp only [Ex.size]at hx;have:=Ex.bW hy;omega) s
  have hz:(((fk+1:Nat):Int)==0)=false:=by simp;omega
  have w1:IntKind.wrap .i64 (((fk+1:Nat):Int) - 1)=(fk:Int):=by rw [cY] <;> omega
  unfold S0
  refine aD.go xV rfl fun B Q hB hQ=> ?_
  have⟨hP,hY,hZ,gA⟩:=bw
  repeat' (first
 | simp only [go_sem,hP,hY,hZ,gA,hz]
 | (with_reducible refine aF hQ ?_;simp only [az,aB,Option.some.injEq,exists_eq_left',go_sem,hP,hY,hZ,gA];repeat' (first | exact Ok.out | with_reducible refine aG ?_ ?_ | (simp;done))))
  refine cM 1 0 (bj.ind (ι:=List Ex×Nat×Nat) (fun i=>kids.drop i.2.1=i.1∧i.2.2≤fk+1∧min (max i.2.2 (Ex.fF i.1)) (fk+1)=min (Ex.fF kids) (fk+1)) (fun i=>i.1.length)
   (fun i=> [(1, .int .i64 ((fk+1:Nat):Int)),(2, .ptr 0 0),(5, .int .i64 (i.2.2:Int)),(6, .int .i64 (i.2.1:Int))]) (fun i=>⟨[bo ⟨op,m,name,kids⟩],[]⟩) ?_ (kids,0,0) ⟨rfl,Nat.zero_le _,by simp⟩)
  rintro⟨rest,k,d⟩ ⟨h1,h2,h3⟩ IH
  dsimp only at h1 h2 h3
  have hd:min (Ex.depth ⟨op,m,name,kids⟩) (fk+1+1)=min (Ex.fF kids) (fk+1)+1:=by simp only [Ex.depth];omega
  rw [hd, ← h3]at hQ
  have w2:IntKind.wrap .i64 ((d:Int)+1)=((d+1:Nat):Int):=by rw [cY] <;> omega
  by_cases atU:d<fk+1
  ·have c2:decide ((d:Int)<((fk+1:Nat):Int))=true:=by simp;omega
   cases rest with
   | nil=>
    have hP:=drop_nil h1
    simp only [Ex.fF,Nat.max_zero]at hQ
    have e:min d (fk+1)=d:=by omega
    rw [e]at hQ
    repeat' (first
 | simp only [go_sem,hP,hY,hZ,gA,c2,w2]
 | (with_reducible refine aF hQ ?_;simp only [az,aB,Option.some.injEq,exists_eq_left',go_sem,hP,hY,hZ,gA];repeat' (first | exact Ok.out | with_reducible refine aG ?_ ?_ | (simp;done))))
   | cons y rest=>
    obtain⟨hY,g2,hP,g4⟩:=drop_cons h1
    have hy:=hk y (List.mem_of_getElem? hY)
    simp only [Ex.fF]at h3
    have cz:k<4611686018427387904:=by omega
    by_cases mW:min y.depth (fk+1) > d
    ·have c3:decide (((min y.depth (fk+1):Nat):Int) > (d:Int))=true:=by simp only [decide_eq_true_eq];omega
     repeat' (first
 | simp only [go_sem,hP,hY,hZ,gA,c2,w1,c3]
 | (with_reducible refine CU (hy _) ?_)
 | (with_reducible refine aF hQ ?_;simp only [az,aB,Option.some.injEq,exists_eq_left',go_sem,hP,hY,hZ,gA];repeat' (first | exact Ok.out | with_reducible refine aG ?_ ?_ | (simp;done))))
     refine eo 1 0 ?_ ?_ (IH (rest,k+1,min y.depth (fk+1)) ⟨g2,by dsimp only;omega,by dsimp only;omega⟩ (Nat.lt_succ_self _))
     ·(simp only [go_sem,hP,hY,hZ,gA,aN cz];try exact bQ)
     ·(simp only [go_sem,hP,hY,hZ,gA,aN cz];try exact bQ)
    ·have c3:decide (((min y.depth (fk+1):Nat):Int) > (d:Int))=false:=by simp only [decide_eq_false_iff_not];omega
     repeat' (first
 | simp only [go_sem,hP,hY,hZ,gA,c2,w1,c3]
 | (with_reducible refine CU (hy _) ?_)
 | (with_reducible refine aF hQ ?_;simp only [az,aB,Option.some.injEq,exists_eq_left',go_sem,hP,hY,hZ,gA];repeat' (first | exact Ok.out | with_reducible refine aG ?_ ?_ | (simp;done))))
     refine eo 1 0 ?_ ?_ (IH (rest,k+1,d) ⟨g2,h2,by dsimp only;omega⟩ (Nat.lt_succ_self _))
     ·(simp only [go_sem,hP,hY,hZ,gA,aN cz];try exact bQ)
     ·(simp only [go_sem,hP,hY,hZ,gA,aN cz];try exact bQ)
  ·have c2:decide ((d:Int)<((fk+1:Nat):Int))=false:=by simp;omega
   have e:min (max d (Ex.fF rest)) (fk+1)=d:=by omega
   rw [e]at hQ
   cases rest with
   | nil=>
    have hP:=drop_nil h1
    repeat' (first
 | simp only [go_sem,hP,hY,hZ,gA,c2,w2]
 | (with_reducible refine aF hQ ?_;simp only [az,aB,Option.some.injEq,exists_eq_left',go_sem,hP,hY,hZ,gA];repeat' (first | exact Ok.out | with_reducible refine aG ?_ ?_ | (simp;done))))
   | cons y rest=>
    obtain⟨hY,g2,hP,g4⟩:=drop_cons h1
    repeat' (first
 | simp only [go_sem,hP,hY,hZ,gA,c2,w2]
 | (with_reducible refine aF hQ ?_;simp only [az,aB,Option.some.injEq,exists_eq_left',go_sem,hP,hY,hZ,gA];repeat' (first | exact Ok.out | with_reducible refine aG ?_ ?_ | (simp;done))))
end Go.Abs

/-! RefMay1 -/

namespace Go.Abs
set_option maxRecDepth 8000
open Go.Proofs
theorem wA (text:ay) (hl:text.length<4611686018427387904) (s:St):aD Tryz.prog kn [.str text] s (.bool (isName text)) s:=by
 refine aD.pure ?_ rfl rfl s
 unfold S0
 cases text with
 | nil=>
  have e:(([] : ay) == [])=true:=rfl
  refine aD.go xX rfl fun B Q hB hQ=> ?_
  have⟨hP,hY,hZ,gA⟩:=bw
  repeat' (first
 | simp only [go_sem,hP,hY,hZ,gA,e,isName]
 | (with_reducible first | refine br fun hc=> ?_ | refine bt fun hc=> ?_ | refine bu (fun hc=> ?_) fun hc=> ?_) <;> (try simp only [hc,bs, ↓reduceIte]at h) <;> try simp only [hc]
 | (with_reducible refine aF hQ ?_;simp only [az,aB,bB,bC,go_sem,hP,hY,hZ,gA,e,isName];repeat' (first | exact Ok.out | with_reducible refine aG ?_ ?_ | (simp;done))))
 | cons c r=>
  have e:((c::r) == [])=false:=rfl
  generalize h:isName (c::r)=p
  simp only [isName]at h
  refine aD.go xX rfl fun B Q hB hQ=> ?_
  have⟨hP,hY,hZ,gA⟩:=bw
  repeat' (first
 | simp only [go_sem,hP,hY,hZ,gA,e]
 | (with_reducible refine CU (Hh _ _) ?_)
 | (with_reducible first | refine br fun hc=> ?_ | refine bt fun hc=> ?_ | refine bu (fun hc=> ?_) fun hc=> ?_) <;> (try simp only [hc,bs, ↓reduceIte]at h) <;> try simp only [hc]
 | (with_reducible refine aF hQ ?_;(try cases h);simp only [az,aB,bB,bC,go_sem,hP,hY,hZ,gA,e];repeat' (first | exact Ok.out | with_reducible refine aG ?_ ?_ | (simp;done))))
  refine cM 0 0 (bj.ind (ι:=ay×Nat) (fun i=>(c::r).drop i.2=i.1∧(if sN i.1 then !(isWord (c::r))else false)=p) (fun i=>i.1.length)
   (fun i=> [(0, .str (c::r)),(3, .int .i64 (i.2:Int))]) (fun i=>⟨[],[]⟩) ?_ (r,1) ⟨rfl,h⟩)
  rintro⟨rest,k⟩ ⟨h1,h⟩ IH
  dsimp only at h1 h
  cases rest with
  | nil=>
   have hP:=drop_nil h1
   simp only [List.length_cons]at hP
   simp only [sN, ↓reduceIte]at h
   repeat' (first
 | simp only [go_sem,hP,hY,hZ,gA]
 | (with_reducible refine CU (V9 _ _) ?_)
 | (with_reducible first | refine br fun hc=> ?_ | refine bt fun hc=> ?_ | refine bu (fun hc=> ?_) fun hc=> ?_) <;> (try simp only [hc,bs, ↓reduceIte]at h) <;> try simp only [hc]
 | (with_reducible refine aF hQ ?_;(try cases h);simp only [az,aB,bB,bC,go_sem,hP,hY,hZ,gA];repeat' (first | exact Ok.out | with_reducible refine aG ?_ ?_ | (simp;done))))
  | cons d rest=>
   obtain⟨hY,g2,hP,g4⟩:=drop_cons h1
   simp only [List.length_cons]at hP
   have hZ:k<4611686018427387904:=by omega
   simp only [sN]at h
   repeat' (first
 | simp only [go_sem,hP,hY,hZ,gA]
 | (with_reducible refine CU (Hh _ _) ?_)
 | (with_reducible refine CU (RF _ _) ?_)
 | (with_reducible first | refine br fun hc=> ?_ | refine bt fun hc=> ?_ | refine bu (fun hc=> ?_) fun hc=> ?_) <;> (try simp only [hc,bs, ↓reduceIte]at h) <;> try simp only [hc]
 | (with_reducible refine aF hQ ?_;(try cases h);simp only [az,aB,bB,bC,go_sem,hP,hY,hZ,gA];repeat' (first | exact Ok.out | with_reducible refine aG ?_ ?_ | (simp;done)))
 | (cases h;done))
   all_goals
    refine cM 0 0 (IH (rest,k+1) ⟨g2,h⟩ (Nat.lt_succ_self _))
theorem Wf (op:Int) (s:St):aD Tryz.prog tG [.int .i64 op] s (.int .i64 (lg op)) s:=by
 refine aD.pure ?_ rfl rfl s
 unfold S0
 generalize h:lg op=p
 unfold lg at h
 refine aD.go Di rfl fun B Q hB hQ=> ?_
 have⟨hP,hY,hZ,gA⟩:=bw
 repeat' (first
 | simp only [go_sem,hP,hY,hZ,gA]
 | (with_reducible first | refine br fun hc=> ?_ | refine bt fun hc=> ?_ | refine bu (fun hc=> ?_) fun hc=> ?_) <;> (try simp only [hc,bs, ↓reduceIte]at h) <;> try simp only [hc]
 | (with_reducible refine aF hQ ?_;(try cases h);simp only [az,aB,bB,bC,go_sem,hP,hY,hZ,gA];repeat' (first | exact Ok.out | with_reducible refine aG ?_ ?_ | (simp;done))))
theorem RJ {l:List ay} (hl:l.length<4611686018427387904) (hs : ∀ t∈l,t.length<4611686018427387904) (s:St):aD Tryz.prog tC [.slice .shared 1 (l.map encStr)] s (.bool (c6 l)) s:=by
 refine aD.pure ?_ (by simp [D.bJ,D.ok,eD,Tag.ok]) rfl s
 unfold S0
 generalize h:c6 l=p
 refine aD.go Dl rfl fun B Q hB hQ=> ?_
 have⟨hP,hY,hZ,gA⟩:=bw
 repeat' (first
 | simp only [go_sem,hP,hY,hZ,gA]
 | (with_reducible first | refine br fun hc=> ?_ | refine bt fun hc=> ?_ | refine bu (fun hc=> ?_) fun hc=> ?_) <;> (try simp only [hc,bs, ↓reduceIte]at h) <;> try simp only [hc]
 | (with_reducible refine aF hQ ?_;(try cases h);simp only [az,aB,bB,bC,go_sem,hP,hY,hZ,gA];repeat' (first | exact Ok.out | with_reducible refine aG ?_ ?_ | (simp;done))))
 refine cM 0 0 (bj.ind (ι:=List ay×Nat) (fun i=>l.drop i.2=i.1∧c6 i.1=p) (fun i=>i.1.length)
  (fun i=> [(5, .slice .shared 1 (l.map encStr)),(6, .int .i64 (l.length:Int)),(7, .int .i64 (i.2:Int))]) (fun i=>⟨[],[]⟩) ?_ (l,0) ⟨rfl,h⟩)
 rintro⟨rest,k⟩ ⟨h1,h⟩ IH
 dsimp only at h1 h
 cases rest with
 | nil=>
  have hP:=drop_nil h1
  simp only [c6]at h
  repeat' (first
 | simp only [go_sem,hP,hY,hZ,gA]
 | (with_reducible first | refine br fun hc=> ?_ | refine bt fun hc=> ?_ | refine bu (fun hc=> ?_) fun hc=> ?_) <;> (try simp only [hc,bs, ↓reduceIte]at h) <;> try simp only [hc]
 | (with_reducible refine aF hQ ?_;(try cases h);simp only [az,aB,bB,bC,go_sem,hP,hY,hZ,gA];repeat' (first | exact Ok.out | with_reducible refine aG ?_ ?_ | (simp;done))))
 | cons t rest=>
  obtain⟨hY,g2,hP,g4⟩:=drop_cons h1
  have hZ:k<4611686018427387904:=by omega
  have hn:=wA t (hs t (List.mem_of_getElem? hY))
  simp only [c6]at h
  repeat' (first
 | simp only [go_sem,hP,hY,hZ,gA]
 | (with_reducible refine CU (hn _) ?_)
 | (with_reducible first | refine br fun hc=> ?_ | refine bt fun hc=> ?_ | refine bu (fun hc=> ?_) fun hc=> ?_) <;> (try simp only [hc,bs, ↓reduceIte]at h) <;> try simp only [hc]
 | (with_reducible refine aF hQ ?_;(try cases h);simp only [az,aB,bB,bC,go_sem,hP,hY,hZ,gA];repeat' (first | exact Ok.out | with_reducible refine aG ?_ ?_ | (simp;done))))
  refine cM 0 0 (IH (rest,k+1) ⟨g2,h⟩ (Nat.lt_succ_self _))
theorem Zd : ∀ (n:Nat) (x:Ex),x.size≤n→x.size<4611686018427387904→x.texts→∀ s:St,aD Tryz.prog oQ [.agg (bo x)] s (.bool x.form) s:=by
 intro n
 induction n with
 | zero=>rintro⟨op,m,name,kids⟩ h;simp only [Ex.size]at h;omega
 | succ n ih=>
  rintro⟨op,m,name,kids⟩ h hx ht s
  refine aD.pure ?_ (by simp [D.bJ,D.ok,fW]) rfl s
  have hlen:kids.length<4611686018427387904:=by simp only [Ex.size]at hx;have:=Ex.da kids;omega
  have hk : ∀ y∈kids,∀ s,aD Tryz.prog oQ [.agg (bo y)] s (.bool y.form) s:=fun y hy s=>
   ih y (by simp only [Ex.size]at h;have:=Ex.bW hy;omega) (by simp only [Ex.size]at hx;have:=Ex.bW hy;omega) (Ex.D2 ht hy) s
  have hn:=wA name ht.1
  unfold S0
  generalize h:Ex.form ⟨op,m,name,kids⟩=p
  simp only [Ex.form]at h
  refine aD.go Fa rfl fun B Q hB hQ=> ?_
  have⟨hP,hY,hZ,gA⟩:=bw
  repeat' (first
 | simp only [go_sem,hP,hY,hZ,gA]
 | (with_reducible refine CU (Wf _ _) ?_)
 | (with_reducible refine CU (hn _) ?_)
 | (with_reducible first | refine br fun hc=> ?_ | refine bt fun hc=> ?_ | refine bu (fun hc=> ?_) fun hc=> ?_) <;> (try simp only [hc,bs, ↓reduceIte]at h) <;> try simp only [hc]
 | (with_reducible refine aF hQ ?_;(try cases h);simp only [az,aB,bB,bC,go_sem,hP,hY,hZ,gA];repeat' (first | exact Ok.out | with_reducible refine aG ?_ ?_ | (simp;done))))
  all_goals
   refine cM 1 0 (bj.ind (ι:=List Ex×Nat) (fun i=>kids.drop i.2=i.1∧Ex.lO i.1=p) (fun i=>i.1.length)
    (fun i=> [(1, .ptr 0 0),(48, .int .i64 (kids.length:Int)),(49, .int .i64 (i.2:Int))]) (fun i=>⟨[bo ⟨op,m,name,kids⟩],[]⟩) ?_ (kids,0) ⟨rfl,h⟩)
   rintro⟨rest,k⟩ ⟨h1,h⟩ IH
   dsimp only at h1 h
   cases rest with
   | nil=>
    have hP:=drop_nil h1
    simp only [Ex.lO]at h
    repeat' (first
 | simp only [go_sem,hP,hY,hZ,gA]
 | (with_reducible first | refine br fun hc=> ?_ | refine bt fun hc=> ?_ | refine bu (fun hc=> ?_) fun hc=> ?_) <;> (try simp only [hc,bs, ↓reduceIte]at h) <;> try simp only [hc]
 | (with_reducible refine aF hQ ?_;exact lG)
 | (cases h;done))
   | cons y rest=>
    obtain⟨hY,g2,hP,g4⟩:=drop_cons h1
    have hy:=hk y (List.mem_of_getElem? hY)
    have hZ:k<4611686018427387904:=by omega
    simp only [Ex.lO]at h
    repeat' (first
 | simp only [go_sem,hP,hY,hZ,gA]
 | (with_reducible refine CU (hy _) ?_)
 | (with_reducible first | refine br fun hc=> ?_ | refine bt fun hc=> ?_ | refine bu (fun hc=> ?_) fun hc=> ?_) <;> (try simp only [hc,bs, ↓reduceIte]at h) <;> try simp only [hc]
 | (with_reducible refine aF hQ ?_;(try cases h);simp only [az,aB,bB,bC,go_sem,hP,hY,hZ,gA];repeat' (first | exact Ok.out | with_reducible refine aG ?_ ?_ | (simp;done))))
    refine cM 1 0 (IH (rest,k+1) ⟨g2,h⟩ (Nat.lt_succ_self _))
theorem D4 {x:Ex} (hx:x.size<4611686018427387904) (ht:x.texts) (s:St):aD Tryz.prog od [.agg (bo x)] s (.bool x.may) s:=by
 refine aD.pure ?_ (by simp [D.bJ,D.ok,fW]) rfl s
 have hd:=fun s=>Zc 20 (by decide) x hx s
 have c20:((20:Nat):Int)=20:=rfl
 rw [c20]at hd
 have hf:=Zd _ x (Nat.le_refl _) hx ht
 unfold S0
 generalize h:Ex.may x=p
 unfold Ex.may at h
 refine aD.go Bh rfl fun B Q hB hQ=> ?_
 have⟨hP,hY,hZ,gA⟩:=bw
 repeat' (first
 | simp only [go_sem,hP,hY,hZ,gA]
 | (with_reducible refine CU (hd _) ?_)
 | (with_reducible refine CU (hf _) ?_)
 | (with_reducible first | refine br fun hc=> ?_ | refine bt fun hc=> ?_ | refine bu (fun hc=> ?_) fun hc=> ?_) <;> (try simp only [hc,bs, ↓reduceIte]at h) <;> try simp only [hc]
 | (with_reducible refine aF hQ ?_;(try cases h);simp only [az,aB,bB,bC,go_sem,hP,hY,hZ,gA];repeat' (first | exact Ok.out | with_reducible refine aG ?_ ?_ | (simp;done))))
theorem Oj (x:Ex) (s:St):aD Tryz.prog q6 [.agg (bo x)] s (.bool x.none) s:=by
 refine aD.pure ?_ (by simp [D.bJ,D.ok,fW]) rfl s
 unfold S0
 generalize h:Ex.none x=p
 unfold Ex.none at h
 refine aD.go E8 rfl fun B Q hB hQ=> ?_
 have⟨hP,hY,hZ,gA⟩:=bw
 repeat' (first
 | simp only [go_sem,hP,hY,hZ,gA]
 | (with_reducible first | refine br fun hc=> ?_ | refine bt fun hc=> ?_ | refine bu (fun hc=> ?_) fun hc=> ?_) <;> (try simp only [hc,bs, ↓reduceIte]at h) <;> try simp only [hc]
 | (with_reducible refine aF hQ ?_;(try cases h);simp only [az,aB,bB,bC,go_sem,hP,hY,hZ,gA];repeat' (first | exact Ok.out | with_reducible refine aG ?_ ?_ | (simp;done))))
theorem acM {a:Ar} (hx:a.x.size<4611686018427387904) (ht:a.x.texts) (hn:a.name.length<4611686018427387904) (s:St):aD Tryz.prog xc [.agg (dR a)] s (.bool a.may) s:=by
 refine aD.pure ?_ (by simp [D.bJ,D.ok,GF]) rfl s
 have hm:=D4 hx ht
 have h1:=wA a.name hn
 unfold S0
 generalize h:Ar.may a=p
 simp only [Ar.may]at h
 refine aD.go Hb rfl fun B Q hB hQ=> ?_
 have⟨hP,hY,hZ,gA⟩:=bw
 repeat' (first
 | simp only [go_sem,hP,hY,hZ,gA]
 | (with_reducible refine CU (hm _) ?_)
 | (with_reducible refine CU (h1 _) ?_)
 | (with_reducible refine CU (Oj _ _) ?_)
 | (with_reducible first | refine br fun hc=> ?_ | refine bt fun hc=> ?_ | refine bu (fun hc=> ?_) fun hc=> ?_) <;> (try simp only [hc,bs, ↓reduceIte]at h) <;> try simp only [hc]
 | (with_reducible refine aF hQ ?_;(try cases h);simp only [az,aB,bB,bC,go_sem,hP,hY,hZ,gA];repeat' (first | exact Ok.out | with_reducible refine aG ?_ ?_ | (simp;done))))
end Go.Abs

/-! RefMay2 -/

namespace Go.Abs
set_option maxRecDepth 8000
open Go.Proofs
structure Sm.l9 (s:Sm):Prop where
 UM : ∀ t∈s.labels,t.length<4611686018427387904
 Ze:s.labels.length<4611686018427387904
 name:s.name.length<4611686018427387904
 proc:s.proc.length<4611686018427387904
 x:s.x.size<4611686018427387904
 xt:s.x.texts
 Zf:s.args.length<4611686018427387904
 arg : ∀ a∈s.args,a.x.size<4611686018427387904∧a.x.texts∧a.name.length<4611686018427387904
section
variable {v:Sm} {B:fj} {Q:Exit→Tm→St→Prop} {p:Bool}
theorem acN (hf:v.l9) (hB:B.s = ⟨[],[]⟩) (hQ:ig 0 0 [(2,none)] (.bool p) ⟨[],[]⟩=Q)
 (h:(if !(Ar.dT v.args)then false else((v.aY.length:Int)==0 || v.kind==5 || v.kind==6) && ((v.aT.length:Int)==0 || v.kind==5))=p) :
 Sem Tryz.prog B 178 YV Q [(1, .ptr 0 0)] ⟨[bd v],[]⟩:=by
 have atp:=hf.Zf
 have RK:=fun a ha s=>acM (hf.arg a ha).1 (hf.arg a ha).2.1 (hf.arg a ha).2.2 s
 have⟨hP,hY,hZ,gA⟩:=bw
 refine gN ?_
 repeat' (first
 | simp only [go_sem,hP,hY,hZ,gA]
 | (with_reducible refine aF hQ ?_;simp only [az,aB,bB,bC,go_sem,hP,hY,hZ,gA];repeat' (first | exact Ok.out | with_reducible refine aG ?_ ?_ | (simp;done))))
 refine cM 1 0 (bj.ind (ι:=List Ar×Nat) (fun i=>v.args.drop i.2=i.1∧(if !(Ar.dT i.1)then false else((v.aY.length:Int)==0 || v.kind==5 || v.kind==6) && ((v.aT.length:Int)==0 || v.kind==5))=p) (fun i=>i.1.length)
  (fun i=> [(1, .ptr 0 0),(143, .slice .shared 6 (v.args.map dR)),(144, .int .i64 (v.args.length:Int)),(145, .int .i64 (i.2:Int))]) (fun i=>⟨[bd v],[]⟩) ?_ (v.args,0) ⟨rfl,h⟩)
 rintro⟨rest,k⟩ ⟨h1,h⟩ IH
 dsimp only at h1 h
 cases rest with
 | nil=>
  have hP:=drop_nil h1
  simp only [Ar.dT,Bool.not_true,Bool.false_eq_true, ↓reduceIte]at h
  repeat' (first
 | simp only [go_sem,hP,hY,hZ,gA]
 | (with_reducible first | refine br fun hc=> ?_ | refine bt fun hc=> ?_ | refine bu (fun hc=> ?_) fun hc=> ?_) <;> (try simp only [hc,bs, ↓reduceIte]at h) <;> try simp only [hc]
 | (with_reducible refine aF hQ ?_;(try cases h);simp only [az,aB,bB,bC,go_sem,hP,hY,hZ,gA];repeat' (first | exact Ok.out | with_reducible refine aG ?_ ?_ | (simp;done))))
  all_goals
   simp only [*]
   exact Ok.out
 | cons a rest=>
  obtain⟨hY,g2,hP,g4⟩:=drop_cons h1
  have ha:=RK a (List.mem_of_getElem? hY)
  have hZ:k<4611686018427387904:=by omega
  simp only [Ar.dT]at h
  repeat' (first
 | simp only [go_sem,hP,hY,hZ,gA]
 | (with_reducible refine CU (ha _) ?_)
 | (with_reducible first | refine br fun hc=> ?_ | refine bt fun hc=> ?_ | refine bu (fun hc=> ?_) fun hc=> ?_) <;> (try simp only [hc,bs, ↓reduceIte]at h) <;> try simp only [hc]
 | (with_reducible refine aF hQ ?_;(try cases h);simp only [az,aB,bB,bC,go_sem,hP,hY,hZ,gA];repeat' (first | exact Ok.out | with_reducible refine aG ?_ ?_ | (simp;done))))
  refine cM 1 0 (IH (rest,k+1) ⟨g2,h⟩ (Nat.lt_succ_self _))
theorem acO {cl:Bool} (hf:v.l9) (hB:B.s = ⟨[],[]⟩) (hQ:ig 0 0 [(2,none)] (.bool p) ⟨[],[]⟩=Q)
 (h:(if !(cl == !(v.proc == [])) || (cl && !(isName v.proc)) || (!cl && decide ((v.args.length:Int) > 0))then false
  else if !(Ar.dT v.args)then false else((v.aY.length:Int)==0 || v.kind==5 || v.kind==6) && ((v.aT.length:Int)==0 || v.kind==5))=p) :
 Sem Tryz.prog B 178 YW Q [(1, .ptr 0 0),(5, .bool cl)] ⟨[bd v],[]⟩:=by
 have LW:=wA v.proc hf.proc
 have⟨hP,hY,hZ,gA⟩:=bw
 refine Sem.kb ?_
 repeat' (first
 | simp only [go_sem,hP,hY,hZ,gA]
 | (with_reducible refine CU (LW _) ?_)
 | (with_reducible first | refine br fun hc=> ?_ | refine bt fun hc=> ?_ | refine bu (fun hc=> ?_) fun hc=> ?_) <;> (try simp only [hc,bs, ↓reduceIte]at h) <;> try simp only [hc]
 | (with_reducible refine aF hQ ?_;(try cases h);simp only [az,aB,bB,bC,go_sem,hP,hY,hZ,gA];repeat' (first | exact Ok.out | with_reducible refine aG ?_ ?_ | (simp;done))))
 all_goals
  refine Sem.re _ _ 1 0 (by rw [hB];exact lF rfl) (by rw [hB];exact lF rfl) ?_ ?_ (acN hf hB hQ h)
  ·(simp only [go_sem,hP,hY,hZ,gA];repeat' (first | exact Ok.out | with_reducible refine aG ?_ ?_))
  ·(simp only [go_sem,hP,hY,hZ,gA];repeat' (first | exact Ok.out | with_reducible refine aG ?_ ?_))
theorem acP {hn cl:Bool} (hf:v.l9) (hB:B.s = ⟨[],[]⟩) (hQ:ig 0 0 [(2,none)] (.bool p) ⟨[],[]⟩=Q)
 (h:(if(hn && !(isName v.name)) || (!hn && !(v.name == []) && !(cl && isName v.name))then false
  else if !(cl == !(v.proc == [])) || (cl && !(isName v.proc)) || (!cl && decide ((v.args.length:Int) > 0))then false
  else if !(Ar.dT v.args)then false else((v.aY.length:Int)==0 || v.kind==5 || v.kind==6) && ((v.aT.length:Int)==0 || v.kind==5))=p) :
 Sem Tryz.prog B 178 YX Q [(1, .ptr 0 0),(4, .bool hn),(5, .bool cl)] ⟨[bd v],[]⟩:=by
 have J2:=wA v.name hf.name
 have⟨hP,hY,hZ,gA⟩:=bw
 have k:=@acO v B Q p cl hf hB hQ
 cases cl
 all_goals
  refine Sem.kb ?_
  repeat' (first
 | simp only [go_sem,hP,hY,hZ,gA]
 | (with_reducible refine CU (J2 _) ?_)
 | (with_reducible first | refine br fun hc=> ?_ | refine bt fun hc=> ?_ | refine bu (fun hc=> ?_) fun hc=> ?_) <;> (try simp only [hc,bs, ↓reduceIte]at h) <;> try simp only [hc]
 | (with_reducible refine aF hQ ?_;(try cases h);simp only [az,aB,bB,bC,go_sem,hP,hY,hZ,gA];repeat' (first | exact Ok.out | with_reducible refine aG ?_ ?_ | (simp;done))))
 all_goals
  refine Sem.re _ _ 1 0 (by rw [hB];exact lF rfl) (by rw [hB];exact lF rfl) ?_ ?_ (k (by simpa only [bs, ↓reduceIte]using h))
  ·(simp only [go_sem,hP,hY,hZ,gA];repeat' (first | exact Ok.out | with_reducible refine aG ?_ ?_))
  ·(simp only [go_sem,hP,hY,hZ,gA];repeat' (first | exact Ok.out | with_reducible refine aG ?_ ?_))
theorem acQ {hx hn cl:Bool} (hf:v.l9) (hB:B.s = ⟨[],[]⟩) (hQ:ig 0 0 [(2,none)] (.bool p) ⟨[],[]⟩=Q)
 (h:(if decide (v.kind<1) || decide (v.kind > 10) || !(c6 v.labels) || (hx && !(v.x.may)) || (!hx && !(v.x.none)) || (v.has && v.kind != 9)then false
  else if(hn && !(isName v.name)) || (!hn && !(v.name == []) && !(cl && isName v.name))then false
  else if !(cl == !(v.proc == [])) || (cl && !(isName v.proc)) || (!cl && decide ((v.args.length:Int) > 0))then false
  else if !(Ar.dT v.args)then false else((v.aY.length:Int)==0 || v.kind==5 || v.kind==6) && ((v.aT.length:Int)==0 || v.kind==5))=p) :
 Sem Tryz.prog B 178 YY Q [(1, .ptr 0 0),(3, .bool hx),(4, .bool hn),(5, .bool cl)] ⟨[bd v],[]⟩:=by
 have hns:=fun s=>RJ hf.Ze hf.UM s
 have hm:=D4 hf.x hf.xt
 have⟨hP,hY,hZ,gA⟩:=bw
 refine Sem.kb ?_
 repeat' (first
 | simp only [go_sem,hP,hY,hZ,gA]
 | (with_reducible refine CU (hns _) ?_)
 | (with_reducible refine CU (hm _) ?_)
 | (with_reducible refine CU (Oj _ _) ?_)
 | (with_reducible first | refine br fun hc=> ?_ | refine bt fun hc=> ?_ | refine bu (fun hc=> ?_) fun hc=> ?_) <;> (try simp only [hc,bs, ↓reduceIte]at h) <;> try simp only [hc]
 | (with_reducible refine aF hQ ?_;(try cases h);simp only [az,aB,bB,bC,go_sem,hP,hY,hZ,gA];repeat' (first | exact Ok.out | with_reducible refine aG ?_ ?_ | (simp;done))))
 all_goals
  refine Sem.re _ _ 1 0 (by rw [hB];exact lF rfl) (by rw [hB];exact lF rfl) ?_ ?_ (acP hf hB hQ h)
  ·(simp only [go_sem,hP,hY,hZ,gA];repeat' (first | exact Ok.out | with_reducible refine aG ?_ ?_))
  ·(simp only [go_sem,hP,hY,hZ,gA];repeat' (first | exact Ok.out | with_reducible refine aG ?_ ?_))
theorem acR {hx hn:Bool} (hf:v.l9) (hB:B.s = ⟨[],[]⟩) (hQ:ig 0 0 [(2,none)] (.bool p) ⟨[],[]⟩=Q) (ex:v.sg=hx) (en:v.hasName=hn) (h:v.one=p) :
 Sem Tryz.prog B 178 YZ Q [(1, .ptr 0 0),(3, .bool hx),(4, .bool hn)] ⟨[bd v],[]⟩:=by
 unfold Sm.one at h
 rw [ex,en]at h
 have⟨hP,hY,hZ,gA⟩:=bw
 refine Sem.kb ?_
 repeat' (first
 | simp only [go_sem,hP,hY,hZ,gA]
 | (with_reducible refine aF hQ ?_;simp only [az,aB,Option.some.injEq,exists_eq_left',go_sem,hP,hY,hZ,gA];repeat' (first | exact Ok.out | with_reducible refine aG ?_ ?_ | (simp;done))))
 refine Sem.re _ _ 1 0 (by rw [hB];exact lF rfl) (by rw [hB];exact lF rfl) ?_ ?_ (acQ hf hB hQ h)
 ·(simp only [go_sem,hP,hY,hZ,gA,Sm.mV];repeat' (first | exact Ok.out | with_reducible refine aG ?_ ?_))
 ·(simp only [go_sem,hP,hY,hZ,gA,Sm.mV];repeat' (first | exact Ok.out | with_reducible refine aG ?_ ?_))
theorem acS {hx:Bool} (hf:v.l9) (hB:B.s = ⟨[],[]⟩) (hQ:ig 0 0 [(2,none)] (.bool p) ⟨[],[]⟩=Q) (ex:v.sg=hx) (hp:v.one=p) :
 Sem Tryz.prog B 178 Y0 Q [(1, .ptr 0 0),(3, .bool hx)] ⟨[bd v],[]⟩:=by
 generalize h:v.hasName=hn
 have hn:=h
 unfold Sm.hasName at h
 have⟨hP,hY,hZ,gA⟩:=bw
 refine Sem.kb ?_
 repeat' (first
 | simp only [go_sem,hP,hY,hZ,gA]
 | (with_reducible first | refine br fun hc=> ?_ | refine bt fun hc=> ?_ | refine bu (fun hc=> ?_) fun hc=> ?_) <;> (try simp only [hc,bs, ↓reduceIte]at h) <;> try simp only [hc]
 | (with_reducible refine aF hQ ?_;simp only [az,aB,bB,bC,go_sem,hP,hY,hZ,gA];repeat' (first | exact Ok.out | with_reducible refine aG ?_ ?_ | (simp;done))))
 all_goals
  refine Sem.re _ _ 1 0 (by rw [hB];exact lF rfl) (by rw [hB];exact lF rfl) ?_ ?_ (acR hf hB hQ ex hn hp)
  ·(simp only [go_sem,hP,hY,hZ,gA,h];repeat' (first | exact Ok.out | with_reducible refine aG ?_ ?_))
  ·(simp only [go_sem,hP,hY,hZ,gA,h];repeat' (first | exact Ok.out | with_reducible refine aG ?_ ?_))
theorem acT (hf:v.l9) (hB:B.s = ⟨[],[]⟩) (hQ:ig 0 0 [(2,none)] (.bool p) ⟨[],[]⟩=Q) (hp:v.one=p) :
 Sem Tryz.prog B 178 Y1 Q [(1, .ptr 0 0)] ⟨[bd v],[]⟩:=by
 generalize h:v.sg=hx
 have ex:=h
 unfold Sm.sg at h
 have⟨hP,hY,hZ,gA⟩:=bw
 refine Sem.kb ?_
 repeat' (first
 | simp only [go_sem,hP,hY,hZ,gA]
 | (with_reducible first | refine br fun hc=> ?_ | refine bt fun hc=> ?_ | refine bu (fun hc=> ?_) fun hc=> ?_) <;> (try simp only [hc,bs, ↓reduceIte]at h) <;> try simp only [hc]
 | (with_reducible refine aF hQ ?_;simp only [az,aB,bB,bC,go_sem,hP,hY,hZ,gA];repeat' (first | exact Ok.out | with_reducible refine aG ?_ ?_ | (simp;done))))
 all_goals
  refine Sem.re _ _ 1 0 (by rw [hB];exact lF rfl) (by rw [hB];exact lF rfl) ?_ ?_ (acS hf hB hQ ex hp)
  ·(simp only [go_sem,hP,hY,hZ,gA,h];repeat' (first | exact Ok.out | with_reducible refine aG ?_ ?_))
  ·(simp only [go_sem,hP,hY,hZ,gA,h];repeat' (first | exact Ok.out | with_reducible refine aG ?_ ?_))
end
theorem aD.goS {P:Program} {f:FuncId} {nt:Nat} {res:List (Nat×Option (Bool×Nat))} {body:AC} {args:List D} {s:St} {d:D} {s':St} (h0:Has P f nt res body) (hl:Nat.ble args.length nt=true)
 (h : ∀ (B:fj) (Q:Exit→Tm→St→Prop),B.s=s→ig s.aA.length s.aC.length res d s'=Q→Sem P B nt body Q (nr 0 args) s):aD P f args s d s':=by
 obtain⟨fn,hf,hc⟩:=h0
 exact aD.intro ⟨fn,hf,hc⟩ (Nat.le_of_ble_eq_true hl) fun B hB=>h B _ hB rfl
theorem FA {v:Sm} (hf:v.l9) (s:St):aD Tryz.prog BU [.agg (bd v)] s (.bool v.one) s:=by
 refine aD.pure ?_ (by simp [D.bJ,D.ok,nh]) rfl s
 unfold S0
 refine aD.goS Hd rfl fun B Q hB hQ=> ?_
 have⟨hP,hY,hZ,gA⟩:=bw
 refine Sem.kb ?_
 repeat' (first
 | simp only [go_sem,hP,hY,hZ,gA]
 | (with_reducible refine aF hQ ?_;simp only [az,aB,Option.some.injEq,exists_eq_left',go_sem,hP,hY,hZ,gA];repeat' (first | exact Ok.out | with_reducible refine aG ?_ ?_ | (simp;done))))
 refine Sem.re _ _ 1 0 (by rw [hB];exact lF rfl) (by rw [hB];exact lF rfl) ?_ ?_ (acT hf hB hQ rfl)
 ·(simp only [go_sem,hP,hY,hZ,gA];repeat' (first | exact Ok.out | with_reducible refine aG ?_ ?_))
 ·(simp only [go_sem,hP,hY,hZ,gA];repeat' (first | exact Ok.out | with_reducible refine aG ?_ ?_))
end Go.Abs

/-! Flat1 -/

namespace Go.Abs
set_option maxRecDepth 8000
open Go.Proofs
def eO (i:Im):List D:= [.int .i64 i.s.id, .int .i64 i.s.kind, .slice .shared 1 (i.s.labels.map encStr), .str i.s.name, .str i.s.proc,
 .int .i64 i.s.x.op, .int .i64 i.s.x.n, .str i.s.x.name, .slice .shared 4 (i.s.x.kids.map bo), .bool i.s.has, .slice .shared 6 (i.s.args.map dR), .slice .shared 13 (i.s.aY.map bd), .slice .shared 13 (i.s.aT.map bd), .int .i64 i.proc, .int .i64 i.up, .int .i64 i.next, .int .i64 i.loop]
def lj (n:Int):List D:= [.int .i64 n]
theorem LX (i:Im):D.bJ 0 0 (eO i)=true:=by simp [eO,D.bJ,D.ok,Tag.ok,eD,TI,Ft,lM]
theorem FB (l:List Im):D.iZ 0 0 (l.map eO)=true:=gD LX l
theorem UN (n m:Nat) (l:List Im):D.jD n m (l.map eO)=l.map eO:=lV LX n m l
theorem acU (n m:Nat) (i:Im):D.gG n m (eO i)=eO i:=gU n m _ (LX i)
theorem acV (x:Im):(eO x).length=17:=nd rfl
theorem Wg (x:Im):List.take 17 (eO x)=eO x:=nd rfl
theorem Zg (x:Im):List.drop 17 (eO x) = []:=nd rfl
theorem Zh (x:Im):List.take 13 (eO x)=bd x.s:=by simp only [eO,dv];rfl
theorem RL (x:Im):(eO x)[0]? = some (.int .i64 x.s.id):=nd rfl
theorem RM (x:Im):(eO x)[1]? = some (.int .i64 x.s.kind):=nd rfl
theorem RN (x:Im):(eO x)[4]? = some (.str x.s.proc):=nd rfl
theorem Ol (x:Im):(eO x)[13]? = some (.int .i64 x.proc):=nd rfl
theorem Om (x:Im):(eO x)[14]? = some (.int .i64 x.up):=nd rfl
theorem On (x:Im):(eO x)[15]? = some (.int .i64 x.next):=nd rfl
theorem Oo (x:Im):(eO x)[16]? = some (.int .i64 x.loop):=nd rfl
theorem LY (s:Sm) (a b c d:Int):eO ⟨s,a,b,c,d⟩ = [.int .i64 s.id, .int .i64 s.kind, .slice .shared 1 (s.labels.map encStr), .str s.name, .str s.proc,
 .int .i64 s.x.op, .int .i64 s.x.n, .str s.x.name, .slice .shared 4 (s.x.kids.map bo), .bool s.has, .slice .shared 6 (s.args.map dR), .slice .shared 13 (s.aY.map bd), .slice .shared 13 (s.aT.map bd), .int .i64 a, .int .i64 b, .int .i64 c, .int .i64 d]:=nd rfl
theorem UO (n:Int):D.bJ 0 0 (lj n)=true:=rfl
theorem zg (l:List Int):D.iZ 0 0 (l.map lj)=true:=gD UO l
theorem Oq (n m:Nat) (l:List Int):D.jD n m (l.map lj)=l.map lj:=lV UO n m l
attribute [go_sem] UN acU acV Wg Zg Zh RL RM RN Ol Om On Oo Oq lj
theorem Zi : ∀ n,n<1000000000→∀ v:Sm,v.size≤n→aD Tryz.prog lA [.agg (bd v)] S0 (.int .i64 (v.gV:Int)) S0:=by
 intro n
 induction n with
 | zero=>intro _ v h;obtain⟨_,_,_,_,_,_,_,_,_,_⟩:=v;simp only [Sm.size]at h;omega
 | succ n ih=>
 intro hn v hv
 have ew:Sm.aW v.aY≤n∧Sm.aW v.aT≤n∧v.gV=1+Sm.dY v.aY+Sm.dY v.aT:=by
  obtain⟨_,_,_,_,_,_,_,_,_,_⟩:=v
  simp only [Sm.size]at hv;exact⟨by dsimp only;omega,by dsimp only;omega,rfl⟩
 obtain⟨h1,h2,h3⟩:=ew
 have c1:=kl v.aY
 have c2:=kl v.aT
 have l1:=Sm.da v.aY
 have l2:=Sm.da v.aT
 have hk : ∀ y,y∈v.aY∨y∈v.aT→∀ s,aD Tryz.prog lA [.agg (bd y)] s (.int .i64 (y.gV:Int)) s:=fun y hy s=>
  (ih (by omega) y (by rcases hy with hy | hy <;> (have:=Sm.bW hy;omega))).pure (by simp only [D.bJ,D.ok,nh];rfl) rfl s
 rw [h3]
 unfold S0
 refine aD.go Ff rfl fun B Q hB hQ=> ?_
 have⟨hP,hY,hZ,gA⟩:=bw
 repeat' (first
 | simp only [go_sem,hP,hY,hZ,gA]
 | (with_reducible refine aF hQ ?_;simp only [az,aB,Option.some.injEq,exists_eq_left',go_sem,hP,hY,hZ,gA];repeat' (first | exact Ok.out | with_reducible refine aG ?_ ?_ | (simp;done))))
 refine cM 1 0 (bj.ind (ι:=List Sm×Nat×Nat) (fun i=>v.aY.drop i.2.1=i.1∧i.2.2+Sm.dY i.1=1+Sm.dY v.aY) (fun i=>i.1.length)
  (fun i=> [(1, .ptr 0 0),(3, .int .i64 (i.2.2:Int)),(9, .slice .shared 13 (v.aY.map bd)),(10, .int .i64 (v.aY.length:Int)),(11, .int .i64 (i.2.1:Int))]) (fun i=>⟨[bd v],[]⟩) ?_ (v.aY,0,1) ⟨rfl,rfl⟩)
 rintro⟨rest,k,c⟩ ⟨g1,g2⟩ IH
 dsimp only at g1 g2
 cases rest with
 | cons y rest=>
  obtain⟨hY,g3,hP,g4⟩:=drop_cons g1
  have hy:=hk y (.inl (List.mem_of_getElem? hY))
  simp only [Sm.dY]at g2
  have hcy:=Bd y
  have MN:=Sm.bW (List.mem_of_getElem? hY)
  have w1:IntKind.wrap .i64 ((k:Int)+1)=((k+1:Nat):Int):=by rw [cY] <;> omega
  have w2:IntKind.wrap .i64 ((c:Int)+(y.gV:Int))=((c+y.gV:Nat):Int):=by rw [cY] <;> omega
  repeat' (first
 | simp only [go_sem,hP,hY,hZ,gA,w1,w2]
 | (with_reducible refine CU (hy _) ?_)
 | (with_reducible refine aF hQ ?_;simp only [az,aB,Option.some.injEq,exists_eq_left',go_sem,hP,hY,hZ,gA];repeat' (first | exact Ok.out | with_reducible refine aG ?_ ?_ | (simp;done))))
  refine cM 1 0 (IH (rest,k+1,c+y.gV) ⟨g3,by dsimp only;omega⟩ (Nat.lt_succ_self _))
 | nil=>
  have hP:=drop_nil g1
  simp only [Sm.dY,Nat.add_zero]at g2
  subst g2
  repeat' (first
 | simp only [go_sem,hP,hY,hZ,gA]
 | (with_reducible refine aF hQ ?_;simp only [az,aB,Option.some.injEq,exists_eq_left',go_sem,hP,hY,hZ,gA];repeat' (first | exact Ok.out | with_reducible refine aG ?_ ?_ | (simp;done))))
  refine cM 1 0 (bj.ind (ι:=List Sm×Nat×Nat) (fun i=>v.aT.drop i.2.1=i.1∧i.2.2+Sm.dY i.1=1+Sm.dY v.aY+Sm.dY v.aT) (fun i=>i.1.length)
   (fun i=> [(1, .ptr 0 0),(3, .int .i64 (i.2.2:Int)),(21, .slice .shared 13 (v.aT.map bd)),(22, .int .i64 (v.aT.length:Int)),(23, .int .i64 (i.2.1:Int))]) (fun i=>⟨[bd v],[]⟩) ?_ (v.aT,0,1+Sm.dY v.aY) ⟨rfl,rfl⟩)
  rintro⟨rest,k,c⟩ ⟨g1,g2⟩ IH
  dsimp only at g1 g2
  cases rest with
  | cons y rest=>
   obtain⟨hY,g3,hP,g4⟩:=drop_cons g1
   have hy:=hk y (.inr (List.mem_of_getElem? hY))
   simp only [Sm.dY]at g2
   have hcy:=Bd y
   have MN:=Sm.bW (List.mem_of_getElem? hY)
   have w1:IntKind.wrap .i64 ((k:Int)+1)=((k+1:Nat):Int):=by rw [cY] <;> omega
   have w2:IntKind.wrap .i64 ((c:Int)+(y.gV:Int))=((c+y.gV:Nat):Int):=by rw [cY] <;> omega
   repeat' (first
 | simp only [go_sem,hP,hY,hZ,gA,w1,w2]
 | (with_reducible refine CU (hy _) ?_)
 | (with_reducible refine aF hQ ?_;simp only [az,aB,Option.some.injEq,exists_eq_left',go_sem,hP,hY,hZ,gA];repeat' (first | exact Ok.out | with_reducible refine aG ?_ ?_ | (simp;done))))
   refine cM 1 0 (IH (rest,k+1,c+y.gV) ⟨g3,by dsimp only;omega⟩ (Nat.lt_succ_self _))
  | nil=>
   have hP:=drop_nil g1
   simp only [Sm.dY,Nat.add_zero]at g2
   subst g2
   repeat' (first
 | simp only [go_sem,hP,hY,hZ,gA]
 | (with_reducible refine aF hQ ?_;simp only [az,aB,Option.some.injEq,exists_eq_left',go_sem,hP,hY,hZ,gA];repeat' (first | exact Ok.out | with_reducible refine aG ?_ ?_ | (simp;done))))
theorem Zj {v:Sm} (h:v.size<1000000000) (s:St):aD Tryz.prog lA [.agg (bd v)] s (.int .i64 (v.gV:Int)) s:=
 (Zi v.size h v (Nat.le_refl _)).pure (by simp only [D.bJ,D.ok,nh];rfl) rfl s
end Go.Abs

/-! Flat2 -/

namespace Go.Abs
set_option maxRecDepth 8000
open Go.Proofs
abbrev gZ (g ps:D) (L:List Im) (lo hi:List Int):List D:= [g,ps, .slice (.tok 0) 17 (L.map eO), .slice (.tok 1) 1 (lo.map lj), .slice (.tok 2) 1 (hi.map lj)]
abbrev RO (proc up next loop:Int):List D:= [.int .i64 0, .int .i64 0, .slice .full 0 [], .str [], .str [], .int .i64 0, .int .i64 0, .str [], .slice .full 0 [], .bool false, .slice .full 0 [], .slice .full 0 [], .slice .full 0 [], .int .i64 proc, .int .i64 up, .int .i64 next, .int .i64 loop]
theorem aD.acW {P:Program} {f:Nat} {args:List D} {g ps:D} {L L':List Im} {lo hi DQ gF:List Int} {a b c a' b' c':Option Nat}
 (h:aD P f (.ptr 0 0::args) ⟨[gZ g ps L lo hi],[a,b,c]⟩ (.tuple []) ⟨[gZ g ps L' DQ gF],[a',b',c']⟩)
 (ha:D.bJ 0 0 args=true) (hg:D.ok 0 0 g=true) (hp:D.ok 0 0 ps=true)
 {s:St} {o:Nat} (ho:s.aA[o]? = some (gZ g ps L lo hi)) (ht:s.aC = [a,b,c]):aD P f (.ptr o 0::args) s (.tuple []) ⟨s.aA.set o (gZ g ps L' DQ gF),[a',b',c']⟩:=by
 have hr : ∀ (L:List Im) (lo hi:List Int),D.fV [o] [0,1,2] (gZ g ps L lo hi)=gZ g ps L lo hi:=fun L lo hi=>by
  simp [D.fV,D.dK,Tag.dK,qK _ _ _ hg,qK _ _ _ hp,iP _ _ _ (FB L),iP _ _ _ (zg lo),iP _ _ _ (zg hi)]
 have hk : ∀ (L:List Im) (lo hi:List Int),D.bJ 1 3 (gZ g ps L lo hi)=true:=fun L lo hi=>by
  simp [D.bJ,D.ok,Tag.ok,C0 (Nat.zero_le 1) (Nat.zero_le 3) _ hg,C0 (Nat.zero_le 1) (Nat.zero_le 3) _ hp,mA (Nat.zero_le 1) (Nat.zero_le 3) _ (FB L),mA (Nat.zero_le 1) (Nat.zero_le 3) _ (zg lo),mA (Nat.zero_le 1) (Nat.zero_le 3) _ (zg hi)]
 refine eg.frame [o] [0,1,2] h (by simp) (by decide) (by simpa using (List.getElem?_eq_some_iff.1 ho).1) (by rw [ht];simp) rfl (fun i o' ds e1 e2=> ?_) rfl (fun i t' e1=> ?_)
  (by simp [D.fV,D.dK,ff _ _ _ ha])
  (by simp [D.bJ,D.ok,gI (Nat.zero_le 1) (Nat.zero_le 3) _ ha]) ?_
 ·cases i with
  | zero=>simp only [List.getElem?_cons_zero,Option.some.injEq]at e1 e2;subst e1;subst e2;exact⟨by rw [hr];exact ho,hk L lo hi⟩
  | succ i=>simp at e1
 ·rw [ht]
  match i,e1 with
  | 0,e1=>simp at e1;subst e1;rfl
  | 1,e1=>simp at e1;subst e1;rfl
  | 2,e1=>simp at e1;subst e1;rfl
  | i+3,e1=>simp at e1
 ·rintro _ _ ⟨rfl,rfl⟩
  refine⟨by simp [D.back,D.dK,D.fV], ?_⟩
  have:=hr L' DQ gF
  simp [St.back,jJ,jE,this,ht]
abbrev UP (N:Nat):Prop:=∀ (l:List Sm) (proc up next loop:Int) (out:List Im) (g ps:D) (lo hi:List Int) (b c:Option Nat),Sm.aW l<N→out.length+Sm.dY l<1000000000→D.ok 0 0 g=true→D.ok 0 0 ps=true→
 ∀ {s:St} {o:Nat},s.aA[o]? = some (gZ g ps out lo hi)→s.aC = [some out.length,b,c]→
 aD Tryz.prog ji [.ptr o 0, .slice .shared 13 (l.map bd), .agg (RO proc up next loop)] s (.tuple []) ⟨s.aA.set o (gZ g ps (Im.rows proc up next loop out l) lo hi),[some (Im.rows proc up next loop out l).length,b,c]⟩
theorem acX {N:Nat} (ih:UP N) {l:List Sm} {proc up next loop:Int} {out:List Im} {g ps:D} {lo hi:List Int} {b c:Option Nat} (hs:Sm.aW l<N+1) (hc:out.length+Sm.dY l<1000000000) (hg:D.ok 0 0 g=true) (hp:D.ok 0 0 ps=true) (hN:N<1000000000) :
 aD Tryz.prog ji [.ptr 0 0, .slice .shared 13 (l.map bd), .agg (RO proc up next loop)] ⟨[gZ g ps out lo hi],[some out.length,b,c]⟩ (.tuple []) ⟨[gZ g ps (Im.rows proc up next loop out l) lo hi],[some (Im.rows proc up next loop out l).length,b,c]⟩:=by
 obtain⟨R,hR⟩ : ∃ R,R=Im.rows proc up next loop out l:=⟨_,rfl⟩
 have hlR:R.length=out.length+Sm.dY l:=by rw [hR,fY]
 rw [← hR]
 have k1 : ∀ n m,D.fg n m g=g:=fun n m=>LH n m _ hg
 have k2 : ∀ n m,D.fg n m ps=ps:=fun n m=>LH n m _ hp
 refine aD.go zc rfl fun B Q hB hQ=> ?_
 have⟨hP,hY,hZ,gA⟩:=bw
 repeat' (first
 | simp only [go_sem,hP,hY,hZ,gA,k1,k2]
 | (with_reducible first | refine br fun hc=> ?_ | refine bt fun hc=> ?_ | refine bu (fun hc=> ?_) fun hc=> ?_) <;> (try simp only [hc,bs, ↓reduceIte]at h) <;> try simp only [hc]
 | (with_reducible refine aF hQ ?_;simp only [az,aB,bB,bC,go_sem,hP,hY,hZ,gA,k1,k2];repeat' (first | exact Ok.out | with_reducible refine aG ?_ ?_ | (simp;done))))
 refine eo 2 3 ?_ ?_ (bj.ind (ι:=List Sm×Nat×List Im) (fun i=>l.drop i.2.1=i.1∧Im.rows proc up next loop i.2.2 i.1=R∧i.2.2.length+Sm.dY i.1=out.length+Sm.dY l) (fun i=>i.1.length)
  (fun i=> [(0, .ptr 0 0),(1, .slice .shared 13 (l.map bd)),(5, .ptr 1 0),(11, .slice .shared 13 (l.map bd)),(12, .int .i64 (l.length:Int)),(13, .int .i64 (i.2.1:Int))]) (fun i=>⟨[gZ g ps i.2.2 lo hi,RO proc up next loop],[some i.2.2.length,b,c]⟩) ?_ (l,0,out) ⟨rfl,hR.symm,rfl⟩)
 ·(simp only [go_sem,hP,hY,hZ,gA,k1,k2];try exact bQ)
 ·(simp only [go_sem,hP,hY,hZ,gA,k1,k2];try exact bQ)
 rintro⟨rest,k,cr⟩ ⟨h1,h2,h3⟩ IH
 dsimp only at h1 h2 h3
 have hlen:l.length<1000000000:=by have:=Sm.da l;omega
 cases rest with
 | nil=>
  have hP:=drop_nil h1
  simp only [Im.rows]at h2
  subst h2
  repeat' (first
 | simp only [go_sem,hP,hY,hZ,gA,k1,k2]
 | (with_reducible first | refine br fun hc=> ?_ | refine bt fun hc=> ?_ | refine bu (fun hc=> ?_) fun hc=> ?_) <;> (try simp only [hc,bs, ↓reduceIte]at h) <;> try simp only [hc]
 | (with_reducible refine aF hQ ?_;simp only [az,aB,bB,bC,go_sem,hP,hY,hZ,gA,k1,k2];repeat' (first | exact Ok.out | with_reducible refine aG ?_ ?_ | (simp;done))))
 | cons v rest=>
  obtain⟨hY,g2,hP,g4⟩:=drop_cons h1
  have cz:k<4611686018427387904:=by omega
  have hv:=Sm.bW (List.mem_of_getElem? hY)
  have rr:Sm.aW v.aY<N∧Sm.aW v.aT<N∧v.gV=1+Sm.dY v.aY+Sm.dY v.aT:=by
   obtain⟨_,_,_,_,_,_,_,_,_,_⟩:=v
   simp only [Sm.size]at hv
   exact⟨by dsimp only;omega,by dsimp only;omega,rfl⟩
  obtain⟨BJ,F3,hv3⟩:=rr
  simp only [Sm.dY]at h3
  simp only [Im.rows,Im.Yp]at h2
  have hZ:(cr.length+1)*241≤bx:=by unfold bx;omega
  have Jo:IntKind.wrap .i64 ((cr.length:Int)+1)=(cr.length:Int)+1:=cY (by omega) (by omega)
  have uR:IntKind.wrap .i64 ((k:Int)+1)=((k+1:Nat):Int):=by rw [cY] <;> omega
  have UQ:IntKind.wrap .i64 ((cr.length:Int)+1+(v.gV:Int))=(cr.length:Int)+1+(v.gV:Int):=cY (by omega) (by omega)
  have ew:=fun s=>Zj (v:=v) (by omega) s
  simp only [dv]at ew
  have I9:rest.length=l.length - (k+1):=by rw [← g2,List.length_drop]
  by_cases atq:k+1<l.length
  ·have d1:decide (((k+1:Nat):Int)<(l.length:Int))=true:=by simp;omega
   have e1:(rest.length=0)=False:=by simp;intro h;rw [h]at I9;simp at I9;omega
   by_cases Ou:v.kind=6
   ·have d2:(v.kind==6)=true:=by simp [Ou]
    simp only [e1,d2, ↓reduceIte,Bool.false_eq_true]at h2
    have f1:=fun {s:St} {o:Nat}=>@ih v.aY proc ((cr.length:Int)+1) ((cr.length:Int)+1) ((cr.length:Int)+1) (cr++ [⟨v,proc,up,((cr.length:Int)+1+(v.gV:Int)),loop⟩]) g ps lo hi b c BJ (by simp;omega) hg hp s o
    have f2:=fun {s:St} {o:Nat}=>@ih v.aT proc ((cr.length:Int)+1) ((cr.length:Int)+1) ((cr.length:Int)+1) _ g ps lo hi b c F3 (by rw [fY proc ((cr.length:Int)+1) ((cr.length:Int)+1) ((cr.length:Int)+1) (cr++ [⟨v,proc,up,((cr.length:Int)+1+(v.gV:Int)),loop⟩]) v.aY];simp;omega) hg hp s o
    have hl:(Im.rows proc ((cr.length:Int)+1) ((cr.length:Int)+1) ((cr.length:Int)+1) (Im.rows proc ((cr.length:Int)+1) ((cr.length:Int)+1) ((cr.length:Int)+1) (cr++ [⟨v,proc,up,((cr.length:Int)+1+(v.gV:Int)),loop⟩]) v.aY) v.aT).length=cr.length+v.gV:=by rw [fY,fY];simp;omega
    simp only [gZ,List.map_append,List.map_cons,List.map_nil,LY,List.length_append,List.length_cons,List.length_nil]at f1
    repeat' (first
 | simp only [go_sem,hP,hY,hZ,gA,k1,k2,Jo,uR,UQ,d1,d2,dv]
 | (with_reducible refine CU (ew _) ?_)
 | (with_reducible refine CU (f1 (by with_unfolding_all rfl) (by with_unfolding_all rfl)) ?_)
 | (with_reducible refine CU (f2 (by with_unfolding_all rfl) (by with_unfolding_all rfl)) ?_)
 | (with_reducible refine aF hQ ?_;simp only [az,aB,bB,bC,go_sem,hP,hY,hZ,gA];repeat' (first | exact Ok.out | with_reducible refine aG ?_ ?_ | (simp;done))))
    refine eo 2 3 ?_ ?_ (IH (rest,k+1,_) ⟨g2,h2,by dsimp only;rw [hl];omega⟩ (Nat.lt_succ_self _))
    ·(simp only [go_sem,hP,hY,hZ,gA,uR,k1,k2];try exact bQ)
    ·(simp only [go_sem,hP,hY,hZ,gA,uR,k1,k2];try exact bQ)
   ·have d2:(v.kind==6)=false:=by simp [Ou]
    simp only [e1,d2, ↓reduceIte,Bool.false_eq_true]at h2
    have f1:=fun {s:St} {o:Nat}=>@ih v.aY proc ((cr.length:Int)+1) ((cr.length:Int)+1+(v.gV:Int)) loop (cr++ [⟨v,proc,up,((cr.length:Int)+1+(v.gV:Int)),loop⟩]) g ps lo hi b c BJ (by simp;omega) hg hp s o
    have f2:=fun {s:St} {o:Nat}=>@ih v.aT proc ((cr.length:Int)+1) ((cr.length:Int)+1+(v.gV:Int)) loop _ g ps lo hi b c F3 (by rw [fY proc ((cr.length:Int)+1) ((cr.length:Int)+1+(v.gV:Int)) loop (cr++ [⟨v,proc,up,((cr.length:Int)+1+(v.gV:Int)),loop⟩]) v.aY];simp;omega) hg hp s o
    have hl:(Im.rows proc ((cr.length:Int)+1) ((cr.length:Int)+1+(v.gV:Int)) loop (Im.rows proc ((cr.length:Int)+1) ((cr.length:Int)+1+(v.gV:Int)) loop (cr++ [⟨v,proc,up,((cr.length:Int)+1+(v.gV:Int)),loop⟩]) v.aY) v.aT).length=cr.length+v.gV:=by rw [fY,fY];simp;omega
    simp only [gZ,List.map_append,List.map_cons,List.map_nil,LY,List.length_append,List.length_cons,List.length_nil]at f1
    repeat' (first
 | simp only [go_sem,hP,hY,hZ,gA,k1,k2,Jo,uR,UQ,d1,d2,dv]
 | (with_reducible refine CU (ew _) ?_)
 | (with_reducible refine CU (f1 (by with_unfolding_all rfl) (by with_unfolding_all rfl)) ?_)
 | (with_reducible refine CU (f2 (by with_unfolding_all rfl) (by with_unfolding_all rfl)) ?_)
 | (with_reducible refine aF hQ ?_;simp only [az,aB,bB,bC,go_sem,hP,hY,hZ,gA];repeat' (first | exact Ok.out | with_reducible refine aG ?_ ?_ | (simp;done))))
    refine eo 2 3 ?_ ?_ (IH (rest,k+1,_) ⟨g2,h2,by dsimp only;rw [hl];omega⟩ (Nat.lt_succ_self _))
    ·(simp only [go_sem,hP,hY,hZ,gA,uR,k1,k2];try exact bQ)
    ·(simp only [go_sem,hP,hY,hZ,gA,uR,k1,k2];try exact bQ)
  ·have d1:decide (((k+1:Nat):Int)<(l.length:Int))=false:=by simp;omega
   have e1:(rest.length=0)=True:=by simp only [eq_iff_iff,iff_true];omega
   by_cases Ou:v.kind=6
   ·have d2:(v.kind==6)=true:=by simp [Ou]
    simp only [e1,d2, ↓reduceIte,Bool.false_eq_true]at h2
    have f1:=fun {s:St} {o:Nat}=>@ih v.aY proc ((cr.length:Int)+1) ((cr.length:Int)+1) ((cr.length:Int)+1) (cr++ [⟨v,proc,up,next,loop⟩]) g ps lo hi b c BJ (by simp;omega) hg hp s o
    have f2:=fun {s:St} {o:Nat}=>@ih v.aT proc ((cr.length:Int)+1) ((cr.length:Int)+1) ((cr.length:Int)+1) _ g ps lo hi b c F3 (by rw [fY proc ((cr.length:Int)+1) ((cr.length:Int)+1) ((cr.length:Int)+1) (cr++ [⟨v,proc,up,next,loop⟩]) v.aY];simp;omega) hg hp s o
    have hl:(Im.rows proc ((cr.length:Int)+1) ((cr.length:Int)+1) ((cr.length:Int)+1) (Im.rows proc ((cr.length:Int)+1) ((cr.length:Int)+1) ((cr.length:Int)+1) (cr++ [⟨v,proc,up,next,loop⟩]) v.aY) v.aT).length=cr.length+v.gV:=by rw [fY,fY];simp;omega
    simp only [gZ,List.map_append,List.map_cons,List.map_nil,LY,List.length_append,List.length_cons,List.length_nil]at f1
    repeat' (first
 | simp only [go_sem,hP,hY,hZ,gA,k1,k2,Jo,uR,UQ,d1,d2,dv]
 | (with_reducible refine CU (ew _) ?_)
 | (with_reducible refine CU (f1 (by with_unfolding_all rfl) (by with_unfolding_all rfl)) ?_)
 | (with_reducible refine CU (f2 (by with_unfolding_all rfl) (by with_unfolding_all rfl)) ?_)
 | (with_reducible refine aF hQ ?_;simp only [az,aB,bB,bC,go_sem,hP,hY,hZ,gA];repeat' (first | exact Ok.out | with_reducible refine aG ?_ ?_ | (simp;done))))
    refine eo 2 3 ?_ ?_ (IH (rest,k+1,_) ⟨g2,h2,by dsimp only;rw [hl];omega⟩ (Nat.lt_succ_self _))
    ·(simp only [go_sem,hP,hY,hZ,gA,uR,k1,k2];try exact bQ)
    ·(simp only [go_sem,hP,hY,hZ,gA,uR,k1,k2];try exact bQ)
   ·have d2:(v.kind==6)=false:=by simp [Ou]
    simp only [e1,d2, ↓reduceIte,Bool.false_eq_true]at h2
    have f1:=fun {s:St} {o:Nat}=>@ih v.aY proc ((cr.length:Int)+1) next loop (cr++ [⟨v,proc,up,next,loop⟩]) g ps lo hi b c BJ (by simp;omega) hg hp s o
    have f2:=fun {s:St} {o:Nat}=>@ih v.aT proc ((cr.length:Int)+1) next loop _ g ps lo hi b c F3 (by rw [fY proc ((cr.length:Int)+1) next loop (cr++ [⟨v,proc,up,next,loop⟩]) v.aY];simp;omega) hg hp s o
    have hl:(Im.rows proc ((cr.length:Int)+1) next loop (Im.rows proc ((cr.length:Int)+1) next loop (cr++ [⟨v,proc,up,next,loop⟩]) v.aY) v.aT).length=cr.length+v.gV:=by rw [fY,fY];simp;omega
    simp only [gZ,List.map_append,List.map_cons,List.map_nil,LY,List.length_append,List.length_cons,List.length_nil]at f1
    repeat' (first
 | simp only [go_sem,hP,hY,hZ,gA,k1,k2,Jo,uR,UQ,d1,d2,dv]
 | (with_reducible refine CU (ew _) ?_)
 | (with_reducible refine CU (f1 (by with_unfolding_all rfl) (by with_unfolding_all rfl)) ?_)
 | (with_reducible refine CU (f2 (by with_unfolding_all rfl) (by with_unfolding_all rfl)) ?_)
 | (with_reducible refine aF hQ ?_;simp only [az,aB,bB,bC,go_sem,hP,hY,hZ,gA];repeat' (first | exact Ok.out | with_reducible refine aG ?_ ?_ | (simp;done))))
    refine eo 2 3 ?_ ?_ (IH (rest,k+1,_) ⟨g2,h2,by dsimp only;rw [hl];omega⟩ (Nat.lt_succ_self _))
    ·(simp only [go_sem,hP,hY,hZ,gA,uR,k1,k2];try exact bQ)
    ·(simp only [go_sem,hP,hY,hZ,gA,uR,k1,k2];try exact bQ)
theorem Wh : ∀ N,N<1000000000→UP N:=by
 intro N
 induction N with
 | zero=>exact fun _ l proc up next loop out g ps lo hi b c h=>absurd h (Nat.not_lt_zero _)
 | succ N ih=>
  intro h l proc up next loop out g ps lo hi b c hs hc hg hp s o ho ht
  exact(acX (ih (by omega)) hs hc hg hp (by omega)).acW (by simp [D.bJ,D.ok,Tag.ok,lM,D.iZ]) hg hp ho ht
end Go.Abs

/-! Flat3 -/

namespace Go.Abs
set_option maxRecDepth 8000
open Go.Proofs
def gO (p:Pg):List D:= [.slice .shared 1 (p.globals.map encStr), .slice .shared 5 (p.procs.map cA), .slice .shared 17 (p.e7.L.map eO), .slice .shared 1 (p.e7.lo.map lj), .slice .shared 1 (p.e7.hi.map lj)]
theorem qP (p:Pg):gO p = [.slice .shared 1 (p.globals.map encStr), .slice .shared 5 (p.procs.map cA), .slice .shared 17 (p.e7.L.map eO), .slice .shared 1 (p.e7.lo.map lj), .slice .shared 1 (p.e7.hi.map lj)]:=nd rfl
theorem xi (p:Pg):D.bJ 0 0 (gO p)=true:=by simp [gO,D.bJ,D.ok,Tag.ok,eD,Fu,FB,zg]
theorem Ov (p:Pg):cd p = [.slice .shared 1 (p.globals.map encStr), .slice .shared 5 (p.procs.map cA)]:=nd rfl
theorem acY {p:Pg} (hs:Pc.aW p.procs<1000000000):aD Tryz.prog lf [.agg (cd p)] S0 (.ptr 1 0) ⟨[cd p,gZ (.slice .shared 1 (p.globals.map encStr)) (.slice .shared 5 (p.procs.map cA)) p.e7.L p.e7.lo p.e7.hi],[some p.e7.L.length,some p.e7.lo.length,some p.e7.hi.length]⟩:=by
 have hlen:p.procs.length<1000000000:=by have:=Pc.da p.procs;omega
 obtain⟨R,hR⟩ : ∃ R,R=p.e7:=⟨_,rfl⟩
 have hR':=hR
 unfold Pg.e7 at hR'
 unfold S0
 rw [Ov, ← hR]
 refine aD.goK 2 3 (Nat.zero_le _) (Nat.zero_le _) G7 rfl fun B Q hB hQ=> ?_
 have⟨hP,hY,hZ,gA⟩:=bw
 repeat' (first
 | simp only [go_sem,hP,hY,hZ,gA,Ov]
 | (with_reducible refine aF hQ ?_;simp only [az,aB,Option.some.injEq,exists_eq_left',go_sem,hP,hY,hZ,gA];repeat' (first | exact Ok.out | with_reducible refine aG ?_ ?_ | (simp;done))))
 refine bj.pb 1 2 17 rfl rfl ?_
 simp only [go_sem,hP,hY,hZ,gA]
 refine bj.pb 1 3 1 rfl rfl ?_
 simp only [go_sem,hP,hY,hZ,gA]
 refine bj.pb 1 4 1 rfl rfl ?_
 simp only [go_sem,hP,hY,hZ,gA]
 refine eo 2 3 ?_ ?_ (bj.ind (ι:=List Pc×Nat×Sh×Nat×Nat) (fun i=>p.procs.drop i.2.1=i.1∧Sh.go i.2.1 i.2.2.1 i.1=R∧i.2.2.1.L.length+Pc.aW i.1≤Pc.aW p.procs∧i.2.2.1.lo.length=i.2.1∧i.2.2.1.hi.length=i.2.1∧i.2.2.2.1=i.2.2.1.lo.length∧i.2.2.2.2=i.2.2.1.hi.length) (fun i=>i.1.length)
  (fun i=> [(1, .ptr 0 0),(3, .ptr 1 0),(10, .slice .shared 5 (p.procs.map cA)),(11, .int .i64 (p.procs.length:Int)),(12, .int .i64 (i.2.1:Int))]) (fun i=>⟨[[.slice .shared 1 (p.globals.map encStr), .slice .shared 5 (p.procs.map cA)],gZ (.slice .shared 1 (p.globals.map encStr)) (.slice .shared 5 (p.procs.map cA)) i.2.2.1.L i.2.2.1.lo i.2.2.1.hi],[some i.2.2.1.L.length,some i.2.2.2.1,some i.2.2.2.2]⟩) ?_ (p.procs,0,⟨[],[],[]⟩,0,0) ⟨rfl,hR'.symm,by simp,rfl,rfl,rfl,rfl⟩)
 ·(simp only [go_sem,hP,hY,hZ,gA,gZ];try exact bQ)
 ·(simp only [go_sem,hP,hY,hZ,gA,gZ];try exact bQ)
 rintro⟨rest,k,h,n1,n2⟩ ⟨h1,h2,h3,h4,h5,h6,h7⟩ IH
 dsimp only at h1 h2 h3 h4 h5 h6 h7
 subst h6 h7
 cases rest with
 | nil=>
  have hP:=drop_nil h1
  simp only [Sh.go]at h2
  rw [← h2]at hQ
  repeat' (first
 | simp only [go_sem,hP,hY,hZ,gA,gZ]
 | (with_reducible refine aF hQ ?_;simp only [az,aB,Option.some.injEq,exists_eq_left',go_sem,hP,hY,hZ,gA];repeat' (first | exact Ok.out | with_reducible refine aG ?_ ?_ | (simp;done))))
 | cons f rest=>
  obtain⟨hY,g2,hP,g4⟩:=drop_cons h1
  have cz:k<4611686018427387904:=by omega
  simp only [Pc.aW,Pc.size]at h3
  simp only [Sh.go]at h2
  have c1:=kl f.body
  have hZ:(h.lo.length+1)*9≤bx:=by unfold bx;omega
  have alf:(h.hi.length+1)*9≤bx:=by unfold bx;omega
  have Jo:IntKind.wrap .i64 ((h.L.length:Int)+1)=(h.L.length:Int)+1:=cY (by omega) (by omega)
  have hl:(Im.rows (k:Int) 0 (-1) 0 h.L f.body).length=h.L.length+Sm.dY f.body:=fY ..
  have uR:IntKind.wrap .i64 (((Im.rows (k:Int) 0 (-1) 0 h.L f.body).length:Int)+1)=((Im.rows (k:Int) 0 (-1) 0 h.L f.body).length:Int)+1:=cY (by omega) (by omega)
  have hr:=fun {s:St} {o:Nat}=>@Wh (Sm.aW f.body+1) (by omega) f.body (k:Int) 0 (-1) 0 h.L (.slice .shared 1 (p.globals.map encStr)) (.slice .shared 5 (p.procs.map cA)) (h.lo++ [(h.L.length:Int)+1]) h.hi (some (h.lo.length+1)) (some h.hi.length) (Nat.lt_succ_self _) (by omega) (by simp [D.ok,Tag.ok,eD]) (by simp [D.ok,Tag.ok,Fu]) s o
  simp only [gZ,List.map_append,List.map_cons,List.map_nil,lj]at hr
  repeat' (first
 | simp only [go_sem,hP,hY,hZ,gA,Jo,uR,alf,gZ]
 | (with_reducible refine CU (hr (by with_unfolding_all rfl) (by with_unfolding_all rfl)) ?_)
 | (with_reducible refine aF hQ ?_;simp only [az,aB,Option.some.injEq,exists_eq_left',go_sem,hP,hY,hZ,gA];repeat' (first | exact Ok.out | with_reducible refine aG ?_ ?_ | (simp;done))))
  refine eo 2 3 ?_ ?_ (IH (rest,k+1,⟨Im.rows (k:Int) 0 (-1) 0 h.L f.body,h.lo++ [(h.L.length:Int)+1],h.hi++ [((Im.rows (k:Int) 0 (-1) 0 h.L f.body).length:Int)+1]⟩,_,_) ⟨g2,h2,by dsimp only;rw [hl];omega,by simp [h4],by simp [h5],by simp,by simp⟩ (Nat.lt_succ_self _))
  ·(simp only [go_sem,hP,hY,hZ,gA,gZ,aN cz,List.map_append,List.map_cons,List.map_nil,lj];try exact bQ)
  ·(simp only [go_sem,hP,hY,hZ,gA,gZ,aN cz,List.map_append,List.map_cons,List.map_nil,lj];try exact bQ)
theorem Cb {p:Pg} (hs:Pc.aW p.procs<1000000000) (s:St):aD Tryz.prog lf [.agg (cd p)] s (.dI (gO p) 0) s:=by
 refine aD.pure ?_ (by simp only [D.bJ,D.ok,iR];rfl) (by simp only [D.ok,xi]) s
 have h:=(acY hs).yh (n:=0) (m:=0) rfl (Nat.le_refl _) (Nat.zero_le _) (Nat.le_refl _)
 simpa [D.gG,D.fg,Tag.fg,N6,TJ,UN,Oq,St.cut,gO,S0]using h
end Go.Abs

/-! Sl1 -/

namespace Go.Abs
set_option maxRecDepth 8000
open Go.Proofs
def nk (x:ay) (k:Int):List ay→Int
 | []=> -1
 | s::l=>if x==s then k else nk x (k+1) l
def dW (l:List ay) (x:ay):Bool:=decide (nk x 0 l≥0)
def lC {α:Type} (b:α→Bool) (k:Int):List α→Int
 | []=> -1
 | s::l=>if b s then k else lC b (k+1) l
theorem Jp (x:ay) : ∀ (l:List ay) (k:Int),0≤k→(nk x k l≥0↔x∈l)
 | [],k,h=>by simp [nk]
 | s::l,k,h=>by
  by_cases e:x=s
  ·simp [nk,e];omega
  ·have e':(x==s)=false:=by simp [e]
   simp only [nk,e',Bool.false_eq_true,if_false,List.mem_cons,e,false_or]
   exact Jp x l (k+1) (by omega)
theorem fH (l:List ay) (x:ay):dW l x=true↔x∈l:=by
 simp only [dW,decide_eq_true_eq];exact Jp x l 0 (Int.le_refl 0)
theorem Dr {α:Type} (b:α→Bool) : ∀ (l:List α) (k:Int),0≤k→(lC b k l≥0↔l.any b=true)
 | [],k,h=>by simp [lC]
 | s::l,k,h=>by
  by_cases e:b s=true
  ·simp [lC,e];omega
  ·have e':b s=false:=by simpa using e
   simp only [lC,e',Bool.false_eq_true,if_false,List.any_cons,Bool.or_eq_true,false_or]
   exact Dr b l (k+1) (by omega)
theorem Jq {l:List ay} (hl:l.length<4611686018427387904) (x:ay) (s:St):aD Tryz.prog im [.slice .shared 1 (l.map encStr), .str x] s (.int .i64 (nk x 0 l)) s:=by
 refine aD.pure ?_ (by simp [D.bJ,D.ok,Tag.ok,eD]) rfl s
 generalize h:nk x 0 l=p
 unfold S0
 refine aD.go ug rfl fun B Q hB hQ=> ?_
 have⟨hP,hY,hZ,gA⟩:=bw
 repeat' (first
 | simp only [go_sem,hP,hY,hZ,gA]
 | (with_reducible first | refine br fun hc=> ?_ | refine bt fun hc=> ?_ | refine bu (fun hc=> ?_) fun hc=> ?_) <;> (try simp only [hc,bs, ↓reduceIte]at h) <;> try simp only [hc]
 | (with_reducible refine aF hQ ?_;(try cases h);simp only [az,aB,bB,bC,go_sem,hP,hY,hZ,gA];repeat' (first | exact Ok.out | with_reducible refine aG ?_ ?_ | (simp;done))))
 refine cM 0 0 (bj.ind (ι:=List ay×Nat) (fun i=>l.drop i.2=i.1∧nk x (i.2:Int) i.1=p) (fun i=>i.1.length)
  (fun i=> [(0, .slice .shared 1 (l.map encStr)),(1, .str x),(7, .int .i64 (l.length:Int)),(8, .int .i64 (i.2:Int))]) (fun i=>⟨[],[]⟩) ?_ (l,0) ⟨rfl,h⟩)
 rintro⟨rest,k⟩ ⟨h1,h⟩ IH
 dsimp only at h1 h
 cases rest with
 | nil=>
  have hP:=drop_nil h1
  simp only [nk]at h
  repeat' (first
 | simp only [go_sem,hP,hY,hZ,gA]
 | (with_reducible first | refine br fun hc=> ?_ | refine bt fun hc=> ?_ | refine bu (fun hc=> ?_) fun hc=> ?_) <;> (try simp only [hc,bs, ↓reduceIte]at h) <;> try simp only [hc]
 | (with_reducible refine aF hQ ?_;(try cases h);simp only [az,aB,bB,bC,go_sem,hP,hY,hZ,gA];repeat' (first | exact Ok.out | with_reducible refine aG ?_ ?_ | (simp;done))))
 | cons a rest=>
  obtain⟨hY,g2,hP,g4⟩:=drop_cons h1
  have cz:k<4611686018427387904:=by omega
  simp only [nk]at h
  repeat' (first
 | simp only [go_sem,hP,hY,hZ,gA]
 | (with_reducible first | refine br fun hc=> ?_ | refine bt fun hc=> ?_ | refine bu (fun hc=> ?_) fun hc=> ?_) <;> (try simp only [hc,bs, ↓reduceIte]at h) <;> try simp only [hc]
 | (with_reducible refine aF hQ ?_;(try cases h);simp only [az,aB,bB,bC,go_sem,hP,hY,hZ,gA];repeat' (first | exact Ok.out | with_reducible refine aG ?_ ?_ | (simp;done))))
  refine eo 0 0 ?_ ?_ (IH (rest,k+1) ⟨g2,h⟩ (Nat.lt_succ_self _))
  ·(simp only [go_sem,hP,hY,hZ,gA,aN cz];try exact bQ)
  ·(simp only [go_sem,hP,hY,hZ,gA,aN cz];try exact bQ)
theorem qi {l:List ay} (hl:l.length<4611686018427387904) (x:ay) (s:St):aD Tryz.prog bX [.slice .shared 1 (l.map encStr), .str x] s (.bool (dW l x)) s:=by
 refine aD.pure ?_ (by simp [D.bJ,D.ok,Tag.ok,eD]) rfl s
 have hi:=fun s=>Jq hl x s
 unfold S0
 refine aD.go se rfl fun B Q hB hQ=> ?_
 have⟨hP,hY,hZ,gA⟩:=bw
 repeat' (first
 | simp only [go_sem,hP,hY,hZ,gA,dW]
 | (with_reducible refine CU (hi _) ?_)
 | (with_reducible first | refine br fun hc=> ?_ | refine bt fun hc=> ?_ | refine bu (fun hc=> ?_) fun hc=> ?_) <;> (try simp only [hc,bs, ↓reduceIte]at h) <;> try simp only [hc]
 | (with_reducible refine aF hQ ?_;simp only [az,aB,bB,bC,go_sem,hP,hY,hZ,gA,dW];repeat' (first | exact Ok.out | with_reducible refine aG ?_ ?_ | (simp;done))))
theorem aD.Ow {P:Program} {f:Nat} {d d':D} {r:List D} {s s':St} {x:D} (h:aD P f (d'::r) s x s') (hw:Wk d d'):aD P f (d::r) s x s':=eg.Ba (.cons hw (lS.refl r)) h
theorem iI {l:List ay} (hl:l.length<4611686018427387904) (x:ay) (g:Tag) (s:St):aD Tryz.prog bX [.slice g 1 (l.map encStr), .str x] s (.bool (dW l x)) s:=
 (qi hl x s).Ow (Wk.shared _ _ _)
theorem Hi (x:ay) (z:Nat) (g:Tag) (s:St):aD Tryz.prog bX [.slice g z [], .str x] s (.bool false) s:=
 (qi (l:= []) (by simp) x s).Ow (Wk.nil _ _ _)
theorem zh {l:List ay} (hl:l.length<4611686018427387904) {f:Nat} {row:List D} {b:ay→Bool} (sx:D.bJ 0 0 row=true) (he:enters Tryz.prog f=true)
 (hb : ∀ x∈l,aD Tryz.prog f ([.str x]++ [.ptr 0 0]) ⟨[row],[]⟩ (.bool (b x)) ⟨[row],[]⟩) :
 aD Tryz.prog kc [.slice .shared 1 (l.map encStr), .gn f [.ptr 0 0]] ⟨[row],[]⟩ (.int .i64 (lC b 0 l)) ⟨[row],[]⟩:=by
 generalize h:lC b 0 l=p
 have k1 : ∀ n m,D.gG n m row=row:=fun n m=>gU n m _ sx
 refine aD.go rG rfl fun B Q hB hQ=> ?_
 have⟨hP,hY,hZ,gA⟩:=bw
 repeat' (first
 | simp only [go_sem,hP,hY,hZ,gA,k1]
 | (with_reducible first | refine br fun hc=> ?_ | refine bt fun hc=> ?_ | refine bu (fun hc=> ?_) fun hc=> ?_) <;> (try simp only [hc,bs, ↓reduceIte]at h) <;> try simp only [hc]
 | (with_reducible refine aF hQ ?_;(try cases h);simp only [az,aB,bB,bC,go_sem,hP,hY,hZ,gA,k1];repeat' (first | exact Ok.out | with_reducible refine aG ?_ ?_ | (simp;done))))
 refine eo 1 0 ?_ ?_ (bj.ind (ι:=List ay×Nat) (fun i=>l.drop i.2=i.1∧lC b (i.2:Int) i.1=p) (fun i=>i.1.length)
  (fun i=> [(0, .slice .shared 1 (l.map encStr)),(1, .gn f [.ptr 0 0]),(7, .int .i64 (l.length:Int)),(8, .int .i64 (i.2:Int))]) (fun i=>⟨[row],[]⟩) ?_ (l,0) ⟨rfl,h⟩)
 ·(simp only [go_sem,hP,hY,hZ,gA,k1];try exact bQ)
 ·(simp only [go_sem,hP,hY,hZ,gA,k1];try exact bQ)
 rintro⟨rest,k⟩ ⟨h1,h⟩ IH
 dsimp only at h1 h
 cases rest with
 | nil=>
  have hP:=drop_nil h1
  simp only [lC]at h
  repeat' (first
 | simp only [go_sem,hP,hY,hZ,gA,k1]
 | (with_reducible first | refine br fun hc=> ?_ | refine bt fun hc=> ?_ | refine bu (fun hc=> ?_) fun hc=> ?_) <;> (try simp only [hc,bs, ↓reduceIte]at h) <;> try simp only [hc]
 | (with_reducible refine aF hQ ?_;(try cases h);simp only [az,aB,bB,bC,go_sem,hP,hY,hZ,gA,k1];repeat' (first | exact Ok.out | with_reducible refine aG ?_ ?_ | (simp;done))))
 | cons a rest=>
  obtain⟨hY,g2,hP,g4⟩:=drop_cons h1
  have cz:k<4611686018427387904:=by omega
  have Zk:=hb a (List.mem_of_getElem? hY)
  simp only [lC]at h
  repeat' (first
 | simp only [go_sem,hP,hY,hZ,gA,k1]
 | (with_reducible refine CV.use (he) (Zk) ?_)
 | (with_reducible first | refine br fun hc=> ?_ | refine bt fun hc=> ?_ | refine bu (fun hc=> ?_) fun hc=> ?_) <;> (try simp only [hc,bs, ↓reduceIte]at h) <;> try simp only [hc]
 | (with_reducible refine aF hQ ?_;(try cases h);simp only [az,aB,bB,bC,go_sem,hP,hY,hZ,gA,k1];repeat' (first | exact Ok.out | with_reducible refine aG ?_ ?_ | (simp;done))))
  refine eo 1 0 ?_ ?_ (IH (rest,k+1) ⟨g2,h⟩ (Nat.lt_succ_self _))
  ·(simp only [go_sem,hP,hY,hZ,gA,k1,aN cz];try exact bQ)
  ·(simp only [go_sem,hP,hY,hZ,gA,k1,aN cz];try exact bQ)
theorem zi {P:Program} {g f:Nat} {row:List D} {rows:List (List D)} {z:Nat} {d:D} (h:aD P g [.slice .shared z rows, .gn f [.ptr 0 0]] ⟨[row],[]⟩ d ⟨[row],[]⟩) (sx:D.bJ 0 0 row=true) (hw:D.iZ 0 0 rows=true) (hd:D.ok 0 0 d=true) {s:St} {o:Nat} (ho:s.aA[o]? = some row) :
 aD P g [.slice .shared z rows, .gn f [.ptr o 0]] s d s:=by
 refine eg.frame [o] [] h (by simp) List.nodup_nil (by simpa using (List.getElem?_eq_some_iff.1 ho).1) (by simp) rfl (fun i o' ds e1 e2=> ?_) rfl (by simp) (by simp [D.fV,D.dK,Tag.dK,iP _ _ _ hw])
  (by simp [D.bJ,D.ok,Tag.ok,mA (Nat.zero_le 1) (Nat.le_refl 0) _ hw]) ?_
 ·cases i with
  | zero=>simp at e1 e2;subst e1;subst e2;exact⟨by rw [ff _ _ _ sx];exact ho,gI (Nat.zero_le 1) (Nat.le_refl 0) _ sx⟩
  | succ i=>simp at e1
 ·rintro _ _ ⟨rfl,rfl⟩
  refine⟨qK _ _ _ hd, ?_⟩
  have:s.aA.set o row=s.aA:=by
   apply List.ext_getElem?
   intro i
   rw [List.getElem?_set]
   split
   ·rename_i e;subst e;rw [ho];split
    ·rfl
    ·rename_i hh;exact absurd (List.getElem?_eq_some_iff.1 ho).1 hh
   ·rfl
  simp [St.back,jJ,ff _ _ _ sx,this]
theorem wB {l:List ay} (hl:l.length<4611686018427387904) {f:Nat} {row:List D} {b:ay→Bool} (sx:D.bJ 0 0 row=true) (he:enters Tryz.prog f=true)
 (hb : ∀ x∈l,aD Tryz.prog f ([.str x]++ [.ptr 0 0]) ⟨[row],[]⟩ (.bool (b x)) ⟨[row],[]⟩) :
 aD Tryz.prog fG [.slice .shared 1 (l.map encStr), .gn f [.ptr 0 0]] ⟨[row],[]⟩ (.bool (l.any b)) ⟨[row],[]⟩:=by
 have k1 : ∀ n m,D.gG n m row=row:=fun n m=>gU n m _ sx
 have hi:=zh hl sx he hb
 have e:decide (lC b 0 l≥0)=l.any b:=by
  have:=Dr b l 0 (Int.le_refl 0)
  cases hh:l.any b <;> simp_all
 refine aD.go qf rfl fun B Q hB hQ=> ?_
 have⟨hP,hY,hZ,gA⟩:=bw
 repeat' (first
 | simp only [go_sem,hP,hY,hZ,gA,k1,e]
 | (with_reducible refine CU (hi) ?_)
 | (with_reducible first | refine br fun hc=> ?_ | refine bt fun hc=> ?_ | refine bu (fun hc=> ?_) fun hc=> ?_) <;> (try simp only [hc,bs, ↓reduceIte]at h) <;> try simp only [hc]
 | (with_reducible refine aF hQ ?_;simp only [az,aB,bB,bC,go_sem,hP,hY,hZ,gA,k1,e];repeat' (first | exact Ok.out | with_reducible refine aG ?_ ?_ | (simp;done))))
theorem wC {l:List ay} (hl:l.length<4611686018427387904) {f:Nat} {row:List D} {b:ay→Bool} (sx:D.bJ 0 0 row=true) (he:enters Tryz.prog f=true)
 (hb : ∀ x∈l,aD Tryz.prog f ([.str x]++ [.ptr 0 0]) ⟨[row],[]⟩ (.bool (b x)) ⟨[row],[]⟩) {s:St} {o:Nat} (ho:s.aA[o]? = some row) :
 aD Tryz.prog fG [.slice .shared 1 (l.map encStr), .gn f [.ptr o 0]] s (.bool (l.any b)) s:=
 zi (wB hl sx he hb) sx (eD l) rfl ho
theorem tR {l:List Pc} (hl:l.length<4611686018427387904) {f:Nat} {row:List D} {b:Pc→Bool} (sx:D.bJ 0 0 row=true) (he:enters Tryz.prog f=true)
 (hb : ∀ x∈l,aD Tryz.prog f ([.agg (cA x)]++ [.ptr 0 0]) ⟨[row],[]⟩ (.bool (b x)) ⟨[row],[]⟩) :
 aD Tryz.prog fL [.slice .shared 5 (l.map cA), .gn f [.ptr 0 0]] ⟨[row],[]⟩ (.int .i64 (lC b 0 l)) ⟨[row],[]⟩:=by
 generalize h:lC b 0 l=p
 have k1 : ∀ n m,D.gG n m row=row:=fun n m=>gU n m _ sx
 refine aD.go qw rfl fun B Q hB hQ=> ?_
 have⟨hP,hY,hZ,gA⟩:=bw
 repeat' (first
 | simp only [go_sem,hP,hY,hZ,gA,k1]
 | (with_reducible first | refine br fun hc=> ?_ | refine bt fun hc=> ?_ | refine bu (fun hc=> ?_) fun hc=> ?_) <;> (try simp only [hc,bs, ↓reduceIte]at h) <;> try simp only [hc]
 | (with_reducible refine aF hQ ?_;(try cases h);simp only [az,aB,bB,bC,go_sem,hP,hY,hZ,gA,k1];repeat' (first | exact Ok.out | with_reducible refine aG ?_ ?_ | (simp;done))))
 refine eo 1 0 ?_ ?_ (bj.ind (ι:=List Pc×Nat) (fun i=>l.drop i.2=i.1∧lC b (i.2:Int) i.1=p) (fun i=>i.1.length)
  (fun i=> [(0, .slice .shared 5 (l.map cA)),(1, .gn f [.ptr 0 0]),(7, .int .i64 (l.length:Int)),(8, .int .i64 (i.2:Int))]) (fun i=>⟨[row],[]⟩) ?_ (l,0) ⟨rfl,h⟩)
 ·(simp only [go_sem,hP,hY,hZ,gA,k1];try exact bQ)
 ·(simp only [go_sem,hP,hY,hZ,gA,k1];try exact bQ)
 rintro⟨rest,k⟩ ⟨h1,h⟩ IH
 dsimp only at h1 h
 cases rest with
 | nil=>
  have hP:=drop_nil h1
  simp only [lC]at h
  repeat' (first
 | simp only [go_sem,hP,hY,hZ,gA,k1]
 | (with_reducible first | refine br fun hc=> ?_ | refine bt fun hc=> ?_ | refine bu (fun hc=> ?_) fun hc=> ?_) <;> (try simp only [hc,bs, ↓reduceIte]at h) <;> try simp only [hc]
 | (with_reducible refine aF hQ ?_;(try cases h);simp only [az,aB,bB,bC,go_sem,hP,hY,hZ,gA,k1];repeat' (first | exact Ok.out | with_reducible refine aG ?_ ?_ | (simp;done))))
 | cons a rest=>
  obtain⟨hY,g2,hP,g4⟩:=drop_cons h1
  have cz:k<4611686018427387904:=by omega
  have Zk:=hb a (List.mem_of_getElem? hY)
  simp only [lC]at h
  repeat' (first
 | simp only [go_sem,hP,hY,hZ,gA,k1]
 | (with_reducible refine CV.use (he) (Zk) ?_)
 | (with_reducible first | refine br fun hc=> ?_ | refine bt fun hc=> ?_ | refine bu (fun hc=> ?_) fun hc=> ?_) <;> (try simp only [hc,bs, ↓reduceIte]at h) <;> try simp only [hc]
 | (with_reducible refine aF hQ ?_;(try cases h);simp only [az,aB,bB,bC,go_sem,hP,hY,hZ,gA,k1];repeat' (first | exact Ok.out | with_reducible refine aG ?_ ?_ | (simp;done))))
  refine eo 1 0 ?_ ?_ (IH (rest,k+1) ⟨g2,h⟩ (Nat.lt_succ_self _))
  ·(simp only [go_sem,hP,hY,hZ,gA,k1,aN cz];try exact bQ)
  ·(simp only [go_sem,hP,hY,hZ,gA,k1,aN cz];try exact bQ)
theorem yd {l:List Pc} (hl:l.length<4611686018427387904) {f:Nat} {row:List D} {b:Pc→Bool} (sx:D.bJ 0 0 row=true) (he:enters Tryz.prog f=true)
 (hb : ∀ x∈l,aD Tryz.prog f ([.agg (cA x)]++ [.ptr 0 0]) ⟨[row],[]⟩ (.bool (b x)) ⟨[row],[]⟩) :
 aD Tryz.prog gj [.slice .shared 5 (l.map cA), .gn f [.ptr 0 0]] ⟨[row],[]⟩ (.bool (l.any b)) ⟨[row],[]⟩:=by
 have k1 : ∀ n m,D.gG n m row=row:=fun n m=>gU n m _ sx
 have hi:=tR hl sx he hb
 have e:decide (lC b 0 l≥0)=l.any b:=by
  have:=Dr b l 0 (Int.le_refl 0)
  cases hh:l.any b <;> simp_all
 refine aD.go pg rfl fun B Q hB hQ=> ?_
 have⟨hP,hY,hZ,gA⟩:=bw
 repeat' (first
 | simp only [go_sem,hP,hY,hZ,gA,k1,e]
 | (with_reducible refine CU (hi) ?_)
 | (with_reducible first | refine br fun hc=> ?_ | refine bt fun hc=> ?_ | refine bu (fun hc=> ?_) fun hc=> ?_) <;> (try simp only [hc,bs, ↓reduceIte]at h) <;> try simp only [hc]
 | (with_reducible refine aF hQ ?_;simp only [az,aB,bB,bC,go_sem,hP,hY,hZ,gA,k1,e];repeat' (first | exact Ok.out | with_reducible refine aG ?_ ?_ | (simp;done))))
end Go.Abs

/-! MirFlat2 -/

namespace Go.Abs
mutual
def Sm.pre:Sm→List Sm
 | ⟨id,kind,labels,name,pc,x,has,args,aY,aT⟩=>⟨id,kind,labels,name,pc,x,has,args,aY,aT⟩::(Sm.dh aY++Sm.dh aT)
def Sm.dh:List Sm→List Sm
 | []=> []
 | s::l=>s.pre++Sm.dh l
end
def Pg.pre (p:Pg):List Sm:=(p.procs.map fun f=>Sm.dh f.body).flatten
theorem Sm.wD (s:Sm):s.pre=s::(Sm.dh s.aY++Sm.dh s.aT):=by cases s;simp only [Sm.pre]
mutual
theorem Wi (proc up next loop:Int) (out:List Im) : ∀ s:Sm,∃ e:List Im,Im.one proc up next loop out s=out++e∧e.map Im.s=s.pre
 | ⟨id,kind,labels,name,pc,x,has,args,aY,aT⟩=>by
  simp only [Im.one,Sm.pre]
  obtain⟨e1,h1,k1⟩:=xj proc ((out.length:Int)+1) (if kind==6 then(out.length:Int)+1 else next) (if kind==6 then(out.length:Int)+1 else loop) (out++ [⟨⟨id,kind,labels,name,pc,x,has,args,aY,aT⟩,proc,up,next,loop⟩]) aY
  obtain⟨e2,h2,k2⟩:=xj proc ((out.length:Int)+1) (if kind==6 then(out.length:Int)+1 else next) (if kind==6 then(out.length:Int)+1 else loop) (Im.rows proc ((out.length:Int)+1) (if kind==6 then(out.length:Int)+1 else next) (if kind==6 then(out.length:Int)+1 else loop) (out++ [⟨⟨id,kind,labels,name,pc,x,has,args,aY,aT⟩,proc,up,next,loop⟩]) aY) aT
  refine⟨⟨⟨id,kind,labels,name,pc,x,has,args,aY,aT⟩,proc,up,next,loop⟩::(e1++e2), ?_, ?_⟩
  ·rw [h2,h1];simp
  ·simp [k1,k2]
theorem xj (proc up next loop:Int) (out:List Im) : ∀ l:List Sm,∃ e:List Im,Im.rows proc up next loop out l=out++e∧e.map Im.s=Sm.dh l
 | []=>⟨[],by simp [Im.rows],rfl⟩
 | s::l=>by
  simp only [Im.rows,Sm.dh]
  obtain⟨e1,h1,k1⟩:=Wi proc up (if l.length=0 then next else(out.length:Int)+1+(s.gV:Int)) loop out s
  obtain⟨e2,h2,k2⟩:=xj proc up next loop (Im.one proc up (if l.length=0 then next else(out.length:Int)+1+(s.gV:Int)) loop out s) l
  refine⟨e1++e2, ?_,by simp [k1,k2]⟩
  rw [h2,h1];simp
end
theorem Ox : ∀ (l:List Pc) (n:Nat) (h:Sh),h.lo.length=n→h.hi.length=n→
 ∃ e lo hi,Sh.go n h l = ⟨h.L++e,h.lo++lo,h.hi++hi⟩∧e.map Im.s=(l.map fun f=>Sm.dh f.body).flatten∧lo.length=l.length∧hi.length=l.length∧
  ∀ (i:Nat) (f:Pc),l[i]? = some f→∃ a b e' Mx:List Im,lo[i]? = some (((h.L++a).length:Int)+1)∧hi[i]? = some (((h.L++a++b).length:Int)+1)∧b.map Im.s=Sm.dh f.body∧e=a++b++e'
 | [],n,h,hl,hh=>⟨[],[],[],by simp [Sh.go],rfl,rfl,rfl,fun i f h=>by simp at h⟩
 | f::l,n,h,hl,hh=>by
  simp only [Sh.go]
  obtain⟨e1,h1,k1⟩:=xj (n:Int) 0 (-1) 0 h.L f.body
  obtain⟨e2,lo,hi,h2,k2,h3,h4,h5⟩:=Ox l (n+1) ⟨Im.rows (n:Int) 0 (-1) 0 h.L f.body,h.lo++ [(h.L.length:Int)+1],h.hi++ [((Im.rows (n:Int) 0 (-1) 0 h.L f.body).length:Int)+1]⟩ (by simp [hl]) (by simp [hh])
  refine⟨e1++e2,((h.L.length:Int)+1)::lo,(((Im.rows (n:Int) 0 (-1) 0 h.L f.body).length:Int)+1)::hi, ?_,by simp [k1,k2],by simp [h3],by simp [h4],fun i g gF=> ?_⟩
  ·rw [h2,h1];simp
  ·cases i with
   | zero=>
    simp only [List.getElem?_cons_zero,Option.some.injEq]at gF
    subst gF
    exact⟨[],e1,e2,[],by simp,by rw [h1];simp,k1,by simp⟩
   | succ i=>
    simp only [List.getElem?_cons_succ]at gF
    obtain⟨a,b,e',Mx,g1,g2,g3,g4⟩:=h5 i g gF
    refine⟨e1++a,b,e',Mx, ?_, ?_,g3,by rw [g4];simp⟩
    ·rw [List.getElem?_cons_succ,g1,h1];simp
    ·rw [List.getElem?_cons_succ,g2,h1];simp
theorem pE (p:Pg):p.e7.L.map Im.s=p.pre∧∀ (i:Nat) (f:Pc),p.procs[i]? = some f→∃ a b e:List Im,p.e7.lo[i]? = some ((a.length:Int)+1)∧p.e7.hi[i]? = some (((a++b).length:Int)+1)∧b.map Im.s=Sm.dh f.body∧p.e7.L=a++b++e:=by
 obtain⟨e,lo,hi,h1,h2,h3,h4,h5⟩:=Ox p.procs 0 ⟨[],[],[]⟩ rfl rfl
 unfold Pg.e7
 rw [h1]
 refine⟨by simpa [Pg.pre]using h2,fun i f hf=> ?_⟩
 obtain⟨a,b,e',_,g1,g2,g3,g4⟩:=h5 i f hf
 exact⟨a,b,e',by simpa using g1,by simpa using g2,g3,by simpa using g4⟩
end Go.Abs

/-! Sl2 -/

namespace Go.Abs
set_option maxRecDepth 8000
open Go.Proofs
def Pg.at (p:Pg) (name:ay):Int:=lC (fun f:Pc=>f.name==name) 0 p.procs
theorem Wj (name:ay) (f:Pc):aD Tryz.prog kL ([.agg (cA f)]++ [.ptr 0 0]) ⟨[[.str name]],[]⟩ (.bool (f.name==name)) ⟨[[.str name]],[]⟩:=by
 show aD Tryz.prog kL [.agg (cA f), .ptr 0 0] _ _ _
 refine aD.go wg rfl fun B Q hB hQ=> ?_
 have⟨hP,hY,hZ,gA⟩:=bw
 repeat' (first
 | simp only [go_sem,hP,hY,hZ,gA]
 | (with_reducible refine aF hQ ?_;simp only [az,aB,Option.some.injEq,exists_eq_left',go_sem,hP,hY,hZ,gA];repeat' (first | exact Ok.out | with_reducible refine aG ?_ ?_ | (simp;done))))
theorem Oy {p:Pg} (hs:p.procs.length<4611686018427387904) (name:ay) (s:St):aD Tryz.prog lN [.dI (gO p) 0, .str name] s (.int .i64 (p.at name)) s:=by
 refine aD.pure ?_ (by simp [D.bJ,D.ok,xi]) rfl s
 have hi:=fun {s:St} {o:Nat} (ho:s.aA[o]? = some [.str name])=>zi (tR (l:=p.procs) (f:=kL) (row:= [.str name]) (b:=fun f:Pc=>f.name==name) hs rfl (by with_unfolding_all rfl) (fun x _=>Wj name x)) rfl (Fu _) rfl ho
 have gF:=fun {s:St} {o:Nat} (ho:s.aA[o]? = some [.str name])=>(show aD Tryz.prog fL [.slice .shared 5 (p.procs.map cA), .gn 167 [.ptr o 0]] s (.int .i64 (p.at name)) s from hi ho)
 unfold S0
 rw [qP]
 refine aD.go ya rfl fun B Q hB hQ=> ?_
 have⟨hP,hY,hZ,gA⟩:=bw
 repeat' (first
 | simp only [go_sem,hP,hY,hZ,gA]
 | (with_reducible refine CU (gF (by with_unfolding_all rfl)) ?_)
 | (with_reducible refine aF hQ ?_;simp only [az,aB,Option.some.injEq,exists_eq_left',go_sem,hP,hY,hZ,gA];repeat' (first | exact Ok.out | with_reducible refine aG ?_ ?_ | (simp;done))))
theorem Oz : ∀ (l:List Pc) (n:Nat) (h:Sh),(Sh.go n h l).L.length≤h.L.length+Pc.aW l
 | [],n,h=>by simp [Sh.go]
 | f::l,n,h=>by
  simp only [Sh.go]
  refine Nat.le_trans (Oz l _ _) ?_
  have:=fY (n:Int) 0 (-1) 0 h.L f.body
  have:=kl f.body
  simp only [Pc.aW,Pc.size];omega
theorem pF (p:Pg):p.e7.L.length≤Pc.aW p.procs:=by have:=Oz p.procs 0 ⟨[],[],[]⟩;simpa [Pg.e7]using this
theorem Zl {p:Pg} {i:Nat} (hs:Pc.aW p.procs<1000000000) {a b e:List Im} (h1:p.e7.lo[i]? = some ((a.length:Int)+1)) (h2:p.e7.hi[i]? = some (((a++b).length:Int)+1)) (h4:p.e7.L=a++b++e) (s:St) :
 aD Tryz.prog gi [.dI (gO p) 0, .int .i64 (i:Int)] s (.slice .shared 17 (b.map eO)) s:=by
 refine aD.pure ?_ (by simp [D.bJ,D.ok,xi]) (by simp [D.ok,Tag.ok,FB]) s
 have hL:p.e7.L.length<1000000000:=Nat.lt_of_le_of_lt (pF p) hs
 have l1:(i:Int)<(p.e7.lo.length:Int):=by have:=(List.getElem?_eq_some_iff.1 h1).1;omega
 have l2:(i:Int)<(p.e7.hi.length:Int):=by have:=(List.getElem?_eq_some_iff.1 h2).1;omega
 have UR:a.length+b.length≤p.e7.L.length:=by rw [h4];simp
 have w1:IntKind.wrap .i64 ((a.length:Int)+1 - 1)=(a.length:Int):=by rw [show(a.length:Int)+1 - 1=(a.length:Int) by omega];exact cY (by omega) (by omega)
 have w2:IntKind.wrap .i64 (((a.length+b.length:Nat):Int)+1 - 1)=((a.length+b.length:Nat):Int):=by rw [show((a.length+b.length:Nat):Int)+1 - 1=((a.length+b.length:Nat):Int) by omega];exact cY (by omega) (by omega)
 have c1:((a.length:Int)≤((a.length+b.length:Nat):Int))=True:=by simp only [eq_iff_iff,iff_true];omega
 have c2:(((a.length+b.length:Nat):Int)≤(p.e7.L.length:Int))=True:=by simp only [eq_iff_iff,iff_true];omega
 have hb:List.drop a.length (List.take (a.length+b.length) (List.map eO p.e7.L))=List.map eO b:=by rw [h4];simp [List.map_append,List.take_append,List.drop_append]
 unfold S0
 rw [qP]
 refine aD.go Am rfl fun B Q hB hQ=> ?_
 have⟨hP,hY,hZ,gA⟩:=bw
 repeat' (first
 | simp only [go_sem,hP,hY,hZ,gA,h1,h2,List.length_append,w1,w2,c1,c2,or_true,true_and,and_self,ite_self,Int.toNat_natCast,hb]
 | (with_reducible first | refine br fun hc=> ?_ | refine bt fun hc=> ?_ | refine bu (fun hc=> ?_) fun hc=> ?_) <;> (try simp only [hc,bs, ↓reduceIte]at h) <;> try simp only [hc]
 | (with_reducible refine aF hQ ?_;(try cases h);simp only [az,aB,bB,bC,go_sem,hP,hY,hZ,gA,h1,h2,List.length_append,w1,w2,c1,c2,or_true,true_and,and_self,ite_self,Int.toNat_natCast,hb];try exact pV)
 | (cases h;done))
theorem RP {p:Pg} {i:Nat} {f:Pc} (hf:p.procs[i]? = some f) (hs:Pc.aW p.procs<1000000000) : ∃ it:List Im,it.map Im.s=Sm.dh f.body∧∀ s,aD Tryz.prog gi [.dI (gO p) 0, .int .i64 (i:Int)] s (.slice .shared 17 (it.map eO)) s:=by
 obtain⟨a,b,e,h1,h2,h3,h4⟩:=(pE p).2 i f hf
 exact⟨b,h3,Zl hs h1 h2 h4⟩
end Go.Abs

/-! TMay1 -/

namespace Go.Abs
set_option maxRecDepth 8000
open Go.Proofs
theorem D5 {r:ay} : sN r=true↔kV r=r.length:=by
 induction r with
 | nil=>simp [sN,kV]
 | cons c r ih=>
  simp only [sN,kV]
  cases h1:oS c <;> cases h2:nA c <;> simp [ih]
theorem wE (t:ay) (hl:t.length<4611686018427387904) (s:St):aD Tryz.prog jn [.str t] s (.bool (isName t)) s:=by
 refine aD.pure ?_ rfl rfl s
 have hr:=fun s=>UL (pos:=0) hl s
 simp only [List.drop_zero,Nat.zero_add]at hr
 unfold S0
 cases t with
 | nil=>
  have z:decide (((0:Nat):Int)<1)=true:=rfl
  have z':decide ((0:Int)<1)=true:=rfl
  have e:isName [] = false:=rfl
  rw [e]
  refine aD.go kG rfl fun B Q hB hQ=> ?_
  have⟨hP,hY,hZ,gA⟩:=bw
  repeat' (first
 | simp only [go_sem,hP,hY,hZ,gA,z,z']
 | (with_reducible refine aF hQ ?_;simp only [az,aB,Option.some.injEq,exists_eq_left',go_sem,hP,hY,hZ,gA];repeat' (first | exact Ok.out | with_reducible refine aG ?_ ?_ | (simp;done))))
 | cons c r=>
  have l1:decide (((r.length+1:Nat):Int)<1)=false:=by simp;omega
  generalize h:isName (c::r)=p
  simp only [isName]at h
  cases hL:oS c
  ·simp only [hL,Bool.not_false,Bool.or_true, ↓reduceIte]at h
   subst h
   by_cases c8:decide (((r.length+1:Nat):Int) > 8)=true
   ·refine aD.go kG rfl fun B Q hB hQ=> ?_
    have⟨hP,hY,hZ,gA⟩:=bw
    repeat' (first
 | simp only [go_sem,hP,hY,hZ,gA,l1,c8]
 | (with_reducible refine aF hQ ?_;simp only [az,aB,Option.some.injEq,exists_eq_left',go_sem,hP,hY,hZ,gA];repeat' (first | exact Ok.out | with_reducible refine aG ?_ ?_ | (simp;done))))
   ·have c8:decide (((r.length+1:Nat):Int) > 8)=false:=by simpa using c8
    refine aD.go kG rfl fun B Q hB hQ=> ?_
    have⟨hP,hY,hZ,gA⟩:=bw
    repeat' (first
 | simp only [go_sem,hP,hY,hZ,gA,l1,c8,hL]
 | (with_reducible refine CU (gL _ _) ?_)
 | (with_reducible refine aF hQ ?_;simp only [az,aB,Option.some.injEq,exists_eq_left',go_sem,hP,hY,hZ,gA];repeat' (first | exact Ok.out | with_reducible refine aG ?_ ?_ | (simp;done))))
  ·simp only [hL,Bool.not_true,Bool.or_false]at h
   by_cases c8:decide (((r.length+1:Nat):Int) > 8)=true
   ·simp only [c8, ↓reduceIte]at h
    subst h
    refine aD.go kG rfl fun B Q hB hQ=> ?_
    have⟨hP,hY,hZ,gA⟩:=bw
    repeat' (first
 | simp only [go_sem,hP,hY,hZ,gA,l1,c8]
 | (with_reducible refine aF hQ ?_;simp only [az,aB,Option.some.injEq,exists_eq_left',go_sem,hP,hY,hZ,gA];repeat' (first | exact Ok.out | with_reducible refine aG ?_ ?_ | (simp;done))))
   ·have c8:decide (((r.length+1:Nat):Int) > 8)=false:=by simpa using c8
    simp only [c8,Bool.false_eq_true, ↓reduceIte]at h
    have dF:kV (c::r)=kV r+1:=by simp [kV,hL]
    cases hn:sN r
    ·simp only [hn,Bool.false_eq_true, ↓reduceIte]at h
     have:kV r≠r.length:=fun e=>by rw [D5.2 e]at hn;cases hn
     have e:(((kV (c::r):Nat):Int)==((r.length+1:Nat):Int))=false:=by rw [dF];simp;omega
     subst h
     refine aD.go kG rfl fun B Q hB hQ=> ?_
     have⟨hP,hY,hZ,gA⟩:=bw
     repeat' (first
 | simp only [go_sem,hP,hY,hZ,gA,l1,c8,hL,e]
 | (with_reducible refine CU (gL _ _) ?_)
 | (with_reducible refine CU (hr _) ?_)
 | (with_reducible refine aF hQ ?_;simp only [az,aB,Option.some.injEq,exists_eq_left',go_sem,hP,hY,hZ,gA];repeat' (first | exact Ok.out | with_reducible refine aG ?_ ?_ | (simp;done))))
    ·simp only [hn, ↓reduceIte]at h
     have:=D5.1 hn
     have e:(((kV (c::r):Nat):Int)==((r.length+1:Nat):Int))=true:=by rw [dF];simp;omega
     subst h
     refine aD.go kG rfl fun B Q hB hQ=> ?_
     have⟨hP,hY,hZ,gA⟩:=bw
     repeat' (first
 | simp only [go_sem,hP,hY,hZ,gA,l1,c8,hL,e]
 | (with_reducible refine CU (gL _ _) ?_)
 | (with_reducible refine CU (hr _) ?_)
 | (with_reducible refine CU (tQ _ _) ?_)
 | (with_reducible refine aF hQ ?_;simp only [az,aB,Option.some.injEq,exists_eq_left',go_sem,hP,hY,hZ,gA];repeat' (first | exact Ok.out | with_reducible refine aG ?_ ?_ | (simp;done))))
theorem Jr (op:Int) (s:St):aD Tryz.prog vE [.int .i64 op] s (.int .i64 (lg op)) s:=by
 refine aD.pure ?_ rfl rfl s
 unfold S0
 generalize h:lg op=p
 unfold lg at h
 refine aD.go Fb rfl fun B Q hB hQ=> ?_
 have⟨hP,hY,hZ,gA⟩:=bw
 repeat' (first
 | simp only [go_sem,hP,hY,hZ,gA]
 | (with_reducible first | refine br fun hc=> ?_ | refine bt fun hc=> ?_ | refine bu (fun hc=> ?_) fun hc=> ?_) <;> (try simp only [hc,bs, ↓reduceIte]at h) <;> try simp only [hc]
 | (with_reducible refine aF hQ ?_;(try cases h);simp only [az,aB,bB,bC,go_sem,hP,hY,hZ,gA];repeat' (first | exact Ok.out | with_reducible refine aG ?_ ?_ | (simp;done))))
theorem xk {l:List ay} (hl:l.length<4611686018427387904) (hs : ∀ t∈l,t.length<4611686018427387904) (s:St):aD Tryz.prog lX [.slice .shared 1 (l.map encStr)] s (.bool (c6 l)) s:=by
 refine aD.pure ?_ (by simp [D.bJ,D.ok,eD,Tag.ok]) rfl s
 unfold S0
 generalize h:c6 l=p
 refine aD.go Db rfl fun B Q hB hQ=> ?_
 have⟨hP,hY,hZ,gA⟩:=bw
 repeat' (first
 | simp only [go_sem,hP,hY,hZ,gA]
 | (with_reducible first | refine br fun hc=> ?_ | refine bt fun hc=> ?_ | refine bu (fun hc=> ?_) fun hc=> ?_) <;> (try simp only [hc,bs, ↓reduceIte]at h) <;> try simp only [hc]
 | (with_reducible refine aF hQ ?_;(try cases h);simp only [az,aB,bB,bC,go_sem,hP,hY,hZ,gA];repeat' (first | exact Ok.out | with_reducible refine aG ?_ ?_ | (simp;done))))
 refine cM 0 0 (bj.ind (ι:=List ay×Nat) (fun i=>l.drop i.2=i.1∧c6 i.1=p) (fun i=>i.1.length)
  (fun i=> [(5, .slice .shared 1 (l.map encStr)),(6, .int .i64 (l.length:Int)),(7, .int .i64 (i.2:Int))]) (fun i=>⟨[],[]⟩) ?_ (l,0) ⟨rfl,h⟩)
 rintro⟨rest,k⟩ ⟨h1,h⟩ IH
 dsimp only at h1 h
 cases rest with
 | nil=>
  have hP:=drop_nil h1
  simp only [c6]at h
  repeat' (first
 | simp only [go_sem,hP,hY,hZ,gA]
 | (with_reducible first | refine br fun hc=> ?_ | refine bt fun hc=> ?_ | refine bu (fun hc=> ?_) fun hc=> ?_) <;> (try simp only [hc,bs, ↓reduceIte]at h) <;> try simp only [hc]
 | (with_reducible refine aF hQ ?_;(try cases h);simp only [az,aB,bB,bC,go_sem,hP,hY,hZ,gA];repeat' (first | exact Ok.out | with_reducible refine aG ?_ ?_ | (simp;done))))
 | cons t rest=>
  obtain⟨hY,g2,hP,g4⟩:=drop_cons h1
  have hZ:k<4611686018427387904:=by omega
  have hn:=wE t (hs t (List.mem_of_getElem? hY))
  simp only [c6]at h
  repeat' (first
 | simp only [go_sem,hP,hY,hZ,gA]
 | (with_reducible refine CU (hn _) ?_)
 | (with_reducible first | refine br fun hc=> ?_ | refine bt fun hc=> ?_ | refine bu (fun hc=> ?_) fun hc=> ?_) <;> (try simp only [hc,bs, ↓reduceIte]at h) <;> try simp only [hc]
 | (with_reducible refine aF hQ ?_;(try cases h);simp only [az,aB,bB,bC,go_sem,hP,hY,hZ,gA];repeat' (first | exact Ok.out | with_reducible refine aG ?_ ?_ | (simp;done))))
  refine cM 0 0 (IH (rest,k+1) ⟨g2,h⟩ (Nat.lt_succ_self _))
mutual
def Ex.dp (left:Int):Ex→Bool
 | ⟨op,n,name,kids⟩=>
  if decide (left<1) || (kids.length:Int) != lg op then false
  else if op==1 then decide (n≥0) && name == []
  else if op==2 then n==0 && isName name
  else if n != 0 || !(name == [])then false
  else Ex.Cc (left - 1) kids
def Ex.Cc (left:Int):List Ex→Bool
 | []=>true
 | x::l=>if !(Ex.dp left x)then false else Ex.Cc left l
end
theorem Wl : ∀ (m:Nat) (x:Ex),x.size≤m→x.size<4611686018427387904→x.texts→∀ left:Int,0≤left→left≤100→∀ s:St,aD Tryz.prog oR [.agg (bo x), .int .i64 left] s (.bool (x.dp left)) s:=by
 intro m
 induction m with
 | zero=>rintro⟨op,v,name,kids⟩ h;simp only [Ex.size]at h;omega
 | succ m ih=>
  rintro⟨op,v,name,kids⟩ h hx ht left h0 atV s
  refine aD.pure ?_ (by simp [D.bJ,D.ok,fW]) rfl s
  have hlen:kids.length<4611686018427387904:=by simp only [Ex.size]at hx;have:=Ex.da kids;omega
  have hn:=wE name ht.1
  generalize hp:Ex.dp left ⟨op,v,name,kids⟩=p
  simp only [Ex.dp]at hp
  unfold S0
  by_cases OA:left<1
  ·have d1:decide (left<1)=true:=by simpa using OA
   simp only [d1,Bool.true_or, ↓reduceIte]at hp
   subst hp
   refine aD.go xW rfl fun B Q hB hQ=> ?_
   have⟨hP,hY,hZ,gA⟩:=bw
   repeat' (first
 | simp only [go_sem,hP,hY,hZ,gA,d1]
 | (with_reducible refine CU (Jr _ _) ?_)
 | (with_reducible refine CU (hn _) ?_)
 | (with_reducible refine aF hQ ?_;simp only [az,aB,bB,bC,go_sem,hP,hY,hZ,gA];repeat' (first | exact Ok.out | with_reducible refine aG ?_ ?_ | (simp;done))))
  ·have d1:decide (left<1)=false:=by simpa using OA
   have w1:IntKind.wrap .i64 (left - 1)=left - 1:=cY (by omega) (by omega)
   have hk : ∀ y∈kids,∀ s,aD Tryz.prog oR [.agg (bo y), .int .i64 (left - 1)] s (.bool (y.dp (left - 1))) s:=fun y hy s=>
    ih y (by simp only [Ex.size]at h;have:=Ex.bW hy;omega) (by simp only [Ex.size]at hx;have:=Ex.bW hy;omega) (Ex.D2 ht hy) (left - 1) (by omega) (by omega) s
   simp only [d1,Bool.false_or]at hp
   have h:=hp
   clear hp
   refine aD.go xW rfl fun B Q hB hQ=> ?_
   have⟨hP,hY,hZ,gA⟩:=bw
   repeat' (first
 | simp only [go_sem,hP,hY,hZ,gA,d1]
 | (with_reducible refine CU (Jr _ _) ?_)
 | (with_reducible refine CU (hn _) ?_)
 | (with_reducible first | refine br fun hc=> ?_ | refine bt fun hc=> ?_ | refine bu (fun hc=> ?_) fun hc=> ?_) <;> (try simp only [hc,bs, ↓reduceIte]at h) <;> try simp only [hc]
 | (with_reducible refine aF hQ ?_;(try cases h);simp only [az,aB,bB,bC,go_sem,hP,hY,hZ,gA,d1];repeat' (first | exact Ok.out | with_reducible refine aG ?_ ?_ | (simp;done))))
   all_goals
    refine cM 1 0 (bj.ind (ι:=List Ex×Nat) (fun i=>kids.drop i.2=i.1∧Ex.Cc (left - 1) i.1=p) (fun i=>i.1.length)
     (fun i=> [(1, .int .i64 left),(49, .slice .shared 4 (kids.map bo)),(50, .int .i64 (kids.length:Int)),(51, .int .i64 (i.2:Int))]) (fun i=>⟨[bo ⟨op,v,name,kids⟩],[]⟩) ?_ (kids,0) ⟨rfl,h⟩)
    rintro⟨rest,k⟩ ⟨h1,h⟩ IH
    dsimp only at h1 h
    cases rest with
    | nil=>
     have hP:=drop_nil h1
     simp only [Ex.Cc]at h
     repeat' (first
 | simp only [go_sem,hP,hY,hZ,gA]
 | (with_reducible first | refine br fun hc=> ?_ | refine bt fun hc=> ?_ | refine bu (fun hc=> ?_) fun hc=> ?_) <;> (try simp only [hc,bs, ↓reduceIte]at h) <;> try simp only [hc]
 | (with_reducible refine aF hQ ?_;exact lG)
 | (cases h;done))
    | cons y rest=>
     obtain⟨hY,g2,hP,g4⟩:=drop_cons h1
     have hy:=hk y (List.mem_of_getElem? hY)
     have hZ:k<4611686018427387904:=by omega
     simp only [Ex.Cc]at h
     repeat' (first
 | simp only [go_sem,hP,hY,hZ,gA,w1]
 | (with_reducible refine CU (hy _) ?_)
 | (with_reducible first | refine br fun hc=> ?_ | refine bt fun hc=> ?_ | refine bu (fun hc=> ?_) fun hc=> ?_) <;> (try simp only [hc,bs, ↓reduceIte]at h) <;> try simp only [hc]
 | (with_reducible refine aF hQ ?_;(try cases h);simp only [az,aB,bB,bC,go_sem,hP,hY,hZ,gA,w1];repeat' (first | exact Ok.out | with_reducible refine aG ?_ ?_ | (simp;done))))
     refine cM 1 0 (IH (rest,k+1) ⟨g2,h⟩ (Nat.lt_succ_self _))
end Go.Abs

/-! TMay2 -/

namespace Go.Abs
set_option maxRecDepth 8000
open Go.Proofs
theorem Cd {x:Ex} (hx:x.size<4611686018427387904) (ht:x.texts) (s:St):aD Tryz.prog oe [.agg (bo x)] s (.bool (x.dp 20)) s:=by
 refine aD.pure ?_ (by simp [D.bJ,D.ok,fW]) rfl s
 have hd:=fun s=>Wl _ x (Nat.le_refl _) hx ht 20 (by omega) (by omega) s
 unfold S0
 refine aD.go Bi rfl fun B Q hB hQ=> ?_
 have⟨hP,hY,hZ,gA⟩:=bw
 repeat' (first
 | simp only [go_sem,hP,hY,hZ,gA]
 | (with_reducible refine CU (hd _) ?_)
 | (with_reducible refine aF hQ ?_;simp only [az,aB,Option.some.injEq,exists_eq_left',go_sem,hP,hY,hZ,gA];repeat' (first | exact Ok.out | with_reducible refine aG ?_ ?_ | (simp;done))))
theorem Wm (x:Ex) (s:St):aD Tryz.prog vD [.agg (bo x)] s (.bool x.none) s:=by
 refine aD.pure ?_ (by simp [D.bJ,D.ok,fW]) rfl s
 unfold S0
 generalize h:Ex.none x=p
 unfold Ex.none at h
 refine aD.go E9 rfl fun B Q hB hQ=> ?_
 have⟨hP,hY,hZ,gA⟩:=bw
 repeat' (first
 | simp only [go_sem,hP,hY,hZ,gA]
 | (with_reducible first | refine br fun hc=> ?_ | refine bt fun hc=> ?_ | refine bu (fun hc=> ?_) fun hc=> ?_) <;> (try simp only [hc,bs, ↓reduceIte]at h) <;> try simp only [hc]
 | (with_reducible refine aF hQ ?_;(try cases h);simp only [az,aB,bB,bC,go_sem,hP,hY,hZ,gA];repeat' (first | exact Ok.out | with_reducible refine aG ?_ ?_ | (simp;done))))
def qj (t:ay) (is:Bool):Bool:=(is && isName t) || (!is && t == [])
theorem Bj (t:ay) (is:Bool) (hl:t.length<4611686018427387904) (s:St):aD Tryz.prog nW [.str t, .bool is] s (.bool (qj t is)) s:=by
 refine aD.pure ?_ rfl rfl s
 have hn:=wE t hl
 unfold S0
 generalize h:qj t is=p
 unfold qj at h
 refine aD.go Dm rfl fun B Q hB hQ=> ?_
 have⟨hP,hY,hZ,gA⟩:=bw
 repeat' (first
 | simp only [go_sem,hP,hY,hZ,gA]
 | (with_reducible refine CU (hn _) ?_)
 | (with_reducible first | refine br fun hc=> ?_ | refine bt fun hc=> ?_ | refine bu (fun hc=> ?_) fun hc=> ?_) <;> (try simp only [hc,bs, ↓reduceIte]at h) <;> try simp only [hc]
 | (with_reducible refine aF hQ ?_;(try cases h);simp only [az,aB,bB,bC,go_sem,hP,hY,hZ,gA];repeat' (first | exact Ok.out | with_reducible refine aG ?_ ?_ | (simp;done))))
def tT (x:Ex) (is:Bool):Bool:=(is && x.dp 20) || (!is && x.none)
theorem Js {x:Ex} (is:Bool) (hx:x.size<4611686018427387904) (ht:x.texts) (s:St):aD Tryz.prog qa [.agg (bo x), .bool is] s (.bool (tT x is)) s:=by
 refine aD.pure ?_ (by simp [D.bJ,D.ok,fW]) rfl s
 have hm:=Cd hx ht
 unfold S0
 generalize h:tT x is=p
 unfold tT at h
 refine aD.go Dn rfl fun B Q hB hQ=> ?_
 have⟨hP,hY,hZ,gA⟩:=bw
 repeat' (first
 | simp only [go_sem,hP,hY,hZ,gA]
 | (with_reducible refine CU (hm _) ?_)
 | (with_reducible refine CU (Wm _ _) ?_)
 | (with_reducible first | refine br fun hc=> ?_ | refine bt fun hc=> ?_ | refine bu (fun hc=> ?_) fun hc=> ?_) <;> (try simp only [hc,bs, ↓reduceIte]at h) <;> try simp only [hc]
 | (with_reducible refine aF hQ ?_;(try cases h);simp only [az,aB,bB,bC,go_sem,hP,hY,hZ,gA];repeat' (first | exact Ok.out | with_reducible refine aG ?_ ?_ | (simp;done))))
def oi:List Ar→Bool
 | []=>true
 | a::l=>if !(qj a.name a.ref) || !(tT a.x !a.ref)then false else oi l
theorem RQ {l:List Ar} (hl:l.length<4611686018427387904) (hs : ∀ a∈l,a.x.size<4611686018427387904∧a.x.texts∧a.name.length<4611686018427387904) (s:St) :
 aD Tryz.prog rZ [.slice .shared 6 (l.map dR)] s (.bool (oi l)) s:=by
 refine aD.pure ?_ (by simp [D.bJ,D.ok,Ft,Tag.ok]) rfl s
 unfold S0
 generalize h:oi l=p
 refine aD.go B5 rfl fun B Q hB hQ=> ?_
 have⟨hP,hY,hZ,gA⟩:=bw
 repeat' (first
 | simp only [go_sem,hP,hY,hZ,gA]
 | (with_reducible first | refine br fun hc=> ?_ | refine bt fun hc=> ?_ | refine bu (fun hc=> ?_) fun hc=> ?_) <;> (try simp only [hc,bs, ↓reduceIte]at h) <;> try simp only [hc]
 | (with_reducible refine aF hQ ?_;(try cases h);simp only [az,aB,bB,bC,go_sem,hP,hY,hZ,gA];repeat' (first | exact Ok.out | with_reducible refine aG ?_ ?_ | (simp;done))))
 refine cM 0 0 (bj.ind (ι:=List Ar×Nat) (fun i=>l.drop i.2=i.1∧oi i.1=p) (fun i=>i.1.length)
  (fun i=> [(5, .slice .shared 6 (l.map dR)),(6, .int .i64 (l.length:Int)),(7, .int .i64 (i.2:Int))]) (fun i=>⟨[],[]⟩) ?_ (l,0) ⟨rfl,h⟩)
 rintro⟨rest,k⟩ ⟨h1,h⟩ IH
 dsimp only at h1 h
 cases rest with
 | nil=>
  have hP:=drop_nil h1
  simp only [oi]at h
  repeat' (first
 | simp only [go_sem,hP,hY,hZ,gA]
 | (with_reducible first | refine br fun hc=> ?_ | refine bt fun hc=> ?_ | refine bu (fun hc=> ?_) fun hc=> ?_) <;> (try simp only [hc,bs, ↓reduceIte]at h) <;> try simp only [hc]
 | (with_reducible refine aF hQ ?_;(try cases h);simp only [az,aB,bB,bC,go_sem,hP,hY,hZ,gA];repeat' (first | exact Ok.out | with_reducible refine aG ?_ ?_ | (simp;done))))
 | cons a rest=>
  obtain⟨hY,g2,hP,g4⟩:=drop_cons h1
  have hZ:k<4611686018427387904:=by omega
  obtain⟨a1,a2,a3⟩:=hs a (List.mem_of_getElem? hY)
  have hn:=fun b s=>Bj a.name b a3 s
  have hw:=fun b s=>Js b a1 a2 s
  simp only [oi]at h
  repeat' (first
 | simp only [go_sem,hP,hY,hZ,gA]
 | (with_reducible refine CU (hn _ _) ?_)
 | (with_reducible refine CU (hw _ _) ?_)
 | (with_reducible first | refine br fun hc=> ?_ | refine bt fun hc=> ?_ | refine bu (fun hc=> ?_) fun hc=> ?_) <;> (try simp only [hc,bs, ↓reduceIte]at h) <;> try simp only [hc]
 | (with_reducible refine aF hQ ?_;(try cases h);simp only [az,aB,bB,bC,go_sem,hP,hY,hZ,gA];repeat' (first | exact Ok.out | with_reducible refine aG ?_ ?_ | (simp;done))))
  refine cM 0 0 (IH (rest,k+1) ⟨g2,h⟩ (Nat.lt_succ_self _))
def Sm.flags (s:Sm):Option (Bool×Bool×Bool×Bool×Bool×Bool):=
 if s.kind==1 then some (true,false,true,s.has,false,false)
 else if s.kind==2 || s.kind==10 then some (true,false,false,s.has,false,false)
 else if s.kind==3 then some (false,false,true,s.has,false,false)
 else if s.kind==4 then some (!(s.name == []),true,false,s.has,false,false)
 else if s.kind==5 then some (false,false,true,s.has,true,true)
 else if s.kind==6 then some (false,false,true,s.has,true,false)
 else if s.kind==9 then some (false,false,s.has,false,false,false)
 else if s.kind==7 || s.kind==8 then some (false,false,false,s.has,false,false)
 else none
def Sm.FC (s:Sm) (nm pr x:Bool):Bool:=if !(qj s.name nm) || !(qj s.proc pr) || !(tT s.x x)then false else oi s.args
def Sm.FD (s:Sm) (f:Bool×Bool×Bool×Bool×Bool×Bool):Bool:=
 if f.2.2.2.1 || (!f.2.2.2.2.1 && decide ((s.aY.length:Int) > 0)) || (!f.2.2.2.2.2 && decide ((s.aT.length:Int) > 0)) || (!(s.kind==4) && decide ((s.args.length:Int) > 0))then false
 else s.FC f.1 f.2.1 f.2.2.1
def Sm.fields (s:Sm):Bool:=match s.flags with
 | none=>false
 | some f=>s.FD f
section
variable {v:Sm} {B:fj} {Q:Exit→Tm→St→Prop} {p:Bool}
theorem RR {nm pr x:Bool} (hf:v.l9) (hB:B.s = ⟨[],[]⟩) (hQ:ig 0 0 [(2,none)] (.bool p) ⟨[],[]⟩=Q) (h:v.FC nm pr x=p) :
 Sem Tryz.prog B 93 YO Q [(1, .ptr 0 0),(3, .bool nm),(4, .bool pr),(5, .bool x)] ⟨[bd v],[]⟩:=by
 have h1:=fun b s=>Bj v.name b hf.name s
 have h2:=fun b s=>Bj v.proc b hf.proc s
 have h3:=fun b s=>Js b hf.x hf.xt s
 have h4:=fun s=>RQ hf.Zf hf.arg s
 unfold Sm.FC at h
 have⟨hP,hY,hZ,gA⟩:=bw
 refine gN ?_
 repeat' (first
 | simp only [go_sem,hP,hY,hZ,gA]
 | (with_reducible refine CU (h1 _ _) ?_)
 | (with_reducible refine CU (h2 _ _) ?_)
 | (with_reducible refine CU (h3 _ _) ?_)
 | (with_reducible refine CU (h4 _) ?_)
 | (with_reducible first | refine br fun hc=> ?_ | refine bt fun hc=> ?_ | refine bu (fun hc=> ?_) fun hc=> ?_) <;> (try simp only [hc,bs, ↓reduceIte]at h) <;> try simp only [hc]
 | (with_reducible refine aF hQ ?_;(try cases h);simp only [az,aB,bB,bC,go_sem,hP,hY,hZ,gA];repeat' (first | exact Ok.out | with_reducible refine aG ?_ ?_ | (simp;done))))
theorem RS {nm pr x has th ot ar:Bool} (hf:v.l9) (hB:B.s = ⟨[],[]⟩) (hQ:ig 0 0 [(2,none)] (.bool p) ⟨[],[]⟩=Q) (e:(v.kind==4)=ar) (h:v.FD (nm,pr,x,has,th,ot)=p) :
 Sem Tryz.prog B 93 YP Q [(1, .ptr 0 0),(3, .bool nm),(4, .bool pr),(5, .bool x),(6, .bool has),(7, .bool th),(8, .bool ot),(9, .bool ar)] ⟨[bd v],[]⟩:=by
 simp only [Sm.FD,e]at h
 have⟨hP,hY,hZ,gA⟩:=bw
 refine Sem.kb ?_
 repeat' (first
 | simp only [go_sem,hP,hY,hZ,gA]
 | (with_reducible first | refine br fun hc=> ?_ | refine bt fun hc=> ?_ | refine bu (fun hc=> ?_) fun hc=> ?_) <;> (try simp only [hc,bs, ↓reduceIte]at h) <;> try simp only [hc]
 | (with_reducible refine aF hQ ?_;(try cases h);simp only [az,aB,bB,bC,go_sem,hP,hY,hZ,gA];repeat' (first | exact Ok.out | with_reducible refine aG ?_ ?_ | (simp;done))))
 all_goals
  refine Sem.re _ _ 1 0 (by rw [hB];exact lF rfl) (by rw [hB];exact lF rfl) ?_ ?_ (RR hf hB hQ h)
  ·(simp only [go_sem,hP,hY,hZ,gA];repeat' (first | exact Ok.out | with_reducible refine aG ?_ ?_))
  ·(simp only [go_sem,hP,hY,hZ,gA];repeat' (first | exact Ok.out | with_reducible refine aG ?_ ?_))
theorem RT {ar:Bool} (hf:v.l9) (hB:B.s = ⟨[],[]⟩) (hQ:ig 0 0 [(2,none)] (.bool p) ⟨[],[]⟩=Q) (e:(v.kind==4)=ar) (h:v.fields=p) :
 Sem Tryz.prog B 93 Rz Q [(1, .ptr 0 0),(3, .bool false),(4, .bool false),(5, .bool false),(6, .bool v.has),(7, .bool false),(8, .bool false),(9, .bool ar)] ⟨[bd v],[]⟩:=by
 simp only [Sm.fields,Sm.flags]at h
 have⟨hP,hY,hZ,gA⟩:=bw
 refine Sem.kb ?_
 repeat' (first
 | simp only [go_sem,hP,hY,hZ,gA]
 | (with_reducible first | refine br fun hc=> ?_ | refine bt fun hc=> ?_ | refine bu (fun hc=> ?_) fun hc=> ?_) <;> (try simp only [hc,bs, ↓reduceIte]at h) <;> try simp only [hc]
 | (with_reducible refine aF hQ ?_;(try cases h);simp only [az,aB,bB,bC,go_sem,hP,hY,hZ,gA];repeat' (first | exact Ok.out | with_reducible refine aG ?_ ?_ | (simp;done))))
 all_goals
  refine Sem.re _ _ 1 0 (by rw [hB];exact lF rfl) (by rw [hB];exact lF rfl) ?_ ?_ (RS hf hB hQ e h)
  ·(simp only [go_sem,hP,hY,hZ,gA];repeat' (first | exact Ok.out | with_reducible refine aG ?_ ?_))
  ·(simp only [go_sem,hP,hY,hZ,gA];repeat' (first | exact Ok.out | with_reducible refine aG ?_ ?_))
end
theorem RU {v:Sm} (hf:v.l9) (s:St):aD Tryz.prog rX [.agg (bd v)] s (.bool v.fields) s:=by
 refine aD.pure ?_ (by simp [D.bJ,D.ok,nh]) rfl s
 unfold S0
 refine aD.goS B2 rfl fun B Q hB hQ=> ?_
 have⟨hP,hY,hZ,gA⟩:=bw
 refine Sem.seq (b:=YR) (gN ?_)
 repeat' (first
 | simp only [go_sem,hP,hY,hZ,gA]
 | (with_reducible refine aF hQ ?_;simp only [az,aB,Option.some.injEq,exists_eq_left',go_sem,hP,hY,hZ,gA];repeat' (first | exact Ok.out | with_reducible refine aG ?_ ?_ | (simp;done))))
 refine Sem.seq (b:=YQ) (gN ?_)
 repeat' (first
 | simp only [go_sem,hP,hY,hZ,gA]
 | (with_reducible refine aF hQ ?_;simp only [az,aB,Option.some.injEq,exists_eq_left',go_sem,hP,hY,hZ,gA];repeat' (first | exact Ok.out | with_reducible refine aG ?_ ?_ | (simp;done))))
 refine Sem.seq (b:=Rz) (gN ?_)
 repeat' (first
 | simp only [go_sem,hP,hY,hZ,gA]
 | (with_reducible refine aF hQ ?_;simp only [az,aB,Option.some.injEq,exists_eq_left',go_sem,hP,hY,hZ,gA];repeat' (first | exact Ok.out | with_reducible refine aG ?_ ?_ | (simp;done))))
 refine Sem.re _ _ 1 0 (by rw [hB];exact lF rfl) (by rw [hB];exact lF rfl) ?_ ?_ (RT hf hB hQ rfl rfl)
 ·(simp only [go_sem,hP,hY,hZ,gA];repeat' (first | exact Ok.out | with_reducible refine aG ?_ ?_))
 ·(simp only [go_sem,hP,hY,hZ,gA];repeat' (first | exact Ok.out | with_reducible refine aG ?_ ?_))
end Go.Abs

/-! RefMay3 -/

namespace Go.Abs
set_option maxRecDepth 8000
open Go.Proofs
def iW (i:It):List D:= [.int .i64 i.s.id, .int .i64 i.s.kind, .slice .shared 1 (i.s.labels.map encStr), .str i.s.name, .str i.s.proc,
 .int .i64 i.s.x.op, .int .i64 i.s.x.n, .str i.s.x.name, .slice .shared 4 (i.s.x.kids.map bo), .bool i.s.has, .slice .shared 6 (i.s.args.map dR), .slice .shared 13 (i.s.aY.map bd), .slice .shared 13 (i.s.aT.map bd), .int .i64 i.deep, .int .i64 i.bS, .bool i.aT]
theorem Zn (i:It):D.bJ 0 0 (iW i)=true:=by simp [iW,D.bJ,D.ok,Tag.ok,eD,TI,Ft,lM]
theorem acZ (n m:Nat) (l:List It):D.jD n m (l.map iW)=l.map iW:=lV Zn n m l
theorem ac0 (n m:Nat) (i:It):D.gG n m (iW i)=iW i:=gU n m _ (Zn i)
theorem ac1 (x:It):(iW x).length=16:=nd rfl
theorem Zo (x:It):List.take 13 (iW x)=bd x.s:=by simp only [iW,dv];rfl
theorem RV (x:It):(iW x)[0]? = some (.int .i64 x.s.id):=nd rfl
theorem OB (x:It):(iW x)[13]? = some (.int .i64 x.deep):=nd rfl
attribute [go_sem] acZ ac0 ac1 Zo RV OB
abbrev arM (N:Nat):Prop:=∀ (l:List Sm) (deep bS:Int) (aT:Bool) (out:List It),Sm.aW l<N→0≤deep→deep≤13→out.length≤201→∀ {s:St} {t:Nat},s.aC[t]? = some (some out.length)→
 aD Tryz.prog IM [.slice .shared 13 (l.map bd), .int .i64 deep, .int .i64 bS, .bool aT, .slice (.tok t) 16 (out.map iW)] s (.slice (.tok t) 16 ((e8 deep bS aT out l).map iW)) ⟨s.aA,s.aC.set t (some (e8 deep bS aT out l).length)⟩
end Go.Abs

/-! RefMay4 -/

namespace Go.Abs
set_option maxRecDepth 8000
open Go.Proofs
structure Pg.l9 (p:Pg):Prop where
 sz:p.size<4611686018427387000
 Hj : ∀ t∈p.globals,t.length<4611686018427387904
 mI : ∀ f∈p.procs,f.name.length<4611686018427387904∧(∀ t∈f.vars,t.length<4611686018427387904)∧(∀ t∈f.fin,t.length<4611686018427387904)∧∀ a∈f.params,a.name.length<4611686018427387904
 items : ∀ i∈p.all,i.s.l9
end Go.Abs

/-! TMay3 -/

namespace Go.Abs
set_option maxRecDepth 8000
open Go.Proofs
def gate (nest:Int) (len n:Nat) (r:Bool×Nat):Bool×Nat:=if decide (nest > 12) && decide ((len:Int) > 0)then(false,n)else r
mutual
def Sm.oE (nest:Int) (n:Nat):Sm→Bool×Nat
 | ⟨id,kind,labels,name,proc,x,has,args,aY,aT⟩=>
  if decide (((n+1:Nat):Int) > 200) || id != ((n+1:Nat):Int) || !(c6 labels) || !(Sm.fields ⟨id,kind,labels,name,proc,x,has,args,aY,aT⟩)then(false,n+1)
  else if !(gate (nest+1) aY.length (n+1) (Sm.eK (nest+1) (n+1) aY)).1 then(false,(gate (nest+1) aY.length (n+1) (Sm.eK (nest+1) (n+1) aY)).2)
  else gate (nest+1) aT.length (gate (nest+1) aY.length (n+1) (Sm.eK (nest+1) (n+1) aY)).2 (Sm.eK (nest+1) (gate (nest+1) aY.length (n+1) (Sm.eK (nest+1) (n+1) aY)).2 aT)
def Sm.eK (nest:Int) (n:Nat):List Sm→Bool×Nat
 | []=>(true,n)
 | s::l=>if !(Sm.oE nest n s).1 then(false,(Sm.oE nest n s).2)else Sm.eK nest (Sm.oE nest n s).2 l
end
def Sm.fT (nest:Int) (n:Nat) (l:List Sm):Bool×Nat:=gate nest l.length n (Sm.eK nest n l)
theorem Ds (nest:Int) (n:Nat) (s:Sm):Sm.oE nest n s =
 if decide (((n+1:Nat):Int) > 200) || s.id != ((n+1:Nat):Int) || !(c6 s.labels) || !(s.fields)then(false,n+1)
 else if !(Sm.fT (nest+1) (n+1) s.aY).1 then(false,(Sm.fT (nest+1) (n+1) s.aY).2)
 else Sm.fT (nest+1) (Sm.fT (nest+1) (n+1) s.aY).2 s.aT:=by
 cases s;simp only [Sm.oE,Sm.fT];rfl
mutual
def Sm.uS:Sm→Prop
 | ⟨id,kind,labels,name,proc,x,has,args,aY,aT⟩=>Sm.l9 ⟨id,kind,labels,name,proc,x,has,args,aY,aT⟩∧Sm.jz aY∧Sm.jz aT
def Sm.jz:List Sm→Prop
 | []=>True
 | s::l=>s.uS∧Sm.jz l
end
theorem Bk (s:Sm):s.uS↔s.l9∧Sm.jz s.aY∧Sm.jz s.aT:=by cases s;simp only [Sm.uS]
theorem Cf {s:Sm} : ∀ {l:List Sm},Sm.jz l→s∈l→s.uS
 | y::l,h,m=>by
  simp only [Sm.jz]at h
  rcases List.mem_cons.1 m with rfl | m
  ·exact h.1
  ·exact Cf h.2 m
mutual
theorem Wn (nest:Int) (n:Nat) : ∀ s:Sm,n≤201→(Sm.oE nest n s).2≤202∧((Sm.oE nest n s).1=true→(Sm.oE nest n s).2≤200)
 | ⟨id,kind,labels,name,proc,x,has,args,aY,aT⟩,hn=>by
  simp only [Sm.oE]
  split
  ·exact⟨by dsimp only;omega,fun h=>by cases h⟩
  rename_i hc
  simp only [Bool.or_eq_true,decide_eq_true_eq,not_or]at hc
  have xY:n+1≤200:=by omega
  have g1 : ∀ (nest:Int) (l:List Sm) (m:Nat),m≤200→(Sm.eK nest m l).2≤202∧((Sm.eK nest m l).1=true→(Sm.eK nest m l).2≤200)→
   (gate nest l.length m (Sm.eK nest m l)).2≤202∧((gate nest l.length m (Sm.eK nest m l)).1=true→(gate nest l.length m (Sm.eK nest m l)).2≤200):=by
   intro nest l m hm h
   unfold gate
   split
   ·exact⟨by dsimp only;omega,fun h=>by cases h⟩
   ·exact h
  have h1:=g1 (nest+1) aY (n+1) xY (z6 (nest+1) (n+1) aY xY)
  split
  ·exact⟨h1.1,fun h=>by cases h⟩
  rename_i S5
  have h2:=h1.2 (by simpa using S5)
  exact g1 (nest+1) aT _ h2 (z6 (nest+1) _ aT h2)
theorem z6 (nest:Int) (n:Nat) : ∀ l:List Sm,n≤200→(Sm.eK nest n l).2≤202∧((Sm.eK nest n l).1=true→(Sm.eK nest n l).2≤200)
 | [],hn=>by simp only [Sm.eK];exact⟨by omega,fun _=>hn⟩
 | s::l,hn=>by
  simp only [Sm.eK]
  have h1:=Wn nest n s (by omega)
  split
  ·exact⟨h1.1,fun h=>by cases h⟩
  rename_i hc
  exact z6 nest _ l (h1.2 (by simpa using hc))
end
theorem Dt {nest:Int} {n:Nat} {l:List Sm} (hn:n≤200):(Sm.fT nest n l).2≤202∧((Sm.fT nest n l).1=true→(Sm.fT nest n l).2≤200):=by
 unfold Sm.fT gate
 split
 ·exact⟨by dsimp only;omega,fun h=>by cases h⟩
 ·exact z6 nest n l hn
theorem Wo : ∀ (m:Nat) (l:List Sm),Sm.aW l≤m→Sm.aW l<4611686018427387000→Sm.jz l→∀ (nest:Int) (n:Nat),0≤nest→nest≤13→n≤200→
 aD Tryz.prog ju [.ptr 0 0, .slice .shared 13 (l.map bd), .int .i64 nest] ⟨[[.int .i64 n]],[]⟩ (.bool (Sm.fT nest n l).1) ⟨[[.int .i64 (Sm.fT nest n l).2]],[]⟩:=by
 intro m
 induction m with
 | zero=>
  intro l h hs hf nest n h0 h13 hn
  cases l with
  | nil=>
   have d1:decide ((0:Int) > 0)=false:=rfl
   have e:Sm.fT nest n [] = (true,n):=by simp [Sm.fT,gate,Sm.eK]
   have z:decide ((0:Int)<0)=false:=rfl
   rw [e]
   refine aD.go qe rfl fun B Q hB hQ=> ?_
   have⟨hP,hY,hZ,gA⟩:=bw
   repeat' (first
 | simp only [go_sem,hP,hY,hZ,gA,d1,z]
 | (with_reducible refine bj.uI ?_)
 | (with_reducible first | refine br fun hc=> ?_ | refine bt fun hc=> ?_ | refine bu (fun hc=> ?_) fun hc=> ?_) <;> (try simp only [hc,bs, ↓reduceIte]at h) <;> try simp only [hc]
 | (with_reducible refine aF hQ ?_;simp only [az,aB,bB,bC,go_sem,hP,hY,hZ,gA];repeat' (first | exact Ok.out | with_reducible refine aG ?_ ?_ | (simp;done))))
  | cons s l=>simp only [Sm.aW]at h;omega
 | succ m ih=>
  intro l h hs hf nest n h0 h13 hn
  generalize hR:Sm.fT nest n l=R
  have hlen:=Sm.da l
  unfold Sm.fT gate at hR
  have h:=hR
  refine aD.go qe rfl fun B Q hB hQ=> ?_
  have⟨hP,hY,hZ,gA⟩:=bw
  repeat' (first
 | simp only [go_sem,hP,hY,hZ,gA]
 | (with_reducible first | refine br fun hc=> ?_ | refine bt fun hc=> ?_ | refine bu (fun hc=> ?_) fun hc=> ?_) <;> (try simp only [hc,bs, ↓reduceIte]at h) <;> try simp only [hc]
 | (with_reducible refine aF hQ ?_;(try cases h);simp only [az,aB,bB,bC,go_sem,hP,hY,hZ,gA];repeat' (first | exact Ok.out | with_reducible refine aG ?_ ?_ | (simp;done))))
  all_goals
   have ac2:l≠ []→nest≤12:=by
    intro fp
    have:l.length≠0:=by simpa using fp
    simp_all <;> omega
   refine cM 1 0 (bj.ind (ι:=List Sm×Nat×Nat) (fun i=>l.drop i.2.1=i.1∧Sm.eK nest i.2.2 i.1=R∧i.2.2≤200) (fun i=>i.1.length)
    (fun i=> [(0, .ptr 0 0),(2, .int .i64 nest),(16, .slice .shared 13 (l.map bd)),(17, .int .i64 (l.length:Int)),(18, .int .i64 (i.2.1:Int))]) (fun i=>⟨[[.int .i64 (i.2.2:Int)]],[]⟩) ?_ (l,0,n) ⟨rfl,h,hn⟩)
   rintro⟨rest,k,j⟩ ⟨h1,h,hj⟩ IH
   dsimp only at h1 h hj
   cases rest with
   | nil=>
    have hP:=drop_nil h1
    simp only [Sm.eK]at h
    repeat' (first
 | simp only [go_sem,hP,hY,hZ,gA]
 | (with_reducible first | refine br fun hc=> ?_ | refine bt fun hc=> ?_ | refine bu (fun hc=> ?_) fun hc=> ?_) <;> (try simp only [hc,bs, ↓reduceIte]at h) <;> try simp only [hc]
 | (with_reducible refine aF hQ ?_;(try cases h);simp only [az,aB,bB,bC,go_sem,hP,hY,hZ,gA];repeat' (first | exact Ok.out | with_reducible refine aG ?_ ?_ | (simp;done))))
   | cons s rest=>
    obtain⟨hY,g2,hP,g4⟩:=drop_cons h1
    have hZ:k<4611686018427387904:=by omega
    have ng:=List.mem_of_getElem? hY
    have ew:=Sm.bW ng
    have atW:=ac2 (by rintro rfl;simp at ng)
    obtain⟨BH,hft,hfe⟩:=(Bk s).1 (Cf hf ng)
    have alg:Sm.aW s.aY<s.size∧Sm.aW s.aT<s.size:=by cases s;simp only [Sm.size];omega
    have w1:IntKind.wrap .i64 ((j:Int)+1)=((j+1:Nat):Int):=by rw [cY] <;> omega
    have w2:IntKind.wrap .i64 (nest+1)=nest+1:=cY (by omega) (by omega)
    have c1:=fun s=>xk BH.Ze BH.UM s
    have c2:=fun s=>RU BH s
    simp only [Sm.eK,Ds]at h
    by_cases OC:j+1≤200
    ·have r1:=Dt (nest:=nest+1) (l:=s.aY) OC
     have c3:=fun s' ho=>(ih s.aY (by omega) (by omega) hft (nest+1) (j+1) (by omega) (by omega) OC).jK (s:=s') (o:=0) (by simp [D.bJ,D.ok,lM,Tag.ok]) rfl rfl rfl ho
     by_cases xZ:(Sm.fT (nest+1) (j+1) s.aY).1=true
     ·have c4:=fun s' ho=>(ih s.aT (by omega) (by omega) hfe (nest+1) _ (by omega) (by omega) (r1.2 xZ)).jK (s:=s') (o:=0) (by simp [D.bJ,D.ok,lM,Tag.ok]) rfl rfl rfl ho
      have r2:=Dt (nest:=nest+1) (l:=s.aT) (r1.2 xZ)
      simp only [xZ]at c3
      simp only [xZ,Bool.not_true,Bool.false_eq_true, ↓reduceIte]at h
      repeat' (first
 | simp only [go_sem,hP,hY,hZ,gA,w1,w2,xZ]
 | (with_reducible refine CU (c1 _) ?_)
 | (with_reducible refine CU (c2 _) ?_)
 | (with_reducible refine CU (c3 _ rfl) ?_)
 | (with_reducible refine CU (c4 _ rfl) ?_)
 | (with_reducible first | refine br fun hc=> ?_ | refine bt fun hc=> ?_ | refine bu (fun hc=> ?_) fun hc=> ?_) <;> (try simp only [hc,bs, ↓reduceIte]at h) <;> try simp only [hc]
 | (with_reducible refine aF hQ ?_;(try cases h);simp only [az,aB,bB,bC,go_sem,hP,hY,hZ,gA,w1,w2,xZ];repeat' (first | exact Ok.out | with_reducible refine aG ?_ ?_ | (simp;done))))
      refine cM 1 0 (IH (rest,k+1,(Sm.fT (nest+1) (Sm.fT (nest+1) (j+1) s.aY).2 s.aT).2) ⟨g2,h,r2.2 (by assumption)⟩ (Nat.lt_succ_self _))
     ·have xZ:(Sm.fT (nest+1) (j+1) s.aY).1=false:=by simpa using xZ
      simp only [xZ]at c3
      simp only [xZ,Bool.not_false, ↓reduceIte]at h
      repeat' (first
 | simp only [go_sem,hP,hY,hZ,gA,w1,w2,xZ]
 | (with_reducible refine CU (c1 _) ?_)
 | (with_reducible refine CU (c2 _) ?_)
 | (with_reducible refine CU (c3 _ rfl) ?_)
 | (with_reducible first | refine br fun hc=> ?_ | refine bt fun hc=> ?_ | refine bu (fun hc=> ?_) fun hc=> ?_) <;> (try simp only [hc,bs, ↓reduceIte]at h) <;> try simp only [hc]
 | (with_reducible refine aF hQ ?_;(try cases h);simp only [az,aB,bB,bC,go_sem,hP,hY,hZ,gA,w1,w2,xZ];repeat' (first | exact Ok.out | with_reducible refine aG ?_ ?_ | (simp;done))))
    ·have d1:decide (((j+1:Nat):Int) > 200)=true:=by simp;omega
     simp only [d1,Bool.true_or,Bool.not_false, ↓reduceIte]at h
     repeat' (first
 | simp only [go_sem,hP,hY,hZ,gA,w1,w2,d1]
 | (with_reducible refine CU (c1 _) ?_)
 | (with_reducible refine CU (c2 _) ?_)
 | (with_reducible first | refine br fun hc=> ?_ | refine bt fun hc=> ?_ | refine bu (fun hc=> ?_) fun hc=> ?_) <;> (try simp only [hc,bs, ↓reduceIte]at h) <;> try simp only [hc]
 | (with_reducible refine aF hQ ?_;(try cases h);simp only [az,aB,bB,bC,go_sem,hP,hY,hZ,gA,w1,w2,d1];repeat' (first | exact Ok.out | with_reducible refine aG ?_ ?_ | (simp;done))))
end Go.Abs

/-! TMay4 -/

namespace Go.Abs
set_option maxRecDepth 8000
open Go.Proofs
def Pc.eK (n:Nat):List Pc→Bool
 | []=>true
 | f::l=>
  if decide ((f.params.length:Int) > 8) || decide ((f.vars.length:Int) > 16) || !(isName f.name) || !(c6 f.vars) || !(c6 f.fin)then false
  else if !(Pm.dT f.params)then false
  else if !(Sm.fT 1 n f.body).1 then false
  else Pc.eK (Sm.fT 1 n f.body).2 l
def Pg.Du (p:Pg):Bool:=
 if decide ((p.globals.length:Int) > 16) || decide ((p.procs.length:Int) > 16) || !(c6 p.globals)then false
 else Pc.eK 0 p.procs
structure Pg.FE (p:Pg):Prop where
 sz:p.size<4611686018427387000
 Hj : ∀ t∈p.globals,t.length<4611686018427387904
 mI : ∀ f∈p.procs,f.name.length<4611686018427387904∧(∀ t∈f.vars,t.length<4611686018427387904)∧(∀ t∈f.fin,t.length<4611686018427387904)∧∀ a∈f.params,a.name.length<4611686018427387904
 body : ∀ f∈p.procs,Sm.jz f.body
theorem Hk {p:Pg} (hf:p.FE) (s:St):aD Tryz.prog pY [.agg (cd p)] s (.bool p.Du) s:=by
 refine aD.pure ?_ (by simp only [D.bJ,D.ok,iR];rfl) rfl s
 obtain⟨ew,x4,Zp,Kg⟩:=hf
 have sy:Pc.aW p.procs<4611686018427387000:=by simp only [Pg.size]at ew;omega
 have ac3:p.globals.length<4611686018427387904:=by simp only [Pg.size]at ew;omega
 have atr:p.procs.length<4611686018427387904:=by have:=Pc.da p.procs;omega
 have hg:=fun s=>xk ac3 x4 s
 unfold S0
 generalize h:p.Du=R
 unfold Pg.Du at h
 refine aD.go G6 rfl fun B Q hB hQ=> ?_
 have⟨hP,hY,hZ,gA⟩:=bw
 repeat' (first
 | simp only [go_sem,hP,hY,hZ,gA]
 | (with_reducible refine CU (hg _) ?_)
 | (with_reducible first | refine br fun hc=> ?_ | refine bt fun hc=> ?_ | refine bu (fun hc=> ?_) fun hc=> ?_) <;> (try simp only [hc,bs, ↓reduceIte]at h) <;> try simp only [hc]
 | (with_reducible refine aF hQ ?_;(try cases h);simp only [az,aB,bB,bC,go_sem,hP,hY,hZ,gA];repeat' (first | exact Ok.out | with_reducible refine aG ?_ ?_ | (simp;done))))
 refine cM 2 0 (bj.ind (ι:=List Pc×Nat×Nat) (fun i=>p.procs.drop i.2.1=i.1∧Pc.eK i.2.2 i.1=R∧i.2.2≤200) (fun i=>i.1.length)
  (fun i=> [(1, .ptr 0 0),(3, .ptr 1 0),(27, .slice .shared 5 (p.procs.map cA)),(28, .int .i64 (p.procs.length:Int)),(29, .int .i64 (i.2.1:Int))]) (fun i=>⟨[cd p,[.int .i64 (i.2.2:Int)]],[]⟩) ?_ (p.procs,0,0) ⟨rfl,h,Nat.zero_le _⟩)
 rintro⟨rest,k,n⟩ ⟨h1,h,hn⟩ IH
 dsimp only at h1 h hn
 cases rest with
 | nil=>
  have hP:=drop_nil h1
  simp only [Pc.eK]at h
  repeat' (first
 | simp only [go_sem,hP,hY,hZ,gA]
 | (with_reducible first | refine br fun hc=> ?_ | refine bt fun hc=> ?_ | refine bu (fun hc=> ?_) fun hc=> ?_) <;> (try simp only [hc,bs, ↓reduceIte]at h) <;> try simp only [hc]
 | (with_reducible refine aF hQ ?_;(try cases h);simp only [az,aB,bB,bC,go_sem,hP,hY,hZ,gA];repeat' (first | exact Ok.out | with_reducible refine aG ?_ ?_ | (simp;done))))
 | cons f rest=>
  obtain⟨hY,g2,hP,g4⟩:=drop_cons h1
  have cz:k<4611686018427387904:=by omega
  have ng:=List.mem_of_getElem? hY
  have x5:=Pc.bW ng
  simp only [Pc.size]at x5
  obtain⟨x6,hfv,hff,hfp⟩:=Zp f ng
  have Zq:=wE f.name x6
  have hv:=fun s=>xk (by omega) hfv s
  have he:=fun s=>xk (by omega) hff s
  have hb:=fun s' o ho=>(Wo _ f.body (Nat.le_refl _) (by omega) (Kg f ng) 1 n (by omega) (by omega) hn).jK (s:=s') (o:=o) (by simp [D.bJ,D.ok,lM,Tag.ok]) rfl rfl rfl ho
  have hle:=Dt (nest:=1) (l:=f.body) hn
  simp only [Pc.eK]at h
  repeat' (first
 | simp only [go_sem,hP,hY,hZ,gA]
 | (with_reducible refine CU (Zq _) ?_)
 | (with_reducible refine CU (hv _) ?_)
 | (with_reducible refine CU (he _) ?_)
 | (with_reducible first | refine br fun hc=> ?_ | refine bt fun hc=> ?_ | refine bu (fun hc=> ?_) fun hc=> ?_) <;> (try simp only [hc,bs, ↓reduceIte]at h) <;> try simp only [hc]
 | (with_reducible refine aF hQ ?_;exact lG)
 | (cases h;done))
  refine cM 3 0 (bj.ind (ι:=List Pm×Nat) (fun i=>f.params.drop i.2=i.1∧(if !(Pm.dT i.1)then false else if !(Sm.fT 1 n f.body).1 then false else Pc.eK (Sm.fT 1 n f.body).2 rest)=R) (fun i=>i.1.length)
   (fun i=> [(1, .ptr 0 0),(3, .ptr 1 0),(5, .ptr 2 0),(27, .slice .shared 5 (p.procs.map cA)),(28, .int .i64 (p.procs.length:Int)),(29, .int .i64 (k:Int)),(62, .slice .shared 2 (f.params.map fE)),(63, .int .i64 (f.params.length:Int)),(64, .int .i64 (i.2:Int))]) (fun i=>⟨[cd p,[.int .i64 (n:Int)],cA f],[]⟩) ?_ (f.params,0) ⟨rfl,h⟩)
  rintro⟨LZ,j⟩ ⟨j1,h⟩ Ch
  dsimp only at j1 h
  cases LZ with
  | nil=>
   have hP:=drop_nil j1
   simp only [Pm.dT,Bool.not_true,Bool.false_eq_true, ↓reduceIte]at h
   repeat' (first
 | simp only [go_sem,hP,hY,hZ,gA]
 | (with_reducible refine CU (hb _ _ rfl) ?_)
 | (with_reducible first | refine br fun hc=> ?_ | refine bt fun hc=> ?_ | refine bu (fun hc=> ?_) fun hc=> ?_) <;> (try simp only [hc,bs, ↓reduceIte]at h) <;> try simp only [hc]
 | (with_reducible refine aF hQ ?_;exact lG)
 | (cases h;done))
   refine eo 2 0 ?_ ?_ (IH (rest,k+1,(Sm.fT 1 n f.body).2) ⟨g2,h,hle.2 (by assumption)⟩ (Nat.lt_succ_self _))
   ·(simp only [go_sem,hP,hY,hZ,gA,aN cz];try exact bQ)
   ·(simp only [go_sem,hP,hY,hZ,gA,aN cz];try exact bQ)
  | cons a LZ=>
   obtain⟨hY,b2,hP,b4⟩:=drop_cons j1
   have OC:j<4611686018427387904:=by omega
   have ha:=wE a.name (hfp a (List.mem_of_getElem? hY))
   simp only [Pm.dT]at h
   repeat' (first
 | simp only [go_sem,hP,hY,hZ,gA]
 | (with_reducible refine CU (ha _) ?_)
 | (with_reducible first | refine br fun hc=> ?_ | refine bt fun hc=> ?_ | refine bu (fun hc=> ?_) fun hc=> ?_) <;> (try simp only [hc,bs, ↓reduceIte]at h) <;> try simp only [hc]
 | (with_reducible refine aF hQ ?_;exact lG)
 | (cases h;done))
   refine eo 3 0 ?_ ?_ (Ch (LZ,j+1) ⟨b2,h⟩ (Nat.lt_succ_self _))
   ·(simp only [go_sem,hP,hY,hZ,gA,aN OC];try exact bQ)
   ·(simp only [go_sem,hP,hY,hZ,gA,aN OC];try exact bQ)
end Go.Abs

/-! MayFine -/

namespace Go.Abs
theorem xl {s:ay} (h:isName s=true):s.length≤8:=by
 cases s with
 | nil=>simp
 | cons c r=>
  simp only [isName]at h
  split at h
  ·cases h
  ·rename_i hc
   simp only [Bool.or_eq_true,decide_eq_true_eq,not_or]at hc
   simp only [List.length_cons];omega
theorem n5 {t:ay} : ∀ {l:List ay},c6 l=true→t∈l→isName t=true
 | s::l,h,m=>by
  simp only [c6]at h
  cases hs:isName s
  ·simp [hs]at h
  ·simp [hs]at h
   rcases List.mem_cons.1 m with rfl | m
   ·exact hs
   ·exact n5 h m
theorem Hl {a:Ar} : ∀ {l:List Ar},Ar.dT l=true→a∈l→a.may=true
 | s::l,h,m=>by
  simp only [Ar.dT]at h
  cases hs:s.may
  ·simp [hs]at h
  ·simp [hs]at h
   rcases List.mem_cons.1 m with rfl | m
   ·exact hs
   ·exact Hl h m
theorem D6 {a:Pm} : ∀ {l:List Pm},Pm.dT l=true→a∈l→isName a.name=true
 | s::l,h,m=>by
  simp only [Pm.dT]at h
  cases hs:isName s.name
  ·simp [hs]at h
  ·simp [hs]at h
   rcases List.mem_cons.1 m with rfl | m
   ·exact hs
   ·exact D6 h m
mutual
theorem Ci : ∀ x:Ex,x.form=true→x.texts
 | ⟨op,n,name,kids⟩,h=>by
  simp only [Ex.form]at h
  split at h
  ·cases h
  ·rename_i hc
   refine⟨?_,AP kids h⟩
   simp only [Bool.or_eq_true,Bool.and_eq_true,Bool.not_eq_true',not_or,not_and,Bool.not_eq_false]at hc
   cases hn:(name == [])
   ·have:=xl (hc.2 hn);omega
   ·simp at hn;subst hn;simp
theorem AP : ∀ l:List Ex,Ex.lO l=true→Ex.tP l
 | [],_=>trivial
 | x::l,h=>by
  simp only [Ex.lO]at h
  cases hx:x.form
  ·simp [hx]at h
  ·simp [hx]at h
   exact⟨Ci x hx,AP l h⟩
end
theorem D7 {x:Ex} (h:x.may=true):x.texts:=by
 unfold Ex.may at h
 simp only [Bool.and_eq_true]at h
 exact Ci x h.2
theorem Cj {x:Ex} (h:x.none=true):x.texts:=by
 obtain⟨op,n,name,kids⟩:=x
 simp [Ex.none]at h
 obtain⟨⟨_,h1⟩,h2⟩:=h
 subst h1 h2
 exact⟨by simp,trivial⟩
mutual
theorem OD {deep bS:Int} {aT:Bool} {out:List It} {i:It} : ∀ s:Sm,i∈iy deep bS aT out s→i∈out∨i.s.size≤s.size
 | ⟨id,kind,labels,name,proc,x,has,args,aY,e⟩,h=>by
  simp only [iy]at h
  have key:i∈out++ [(⟨⟨id,kind,labels,name,proc,x,has,args,aY,e⟩,deep,bS,aT⟩:It)]→i∈out∨i.s.size≤(⟨id,kind,labels,name,proc,x,has,args,aY,e⟩:Sm).size:=by
   intro h
   rcases List.mem_append.1 h with h | h
   ·exact .inl h
   ·simp at h;subst h;exact .inr (Nat.le_refl _)
  split at h
  ·rcases uT e h with h | h
   ·rcases uT aY h with h | h
    ·exact key h
    ·right;simp only [Sm.size];omega
   ·right;simp only [Sm.size];omega
  ·exact key h
theorem uT {deep bS:Int} {aT:Bool} {out:List It} {i:It} : ∀ l:List Sm,i∈e8 deep bS aT out l→i∈out∨i.s.size<Sm.aW l
 | [],h=>by simp only [e8]at h;exact .inl h
 | s::l,h=>by
  simp only [e8]at h
  split at h
  ·rcases uT l h with h | h
   ·rcases OD s h with h | h
    ·exact .inl h
    ·right;simp only [Sm.aW];omega
   ·right;simp only [Sm.aW];omega
  ·exact .inl h
end
theorem Hm {i:It} : ∀ (l:List Pc) (out:List It),i∈allM out l→i∈out∨i.s.size<Pc.aW l
 | [],out,h=>by simp only [allM]at h;exact .inl h
 | f::l,out,h=>by
  have key:i∈out++f.flat→i∈out∨i.s.size<Pc.aW (f::l):=by
   intro h
   rcases List.mem_append.1 h with h | h
   ·exact .inl h
   ·rcases uT _ h with h | h
    ·simp at h
    ·right;simp only [Pc.aW,Pc.size];omega
  simp only [allM]at h
  split at h
  ·exact key h
  ·rcases Hm l _ h with h | h
   ·exact key h
   ·right;simp only [Pc.aW];omega
theorem Ck {i:It} : ∀ (l:List It) (n:Nat),It.dT n l=true→i∈l→i.s.one=true
 | s::l,n,h,m=>by
  simp only [It.dT]at h
  split at h
  ·cases h
  ·rename_i hc
   simp only [Bool.or_eq_true,Bool.not_eq_true',not_or,Bool.not_eq_false]at hc
   rcases List.mem_cons.1 m with rfl | m
   ·exact hc.2
   ·exact Ck l (n+1) h m
theorem Hn {s:Sm} (h:s.one=true) (hs:s.size<4611686018427387000):s.l9:=by
 unfold Sm.one at h
 split at h
 ·cases h
 split at h
 ·cases h
 split at h
 ·cases h
 split at h
 ·cases h
 rename_i c1 c2 c3 c4
 simp only [Bool.or_eq_true,Bool.and_eq_true,Bool.not_eq_true',not_or,not_and,Bool.not_eq_false,decide_eq_true_eq]at c1 c2 c3 c4
 obtain⟨⟨⟨⟨⟨_,_⟩,alh⟩,cx⟩,cn⟩,_⟩:=c1
 obtain⟨c21,c22⟩:=c2
 obtain⟨⟨c31,c32⟩,c33⟩:=c3
 have nm : ∀ {t:ay},isName t=true→t.length<4611686018427387904:=fun h=>by have:=xl h;omega
 have ew:1+s.labels.length+s.x.size+Ar.aW s.args≤s.size:=by cases s;simp only [Sm.size];omega
 have xU:=Ar.da s.args
 refine⟨fun t ht=>nm (n5 alh ht),by omega, ?_, ?_,by omega, ?_,by omega,fun a ha=> ?_⟩
 ·cases hn:s.hasName
  ·cases he:(s.name == [])
   ·exact nm (c22 ⟨hn,he⟩).2
   ·simp at he;rw [he];simp
  ·exact nm (c21 hn)
 ·cases xP:s.mV
  ·rw [xP]at c31
   have:s.proc = []:=by simpa using c31
   rw [this];simp
  ·exact nm (c32 xP)
 ·cases hx:s.sg
  ·exact Cj (cn hx)
  ·exact D7 (cx hx)
 ·have hm:=Hl c4 ha
  have US:=Ar.bW ha
  unfold Ar.may at hm
  split at hm
  ·simp only [Bool.and_eq_true]at hm
   exact⟨by omega,Cj hm.2,nm hm.1⟩
  ·simp only [Bool.and_eq_true,beq_iff_eq]at hm
   exact⟨by omega,D7 hm.2,by rw [hm.1];simp⟩
theorem D8 {f:Pc} : ∀ {l:List Pc},Pc.mI l=true→f∈l→isName f.name=true∧c6 f.vars=true∧c6 f.fin=true∧Pm.dT f.params=true
 | s::l,h,m=>by
  simp only [Pc.mI]at h
  split at h
  ·cases h
  split at h
  ·cases h
  rename_i c1 c2
  simp only [Bool.or_eq_true,Bool.not_eq_true',not_or,Bool.not_eq_false]at c1 c2
  rcases List.mem_cons.1 m with rfl | m
  ·exact⟨c1.1.1.1.1,c1.1.2,c1.2,c2⟩
  ·exact D8 h m
theorem RX {p:Pg} (h:p.may=true) (hs:p.size<4611686018427387000):p.l9:=by
 unfold Pg.may at h
 split at h
 ·cases h
 split at h
 ·cases h
 split at h
 ·cases h
 rename_i c1 c2 c3
 simp only [Bool.or_eq_true,Bool.not_eq_true',not_or,Bool.not_eq_false]at c1 c2
 have nm : ∀ {t:ay},isName t=true→t.length<4611686018427387904:=fun h=>by have:=xl h;omega
 refine⟨hs,fun t ht=>nm (n5 c1.2 ht),fun f hf=> ?_,fun i hi=> ?_⟩
 ·obtain⟨a,b,c,d⟩:=D8 c2 hf
  exact⟨nm a,fun t ht=>nm (n5 b ht),fun t ht=>nm (n5 c ht),fun t ht=>nm (D6 d ht)⟩
 ·refine Hn (Ck _ _ h hi) ?_
  rcases Hm _ _ hi with h1 | h1
  ·simp at h1
  ·simp only [Pg.size]at hs;omega
end Go.Abs

/-! MayEq -/

namespace Go.Abs
theorem OE {t:ay} (h:isName t=true):t≠ []:=by rintro rfl;cases h
theorem RY (op n:Int) (name:ay) (kids:List Ex):Ex.form ⟨op,n,name,kids⟩=true↔
 lg op=(kids.length:Int)∧(op=1∨n=0)∧0≤n∧(op=2↔name≠ [])∧(name = []∨isName name=true)∧Ex.lO kids=true:=by
 simp only [Ex.form]
 split
 ·rename_i h
  simp only [Bool.or_eq_true,Bool.and_eq_true,bne_iff_ne,ne_eq,decide_eq_true_eq,Bool.not_eq_true']at h
  refine⟨fun h=>(Bool.false_ne_true h).elim,fun⟨h1,h2,h3,h4,h5,_⟩=> ?_⟩
  exfalso
  rcases h with (((h | h) | h) | h) | h
  ·exact h h1
  ·rcases h2 with h2 | h2
   ·exact h.1 h2
   ·exact h.2 h2
  ·omega
  ·by_cases h2:op=2 <;> cases name <;> simp_all
  ·rcases h5 with h5 | h5
   ·subst h5;simp at h
   ·rw [h5]at h;simp at h
 ·rename_i h
  simp only [Bool.or_eq_true,Bool.and_eq_true,bne_iff_ne,ne_eq,decide_eq_true_eq,Bool.not_eq_true',not_or,not_and,Decidable.not_not,Bool.not_eq_false]at h
  obtain⟨⟨⟨⟨h1,h2⟩,h3⟩,h4⟩,h5⟩:=h
  refine⟨fun h=>⟨h1, ?_,by omega, ?_, ?_,h⟩,fun h=>h.2.2.2.2.2⟩
  ·by_cases h:op=1
   ·exact .inl h
   ·exact .inr (h2 h)
  ·by_cases h2:op=2 <;> cases name <;> simp_all
  ·cases name with
   | nil=>exact .inl rfl
   | cons c r=>exact .inr (h5 rfl)
theorem Zr (op n:Int) (name:ay) (kids:List Ex) (k:Int):Ex.dp k ⟨op,n,name,kids⟩=true↔
 1≤k∧(kids.length:Int)=lg op∧(if op=1 then 0≤n∧name = []else if op=2 then n=0∧isName name=true else n=0∧name = []∧Ex.Cc (k - 1) kids=true):=by
 simp only [Ex.dp]
 split
 ·rename_i h
  simp only [Bool.or_eq_true,decide_eq_true_eq,bne_iff_ne,ne_eq]at h
  refine⟨fun h=>(Bool.false_ne_true h).elim,fun⟨h1,h2,_⟩=> ?_⟩
  rcases h with h | h
  ·omega
  ·exact(h h2).elim
 rename_i h
 simp only [Bool.or_eq_true,decide_eq_true_eq,bne_iff_ne,ne_eq,not_or,Decidable.not_not]at h
 have h1:1≤k:=by omega
 simp only [h1,h.2,true_and]
 by_cases o1:op=1
 ·subst o1
  cases name <;> simp
 ·have o1' : ¬ (op==1)=true:=by simpa using o1
  rw [if_neg o1',if_neg o1]
  by_cases o2:op=2
  ·subst o2;simp
  ·have o2' : ¬ (op==2)=true:=by simpa using o2
   rw [if_neg o2',if_neg o2]
   by_cases hn:n=0
   ·subst hn
    cases name <;> simp
   ·simp [hn]
mutual
theorem UT : ∀ (x:Ex) (k:Int),0≤k→(x.dp k=true↔(x.depth:Int)≤k∧x.form=true)
 | ⟨op,n,name,kids⟩,k,hk=>by
  rw [Zr,RY]
  have hd:Ex.depth ⟨op,n,name,kids⟩=Ex.fF kids+1:=by simp only [Ex.depth]
  rw [hd]
  by_cases h1:1≤k
  ·have ih:=OF kids (k - 1) (by omega)
   by_cases o1:op=1
   ·subst o1
    have ha:lg 1=0:=rfl
    rw [ha,if_pos rfl]
    constructor
    ·rintro⟨_,h2,h3,h4⟩
     have:kids = []:=List.eq_nil_of_length_eq_zero (by omega)
     subst this;subst h4
     simp [Ex.fF,Ex.lO,h3];omega
    ·rintro⟨h2,h3,_,h4,h5,_⟩
     refine⟨h1,h3.symm,h4, ?_⟩
     cases name
     ·rfl
     ·simp at h5
   ·rw [if_neg o1]
    by_cases o2:op=2
    ·subst o2
     have ha:lg 2=0:=rfl
     rw [ha,if_pos rfl]
     constructor
     ·rintro⟨_,h2,h3,h4⟩
      have:kids = []:=List.eq_nil_of_length_eq_zero (by omega)
      subst this;subst h3
      have:=OE h4
      simp [Ex.fF,Ex.lO,h4,this];omega
     ·rintro⟨h2,h3,h4,_,h5,h6,_⟩
      refine⟨h1,h3.symm,h4.resolve_left o1, ?_⟩
      exact h6.resolve_left (h5.1 rfl)
    ·rw [if_neg o2,ih]
     constructor
     ·rintro⟨_,h2,h3,h4,h5,h6⟩
      subst h3;subst h4
      exact⟨by omega,h2.symm, .inr rfl,Int.le_refl _,by simp [o2], .inl rfl,h6⟩
     ·rintro⟨h2,h3,h4,_,h5,h6,h7⟩
      refine⟨h1,h3.symm,h4.resolve_left o1, ?_,by omega,h7⟩
      exact Decidable.byContradiction fun h=>o2 (h5.2 h)
  ·constructor
   ·rintro⟨h,_⟩;exact(h1 h).elim
   ·rintro⟨h,_⟩;omega
theorem OF : ∀ (l:List Ex) (k:Int),0≤k→(Ex.Cc k l=true↔(Ex.fF l:Int)≤k∧Ex.lO l=true)
 | [],k,hk=>by simp [Ex.Cc,Ex.fF,Ex.lO,hk]
 | x::l,k,hk=>by
  have h1:=UT x k hk
  have h2:=OF l k hk
  have hd:Ex.fF (x::l)=max x.depth (Ex.fF l):=by simp only [Ex.fF]
  rw [hd]
  simp only [Ex.Cc,Ex.lO]
  cases hx:Ex.dp k x
  ·simp only [Bool.not_false, ↓reduceIte,Bool.false_eq_true,false_iff,not_and]
   intro h3
   have : ¬ ((x.depth:Int)≤k∧x.form=true):=by rw [← h1,hx];simp
   have hf:x.form=false:=by
    cases hf:x.form
    ·rfl
    ·exact(this ⟨by omega,hf⟩).elim
   simp [hf]
  ·have:=h1.1 hx
   simp only [Bool.not_true,Bool.false_eq_true, ↓reduceIte,this.2,h2]
   have h3:=this.1
   refine and_congr_left fun _=> ?_
   omega
end
theorem OG (x:Ex):x.dp 20=x.may:=by
 rw [Bool.eq_iff_iff,UT x 20 (by omega)]
 unfold Ex.may
 simp only [Bool.and_eq_true,decide_eq_true_eq]
 refine and_congr_left fun _=> ?_
 omega
theorem D9 (x:Ex) (b:Bool):tT x b=if b then x.may else x.none:=by
 unfold tT
 rw [OG]
 cases b <;> simp
theorem Ea (t:ay) (b:Bool):qj t b=if b then isName t else t == []:=by
 unfold qj
 cases b <;> simp
theorem AQ : ∀ l:List Ar,oi l=Ar.dT l
 | []=>rfl
 | a::l=>by
  simp only [oi,Ar.dT,Ar.may,D9,Ea,AQ l]
  grind
theorem ali {α:Type} (l:List α):((l.length:Int)==0) = !(decide ((l.length:Int) > 0)):=by
 cases l with
 | nil=>rfl
 | cons a l=>
  have h1:(((a::l).length:Int)==0)=false:=by simp only [List.length_cons,beq_eq_false_iff_ne];omega
  have h2:decide (((a::l).length:Int) > 0)=true:=by simp only [List.length_cons,decide_eq_true_eq];omega
  rw [h1,h2];rfl
theorem Cl (s:Sm):s.one=(c6 s.labels && s.fields):=by
 have hk:s.kind=1∨s.kind=2∨s.kind=3∨s.kind=4∨s.kind=5∨s.kind=6∨s.kind=7∨s.kind=8∨s.kind=9∨s.kind=10∨s.kind<1∨s.kind > 10:=by omega
 unfold Sm.one Sm.fields Sm.flags Sm.sg Sm.hasName Sm.mV
 have p1:isName [] = false:=rfl
 rcases hk with h | h | h | h | h | h | h | h | h | h | h | h
 all_goals
  simp only [h,ali,AQ,D9,Ea,Sm.FD,Sm.FC]
  grind
end Go.Abs
