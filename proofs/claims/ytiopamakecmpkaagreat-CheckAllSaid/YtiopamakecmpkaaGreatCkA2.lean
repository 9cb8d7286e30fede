/-
  What is proved here: part 2 of the road to the claim (Codes3, Codes4, Have4, Codes5, Have5, Have3, Frz, MirLex, MirMay, Prs, Lex1, Lex2, RefLex1, Prs2, Ref1, Ref2, Ref3, RefMay1, RefMay2, Flat1, Flat2, Flat3, Sl1, MirFlat2, Sl2, TMay1, TMay2, RefMay3, RefMay4).
  No conditions.
-/
import Derived.Test.YtiopamakecmpkaaGreatCkA1
import Derived.Test.YtiopamakecmpkaaGreatProg
import Derived.KernelRfl

set_option linter.unusedSimpArgs false
set_option linter.unusedVariables false

/-! Codes3 -/

namespace Go.Abs
abbrev aiK:AC:= .cond da (.seq (.run [.o 6 (.mv (.k (.int .i64 3)))]) .ret) .skip
abbrev aiL:AC:= .cond dH (.seq (.run [.o 6 (.mv (.k (.int .i64 2)))]) .ret) .skip
abbrev aiM:AC:= .seq (.seq (.run [.o 16 (.aq bP 0), .o 17 (.load bX false 1), .m 18 cQ, .o 19 (.bin .eql cy cr), .m 20 cD, .g 21 20 true (.aq bP 1), .g 22 20 true (.load cM false 1), .o 23 (.pick cR c9 (.k (.bool false)))]) aiK) (.seq (.run [.o 24 (.aq bP 0), .o 25 (.load cU false 1), .m 26 cQ, .o 27 (.bin .eql cW dP)]) aiL)
abbrev aiN:AC:= .seq (.block 1 (.seq (.run [.o 14 (.bA bS bZ 2), .o 15 (.load bI true 2), .o 8 (.alloc [(.str []),(.bool false)]), .op none none (.store bP b9 2)]) aiM)) (.run [.o 28 (.bin .add bZ (.k (.int .i64 1))), .m 12 dY])
abbrev aiO:AC:= .block 0 (.loop (.seq (.run [.o 13 (.bin .lss bZ bG)]) (.seq (.cond bT .skip (.exit 0)) aiN)))
abbrev aiP:AC:= .cond eZ (.seq (.run [.o 6 (.mv (.k (.int .i64 4)))]) .ret) .skip
abbrev aiQ:AC:= .cond fm (.seq (.run [.o 6 (.mv (.k (.int .i64 1)))]) .ret) .skip
abbrev aiR:AC:= .seq (.seq (.run [.o 33 (.aq bF 0), .o 34 (.load eJ false 1), .m 35 cQ, .c 36 cA [fb,fh]]) aiQ) (.seq (.run [.o 6 (.mv (.k (.int .i64 0)))]) .ret)
abbrev aiS:AC:= .seq (.seq (.run [.o 9 (.aq cu 1), .o 10 (.load b8 false 1), .o 11 (.len bS), .o 12 (.mv (.k (.int .i64 0)))]) aiO) (.seq (.seq (.run [.o 29 (.aq cu 2), .o 30 (.load ek false 1), .m 31 cQ, .c 32 cA [eY,eo]]) aiP) aiR)
abbrev aiT:AC:= .seq (.run [.o 3 (.box aQ), .o 4 (.box aY), .o 6 (.mv (.k (.int .i64 0)))]) aiS
abbrev aiU:AC:= .cond bG (.seq (.run [.o 4 (.mv (.k (.bool false)))]) .ret) .skip
abbrev aiV:AC:= .par [.o 19 (.aq bN 1), .o 20 (.load cD false 1), .m 21 aY, .m 22 bh, .o 23 (.bA cM c9 6), .o 24 (.aq da 0), .o 25 (.load cU false 1), .o 26 (.ze true cR cW)] [(0,0),(1,0),(2,0),(3,0),(4,0),(5,0),(6,0),(7,0)]
abbrev aiW:AC:= .cond dP (.seq (.run [.o 4 (.mv (.k (.bool false)))]) .ret) .skip
abbrev aiX:AC:= .seq (.block 1 (.seq (.run [.m 16 bI, .o 17 (.bA bZ bI 2), .o 18 (.load cy true 2), .o 6 (.alloc [(.str []),(.bool false)]), .m 5 bX, .op none none (.store bN cr 2)]) (.seq aiV aiW))) (.run [.o 27 (.bin .add bI (.k (.int .i64 1))), .m 14 dH])
abbrev aiY:AC:= .block 0 (.loop (.seq (.run [.o 15 (.bin .lss bI bT)]) (.seq (.cond b9 .skip (.exit 0)) aiX)))
abbrev aiZ:AC:= .seq (.seq (.run [.m 12 aQ, .o 13 (.len bZ), .o 14 (.mv (.k (.int .i64 0)))]) aiY) (.seq (.run [.o 4 (.mv (.k (.bool true)))]) .ret)
abbrev ai0:AC:= .seq (.run [.o 4 (.mv (.k (.bool false)))]) (.seq (.seq (.run [.m 7 aQ, .o 8 (.len br), .m 9 aY, .o 10 (.len b8), .o 11 (.bin .neq bP bS)]) aiU) aiZ)
abbrev ai1:AC:= .cond c9 (.seq (.run [.o 23 (.aq b8 0), .o 24 (.aq da 0), .o 25 (.load cU false 1), .m 6 cW, .o 7 (.mv (.k (.bool true)))]) .ret) .skip
abbrev ai2:AC:= .seq (.block 1 (.seq (.run [.o 16 (.bA bZ bI 17), .o 17 (.load bX true 17), .o 9 (.alloc [(.int .i64 0),(.int .i64 0),(.slice .full 0 []),(.str []),(.str []),(.int .i64 0),(.int .i64 0),(.str []),(.slice .full 0 []),(.bool false),(.slice .full 0 []),(.slice .full 0 []),(.slice .full 0 []),(.int .i64 0),(.int .i64 0),(.int .i64 0),(.int .i64 0)]), .op none none (.store b8 cy 17)]) (.seq (.run [.o 18 (.aq b8 0), .o 19 (.aq cr 2), .o 20 (.load cD false 1), .m 21 cQ, .c 22 cA [cR,cM]]) ai1))) (.run [.o 26 (.bin .add bI (.k (.int .i64 1))), .m 14 dP])
abbrev ai3:AC:= .block 0 (.loop (.seq (.run [.o 15 (.bin .lss bI bT)]) (.seq (.cond b9 .skip (.exit 0)) ai2)))
abbrev ai4:AC:= .seq (.run [(.o 6 (.mv (.k (.int .i64 (-1))))), .o 7 (.mv (.k (.bool true)))]) .ret
abbrev ai5:AC:= .seq (.seq (.run [.m 27 aQ, .o 28 (.dv dH), .o 29 (.aq dY 0), .o 30 (.aq ek 1), .o 31 (.load eY false 1), .m 32 aY, .o 33 (.bA eo eZ 5), .o 34 (.aq eJ 4), .o 35 (.load fb false 1), .m 36 cQ, .c 37 cA [fh,fm]]) (.cond fy ai4 .skip)) (.seq (.run [.o 6 (.mv (.k (.int .i64 0))), .o 7 (.mv (.k (.bool false)))]) .ret)
abbrev ai6:AC:= .seq (.seq (.run [.m 10 aQ, .m 11 aY, .c 12 gJ [bS,bG], .o 13 (.len bZ), .o 14 (.mv (.k (.int .i64 0)))]) ai3) ai5
abbrev ai7:AC:= .seq (.run [.o 6 (.mv (.k (.int .i64 0))), .o 7 (.mv (.k (.bool false)))]) ai6
abbrev ai8:AC:= .seq (.run [.o 2 (.box aQ), .o 3 (.box aY), .o 4 (.mv (.k (.bool false)))]) (.seq (.run [.o 5 (.load cQ true 2), .c 6 lG [bh], .o 7 (.rz bN 0 false 1), .o 8 (.bin .eql br (.k (.int .i64 0))), .m 9 bP, .g 10 9 true (.aq cQ 1), .g 11 9 true (.load bS false 1), .g 12 9 true (.tP 164 [bF]), .d 13 9 true gK [bG,bZ], .o 14 (.pick b8 bT (.k (.bool false))), .m 4 bI]) .ret)
abbrev ai9:AC:= .seq (.run [.o 26 (.bA c9 cU 1), .o 27 (.load dP false 1), .m 8 dH]) (.seq (.run [.m 28 bh, .m 29 bP, .c 30 cA [dY,ek], .o 31 (.un .not eY)]) (.cond eo (.run [.m 32 bh, .m 33 bP, .o 34 (.cG [(.str [])] 1 1 [(0,eJ)]), .o 35 (.app 1 16 eZ fb), .m 5 fh]) .skip))
abbrev aja:AC:= .seq (.cond cW .skip (.exit 2)) (.seq (.block 3 ai9) (.run [.o 36 (.bin .add cU (.k (.int .i64 1))), .m 24 fm]))
abbrev ajb:AC:= .seq (.run [.m 17 aQ, .m 18 bh, .m 19 bN, .o 20 (.bA cr cD 1), .o 21 (.load cR false 1), .c 22 tp [cy,cM], .o 23 (.len c9), .o 24 (.mv (.k (.int .i64 0)))]) (.block 2 (.loop (.seq (.run [.o 25 (.bin .lss cU da)]) aja)))
abbrev ajc:AC:= .seq (.seq (.run [.m 11 bN, .m 12 bh, .o 13 (.len bZ), .o 14 (.bin .lss bG bT)]) (.cond bI .skip (.exit 0))) (.seq (.block 1 ajb) (.run [.m 15 bN, .o 16 (.bin .add b9 (.k (.int .i64 1))), .m 6 bX]))
abbrev ZW:AC:= .seq (.run [.m 39 bh, .m 4 fM]) .ret
abbrev ajd:AC:= .seq (.seq (.run [.o 6 (.mv (.k (.int .i64 0)))]) (.block 0 (.loop ajc))) (.seq (.run [.m 37 bh, .c 38 jk [fy]]) ZW)
abbrev aje:AC:= .seq (.run [.o 4 (.mv (.k (.slice .full 0 [])))]) (.seq (.run [.m 9 aY, .o 10 (.cG [(.str [])] 1 1 [(0,b8)]), .m 5 bS]) ajd)
abbrev ajf:AC:= .seq (.run [.o 3 (.box aY), .o 4 (.mv (.k (.int .i64 0)))]) (.seq (.run [.m 5 aQ, .o 6 (.dv bh), .o 7 (.aq bN 0), .o 8 (.aq br 1), .o 9 (.load bP false 1), .o 10 (.tP 167 [bF]), .c 11 gd [b8,bS], .m 4 bG]) .ret)
abbrev ajg:AC:= .seq (.run [.o 2 (.mv (.k (.bool false)))]) (.seq (.run [.m 3 aQ, .o 4 (.bin .geq bF (.k (.int .u8 48))), .m 5 cu, .g 6 5 true (.mv aQ), .g 7 5 true (.bin .leq bN (.k (.int .u8 57))), .o 8 (.pick bh br (.k (.bool false))), .m 2 bP]) .ret)
abbrev ajh:AC:= .seq (.run [.o 20 (.bin .eql bI (.k (.str [38,38]))), .m 15 cR]) (.cond b9 .skip (.run [.o 21 (.bin .eql bI (.k (.str [124,124]))), .m 15 cM]))
abbrev aji:AC:= .cond b9 .skip (.seq (.run [.o 19 (.bin .eql bI (.k (.str [62,61]))), .m 15 cD]) (.cond b9 .skip ajh))
abbrev ajj:AC:= .cond b9 .skip (.seq (.run [.o 18 (.bin .eql bI (.k (.str [60,61]))), .m 15 cr]) aji)
abbrev ajk:AC:= .cond b9 .skip (.seq (.run [.o 17 (.bin .eql bI (.k (.str [33,61]))), .m 15 cy]) ajj)
abbrev ajl:AC:= .cond b9 (.seq (.run [.o 4 (.mv (.k (.int .i64 2)))]) .ret) .skip
abbrev ajm:AC:= .seq (.seq (.run [.o 16 (.bin .eql bI (.k (.str [61,61]))), .m 15 bX]) ajk) ajl
abbrev ajn:AC:= .cond b8 (.seq (.run [.m 10 aQ, .m 11 aY, .m 12 aY, .o 13 (.bin .add bZ (.k (.int .i64 2))), .o 14 (.ye bS (some bG) (some bT))]) (.block 0 ajm)) .skip
abbrev ajo:AC:= .seq (.run [.o 40 (.bin .eql cU (.k (.int .u8 47))), .m 25 gj]) (.cond cW .skip (.run [.o 41 (.bin .eql cU (.k (.int .u8 37))), .m 25 ga]))
abbrev ajp:AC:= .cond cW .skip (.seq (.run [.o 39 (.bin .eql cU (.k (.int .u8 42))), .m 25 fM]) (.cond cW .skip ajo))
abbrev ajq:AC:= .cond cW .skip (.seq (.run [.o 38 (.bin .eql cU (.k (.int .u8 45))), .m 25 fR]) ajp)
abbrev ajr:AC:= .cond cW .skip (.seq (.run [.o 37 (.bin .eql cU (.k (.int .u8 43))), .m 25 fy]) ajq)
abbrev ajs:AC:= .cond cW .skip (.seq (.run [.o 36 (.bin .eql cU (.k (.int .u8 62))), .m 25 fm]) ajr)
abbrev ajt:AC:= .cond cW .skip (.seq (.run [.o 35 (.bin .eql cU (.k (.int .u8 60))), .m 25 fh]) ajs)
abbrev aju:AC:= .cond cW .skip (.seq (.run [.o 34 (.bin .eql cU (.k (.int .u8 33))), .m 25 fb]) ajt)
abbrev ajv:AC:= .cond cW .skip (.seq (.run [.o 33 (.bin .eql cU (.k (.int .u8 61))), .m 25 eJ]) aju)
abbrev ajw:AC:= .cond cW .skip (.seq (.run [.o 32 (.bin .eql cU (.k (.int .u8 58))), .m 25 eZ]) ajv)
abbrev ajx:AC:= .cond cW .skip (.seq (.run [.o 31 (.bin .eql cU (.k (.int .u8 59))), .m 25 eo]) ajw)
abbrev ajy:AC:= .cond cW .skip (.seq (.run [.o 30 (.bin .eql cU (.k (.int .u8 44))), .m 25 eY]) ajx)
abbrev ajz:AC:= .cond cW .skip (.seq (.run [.o 29 (.bin .eql cU (.k (.int .u8 125))), .m 25 ek]) ajy)
abbrev ajA:AC:= .cond cW .skip (.seq (.run [.o 28 (.bin .eql cU (.k (.int .u8 123))), .m 25 dY]) ajz)
abbrev ajB:AC:= .cond cW .skip (.seq (.run [.o 27 (.bin .eql cU (.k (.int .u8 41))), .m 25 dH]) ajA)
abbrev ajC:AC:= .cond cW (.seq (.run [.o 4 (.mv (.k (.int .i64 1)))]) .ret) .skip
abbrev ajD:AC:= .seq (.seq (.run [.o 26 (.bin .eql cU (.k (.int .u8 40))), .m 25 dP]) ajB) ajC
abbrev ajE:AC:= .seq (.seq (.run [.m 22 aQ, .m 23 aY, .o 24 (.oK c9 da)]) (.block 1 ajD)) (.seq (.run [.o 4 (.mv (.k (.int .i64 0)))]) .ret)
abbrev ajF:AC:= .seq (.seq (.run [.m 5 aY, .o 6 (.bin .add bh (.k (.int .i64 1))), .m 7 aQ, .o 8 (.lB br), .o 9 (.bin .lss bN bP)]) ajn) ajE
abbrev ajG:AC:= .seq (.run [.o 4 (.mv (.k (.int .i64 0)))]) ajF
abbrev ajH:AC:= .cond c9 (.seq (.run [.o 2 (.mv (.k (.int .i64 0))), .o 3 (.mv (.k (.bool false)))]) .ret) .skip
abbrev ajI:AC:= .seq (.seq (.run [.m 18 cu, .m 19 bN, .o 20 (.bin .sub (.k (.int .i64 9223372036854775807)) cD), .o 21 (.bin .quo cR (.k (.int .i64 10))), .o 22 (.bin .gtr cr cM)]) ajH) (.run [.m 23 cu, .o 24 (.bin .mul da (.k (.int .i64 10))), .m 25 bN, .o 26 (.bin .add cU cW), .m 4 dP])
abbrev ajJ:AC:= .block 1 (.seq (.run [.m 13 aQ, .m 14 bh, .o 15 (.oK bT bI), .o 16 (.bin .sub b9 (.k (.int .u8 48))), .o 17 (.conv .i64 bX), .m 6 cy]) ajI)
abbrev ajK:AC:= .seq (.seq (.run [.m 7 bh, .m 8 aQ, .o 9 (.lB bP), .o 10 (.bin .lss br b8)]) (.cond bS .skip (.exit 0))) (.seq ajJ (.run [.m 11 bh, .o 12 (.bin .add bG (.k (.int .i64 1))), .m 5 bZ]))
abbrev ajL:AC:= .seq (.seq (.run [.o 5 (.mv (.k (.int .i64 0)))]) (.block 0 (.loop ajK))) (.seq (.run [.m 27 cu, .m 2 dH, .o 3 (.mv (.k (.bool true)))]) .ret)
abbrev ajM:AC:= .seq (.run [.o 2 (.mv (.k (.int .i64 0))), .o 3 (.mv (.k (.bool false)))]) (.seq (.run [.o 4 (.mv (.k (.int .i64 0)))]) ajL)
abbrev ajN:AC:= .cond bT (.seq (.run [.o 4 (.mv (.k (.bool false)))]) .ret) .skip
abbrev ajO:AC:= .seq (.run [.m 14 aQ, .o 15 (.dv bI), .o 16 (.aq b9 1), .o 17 (.load bX false 1), .o 18 (.bin .add cy (.k (.int .i64 1))), .o 19 (.dv bI), .o 20 (.aq cD 1), .op none none (.store cR cr 1)]) (.seq (.run [.o 4 (.mv (.k (.bool true)))]) .ret)
abbrev ajP:AC:= .seq (.seq (.run [.m 5 aQ, .c 6 cT [bh], .o 7 (.un .not bN), .m 8 br, .g 9 8 false (.mv aQ), .g 10 8 false (.mv aY), .d 11 8 false fK [b8,bS], .g 12 8 false (.un .not bG), .o 13 (.pick bP (.k (.bool true)) bZ)]) ajN) ajO
abbrev ajQ:AC:= .seq (.run [.o 4 (.mv (.k (.bool false)))]) ajP
abbrev ajR:AC:= .cond cR (.seq (.run [.m 21 aQ,(.c 22 df [cM,(.k (.str [59]))])]) (.seq (.run [.m 23 aY, .m 6 da]) .ret)) .skip
abbrev ajS:AC:= .seq (.run [.m 9 aY, .m 10 aQ, .m 11 aY, .o 12 (.len bG), .m 13 cQ, .o 14 (.bin .lss bZ bT), .c 15 eW [bS,bI], .o 16 (.cG [(.str [])] 1 1 [(0,b9)]), .o 17 (.app 1 16 b8 bX), .m 1 cy]) (.seq (.run [.m 18 aQ,(.c 19 dE [cr,(.k (.str [44]))]), .o 20 (.un .not cD)]) ajR)
abbrev ajT:AC:= .block 0 (.loop (.seq (.seq (.run [.m 7 aQ, .c 8 cT [br]]) (.cond bP .skip (.exit 0))) (.block 1 ajS)))
abbrev ajU:AC:= .seq (.run [.o 6 (.mv (.k (.slice .full 0 [])))]) (.seq ajT (.seq (.run [.m 24 aY, .m 6 cU]) .ret))
abbrev ajV:AC:= .seq (.run [.o 2 (.mv (.k (.bool false)))]) (.seq (.run [.m 3 aQ, .o 4 (.dv bF), .o 5 (.aq cu 2), .o 6 (.aq bh 0), .o 7 (.load bN false 1), .o 8 (.bin .eql br (.k (.int .i64 0))), .m 2 bP]) .ret)
abbrev ajW:AC:= .seq (.run [.m 6 aQ, .c 7 dF [bN], .o 5 (.alloc [(.int .i64 0),(.str []),(.int .i64 0),(.int .i64 0)]), .op none none (.store bh br 4)]) (.seq (.run [.o 8 (.aq bh 0), .o 9 (.load bP false 1), .o 10 (.bin .eql b8 (.k (.int .i64 3))), .m 11 bS, .g 12 11 false (.aq bh 0), .g 13 11 false (.load bZ false 1), .g 14 11 false (.bin .eql bT (.k (.int .i64 4))), .o 15 (.pick bG (.k (.bool true)) bI), .m 16 b9, .g 17 16 true (.aq bh 1), .g 18 16 true (.load cy false 1), .g 19 16 true (.mv aY), .g 20 16 true (.bin .eql cr cD), .o 21 (.pick bX cR (.k (.bool false))), .m 4 cM]) .ret)
abbrev ajX:AC:= .seq (.run [.o 4 (.mv (.k (.bool false)))]) ajW
abbrev ajY:AC:= .seq (.run [.m 4 aQ, .c 5 cT [cu]]) (.cond bh (.run [.m 6 aQ, .m 7 aY, .m 8 aQ, .c 9 dF [bP], .o 10 (.rz b8 3 false 1), .o 11 (.build [(.int .i64 0),(.int .i64 0)] [(0,(1,br)),(1,(1,bS))]), .o 12 (.dv bN), .o 13 (.aq bZ 2), .op none none (.store bT bG 2)]) .skip)
abbrev ajZ:AC:= .par [.o 21 (.aq bF 1), .o 22 (.load cM false 1), .m 23 aQ, .o 24 (.aq bF 1), .o 25 (.load cU false 1), .o 26 (.len cW), .o 27 (.bin .lss dP (.k (.int .i64 8))), .c 28 eW [da,dH], .m 29 cu, .o 30 (.build [(.str []),(.bool false)] [(0,(1,dY)),(1,(1,ek))]), .o 31 (.cG [(.str []),(.bool false)] 2 1 [(0,eY)]), .o 32 (.app 2 24 c9 eo), .o 33 (.aq bF 1), .op none none (.store eJ eZ 1)] [(2,0),(3,0),(4,0),(5,0),(6,0),(7,0),(0,0),(1,1),(8,0),(9,0),(10,0),(11,0),(12,0),(13,0)]
abbrev aj0:AC:= .seq ajZ (.seq (.run [.m 34 aQ,(.c 35 dE [fb,(.k (.str [44]))]), .o 36 (.un .not fh)]) (.cond fm (.exit 0) .skip))
abbrev aj1:AC:= .block 1 (.seq (.run [.m 19 aQ,(.c 20 dE [cD,(.k (.str [114,101,102]))]), .m 4 cR]) aj0)
abbrev aj2:AC:= .block 0 (.loop (.seq (.seq (.run [.m 17 aQ, .c 18 cT [cy]]) (.cond cr .skip (.exit 0))) aj1))
abbrev ZX:AC:= .seq (.seq (.run [.m 41 aQ,(.c 42 dE [ga,(.k (.str [118,97,114]))])]) (.cond gO .skip (.exit 2))) (.block 3 (.run [.m 43 aQ, .o 44 (.aq bF 2), .o 45 (.load ic false 1), .c 46 jl [gX,iT,(.k (.int .i64 16))], .o 47 (.aq bF 2), .op none none (.store jc iU 1)]))
abbrev ZY:AC:= .seq (.run [.m 49 aQ, .c 50 gD [iJ,(.k (.int .i64 1)),(.k (.bool true))], .m 48 jn, .o 51 (.ext iw 0), .o 52 (.ext iw 1), .o 53 (.aq bF 3), .op none none (.store jD jd 1), .o 54 (.aq bF 4), .op none none (.store jS jC 1)]) (.seq (.run [.o 55 (.load bF true 5), .op none none (.store cQ jT 5)]) .ret)
abbrev aj3:AC:= .seq (.run [.m 37 aQ,(.c 38 df [fy,(.k (.str [41]))])]) (.seq (.run [.m 39 aQ,(.c 40 df [fM,(.k (.str [123]))])]) (.seq (.block 2 (.loop ZX)) ZY))
abbrev aj4:AC:= .seq (.seq (.run [.m 10 aQ, .c 11 cT [bS], .m 12 bG, .g 13 12 true (.mv aQ),(.d 14 12 true fK [bT,(.k (.str [41]))]), .g 15 12 true (.un .not bI), .o 16 (.pick bZ b9 (.k (.bool false)))]) (.cond bX aj2 .skip)) aj3
abbrev aj5:AC:= .seq (.run [.m 5 aQ, .c 6 eW [bh,(.k (.bool true))], .o 7 (.build [(.str []),(.slice .full 0 []),(.slice .full 0 []),(.slice .full 0 []),(.slice .full 0 [])] [(0,(1,bN))]), .o 3 (.alloc [(.str []),(.slice .full 0 []),(.slice .full 0 []),(.slice .full 0 []),(.slice .full 0 [])]), .op none none (.store bF br 5)]) (.seq (.run [.m 8 aQ,(.c 9 df [bP,(.k (.str [40]))])]) aj4)
abbrev aj6:AC:= .seq (.run [.o 2 (.alloc [(.str []),(.slice .full 0 []),(.slice .full 0 []),(.slice .full 0 []),(.slice .full 0 [])])]) aj5
abbrev aj7:AC:= .par [.m 3 aQ, .o 4 (.dv bF), .o 5 (.aq cu 0), .o 6 (.load bh false 1), .m 7 aQ, .o 8 (.dv br), .o 9 (.aq bP 1), .o 10 (.load b8 false 1), .o 11 (.bA bN bS 4), .o 12 (.load bG true 4), .op none none (.store cQ bZ 4)] [(0,0),(1,0),(2,0),(3,0),(4,0),(5,0),(6,0),(7,0),(8,0),(9,0),(10,0)]
abbrev aj8:AC:= .seq (.run [.o 2 (.alloc [(.int .i64 0),(.str []),(.int .i64 0),(.int .i64 0)])]) (.seq aj7 .ret)
abbrev aj9:AC:= .cond cu (.seq (.run [.o 2 (.mv (.k (.slice .full 0 [])))]) .ret) .skip
abbrev aka:AC:= .seq (.run [.o 2 (.mv (.k (.slice .full 0 [])))]) (.seq (.seq (.run [.m 3 aQ, .nil (some 4) none false bF]) aj9) (.seq (.run [.o 5 (.cG [(.str [])] 1 0 []), .m 6 aQ, .o 7 (.app 1 16 bh bN), .m 2 br]) .ret))
abbrev akb:AC:= .cond cu (.seq (.run [.o 2 (.mv (.k (.slice .full 0 [])))]) .ret) .skip
abbrev akc:AC:= .seq (.run [.o 2 (.mv (.k (.slice .full 0 [])))]) (.seq (.seq (.run [.m 3 aQ, .nil (some 4) none false bF]) akb) (.seq (.run [.o 5 (.cG [(.str []),(.bool false)] 2 0 []), .m 6 aQ, .o 7 (.app 2 24 bh bN), .m 2 br]) .ret))
abbrev akd:AC:= .par [.o 26 (.aq bS 2), .o 27 (.load dP false 1), .c 28 gR [dH], .o 29 (.aq bS 5), .o 30 (.load ek true 4), .c 31 me [eY], .o 32 (.aq bG 2), .op none none (.store eZ dY 1), .o 33 (.aq bG 5), .op none none (.store eJ eo 4), .o 34 (.aq bG 10), .op none none (.store fb (.k (.slice .full 0 [])) 1)] [(0,0),(1,0),(2,0),(3,0),(4,1),(5,0),(6,0),(7,0),(8,0),(9,0),(10,0),(11,0)]
abbrev ake:AC:= .block 3 (.seq (.run [.o 40 (.bA fm fR 6), .o 41 (.load gj true 6), .o 13 (.alloc [(.bool false),(.str []),(.int .i64 0),(.int .i64 0),(.str []),(.slice .full 0 [])]), .op none none (.store bT ga 6)]) (.seq (.run [.o 42 (.aq bT 2), .o 43 (.load gO true 4), .c 44 me [gX], .o 45 (.aq bT 2), .op none none (.store iT ic 4)]) (.run [.o 46 (.aq bG 10), .o 47 (.load iU false 1), .o 48 (.load bT true 6), .o 49 (.cG [(.bool false),(.str []),(.int .i64 0),(.int .i64 0),(.str []),(.slice .full 0 [])] 6 1 [(0,iw)]), .o 50 (.app 6 80 jc iJ), .o 51 (.aq bG 10), .op none none (.store jd jn 1)])))
abbrev akf:AC:= .seq (.cond fM .skip (.exit 2)) (.seq ake (.run [.o 52 (.bin .add fR (.k (.int .i64 1))), .m 38 jC]))
abbrev akg:AC:= .seq (.run [.o 35 (.aq bS 10), .o 36 (.load fh false 1), .o 37 (.len fm), .o 38 (.mv (.k (.int .i64 0)))]) (.block 2 (.loop (.seq (.run [.o 39 (.bin .lss fR fy)]) akf)))
abbrev akh:AC:= .seq akg (.seq (.run [.o 54 (.aq bS 11), .o 55 (.load jS false 1), .m 56 aY, .m 57 cQ, .c 58 kA [jT,lb,kL], .m 53 ld, .o 59 (.ext jD 0), .o 60 (.ext jD 1), .o 61 (.aq bG 11), .op none none (.store oi km 1), .m 1 nH]) (.seq (.run [.o 63 (.aq bS 12), .o 64 (.load nI false 1), .m 65 aY, .m 66 cQ, .c 67 kA [pM,rP,tr], .m 62 rQ, .o 68 (.ext o3 0), .o 69 (.ext o3 1), .o 70 (.aq bG 12), .op none none (.store tt rR 1), .m 1 vg]) (.run [.m 71 bP, .o 72 (.load bG true 13), .o 73 (.cG [(.int .i64 0),(.int .i64 0),(.slice .full 0 []),(.str []),(.str []),(.int .i64 0),(.int .i64 0),(.str []),(.slice .full 0 []),(.bool false),(.slice .full 0 []),(.slice .full 0 []),(.slice .full 0 [])] 13 1 [(0,w7)]), .o 74 (.app 13 208 yy yz), .m 8 w8])))
abbrev aki:AC:= .seq (.run [.o 22 (.load bS true 13), .o 11 (.alloc [(.int .i64 0),(.int .i64 0),(.slice .full 0 []),(.str []),(.str []),(.int .i64 0),(.int .i64 0),(.str []),(.slice .full 0 []),(.bool false),(.slice .full 0 []),(.slice .full 0 []),(.slice .full 0 [])]), .op none none (.store bG c9 13)]) (.seq (.seq (.run [.m 23 cQ]) (.cond da (.run [.m 24 aY, .o 25 (.aq bG 0), .op none none (.store cW cU 1)]) .skip)) (.seq akd akh))
abbrev akj:AC:= .seq (.run [.o 18 (.bA bI bX 13), .o 19 (.load cr true 13), .o 10 (.alloc [(.int .i64 0),(.int .i64 0),(.slice .full 0 []),(.str []),(.str []),(.int .i64 0),(.int .i64 0),(.str []),(.slice .full 0 []),(.bool false),(.slice .full 0 []),(.slice .full 0 []),(.slice .full 0 [])]), .op none none (.store bS cD 13)]) (.seq (.run [.m 20 aY, .o 21 (.bin .add cR (.k (.int .i64 1))), .m 1 cM]) aki)
abbrev akk:AC:= .seq (.cond cy .skip (.exit 0)) (.seq (.block 1 akj) (.run [.o 75 (.bin .add bX (.k (.int .i64 1))), .m 16 yA]))
abbrev akl:AC:= .seq (.run [.m 14 aQ, .o 15 (.len bI), .o 16 (.mv (.k (.int .i64 0)))]) (.block 0 (.loop (.seq (.run [.o 17 (.bin .lss bX b9)]) akk)))
abbrev akm:AC:= .seq (.run [.o 6 (.mv (.k (.slice .full 0 []))), .o 7 (.mv (.k (.int .i64 0)))]) (.seq (.run [.o 8 (.mv (.k (.slice .full 0 [])))]) (.seq akl (.seq (.run [.m 76 bP, .m 77 aY, .m 6 tu, .m 7 yB]) .ret)))
abbrev akn:AC:= .run [.m 23 cu, .m 24 aQ, .m 25 bG, .o 26 (.bA cU cW 13), .o 27 (.load dP true 13), .m 28 aY, .m 29 cQ, .m 30 bF, .o 31 (.build [(.int .i64 0),(.int .i64 0),(.slice .full 0 []),(.str []),(.str []),(.int .i64 0),(.int .i64 0),(.str []),(.slice .full 0 []),(.bool false),(.slice .full 0 []),(.slice .full 0 []),(.slice .full 0 []),(.int .i64 0),(.int .i64 0),(.bool false)] [(0,(13,dH)),(13,(1,dY)),(14,(1,ek)),(15,(1,eY))]), .o 32 (.cG [(.int .i64 0),(.int .i64 0),(.slice .full 0 []),(.str []),(.str []),(.int .i64 0),(.int .i64 0),(.str []),(.slice .full 0 []),(.bool false),(.slice .full 0 []),(.slice .full 0 []),(.slice .full 0 []),(.int .i64 0),(.int .i64 0),(.bool false)] 16 1 [(0,eo)]), .o 33 (.app 16 232 da eZ), .m 4 eJ]
abbrev ako:AC:= .par [.m 36 aQ, .m 37 bG, .o 38 (.bA fm fy 13), .o 39 (.aq fR 11), .o 40 (.load fM false 1), .m 41 aY, .o 42 (.bin .add ga (.k (.int .i64 1))), .m 43 aQ, .m 44 bG, .o 45 (.bA gX ic 13), .o 46 (.aq iT 0), .o 47 (.load iU false 1), .m 48 cu, .c 49 mb [gj,gO,jc,(.k (.bool false)),iw], .m 4 iJ] [(0,0),(1,0),(2,0),(3,0),(4,0),(5,0),(6,0),(7,0),(8,0),(9,0),(10,0),(11,0),(12,0),(13,0),(14,0)]
abbrev akp:AC:= .par [.m 50 aQ, .m 51 bG, .o 52 (.bA jn jd 13), .o 53 (.aq jC 12), .o 54 (.load jD false 1), .m 55 aY, .o 56 (.bin .add jT (.k (.int .i64 1))), .m 57 aQ, .m 58 bG, .o 59 (.bA kL ld 13), .o 60 (.aq km 0), .o 61 (.load nH false 1), .m 62 cu, .c 63 mb [jS,lb,oi,(.k (.bool true)),o3], .m 4 nI] [(0,0),(1,0),(2,0),(3,0),(4,0),(5,0),(6,0),(7,0),(8,0),(9,0),(10,0),(11,0),(12,0),(13,0),(14,0)]
abbrev akq:AC:= .seq akn (.seq (.run [.m 34 aY, .o 35 (.bin .leq fb (.k (.int .i64 12)))]) (.cond fh (.seq ako akp) .skip))
abbrev akr:AC:= .seq (.seq (.run [.m 12 bG, .m 13 aQ, .o 14 (.len bT), .o 15 (.bin .lss bZ bI), .m 16 b9, .g 17 16 true (.mv cu), .g 18 16 true (.len cy), .g 19 16 true (.bin .leq cr (.k (.int .i64 200))), .o 20 (.pick bX cD (.k (.bool false)))]) (.cond cR .skip (.exit 0))) (.seq (.block 1 akq) (.run [.m 21 bG, .o 22 (.bin .add cM (.k (.int .i64 1))), .m 11 c9]))
abbrev aks:AC:= .seq (.seq (.run [.o 11 (.mv (.k (.int .i64 0)))]) (.block 0 (.loop akr))) (.seq (.run [.m 64 cu, .m 10 pM]) .ret)
abbrev akt:AC:= .seq (.run [.o 10 (.mv (.k (.slice .full 0 [])))]) aks
abbrev aku:AC:= .cond bh (.seq (.run [.o 2 (.mv (.k (.slice .full 0 [])))]) .ret) .skip
abbrev akv:AC:= .seq (.seq (.run [.o 3 (.load aY true 4), .c 4 mT [bF], .o 5 (.un .not cu)]) aku) (.seq (.run [.o 6 (.load aY true 4),(.c 7 j8 [bN,(.k (.slice .full 0 []))]), .m 2 br]) .ret)
abbrev akw:AC:= .seq (.run [.o 1 (.box aQ), .o 2 (.mv (.k (.slice .full 0 [])))]) akv
abbrev akx:AC:= .cond bT (.seq (.run [.o 2 (.mv (.k (.bool false)))]) .ret) .skip
abbrev aky:AC:= .seq (.block 1 (.seq (.run [.o 9 (.bA bh br 1), .o 10 (.load b8 false 1), .m 4 bS]) (.seq (.run [.m 11 cu, .c 12 jf [bG], .o 13 (.un .not bZ)]) akx))) (.run [.o 14 (.bin .add br (.k (.int .i64 1))), .m 7 bI])
abbrev akz:AC:= .block 0 (.loop (.seq (.run [.o 8 (.bin .lss br bN)]) (.seq (.cond bP .skip (.exit 0)) aky)))
abbrev akA:AC:= .seq (.seq (.run [.m 5 aQ, .o 6 (.len bh), .o 7 (.mv (.k (.int .i64 0)))]) akz) (.seq (.run [.o 2 (.mv (.k (.bool true)))]) .ret)
abbrev akB:AC:= .seq (.run [.o 2 (.mv (.k (.bool false)))]) akA
abbrev akC:AC:= .cond bX (.seq (.run [.o 2 (.mv (.k (.bool false)))]) .ret) .skip
abbrev akD:AC:= .cond fb (.seq (.run [.o 2 (.mv (.k (.bool false)))]) .ret) .skip
abbrev akE:AC:= .block 1 (.seq (.run [.m 23 aQ, .m 24 bF, .o 25 (.oK da cU), .c 26 qY [cW], .o 27 (.un .not dP), .m 28 dH, .g 29 28 true (.mv aQ), .g 30 28 true (.mv bF), .g 31 28 true (.oK ek eY), .d 32 28 true vb [eo], .g 33 28 true (.un .not eZ), .o 34 (.pick dY eJ (.k (.bool false)))]) akD)
abbrev akF:AC:= .seq (.seq (.run [.m 17 bF, .m 18 aQ, .o 19 (.lB cr), .o 20 (.bin .lss cy cD)]) (.cond cR .skip (.exit 0))) (.seq akE (.run [.m 21 bF, .o 22 (.bin .add cM (.k (.int .i64 1))), .m 3 c9]))
abbrev akG:AC:= .seq (.seq (.run [.o 3 (.mv (.k (.int .i64 1)))]) (.block 0 (.loop akF))) (.seq (.run [.m 35 aQ, .c 36 wX [fh], .o 37 (.un .not fm), .m 2 fy]) .ret)
abbrev akH:AC:= .seq (.seq (.run [.m 4 aQ, .o 5 (.bin .eql cu (.k (.str []))), .m 6 bh, .g 7 6 false (.mv aQ), .g 8 6 false (.lB br), .g 9 6 false (.bin .gtr bP (.k (.int .i64 8))), .o 10 (.pick bN (.k (.bool true)) b8), .m 11 bS, .g 12 11 false (.mv aQ), .g 13 11 false (.oK bZ (.k (.int .i64 0))), .d 14 11 false qY [bT], .g 15 11 false (.un .not bI), .o 16 (.pick bG (.k (.bool true)) b9)]) akC) akG
abbrev akI:AC:= .seq (.run [.o 2 (.mv (.k (.bool false)))]) akH
abbrev akJ:AC:= .run [.o 8 (.aq aY 1), .o 9 (.load bP false 1), .o 10 (.bin .eql b8 (.k (.int .i64 1))), .m 11 bS, .g 12 11 false (.aq aY 1), .g 13 11 false (.load bZ false 1), .g 14 11 false (.bin .eql bT (.k (.int .i64 3))), .o 15 (.pick bG (.k (.bool true)) bI), .m 16 b9, .g 17 16 false (.aq aY 1), .g 18 16 false (.load cy false 1), .g 19 16 false (.bin .eql cr (.k (.int .i64 5))), .o 20 (.pick bX (.k (.bool true)) cD), .m 21 cR, .g 22 21 false (.aq aY 1), .g 23 21 false (.load c9 false 1), .g 24 21 false (.bin .eql da (.k (.int .i64 6))), .o 25 (.pick cM (.k (.bool true)) cU), .m 26 cW, .g 27 26 false (.aq aY 1), .g 28 26 false (.load dH false 1), .g 29 26 false (.bin .eql dY (.k (.int .i64 9))), .g 30 26 false (.mv ek), .g 31 30 true (.aq aY 9), .g 32 30 true (.load eo false 1), .g 33 26 false (.pick eY eZ (.k (.bool false))), .o 34 (.pick dP (.k (.bool true)) eJ), .m 3 fb]
abbrev akK:AC:= .run [.o 51 (.aq aY 1), .o 52 (.load jd false 1), .o 53 (.bin .lss jC (.k (.int .i64 1))), .m 54 jD, .g 55 54 false (.aq aY 1), .g 56 54 false (.load jT false 1), .g 57 54 false (.bin .gtr lb (.k (.int .i64 10))), .o 58 (.pick jS (.k (.bool true)) kL), .m 59 ld, .g 60 59 false (.aq aY 2), .g 61 59 false (.load nH false 1), .d 62 59 false mS [oi], .g 63 59 false (.un .not o3), .o 64 (.pick km (.k (.bool true)) nI), .m 65 pM, .g 66 65 false (.mv bF), .g 67 65 false (.mv tr), .g 68 67 true (.aq aY 5), .g 69 67 true (.load rR true 4), .d 70 67 true mT [vg], .g 71 67 true (.un .not tt), .g 72 65 false (.pick rQ yy (.k (.bool false))), .o 73 (.pick rP (.k (.bool true)) w7), .m 74 yz, .g 75 74 false (.mv bF), .g 76 74 false (.un .not yA), .g 77 74 false (.mv tu), .g 78 77 true (.aq aY 5), .g 79 77 true (.load w9 true 4), .d 80 77 true sq [Cn], .g 81 77 true (.un .not yC), .g 82 74 false (.pick yB Co (.k (.bool false))), .o 83 (.pick w8 (.k (.bool true)) Ao), .m 84 Cp, .g 85 84 false (.aq aY 9), .g 86 84 false (.load Ev false 1), .g 87 84 false (.mv Ew), .g 88 87 true (.aq aY 1), .g 89 87 true (.load Ez false 1), .g 90 87 true (.bin .neq EA (.k (.int .i64 9))), .g 91 84 false (.pick Ey EB (.k (.bool false))), .o 92 (.pick Ap (.k (.bool true)) EC)]
abbrev akL:AC:= .cond ED (.seq (.run [.o 2 (.mv (.k (.bool false)))]) .ret) .skip
abbrev akM:AC:= .run [.m 93 cu, .m 94 IE, .g 95 94 true (.aq aY 3), .g 96 94 true (.load IG false 1), .d 97 94 true jf [Nn], .g 98 94 true (.un .not No), .o 99 (.pick IF Np (.k (.bool false))), .m 100 Nq, .g 101 100 false (.mv cu), .g 102 100 false (.un .not Hi), .g 103 100 false (.mv Hj), .g 104 103 true (.aq aY 3), .g 105 103 true (.load Hl false 1), .g 106 103 true (.bin .neq Hm (.k (.str []))), .g 107 100 false (.pick Hk Hn (.k (.bool false))), .g 108 100 false (.mv Ho), .g 109 108 true (.mv bh), .g 110 108 true (.mv Hq), .g 111 110 true (.aq aY 3), .g 112 110 true (.load Ns false 1), .d 113 110 true jf [Nt], .g 114 108 true (.pick Nr Nu (.k (.bool false))), .g 115 108 true (.un .not Nv), .g 116 100 false (.pick Hp Nw (.k (.bool false))), .o 117 (.pick Hh (.k (.bool true)) Nx)]
abbrev akN:AC:= .cond Ny (.seq (.run [.o 2 (.mv (.k (.bool false)))]) .ret) .skip
abbrev akO:AC:= .run [.m 118 bh, .o 119 (.aq aY 4), .o 120 (.load NA false 1), .o 121 (.bin .neq NB (.k (.str []))), .o 122 (.ze true Nz NC), .m 123 ND, .g 124 123 false (.mv bh), .g 125 123 false (.mv VN), .g 126 125 true (.aq aY 4), .g 127 125 true (.load VP false 1), .d 128 125 true jf [VQ], .g 129 125 true (.un .not VR), .g 130 123 false (.pick VO VS (.k (.bool false))), .o 131 (.pick VM (.k (.bool true)) VT), .m 132 VU, .g 133 132 false (.mv bh), .g 134 132 false (.un .not VV), .g 135 132 false (.mv VW), .g 136 135 true (.aq aY 10), .g 137 135 true (.load VY false 1), .g 138 135 true (.len VZ), .g 139 135 true (.bin .gtr V0 (.k (.int .i64 0))), .g 140 132 false (.pick VX V1 (.k (.bool false))), .o 141 (.pick NF (.k (.bool true)) V2)]
abbrev akP:AC:= .cond V3 (.seq (.run [.o 2 (.mv (.k (.bool false)))]) .ret) .skip
abbrev akQ:AC:= .cond Wb (.seq (.run [.o 2 (.mv (.k (.bool false)))]) .ret) .skip
abbrev akR:AC:= .seq (.block 1 (.seq (.run [.o 147 (.bA NG Hr 6), .o 148 (.load V7 true 6), .o 7 (.alloc [(.bool false),(.str []),(.int .i64 0),(.int .i64 0),(.str []),(.slice .full 0 [])]), .op none none (.store br V8 6)]) (.seq (.run [.o 149 (.load br true 6), .c 150 yx [V9], .o 151 (.un .not Wa)]) akQ))) (.run [.o 152 (.bin .add Hr (.k (.int .i64 1))), .m 145 adn])
abbrev akS:AC:= .block 0 (.loop (.seq (.run [.o 146 (.bin .lss Hr V5)]) (.seq (.cond V6 .skip (.exit 0)) akR)))
abbrev akT:AC:= .run [.o 153 (.aq aY 11), .o 154 (.load ado false 1), .o 155 (.len adp), .o 156 (.bin .eql adq (.k (.int .i64 0))), .m 157 adr, .g 158 157 false (.aq aY 1), .g 159 157 false (.load adt false 1), .g 160 157 false (.bin .eql adu (.k (.int .i64 5))), .o 161 (.pick ads (.k (.bool true)) adv), .m 162 adw, .g 163 162 false (.aq aY 1), .g 164 162 false (.load ady false 1), .g 165 162 false (.bin .eql adz (.k (.int .i64 6))), .o 166 (.pick adx (.k (.bool true)) adA), .m 167 adB, .g 168 167 true (.aq aY 12), .g 169 167 true (.load adD false 1), .g 170 167 true (.len adE), .g 171 167 true (.bin .eql adF (.k (.int .i64 0))), .g 172 167 true (.mv adG), .g 173 172 false (.aq aY 1), .g 174 172 false (.load adI false 1), .g 175 172 false (.bin .eql adJ (.k (.int .i64 5))), .g 176 167 true (.pick adH (.k (.bool true)) adK), .o 177 (.pick adC adL (.k (.bool false))), .m 2 adM]
abbrev ZZ:AC:= .seq (.seq (.run [.o 142 (.aq aY 10), .o 143 (.load V4 false 1), .o 144 (.len NG), .o 145 (.mv (.k (.int .i64 0)))]) akS) (.seq akT .ret)
abbrev Z0:AC:= .seq (.seq akO akP) ZZ
abbrev Z1:AC:= .seq (.seq akM akN) Z0
abbrev Z2:AC:= .seq (.seq akK akL) Z1
abbrev Z3:AC:= .seq (.run [.o 48 (.aq aY 1), .o 49 (.load iw false 1), .o 50 (.bin .eql iJ (.k (.int .i64 4))), .m 5 jn]) Z2
abbrev Z4:AC:= .seq (.run [.o 35 (.aq aY 1), .o 36 (.load fh false 1), .o 37 (.bin .eql fm (.k (.int .i64 1))), .m 38 fy, .g 39 38 false (.aq aY 1), .g 40 38 false (.load fM false 1), .g 41 38 false (.bin .eql gj (.k (.int .i64 2))), .o 42 (.pick fR (.k (.bool true)) ga), .m 43 gO, .g 44 43 false (.aq aY 1), .g 45 43 false (.load ic false 1), .g 46 43 false (.bin .eql iT (.k (.int .i64 10))), .o 47 (.pick gX (.k (.bool true)) iU), .m 4 jc]) Z3
abbrev Z5:AC:= .seq akJ Z4
abbrev akU:AC:= .seq (.run [.o 1 (.box aQ), .o 2 (.mv (.k (.bool false)))]) Z5
abbrev akV:AC:= .seq (.run [.o 41 (.bA fy fM 1), .o 42 (.load ga false 1), .m 13 gO]) (.seq (.run [.o 43 (.aq cQ 0), .o 44 (.load gX false 1), .m 45 bT, .c 46 kg [ic,iT]]) (.cond iU (.run [.m 47 bh, .m 48 bT, .o 49 (.cG [(.str [])] 1 1 [(0,iw)]), .o 50 (.app 1 16 jc iJ), .m 5 jn]) .skip))
abbrev akW:AC:= .seq (.cond gj .skip (.exit 4)) (.seq (.block 5 akV) (.run [.o 51 (.bin .add fM (.k (.int .i64 1))), .m 39 jd]))
abbrev akX:AC:= .seq (.run [.o 35 (.aq bG 0), .o 36 (.load fh true 13), .c 37 sn [fm], .o 38 (.len fy), .o 39 (.mv (.k (.int .i64 0)))]) (.block 4 (.loop (.seq (.run [.o 40 (.bin .lss fM fR)]) akW)))
abbrev akY:AC:= .seq (.block 3 (.seq (.run [.o 33 (.bA ek eo 16), .o 34 (.load eJ true 16), .o 11 (.alloc [(.int .i64 0),(.int .i64 0),(.slice .full 0 []),(.str []),(.str []),(.int .i64 0),(.int .i64 0),(.str []),(.slice .full 0 []),(.bool false),(.slice .full 0 []),(.slice .full 0 []),(.slice .full 0 []),(.int .i64 0),(.int .i64 0),(.bool false)]), .op none none (.store bG fb 16)]) akX)) (.run [.o 52 (.bin .add eo (.k (.int .i64 1))), .m 31 jC])
abbrev akZ:AC:= .block 2 (.loop (.seq (.run [.o 32 (.bin .lss eo eY)]) (.seq (.cond eZ .skip (.exit 2)) akY)))
abbrev ak0:AC:= .seq (.run [.o 23 (.load cQ true 2), .m 24 br, .c 25 k9 [da,cU], .m 22 cW, .o 26 (.ext c9 0), .o 27 (.ext c9 1), .o 8 (.alloc [(.str []),(.slice .full 0 []),(.slice .full 0 []),(.slice .full 0 []),(.slice .full 0 [])]), .op none none (.store bP dP 5), .m 9 dH]) (.seq (.run [.o 28 (.load bP true 5), .c 29 kR [dY], .o 30 (.len ek), .o 31 (.mv (.k (.int .i64 0)))]) akZ)
abbrev ak1:AC:= .seq (.cond cD .skip (.exit 0)) (.seq (.block 1 (.seq (.run [.o 20 (.bA bX cr 1), .o 21 (.load cR false 1), .m 7 cM]) ak0)) (.run [.o 53 (.bin .add cr (.k (.int .i64 1))), .m 18 jD]))
abbrev ak2:AC:= .seq (.run [.o 14 (.load cQ true 2), .m 15 aY, .c 16 tq [bI,b9], .o 17 (.len bX), .o 18 (.mv (.k (.int .i64 0)))]) (.block 0 (.loop (.seq (.run [.o 19 (.bin .lss cr cy)]) ak1)))
abbrev ak3:AC:= .seq (.run [.o 2 (.box aQ), .o 4 (.mv (.k (.slice .full 0 [])))]) (.seq (.run [.o 5 (.mv (.k (.slice .full 0 [])))]) (.seq ak2 (.seq (.run [.m 54 bh, .c 55 nZ [jS], .m 4 jT]) .ret)))
abbrev ak4:AC:= .seq (.run [.o 4 (.mv (.k (.bool false)))]) (.seq (.run [.m 5 aY, .m 6 bh, .g 7 6 true (.mv aQ), .d 8 6 true nE [br], .o 9 (.pick bN bP (.k (.bool false))), .m 10 b8, .g 11 10 false (.mv aY), .g 12 10 false (.un .not bG), .g 13 10 false (.mv bZ), .g 14 13 true (.mv aQ), .g 15 13 true (.bin .eql bI (.k (.str []))), .g 16 10 false (.pick bT b9 (.k (.bool false))), .o 17 (.pick bS (.k (.bool true)) bX), .m 4 cy]) .ret)
abbrev ak5:AC:= .seq (.run [.o 2 (.box aQ), .o 4 (.mv (.k (.bool false)))]) (.seq (.run [.m 5 aY, .m 6 bh, .g 7 6 true (.load cQ true 4), .d 8 6 true px [br], .o 9 (.pick bN bP (.k (.bool false))), .m 10 b8, .g 11 10 false (.mv aY), .g 12 10 false (.un .not bG), .g 13 10 false (.mv bZ), .g 14 13 true (.load cQ true 4), .d 15 13 true wY [bI], .g 16 10 false (.pick bT b9 (.k (.bool false))), .o 17 (.pick bS (.k (.bool true)) bX), .m 4 cy]) .ret)
abbrev ak6:AC:= .cond cW (.seq (.run [.o 2 (.mv (.k (.bool false)))]) .ret) .skip
abbrev ak7:AC:= .seq (.run [.o 9 (.bA bh br 6), .o 10 (.load b8 true 6), .o 4 (.alloc [(.bool false),(.str []),(.int .i64 0),(.int .i64 0),(.str []),(.slice .full 0 [])]), .op none none (.store cu bS 6)]) (.seq (.run [.o 11 (.aq cu 1), .o 12 (.load bG false 1), .o 13 (.aq cu 0), .o 14 (.load bT false 1), .c 15 oZ [bZ,bI], .o 16 (.un .not b9), .m 17 bX, .g 18 17 false (.aq cu 2), .g 19 17 false (.load cr true 4), .g 20 17 false (.aq cu 0), .g 21 17 false (.load cR false 1), .g 22 17 false (.un .not cM), .d 23 17 false qW [cD,c9], .g 24 17 false (.un .not da), .o 25 (.pick cy (.k (.bool true)) cU)]) ak6)
abbrev ak8:AC:= .seq (.cond bP .skip (.exit 0)) (.seq (.block 1 ak7) (.run [.o 26 (.bin .add br (.k (.int .i64 1))), .m 7 dP]))
abbrev ak9:AC:= .seq (.run [.m 5 aQ, .o 6 (.len bh), .o 7 (.mv (.k (.int .i64 0)))]) (.block 0 (.loop (.seq (.run [.o 8 (.bin .lss br bN)]) ak8)))
abbrev ala:AC:= .seq ak9 (.seq (.run [.o 2 (.mv (.k (.bool true)))]) .ret)
abbrev alb:AC:= .seq (.run [.o 2 (.mv (.k (.bool false)))]) ala
abbrev alc:AC:= .seq (.block 1 (.seq (.run [.o 13 (.bA b8 bG 13), .o 14 (.load bT true 13), .o 5 (.alloc [(.int .i64 0),(.int .i64 0),(.slice .full 0 []),(.str []),(.str []),(.int .i64 0),(.int .i64 0),(.str []),(.slice .full 0 []),(.bool false),(.slice .full 0 []),(.slice .full 0 []),(.slice .full 0 [])]), .op none none (.store bh bI 13)]) (.run [.m 15 bF, .o 16 (.load bh true 13), .c 17 mc [bX], .o 18 (.bin .add b9 cy), .m 3 cr]))) (.run [.o 19 (.bin .add bG (.k (.int .i64 1))), .m 11 cD])
abbrev ald:AC:= .block 0 (.loop (.seq (.run [.o 12 (.bin .lss bG bS)]) (.seq (.cond bZ .skip (.exit 0)) alc)))
abbrev ale:AC:= .seq (.block 3 (.seq (.run [.o 25 (.bA cM da 13), .o 26 (.load cW true 13), .o 7 (.alloc [(.int .i64 0),(.int .i64 0),(.slice .full 0 []),(.str []),(.str []),(.int .i64 0),(.int .i64 0),(.str []),(.slice .full 0 []),(.bool false),(.slice .full 0 []),(.slice .full 0 []),(.slice .full 0 [])]), .op none none (.store br dP 13)]) (.run [.m 27 bF, .o 28 (.load br true 13), .c 29 mc [dY], .o 30 (.bin .add dH ek), .m 3 eY]))) (.run [.o 31 (.bin .add da (.k (.int .i64 1))), .m 23 eo])
abbrev alf:AC:= .block 2 (.loop (.seq (.run [.o 24 (.bin .lss da c9)]) (.seq (.cond cU .skip (.exit 2)) ale)))
abbrev alg:AC:= .seq (.seq (.run [.o 20 (.aq aY 12), .o 21 (.load cR false 1), .o 22 (.len cM), .o 23 (.mv (.k (.int .i64 0)))]) alf) (.seq (.run [.m 32 bF, .m 2 eZ]) .ret)
abbrev alh:AC:= .seq (.seq (.run [.o 8 (.aq aY 11), .o 9 (.load bP false 1), .o 10 (.len b8), .o 11 (.mv (.k (.int .i64 0)))]) ald) alg
abbrev ali:AC:= .seq (.run [.o 1 (.box aQ), .o 2 (.mv (.k (.int .i64 0)))]) (.seq (.run [.o 3 (.mv (.k (.int .i64 1)))]) alh)
abbrev alj:AC:= .cond bh (.seq (.run [.o 2 (.mv (.k (.slice .full 0 [])))]) .ret) .skip
abbrev alk:AC:= .seq (.seq (.run [.o 3 (.load aY true 4), .c 4 px [bF], .o 5 (.un .not cu)]) alj) (.seq (.run [.o 6 (.load aY true 4),(.c 7 iO [bN,(.k (.slice .full 0 []))]), .m 2 br]) .ret)
abbrev alm:AC:= .seq (.run [.o 1 (.box aQ), .o 2 (.mv (.k (.slice .full 0 [])))]) alk
abbrev aln:AC:= .seq (.run [.o 4 (.mv (.k (.bool false)))]) (.seq (.run [.m 5 aQ, .m 6 aY, .c 7 gd [bh,bN], .o 8 (.bin .geq br (.k (.int .i64 0))), .m 4 bP]) .ret)
abbrev alo:AC:= .seq (.run [.o 2 (.box aQ), .o 3 (.mv (.k (.bool false)))]) (.seq (.run [.o 4 (.aq cQ 0), .o 5 (.load cu false 1), .o 6 (.load aY false 1), .o 7 (.bin .eql bh bN), .m 3 br]) .ret)
abbrev alp:AC:= .seq (.run [.o 16 (.bA bZ bI 17), .o 17 (.load bX true 17), .o 7 (.alloc [(.int .i64 0),(.int .i64 0),(.slice .full 0 []),(.str []),(.str []),(.int .i64 0),(.int .i64 0),(.str []),(.slice .full 0 []),(.bool false),(.slice .full 0 []),(.slice .full 0 []),(.slice .full 0 []),(.int .i64 0),(.int .i64 0),(.int .i64 0),(.int .i64 0)]), .op none none (.store br cy 17)]) (.seq (.run [.o 18 (.aq br 0), .o 19 (.aq cr 1), .o 20 (.load cD false 1), .o 21 (.bin .eql cR (.k (.int .i64 4)))]) (.cond cM (.run [.m 22 bh, .o 23 (.aq br 0), .o 24 (.aq da 4), .o 25 (.load cU false 1), .o 26 (.cG [(.str [])] 1 1 [(0,cW)]), .o 27 (.app 1 16 c9 dP), .m 5 dH]) .skip))
abbrev alq:AC:= .seq (.cond b9 .skip (.exit 0)) (.seq (.block 1 alp) (.run [.o 28 (.bin .add bI (.k (.int .i64 1))), .m 14 dY]))
abbrev alr:AC:= .seq (.run [.m 8 aQ, .m 9 aQ, .m 10 aY, .c 11 mH [b8,bS], .c 12 gJ [bP,bG], .o 13 (.len bZ), .o 14 (.mv (.k (.int .i64 0)))]) (.block 0 (.loop (.seq (.run [.o 15 (.bin .lss bI bT)]) alq)))
abbrev als:AC:= .seq (.run [.o 4 (.mv (.k (.slice .full 0 [])))]) (.seq (.run [.o 5 (.mv (.k (.slice .full 0 [])))]) (.seq alr (.seq (.run [.m 29 bh, .c 30 jk [ek]]) (.seq (.run [.m 31 bh, .c 32 jH [eo], .m 4 eZ]) .ret))))
end Go.Abs

/-! Codes4 -/

namespace Go.Abs
abbrev alu:AC:= .block 1 (.seq (.run [.m 10 bP, .m 5 bS]) (.seq (.run [.m 11 aY, .m 12 aQ, .m 13 bh, .o 14 (.bA bZ bT 5), .o 15 (.load bI true 5),(.jg (some 16) none 11 [b9])]) (.cond bX (.seq (.run [.m 17 bh, .m 4 cy]) .ret) .skip)))
abbrev alv:AC:= .seq (.cond b8 .skip (.exit 0)) (.seq alu (.run [.o 18 (.bin .add bP (.k (.int .i64 1))), .m 8 cr]))
abbrev alw:AC:= .seq (.run [.m 6 aQ, .o 7 (.len bN), .o 8 (.mv (.k (.int .i64 0)))]) (.block 0 (.loop (.seq (.run [.o 9 (.bin .lss bP br)]) alv)))
abbrev alx:AC:= .seq (.run [(.o 4 (.mv (.k (.int .i64 (-1)))))]) .ret
abbrev aly:AC:= .seq (.run [.o 4 (.mv (.k (.int .i64 0)))]) (.seq alw alx)
abbrev alz:AC:= .seq (.run [.o 2 (.box aQ), .o 3 (.mv (.k (.bool false)))]) (.seq (.run [.o 4 (.aq cQ 0), .o 5 (.load cu false 1), .o 6 (.load aY false 1), .o 7 (.bin .eql bh bN), .m 3 br]) .ret)
abbrev alA:AC:= .seq (.run [.m 16 aQ, .c 17 fi [bX,(.k (.int .i64 3))]]) (.seq (.run [.o 4 (.mv (.k (.str [])))]) .ret)
abbrev alB:AC:= .seq (.run [.m 20 aQ, .c 21 fi [cR,(.k (.int .i64 4))]]) (.seq (.run [.o 4 (.mv (.k (.str [])))]) .ret)
abbrev alC:AC:= .seq (.seq (.run [.m 18 aY, .o 19 (.un .not cr)]) (.cond cD alB .skip)) (.seq (.run [.m 22 aQ, .o 23 (.dv c9), .o 24 (.aq da 1), .o 25 (.load cU false 1), .o 26 (.bin .add cW (.k (.int .i64 1))), .o 27 (.dv c9), .o 28 (.aq dH 1), .op none none (.store dY dP 1)]) (.seq (.run [.o 29 (.aq bh 1), .o 30 (.load ek false 1), .m 4 eY]) .ret))
abbrev alD:AC:= .seq (.seq (.run [.m 8 aQ, .c 9 cT [bP], .o 10 (.un .not b8), .m 11 bS, .g 12 11 false (.aq bh 0), .g 13 11 false (.load bZ false 1), .g 14 11 false (.bin .neq bT (.k (.int .i64 1))), .o 15 (.pick bG (.k (.bool true)) bI)]) (.cond b9 alA .skip)) alC
abbrev alE:AC:= .seq (.run [.o 4 (.mv (.k (.str [])))]) (.seq (.run [.m 6 aQ, .c 7 dF [bN], .o 5 (.alloc [(.int .i64 0),(.str []),(.int .i64 0),(.int .i64 0)]), .op none none (.store bh br 4)]) alD)
abbrev alG:AC:= .seq (.run [.m 4 aQ, .m 5 aY, .c 6 dE [cu,bh], .o 7 (.un .not bN)]) (.cond br (.run [.m 8 aQ, .c 9 fi [bP,(.k (.int .i64 3))]]) .skip)
abbrev alH:AC:= .cond cU (.seq (.run [.m 25 aQ, .o 26 (.dv cW), .o 27 (.aq dP 1), .o 28 (.load dH false 1), .o 29 (.bin .add dY (.k (.int .i64 1))), .o 30 (.dv cW), .o 31 (.aq eY 1), .op none none (.store eo ek 1)]) (.seq (.run [.m 32 bP, .m 33 b8, .m 6 eZ, .m 7 eJ]) .ret)) .skip
abbrev alI:AC:= .seq (.seq (.run [.m 15 aQ,(.c 16 fK [b9,(.k (.str [125]))]), .m 17 bX, .g 18 17 true (.mv cQ), .g 19 17 true (.mv cr), .g 20 19 false (.mv b8), .g 21 19 false (.len cR), .g 22 19 false (.bin .eql cM (.k (.int .i64 0))), .g 23 17 true (.pick cD (.k (.bool true)) c9), .o 24 (.pick cy da (.k (.bool false)))]) alH) (.seq (.run [.m 34 aQ, .m 35 aY, .c 36 oh [fb,fh], .o 10 (.alloc [(.int .i64 0),(.int .i64 0),(.slice .full 0 []),(.str []),(.str []),(.int .i64 0),(.int .i64 0),(.str []),(.slice .full 0 []),(.bool false),(.slice .full 0 []),(.slice .full 0 []),(.slice .full 0 [])]), .op none none (.store bS fm 13)]) (.seq (.run [.m 37 b8, .o 38 (.aq bS 2), .op none none (.store fR fy 1)]) (.run [.m 39 bP, .o 40 (.load bS true 13), .o 41 (.cG [(.int .i64 0),(.int .i64 0),(.slice .full 0 []),(.str []),(.str []),(.int .i64 0),(.int .i64 0),(.str []),(.slice .full 0 []),(.bool false),(.slice .full 0 []),(.slice .full 0 []),(.slice .full 0 [])] 13 1 [(0,gj)]), .o 42 (.app 13 208 fM ga), .m 8 gO])))
abbrev alJ:AC:= .block 0 (.loop (.seq (.seq (.run [.m 11 aQ, .c 12 cT [bG]]) (.cond bZ .skip (.exit 0))) (.block 1 (.seq (.run [.m 13 aQ, .c 14 mU [bT], .m 9 bI]) alI))))
abbrev alK:AC:= .seq alJ (.seq (.run [.o 6 (.mv (.k (.slice .full 0 []))), .o 7 (.mv (.k (.slice .full 0 [])))]) .ret)
abbrev alL:AC:= .seq (.run [.o 6 (.mv (.k (.slice .full 0 []))), .o 7 (.mv (.k (.slice .full 0 [])))]) (.seq (.run [.o 8 (.mv (.k (.slice .full 0 [])))]) alK)
abbrev alM:AC:= .par [.o 15 (.aq aY 3), .o 16 (.load b9 false 1), .o 17 (.load bh true 4), .c 18 me [cy], .o 19 (.cG [(.int .i64 0),(.int .i64 0),(.str []),(.slice .full 0 [])] 4 1 [(0,cr)]), .o 20 (.app 4 56 bX cD), .o 21 (.aq aY 3), .op none none (.store cM cR 1)] [(2,0),(3,0),(0,0),(1,1),(4,0),(5,0),(6,0),(7,0)]
abbrev alN:AC:= .seq (.block 1 (.seq (.run [.o 13 (.bA b8 bG 4), .o 14 (.load bT true 4), .o 5 (.alloc [(.int .i64 0),(.int .i64 0),(.str []),(.slice .full 0 [])]), .op none none (.store bh bI 4)]) alM)) (.run [.o 22 (.bin .add bG (.k (.int .i64 1))), .m 11 c9])
abbrev alO:AC:= .block 0 (.loop (.seq (.run [.o 12 (.bin .lss bG bS)]) (.seq (.cond bZ .skip (.exit 0)) alN)))
abbrev alP:AC:= .seq (.seq (.run [.m 9 bF, .o 10 (.len b8), .o 11 (.mv (.k (.int .i64 0)))]) alO) (.seq (.run [.o 23 (.load aY true 4), .op none none (.store cQ da 4)]) .ret)
abbrev alQ:AC:= .seq (.run [.o 6 (.aq aY 3), .o 7 (.load bN false 1), .m 3 br]) (.seq (.run [.o 8 (.aq aY 3), .op none none (.store bP (.k (.slice .full 0 [])) 1)]) alP)
abbrev alR:AC:= .seq (.run [.o 1 (.box aQ), .o 2 (.alloc [(.int .i64 0),(.int .i64 0),(.str []),(.slice .full 0 [])])]) alQ
abbrev alS:AC:= .seq (.run [.o 1 (.box aQ), .o 2 (.mv (.k (.bool false)))]) (.seq (.run [.o 3 (.load aY true 4), .c 4 pV [bF,(.k (.int .i64 20))], .o 5 (.bin .leq cu (.k (.int .i64 20))), .m 6 bh, .g 7 6 true (.load aY true 4), .d 8 6 true pW [br], .o 9 (.pick bN bP (.k (.bool false))), .m 2 b8]) .ret)
abbrev alT:AC:= .seq (.cond cy .skip (.exit 0)) (.seq (.block 1 (.seq (.run [.m 18 bX, .m 5 cr]) (.run [.o 19 (.aq cQ 3), .o 20 (.load cD false 1), .m 21 bh, .o 22 (.bA cR cM 4), .o 23 (.load c9 true 4), .m 24 aY, .c 25 j8 [da,cU], .m 1 cW]))) (.run [.o 26 (.bin .add bX (.k (.int .i64 1))), .m 16 dP]))
abbrev alU:AC:= .seq (.run [.o 13 (.aq cQ 3), .o 14 (.load bT false 1), .o 15 (.len bI), .o 16 (.mv (.k (.int .i64 0)))]) (.block 0 (.loop (.seq (.run [.o 17 (.bin .lss bX b9)]) alT)))
abbrev alV:AC:= .seq (.seq (.run [.o 6 (.aq cQ 0), .o 7 (.load bN false 1), .o 8 (.bin .eql br (.k (.int .i64 2)))]) (.cond bP (.run [.m 9 aY, .o 10 (.aq cQ 2), .o 11 (.load bS false 1), .c 12 n3 [b8,bG], .m 1 bZ]) .skip)) (.seq alU (.seq (.run [.m 27 aY, .m 4 dH]) .ret))
abbrev alW:AC:= .seq (.run [.o 2 (.box aQ), .o 4 (.mv (.k (.slice .full 0 [])))]) alV
abbrev alX:AC:= .seq (.run [.o 2 (.mv (.k (.bool false)))]) (.seq (.run [.m 3 aQ, .o 4 (.bin .geq bF (.k (.int .u8 97))), .m 5 cu, .g 6 5 true (.mv aQ), .g 7 5 true (.bin .leq bN (.k (.int .u8 122))), .o 8 (.pick bh br (.k (.bool false))), .m 2 bP]) .ret)
abbrev alY:AC:= .seq (.run [.o 2 (.mv (.k (.bool false)))]) (.seq (.run [.m 3 aQ, .o 4 (.bin .geq bF (.k (.int .u8 48))), .m 5 cu, .g 6 5 true (.mv aQ), .g 7 5 true (.bin .leq bN (.k (.int .u8 57))), .o 8 (.pick bh br (.k (.bool false))), .m 2 bP]) .ret)
abbrev alZ:AC:= .cond bT (.seq (.run [.o 2 (.mv (.k (.bool true)))]) .ret) .skip
abbrev al0:AC:= .seq (.block 1 (.seq (.run [.o 9 (.bA bh br 1), .o 10 (.load b8 false 1), .m 4 bS]) (.seq (.run [.m 11 cu, .m 12 aQ, .o 13 (.bin .eql bG bZ)]) alZ))) (.run [.o 14 (.bin .add br (.k (.int .i64 1))), .m 7 bI])
abbrev al1:AC:= .block 0 (.loop (.seq (.run [.o 8 (.bin .lss br bN)]) (.seq (.cond bP .skip (.exit 0)) al0)))
abbrev al2:AC:= .seq (.seq (.run [.c 5 vd [], .o 6 (.len bh), .o 7 (.mv (.k (.int .i64 0)))]) al1) (.seq (.run [.o 2 (.mv (.k (.bool false)))]) .ret)
abbrev al3:AC:= .seq (.run [.o 2 (.mv (.k (.bool false)))]) al2
abbrev al4:AC:= .seq (.run [.o 1 (.box aQ), .o 2 (.mv (.k (.bool false)))]) (.seq (.run [.o 3 (.aq aY 0), .o 4 (.load bF false 1), .o 5 (.bin .eql cu (.k (.int .i64 0))), .m 6 bh, .g 7 6 true (.aq aY 1), .g 8 6 true (.load br false 1), .g 9 6 true (.bin .eql bP (.k (.int .i64 0))), .o 10 (.pick bN b8 (.k (.bool false))), .m 11 bS, .g 12 11 true (.aq aY 2), .g 13 11 true (.load bZ false 1), .g 14 11 true (.bin .eql bT (.k (.str []))), .o 15 (.pick bG bI (.k (.bool false))), .m 16 b9, .g 17 16 true (.aq aY 3), .g 18 16 true (.load cy false 1), .g 19 16 true (.len cr), .g 20 16 true (.bin .eql cD (.k (.int .i64 0))), .o 21 (.pick bX cR (.k (.bool false))), .m 2 cM]) .ret)
abbrev al5:AC:= .cond cu (.seq (.run [.o 5 (.aq aY 1), .o 6 (.load bh false 1), .c 7 jf [bN], .m 8 br, .g 9 8 true (.aq aY 2), .g 10 8 true (.load b8 true 4), .d 11 8 true sq [bS], .o 12 (.pick bP bG (.k (.bool false))), .m 2 bZ]) .ret) .skip
abbrev al6:AC:= .seq (.seq (.run [.o 3 (.aq aY 0), .o 4 (.load bF false 1)]) al5) (.seq (.run [.o 13 (.aq aY 1), .o 14 (.load bT false 1), .o 15 (.bin .eql bI (.k (.str []))), .m 16 b9, .g 17 16 true (.aq aY 2), .g 18 16 true (.load cy true 4), .d 19 16 true mT [cr], .o 20 (.pick bX cD (.k (.bool false))), .m 2 cR]) .ret)
abbrev al7:AC:= .seq (.run [.o 1 (.box aQ), .o 2 (.mv (.k (.bool false)))]) al6
abbrev al8:AC:= .par [.o 17 (.load cQ true 2), .m 18 bh, .m 19 bN, .o 20 (.bA cr cD 1), .o 21 (.load cR false 1), .c 22 vf [cy,cM], .o 23 (.len c9), .o 24 (.mv (.k (.int .i64 0)))] [(0,0),(1,0),(2,0),(3,0),(4,0),(5,0),(6,0),(7,0)]
abbrev al9:AC:= .seq (.run [.o 26 (.bA c9 cU 1), .o 27 (.load dP false 1), .m 8 dH]) (.seq (.run [.m 28 bh, .m 29 bP, .c 30 kg [dY,ek], .o 31 (.un .not eY)]) (.cond eo (.run [.m 32 bh, .m 33 bP, .o 34 (.cG [(.str [])] 1 1 [(0,eJ)]), .o 35 (.app 1 16 eZ fb), .m 5 fh]) .skip))
abbrev ama:AC:= .seq (.cond cW .skip (.exit 2)) (.seq (.block 3 al9) (.run [.o 36 (.bin .add cU (.k (.int .i64 1))), .m 24 fm]))
abbrev amb:AC:= .seq al8 (.block 2 (.loop (.seq (.run [.o 25 (.bin .lss cU da)]) ama)))
abbrev amc:AC:= .seq (.seq (.run [.m 11 bN, .m 12 bh, .o 13 (.len bZ), .o 14 (.bin .lss bG bT)]) (.cond bI .skip (.exit 0))) (.seq (.block 1 amb) (.run [.m 15 bN, .o 16 (.bin .add b9 (.k (.int .i64 1))), .m 6 bX]))
abbrev amd:AC:= .seq (.seq (.run [.o 6 (.mv (.k (.int .i64 0)))]) (.block 0 (.loop amc))) (.seq (.run [.m 37 bh, .c 38 nZ [fy], .m 4 fR]) .ret)
abbrev ame:AC:= .seq (.run [.o 2 (.box aQ), .o 4 (.mv (.k (.slice .full 0 [])))]) (.seq (.run [.m 9 aY, .o 10 (.cG [(.str [])] 1 1 [(0,b8)]), .m 5 bS]) amd)
abbrev amf:AC:= .seq (.run [.m 18 bF, .m 19 br, .c 20 kg [cr,cD], .o 21 (.un .not cR), .m 22 cM, .g 23 22 true (.mv bh), .g 24 22 true (.un .not da), .g 25 22 true (.mv cU), .g 26 25 false (.mv br), .g 27 25 false (.mv cu), .g 28 25 false (.bin .lss dP dH), .g 29 22 true (.pick cW (.k (.bool true)) dY), .o 30 (.pick c9 ek (.k (.bool false)))]) (.cond eY (.run [.m 31 br, .m 4 eo, .o 5 (.mv (.k (.bool true)))]) .skip)
abbrev amg:AC:= .seq (.cond b9 .skip (.exit 2)) (.seq (.block 3 (.seq (.run [.o 16 (.bA bZ bI 1), .o 17 (.load bX false 1), .m 7 cy]) amf)) (.run [.o 32 (.bin .add bI (.k (.int .i64 1))), .m 14 eZ]))
abbrev amh:AC:= .seq (.run [.m 12 aQ, .o 13 (.len bZ), .o 14 (.mv (.k (.int .i64 0)))]) (.block 2 (.loop (.seq (.run [.o 15 (.bin .lss bI bT)]) amg)))
abbrev ami:AC:= .seq amh (.seq (.run [.m 33 bh]) (.cond eJ (.run [.m 34 bF, .m 35 cu, .o 36 (.cG [(.str [])] 1 1 [(0,fh)]), .o 37 (.app 1 16 fb fm), .m 3 fy]) .skip))
abbrev amj:AC:= .block 1 (.seq (.run [.o 4 (.mv (.k (.str []))), .o 5 (.mv (.k (.bool false)))]) ami)
abbrev amk:AC:= .seq (.cond bG .skip (.exit 0)) (.seq amj (.run [.o 38 (.bin .add bS (.k (.int .i64 1))), .m 10 fR]))
abbrev aml:AC:= .seq (.run [.m 8 aQ, .o 9 (.len bP), .o 10 (.mv (.k (.int .i64 0)))]) (.block 0 (.loop (.seq (.run [.o 11 (.bin .lss bS b8)]) amk)))
abbrev amm:AC:= .seq (.run [.o 2 (.mv (.k (.slice .full 0 [])))]) (.seq (.run [.o 3 (.mv (.k (.slice .full 0 [])))]) (.seq aml (.seq (.run [.m 39 bF, .m 2 fM]) .ret)))
abbrev amn:AC:= .seq (.run [.o 1 (.box aQ), .o 2 (.mv (.k (.bool false)))]) (.seq (.run [.o 3 (.load aY true 4), .c 4 pX [bF,(.k (.int .i64 20))], .m 2 cu]) .ret)
abbrev amo:AC:= .seq (.run [.o 1 (.box aQ), .o 2 (.mv (.k (.bool false)))]) (.seq (.run [.o 3 (.aq aY 0), .o 4 (.load bF false 1), .o 5 (.bin .eql cu (.k (.int .i64 0))), .m 6 bh, .g 7 6 true (.aq aY 1), .g 8 6 true (.load br false 1), .g 9 6 true (.bin .eql bP (.k (.int .i64 0))), .o 10 (.pick bN b8 (.k (.bool false))), .m 11 bS, .g 12 11 true (.aq aY 2), .g 13 11 true (.load bZ false 1), .g 14 11 true (.bin .eql bT (.k (.str []))), .o 15 (.pick bG bI (.k (.bool false))), .m 16 b9, .g 17 16 true (.aq aY 3), .g 18 16 true (.load cy false 1), .g 19 16 true (.len cr), .g 20 16 true (.bin .eql cD (.k (.int .i64 0))), .o 21 (.pick bX cR (.k (.bool false))), .m 2 cM]) .ret)
abbrev amp:AC:= .seq (.block 1 (.seq (.run [.o 27 (.bA da cW 4), .o 28 (.load dH true 4), .o 6 (.alloc [(.int .i64 0),(.int .i64 0),(.str []),(.slice .full 0 [])]), .op none none (.store bN dY 4)]) (.run [.o 29 (.load bN true 4), .m 30 aY, .c 31 iO [ek,eY], .m 1 eo]))) (.run [.o 32 (.bin .add cW (.k (.int .i64 1))), .m 25 eZ])
abbrev amq:AC:= .block 0 (.loop (.seq (.run [.o 26 (.bin .lss cW cU)]) (.seq (.cond dP .skip (.exit 0)) amp)))
abbrev amr:AC:= .seq (.seq (.run [.o 22 (.aq cQ 3), .o 23 (.load c9 false 1), .o 24 (.len da), .o 25 (.mv (.k (.int .i64 0)))]) amq) (.seq (.run [.m 33 aY, .m 4 eJ]) .ret)
abbrev ams:AC:= .seq (.seq (.run [.o 7 (.aq cQ 0), .o 8 (.load br false 1), .o 9 (.bin .eql bP (.k (.int .i64 2))), .m 10 b8, .g 11 10 true (.mv aY), .g 12 10 true (.aq cQ 2), .g 13 10 true (.load bZ false 1), .d 14 10 true cA [bG,bT], .g 15 10 true (.un .not bI), .o 16 (.pick bS b9 (.k (.bool false)))]) (.cond bX (.run [.m 17 aY, .o 18 (.aq cQ 2), .o 19 (.load cr false 1), .o 20 (.cG [(.str [])] 1 1 [(0,cD)]), .o 21 (.app 1 16 cy cR), .m 1 cM]) .skip)) amr
abbrev amt:AC:= .seq (.run [.o 2 (.box aQ), .o 4 (.mv (.k (.slice .full 0 [])))]) ams
abbrev amu:AC:= .par [.m 4 aQ, .c 5 cT [cu], .m 6 bh, .g 7 6 true (.mv aQ), .d 8 6 true dF [br], .g 9 6 true (.rz bP 0 false 1), .g 10 6 true (.bin .eql b8 (.k (.int .i64 1))), .o 11 (.pick bN bS (.k (.bool false))), .m 12 bG, .g 13 12 true (.mv aQ), .g 14 12 true (.dv bT), .g 15 12 true (.aq bI 0), .g 16 12 true (.load b9 false 1), .g 17 12 true (.mv aQ), .g 18 12 true (.dv cy), .g 19 12 true (.aq cr 1), .g 20 12 true (.load cD false 1), .g 21 12 true (.bin .add cR (.k (.int .i64 1))), .g 22 12 true (.bA bX cM 4), .g 23 12 true (.aq c9 0), .g 24 12 true (.load da false 1), .g 25 12 true (.bin .eql cU (.k (.int .i64 4))), .o 26 (.pick bZ cW (.k (.bool false))), .m 27 dP, .g 28 27 true (.mv aQ), .g 29 27 true (.dv dY), .g 30 27 true (.aq ek 0), .g 31 27 true (.load eY false 1), .g 32 27 true (.mv aQ), .g 33 27 true (.dv eZ), .g 34 27 true (.aq eJ 1), .g 35 27 true (.load fb false 1), .g 36 27 true (.bin .add fh (.k (.int .i64 1))), .g 37 27 true (.bA eo fm 4), .g 38 27 true (.aq fy 1), .g 39 27 true (.load fR false 1), .g 40 27 true (.bin .eql fM (.k (.str [58]))), .o 41 (.pick dH gj (.k (.bool false)))] [(0,0),(1,0),(2,0),(3,0),(4,0),(5,0),(6,0),(7,0),(8,0),(9,0),(10,0),(11,0),(12,0),(13,0),(14,0),(15,0),(16,0),(17,0),(18,0),(19,0),(20,0),(21,0),(22,0),(23,0),(24,0),(25,0),(26,0),(27,0),(28,0),(29,0),(30,0),(31,0),(32,0),(33,0),(34,0),(35,0),(36,0),(37,0)]
abbrev amv:AC:= .block 1 (.seq (.run [.m 42 bF, .m 43 aQ, .c 44 dF [gX], .o 45 (.rz ic 1 false 1), .o 46 (.cG [(.str [])] 1 1 [(0,iT)]), .o 47 (.app 1 16 gO iU), .m 3 jc]) (.run [.m 48 aQ, .o 49 (.dv iw), .o 50 (.aq iJ 1), .o 51 (.load jn false 1), .o 52 (.bin .add jd (.k (.int .i64 2))), .o 53 (.dv iw), .o 54 (.aq jD 1), .op none none (.store jS jC 1)]))
abbrev amw:AC:= .block 0 (.loop (.seq (.seq amu (.cond ga .skip (.exit 0))) amv))
abbrev amx:AC:= .seq (.run [.o 2 (.mv (.k (.slice .full 0 [])))]) (.seq (.run [.o 3 (.mv (.k (.slice .full 0 [])))]) (.seq amw (.seq (.run [.m 55 bF, .m 2 jT]) .ret)))
end Go.Abs

/-! Have4 -/

namespace Go.Abs
open Go.Proofs
theorem ry:Has Tryz.prog gd 19 [(4,none)] aly:=⟨Tryz.f166,by kernel_rfl,by kernel_rfl⟩
theorem xK:Has Tryz.prog ll 8 [(3,none)] alz:=⟨Tryz.f167,by kernel_rfl,by kernel_rfl⟩
theorem xL:Has Tryz.prog eW 31 [(4,none)] alE:=⟨Tryz.f170,by kernel_rfl,by kernel_rfl⟩
theorem xM:Has Tryz.prog df 10 [] alG:=⟨Tryz.f171,by kernel_rfl,by kernel_rfl⟩
theorem qw:Has Tryz.prog gD 43 [(6,none),(7,none)] alL:=⟨Tryz.f172,by kernel_rfl,by kernel_rfl⟩
theorem GU:Has Tryz.prog me 24 [(2,(some (true,4)))] alR:=⟨Tryz.f173,by kernel_rfl,by kernel_rfl⟩
theorem Cr:Has Tryz.prog mT 10 [(2,none)] alS:=⟨Tryz.f174,by kernel_rfl,by kernel_rfl⟩
theorem tw:Has Tryz.prog j8 28 [(4,none)] alW:=⟨Tryz.f175,by kernel_rfl,by kernel_rfl⟩
theorem EP:Has Tryz.prog qY 9 [(2,none)] alX:=⟨Tryz.f177,by kernel_rfl,by kernel_rfl⟩
theorem ER:Has Tryz.prog vb 9 [(2,none)] alY:=⟨Tryz.f178,by kernel_rfl,by kernel_rfl⟩
theorem GV:Has Tryz.prog wX 15 [(2,none)] al3:=⟨Tryz.f179,by kernel_rfl,by kernel_rfl⟩
theorem GX:Has Tryz.prog sq 22 [(2,none)] al4:=⟨Tryz.f180,by kernel_rfl,by kernel_rfl⟩
theorem IQ:Has Tryz.prog yx 21 [(2,none)] al7:=⟨Tryz.f181,by kernel_rfl,by kernel_rfl⟩
theorem Dn:Has Tryz.prog tq 39 [(4,none)] ame:=⟨Tryz.f184,by kernel_rfl,by kernel_rfl⟩
theorem Dp:Has Tryz.prog nZ 40 [(2,none)] amm:=⟨Tryz.f185,by kernel_rfl,by kernel_rfl⟩
theorem Cs:Has Tryz.prog px 5 [(2,none)] amn:=⟨Tryz.f190,by kernel_rfl,by kernel_rfl⟩
theorem GY:Has Tryz.prog wY 22 [(2,none)] amo:=⟨Tryz.f191,by kernel_rfl,by kernel_rfl⟩
theorem q6:Has Tryz.prog iO 34 [(4,none)] amt:=⟨Tryz.f192,by kernel_rfl,by kernel_rfl⟩
theorem vD:Has Tryz.prog mU 56 [(2,none)] amx:=⟨Tryz.f204,by kernel_rfl,by kernel_rfl⟩
end Go.Abs

/-! Codes5 -/

namespace Go.Abs
abbrev amy:AC:= .cond bS (.seq (.run [.m 11 aQ, .c 12 fi [bG,(.k (.int .i64 3))]]) (.seq (.run [.o 13 (.build [(.int .i64 0),(.int .i64 0),(.slice .full 0 []),(.str []),(.str []),(.int .i64 0),(.int .i64 0),(.str []),(.slice .full 0 []),(.bool false),(.slice .full 0 []),(.slice .full 0 []),(.slice .full 0 [])] []), .op none none (.store cu bT 13)]) .ret)) .skip
abbrev amz:AC:= .cond ek (.seq (.run [.m 30 aQ, .c 31 fi [eY,(.k (.int .i64 4))]]) (.seq (.run [.o 32 (.build [(.int .i64 0),(.int .i64 0),(.slice .full 0 []),(.str []),(.str []),(.int .i64 0),(.int .i64 0),(.str []),(.slice .full 0 []),(.bool false),(.slice .full 0 []),(.slice .full 0 []),(.slice .full 0 [])] []), .op none none (.store cu eZ 13)]) .ret)) .skip
abbrev amA:AC:= .seq (.run [.m 56 aQ, .c 57 ln [lb],(.o 58 (.build [(.int .i64 0),(.int .i64 0),(.slice .full 0 []),(.str []),(.str []),(.int .i64 0),(.int .i64 0),(.str []),(.slice .full 0 []),(.bool false),(.slice .full 0 []),(.slice .full 0 []),(.slice .full 0 [])] [(1,(1,(.k (.int .i64 6)))),(5,(4,kL))])), .o 6 (.alloc [(.int .i64 0),(.int .i64 0),(.slice .full 0 []),(.str []),(.str []),(.int .i64 0),(.int .i64 0),(.str []),(.slice .full 0 []),(.bool false),(.slice .full 0 []),(.slice .full 0 []),(.slice .full 0 [])]), .op none none (.store bN ld 13)]) (.seq (.run [.m 59 aQ, .m 60 aY, .c 61 jm [km,nH], .o 62 (.aq bN 11), .op none none (.store o3 oi 1)]) (.seq (.run [.o 63 (.load bN true 13), .op none none (.store cu nI 13)]) .ret))
abbrev amB:AC:= .cond iJ (.seq (.run [.m 51 aQ, .m 52 aY, .c 53 mW [jd,jC], .op none none (.store cu jD 13)]) .ret) (.seq (.run [.o 55 (.bin .eql iw (.k (.str [119,104,105,108,101]))), .m 54 jT]) (.cond jS amA .skip))
abbrev amC:AC:= .block 0 (.seq (.run [.o 50 (.bin .eql iw (.k (.str [105,102]))), .m 49 jn]) amB)
abbrev amD:AC:= .seq (.run [.m 64 aQ, .o 65 (.aq bh 1), .o 66 (.load rP false 1), .c 67 nG [pM,tr], .o 7 (.alloc [(.int .i64 0),(.int .i64 0),(.slice .full 0 []),(.str []),(.str []),(.int .i64 0),(.int .i64 0),(.str []),(.slice .full 0 []),(.bool false),(.slice .full 0 []),(.slice .full 0 []),(.slice .full 0 [])]), .op none none (.store br rQ 13)]) (.seq (.run [.m 68 aQ,(.c 69 df [rR,(.k (.str [59]))])]) (.seq (.run [.o 70 (.load br true 13), .op none none (.store cu tt 13)]) .ret))
abbrev amE:AC:= .seq (.seq (.run [.o 35 (.aq bh 0), .o 36 (.load fh false 1), .o 37 (.bin .eql fm (.k (.int .i64 1)))]) (.cond fy (.seq (.run [.m 38 aQ, .c 39 nF [fR], .op none none (.store cu fM 13)]) .ret) .skip)) (.seq (.run [.m 40 aQ, .o 41 (.dv gj), .o 42 (.aq ga 1), .o 43 (.load gO false 1), .o 44 (.bin .add gX (.k (.int .i64 1))), .o 45 (.dv gj), .o 46 (.aq iT 1), .op none none (.store iU ic 1)]) (.seq (.seq (.run [.o 47 (.aq bh 1), .o 48 (.load jc false 1)]) amC) amD))
abbrev amF:AC:= .seq (.seq (.run [.m 21 aQ, .o 22 (.dv cM), .o 23 (.aq c9 4), .o 24 (.load da false 1), .o 25 (.bin .gtr cU (.k (.int .i64 200))), .m 26 cW, .g 27 26 false (.mv aY), .g 28 26 false (.bin .gtr dH (.k (.int .i64 12))), .o 29 (.pick dP (.k (.bool true)) dY)]) amz) (.seq (.run [.m 33 aQ, .c 34 dF [eJ], .o 5 (.alloc [(.int .i64 0),(.str []),(.int .i64 0),(.int .i64 0)]), .op none none (.store bh fb 4)]) amE)
abbrev amG:AC:= .seq (.seq (.run [.m 8 aQ, .c 9 mV [bP], .o 10 (.un .not b8)]) amy) (.seq (.run [.m 14 aQ, .o 15 (.dv bI), .o 16 (.aq b9 4), .o 17 (.load bX false 1), .o 18 (.bin .add cy (.k (.int .i64 1))), .o 19 (.dv bI), .o 20 (.aq cD 4), .op none none (.store cR cr 1)]) amF)
abbrev amH:AC:= .seq (.run [.o 4 (.alloc [(.int .i64 0),(.int .i64 0),(.slice .full 0 []),(.str []),(.str []),(.int .i64 0),(.int .i64 0),(.str []),(.slice .full 0 []),(.bool false),(.slice .full 0 []),(.slice .full 0 []),(.slice .full 0 [])])]) amG
abbrev amI:AC:= .cond b8 (.seq (.run [.o 4 (.mv (.k (.int .i64 1)))]) .ret) .skip
abbrev amJ:AC:= .block 1 (.seq (.run [.o 22 (.aq cQ 3), .o 23 (.load c9 false 1), .m 24 bN, .o 25 (.bA da cU 4), .o 26 (.load cW true 4), .m 27 aY, .o 28 (.bin .sub dH (.k (.int .i64 1))), .c 29 pV [dP,dY], .m 7 ek]) (.seq (.run [.m 30 br, .m 31 bh, .o 32 (.bin .gtr eY eo)]) (.cond eZ (.run [.m 33 br, .m 5 eJ]) .skip)))
abbrev amK:AC:= .seq (.seq (.run [.m 10 bN, .o 11 (.aq cQ 3), .o 12 (.load bG false 1), .o 13 (.len bZ), .o 14 (.bin .lss bS bT), .m 15 bI, .g 16 15 true (.mv bh), .g 17 15 true (.mv aY), .g 18 15 true (.bin .lss bX cy), .o 19 (.pick b9 cr (.k (.bool false)))]) (.cond cD .skip (.exit 0))) (.seq amJ (.run [.m 20 bN, .o 21 (.bin .add cR (.k (.int .i64 1))), .m 6 cM]))
abbrev amL:AC:= .seq (.seq (.run [.o 6 (.mv (.k (.int .i64 0)))]) (.block 0 (.loop amK))) (.seq (.run [.m 34 bh, .o 35 (.bin .add fb (.k (.int .i64 1))), .m 4 fh]) .ret)
abbrev amM:AC:= .seq (.seq (.run [.m 8 aY, .o 9 (.bin .eql bP (.k (.int .i64 0)))]) amI) (.seq (.run [.o 5 (.mv (.k (.int .i64 0)))]) amL)
abbrev amN:AC:= .seq (.run [.o 2 (.box aQ), .o 4 (.mv (.k (.int .i64 0)))]) amM
abbrev amO:AC:= .par [.o 4 (.aq aY 0), .o 5 (.load cu false 1), .c 6 ve [bh], .o 7 (.aq aY 3), .o 8 (.load br false 1), .o 9 (.len bP), .o 10 (.bin .neq bN b8), .m 11 bS, .g 12 11 false (.aq aY 0), .g 13 11 false (.load bZ false 1), .g 14 11 false (.bin .neq bT (.k (.int .i64 1))), .g 15 11 false (.mv bI), .g 16 15 true (.aq aY 1), .g 17 15 true (.load bX false 1), .g 18 15 true (.bin .neq cy (.k (.int .i64 0))), .g 19 11 false (.pick b9 cr (.k (.bool false))), .o 20 (.pick bG (.k (.bool true)) cD), .m 21 cR, .g 22 21 false (.aq aY 1), .g 23 21 false (.load c9 false 1), .g 24 21 false (.bin .lss da (.k (.int .i64 0))), .o 25 (.pick cM (.k (.bool true)) cU), .m 26 cW, .g 27 26 false (.aq aY 0), .g 28 26 false (.load dH false 1), .g 29 26 false (.bin .eql dY (.k (.int .i64 2))), .g 30 26 false (.aq aY 2), .g 31 26 false (.load eY false 1), .g 32 26 false (.bin .neq eo (.k (.str []))), .g 33 26 false (.ze true ek eZ), .o 34 (.pick dP (.k (.bool true)) eJ), .m 35 fb, .g 36 35 false (.aq aY 2), .g 37 35 false (.load fm false 1), .g 38 35 false (.bin .neq fy (.k (.str []))), .g 39 35 false (.mv fR), .g 40 39 true (.aq aY 2), .g 41 39 true (.load gj false 1), .d 42 39 true jf [ga], .g 43 39 true (.un .not gO), .g 44 35 false (.pick fM gX (.k (.bool false))), .o 45 (.pick fh (.k (.bool true)) ic)] [(0,0),(1,0),(2,0),(3,0),(4,1),(5,0),(6,0),(7,0),(8,0),(9,0),(10,0),(11,0),(12,0),(13,0),(14,0),(15,0),(16,0),(17,0),(18,0),(19,0),(20,0),(21,0),(22,0),(23,0),(24,0),(25,0),(26,0),(27,0),(28,0),(29,0),(30,0),(31,0),(32,0),(33,0),(34,0),(35,0),(36,0),(37,0),(38,0),(39,0),(40,0),(41,0)]
abbrev amP:AC:= .cond iT (.seq (.run [.o 2 (.mv (.k (.bool false)))]) .ret) .skip
abbrev amQ:AC:= .cond ld (.seq (.run [.o 2 (.mv (.k (.bool false)))]) .ret) .skip
abbrev amR:AC:= .seq (.block 1 (.seq (.run [.m 51 iJ, .m 3 jd]) (.seq (.run [.o 52 (.aq aY 3), .o 53 (.load jC false 1), .m 54 bF, .o 55 (.bA jD jS 4), .o 56 (.load jT true 4), .c 57 pW [lb], .o 58 (.un .not kL)]) amQ))) (.run [.o 59 (.bin .add iJ (.k (.int .i64 1))), .m 49 km])
abbrev amS:AC:= .block 0 (.loop (.seq (.run [.o 50 (.bin .lss iJ iw)]) (.seq (.cond jn .skip (.exit 0)) amR)))
abbrev amT:AC:= .seq (.seq (.run [.o 46 (.aq aY 3), .o 47 (.load iU false 1), .o 48 (.len jc), .o 49 (.mv (.k (.int .i64 0)))]) amS) (.seq (.run [.o 2 (.mv (.k (.bool true)))]) .ret)
abbrev amU:AC:= .seq (.run [.o 1 (.box aQ), .o 2 (.mv (.k (.bool false)))]) (.seq (.seq amO amP) amT)
abbrev amV:AC:= .block 1 (.seq (.run [.o 11 (.bA br b8 1), .o 12 (.load bG false 1), .m 6 bZ]) (.seq (.run [.m 13 bN, .m 14 aY, .o 15 (.bin .eql bT bI)]) (.cond b9 (.seq (.run [.m 16 aQ, .m 4 bX]) .ret) .skip)))
abbrev amW:AC:= .seq (.cond bS .skip (.exit 0)) (.seq amV (.run [.o 17 (.bin .add b8 (.k (.int .i64 1))), .m 9 cy]))
abbrev amX:AC:= .seq (.run [.m 7 aQ, .o 8 (.len br), .o 9 (.mv (.k (.int .i64 0)))]) (.block 0 (.loop (.seq (.run [.o 10 (.bin .lss b8 bP)]) amW)))
abbrev amY:AC:= .seq (.run [.o 4 (.mv (.k (.slice .full 0 [])))]) (.seq amX (.seq (.run [.m 18 aQ, .m 19 aY, .o 20 (.cG [(.str [])] 1 1 [(0,cD)]), .o 21 (.app 1 16 cr cR), .m 4 cM]) .ret))
abbrev amZ:AC:= .seq (.run [(.o 1 (.cG [(.str [])] 1 13 [(0,(.k (.str [103,108,111,98,97,108]))),(1,(.k (.str [112,114,111,99]))),(2,(.k (.str [118,97,114]))),(3,(.k (.str [114,101,102]))),(4,(.k (.str [105,102]))),(5,(.k (.str [101,108,115,101]))),(6,(.k (.str [119,104,105,108,101]))),(7,(.k (.str [98,114,101,97,107]))),(8,(.k (.str [99,111,110,116,105,110,117,101]))),(9,(.k (.str [114,101,116,117,114,110]))),(10,(.k (.str [103,111,116,111]))),(11,(.k (.str [114,101,97,100]))),(12,(.k (.str [112,114,105,110,116])))])), .m 0 aY]) .ret
abbrev am0:AC:= .seq (.run [.o 0 (.mv (.k (.slice .full 0 [])))]) amZ
abbrev am1:AC:= .cond cy (.seq (.run [.o 2 (.mv (.k (.int .i64 2)))]) .ret) .skip
abbrev am2:AC:= .cond bS (.seq (.run [.o 2 (.mv (.k (.int .i64 1)))]) .ret) (.seq (.run [.m 18 aQ, .o 19 (.bin .geq cr (.k (.int .i64 5))), .m 20 cD, .g 21 20 true (.mv aQ), .g 22 20 true (.bin .leq cM (.k (.int .i64 17))), .o 23 (.pick cR c9 (.k (.bool false))), .m 17 da]) am1)
abbrev am3:AC:= .cond bF (.seq (.run [.o 2 (.mv (.k (.int .i64 0)))]) .ret) (.seq (.run [.m 11 aQ, .o 12 (.bin .eql bG (.k (.int .i64 3))), .m 13 bZ, .g 14 13 false (.mv aQ), .g 15 13 false (.bin .eql bI (.k (.int .i64 4))), .o 16 (.pick bT (.k (.bool true)) b9), .m 10 bX]) am2)
abbrev am4:AC:= .block 0 (.seq (.run [.m 4 aQ, .o 5 (.bin .eql cu (.k (.int .i64 1))), .m 6 bh, .g 7 6 false (.mv aQ), .g 8 6 false (.bin .eql br (.k (.int .i64 2))), .o 9 (.pick bN (.k (.bool true)) bP), .m 3 b8]) am3)
abbrev am5:AC:= .seq (.run [(.o 2 (.mv (.k (.int .i64 (-1)))))]) .ret
abbrev am6:AC:= .seq (.run [.o 2 (.mv (.k (.int .i64 0)))]) (.seq am4 am5)
abbrev am7:AC:= .seq (.run [.o 21 (.bA cy cD 16), .o 22 (.load cM true 16), .o 9 (.alloc [(.int .i64 0),(.int .i64 0),(.slice .full 0 []),(.str []),(.str []),(.int .i64 0),(.int .i64 0),(.str []),(.slice .full 0 []),(.bool false),(.slice .full 0 []),(.slice .full 0 []),(.slice .full 0 []),(.int .i64 0),(.int .i64 0),(.bool false)]), .op none none (.store b8 c9 16)]) (.seq (.run [.o 23 (.aq b8 0), .o 24 (.aq da 1), .o 25 (.load cU false 1), .o 26 (.bin .eql cW (.k (.int .i64 4)))]) (.cond dP (.run [.m 27 br, .o 28 (.aq b8 0), .o 29 (.aq dY 4), .o 30 (.load ek false 1), .o 31 (.cG [(.str [])] 1 1 [(0,eY)]), .o 32 (.app 1 16 dH eo), .m 7 eZ]) .skip))
abbrev am8:AC:= .seq (.cond cR .skip (.exit 0)) (.seq (.block 1 am7) (.run [.o 33 (.bin .add cD (.k (.int .i64 1))), .m 19 eJ]))
abbrev am9:AC:= .seq (.run [.o 16 (.load bh true 5), .c 17 kR [bX], .o 18 (.len cy), .o 19 (.mv (.k (.int .i64 0)))]) (.block 0 (.loop (.seq (.run [.o 20 (.bin .lss cD cr)]) am8)))
abbrev ana:AC:= .seq (.run [.o 11 (.load cQ true 2), .m 12 aY, .c 13 k9 [bG,bZ], .m 10 bT, .o 14 (.ext bS 0), .o 15 (.ext bS 1), .o 5 (.alloc [(.str []),(.slice .full 0 []),(.slice .full 0 []),(.slice .full 0 []),(.slice .full 0 [])]), .op none none (.store bh bI 5), .m 6 b9]) (.seq (.run [.o 7 (.mv (.k (.slice .full 0 [])))]) (.seq am9 (.seq (.run [.m 34 br, .c 35 nZ [fb], .m 4 fh]) .ret)))
abbrev anb:AC:= .seq (.run [.o 2 (.box aQ), .o 4 (.mv (.k (.slice .full 0 [])))]) ana
abbrev anc:AC:= .par [.m 7 aY, .o 8 (.bin .lss br (.k (.int .i64 1))), .m 9 bP, .g 10 9 false (.aq cQ 3), .g 11 9 false (.load bS false 1), .g 12 9 false (.len bG), .g 13 9 false (.aq cQ 0), .g 14 9 false (.load bT false 1), .d 15 9 false wZ [bI], .g 16 9 false (.bin .neq bZ b9), .o 17 (.pick b8 (.k (.bool true)) bX)] [(0,0),(1,0),(2,0),(6,0),(7,0),(8,0),(3,0),(4,1),(5,0),(9,0),(10,0)]
abbrev ane:AC:= .cond cy (.seq (.run [.o 4 (.mv (.k (.bool false)))]) .ret) .skip
abbrev anf:AC:= .cond eY (.seq (.run [.o 32 (.aq cQ 1), .o 33 (.load eZ false 1), .o 34 (.bin .eql eJ (.k (.int .i64 0))), .m 35 fb, .g 36 35 true (.aq cQ 2), .g 37 35 true (.load fm false 1), .d 38 35 true nE [fy], .o 39 (.pick fh fR (.k (.bool false))), .m 4 fM]) .ret) .skip
abbrev ang:AC:= .cond cR (.seq (.run [.o 22 (.aq cQ 1), .o 23 (.load c9 false 1), .o 24 (.bin .geq da (.k (.int .i64 0))), .m 25 cU, .g 26 25 true (.aq cQ 2), .g 27 25 true (.load dP false 1), .g 28 25 true (.bin .eql dH (.k (.str []))), .o 29 (.pick cW dY (.k (.bool false))), .m 4 ek]) .ret) (.seq (.run [.o 31 (.bin .eql cD (.k (.int .i64 2))), .m 30 eo]) anf)
abbrev anh:AC:= .block 0 (.seq (.run [.o 21 (.bin .eql cD (.k (.int .i64 1))), .m 20 cM]) ang)
abbrev ani:AC:= .cond jc (.seq (.run [.o 4 (.mv (.k (.bool false)))]) .ret) .skip
abbrev anj:AC:= .cond km (.seq (.run [.o 4 (.mv (.k (.bool false)))]) .ret) .skip
abbrev ank:AC:= .seq (.run [.o 53 (.bA iJ jd 4), .o 54 (.load jD true 4), .o 6 (.alloc [(.int .i64 0),(.int .i64 0),(.str []),(.slice .full 0 [])]), .op none none (.store bN jS 4)]) (.seq (.run [.o 55 (.load bN true 4), .m 56 aY, .o 57 (.bin .sub lb (.k (.int .i64 1))), .c 58 pX [jT,kL], .o 59 (.un .not ld)]) anj)
abbrev anl:AC:= .seq (.cond jC .skip (.exit 1)) (.seq (.block 2 ank) (.run [.o 60 (.bin .add jd (.k (.int .i64 1))), .m 51 nH]))
abbrev anm:AC:= .seq (.run [.o 48 (.aq cQ 3), .o 49 (.load iw false 1), .o 50 (.len iJ), .o 51 (.mv (.k (.int .i64 0)))]) (.block 1 (.loop (.seq (.run [.o 52 (.bin .lss jd jn)]) anl)))
abbrev ann:AC:= .seq anm (.seq (.run [.o 4 (.mv (.k (.bool true)))]) .ret)
abbrev ano:AC:= .seq (.seq (.run [.o 40 (.aq cQ 1), .o 41 (.load gj false 1), .o 42 (.bin .neq ga (.k (.int .i64 0))), .m 43 gO, .g 44 43 false (.aq cQ 2), .g 45 43 false (.load ic false 1), .g 46 43 false (.bin .neq iT (.k (.str []))), .o 47 (.pick gX (.k (.bool true)) iU)]) ani) ann
abbrev anp:AC:= .seq (.run [.o 2 (.box aQ), .o 4 (.mv (.k (.bool false)))]) (.seq (.seq anc ane) (.seq (.seq (.run [.o 18 (.aq cQ 0), .o 19 (.load cr false 1)]) anh) ano))
abbrev anq:AC:= .cond bP (.seq (.run [.o 2 (.mv (.k (.bool true)))]) .ret) .skip
abbrev anr:AC:= .cond bG (.seq (.run [.o 2 (.mv (.k (.bool false)))]) .ret) .skip
abbrev ans:AC:= .seq (.run [.o 21 (.bin .eql bT (.k (.str [114,101,97,100]))), .m 14 cM]) (.cond bI .skip (.run [.o 22 (.bin .eql bT (.k (.str [112,114,105,110,116]))), .m 14 c9]))
abbrev ant:AC:= .cond bI .skip (.seq (.run [.o 20 (.bin .eql bT (.k (.str [103,111,116,111]))), .m 14 cR]) (.cond bI .skip ans))
abbrev anu:AC:= .cond bI .skip (.seq (.run [.o 19 (.bin .eql bT (.k (.str [114,101,116,117,114,110]))), .m 14 cD]) ant)
abbrev anv:AC:= .cond bI .skip (.seq (.run [.o 18 (.bin .eql bT (.k (.str [99,111,110,116,105,110,117,101]))), .m 14 cr]) anu)
abbrev anw:AC:= .cond bI .skip (.seq (.run [.o 17 (.bin .eql bT (.k (.str [98,114,101,97,107]))), .m 14 cy]) anv)
abbrev anx:AC:= .cond bI .skip (.seq (.run [.o 16 (.bin .eql bT (.k (.str [119,104,105,108,101]))), .m 14 bX]) anw)
abbrev anz:AC:= .cond bI (.seq (.run [.o 2 (.mv (.k (.bool true)))]) .ret) .skip
abbrev anA:AC:= .seq (.seq (.run [.o 15 (.bin .eql bT (.k (.str [105,102]))), .m 14 b9]) anx) anz
abbrev anB:AC:= .seq (.seq (.run [.o 12 (.aq bF 1), .o 13 (.load bZ false 1)]) (.block 0 anA)) (.seq (.run [.o 2 (.mv (.k (.bool false)))]) .ret)
abbrev anC:AC:= .seq (.seq (.run [.o 9 (.aq bF 0), .o 10 (.load b8 false 1), .o 11 (.bin .neq bS (.k (.int .i64 3)))]) anr) anB
abbrev anD:AC:= .seq (.seq (.run [.o 6 (.aq bF 0), .o 7 (.load bN false 1), .o 8 (.bin .eql br (.k (.int .i64 1)))]) anq) anC
abbrev anE:AC:= .seq (.run [.o 2 (.mv (.k (.bool false)))]) (.seq (.run [.m 4 aQ, .c 5 dF [cu], .o 3 (.alloc [(.int .i64 0),(.str []),(.int .i64 0),(.int .i64 0)]), .op none none (.store bF bh 4)]) anD)
abbrev anF:AC:= .cond bP (.seq (.run [.m 9 aQ, .m 10 bF,(.c 11 lq [b8,(.k (.str [])),bS]), .op none none (.store cQ bG 13)]) .ret) .skip
abbrev anG:AC:= .par [.m 14 aQ, .c 15 cT [bI], .m 16 b9, .g 17 16 true (.mv aQ), .d 18 16 true dF [cy], .g 19 16 true (.rz cr 0 false 1), .g 20 16 true (.bin .eql cD (.k (.int .i64 1))), .o 21 (.pick bX cR (.k (.bool false))), .m 22 cM, .g 23 22 true (.mv aQ), .g 24 22 true (.dv da), .g 25 22 true (.aq cU 0), .g 26 22 true (.load cW false 1), .g 27 22 true (.mv aQ), .g 28 22 true (.dv dH), .g 29 22 true (.aq dY 1), .g 30 22 true (.load ek false 1), .g 31 22 true (.bin .add eY (.k (.int .i64 1))), .g 32 22 true (.bA dP eo 4), .g 33 22 true (.aq eZ 0), .g 34 22 true (.load eJ false 1), .g 35 22 true (.bin .eql fb (.k (.int .i64 4))), .o 36 (.pick c9 fh (.k (.bool false))), .m 37 fm, .g 38 37 true (.mv aQ), .g 39 37 true (.dv fR), .g 40 37 true (.aq fM 0), .g 41 37 true (.load gj false 1), .g 42 37 true (.mv aQ), .g 43 37 true (.dv gO), .g 44 37 true (.aq gX 1), .g 45 37 true (.load ic false 1), .g 46 37 true (.bin .add iT (.k (.int .i64 1))), .g 47 37 true (.bA ga iU 4), .g 48 37 true (.aq jc 1), .g 49 37 true (.load iw false 1), .g 50 37 true (.bin .eql iJ (.k (.str [40]))), .o 51 (.pick fy jn (.k (.bool false)))] [(0,0),(1,0),(2,0),(3,0),(4,0),(5,0),(6,0),(7,0),(8,0),(9,0),(10,0),(11,0),(12,0),(13,0),(14,0),(15,0),(16,0),(17,0),(18,0),(19,0),(20,0),(21,0),(22,0),(23,0),(24,0),(25,0),(26,0),(27,0),(28,0),(29,0),(30,0),(31,0),(32,0),(33,0),(34,0),(35,0),(36,0),(37,0)]
abbrev anH:AC:= .seq anG (.cond jd (.seq (.run [.m 52 aQ, .m 53 bF, .m 54 aQ, .c 55 eW [jS,(.k (.bool true))], .c 56 lq [jC,jD,jT], .op none none (.store cQ lb 13)]) .ret) .skip)
abbrev anI:AC:= .seq (.run [.m 57 bF, .m 58 aQ, .c 59 gi [ld],(.o 60 (.build [(.int .i64 0),(.int .i64 0),(.slice .full 0 []),(.str []),(.str []),(.int .i64 0),(.int .i64 0),(.str []),(.slice .full 0 []),(.bool false),(.slice .full 0 []),(.slice .full 0 []),(.slice .full 0 [])] [(1,(1,(.k (.int .i64 1)))),(3,(1,kL)),(5,(4,km))])), .o 4 (.alloc [(.int .i64 0),(.int .i64 0),(.slice .full 0 []),(.str []),(.str []),(.int .i64 0),(.int .i64 0),(.str []),(.slice .full 0 []),(.bool false),(.slice .full 0 []),(.slice .full 0 []),(.slice .full 0 [])]), .op none none (.store cu nH 13)]) (.seq (.run [.m 61 aQ,(.c 62 df [oi,(.k (.str [59]))])]) (.seq (.run [.o 63 (.load cu true 13), .op none none (.store cQ nI 13)]) .ret))
abbrev anJ:AC:= .seq (.seq (.run [.m 7 aQ,(.c 8 fK [br,(.k (.str [40]))])]) anF) (.seq (.run [.m 12 aQ,(.c 13 df [bZ,(.k (.str [61]))])]) (.seq anH anI))
abbrev anK:AC:= .seq (.run [.o 2 (.alloc [(.int .i64 0),(.int .i64 0),(.slice .full 0 []),(.str []),(.str []),(.int .i64 0),(.int .i64 0),(.str []),(.slice .full 0 []),(.bool false),(.slice .full 0 []),(.slice .full 0 []),(.slice .full 0 [])])]) (.seq (.run [.m 5 aQ, .c 6 eW [bh,(.k (.bool true))], .m 3 bN]) anJ)
abbrev anL:AC:= .seq (.seq (.run [.m 13 aQ,(.c 14 dE [bT,(.k (.str [101,108,115,101]))])]) (.cond bI (.run [.m 15 aQ, .m 16 aY, .c 17 jm [b9,bX], .o 18 (.aq bh 12), .op none none (.store cr cy 1)]) .skip)) (.seq (.run [.o 19 (.load bh true 13), .op none none (.store cu cD 13)]) .ret)
abbrev anM:AC:= .seq (.run [.m 6 aQ, .c 7 ln [bN],(.o 8 (.build [(.int .i64 0),(.int .i64 0),(.slice .full 0 []),(.str []),(.str []),(.int .i64 0),(.int .i64 0),(.str []),(.slice .full 0 []),(.bool false),(.slice .full 0 []),(.slice .full 0 []),(.slice .full 0 [])] [(1,(1,(.k (.int .i64 5)))),(5,(4,br))])), .o 5 (.alloc [(.int .i64 0),(.int .i64 0),(.slice .full 0 []),(.str []),(.str []),(.int .i64 0),(.int .i64 0),(.str []),(.slice .full 0 []),(.bool false),(.slice .full 0 []),(.slice .full 0 []),(.slice .full 0 [])]), .op none none (.store bh bP 13)]) (.seq (.run [.m 9 aQ, .m 10 aY, .c 11 jm [b8,bS], .o 12 (.aq bh 11), .op none none (.store bZ bG 1)]) anL)
abbrev anN:AC:= .seq (.run [.o 4 (.alloc [(.int .i64 0),(.int .i64 0),(.slice .full 0 []),(.str []),(.str []),(.int .i64 0),(.int .i64 0),(.str []),(.slice .full 0 []),(.bool false),(.slice .full 0 []),(.slice .full 0 []),(.slice .full 0 [])])]) anM
abbrev anO:AC:= .seq (.run [.m 6 aQ, .c 7 gi [bN], .o 3 (.alloc [(.int .i64 0),(.int .i64 0),(.str []),(.slice .full 0 [])]), .op none none (.store bF br 4)]) (.seq (.run [.m 8 aQ,(.c 9 df [bP,(.k (.str [41]))])]) (.seq (.run [.o 10 (.load bF true 4), .op none none (.store cQ bS 4)]) .ret))
abbrev anP:AC:= .seq (.run [.o 2 (.alloc [(.int .i64 0),(.int .i64 0),(.str []),(.slice .full 0 [])])]) (.seq (.run [.m 4 aQ,(.c 5 df [cu,(.k (.str [40]))])]) anO)
abbrev anQ:AC:= .seq (.run [.m 7 aQ,(.c 8 df [br,(.k (.str [123]))])]) (.seq (.run [.m 10 aQ, .m 11 aY, .o 12 (.bin .add bG (.k (.int .i64 1))), .c 13 gD [bS,bZ,(.k (.bool false))], .m 9 bT, .o 14 (.ext b8 0), .o 15 (.ext b8 1), .m 5 bI, .m 6 b9]) (.seq (.run [.m 16 bh, .m 4 bX]) .ret))
abbrev anR:AC:= .seq (.run [.o 4 (.mv (.k (.slice .full 0 [])))]) anQ
abbrev anS:AC:= .seq (.run [.m 16 aQ,(.c 17 fK [bX,(.k (.str [59]))]), .o 18 (.un .not cy)]) (.cond cr (.run [.m 19 aQ, .c 20 gi [cD], .o 21 (.aq bh 9), .op none none (.store cM (.k (.bool true)) 1), .o 22 (.aq bh 5), .op none none (.store c9 cR 4)]) .skip)
abbrev anT:AC:= .seq (.run [.o 36 (.bin .eql bN (.k (.str [112,114,105,110,116]))), .m 35 fm]) (.cond fh (.run [.m 37 aQ, .c 38 gi [fy], .o 39 (.aq bh 1), .op none none (.store fM (.k (.int .i64 3)) 1), .o 40 (.aq bh 5), .op none none (.store gj fR 4)]) .skip)
abbrev anU:AC:= .seq (.run [.o 30 (.bin .eql bN (.k (.str [114,101,97,100]))), .m 29 eY]) (.cond ek (.run [.m 31 aQ, .c 32 eW [eo,(.k (.bool true))], .o 33 (.aq bh 1), .op none none (.store eJ (.k (.int .i64 2)) 1), .o 34 (.aq bh 3), .op none none (.store fb eZ 1)]) anT)
abbrev anV:AC:= .seq (.run [.o 24 (.bin .eql bN (.k (.str [103,111,116,111]))), .m 23 cU]) (.cond da (.run [.m 25 aQ, .c 26 eW [cW,(.k (.bool true))], .o 27 (.aq bh 1), .op none none (.store dH (.k (.int .i64 10)) 1), .o 28 (.aq bh 3), .op none none (.store dY dP 1)]) anU)
abbrev anW:AC:= .cond bT (.seq (.run [.o 15 (.aq bh 1), .op none none (.store b9 (.k (.int .i64 9)) 1)]) anS) anV
abbrev anX:AC:= .cond bS (.run [.o 12 (.aq bh 1), .op none none (.store bZ (.k (.int .i64 8)) 1)]) (.seq (.run [.o 14 (.bin .eql bN (.k (.str [114,101,116,117,114,110]))), .m 13 bI]) anW)
abbrev anY:AC:= .cond br (.run [.o 9 (.aq bh 1), .op none none (.store b8 (.k (.int .i64 7)) 1)]) (.seq (.run [.o 11 (.bin .eql bN (.k (.str [99,111,110,116,105,110,117,101]))), .m 10 bG]) anX)
abbrev anZ:AC:= .block 0 (.seq (.run [.o 8 (.bin .eql bN (.k (.str [98,114,101,97,107]))), .m 7 bP]) anY)
abbrev an0:AC:= .seq (.run [.o 4 (.alloc [(.int .i64 0),(.int .i64 0),(.slice .full 0 []),(.str []),(.str []),(.int .i64 0),(.int .i64 0),(.str []),(.slice .full 0 []),(.bool false),(.slice .full 0 []),(.slice .full 0 []),(.slice .full 0 [])])]) (.seq (.run [.o 5 (.alloc [(.int .i64 0),(.int .i64 0),(.slice .full 0 []),(.str []),(.str []),(.int .i64 0),(.int .i64 0),(.str []),(.slice .full 0 []),(.bool false),(.slice .full 0 []),(.slice .full 0 []),(.slice .full 0 [])])]) (.seq (.seq (.run [.m 6 aY]) anZ) (.seq (.run [.o 41 (.load bh true 13), .op none none (.store cu ga 13)]) .ret)))
abbrev an1:AC:= .cond cy (.seq (.run [.o 2 (.mv (.k (.int .i64 2)))]) .ret) .skip
abbrev an2:AC:= .cond bS (.seq (.run [.o 2 (.mv (.k (.int .i64 1)))]) .ret) (.seq (.run [.m 18 aQ, .o 19 (.bin .geq cr (.k (.int .i64 5))), .m 20 cD, .g 21 20 true (.mv aQ), .g 22 20 true (.bin .leq cM (.k (.int .i64 17))), .o 23 (.pick cR c9 (.k (.bool false))), .m 17 da]) an1)
abbrev an3:AC:= .cond bF (.seq (.run [.o 2 (.mv (.k (.int .i64 0)))]) .ret) (.seq (.run [.m 11 aQ, .o 12 (.bin .eql bG (.k (.int .i64 3))), .m 13 bZ, .g 14 13 false (.mv aQ), .g 15 13 false (.bin .eql bI (.k (.int .i64 4))), .o 16 (.pick bT (.k (.bool true)) b9), .m 10 bX]) an2)
abbrev an4:AC:= .block 0 (.seq (.run [.m 4 aQ, .o 5 (.bin .eql cu (.k (.int .i64 1))), .m 6 bh, .g 7 6 false (.mv aQ), .g 8 6 false (.bin .eql br (.k (.int .i64 2))), .o 9 (.pick bN (.k (.bool true)) bP), .m 3 b8]) an3)
abbrev an5:AC:= .seq (.run [(.o 2 (.mv (.k (.int .i64 (-1)))))]) .ret
abbrev an6:AC:= .seq (.run [.o 2 (.mv (.k (.int .i64 0)))]) (.seq an4 an5)
abbrev an7:AC:= .par [.o 24 (.aq br 10), .o 25 (.load cU false 1), .m 26 aQ, .c 27 eW [dP,(.k (.bool true))],(.o 28 (.build [(.bool false),(.str []),(.int .i64 0),(.int .i64 0),(.str []),(.slice .full 0 [])] [(0,(1,(.k (.bool true)))),(1,(1,dH))])), .o 29 (.cG [(.bool false),(.str []),(.int .i64 0),(.int .i64 0),(.str []),(.slice .full 0 [])] 6 1 [(0,dY)]), .o 30 (.app 6 80 cW ek), .o 31 (.aq br 10), .op none none (.store eo eY 1)] [(2,0),(3,0),(0,0),(1,1),(4,0),(5,0),(6,0),(7,0),(8,0)]
abbrev an8:AC:= .par [.o 32 (.aq br 10), .o 33 (.load eZ false 1), .m 34 aQ, .c 35 gi [fb], .o 36 (.build [(.bool false),(.str []),(.int .i64 0),(.int .i64 0),(.str []),(.slice .full 0 [])] [(2,(4,fh))]), .o 37 (.cG [(.bool false),(.str []),(.int .i64 0),(.int .i64 0),(.str []),(.slice .full 0 [])] 6 1 [(0,fm)]), .o 38 (.app 6 80 eJ fy), .o 39 (.aq br 10), .op none none (.store fM fR 1)] [(2,0),(3,0),(0,0),(1,1),(4,0),(5,0),(6,0),(7,0),(8,0)]
abbrev an9:AC:= .seq (.seq (.run [.m 22 aQ,(.c 23 dE [c9,(.k (.str [114,101,102]))])]) (.cond da an7 an8)) (.seq (.run [.m 40 aQ,(.c 41 dE [gj,(.k (.str [44]))]), .o 42 (.un .not ga)]) (.cond gO (.exit 0) .skip))
abbrev aoa:AC:= .block 0 (.loop (.seq (.seq (.run [.m 20 aQ, .c 21 cT [cR]]) (.cond cM .skip (.exit 0))) (.block 1 an9)))
abbrev aob:AC:= .seq (.run [.m 43 aQ,(.c 44 df [gX,(.k (.str [41]))])]) (.seq (.run [.m 45 aQ,(.c 46 df [iT,(.k (.str [59]))])]) (.seq (.run [.o 47 (.load br true 13), .op none none (.store bN jc 13)]) .ret))
abbrev aoc:AC:= .seq (.seq (.run [.m 13 aQ, .c 14 cT [bT], .m 15 bI, .g 16 15 true (.mv aQ),(.d 17 15 true fK [bX,(.k (.str [41]))]), .g 18 15 true (.un .not cy), .o 19 (.pick b9 cr (.k (.bool false)))]) (.cond cD aoa .skip)) aob
abbrev aod:AC:= .seq (.run [.m 8 aY, .m 9 cQ,(.o 10 (.build [(.int .i64 0),(.int .i64 0),(.slice .full 0 []),(.str []),(.str []),(.int .i64 0),(.int .i64 0),(.str []),(.slice .full 0 []),(.bool false),(.slice .full 0 []),(.slice .full 0 []),(.slice .full 0 [])] [(1,(1,(.k (.int .i64 4)))),(3,(1,bP)),(4,(1,b8))])), .o 7 (.alloc [(.int .i64 0),(.int .i64 0),(.slice .full 0 []),(.str []),(.str []),(.int .i64 0),(.int .i64 0),(.str []),(.slice .full 0 []),(.bool false),(.slice .full 0 []),(.slice .full 0 []),(.slice .full 0 [])]), .op none none (.store br bS 13)]) (.seq (.run [.m 11 aQ,(.c 12 df [bG,(.k (.str [40]))])]) aoc)
abbrev aoe:AC:= .seq (.run [.o 6 (.alloc [(.int .i64 0),(.int .i64 0),(.slice .full 0 []),(.str []),(.str []),(.int .i64 0),(.int .i64 0),(.str []),(.slice .full 0 []),(.bool false),(.slice .full 0 []),(.slice .full 0 []),(.slice .full 0 [])])]) aod
abbrev aof:AC:= .cond bX (.run [.m 17 aQ, .m 18 bF,(.o 19 (.build [(.int .i64 0),(.int .i64 0)] [(0,(1,(.k (.int .i64 4)))),(1,(1,cr))])), .o 20 (.dv cy), .o 21 (.aq cR 2), .op none none (.store cM cD 2)]) .skip
abbrev aog:AC:= .seq (.seq (.run [.m 10 aQ, .c 11 cT [bS], .m 12 bG, .g 13 12 true (.load cu true 4), .d 14 12 true lH [bT], .g 15 12 true (.bin .gtr bI (.k (.int .i64 20))), .o 16 (.pick bZ b9 (.k (.bool false)))]) aof) (.seq (.run [.o 22 (.load cu true 4), .op none none (.store cQ c9 4)]) .ret)
abbrev aoh:AC:= .seq (.run [.o 2 (.alloc [(.int .i64 0),(.int .i64 0),(.str []),(.slice .full 0 [])])]) (.seq (.run [.m 5 aQ, .c 6 dF [bh], .o 7 (.rz bN 3 false 1), .m 3 br]) (.seq (.run [.m 8 aQ, .c 9 iY [bP,(.k (.int .i64 1))], .o 4 (.alloc [(.int .i64 0),(.int .i64 0),(.str []),(.slice .full 0 [])]), .op none none (.store cu b8 4)]) aog))
abbrev aoi:AC:= .seq (.run [.m 27 aQ, .o 28 (.dv dH), .o 29 (.aq dY 1), .o 30 (.load ek false 1), .o 31 (.bin .add eY (.k (.int .i64 1))), .o 32 (.dv dH), .o 33 (.aq eZ 1), .op none none (.store eJ eo 1)]) (.seq (.run [.m 34 aQ, .m 35 br, .o 36 (.bin .add fh (.k (.int .i64 1))), .c 37 iY [fb,fm], .o 8 (.alloc [(.int .i64 0),(.int .i64 0),(.str []),(.slice .full 0 [])]), .op none none (.store bP fy 4)]) (.run [.m 38 bN, .o 39 (.load bh true 4), .o 40 (.load bP true 4), .o 41 (.cG [(.int .i64 0),(.int .i64 0),(.str []),(.slice .full 0 [])] 4 2 [(0,fM),(1,gj)]), .o 42 (.build [(.int .i64 0),(.int .i64 0),(.str []),(.slice .full 0 [])] [(0,(1,fR)),(3,(1,ga))]), .op none none (.store bh gO 4)]))
abbrev aoj:AC:= .seq (.seq (.run [.m 19 br, .m 20 aY, .o 21 (.bin .lss cD cR), .m 22 cM, .g 23 22 false (.mv bN), .g 24 22 false (.bin .eql da (.k (.int .i64 0))), .o 25 (.pick c9 (.k (.bool true)) cU)]) (.cond cW (.seq (.run [.o 26 (.load bh true 4), .op none none (.store cu dP 4)]) .ret) .skip)) aoi
abbrev aok:AC:= .loop (.seq (.seq (.run [.m 11 aQ, .c 12 cT [bG]]) (.cond bZ .skip (.exit 0))) (.block 1 (.seq (.run [.m 14 aQ, .c 15 dF [bI], .c 16 ug [b9], .m 13 bX, .o 17 (.ext bT 0), .o 18 (.ext bT 1), .m 6 cy, .m 7 cr]) aoj)))
abbrev aol:AC:= .seq (.run [.o 4 (.alloc [(.int .i64 0),(.int .i64 0),(.str []),(.slice .full 0 [])])]) (.seq (.run [.m 9 aQ, .c 10 kl [b8], .o 5 (.alloc [(.int .i64 0),(.int .i64 0),(.str []),(.slice .full 0 [])]), .op none none (.store bh bS 4)]) (.seq (.block 0 aok) (.seq (.run [.o 43 (.load bh true 4), .op none none (.store cu gX 4)]) .ret)))
abbrev aom:AC:= .seq (.block 1 (.seq (.run [.o 11 (.bA br b8 4), .o 12 (.load bG true 4), .o 5 (.alloc [(.int .i64 0),(.int .i64 0),(.str []),(.slice .full 0 [])]), .op none none (.store bh bZ 4)]) (.run [.m 13 bF, .o 14 (.load bh true 4), .c 15 lH [bI], .o 16 (.mm true bT b9), .m 3 bX]))) (.run [.o 17 (.bin .add b8 (.k (.int .i64 1))), .m 9 cy])
abbrev aon:AC:= .block 0 (.loop (.seq (.run [.o 10 (.bin .lss b8 bP)]) (.seq (.cond bS .skip (.exit 0)) aom)))
abbrev aoo:AC:= .seq (.seq (.run [.o 6 (.aq aY 3), .o 7 (.load bN false 1), .o 8 (.len br), .o 9 (.mv (.k (.int .i64 0)))]) aon) (.seq (.run [.m 18 bF, .o 19 (.bin .add cr (.k (.int .i64 1))), .m 2 cD]) .ret)
abbrev aop:AC:= .seq (.run [.o 1 (.box aQ), .o 2 (.mv (.k (.int .i64 0)))]) (.seq (.run [.o 3 (.mv (.k (.int .i64 0)))]) aoo)
abbrev aoq:AC:= .seq (.run [.m 7 aQ, .c 8 cT [br], .o 9 (.un .not bP)]) (.cond b8 (.seq (.run [.o 10 (.build [(.int .i64 0),(.int .i64 0),(.str []),(.slice .full 0 [])] []), .op none none (.store cQ bS 4)]) .ret) .skip)
abbrev aor:AC:= .seq (.run [.o 22 (.aq bF 2), .o 23 (.load c9 false 1),(.o 24 (.build [(.int .i64 0),(.int .i64 0),(.str []),(.slice .full 0 [])] [(0,(1,(.k (.int .i64 1)))),(1,(1,da))])), .op none none (.store cQ cU 4)]) .ret
abbrev aos:AC:= .seq (.run [.o 36 (.aq bF 1), .o 37 (.load fm false 1),(.o 38 (.build [(.int .i64 0),(.int .i64 0),(.str []),(.slice .full 0 [])] [(0,(1,(.k (.int .i64 2)))),(2,(1,fy))])), .op none none (.store cQ fR 4)]) .ret
abbrev aot:AC:= .seq (.run [.m 42 aQ, .c 43 iY [gO,(.k (.int .i64 1))], .o 4 (.alloc [(.int .i64 0),(.int .i64 0),(.str []),(.slice .full 0 [])]), .op none none (.store cu gX 4)]) (.seq (.run [.m 44 aQ,(.c 45 df [ic,(.k (.str [41]))])]) (.seq (.run [.o 46 (.load cu true 4), .op none none (.store cQ iU 4)]) .ret))
abbrev aou:AC:= .seq (.run [.m 50 aQ, .c 51 kl [jn], .o 52 (.cG [(.int .i64 0),(.int .i64 0),(.str []),(.slice .full 0 [])] 4 1 [(0,jd)]),(.o 53 (.build [(.int .i64 0),(.int .i64 0),(.str []),(.slice .full 0 [])] [(0,(1,(.k (.int .i64 3)))),(3,(1,jC))])), .op none none (.store cQ jD 4)]) .ret
abbrev aov:AC:= .seq (.run [.m 57 aQ, .c 58 kl [kL], .o 59 (.cG [(.int .i64 0),(.int .i64 0),(.str []),(.slice .full 0 [])] 4 1 [(0,ld)]),(.o 60 (.build [(.int .i64 0),(.int .i64 0),(.str []),(.slice .full 0 [])] [(0,(1,(.k (.int .i64 4)))),(3,(1,km))])), .op none none (.store cQ nH 4)]) .ret
abbrev aow:AC:= .cond jc aou (.seq (.run [.m 55 aQ,(.c 56 dE [jT,(.k (.str [33]))]), .m 54 lb]) (.cond jS aov .skip))
abbrev aox:AC:= .cond fM aot (.seq (.run [.m 48 aQ,(.c 49 dE [iw,(.k (.str [45]))]), .m 47 iJ]) aow)
abbrev aoy:AC:= .cond cW (.seq (.run [.m 29 aQ, .o 30 (.dv ek), .o 31 (.aq eY 1), .o 32 (.load eo false 1), .o 33 (.bin .add eZ (.k (.int .i64 1))), .o 34 (.dv ek), .o 35 (.aq fb 1), .op none none (.store fh eJ 1)]) aos) (.seq (.run [.m 40 aQ,(.c 41 dE [gj,(.k (.str [40]))]), .m 39 ga]) aox)
abbrev aoz:AC:= .cond bG (.seq (.run [.m 15 aQ, .o 16 (.dv b9), .o 17 (.aq bX 1), .o 18 (.load cy false 1), .o 19 (.bin .add cr (.k (.int .i64 1))), .o 20 (.dv b9), .o 21 (.aq cR 1), .op none none (.store cM cD 1)]) aor) (.seq (.run [.o 26 (.aq bF 0), .o 27 (.load dP false 1), .o 28 (.bin .eql dH (.k (.int .i64 1))), .m 25 dY]) aoy)
abbrev aoA:AC:= .block 0 (.seq (.run [.o 12 (.aq bF 0), .o 13 (.load bZ false 1), .o 14 (.bin .eql bT (.k (.int .i64 2))), .m 11 bI]) aoz)
abbrev aoB:AC:= .seq aoA (.seq (.run [.m 61 aQ, .c 62 fi [oi,(.k (.int .i64 3))]]) (.seq (.run [.o 63 (.build [(.int .i64 0),(.int .i64 0),(.str []),(.slice .full 0 [])] []), .op none none (.store cQ nI 4)]) .ret))
abbrev aoC:AC:= .seq (.run [.o 2 (.alloc [(.int .i64 0),(.int .i64 0),(.str []),(.slice .full 0 [])])]) (.seq (.run [.m 5 aQ, .c 6 dF [bh], .o 3 (.alloc [(.int .i64 0),(.str []),(.int .i64 0),(.int .i64 0)]), .op none none (.store bF bN 4)]) (.seq aoq aoB))
abbrev aoD:AC:= .cond bN (.seq (.run [.o 2 (.mv (.k (.int .i64 0))), .o 3 (.mv (.k (.int .i64 0)))]) .ret) .skip
abbrev aoE:AC:= .cond eJ (.seq (.run [.o 2 (.mv (.k (.int .i64 7))), .o 3 (.mv (.k (.int .i64 6)))]) .ret) .skip
abbrev aoF:AC:= .cond eo (.seq (.run [.o 2 (.mv (.k (.int .i64 6))), .o 3 (.mv (.k (.int .i64 6)))]) .ret) (.seq (.run [.o 34 (.bin .eql bP (.k (.str [37]))), .m 33 fb]) aoE)
abbrev aoG:AC:= .cond ek (.seq (.run [.o 2 (.mv (.k (.int .i64 5))), .o 3 (.mv (.k (.int .i64 6)))]) .ret) (.seq (.run [.o 32 (.bin .eql bP (.k (.str [47]))), .m 31 eZ]) aoF)
abbrev aoH:AC:= .cond dH (.seq (.run [.o 2 (.mv (.k (.int .i64 9))), .o 3 (.mv (.k (.int .i64 5)))]) .ret) (.seq (.run [.o 30 (.bin .eql bP (.k (.str [42]))), .m 29 eY]) aoG)
abbrev aoI:AC:= .cond cW (.seq (.run [.o 2 (.mv (.k (.int .i64 8))), .o 3 (.mv (.k (.int .i64 5)))]) .ret) (.seq (.run [.o 28 (.bin .eql bP (.k (.str [45]))), .m 27 dY]) aoH)
abbrev aoJ:AC:= .cond da (.seq (.run [.o 2 (.mv (.k (.int .i64 13))), .o 3 (.mv (.k (.int .i64 4)))]) .ret) (.seq (.run [.o 26 (.bin .eql bP (.k (.str [43]))), .m 25 dP]) aoI)
abbrev aoK:AC:= .cond cM (.seq (.run [.o 2 (.mv (.k (.int .i64 12))), .o 3 (.mv (.k (.int .i64 4)))]) .ret) (.seq (.run [.o 24 (.bin .eql bP (.k (.str [62,61]))), .m 23 cU]) aoJ)
abbrev aoL:AC:= .cond cD (.seq (.run [.o 2 (.mv (.k (.int .i64 11))), .o 3 (.mv (.k (.int .i64 4)))]) .ret) (.seq (.run [.o 22 (.bin .eql bP (.k (.str [62]))), .m 21 c9]) aoK)
abbrev aoM:AC:= .cond cy (.seq (.run [.o 2 (.mv (.k (.int .i64 10))), .o 3 (.mv (.k (.int .i64 4)))]) .ret) (.seq (.run [.o 20 (.bin .eql bP (.k (.str [60,61]))), .m 19 cR]) aoL)
abbrev aoN:AC:= .cond b9 (.seq (.run [.o 2 (.mv (.k (.int .i64 15))), .o 3 (.mv (.k (.int .i64 3)))]) .ret) (.seq (.run [.o 18 (.bin .eql bP (.k (.str [60]))), .m 17 cr]) aoM)
abbrev aoO:AC:= .cond bT (.seq (.run [.o 2 (.mv (.k (.int .i64 14))), .o 3 (.mv (.k (.int .i64 3)))]) .ret) (.seq (.run [.o 16 (.bin .eql bP (.k (.str [33,61]))), .m 15 bX]) aoN)
abbrev aoP:AC:= .cond bG (.seq (.run [.o 2 (.mv (.k (.int .i64 16))), .o 3 (.mv (.k (.int .i64 2)))]) .ret) (.seq (.run [.o 14 (.bin .eql bP (.k (.str [61,61]))), .m 13 bI]) aoO)
abbrev aoQ:AC:= .cond b8 (.seq (.run [.o 2 (.mv (.k (.int .i64 17))), .o 3 (.mv (.k (.int .i64 1)))]) .ret) (.seq (.run [.o 12 (.bin .eql bP (.k (.str [38,38]))), .m 11 bZ]) aoP)
abbrev aoR:AC:= .block 0 (.seq (.run [.o 10 (.bin .eql bP (.k (.str [124,124]))), .m 9 bS]) aoQ)
abbrev aoS:AC:= .seq (.seq (.run [.o 7 (.aq aY 1), .o 8 (.load br false 1)]) aoR) (.seq (.run [.o 2 (.mv (.k (.int .i64 0))), .o 3 (.mv (.k (.int .i64 0)))]) .ret)
abbrev aoT:AC:= .seq (.seq (.run [.o 4 (.aq aY 0), .o 5 (.load cu false 1), .o 6 (.bin .neq bh (.k (.int .i64 4)))]) aoD) aoS
abbrev aoU:AC:= .seq (.run [.o 1 (.box aQ), .o 2 (.mv (.k (.int .i64 0))), .o 3 (.mv (.k (.int .i64 0)))]) aoT
end Go.Abs

/-! Have5 -/

namespace Go.Abs
open Go.Proofs
theorem xN:Has Tryz.prog oh 71 [(4,(some (true,13)))] amH:=⟨Tryz.f205,by kernel_rfl,by kernel_rfl⟩
theorem zo:Has Tryz.prog pV 36 [(4,none)] amN:=⟨Tryz.f206,by kernel_rfl,by kernel_rfl⟩
theorem GZ:Has Tryz.prog pW 60 [(2,none)] amU:=⟨Tryz.f207,by kernel_rfl,by kernel_rfl⟩
theorem v7:Has Tryz.prog n3 22 [(4,none)] amY:=⟨Tryz.f208,by kernel_rfl,by kernel_rfl⟩
theorem ES:Has Tryz.prog vd 2 [(0,none)] am0:=⟨Tryz.f209,by kernel_rfl,by kernel_rfl⟩
theorem ET:Has Tryz.prog ve 24 [(2,none)] am6:=⟨Tryz.f210,by kernel_rfl,by kernel_rfl⟩
theorem EU:Has Tryz.prog vf 36 [(4,none)] anb:=⟨Tryz.f215,by kernel_rfl,by kernel_rfl⟩
theorem zp:Has Tryz.prog pX 61 [(4,none)] anp:=⟨Tryz.f219,by kernel_rfl,by kernel_rfl⟩
theorem vE:Has Tryz.prog mV 23 [(2,none)] anE:=⟨Tryz.f226,by kernel_rfl,by kernel_rfl⟩
theorem xa:Has Tryz.prog nF 64 [(2,(some (true,13)))] anK:=⟨Tryz.f227,by kernel_rfl,by kernel_rfl⟩
theorem vF:Has Tryz.prog mW 20 [(4,(some (true,13)))] anN:=⟨Tryz.f228,by kernel_rfl,by kernel_rfl⟩
theorem xO:Has Tryz.prog ln 11 [(2,(some (true,4)))] anP:=⟨Tryz.f229,by kernel_rfl,by kernel_rfl⟩
theorem xb:Has Tryz.prog jm 17 [(4,none)] anR:=⟨Tryz.f230,by kernel_rfl,by kernel_rfl⟩
theorem xc:Has Tryz.prog nG 42 [(4,(some (true,13)))] an0:=⟨Tryz.f231,by kernel_rfl,by kernel_rfl⟩
theorem G0:Has Tryz.prog wZ 24 [(2,none)] an6:=⟨Tryz.f237,by kernel_rfl,by kernel_rfl⟩
theorem xP:Has Tryz.prog lq 48 [(6,(some (true,13)))] aoe:=⟨Tryz.f239,by kernel_rfl,by kernel_rfl⟩
theorem xd:Has Tryz.prog gi 23 [(2,(some (true,4)))] aoh:=⟨Tryz.f240,by kernel_rfl,by kernel_rfl⟩
theorem yD:Has Tryz.prog iY 44 [(4,(some (true,4)))] aol:=⟨Tryz.f242,by kernel_rfl,by kernel_rfl⟩
theorem Dq:Has Tryz.prog lH 20 [(2,none)] aop:=⟨Tryz.f243,by kernel_rfl,by kernel_rfl⟩
theorem yE:Has Tryz.prog kl 64 [(2,(some (true,4)))] aoC:=⟨Tryz.f244,by kernel_rfl,by kernel_rfl⟩
theorem IS:Has Tryz.prog ug 35 [(2,none),(3,none)] aoU:=⟨Tryz.f245,by kernel_rfl,by kernel_rfl⟩
end Go.Abs

/-! Have3 -/

namespace Go.Abs
open Go.Proofs
theorem EV:Has Tryz.prog u7 37 [(6,none)] aiT:=⟨Tryz.f120,by kernel_rfl,by kernel_rfl⟩
theorem xQ:Has Tryz.prog u9 28 [(4,none)] ai0:=⟨Tryz.f121,by kernel_rfl,by kernel_rfl⟩
theorem BD:Has Tryz.prog qU 38 [(6,none),(7,none)] ai7:=⟨Tryz.f122,by kernel_rfl,by kernel_rfl⟩
theorem v8:Has Tryz.prog tj 15 [(4,none)] ai8:=⟨Tryz.f123,by kernel_rfl,by kernel_rfl⟩
theorem G1:Has Tryz.prog wW 40 [(4,none)] aje:=⟨Tryz.f124,by kernel_rfl,by kernel_rfl⟩
theorem zB:Has Tryz.prog mH 12 [(4,none)] ajf:=⟨Tryz.f125,by kernel_rfl,by kernel_rfl⟩
theorem G2:Has Tryz.prog pU 9 [(2,none)] ajg:=⟨Tryz.f128,by kernel_rfl,by kernel_rfl⟩
theorem Av:Has Tryz.prog yv 42 [(4,none)] ajG:=⟨Tryz.f129,by kernel_rfl,by kernel_rfl⟩
theorem EW:Has Tryz.prog va 28 [(2,none),(3,none)] ajM:=⟨Tryz.f130,by kernel_rfl,by kernel_rfl⟩
theorem xR:Has Tryz.prog dE 21 [(4,none)] ajQ:=⟨Tryz.f131,by kernel_rfl,by kernel_rfl⟩
theorem xe:Has Tryz.prog jl 25 [(6,none)] ajU:=⟨Tryz.f132,by kernel_rfl,by kernel_rfl⟩
theorem xS:Has Tryz.prog cT 9 [(2,none)] ajV:=⟨Tryz.f133,by kernel_rfl,by kernel_rfl⟩
theorem zC:Has Tryz.prog fK 22 [(4,none)] ajX:=⟨Tryz.f134,by kernel_rfl,by kernel_rfl⟩
theorem yF:Has Tryz.prog fi 14 [] ajY:=⟨Tryz.f135,by kernel_rfl,by kernel_rfl⟩
theorem xT:Has Tryz.prog og 56 [(2,(some (true,5)))] aj6:=⟨Tryz.f136,by kernel_rfl,by kernel_rfl⟩
theorem xU:Has Tryz.prog dF 13 [(2,(some (true,4)))] aj8:=⟨Tryz.f137,by kernel_rfl,by kernel_rfl⟩
theorem vG:Has Tryz.prog gR 8 [(2,none)] aka:=⟨Tryz.f138,by kernel_rfl,by kernel_rfl⟩
theorem tx:Has Tryz.prog la 8 [(2,none)] akc:=⟨Tryz.f139,by kernel_rfl,by kernel_rfl⟩
theorem Dr:Has Tryz.prog kA 78 [(6,none),(7,none)] akm:=⟨Tryz.f140,by kernel_rfl,by kernel_rfl⟩
theorem zq:Has Tryz.prog mb 65 [(10,none)] akt:=⟨Tryz.f142,by kernel_rfl,by kernel_rfl⟩
theorem xV:Has Tryz.prog qV 8 [(2,none)] akw:=⟨Tryz.f143,by kernel_rfl,by kernel_rfl⟩
theorem EX:Has Tryz.prog mS 15 [(2,none)] akB:=⟨Tryz.f148,by kernel_rfl,by kernel_rfl⟩
theorem zr:Has Tryz.prog jf 38 [(2,none)] akI:=⟨Tryz.f149,by kernel_rfl,by kernel_rfl⟩
theorem IT:Has Tryz.prog yw 178 [(2,none)] akU:=⟨Tryz.f150,by kernel_rfl,by kernel_rfl⟩
theorem Ct:Has Tryz.prog rO 56 [(4,none)] ak3:=⟨Tryz.f152,by kernel_rfl,by kernel_rfl⟩
theorem EY:Has Tryz.prog oZ 18 [(4,none)] ak4:=⟨Tryz.f158,by kernel_rfl,by kernel_rfl⟩
theorem EZ:Has Tryz.prog qW 18 [(4,none)] ak5:=⟨Tryz.f159,by kernel_rfl,by kernel_rfl⟩
theorem Ds:Has Tryz.prog tn 27 [(2,none)] alb:=⟨Tryz.f160,by kernel_rfl,by kernel_rfl⟩
theorem G3:Has Tryz.prog mc 33 [(2,none)] ali:=⟨Tryz.f161,by kernel_rfl,by kernel_rfl⟩
theorem xW:Has Tryz.prog qX 8 [(2,none)] alm:=⟨Tryz.f162,by kernel_rfl,by kernel_rfl⟩
theorem qm:Has Tryz.prog gK 9 [(4,none)] aln:=⟨Tryz.f163,by kernel_rfl,by kernel_rfl⟩
theorem BE:Has Tryz.prog oz 8 [(3,none)] alo:=⟨Tryz.f164,by kernel_rfl,by kernel_rfl⟩
theorem Dt:Has Tryz.prog tp 33 [(4,none)] als:=⟨Tryz.f165,by kernel_rfl,by kernel_rfl⟩
end Go.Abs

/-! Frz -/

namespace Go.Abs
theorem aE.zI {P:Program} {f:Nat} {args:List D} {s0 s:St} {o off n m:Nat} {row:List D} (h:aE P f args s0 (.ptr o off) s) (ho:s.aG[o]? = some row) (hn:s0.aG.length≤n) (hno:n≤o) (hm:s0.aH.length≤m) :
 aE P f args s0 (.dU (D.il n m row) off) (s.cut n m):=by
 intro M0 w0 gw r0 lk aoV ha
 refine(h M0 w0 gw r0 lk aoV ha).mono ?_
 rintro en w ⟨M,d,v0,s',rfl,⟨rfl,rfl⟩,e,r,hv⟩
 have xv:=hv.zQ
 have s6:v0 = .pointer (some ⟨M.mu o,off,none⟩):=hv.rG.1
 have NH:o<s'.aG.length:=(List.getElem?_eq_some_iff.1 ho).1
 obtain⟨vs,T,hh,e9,⟨lD,_⟩,pR⟩:=r.obj o row ho
 replace hh:=hh.cells xv
 let M':Map:= {M with G:=fun b q=>if b=M.mu o then vs[q]? else M.G b q}
 have hGo : ∀ q,M.G (M.mu o) q=none:=r.k7 o NH
 have le:Le M s' M' s':=⟨fun b q v hq=>by
  show(if b=M.mu o then vs[q]? else M.G b q)=some v
  by_cases hb:b=M.mu o
  ·subst hb;rw [hGo]at hq;cases hq
  ·rw [if_neg hb];exact hq,Nat.le_refl _,fun _ _=>rfl,Nat.le_refl _,fun t n' _ e=>⟨n',e,Nat.le_refl _,fun _=>rfl⟩⟩
 have hF : ∀ q,q<(s'.cut n m).aG.length→q<s'.aG.length∧q≠o:=fun q h=>by rw [ql]at h;omega
 have sr:w0.heap.size≤M.mu o:=e.qB o (by omega) NH
 have ec:=e.cut hn hm
 have Z6:Le M (s'.cut n m) M' (s'.cut n m):=⟨le.G,Nat.le_refl _,fun _ _=>rfl,Nat.le_refl _,fun t n' _ e=>⟨n',e,Nat.le_refl _,fun _=>rfl⟩⟩
 have rc:=r.cut n m
 have sE : ∀ b,b≠M.mu o→∀ q,M'.G b q=M.G b q:=fun b hb q=>if_neg hb
 refine⟨M',_,v0,_,rfl,⟨rfl,rfl⟩,⟨ec.le.trans Z6,ec.kept,ec.qB,ec.qC,fun b q fE=> ?_,ec.size,ec.os,ec.tape,ec.output⟩,⟨fun b q v hq=> ?_,fun q ds hq=> ?_,fun q hq wJ=> ?_,rc.inj,fun t n' O7=> ?_,rc.fL,rc.gq⟩, ?_⟩
 ·by_cases hb:b=M.mu o
  ·subst hb;exact .inl sr
  ·rw [sE b hb]at fE;exact ec.sZ b q fE
 ·have rA:(if b=M.mu o then vs[q]? else M.G b q)=some v:=hq
  by_cases hb:b=M.mu o
  ·rw [if_pos hb]at rA
   rw [hb,kP hh]
   exact⟨rA,lD v (Array.mem_of_getElem? rA)⟩
  ·rw [if_neg hb]at rA
   exact r.comm b q v rA
 ·obtain⟨fW,T',h3,h4,h5,h6⟩:=rc.obj q ds hq
  exact⟨fW,T',h3,h4,h5,fun i d v e1 e2=>(h6 i d v e1 e2).mono Z6⟩
 ·obtain⟨h3,h4⟩:=hF q hq
  show M'.G (M.mu q) wJ=none
  rw [sE _ (fun e=>h4 (r.inj q o h3 NH e))]
  exact r.k7 q h3 wJ
 ·rcases rc.tok t n' O7 with h3 | ⟨b,cap,z,fW,T',h3,h4,h5,h6,h7⟩
  ·exact .inl h3
  ·refine .inr ⟨b,cap,z,fW,T',h3,h4,h5,h6,fun wJ Ch=> ?_,h7.2⟩
   rw [sE _ (fun e=>r.fL t b cap z o (uL ⟨n',O7⟩) h3 NH e.symm)]
   exact h7.1 wJ Ch
 ·rw [s6]
  have:=RD.dU (M:=M') (s:=s'.cut n m) (D.il n m row) off (M.mu o) 0 (fun i d e1=> ?_) (fun i d u e1 eu=> ?_)
  ·simpa using this
  ·rw [nV,List.getElem?_map,Option.map_eq_some_iff]at e1
   obtain⟨d0,e1,rfl⟩:=e1
   have hi:=(List.getElem?_eq_some_iff.1 e1).1
   refine⟨vs[i]'(by omega), ?_⟩
   show(if M.mu o=M.mu o then vs[0+i]? else _)=_
   rw [if_pos rfl,Nat.zero_add]
   exact Array.getElem?_eq_getElem _
  ·rw [nV,List.getElem?_map,Option.map_eq_some_iff]at e1
   obtain⟨d0,e1,rfl⟩:=e1
   have KY:(if M.mu o=M.mu o then vs[0+i]? else M.G (M.mu o) (0+i))=some u:=eu
   rw [if_pos rfl,Nat.zero_add]at KY
   exact((pR i d0 u e1 KY).fg n m).mono Z6
theorem aE.goK {P:Program} {f:FuncId} {res:List (Nat×Option (Bool×Nat))} {body:AC} {args:List D} {s:St} {d:D} {s':St} {nt:Nat} (n m:Nat) (hn:s.aG.length≤n) (hm:s.aH.length≤m) (h0:Has P f nt res body) (hl:Nat.ble args.length nt=true)
 (h : ∀ (B:fI) (Q:Exit→Tm→St→Prop),B.s=s→iS n m res d s'=Q→gU P B nt body Q (ou 0 args) s):aE P f args s d s':=by
 obtain⟨fn,hf,hc⟩:=h0
 refine eU.Vm (eU.intro (Q:=fun d1 s1=>Wk d1 d∧iF s1.aG s'.aG∧s1.aH=s'.aH) hf hc (Nat.le_of_ble_eq_true hl) fun B hB=>(iA (h B _ hB rfl)).mono fun e tm s1 hr=> ?_) fun d1 s1 ⟨h1,h2,h3⟩=>⟨d,s',h1,h2,h3,rfl,rfl⟩
 subst hB
 cases e with
 | normal=>obtain⟨l,h1,h2,h3,h4⟩:=hr;exact⟨l,h1,_,_,hn,hm,h2,h3,h4⟩
 | ret=>obtain⟨l,h1,h2,h3,h4⟩:=hr;exact⟨l,h1,_,_,hn,hm,h2,h3,h4⟩
 | exit id=>exact hr.elim
 | goto l=>exact hr.elim
 | panic ch=>exact hr.elim
 | outgrown=>exact hr.elim
end Go.Abs

/-! MirLex -/

namespace Go.Abs
def pY (c:UInt8):Bool:=decide ((c.toNat:Int)≥97) && decide ((c.toNat:Int)≤122)
def oA (c:UInt8):Bool:=decide ((c.toNat:Int)≥48) && decide ((c.toNat:Int)≤57)
def vj (c:UInt8):Bool:=(c.toNat:Int)==32 || (c.toNat:Int)==9 || (c.toNat:Int)==10 || (c.toNat:Int)==13
def lF:aF→Nat
 | []=>0
 | c::r=>if pY c || oA c then lF r+1 else 0
def q7:aF→Nat
 | []=>0
 | c::r=>if oA c then q7 r+1 else 0
def oB:aF→Nat
 | []=>0
 | c::r=>if(c.toNat:Int) != 10 then oB r+1 else 0
def isWord (s:aF):Bool:=
 s == [103,108,111,98,97,108] || s == [112,114,111,99] || s == [118,97,114] || s == [114,101,102] || s == [105,102] || s == [101,108,115,101] || s == [119,104,105,108,101] || s == [98,114,101,97,107] || s == [99,111,110,116,105,110,117,101] || s == [114,101,116,117,114,110] || s == [103,111,116,111] || s == [114,101,97,100] || s == [112,114,105,110,116]
def Wc (s:aF):Bool:=s == [61,61] || s == [33,61] || s == [60,61] || s == [62,61] || s == [38,38] || s == [124,124]
def Hs (c:UInt8):Bool:=
 (c.toNat:Int)==40 || (c.toNat:Int)==41 || (c.toNat:Int)==123 || (c.toNat:Int)==125 || (c.toNat:Int)==44 || (c.toNat:Int)==59 || (c.toNat:Int)==58 || (c.toNat:Int)==61 ||
 (c.toNat:Int)==33 || (c.toNat:Int)==60 || (c.toNat:Int)==62 || (c.toNat:Int)==43 || (c.toNat:Int)==45 || (c.toNat:Int)==42 || (c.toNat:Int)==47 || (c.toNat:Int)==37
def su:aF→Nat
 | []=>0
 | [c]=>if Hs c then 1 else 0
 | c::d::_=>if Wc [c,d]then 2 else if Hs c then 1 else 0
def wa:Int→aF→Option Int
 | n,[]=>some n
 | n,c::r=>if n > (9223372036854775807 - ((c.toNat:Int) - 48)) / 10 then none else wa (n*10+((c.toNat:Int) - 48)) r
def E0 (pos:Nat):aF→cj ⊕ Int
 | []=> .inr 2
 | c::r=>
  if pY c then
   let s:=(c::r).take (lF (c::r))
   if s.length > 8 then .inr 4 else .inl ⟨if isWord s then 3 else 1,s,0,pos⟩
  else if oA c then
   let s:=(c::r).take (q7 (c::r))
   if s.length > 1∧(c.toNat:Int)=48 then .inr 2 else
   match wa 0 s with
   | some n=> .inl ⟨2,s,n,pos⟩
   | none=> .inr 4
  else
   if su (c::r)=0 then .inr 2 else .inl ⟨4,(c::r).take (su (c::r)),0,pos⟩
def nJ:Nat→Nat→aF→List cj→List cj×Int×Int
 | 0,_,_,_=>([],0,0)
 | _+1,pos,[],out=>(out++ [⟨0,[],0,pos⟩],0,0)
 | n+1,pos,c::r,out=>
  if vj c then nJ n (pos+1) r out
  else if(c.toNat:Int)==35 then nJ n (pos+oB (c::r)) ((c::r).drop (oB (c::r))) out
  else match E0 pos (c::r)with
   | .inr e=>([],e,pos)
   | .inl t=>if out.length=2000 then([],4,pos)else nJ n (pos+t.text.length) ((c::r).drop t.text.length) (out++ [t])
def o5 (text:aF):List cj×Int×Int:=if text.length > 100000 then([],4,0)else nJ (text.length+1) 0 text []
end Go.Abs

/-! MirMay -/

namespace Go.Abs
def uh:aF→Bool
 | []=>true
 | c::r=>if !(pY c) && !(oA c)then false else uh r
def isName:aF→Bool
 | []=>false
 | c::r=>if decide (((r.length+1:Nat):Int) > 8) || !(pY c)then false else if uh r then !(isWord (c::r))else false
def lT (op:Int):Int:=if op==1 || op==2 then 0 else if op==3 || op==4 then 1 else if decide (op≥5) && decide (op≤17)then 2 else -1
mutual
def Ex.form:Ex→Bool
 | ⟨op,n,name,kids⟩=>
  if lT op != (kids.length:Int) || (op != 1 && n != 0) || decide (n<0) || !((op==2) == !(name == [])) || (!(name == []) && !(isName name))then false else Ex.pz kids
def Ex.pz:List Ex→Bool
 | []=>true
 | x::l=>if !(Ex.form x)then false else Ex.pz l
end
mutual
def Ex.texts:Ex→Prop
 | ⟨_,_,name,kids⟩=>name.length<4611686018427387904∧Ex.vk kids
def Ex.vk:List Ex→Prop
 | []=>True
 | x::l=>x.texts∧Ex.vk l
end
theorem Ex.Du {x:Ex} : ∀ {l:List Ex},Ex.vk l→x∈l→x.texts
 | y::l,h,m=>by
  rcases List.mem_cons.1 m with rfl | m
  ·exact h.1
  ·exact Ex.Du h.2 m
theorem Ex.FM {op n:Int} {name:aF} {kids:List Ex} (h:Ex.texts ⟨op,n,name,kids⟩) {y:Ex} (m:y∈kids):y.texts:=Ex.Du h.2 m
def Ex.may (x:Ex):Bool:=decide (((min x.depth 21:Nat):Int)≤20) && x.form
def Ex.none (x:Ex):Bool:=x.op==0 && x.n==0 && x.name == [] && (x.kids.length:Int)==0
def dG:List aF→Bool
 | []=>true
 | s::l=>if !(isName s)then false else dG l
def Ar.may (a:Ar):Bool:=if a.ref then isName a.name && a.x.none else a.name == [] && a.x.may
def Ar.dZ:List Ar→Bool
 | []=>true
 | a::l=>if !(a.may)then false else Ar.dZ l
def Sm.vl (s:Sm):Bool:=s.kind==1 || s.kind==3 || s.kind==5 || s.kind==6 || (s.kind==9 && s.has)
def Sm.hasName (s:Sm):Bool:=s.kind==1 || s.kind==2 || s.kind==10
def Sm.o6 (s:Sm):Bool:=s.kind==4
def Sm.one (s:Sm):Bool:=
 if decide (s.kind<1) || decide (s.kind > 10) || !(dG s.labels) || (s.vl && !(s.x.may)) || (!(s.vl) && !(s.x.none)) || (s.has && s.kind != 9)then false
 else if(s.hasName && !(isName s.name)) || (!(s.hasName) && !(s.name == []) && !(s.o6 && isName s.name))then false
 else if !(s.o6 == !(s.proc == [])) || (s.o6 && !(isName s.proc)) || (!(s.o6) && decide ((s.args.length:Int) > 0))then false
 else if !(Ar.dZ s.args)then false
 else((s.aZ.length:Int)==0 || s.kind==5 || s.kind==6) && ((s.aP.length:Int)==0 || s.kind==5)
structure It where
 s:Sm
 deep:Int
 bo:Int
 aP:Bool
mutual
def fV (deep bo:Int) (aP:Bool) (out:List It):Sm→List It
 | ⟨id,kind,labels,name,proc,x,has,args,aZ,e⟩=>
  if decide (deep≤12)then dt (deep+1) id true (dt (deep+1) id false (out++ [⟨⟨id,kind,labels,name,proc,x,has,args,aZ,e⟩,deep,bo,aP⟩]) aZ) e
  else out++ [⟨⟨id,kind,labels,name,proc,x,has,args,aZ,e⟩,deep,bo,aP⟩]
def dt (deep bo:Int) (aP:Bool) (out:List It):List Sm→List It
 | []=>out
 | s::l=>if decide ((out.length:Int)≤200)then dt deep bo aP (fV deep bo aP out s) l else out
end
def Pc.flat (f:Pc):List It:=dt 1 0 false [] f.body
def allM (out:List It):List Pc→List It
 | []=>out
 | f::l=>if decide (((out++f.flat).length:Int) > 200)then out++f.flat else allM (out++f.flat) l
def Pg.all (p:Pg):List It:=allM [] p.procs
def Pm.dZ:List Pm→Bool
 | []=>true
 | a::l=>if !(isName a.name)then false else Pm.dZ l
def Pc.lU:List Pc→Bool
 | []=>true
 | f::l=>
  if !(isName f.name) || decide ((f.params.length:Int) > 8) || decide ((f.vars.length:Int) > 16) || !(dG f.vars) || !(dG f.fin)then false
  else if !(Pm.dZ f.params)then false else Pc.lU l
def It.dZ (n:Nat):List It→Bool
 | []=>true
 | i::l=>if i.s.id != ((n+1:Nat):Int) || decide (i.deep > 12) || !(i.s.one)then false else It.dZ (n+1) l
def Pg.may (p:Pg):Bool:=
 if decide ((p.globals.length:Int) > 16) || decide ((p.procs.length:Int) > 16) || !(dG p.globals)then false
 else if !(Pc.lU p.procs)then false
 else if decide ((p.all.length:Int) > 200)then false else It.dZ 0 p.all
end Go.Abs

/-! Prs -/

namespace Go.Abs
set_option maxRecDepth 8000
open Go.Proofs
@[go_sem] def cE (r:Rd):List D:= [.slice .shared 4 (r.l.map eD), .int .i64 r.i, .int .i64 r.code, .int .i64 r.qM, .int .i64 r.n]
theorem fS (r:Rd):D.bR 0 0 (cE r)=true:=by simp [cE,D.bR,D.ok,Tag.ok,Iy]
theorem rT {r:Rd} {t:cj} (h:r.nD=some t):r.i<4611686018427387904:=(IA h).1
theorem is_lt {r:Rd} {s:aF} {t:Bool} (h:r.is s=some t):r.i<4611686018427387904:=by
 obtain⟨t,h1,h⟩:=Option.bind_eq_some_iff.1 h
 exact rT h1
-- good
theorem Z7 (l:List cj) (i c f n:Int):aE Tryz.prog cT [.ptr 0 0] ⟨[[.slice .shared 4 (l.map eD), .int .i64 i, .int .i64 c, .int .i64 f, .int .i64 n]],[]⟩ (.bool (c==0)) ⟨[[.slice .shared 4 (l.map eD), .int .i64 i, .int .i64 c, .int .i64 f, .int .i64 n]],[]⟩:=by
 refine aE.go xS rfl fun B Q hB hQ=> ?_
 have⟨hF,hP,hY,hZ⟩:=bq
 repeat' (first
 | simp only [go_sem,hF,hP,hY,hZ,mQ]
 | (with_reducible refine aC hQ ?_;simp only [au,aw,Option.some.injEq,exists_eq_left',go_sem,hF,hP,hY,hZ];repeat' (first | exact Ok.out | with_reducible refine aB ?_ ?_ | (simp;done))))
theorem kE {l:List cj} {i c f n:Int} {s:St} {o:Nat} (ho:s.aG[o]? = some [.slice .shared 4 (l.map eD), .int .i64 i, .int .i64 c, .int .i64 f, .int .i64 n]):aE Tryz.prog cT [.ptr o 0] s (.bool (c==0)) ⟨s.aG.set o [.slice .shared 4 (l.map eD), .int .i64 i, .int .i64 c, .int .i64 f, .int .i64 n],s.aH⟩:=
 have hk:D.bR 0 0 [.slice .shared 4 (l.map eD), .int .i64 i, .int .i64 c, .int .i64 f, .int .i64 n] = true:=by simp [D.bR,D.ok,Tag.ok,Iy]
 aE.kz (Z7 l i c f n) rfl hk hk rfl ho
theorem Z8 {r:Rd} {t:cj} (h:r.nD=some t):aE Tryz.prog dF [.ptr 0 0] ⟨[cE r],[]⟩ (.agg (eD t)) ⟨[cE r],[]⟩:=by
 obtain⟨h2,h,_,_⟩:=IA h
 refine aE.go xU rfl fun B Q hB hQ=> ?_
 have⟨hF,hP,hY,hZ⟩:=bq
 repeat' (first
 | simp only [go_sem,hF,hP,hY,hZ,mQ,h]
 | (with_reducible refine aC hQ ?_;simp only [au,aw,Option.some.injEq,exists_eq_left',go_sem,hF,hP,hY,hZ];repeat' (first | exact Ok.out | with_reducible refine aB ?_ ?_ | (simp;done))))
theorem o7 {r:Rd} {t:cj} (h:r.nD=some t) {s:St} {o:Nat} (ho:s.aG[o]? = some (cE r)):aE Tryz.prog dF [.ptr o 0] s (.agg (eD t)) ⟨s.aG.set o (cE r),s.aH⟩:=
 (Z8 h).kz rfl (fS r) (fS r) (He t) ho
theorem aoW {r:Rd} {text:aF} {b:Bool} (h:r.is text=some b):aE Tryz.prog fK [.ptr 0 0, .str text] ⟨[cE r],[]⟩ (.bool b) ⟨[cE r],[]⟩:=by
 unfold Rd.is at h
 refine aE.go zC rfl fun B Q hB hQ=> ?_
 have⟨hF,hP,hY,hZ⟩:=bq
 repeat' (first
 | simp only [go_sem,hF,hP,hY,hZ,mQ]
 | (rw [Option.bind_eq_some_iff]at h;obtain⟨_,h1,h⟩:=h;first | (with_reducible refine CU (o7 h1 (by with_unfolding_all rfl)) ?_))
 | (with_reducible first | refine bK fun hc=> ?_ | refine bL fun hc=> ?_ | refine bM (fun hc=> ?_) fun hc=> ?_) <;> (try simp only [hc,bs, ↓reduceIte]at h) <;> try simp only [hc]
 | (with_reducible refine aC hQ ?_;(try cases h);simp only [au,aw,bu,bw,go_sem,hF,hP,hY,hZ,mQ];repeat' (first | exact Ok.out | with_reducible refine aB ?_ ?_ | (simp;done))))
theorem Aw {r:Rd} {text:aF} {b:Bool} (h:r.is text=some b) {s:St} {o:Nat} (ho:s.aG[o]? = some (cE r)):aE Tryz.prog fK [.ptr o 0, .str text] s (.bool b) ⟨s.aG.set o (cE r),s.aH⟩:=
 (aoW h).kz rfl (fS r) (fS r) rfl ho
theorem adN {r r':Rd} {c:Int} (h:r.bad c=some r'):aE Tryz.prog fi [.ptr 0 0, .int .i64 c] ⟨[cE r],[]⟩ (.tuple []) ⟨[cE r'],[]⟩:=by
 unfold Rd.bad at h
 refine aE.go yF rfl fun B Q hB hQ=> ?_
 have⟨hF,hP,hY,hZ⟩:=bq
 repeat' (first
 | simp only [go_sem,hF,hP,hY,hZ,mQ]
 | (rw [Option.bind_eq_some_iff]at h;obtain⟨_,h1,h⟩:=h;first | (with_reducible refine CU (o7 h1 (by with_unfolding_all rfl)) ?_))
 | (with_reducible refine CU (kE (by with_unfolding_all rfl)) ?_)
 | (with_reducible first | refine bK fun hc=> ?_ | refine bL fun hc=> ?_ | refine bM (fun hc=> ?_) fun hc=> ?_) <;> (try simp only [hc,bs, ↓reduceIte]at h) <;> try simp only [hc]
 | (with_reducible refine aC hQ ?_;(try cases h);simp only [au,aw,bu,bw,go_sem,hF,hP,hY,hZ,mQ];repeat' (first | exact Ok.out | with_reducible refine aB ?_ ?_ | (simp;done))))
theorem Dv {r r':Rd} {c:Int} (h:r.bad c=some r') {s:St} {o:Nat} (ho:s.aG[o]? = some (cE r)):aE Tryz.prog fi [.ptr o 0, .int .i64 c] s (.tuple []) ⟨s.aG.set o (cE r'),s.aH⟩:=
 (adN h).kz rfl (fS r) (fS r') rfl ho
theorem Z9 {r:Rd} {text:aF} {p:Bool×Rd} (h:r.take text=some p):aE Tryz.prog dE [.ptr 0 0, .str text] ⟨[cE r],[]⟩ (.bool p.1) ⟨[cE p.2],[]⟩:=by
 unfold Rd.take at h
 refine aE.go xR rfl fun B Q hB hQ=> ?_
 have⟨hF,hP,hY,hZ⟩:=bq
 repeat' (first
 | simp only [go_sem,hF,hP,hY,hZ,mQ]
 | (rw [Option.bind_eq_some_iff]at h;obtain⟨_,h1,h⟩:=h;first | (with_reducible refine CU (Aw h1 (by with_unfolding_all rfl)) ?_;have hF:=is_lt h1))
 | (with_reducible refine CU (kE (by with_unfolding_all rfl)) ?_)
 | (with_reducible first | refine bK fun hc=> ?_ | refine bL fun hc=> ?_ | refine bM (fun hc=> ?_) fun hc=> ?_) <;> (try simp only [hc,bs, ↓reduceIte]at h) <;> try simp only [hc]
 | (with_reducible refine aC hQ ?_;(try cases h);simp only [au,aw,bu,bw,go_sem,hF,hP,hY,hZ,mQ];repeat' (first | exact Ok.out | with_reducible refine aB ?_ ?_ | (simp;done))))
theorem sT {r:Rd} {text:aF} {p:Bool×Rd} (h:r.take text=some p) {s:St} {o:Nat} (ho:s.aG[o]? = some (cE r)):aE Tryz.prog dE [.ptr o 0, .str text] s (.bool p.1) ⟨s.aG.set o (cE p.2),s.aH⟩:=
 (Z9 h).kz rfl (fS r) (fS p.2) rfl ho
theorem aac {r r':Rd} {text:aF} (h:r.want text=some r'):aE Tryz.prog df [.ptr 0 0, .str text] ⟨[cE r],[]⟩ (.tuple []) ⟨[cE r'],[]⟩:=by
 unfold Rd.want at h
 refine aE.go xM rfl fun B Q hB hQ=> ?_
 have⟨hF,hP,hY,hZ⟩:=bq
 repeat' (first
 | simp only [go_sem,hF,hP,hY,hZ,mQ]
 | (rw [Option.bind_eq_some_iff]at h;obtain⟨_,h1,h⟩:=h;first | (with_reducible refine CU (sT h1 (by with_unfolding_all rfl)) ?_))
 | (with_reducible refine CU (Dv h (by with_unfolding_all rfl)) ?_)
 | (with_reducible first | refine bK fun hc=> ?_ | refine bL fun hc=> ?_ | refine bM (fun hc=> ?_) fun hc=> ?_) <;> (try simp only [hc,bs, ↓reduceIte]at h) <;> try simp only [hc]
 | (with_reducible refine aC hQ ?_;(try cases h);simp only [au,aw,bu,bw,go_sem,hF,hP,hY,hZ,mQ];repeat' (first | exact Ok.out | with_reducible refine aB ?_ ?_ | (simp;done))))
theorem pZ {r r':Rd} {text:aF} (h:r.want text=some r') {s:St} {o:Nat} (ho:s.aG[o]? = some (cE r)):aE Tryz.prog df [.ptr o 0, .str text] s (.tuple []) ⟨s.aG.set o (cE r'),s.aH⟩:=
 (aac h).kz rfl (fS r) (fS r') rfl ho
theorem aad {r:Rd} {room:Bool} {p:aF×Rd} (h:r.name room=some p):aE Tryz.prog eW [.ptr 0 0, .bool room] ⟨[cE r],[]⟩ (.str p.1) ⟨[cE p.2],[]⟩:=by
 unfold Rd.name at h
 refine aE.go xL rfl fun B Q hB hQ=> ?_
 have⟨hF,hP,hY,hZ⟩:=bq
 repeat' (first
 | simp only [go_sem,hF,hP,hY,hZ,mQ]
 | (rw [Option.bind_eq_some_iff]at h;obtain⟨_,h1,h⟩:=h;first | (with_reducible refine CU (o7 h1 (by with_unfolding_all rfl)) ?_;have hF:=rT h1) | (with_reducible refine CU (Dv h1 (by with_unfolding_all rfl)) ?_))
 | (with_reducible refine CU (kE (by with_unfolding_all rfl)) ?_)
 | (with_reducible first | refine bK fun hc=> ?_ | refine bL fun hc=> ?_ | refine bM (fun hc=> ?_) fun hc=> ?_) <;> (try simp only [hc,bs, ↓reduceIte]at h) <;> try simp only [hc]
 | (with_reducible refine aC hQ ?_;(try cases h);simp only [au,aw,bu,bw,go_sem,hF,hP,hY,hZ,mQ];repeat' (first | exact Ok.out | with_reducible refine aB ?_ ?_ | (simp;done))))
theorem xX {r:Rd} {room:Bool} {p:aF×Rd} (h:r.name room=some p) {s:St} {o:Nat} (ho:s.aG[o]? = some (cE r)):aE Tryz.prog eW [.ptr o 0, .bool room] s (.str p.1) ⟨s.aG.set o (cE p.2),s.aH⟩:=
 (aad h).kz rfl (fS r) (fS p.2) rfl ho
end Go.Abs

/-! Lex1 -/

namespace Go.Abs
set_option maxRecDepth 8000
open Go.Proofs
theorem ix (c:UInt8) (s:St):aE Tryz.prog oY [.int .u8 (c.toNat:Int)] s (.bool (pY c)) s:=by
 refine aE.pure ?_ rfl rfl s
 generalize h:pY c=b
 unfold pY at h
 unfold S0
 refine aE.go EJ rfl fun B Q hB hQ=> ?_
 have⟨hF,hP,hY,hZ⟩:=bq
 repeat' (first
 | simp only [go_sem,hF,hP,hY,hZ]
 | (with_reducible first | refine bK fun hc=> ?_ | refine bL fun hc=> ?_ | refine bM (fun hc=> ?_) fun hc=> ?_) <;> (try simp only [hc,bs, ↓reduceIte]at h) <;> try simp only [hc]
 | (with_reducible refine aC hQ ?_;(try cases h);simp only [au,aw,bu,bw,go_sem,hF,hP,hY,hZ];repeat' (first | exact Ok.out | with_reducible refine aB ?_ ?_ | (simp;done))))
theorem jU (c:UInt8) (s:St):aE Tryz.prog pU [.int .u8 (c.toNat:Int)] s (.bool (oA c)) s:=by
 refine aE.pure ?_ rfl rfl s
 generalize h:oA c=b
 unfold oA at h
 unfold S0
 refine aE.go G2 rfl fun B Q hB hQ=> ?_
 have⟨hF,hP,hY,hZ⟩:=bq
 repeat' (first
 | simp only [go_sem,hF,hP,hY,hZ]
 | (with_reducible first | refine bK fun hc=> ?_ | refine bL fun hc=> ?_ | refine bM (fun hc=> ?_) fun hc=> ?_) <;> (try simp only [hc,bs, ↓reduceIte]at h) <;> try simp only [hc]
 | (with_reducible refine aC hQ ?_;(try cases h);simp only [au,aw,bu,bw,go_sem,hF,hP,hY,hZ];repeat' (first | exact Ok.out | with_reducible refine aB ?_ ?_ | (simp;done))))
theorem vm (t:aF) (s:St):aE Tryz.prog ud [.str t] s (.bool (isWord t)) s:=by
 refine aE.pure ?_ rfl rfl s
 generalize h:isWord t=b
 unfold isWord at h
 unfold S0
 refine aE.go IL rfl fun B Q hB hQ=> ?_
 have⟨hF,hP,hY,hZ⟩:=bq
 repeat' (first
 | simp only [go_sem,hF,hP,hY,hZ]
 | (with_reducible first | refine bK fun hc=> ?_ | refine bL fun hc=> ?_ | refine bM (fun hc=> ?_) fun hc=> ?_) <;> (try simp only [hc,bs, ↓reduceIte]at h) <;> try simp only [hc]
 | (with_reducible refine aC hQ ?_;(try cases h);simp only [au,aw,bu,bw,go_sem,hF,hP,hY,hZ];repeat' (first | exact Ok.out | with_reducible refine aB ?_ ?_ | (simp;done))))
theorem Wd {text:aF} {pos:Nat} (hl:text.length<4611686018427387904) (s:St):aE Tryz.prog vW [.str text, .int .i64 (pos:Int)] s (.int .i64 ((pos+lF (text.drop pos):Nat):Int)) s:=by
 refine aE.pure ?_ rfl rfl s
 unfold S0
 refine aE.go Kp rfl fun B Q hB hQ=> ?_
 have⟨hF,hP,hY,hZ⟩:=bq
 repeat' (first
 | simp only [go_sem,hF,hP,hY,hZ]
 | (with_reducible refine aC hQ ?_;simp only [au,aw,Option.some.injEq,exists_eq_left',go_sem,hF,hP,hY,hZ];repeat' (first | exact Ok.out | with_reducible refine aB ?_ ?_ | (simp;done))))
 refine cd 0 0 (a8.ind (ι:=aF×Nat) (fun i=>text.drop i.2=i.1∧i.2+lF i.1=pos+lF (text.drop pos)) (fun i=>i.1.length)
  (fun i=> [(0, .str text),(1, .int .i64 (i.2:Int))]) (fun i=>⟨[],[]⟩) ?_ (text.drop pos,pos) ⟨rfl,rfl⟩)
 rintro⟨rest,k⟩ ⟨h1,h2⟩ IH
 dsimp only at h1 h2
 cases rest with
 | nil=>
  have hF:=drop_nil h1
  simp only [lF,Nat.add_zero]at h2
  rw [← h2]at hQ
  repeat' (first
 | simp only [go_sem,hF,hP,hY,hZ]
 | (with_reducible refine aC hQ ?_;simp only [au,aw,Option.some.injEq,exists_eq_left',go_sem,hF,hP,hY,hZ];repeat' (first | exact Ok.out | with_reducible refine aB ?_ ?_ | (simp;done))))
 | cons c rest=>
  obtain⟨hP,g2,hF,g4⟩:=drop_cons h1
  have hY:k<4611686018427387904:=by omega
  cases hb:(pY c || oA c)
  ·simp only [lF,hb,Bool.false_eq_true, ↓reduceIte,Nat.add_zero]at h2
   rw [← h2]at hQ
   simp only [Bool.or_eq_false_iff]at hb
   repeat' (first
 | simp only [go_sem,hF,hP,hY,hZ,hb.1,hb.2]
 | (with_reducible refine CU (ix _ _) ?_)
 | (with_reducible refine CU (jU _ _) ?_)
 | (with_reducible refine aC hQ ?_;simp only [au,aw,Option.some.injEq,exists_eq_left',go_sem,hF,hP,hY,hZ];repeat' (first | exact Ok.out | with_reducible refine aB ?_ ?_ | (simp;done))))
  ·simp only [lF,hb, ↓reduceIte]at h2
   cases HV:pY c
   ·rw [HV,Bool.false_or]at hb
    repeat' (first
 | simp only [go_sem,hF,hP,hY,hZ,hb,HV]
 | (with_reducible refine CU (ix _ _) ?_)
 | (with_reducible refine CU (jU _ _) ?_)
 | (with_reducible refine aC hQ ?_;simp only [au,aw,Option.some.injEq,exists_eq_left',go_sem,hF,hP,hY,hZ];repeat' (first | exact Ok.out | with_reducible refine aB ?_ ?_ | (simp;done))))
    refine cd 0 0 (IH (rest,k+1) ⟨g2,by dsimp only;omega⟩ (Nat.lt_succ_self _))
   ·repeat' (first
 | simp only [go_sem,hF,hP,hY,hZ,HV]
 | (with_reducible refine CU (ix _ _) ?_)
 | (with_reducible refine CU (jU _ _) ?_)
 | (with_reducible refine aC hQ ?_;simp only [au,aw,Option.some.injEq,exists_eq_left',go_sem,hF,hP,hY,hZ];repeat' (first | exact Ok.out | with_reducible refine aB ?_ ?_ | (simp;done))))
    refine cd 0 0 (IH (rest,k+1) ⟨g2,by dsimp only;omega⟩ (Nat.lt_succ_self _))
theorem yG (text:aF) (a b:Nat):(text.take (a+b)).drop a=(text.drop a).take b:=by rw [List.drop_take];congr 1;omega
set_option maxRecDepth 20000 in
theorem aae {text : aF} {pos : Nat} {c : UInt8} {r : aF} (hd : text.drop pos = c :: r) (hl : text.length < 4611686018427387904) (s : St) :
   aE Tryz.prog yv [.str text, .int .i64 (pos : Int)] s (.int .i64 ((su (c :: r) : Nat) : Int)) s := by
 refine aE.pure ?_ rfl rfl s
 obtain ⟨hP, g2, g3, g4⟩ := drop_cons hd
 have hY : pos < 4611686018427387904 := by omega
 have hZ : 0 < 1 := Nat.zero_lt_one
 generalize h : su (c :: r) = k
 unfold S0
 cases r with
 | nil =>
   have hF : decide (((pos + 1 : Nat) : Int) < (text.length : Int)) = false := drop_nil g2
   simp only [su, Hs] at h
   refine aE.go Av rfl fun B Q hB hQ => ?_
   repeat' (first
 | simp only [go_sem, hF, hP, hY, hZ]
 | (with_reducible first | refine bK fun hc => ?_ | refine bL fun hc => ?_ | refine bM (fun hc => ?_) fun hc => ?_) <;> (try simp only [hc, bs, ↓reduceIte] at h) <;> try simp only [hc]
 | (with_reducible refine aC hQ ?_; exact nX)
 | (cases h; done))
 | cons d r =>
   obtain ⟨_, _, hF, _⟩ := drop_cons g2
   have e1 : (text.take (pos + 2)).drop pos = [c, d] := by rw [yG, hd]; rfl
   have e2 : (0 : Int) ≤ (pos : Int) ∧ (pos : Int) ≤ ((pos + 2 : Nat) : Int) ∧ ((pos + 2 : Nat) : Int) ≤ (text.length : Int) := by omega
   simp only [su, Hs, Wc] at h
   refine aE.go Av rfl fun B Q hB hQ => ?_
   repeat' (first
 | simp only [go_sem, hF, hP, hY, hZ, e1, e2]
 | (with_reducible first | refine bK fun hc => ?_ | refine bL fun hc => ?_ | refine bM (fun hc => ?_) fun hc => ?_) <;> (try simp only [hc, bs, ↓reduceIte] at h) <;> try simp only [hc]
 | (with_reducible refine aC hQ ?_; (try cases h); simp only [au, aw, bu, bw, go_sem, hF, hP, hY, hZ, e1, e2]; try exact Ai)
 | (cases h; done))
theorem Qe {c:UInt8} (h:oA c=true):48≤(c.toNat:Int)∧(c.toNat:Int)≤57:=by
 simp only [oA,Bool.and_eq_true,decide_eq_true_eq]at h
 omega
def o8 (s:aF):Int×Bool:=match wa 0 s with | some n=>(n,true) | none=>(0,false)
theorem Tq {text:aF} (hd : ∀ c∈text,oA c=true) (hl:text.length<4611686018427387904) (s:St) :
 aE Tryz.prog va [.str text] s (.tuple [.int .i64 (o8 text).1, .bool (o8 text).2]) s:=by
 refine aE.pure ?_ rfl rfl s
 generalize hw:o8 text=p
 unfold S0
 refine aE.go EW rfl fun B Q hB hQ=> ?_
 have⟨hF,hP,hY,hZ⟩:=bq
 repeat' (first
 | simp only [go_sem,hF,hP,hY,hZ]
 | (with_reducible first | refine bK fun hc=> ?_ | refine bL fun hc=> ?_ | refine bM (fun hc=> ?_) fun hc=> ?_) <;> (try simp only [hc,bs, ↓reduceIte]at h) <;> try simp only [hc]
 | (with_reducible refine aC hQ ?_;exact nX)
 | (cases h;done))
 refine cd 0 0 (a8.ind (ι:=aF×Nat×Int) (fun i=>text.drop i.2.1=i.1∧0≤i.2.2∧i.2.2≤9223372036854775807∧(match wa i.2.2 i.1 with | some n=>(n,true) | none=>(0,false))=p) (fun i=>i.1.length)
  (fun i=> [(0, .str text),(4, .int .i64 i.2.2),(5, .int .i64 (i.2.1:Int))]) (fun i=>⟨[],[]⟩) ?_ (text,0,0) ⟨rfl,Int.le_refl 0,by dsimp only;omega,hw⟩)
 rintro⟨rest,k,n⟩ ⟨h1,h2,h3,h⟩ IH
 dsimp only at h1 h2 h3 h
 cases rest with
 | nil=>
  have hF:=drop_nil h1
  simp only [wa]at h
  repeat' (first
 | simp only [go_sem,hF,hP,hY,hZ]
 | (with_reducible first | refine bK fun hc=> ?_ | refine bL fun hc=> ?_ | refine bM (fun hc=> ?_) fun hc=> ?_) <;> (try simp only [hc,bs, ↓reduceIte]at h) <;> try simp only [hc]
 | (with_reducible refine aC hQ ?_;exact nX)
 | (cases h;done))
 | cons c rest=>
  obtain⟨hP,g2,hF,g4⟩:=drop_cons h1
  have hY:k<4611686018427387904:=by omega
  have hc:=Qe (hd c (List.mem_of_getElem? hP))
  have w1:IntKind.wrap .u8 ((c.toNat:Int) - 48)=(c.toNat:Int) - 48:=by rw [IntKind.wrap_u8];omega
  have w2:IntKind.wrap .i64 ((c.toNat:Int) - 48)=(c.toNat:Int) - 48:=dc (by omega) (by omega)
  have w3:IntKind.wrap .i64 (9223372036854775807 - ((c.toNat:Int) - 48))=9223372036854775807 - ((c.toNat:Int) - 48):=dc (by omega) (by omega)
  have w4:IntKind.wrap .i64 ((9223372036854775807 - ((c.toNat:Int) - 48)).tdiv 10)=(9223372036854775807 - ((c.toNat:Int) - 48)) / 10:=by
   rw [Int.tdiv_eq_ediv_of_nonneg (by omega)];exact dc (by omega) (by omega)
  have t10:((10:Int)=0)=False:=by simp
  simp only [wa]at h
  by_cases hn:n > (9223372036854775807 - ((c.toNat:Int) - 48)) / 10
  ·have pS:decide (n > (9223372036854775807 - ((c.toNat:Int) - 48)) / 10)=true:=by simpa using hn
   rw [if_pos hn]at h
   repeat' (first
 | simp only [go_sem,hF,hP,hY,hZ,w1,w2,w3,w4,t10,pS]
 | (with_reducible first | refine bK fun hc=> ?_ | refine bL fun hc=> ?_ | refine bM (fun hc=> ?_) fun hc=> ?_) <;> (try simp only [hc,bs, ↓reduceIte]at h) <;> try simp only [hc]
 | (with_reducible refine aC hQ ?_;(try cases h);simp only [au,aw,bu,bw,go_sem,hF,hP,hY,hZ,w1,w2,w3,w4,t10,pS];try exact Ai)
 | (cases h;done))
  ·have pS:decide (n > (9223372036854775807 - ((c.toNat:Int) - 48)) / 10)=false:=by simpa using hn
   rw [if_neg hn]at h
   have w5:IntKind.wrap .i64 (n*10)=n*10:=dc (by omega) (by omega)
   have w6:IntKind.wrap .i64 (n*10+((c.toNat:Int) - 48))=n*10+((c.toNat:Int) - 48):=dc (by omega) (by omega)
   repeat' (first
 | simp only [go_sem,hF,hP,hY,hZ,w1,w2,w3,w4,t10,pS,w5,w6]
 | (with_reducible first | refine bK fun hc=> ?_ | refine bL fun hc=> ?_ | refine bM (fun hc=> ?_) fun hc=> ?_) <;> (try simp only [hc,bs, ↓reduceIte]at h) <;> try simp only [hc]
 | (with_reducible refine aC hQ ?_;(try cases h);simp only [au,aw,bu,bw,go_sem,hF,hP,hY,hZ,w1,w2,w3,w4,t10,pS,w5,w6];try exact Ai)
 | (cases h;done))
   refine cd 0 0 (IH (rest,k+1,n*10+((c.toNat:Int) - 48)) ⟨g2,by dsimp only;omega,by dsimp only;omega,h⟩ (Nat.lt_succ_self _))
end Go.Abs

/-! Lex2 -/

namespace Go.Abs
set_option maxRecDepth 8000
open Go.Proofs
theorem Tr {c:UInt8} {r:aF} (h:pY c=true):0<lF (c::r):=by simp [lF,h]
theorem IU : ∀ s:aF,lF s≤s.length
 | []=>Nat.le_refl _
 | c::r=>by simp only [lF];split <;> simp only [List.length_cons] <;> have:=IU r <;> omega
theorem IV : ∀ s:aF,q7 s≤s.length
 | []=>Nat.le_refl _
 | c::r=>by simp only [q7];split <;> simp only [List.length_cons] <;> have:=IV r <;> omega
theorem FN : ∀ s:aF,oB s≤s.length
 | []=>Nat.le_refl _
 | c::r=>by simp only [oB];split <;> simp only [List.length_cons] <;> have:=FN r <;> omega
theorem Qf : ∀ s:aF,su s≤s.length
 | []=>Nat.le_refl _
 | [c]=>by simp only [su];split <;> simp
 | c::d::r=>by simp only [su];(repeat' split) <;> simp
theorem IW : ∀ (s:aF),∀ c∈s.take (q7 s),oA c=true
 | [],c,h=>by simp [q7]at h
 | d::r,c,h=>by
  simp only [q7]at h
  split at h
  ·rw [List.take_succ_cons]at h
   rcases List.mem_cons.1 h with rfl | h
   ·assumption
   ·exact IW r c h
  ·simp at h
def mY (f:Int×Int):List D:= [.int .i64 f.1, .int .i64 f.2]
def oC (text:aF) (out:List cj) (pos:Nat):Tm:= [(0, .str text),(3, .ptr 0 0),(4, .slice (.tok 0) 4 (out.map eD)),(5, .ptr 1 0),(6, .int .i64 (pos:Int))]
def pA (out:List cj):St:=⟨[[.int .i64 0, .int .i64 0],[.junk, .junk, .junk, .junk]],[some out.length]⟩
theorem Qg {c:UInt8} {r:aF} (h:((c.toNat:Int)==35)=true):0<oB (c::r):=by
 have:((c.toNat:Int) != 10)=true:=by simp only [beq_iff_eq]at h;simp [h]
 simp [oB,this]
def sv (text:aF) (B:fI) (Q:Exit→Tm→St→Prop) (p:List cj×Int×Int) (N:Nat):Prop:=
 ∀ (n pos:Nat) (rest:aF) (out:List cj),text.drop pos=rest→nJ n pos rest out=p→rest.length<n→out.length≤2000→pos≤text.length→n<N→
  od Tryz.prog B 152 vh (.seq .skip Aq) Q (oC text out pos) (pA out)
theorem sv.to {text:aF} {B:fI} {Q:Exit→Tm→St→Prop} {p:List cj×Int×Int} {N:Nat} (hB:B.s=S0) (IH:sv text B Q p N) {n pos:Nat} {rest:aF} {out:List cj} {tm:Tm} {s:St}
 (h1:text.drop pos=rest) (h:nJ n pos rest out=p) (h2:rest.length<n) (h3:out.length≤2000) (h4:pos≤text.length) (h5:n<N)
 (ht:tJ tm 2 1 (oC text out pos)) (ho:iF (s.cut 2 1).aG (pA out).aG) (hk:(s.cut 2 1).aH=(pA out).aH) :
 jY Tryz.prog B 152 vh Q (.goto 0) tm s:=by
 refine Sq (l:=0) (r:= .seq .skip Aq) rfl (od.re _ _ 2 1 (by rw [hB];exact mr rfl) (by rw [hB];exact mr rfl) ht ho ?_)
 have:=IH n pos rest out h1 h h2 h3 h4 h5
 rw [hk]
 exact this
attribute [go_sem] oC pA mY
theorem lex_nil {text:aF} (hl:text.length≤100000) {B:fI} {Q:Exit→Tm→St→Prop} {p:List cj×Int×Int} (hB:B.s=S0)
 (hQ:iS 0 0 [(2,none),(3,some (true,2))] (.tuple [.slice .shared 4 (p.1.map eD), .agg (mY p.2)]) ⟨[],[]⟩=Q)
 {n pos:Nat} {out:List cj} (ho:out.length≤2000) (hp:pos≤text.length) (IH:sv text B Q p (n+1))
 (h1:text.drop pos = []) (h:nJ (n+1) pos [] out=p):gU Tryz.prog B 152 Aq (jY Tryz.prog B 152 vh Q) (oC text out pos) (pA out):=by
 have⟨hF,hP,hY,hZ⟩:=bq
 have gv:(out.length+1)*41≤bc:=by simp only [bc];omega
 have eK:decide ((pos:Int)≥(text.length:Int))=true:=by have:=List.drop_eq_nil_iff.1 h1;simp;omega
 have:pos=text.length:=by have:=List.drop_eq_nil_iff.1 h1;omega
 subst this
 simp only [nJ]at h
 repeat' (first
 | simp only [go_sem,hF,hP,hY,hZ,eK,gv]
 | (with_reducible first | refine bK fun hc=> ?_ | refine bL fun hc=> ?_ | refine bM (fun hc=> ?_) fun hc=> ?_) <;> (try simp only [hc,bs, ↓reduceIte]at h) <;> try simp only [hc]
 | (with_reducible refine aC hQ ?_;(try cases h);simp only [au,aw,bu,bw,go_sem,hF,hP,hY,hZ,eK,gv];repeat' (first | exact Ok.out | with_reducible refine aB ?_ ?_ | (simp;done))))
theorem Qh {text:aF} (hl:text.length≤100000) {B:fI} {Q:Exit→Tm→St→Prop} {p:List cj×Int×Int} (hB:B.s=S0)
 (hQ:iS 0 0 [(2,none),(3,some (true,2))] (.tuple [.slice .shared 4 (p.1.map eD), .agg (mY p.2)]) ⟨[],[]⟩=Q)
 {n pos:Nat} {out:List cj} (ho:out.length≤2000) (hp:pos≤text.length) (IH:sv text B Q p (n+1))
 {c:UInt8} {r:aF} (h1:text.drop pos=c::r) (hb:vj c=true) (hn:(c::r).length<n+1) (h:nJ (n+1) pos (c::r) out=p) :
 gU Tryz.prog B 152 Aq (jY Tryz.prog B 152 vh Q) (oC text out pos) (pA out):=by
 have hY:0<1:=Nat.zero_lt_one
 have hZ:0<1:=Nat.zero_lt_one
 obtain⟨hP,g2,g3,g4⟩:=drop_cons h1
 have hF:pos<4611686018427387904:=by omega
 have eK:decide ((pos:Int)≥(text.length:Int))=false:=by simp;omega
 simp only [nJ,hb, ↓reduceIte]at h
 have pS:r.length<n:=by simp only [List.length_cons]at hn;omega
 have e : ∀ x y:Int,(x==y)=false→(x==y)=true→False:=fun x y a b=>by rw [a]at b;cases b
 simp only [vj]at hb
 repeat' (first
 | simp only [go_sem,hF,hP,hY,hZ,eK]
 | (refine IH.to hB g2 h pS ho g4 (Nat.lt_succ_self _) ?_ ?_ ?_ <;> ((try simp only [go_sem,hF,hP,hY,hZ]);repeat' (first | exact Ok.out | with_reducible refine aB ?_ ?_ | omega | (simp;done)));done)
 | (with_reducible first | refine bK fun hc=> ?_ | refine bL fun hc=> ?_ | refine bM (fun hc=> ?_) fun hc=> ?_) <;> (try simp only [hc,bs, ↓reduceIte]at h) <;> try simp only [hc]
 | (with_reducible refine aC hQ ?_;simp only [au,aw,bu,bw,go_sem,hF,hP,hY,hZ];repeat' (first | exact Ok.out | with_reducible refine aB ?_ ?_ | (simp;done))))
 all_goals (exfalso;simp_all;done)
theorem NK {text:aF} (hl:text.length≤100000) {B:fI} {Q:Exit→Tm→St→Prop} {p:List cj×Int×Int} (hB:B.s=S0)
 (hQ:iS 0 0 [(2,none),(3,some (true,2))] (.tuple [.slice .shared 4 (p.1.map eD), .agg (mY p.2)]) ⟨[],[]⟩=Q)
 {n pos:Nat} {out:List cj} (ho:out.length≤2000) (hp:pos≤text.length) (IH:sv text B Q p (n+1))
 {c:UInt8} {r:aF} (h1:text.drop pos=c::r) (hb:vj c=false) (hc:((c.toNat:Int)==35)=true) (hn:(c::r).length<n+1) (h:nJ (n+1) pos (c::r) out=p) :
 gU Tryz.prog B 152 Aq (jY Tryz.prog B 152 vh Q) (oC text out pos) (pA out):=by
 have hY:0<1:=Nat.zero_lt_one
 have hZ:0<1:=Nat.zero_lt_one
 have adO:=(drop_cons h1).1
 have hP:=adO
 have g4:=(drop_cons h1).2.2.2
 have hF:pos<4611686018427387904:=by omega
 have eK:decide ((pos:Int)≥(text.length:Int))=false:=by simp;omega
 simp only [nJ,hb,Bool.false_eq_true, ↓reduceIte,hc]at h
 simp only [vj,Bool.or_eq_false_iff]at hb
 have hk:=Qg (r:=r) hc
 have bl:=FN (c::r)
 have fA:(c::r).length=text.length - pos:=by rw [← h1,List.length_drop]
 generalize hL:oB (c::r)=L at h hk bl
 repeat' (first
 | simp only [go_sem,hF,hP,hY,hZ,eK,hb.1.1.1,hb.1.1.2,hb.1.2,hb.2,hc]
 | (with_reducible refine cw (l:=1) (by with_unfolding_all rfl) ?_)
 | (with_reducible refine aC hQ ?_;simp only [au,aw,Option.some.injEq,exists_eq_left',go_sem,hF,hP,hY,hZ];repeat' (first | exact Ok.out | with_reducible refine aB ?_ ?_ | (simp;done))))
 refine cd 2 1 (a8.ind (ι:=aF×Nat) (fun i=>text.drop i.2=i.1∧i.2+oB i.1=pos+L) (fun i=>i.1.length)
  (fun i=>oC text out i.2) (fun i=>pA out) ?_ (c::r,pos) ⟨h1,by dsimp only;omega⟩)
 rintro⟨rest,k⟩ ⟨j1,j2⟩ IHl
 dsimp only at j1 j2
 have fin:text.drop (pos+L)=(c::r).drop L:=by rw [← h1,List.drop_drop]
 have hlen:((c::r).drop L).length<n:=by rw [List.length_drop];omega
 cases rest with
 | nil=>
  have eK:=drop_nil j1
  simp only [oB,Nat.add_zero]at j2
  subst j2
  repeat' (first
 | simp only [go_sem,hF,hP,hY,hZ,eK]
 | (refine IH.to hB fin h hlen ho (by omega) (Nat.lt_succ_self _) ?_ ?_ ?_ <;> ((try simp only [go_sem,hF,hP,hY,hZ]);repeat' (first | exact Ok.out | with_reducible refine aB ?_ ?_ | omega | (simp;done)));done)
 | (with_reducible refine aC hQ ?_;simp only [au,aw,Option.some.injEq,exists_eq_left',go_sem,hF,hP,hY,hZ];repeat' (first | exact Ok.out | with_reducible refine aB ?_ ?_ | (simp;done))))
 | cons d rest=>
  obtain⟨hP,g2,eK,g5⟩:=drop_cons j1
  have hF:k<4611686018427387904:=by omega
  cases hd:((d.toNat:Int) != 10)
  ·simp only [oB,hd,Bool.false_eq_true, ↓reduceIte,Nat.add_zero]at j2
   subst j2
   repeat' (first
 | simp only [go_sem,hF,hP,hY,hZ,eK,hd]
 | (refine IH.to hB fin h hlen ho (by omega) (Nat.lt_succ_self _) ?_ ?_ ?_ <;> ((try simp only [go_sem,hF,hP,hY,hZ]);repeat' (first | exact Ok.out | with_reducible refine aB ?_ ?_ | omega | (simp;done)));done)
 | (with_reducible refine aC hQ ?_;simp only [au,aw,Option.some.injEq,exists_eq_left',go_sem,hF,hP,hY,hZ];repeat' (first | exact Ok.out | with_reducible refine aB ?_ ?_ | (simp;done))))
  ·simp only [oB,hd, ↓reduceIte]at j2
   repeat' (first
 | simp only [go_sem,hF,hP,hY,hZ,eK,hd]
 | (with_reducible refine aC hQ ?_;simp only [au,aw,Option.some.injEq,exists_eq_left',go_sem,hF,hP,hY,hZ];repeat' (first | exact Ok.out | with_reducible refine aB ?_ ?_ | (simp;done))))
   refine cd 2 1 (IHl (rest,k+1) ⟨g2,by dsimp only;omega⟩ (Nat.lt_succ_self _))
theorem Ts {text:aF} (hl:text.length≤100000) {B:fI} {Q:Exit→Tm→St→Prop} {p:List cj×Int×Int} (hB:B.s=S0)
 (hQ:iS 0 0 [(2,none),(3,some (true,2))] (.tuple [.slice .shared 4 (p.1.map eD), .agg (mY p.2)]) ⟨[],[]⟩=Q)
 {n pos:Nat} {out:List cj} (ho:out.length≤2000) (hp:pos≤text.length) (IH:sv text B Q p (n+1))
 {c:UInt8} {r:aF} (h1:text.drop pos=c::r) (hb:vj c=false) (hc:((c.toNat:Int)==35)=false) (hL:pY c=false) (hD:oA c=false) (hn:(c::r).length<n+1) (h:nJ (n+1) pos (c::r) out=p) :
 gU Tryz.prog B 152 Aq (jY Tryz.prog B 152 vh Q) (oC text out pos) (pA out):=by
 have hY:0<1:=Nat.zero_lt_one
 have hZ:0<1:=Nat.zero_lt_one
 have hP:=(drop_cons h1).1
 have g4:=(drop_cons h1).2.2.2
 have hF:pos<4611686018427387904:=by omega
 have eK:decide ((pos:Int)≥(text.length:Int))=false:=by simp;omega
 have gv:(out.length+1)*41≤bc:=by simp only [bc];omega
 have Ht:=fun s=>aae h1 (by omega) s
 have bl:=Qf (c::r)
 have fA:(c::r).length=text.length - pos:=by rw [← h1,List.length_drop]
 simp only [nJ,hb,Bool.false_eq_true, ↓reduceIte,hc,E0,hL,hD]at h
 simp only [vj,Bool.or_eq_false_iff]at hb
 generalize hK:su (c::r)=k at h Ht bl
 have e1:IntKind.wrap .i64 ((pos:Int)+(k:Int))=((pos+k:Nat):Int):=by rw [dc] <;> omega
 have e2:(0:Int)≤(pos:Int)∧(pos:Int)≤((pos+k:Nat):Int)∧((pos+k:Nat):Int)≤(text.length:Int):=by omega
 have e3:(text.take (pos+k)).drop pos=(c::r).take k:=by rw [yG,h1]
 by_cases hz:k=0
 ·have n5:decide (((pos+k:Nat):Int) > (pos:Int))=false:=by simp;omega
  simp only [hz, ↓reduceIte]at h
  repeat' (first
 | simp only [go_sem,hF,hP,hY,hZ,eK,hb.1.1.1,hb.1.1.2,hb.1.2,hb.2,hc,hL,hD,e1,e2,e3,n5]
 | (with_reducible refine CU (ix _ _) ?_)
 | (with_reducible refine CU (jU _ _) ?_)
 | (with_reducible refine CU (Ht _) ?_)
 | (with_reducible refine cw (l:=4) (by with_unfolding_all rfl) ?_)
 | (with_reducible refine cw (l:=5) (by with_unfolding_all rfl) ?_)
 | (with_reducible first | refine bK fun hc=> ?_ | refine bL fun hc=> ?_ | refine bM (fun hc=> ?_) fun hc=> ?_) <;> (try simp only [hc,bs, ↓reduceIte]at h) <;> try simp only [hc]
 | (with_reducible refine aC hQ ?_;(try cases h);simp only [au,aw,bu,bw,go_sem,hF,hP,hY,hZ,eK,hb.1.1.1,hb.1.1.2,hb.1.2,hb.2,hc,hL,hD,e1,e2,e3,n5];repeat' (first | exact Ok.out | with_reducible refine aB ?_ ?_ | (simp;done))))
 ·have n5:decide (((pos+k:Nat):Int) > (pos:Int))=true:=by simp;omega
  have hlen:((c::r).take k).length=k:=by rw [List.length_take];omega
  have fin:text.drop (pos+k)=(c::r).drop k:=by rw [← h1,List.drop_drop]
  have ui:((c::r).drop k).length<n:=by rw [List.length_drop];omega
  simp only [hz, ↓reduceIte,hlen]at h
  by_cases rB:out.length=2000
  ·have kq:((out.length:Int)==2000)=true:=by simp [rB]
   simp only [rB, ↓reduceIte]at h
   repeat' (first
 | simp only [go_sem,hF,hP,hY,hZ,eK,hb.1.1.1,hb.1.1.2,hb.1.2,hb.2,hc,hL,hD,e1,e2,e3,n5,kq]
 | (with_reducible refine CU (ix _ _) ?_)
 | (with_reducible refine CU (jU _ _) ?_)
 | (with_reducible refine CU (Ht _) ?_)
 | (with_reducible refine cw (l:=4) (by with_unfolding_all rfl) ?_)
 | (with_reducible refine cw (l:=5) (by with_unfolding_all rfl) ?_)
 | (with_reducible first | refine bK fun hc=> ?_ | refine bL fun hc=> ?_ | refine bM (fun hc=> ?_) fun hc=> ?_) <;> (try simp only [hc,bs, ↓reduceIte]at h) <;> try simp only [hc]
 | (with_reducible refine aC hQ ?_;(try cases h);simp only [au,aw,bu,bw,go_sem,hF,hP,hY,hZ,eK,hb.1.1.1,hb.1.1.2,hb.1.2,hb.2,hc,hL,hD,e1,e2,e3,n5,kq];repeat' (first | exact Ok.out | with_reducible refine aB ?_ ?_ | (simp;done))))
  ·have kq:((out.length:Int)==2000)=false:=by simp;omega
   have BT : ∀ t:cj,(out++ [t]).length≤2000:=by intro t;simp;omega
   simp only [rB, ↓reduceIte]at h
   repeat' (first
 | simp only [go_sem,hF,hP,hY,hZ,eK,hb.1.1.1,hb.1.1.2,hb.1.2,hb.2,hc,hL,hD,e1,e2,e3,n5,kq,gv]
 | (with_reducible refine CU (ix _ _) ?_)
 | (with_reducible refine CU (jU _ _) ?_)
 | (with_reducible refine CU (Ht _) ?_)
 | (with_reducible refine cw (l:=4) (by with_unfolding_all rfl) ?_)
 | (with_reducible refine cw (l:=5) (by with_unfolding_all rfl) ?_)
 | (refine IH.to hB fin h ui (BT _) (by omega) (Nat.lt_succ_self _) ?_ ?_ ?_ <;> ((try simp only [go_sem,hF,hP,hY,hZ]);repeat' (first | exact Ok.out | with_reducible refine aB ?_ ?_ | omega | (simp;done)));done)
 | (with_reducible refine aC hQ ?_;simp only [au,aw,bu,bw,go_sem,hF,hP,hY,hZ];repeat' (first | exact Ok.out | with_reducible refine aB ?_ ?_ | (simp;done))))
theorem Tv {text:aF} (hl:text.length≤100000) {B:fI} {Q:Exit→Tm→St→Prop} {p:List cj×Int×Int} (hB:B.s=S0)
 (hQ:iS 0 0 [(2,none),(3,some (true,2))] (.tuple [.slice .shared 4 (p.1.map eD), .agg (mY p.2)]) ⟨[],[]⟩=Q)
 {n pos:Nat} {out:List cj} (ho:out.length≤2000) (hp:pos≤text.length) (IH:sv text B Q p (n+1))
 {c:UInt8} {r:aF} (h1:text.drop pos=c::r) (hb:vj c=false) (hc:((c.toNat:Int)==35)=false) (hL:pY c=true) (hn:(c::r).length<n+1) (h:nJ (n+1) pos (c::r) out=p) :
 gU Tryz.prog B 152 Aq (jY Tryz.prog B 152 vh Q) (oC text out pos) (pA out):=by
 have hY:0<1:=Nat.zero_lt_one
 have hZ:0<1:=Nat.zero_lt_one
 have hP:=(drop_cons h1).1
 have g4:=(drop_cons h1).2.2.2
 have hF:pos<4611686018427387904:=by omega
 have eK:decide ((pos:Int)≥(text.length:Int))=false:=by simp;omega
 have gv:(out.length+1)*41≤bc:=by simp only [bc];omega
 have dS:=fun s=>Wd (text:=text) (pos:=pos) (by omega) s
 rw [h1]at dS
 have bl:=IU (c::r)
 have uF:=Tr (r:=r) hL
 have fA:(c::r).length=text.length - pos:=by rw [← h1,List.length_drop]
 simp only [nJ,hb,Bool.false_eq_true, ↓reduceIte,hc,E0,hL]at h
 simp only [vj,Bool.or_eq_false_iff]at hb
 generalize hK:lF (c::r)=k at h dS bl uF
 have hlen:((c::r).take k).length=k:=by rw [List.length_take];omega
 simp only [hlen]at h
 have e1:IntKind.wrap .i64 (((pos+k:Nat):Int) - (pos:Int))=(k:Int):=by rw [dc] <;> omega
 have e2:(0:Int)≤(pos:Int)∧(pos:Int)≤((pos+k:Nat):Int)∧((pos+k:Nat):Int)≤(text.length:Int):=by omega
 have e3:(text.take (pos+k)).drop pos=(c::r).take k:=by rw [yG,h1]
 by_cases hz:k > 8
 ·have n5:decide ((k:Int) > 8)=true:=by simp;omega
  simp only [hz, ↓reduceIte]at h
  cases hw:isWord ((c::r).take k)
  ·repeat' (first
 | simp only [go_sem,hF,hP,hY,hZ,eK,hb.1.1.1,hb.1.1.2,hb.1.2,hb.2,hc,hL,e1,e2,e3,n5,hw]
 | (with_reducible refine CU (ix _ _) ?_)
 | (with_reducible refine CU (dS _) ?_)
 | (with_reducible refine CU (vm _ _) ?_)
 | (with_reducible refine cw (l:=2) (by with_unfolding_all rfl) ?_)
 | (with_reducible refine cw (l:=4) (by with_unfolding_all rfl) ?_)
 | (with_reducible refine cw (l:=5) (by with_unfolding_all rfl) ?_)
 | (with_reducible first | refine bK fun hc=> ?_ | refine bL fun hc=> ?_ | refine bM (fun hc=> ?_) fun hc=> ?_) <;> (try simp only [hc,bs, ↓reduceIte]at h) <;> try simp only [hc]
 | (with_reducible refine aC hQ ?_;(try cases h);simp only [au,aw,bu,bw,go_sem,hF,hP,hY,hZ,eK,hb.1.1.1,hb.1.1.2,hb.1.2,hb.2,hc,hL,e1,e2,e3,n5,hw];repeat' (first | exact Ok.out | with_reducible refine aB ?_ ?_ | (simp;done))))
  ·repeat' (first
 | simp only [go_sem,hF,hP,hY,hZ,eK,hb.1.1.1,hb.1.1.2,hb.1.2,hb.2,hc,hL,e1,e2,e3,n5,hw]
 | (with_reducible refine CU (ix _ _) ?_)
 | (with_reducible refine CU (dS _) ?_)
 | (with_reducible refine CU (vm _ _) ?_)
 | (with_reducible refine cw (l:=2) (by with_unfolding_all rfl) ?_)
 | (with_reducible refine cw (l:=4) (by with_unfolding_all rfl) ?_)
 | (with_reducible refine cw (l:=5) (by with_unfolding_all rfl) ?_)
 | (with_reducible first | refine bK fun hc=> ?_ | refine bL fun hc=> ?_ | refine bM (fun hc=> ?_) fun hc=> ?_) <;> (try simp only [hc,bs, ↓reduceIte]at h) <;> try simp only [hc]
 | (with_reducible refine aC hQ ?_;(try cases h);simp only [au,aw,bu,bw,go_sem,hF,hP,hY,hZ,eK,hb.1.1.1,hb.1.1.2,hb.1.2,hb.2,hc,hL,e1,e2,e3,n5,hw];repeat' (first | exact Ok.out | with_reducible refine aB ?_ ?_ | (simp;done))))
 ·have n5:decide ((k:Int) > 8)=false:=by simp;omega
  have fin:text.drop (pos+k)=(c::r).drop k:=by rw [← h1,List.drop_drop]
  have ui:((c::r).drop k).length<n:=by rw [List.length_drop];omega
  simp only [hz, ↓reduceIte,hlen]at h
  by_cases rB:out.length=2000
  ·have kq:((out.length:Int)==2000)=true:=by simp [rB]
   simp only [rB, ↓reduceIte]at h
   cases hw:isWord ((c::r).take k)
   ·repeat' (first
 | simp only [go_sem,hF,hP,hY,hZ,eK,hb.1.1.1,hb.1.1.2,hb.1.2,hb.2,hc,hL,e1,e2,e3,n5,kq,hw]
 | (with_reducible refine CU (ix _ _) ?_)
 | (with_reducible refine CU (dS _) ?_)
 | (with_reducible refine CU (vm _ _) ?_)
 | (with_reducible refine cw (l:=2) (by with_unfolding_all rfl) ?_)
 | (with_reducible refine cw (l:=4) (by with_unfolding_all rfl) ?_)
 | (with_reducible refine cw (l:=5) (by with_unfolding_all rfl) ?_)
 | (with_reducible first | refine bK fun hc=> ?_ | refine bL fun hc=> ?_ | refine bM (fun hc=> ?_) fun hc=> ?_) <;> (try simp only [hc,bs, ↓reduceIte]at h) <;> try simp only [hc]
 | (with_reducible refine aC hQ ?_;(try cases h);simp only [au,aw,bu,bw,go_sem,hF,hP,hY,hZ,eK,hb.1.1.1,hb.1.1.2,hb.1.2,hb.2,hc,hL,e1,e2,e3,n5,kq,hw];repeat' (first | exact Ok.out | with_reducible refine aB ?_ ?_ | (simp;done))))
   ·repeat' (first
 | simp only [go_sem,hF,hP,hY,hZ,eK,hb.1.1.1,hb.1.1.2,hb.1.2,hb.2,hc,hL,e1,e2,e3,n5,kq,hw]
 | (with_reducible refine CU (ix _ _) ?_)
 | (with_reducible refine CU (dS _) ?_)
 | (with_reducible refine CU (vm _ _) ?_)
 | (with_reducible refine cw (l:=2) (by with_unfolding_all rfl) ?_)
 | (with_reducible refine cw (l:=4) (by with_unfolding_all rfl) ?_)
 | (with_reducible refine cw (l:=5) (by with_unfolding_all rfl) ?_)
 | (with_reducible first | refine bK fun hc=> ?_ | refine bL fun hc=> ?_ | refine bM (fun hc=> ?_) fun hc=> ?_) <;> (try simp only [hc,bs, ↓reduceIte]at h) <;> try simp only [hc]
 | (with_reducible refine aC hQ ?_;(try cases h);simp only [au,aw,bu,bw,go_sem,hF,hP,hY,hZ,eK,hb.1.1.1,hb.1.1.2,hb.1.2,hb.2,hc,hL,e1,e2,e3,n5,kq,hw];repeat' (first | exact Ok.out | with_reducible refine aB ?_ ?_ | (simp;done))))
  ·have kq:((out.length:Int)==2000)=false:=by simp;omega
   have BT : ∀ t:cj,(out++ [t]).length≤2000:=by intro t;simp;omega
   simp only [rB, ↓reduceIte]at h
   cases hw:isWord ((c::r).take k)
   ·simp only [hw,Bool.false_eq_true, ↓reduceIte]at h
    repeat' (first
 | simp only [go_sem,hF,hP,hY,hZ,eK,hb.1.1.1,hb.1.1.2,hb.1.2,hb.2,hc,hL,e1,e2,e3,n5,kq,gv,hw]
 | (with_reducible refine CU (ix _ _) ?_)
 | (with_reducible refine CU (dS _) ?_)
 | (with_reducible refine CU (vm _ _) ?_)
 | (with_reducible refine cw (l:=2) (by with_unfolding_all rfl) ?_)
 | (with_reducible refine cw (l:=4) (by with_unfolding_all rfl) ?_)
 | (with_reducible refine cw (l:=5) (by with_unfolding_all rfl) ?_)
 | (refine IH.to hB fin h ui (BT _) (by omega) (Nat.lt_succ_self _) ?_ ?_ ?_ <;> ((try simp only [go_sem,hF,hP,hY,hZ]);repeat' (first | exact Ok.out | with_reducible refine aB ?_ ?_ | omega | (simp;done)));done)
 | (with_reducible first | refine bK fun hc=> ?_ | refine bL fun hc=> ?_ | refine bM (fun hc=> ?_) fun hc=> ?_) <;> (try simp only [hc,bs, ↓reduceIte]at h) <;> try simp only [hc]
 | (with_reducible refine aC hQ ?_;(try cases h);simp only [au,aw,bu,bw,go_sem,hF,hP,hY,hZ,eK,hb.1.1.1,hb.1.1.2,hb.1.2,hb.2,hc,hL,e1,e2,e3,n5,kq,gv,hw];repeat' (first | exact Ok.out | with_reducible refine aB ?_ ?_ | (simp;done))))
   ·simp only [hw, ↓reduceIte]at h
    repeat' (first
 | simp only [go_sem,hF,hP,hY,hZ,eK,hb.1.1.1,hb.1.1.2,hb.1.2,hb.2,hc,hL,e1,e2,e3,n5,kq,gv,hw]
 | (with_reducible refine CU (ix _ _) ?_)
 | (with_reducible refine CU (dS _) ?_)
 | (with_reducible refine CU (vm _ _) ?_)
 | (with_reducible refine cw (l:=2) (by with_unfolding_all rfl) ?_)
 | (with_reducible refine cw (l:=4) (by with_unfolding_all rfl) ?_)
 | (with_reducible refine cw (l:=5) (by with_unfolding_all rfl) ?_)
 | (refine IH.to hB fin h ui (BT _) (by omega) (Nat.lt_succ_self _) ?_ ?_ ?_ <;> ((try simp only [go_sem,hF,hP,hY,hZ]);repeat' (first | exact Ok.out | with_reducible refine aB ?_ ?_ | omega | (simp;done)));done)
 | (with_reducible refine aC hQ ?_;simp only [au,aw,bu,bw,go_sem,hF,hP,hY,hZ];repeat' (first | exact Ok.out | with_reducible refine aB ?_ ?_ | (simp;done))))
end Go.Abs

/-! RefLex1 -/

namespace Go.Abs
set_option maxRecDepth 8000
open Go.Proofs
theorem IX (c:UInt8) (s:St):aE Tryz.prog qY [.int .u8 (c.toNat:Int)] s (.bool (pY c)) s:=by
 refine aE.pure ?_ rfl rfl s
 generalize h:pY c=b
 unfold pY at h
 unfold S0
 refine aE.go EP rfl fun B Q hB hQ=> ?_
 have⟨hF,hP,hY,hZ⟩:=bq
 repeat' (first
 | simp only [go_sem,hF,hP,hY,hZ]
 | (with_reducible first | refine bK fun hc=> ?_ | refine bL fun hc=> ?_ | refine bM (fun hc=> ?_) fun hc=> ?_) <;> (try simp only [hc,bs, ↓reduceIte]at h) <;> try simp only [hc]
 | (with_reducible refine aC hQ ?_;(try cases h);simp only [au,aw,bu,bw,go_sem,hF,hP,hY,hZ];repeat' (first | exact Ok.out | with_reducible refine aB ?_ ?_ | (simp;done))))
theorem Tw (c:UInt8) (s:St):aE Tryz.prog vb [.int .u8 (c.toNat:Int)] s (.bool (oA c)) s:=by
 refine aE.pure ?_ rfl rfl s
 generalize h:oA c=b
 unfold oA at h
 unfold S0
 refine aE.go ER rfl fun B Q hB hQ=> ?_
 have⟨hF,hP,hY,hZ⟩:=bq
 repeat' (first
 | simp only [go_sem,hF,hP,hY,hZ]
 | (with_reducible first | refine bK fun hc=> ?_ | refine bL fun hc=> ?_ | refine bM (fun hc=> ?_) fun hc=> ?_) <;> (try simp only [hc,bs, ↓reduceIte]at h) <;> try simp only [hc]
 | (with_reducible refine aC hQ ?_;(try cases h);simp only [au,aw,bu,bw,go_sem,hF,hP,hY,hZ];repeat' (first | exact Ok.out | with_reducible refine aB ?_ ?_ | (simp;done))))
theorem Xy (s:St):aE Tryz.prog vd [] s (.slice .shared 1 [[.str [103,108,111,98,97,108]],[.str [112,114,111,99]],[.str [118,97,114]],[.str [114,101,102]],[.str [105,102]],[.str [101,108,115,101]],[.str [119,104,105,108,101]],[.str [98,114,101,97,107]],[.str [99,111,110,116,105,110,117,101]],[.str [114,101,116,117,114,110]],[.str [103,111,116,111]],[.str [114,101,97,100]],[.str [112,114,105,110,116]]]) s:=by
 refine aE.pure ?_ rfl rfl s
 unfold S0
 refine aE.go ES rfl fun B Q hB hQ=> ?_
 have⟨hF,hP,hY,hZ⟩:=bq
 repeat' (first
 | simp only [go_sem,hF,hP,hY,hZ]
 | (with_reducible refine aC hQ ?_;simp only [au,aw,Option.some.injEq,exists_eq_left',go_sem,hF,hP,hY,hZ];repeat' (first | exact Ok.out | with_reducible refine aB ?_ ?_ | (simp;done))))
def Bl (s:aF):Bool:=
 [103,108,111,98,97,108] == s || [112,114,111,99] == s || [118,97,114] == s || [114,101,102] == s || [105,102] == s || [101,108,115,101] == s || [119,104,105,108,101] == s || [98,114,101,97,107] == s || [99,111,110,116,105,110,117,101] == s || [114,101,116,117,114,110] == s || [103,111,116,111] == s || [114,101,97,100] == s || [112,114,105,110,116] == s
theorem NL (s:aF):Bl s=isWord s:=by
 have e : ∀ a:aF,(a==s)=(s==a):=fun a=>BEq.comm
 simp only [Bl,isWord,e]
theorem Xz (text:aF) (s:St):aE Tryz.prog wX [.str text] s (.bool (isWord text)) s:=by
 refine aE.pure ?_ rfl rfl s
 rw [← NL]
 generalize h:Bl text=p
 unfold Bl at h
 unfold S0
 refine aE.go GV rfl fun B Q hB hQ=> ?_
 have⟨hF,hP,hY,hZ⟩:=bq
 repeat' (first
 | simp only [go_sem,hF,hP,hY,hZ,Int.cast_ofNat_Int,dc,Int.reduceAdd,Int.reduceLT,Int.reduceNeg,decide_true,decide_false,Int.reduceToNat]
 | (with_reducible refine CU (Xy _) ?_)
 | (with_reducible refine a8.sj ?_)
 | (with_reducible first | refine bK fun hc=> ?_ | refine bL fun hc=> ?_ | refine bM (fun hc=> ?_) fun hc=> ?_) <;> (try simp only [hc,bs, ↓reduceIte]at h) <;> try simp only [hc]
 | (with_reducible refine aC hQ ?_;(try cases h);simp only [au,aw,bu,bw,go_sem,hF,hP,hY,hZ,Int.cast_ofNat_Int,dc,Int.reduceAdd,Int.reduceLT,Int.reduceNeg,decide_true,decide_false,Int.reduceToNat];repeat' (first | exact Ok.out | with_reducible refine aB ?_ ?_ | (simp;done))))
end Go.Abs

/-! Prs2 -/

namespace Go.Abs
set_option maxRecDepth 8000
open Go.Proofs
theorem aoX {t:cj} {p:Int×Int} (h:nC t=p):aE Tryz.prog ug [.agg (eD t)] S0 (.tuple [.int .i64 p.1, .int .i64 p.2]) S0:=by
 unfold nC at h
 unfold S0
 refine aE.go IS rfl fun B Q hB hQ=> ?_
 have⟨hF,hP,hY,hZ⟩:=bq
 repeat' (first
 | simp only [go_sem,hF,hP,hY,hZ]
 | (with_reducible first | refine bK fun hc=> ?_ | refine bL fun hc=> ?_ | refine bM (fun hc=> ?_) fun hc=> ?_) <;> (try simp only [hc,bs, ↓reduceIte]at h) <;> try simp only [hc]
 | (with_reducible refine aC hQ ?_;(try cases h);simp only [au,aw,bu,bw,go_sem,hF,hP,hY,hZ];repeat' (first | exact Ok.out | with_reducible refine aB ?_ ?_ | (simp;done))))
theorem XA : ∀ n,n<4611686018427387904→∀ x:Ex,x.size≤n→aE Tryz.prog lH [.agg (bE x)] S0 (.int .i64 (x.depth:Int)) S0:=by
 intro n
 induction n with
 | zero=>rintro _ ⟨op,m,name,kids⟩ h;simp only [Ex.size]at h;omega
 | succ n ihn=>
 rintro hn ⟨op,m,name,kids⟩ hx
 have hk : ∀ y∈kids,aE Tryz.prog lH [.agg (bE y)] S0 (.int .i64 (y.depth:Int)) S0:=fun y hy=>ihn (by omega) y (by simp only [Ex.size]at hx;have:=Ex.bV hy;omega)
 have hlen:kids.length<4611686018427387904:=by simp only [Ex.size]at hx;have:=Ex.cZ kids;omega
 have L5:Ex.gI kids<4611686018427387904:=by have:=Ex.Nk _ _ hx;simp only [Ex.depth]at this;omega
 unfold S0
 refine aE.go Dq rfl fun B Q hB hQ=> ?_
 have⟨hF,hP,hY,hZ⟩:=bq
 repeat' (first
 | simp only [go_sem,hF,hP,hY,hZ]
 | (with_reducible first | refine bK fun hc=> ?_ | refine bL fun hc=> ?_ | refine bM (fun hc=> ?_) fun hc=> ?_) <;> (try simp only [hc,bs, ↓reduceIte]at h) <;> try simp only [hc]
 | (with_reducible refine aC hQ ?_;simp only [au,aw,bu,bw,go_sem,hF,hP,hY,hZ];repeat' (first | exact Ok.out | with_reducible refine aB ?_ ?_ | (simp;done))))
 refine cd 0 0 (a8.ind (ι:=List Ex×Nat×Nat) (fun i=>kids.drop i.2.1=i.1∧max i.2.2 (Ex.gI i.1)=Ex.gI kids) (fun i=>i.1.length)
  (fun i=> [(3, .int .i64 (i.2.2:Int)),(7, .slice .shared 4 (kids.map bE)),(8, .int .i64 (kids.length:Int)),(9, .int .i64 (i.2.1:Int))]) (fun _=>S0) ?_ (kids,0,0) ⟨rfl,by simp⟩)
 rintro⟨rest,k,acc⟩ ⟨h1,h2⟩ IH
 unfold S0
 cases rest with
 | nil=>
  have hF:=drop_nil h1
  simp only [Ex.gI,Nat.max_zero]at h2
  subst h2
  repeat' (first
 | simp only [go_sem,hF,hP,hY,hZ,az L5,Ex.depth]
 | (with_reducible first | refine bK fun hc=> ?_ | refine bL fun hc=> ?_ | refine bM (fun hc=> ?_) fun hc=> ?_) <;> (try simp only [hc,bs, ↓reduceIte]at h) <;> try simp only [hc]
 | (with_reducible refine aC hQ ?_;simp only [au,aw,bu,bw,go_sem,hF,hP,hY,hZ,az L5,Ex.depth];repeat' (first | exact Ok.out | with_reducible refine aB ?_ ?_ | (simp;done))))
 | cons y rest=>
  obtain⟨g1,g2,hF,g4⟩:=drop_cons h1
  simp only [Ex.gI]at h2
  have hy:=fun s=>(hk y (List.mem_of_getElem? g1)).pure (by simp [D.bR,D.ok,gN]) rfl s
  dsimp only at g1 g2 hF g4 h2
  repeat' (first
 | simp only [go_sem,hF,hP,hY,hZ,g1]
 | (with_reducible refine CU (hy _) ?_)
 | (with_reducible refine aC hQ ?_;simp only [au,aw,bu,bw,go_sem,hF,hP,hY,hZ];repeat' (first | exact Ok.out | with_reducible refine aB ?_ ?_ | (simp;done))))
  refine ct 0 0 ?_ ?_ (IH (rest,k+1,max acc y.depth) ⟨g2,by dsimp only;omega⟩ (by simp))
  ·(simp only [go_sem,hF,hP,hY,hZ,mx,az (show k<4611686018427387904 by omega)];try exact aU)
  ·(simp only [go_sem,hF,hP,hY,hZ,mx,az (show k<4611686018427387904 by omega)];try exact aU)
theorem XB {x:Ex} {d:Int} (h:Iz x=some d) (s:St):aE Tryz.prog lH [.agg (bE x)] s (.int .i64 d) s:=by
 unfold Iz at h
 split at h
 ·cases h;exact(XA x.size ‹_› x (Nat.le_refl _)).pure (by simp [D.bR,D.ok,gN]) rfl s
 ·cases h
theorem aoY (t:cj) (s:St):aE Tryz.prog ug [.agg (eD t)] s (.tuple [.int .i64 (nC t).1, .int .i64 (nC t).2]) s:=(aoX rfl).pure rfl rfl s
theorem adP {c:Prop} [Decidable c] {α:Type} {P:α→Prop} {a b:α} (ha:P a) (hb:P b):P (if c then a else b):=by
 by_cases h:c
 ·rw [if_pos h];exact ha
 ·rw [if_neg h];exact hb
def OpR (p:Int×Int):Prop:=0≤p.2∧p.2≤6
theorem Tx (t:cj):OpR (nC t):=by
 unfold nC
 repeat' with_reducible refine adP (P:=OpR) ?_ ?_
 all_goals exact⟨by decide,by decide⟩
theorem KZ (t:cj):IntKind.wrap .i64 ((nC t).2+1)=(nC t).2+1:=by
 have:0≤(nC t).2∧(nC t).2≤6:=Tx t
 rw [dc] <;> omega
abbrev Hu (m:Nat):Prop:=∀ {r:Rd} {p:Ex×Rd},Rd.one m r=some p→∀ {s:St} {o:Nat},s.aG[o]? = some (cE r)→aE Tryz.prog kl [.ptr o 0] s (.agg (bE p.1)) ⟨s.aG.set o (cE p.2),s.aH⟩
abbrev Hv (m:Nat):Prop:=∀ {k:Int} {r:Rd} {p:Ex×Rd},Rd.two m k r=some p→∀ {s:St} {o:Nat},s.aG[o]? = some (cE r)→aE Tryz.prog iY [.ptr o 0, .int .i64 k] s (.agg (bE p.1)) ⟨s.aG.set o (cE p.2),s.aH⟩
theorem Ty {m:Nat} (Dw:Hu m) (Dx:Hv m):Hu (m+1):=by
 intro r p h s o ho
 refine aE.kz ?_ rfl (fS r) (fS p.2) (by simp [D.ok,gN]) ho
 unfold Rd.one at h
 refine aE.go yE rfl fun B Q hB hQ=> ?_
 have⟨hF,hP,hY,hZ⟩:=bq
 repeat' (first
 | simp only [go_sem,hF,hP,hY,hZ]
 | (rw [Option.bind_eq_some_iff]at h;obtain⟨_,h1,h⟩:=h;first | (with_reducible refine CU (o7 h1 (by with_unfolding_all rfl)) ?_;have hF:=rT h1) | (with_reducible refine CU (sT h1 (by with_unfolding_all rfl)) ?_) | (with_reducible refine CU (Dx h1 (by with_unfolding_all rfl)) ?_) | (with_reducible refine CU (pZ h1 (by with_unfolding_all rfl)) ?_) | (with_reducible refine CU (Dw h1 (by with_unfolding_all rfl)) ?_) | (with_reducible refine CU (Dv h1 (by with_unfolding_all rfl)) ?_))
 | (with_reducible refine CU (kE (by with_unfolding_all rfl)) ?_)
 | (with_reducible first | refine bK fun hc=> ?_ | refine bL fun hc=> ?_ | refine bM (fun hc=> ?_) fun hc=> ?_) <;> (try simp only [hc,bs, ↓reduceIte]at h) <;> try simp only [hc]
 | (with_reducible refine aC hQ ?_;(try cases h);simp only [au,aw,bu,bw,go_sem,hF,hP,hY,hZ];repeat' (first | exact Ok.out | with_reducible refine aB ?_ ?_ | (simp;done))))
theorem Tz {m:Nat} (Dw:Hu m) (Dx : ∀ j<m,Hv j):Hv (m+1):=by
 intro k r p h s o ho
 refine aE.kz ?_ rfl (fS r) (fS p.2) (by simp [D.ok,gN]) ho
 unfold Rd.two at h
 refine aE.go yD rfl fun B Q hB hQ=> ?_
 have⟨hF,hP,hY,hZ⟩:=bq
 repeat' (first
 | simp only [go_sem,hF,hP,hY,hZ]
 | (rw [Option.bind_eq_some_iff]at h;obtain⟨_,h1,h⟩:=h;first | (with_reducible refine CU (Dw h1 (by with_unfolding_all rfl)) ?_))
 | (with_reducible refine aC hQ ?_;simp only [au,aw,bu,bw,go_sem,hF,hP,hY,hZ];repeat' (first | exact Ok.out | with_reducible refine aB ?_ ?_ | (simp;done))))
 refine cd 3 0 (a8.ind (ι:=Nat×Ex×Rd) (fun i=>Rd.Ak i.1 k i.2.1 i.2.2=some p∧i.1≤m) (fun i=>i.1)
  (fun i=> [(0, .ptr 0 0),(1, .int .i64 k),(4, .ptr 1 0),(5, .ptr 2 0)]) (fun i=>⟨[cE i.2.2,bE mw,bE i.2.1],[]⟩) ?_ (m,_,_) ⟨h,Nat.le_refl _⟩)
 rintro⟨n,x,r⟩ ⟨h,hn⟩ IH
 cases n with
 | zero=>simp only [Rd.Ak]at h;cases h
 | succ n=>
  have adQ:=@Dx n (by omega)
  simp only [Rd.Ak]at h
  repeat' (first
 | simp only [go_sem,hF,hP,hY,hZ,KZ]
 | (rw [Option.bind_eq_some_iff]at h;obtain⟨_,h1,h⟩:=h;first | (with_reducible refine CU (o7 h1 (by with_unfolding_all rfl)) ?_;have hF:=rT h1) | (with_reducible refine CU (adQ h1 (by with_unfolding_all rfl)) ?_))
 | (with_reducible refine CU (kE (by with_unfolding_all rfl)) ?_)
 | (with_reducible refine CU (aoY _ _) ?_)
 | (with_reducible first | refine bK fun hc=> ?_ | refine bL fun hc=> ?_ | refine bM (fun hc=> ?_) fun hc=> ?_) <;> (try simp only [hc,bs, ↓reduceIte]at h) <;> try simp only [hc]
 | (with_reducible refine aC hQ ?_;(try cases h);simp only [au,aw,bu,bw,go_sem,hF,hP,hY,hZ,KZ];repeat' (first | exact Ok.out | with_reducible refine aB ?_ ?_ | (simp;done))))
  refine cd 3 0 (IH (n,_,_) ⟨h,by dsimp only at hn ⊢;omega⟩ (Nat.lt_succ_self _))
theorem XC : ∀ n,∀ m<n,Hu m∧Hv m:=by
 intro n
 induction n with
 | zero=>intro m h;exact absurd h (Nat.not_lt_zero _)
 | succ n ih=>
  intro m h
  cases m with
  | zero=>
   refine⟨?_, ?_⟩
   ·intro r p h;simp only [Rd.one]at h;cases h
   ·intro k r p h;simp only [Rd.two]at h;cases h
  | succ m=>
   have hm:=ih m (by omega)
   exact⟨Ty hm.1 hm.2,Tz hm.1 fun j hj=>(ih j (by omega)).2⟩
theorem Dx {m:Nat} {k:Int} {r:Rd} {p:Ex×Rd} (h:Rd.two m k r=some p) {s:St} {o:Nat} (ho:s.aG[o]? = some (cE r)) :
 aE Tryz.prog iY [.ptr o 0, .int .i64 k] s (.agg (bE p.1)) ⟨s.aG.set o (cE p.2),s.aH⟩:=(XC (m+1) m (Nat.lt_succ_self _)).2 h ho
theorem Bm {n:Nat} {r:Rd} {p:Ex×Rd} (h:Rd.whole n r=some p) {s:St} {o:Nat} (ho:s.aG[o]? = some (cE r)) :
 aE Tryz.prog gi [.ptr o 0] s (.agg (bE p.1)) ⟨s.aG.set o (cE p.2),s.aH⟩:=by
 refine aE.kz ?_ rfl (fS r) (fS p.2) (by simp [D.ok,gN]) ho
 unfold Rd.whole at h
 refine aE.go xd rfl fun B Q hB hQ=> ?_
 have⟨hF,hP,hY,hZ⟩:=bq
 repeat' (first
 | simp only [go_sem,hF,hP,hY,hZ]
 | (rw [Option.bind_eq_some_iff]at h;obtain⟨_,h1,h⟩:=h;first | (with_reducible refine CU (o7 h1 (by with_unfolding_all rfl)) ?_) | (with_reducible refine CU (XB h1 _) ?_) | (with_reducible refine CU (Dx h1 (by with_unfolding_all rfl)) ?_))
 | (with_reducible refine CU (kE (by with_unfolding_all rfl)) ?_)
 | (with_reducible first | refine bK fun hc=> ?_ | refine bL fun hc=> ?_ | refine bM (fun hc=> ?_) fun hc=> ?_) <;> (try simp only [hc,bs, ↓reduceIte]at h) <;> try simp only [hc]
 | (with_reducible refine aC hQ ?_;(try cases h);simp only [au,aw,bu,bw,go_sem,hF,hP,hY,hZ];repeat' (first | exact Ok.out | with_reducible refine aB ?_ ?_ | (simp;done))))
end Go.Abs

/-! Ref1 -/

namespace Go.Abs
set_option maxRecDepth 8000
open Go.Proofs
@[go_sem] def wb (z:D) (r:Rd):List D:= [.slice .shared 4 (r.l.map eD), .int .i64 r.i, .int .i64 r.code, .int .i64 r.qM,z]
class Cell (z:D):Prop where
 ok:D.ok 0 0 z=true
 fg : ∀ n m,D.fg n m z=z
instance (n:Int):Cell (.int .i64 n):=⟨rfl,fun _ _=>rfl⟩
instance:Cell .junk:=⟨rfl,fun _ _=>rfl⟩
theorem XD (z:D) [h:Cell z] (n m:Nat):D.fg n m z=z:=h.fg n m
attribute [go_sem] XD
def Rd.isO (text:aF) (r:Rd):Option Bool:=if r.good then r.is text else some false
end Go.Abs

/-! Ref2 -/

namespace Go.Abs
set_option maxRecDepth 8000
open Go.Proofs
def aah (s:aF):Int×Int:=
 if [42] == s then(6,5)else if [47] == s then(6,6)else if [37] == s then(6,7)else if [43] == s then(5,8)else if [45] == s then(5,9)
 else if [60] == s then(4,10)else if [60,61] == s then(4,11)else if [62] == s then(4,12)else if [62,61] == s then(4,13)
 else if [61,61] == s then(3,14)else if [33,61] == s then(3,15)else if [38,38] == s then(2,16)else if [124,124] == s then(1,17)else(0,0)
abbrev apH (m:Nat):Prop:=∀ {z:D} [Cell z] {r:Rd} {p:Ex×Rd},Rd.one m r=some p→∀ {s:St} {o:Nat},s.aG[o]? = some (wb z r)→aE Tryz.prog Eu [.ptr o 0] s (.agg (bE p.1)) ⟨s.aG.set o (wb z p.2),s.aH⟩
abbrev avi (m:Nat):Prop:=∀ {z:D} [Cell z] {k:Int} {x:Ex} {r:Rd} {p:Ex×Rd},Rd.Ak m k x r=some p→∀ {s:St} {o:Nat},s.aG[o]? = some (wb z r)→aE Tryz.prog GC [.ptr o 0, .agg (bE x), .int .i64 k] s (.agg (bE p.1)) ⟨s.aG.set o (wb z p.2),s.aH⟩
def BZ (p:Int×Int):Prop:=(p.2==0)=(p.1==0)
end Go.Abs

/-! Ref3 -/

namespace Go.Abs
set_option maxRecDepth 8000
open Go.Proofs
theorem aai : ∀ (fJ:Nat),fJ<1000000→∀ x:Ex,x.size<4611686018427387904→∀ s:St,aE Tryz.prog pV [.agg (bE x), .int .i64 (fJ:Int)] s (.int .i64 ((min x.depth (fJ+1):Nat):Int)) s:=by
 intro fJ
 induction fJ with
 | zero=>
  rintro _ ⟨op,m,name,kids⟩ hx s
  refine aE.pure ?_ (by simp [D.bR,D.ok,gN]) rfl s
  have hz:((0:Int)==0)=true:=rfl
  have e:min (Ex.depth ⟨op,m,name,kids⟩) (0+1)=1:=by simp only [Ex.depth];omega
  rw [e]
  unfold S0
  refine aE.go zo rfl fun B Q hB hQ=> ?_
  have⟨hF,hP,hY,hZ⟩:=bq
  repeat' (first
 | simp only [go_sem,hF,hP,hY,hZ,hz]
 | (with_reducible refine aC hQ ?_;simp only [au,aw,Option.some.injEq,exists_eq_left',go_sem,hF,hP,hY,hZ];repeat' (first | exact Ok.out | with_reducible refine aB ?_ ?_ | (simp;done))))
 | succ fJ ih=>
  rintro awM ⟨op,m,name,kids⟩ hx s
  refine aE.pure ?_ (by simp [D.bR,D.ok,gN]) rfl s
  have hlen:kids.length<4611686018427387904:=by simp only [Ex.size]at hx;have:=Ex.cZ kids;omega
  have hk : ∀ y∈kids,∀ s,aE Tryz.prog pV [.agg (bE y), .int .i64 (fJ:Int)] s (.int .i64 ((min y.depth (fJ+1):Nat):Int)) s:=fun y hy s=>
   ih (by omega) y (by simp only [Ex.size]at hx;have:=Ex.bV hy;omega) s
  have hz:(((fJ+1:Nat):Int)==0)=false:=by simp;omega
  have w1:IntKind.wrap .i64 (((fJ+1:Nat):Int) - 1)=(fJ:Int):=by rw [dc] <;> omega
  unfold S0
  refine aE.go zo rfl fun B Q hB hQ=> ?_
  have⟨hF,hP,hY,hZ⟩:=bq
  repeat' (first
 | simp only [go_sem,hF,hP,hY,hZ,hz]
 | (with_reducible refine aC hQ ?_;simp only [au,aw,Option.some.injEq,exists_eq_left',go_sem,hF,hP,hY,hZ];repeat' (first | exact Ok.out | with_reducible refine aB ?_ ?_ | (simp;done))))
  refine cd 1 0 (a8.ind (ι:=List Ex×Nat×Nat) (fun i=>kids.drop i.2.1=i.1∧i.2.2≤fJ+1∧min (max i.2.2 (Ex.gI i.1)) (fJ+1)=min (Ex.gI kids) (fJ+1)) (fun i=>i.1.length)
   (fun i=> [(1, .int .i64 ((fJ+1:Nat):Int)),(2, .ptr 0 0),(5, .int .i64 (i.2.2:Int)),(6, .int .i64 (i.2.1:Int))]) (fun i=>⟨[bE ⟨op,m,name,kids⟩],[]⟩) ?_ (kids,0,0) ⟨rfl,Nat.zero_le _,by simp⟩)
  rintro⟨rest,k,d⟩ ⟨h1,h2,h3⟩ IH
  dsimp only at h1 h2 h3
  have hd:min (Ex.depth ⟨op,m,name,kids⟩) (fJ+1+1)=min (Ex.gI kids) (fJ+1)+1:=by simp only [Ex.depth];omega
  rw [hd, ← h3]at hQ
  have w2:IntKind.wrap .i64 ((d:Int)+1)=((d+1:Nat):Int):=by rw [dc] <;> omega
  by_cases axe:d<fJ+1
  ·have c2:decide ((d:Int)<((fJ+1:Nat):Int))=true:=by simp;omega
   cases rest with
   | nil=>
    have hF:=drop_nil h1
    simp only [Ex.gI,Nat.max_zero]at hQ
    have e:min d (fJ+1)=d:=by omega
    rw [e]at hQ
    repeat' (first
 | simp only [go_sem,hF,hP,hY,hZ,c2,w2]
 | (with_reducible refine aC hQ ?_;simp only [au,aw,Option.some.injEq,exists_eq_left',go_sem,hF,hP,hY,hZ];repeat' (first | exact Ok.out | with_reducible refine aB ?_ ?_ | (simp;done))))
   | cons y rest=>
    obtain⟨hP,g2,hF,g4⟩:=drop_cons h1
    have hy:=hk y (List.mem_of_getElem? hP)
    simp only [Ex.gI]at h3
    have bl:k<4611686018427387904:=by omega
    by_cases n5:min y.depth (fJ+1) > d
    ·have c3:decide (((min y.depth (fJ+1):Nat):Int) > (d:Int))=true:=by simp only [decide_eq_true_eq];omega
     repeat' (first
 | simp only [go_sem,hF,hP,hY,hZ,c2,w1,c3]
 | (with_reducible refine CU (hy _) ?_)
 | (with_reducible refine aC hQ ?_;simp only [au,aw,Option.some.injEq,exists_eq_left',go_sem,hF,hP,hY,hZ];repeat' (first | exact Ok.out | with_reducible refine aB ?_ ?_ | (simp;done))))
     refine ct 1 0 ?_ ?_ (IH (rest,k+1,min y.depth (fJ+1)) ⟨g2,by dsimp only;omega,by dsimp only;omega⟩ (Nat.lt_succ_self _))
     ·(simp only [go_sem,hF,hP,hY,hZ,az bl];try exact aU)
     ·(simp only [go_sem,hF,hP,hY,hZ,az bl];try exact aU)
    ·have c3:decide (((min y.depth (fJ+1):Nat):Int) > (d:Int))=false:=by simp only [decide_eq_false_iff_not];omega
     repeat' (first
 | simp only [go_sem,hF,hP,hY,hZ,c2,w1,c3]
 | (with_reducible refine CU (hy _) ?_)
 | (with_reducible refine aC hQ ?_;simp only [au,aw,Option.some.injEq,exists_eq_left',go_sem,hF,hP,hY,hZ];repeat' (first | exact Ok.out | with_reducible refine aB ?_ ?_ | (simp;done))))
     refine ct 1 0 ?_ ?_ (IH (rest,k+1,d) ⟨g2,h2,by dsimp only;omega⟩ (Nat.lt_succ_self _))
     ·(simp only [go_sem,hF,hP,hY,hZ,az bl];try exact aU)
     ·(simp only [go_sem,hF,hP,hY,hZ,az bl];try exact aU)
  ·have c2:decide ((d:Int)<((fJ+1:Nat):Int))=false:=by simp;omega
   have e:min (max d (Ex.gI rest)) (fJ+1)=d:=by omega
   rw [e]at hQ
   cases rest with
   | nil=>
    have hF:=drop_nil h1
    repeat' (first
 | simp only [go_sem,hF,hP,hY,hZ,c2,w2]
 | (with_reducible refine aC hQ ?_;simp only [au,aw,Option.some.injEq,exists_eq_left',go_sem,hF,hP,hY,hZ];repeat' (first | exact Ok.out | with_reducible refine aB ?_ ?_ | (simp;done))))
   | cons y rest=>
    obtain⟨hP,g2,hF,g4⟩:=drop_cons h1
    repeat' (first
 | simp only [go_sem,hF,hP,hY,hZ,c2,w2]
 | (with_reducible refine aC hQ ?_;simp only [au,aw,Option.some.injEq,exists_eq_left',go_sem,hF,hP,hY,hZ];repeat' (first | exact Ok.out | with_reducible refine aB ?_ ?_ | (simp;done))))
end Go.Abs

/-! RefMay1 -/

namespace Go.Abs
set_option maxRecDepth 8000
open Go.Proofs
theorem rU (text:aF) (hl:text.length<4611686018427387904) (s:St):aE Tryz.prog jf [.str text] s (.bool (isName text)) s:=by
 refine aE.pure ?_ rfl rfl s
 unfold S0
 cases text with
 | nil=>
  have e:(([] : aF) == [])=true:=rfl
  refine aE.go zr rfl fun B Q hB hQ=> ?_
  have⟨hF,hP,hY,hZ⟩:=bq
  repeat' (first
 | simp only [go_sem,hF,hP,hY,hZ,e,isName]
 | (with_reducible first | refine bK fun hc=> ?_ | refine bL fun hc=> ?_ | refine bM (fun hc=> ?_) fun hc=> ?_) <;> (try simp only [hc,bs, ↓reduceIte]at h) <;> try simp only [hc]
 | (with_reducible refine aC hQ ?_;simp only [au,aw,bu,bw,go_sem,hF,hP,hY,hZ,e,isName];repeat' (first | exact Ok.out | with_reducible refine aB ?_ ?_ | (simp;done))))
 | cons c r=>
  have e:((c::r) == [])=false:=rfl
  generalize h:isName (c::r)=p
  simp only [isName]at h
  refine aE.go zr rfl fun B Q hB hQ=> ?_
  have⟨hF,hP,hY,hZ⟩:=bq
  repeat' (first
 | simp only [go_sem,hF,hP,hY,hZ,e]
 | (with_reducible refine CU (IX _ _) ?_)
 | (with_reducible first | refine bK fun hc=> ?_ | refine bL fun hc=> ?_ | refine bM (fun hc=> ?_) fun hc=> ?_) <;> (try simp only [hc,bs, ↓reduceIte]at h) <;> try simp only [hc]
 | (with_reducible refine aC hQ ?_;(try cases h);simp only [au,aw,bu,bw,go_sem,hF,hP,hY,hZ,e];repeat' (first | exact Ok.out | with_reducible refine aB ?_ ?_ | (simp;done))))
  refine cd 0 0 (a8.ind (ι:=aF×Nat) (fun i=>(c::r).drop i.2=i.1∧(if uh i.1 then !(isWord (c::r))else false)=p) (fun i=>i.1.length)
   (fun i=> [(0, .str (c::r)),(3, .int .i64 (i.2:Int))]) (fun i=>⟨[],[]⟩) ?_ (r,1) ⟨rfl,h⟩)
  rintro⟨rest,k⟩ ⟨h1,h⟩ IH
  dsimp only at h1 h
  cases rest with
  | nil=>
   have hF:=drop_nil h1
   simp only [List.length_cons]at hF
   simp only [uh, ↓reduceIte]at h
   repeat' (first
 | simp only [go_sem,hF,hP,hY,hZ]
 | (with_reducible refine CU (Xz _ _) ?_)
 | (with_reducible first | refine bK fun hc=> ?_ | refine bL fun hc=> ?_ | refine bM (fun hc=> ?_) fun hc=> ?_) <;> (try simp only [hc,bs, ↓reduceIte]at h) <;> try simp only [hc]
 | (with_reducible refine aC hQ ?_;(try cases h);simp only [au,aw,bu,bw,go_sem,hF,hP,hY,hZ];repeat' (first | exact Ok.out | with_reducible refine aB ?_ ?_ | (simp;done))))
  | cons d rest=>
   obtain⟨hP,g2,hF,g4⟩:=drop_cons h1
   simp only [List.length_cons]at hF
   have hY:k<4611686018427387904:=by omega
   simp only [uh]at h
   repeat' (first
 | simp only [go_sem,hF,hP,hY,hZ]
 | (with_reducible refine CU (IX _ _) ?_)
 | (with_reducible refine CU (Tw _ _) ?_)
 | (with_reducible first | refine bK fun hc=> ?_ | refine bL fun hc=> ?_ | refine bM (fun hc=> ?_) fun hc=> ?_) <;> (try simp only [hc,bs, ↓reduceIte]at h) <;> try simp only [hc]
 | (with_reducible refine aC hQ ?_;(try cases h);simp only [au,aw,bu,bw,go_sem,hF,hP,hY,hZ];repeat' (first | exact Ok.out | with_reducible refine aB ?_ ?_ | (simp;done)))
 | (cases h;done))
   all_goals
    refine cd 0 0 (IH (rest,k+1) ⟨g2,h⟩ (Nat.lt_succ_self _))
theorem XE (op:Int) (s:St):aE Tryz.prog ve [.int .i64 op] s (.int .i64 (lT op)) s:=by
 refine aE.pure ?_ rfl rfl s
 unfold S0
 generalize h:lT op=p
 unfold lT at h
 refine aE.go ET rfl fun B Q hB hQ=> ?_
 have⟨hF,hP,hY,hZ⟩:=bq
 repeat' (first
 | simp only [go_sem,hF,hP,hY,hZ]
 | (with_reducible first | refine bK fun hc=> ?_ | refine bL fun hc=> ?_ | refine bM (fun hc=> ?_) fun hc=> ?_) <;> (try simp only [hc,bs, ↓reduceIte]at h) <;> try simp only [hc]
 | (with_reducible refine aC hQ ?_;(try cases h);simp only [au,aw,bu,bw,go_sem,hF,hP,hY,hZ];repeat' (first | exact Ok.out | with_reducible refine aB ?_ ?_ | (simp;done))))
theorem yH {l:List aF} (hl:l.length<4611686018427387904) (hs : ∀ t∈l,t.length<4611686018427387904) (s:St):aE Tryz.prog mS [.slice .shared 1 (l.map encStr)] s (.bool (dG l)) s:=by
 refine aE.pure ?_ (by simp [D.bR,D.ok,dJ,Tag.ok]) rfl s
 unfold S0
 generalize h:dG l=p
 refine aE.go EX rfl fun B Q hB hQ=> ?_
 have⟨hF,hP,hY,hZ⟩:=bq
 repeat' (first
 | simp only [go_sem,hF,hP,hY,hZ]
 | (with_reducible first | refine bK fun hc=> ?_ | refine bL fun hc=> ?_ | refine bM (fun hc=> ?_) fun hc=> ?_) <;> (try simp only [hc,bs, ↓reduceIte]at h) <;> try simp only [hc]
 | (with_reducible refine aC hQ ?_;(try cases h);simp only [au,aw,bu,bw,go_sem,hF,hP,hY,hZ];repeat' (first | exact Ok.out | with_reducible refine aB ?_ ?_ | (simp;done))))
 refine cd 0 0 (a8.ind (ι:=List aF×Nat) (fun i=>l.drop i.2=i.1∧dG i.1=p) (fun i=>i.1.length)
  (fun i=> [(5, .slice .shared 1 (l.map encStr)),(6, .int .i64 (l.length:Int)),(7, .int .i64 (i.2:Int))]) (fun i=>⟨[],[]⟩) ?_ (l,0) ⟨rfl,h⟩)
 rintro⟨rest,k⟩ ⟨h1,h⟩ IH
 dsimp only at h1 h
 cases rest with
 | nil=>
  have hF:=drop_nil h1
  simp only [dG]at h
  repeat' (first
 | simp only [go_sem,hF,hP,hY,hZ]
 | (with_reducible first | refine bK fun hc=> ?_ | refine bL fun hc=> ?_ | refine bM (fun hc=> ?_) fun hc=> ?_) <;> (try simp only [hc,bs, ↓reduceIte]at h) <;> try simp only [hc]
 | (with_reducible refine aC hQ ?_;(try cases h);simp only [au,aw,bu,bw,go_sem,hF,hP,hY,hZ];repeat' (first | exact Ok.out | with_reducible refine aB ?_ ?_ | (simp;done))))
 | cons t rest=>
  obtain⟨hP,g2,hF,g4⟩:=drop_cons h1
  have hY:k<4611686018427387904:=by omega
  have hn:=rU t (hs t (List.mem_of_getElem? hP))
  simp only [dG]at h
  repeat' (first
 | simp only [go_sem,hF,hP,hY,hZ]
 | (with_reducible refine CU (hn _) ?_)
 | (with_reducible first | refine bK fun hc=> ?_ | refine bL fun hc=> ?_ | refine bM (fun hc=> ?_) fun hc=> ?_) <;> (try simp only [hc,bs, ↓reduceIte]at h) <;> try simp only [hc]
 | (with_reducible refine aC hQ ?_;(try cases h);simp only [au,aw,bu,bw,go_sem,hF,hP,hY,hZ];repeat' (first | exact Ok.out | with_reducible refine aB ?_ ?_ | (simp;done))))
  refine cd 0 0 (IH (rest,k+1) ⟨g2,h⟩ (Nat.lt_succ_self _))
theorem aaj : ∀ (n:Nat) (x:Ex),x.size≤n→x.size<4611686018427387904→x.texts→∀ s:St,aE Tryz.prog pW [.agg (bE x)] s (.bool x.form) s:=by
 intro n
 induction n with
 | zero=>rintro⟨op,m,name,kids⟩ h;simp only [Ex.size]at h;omega
 | succ n ih=>
  rintro⟨op,m,name,kids⟩ h hx ht s
  refine aE.pure ?_ (by simp [D.bR,D.ok,gN]) rfl s
  have hlen:kids.length<4611686018427387904:=by simp only [Ex.size]at hx;have:=Ex.cZ kids;omega
  have hk : ∀ y∈kids,∀ s,aE Tryz.prog pW [.agg (bE y)] s (.bool y.form) s:=fun y hy s=>
   ih y (by simp only [Ex.size]at h;have:=Ex.bV hy;omega) (by simp only [Ex.size]at hx;have:=Ex.bV hy;omega) (Ex.FM ht hy) s
  have hn:=rU name ht.1
  unfold S0
  generalize h:Ex.form ⟨op,m,name,kids⟩=p
  simp only [Ex.form]at h
  refine aE.go GZ rfl fun B Q hB hQ=> ?_
  have⟨hF,hP,hY,hZ⟩:=bq
  repeat' (first
 | simp only [go_sem,hF,hP,hY,hZ]
 | (with_reducible refine CU (XE _ _) ?_)
 | (with_reducible refine CU (hn _) ?_)
 | (with_reducible first | refine bK fun hc=> ?_ | refine bL fun hc=> ?_ | refine bM (fun hc=> ?_) fun hc=> ?_) <;> (try simp only [hc,bs, ↓reduceIte]at h) <;> try simp only [hc]
 | (with_reducible refine aC hQ ?_;(try cases h);simp only [au,aw,bu,bw,go_sem,hF,hP,hY,hZ];repeat' (first | exact Ok.out | with_reducible refine aB ?_ ?_ | (simp;done))))
  all_goals
   refine cd 1 0 (a8.ind (ι:=List Ex×Nat) (fun i=>kids.drop i.2=i.1∧Ex.pz i.1=p) (fun i=>i.1.length)
    (fun i=> [(1, .ptr 0 0),(48, .int .i64 (kids.length:Int)),(49, .int .i64 (i.2:Int))]) (fun i=>⟨[bE ⟨op,m,name,kids⟩],[]⟩) ?_ (kids,0) ⟨rfl,h⟩)
   rintro⟨rest,k⟩ ⟨h1,h⟩ IH
   dsimp only at h1 h
   cases rest with
   | nil=>
    have hF:=drop_nil h1
    simp only [Ex.pz]at h
    repeat' (first
 | simp only [go_sem,hF,hP,hY,hZ]
 | (with_reducible first | refine bK fun hc=> ?_ | refine bL fun hc=> ?_ | refine bM (fun hc=> ?_) fun hc=> ?_) <;> (try simp only [hc,bs, ↓reduceIte]at h) <;> try simp only [hc]
 | (with_reducible refine aC hQ ?_;exact nX)
 | (cases h;done))
   | cons y rest=>
    obtain⟨hP,g2,hF,g4⟩:=drop_cons h1
    have hy:=hk y (List.mem_of_getElem? hP)
    have hY:k<4611686018427387904:=by omega
    simp only [Ex.pz]at h
    repeat' (first
 | simp only [go_sem,hF,hP,hY,hZ]
 | (with_reducible refine CU (hy _) ?_)
 | (with_reducible first | refine bK fun hc=> ?_ | refine bL fun hc=> ?_ | refine bM (fun hc=> ?_) fun hc=> ?_) <;> (try simp only [hc,bs, ↓reduceIte]at h) <;> try simp only [hc]
 | (with_reducible refine aC hQ ?_;(try cases h);simp only [au,aw,bu,bw,go_sem,hF,hP,hY,hZ];repeat' (first | exact Ok.out | with_reducible refine aB ?_ ?_ | (simp;done))))
    refine cd 1 0 (IH (rest,k+1) ⟨g2,h⟩ (Nat.lt_succ_self _))
theorem Ax {x:Ex} (hx:x.size<4611686018427387904) (ht:x.texts) (s:St):aE Tryz.prog mT [.agg (bE x)] s (.bool x.may) s:=by
 refine aE.pure ?_ (by simp [D.bR,D.ok,gN]) rfl s
 have hd:=fun s=>aai 20 (by decide) x hx s
 have c20:((20:Nat):Int)=20:=rfl
 rw [c20]at hd
 have hf:=aaj _ x (Nat.le_refl _) hx ht
 unfold S0
 generalize h:Ex.may x=p
 unfold Ex.may at h
 refine aE.go Cr rfl fun B Q hB hQ=> ?_
 have⟨hF,hP,hY,hZ⟩:=bq
 repeat' (first
 | simp only [go_sem,hF,hP,hY,hZ]
 | (with_reducible refine CU (hd _) ?_)
 | (with_reducible refine CU (hf _) ?_)
 | (with_reducible first | refine bK fun hc=> ?_ | refine bL fun hc=> ?_ | refine bM (fun hc=> ?_) fun hc=> ?_) <;> (try simp only [hc,bs, ↓reduceIte]at h) <;> try simp only [hc]
 | (with_reducible refine aC hQ ?_;(try cases h);simp only [au,aw,bu,bw,go_sem,hF,hP,hY,hZ];repeat' (first | exact Ok.out | with_reducible refine aB ?_ ?_ | (simp;done))))
theorem Qi (x:Ex) (s:St):aE Tryz.prog sq [.agg (bE x)] s (.bool x.none) s:=by
 refine aE.pure ?_ (by simp [D.bR,D.ok,gN]) rfl s
 unfold S0
 generalize h:Ex.none x=p
 unfold Ex.none at h
 refine aE.go GX rfl fun B Q hB hQ=> ?_
 have⟨hF,hP,hY,hZ⟩:=bq
 repeat' (first
 | simp only [go_sem,hF,hP,hY,hZ]
 | (with_reducible first | refine bK fun hc=> ?_ | refine bL fun hc=> ?_ | refine bM (fun hc=> ?_) fun hc=> ?_) <;> (try simp only [hc,bs, ↓reduceIte]at h) <;> try simp only [hc]
 | (with_reducible refine aC hQ ?_;(try cases h);simp only [au,aw,bu,bw,go_sem,hF,hP,hY,hZ];repeat' (first | exact Ok.out | with_reducible refine aB ?_ ?_ | (simp;done))))
theorem adR {a:Ar} (hx:a.x.size<4611686018427387904) (ht:a.x.texts) (hn:a.name.length<4611686018427387904) (s:St):aE Tryz.prog yx [.agg (dT a)] s (.bool a.may) s:=by
 refine aE.pure ?_ (by simp [D.bR,D.ok,Ix]) rfl s
 have hm:=Ax hx ht
 have h1:=rU a.name hn
 unfold S0
 generalize h:Ar.may a=p
 simp only [Ar.may]at h
 refine aE.go IQ rfl fun B Q hB hQ=> ?_
 have⟨hF,hP,hY,hZ⟩:=bq
 repeat' (first
 | simp only [go_sem,hF,hP,hY,hZ]
 | (with_reducible refine CU (hm _) ?_)
 | (with_reducible refine CU (h1 _) ?_)
 | (with_reducible refine CU (Qi _ _) ?_)
 | (with_reducible first | refine bK fun hc=> ?_ | refine bL fun hc=> ?_ | refine bM (fun hc=> ?_) fun hc=> ?_) <;> (try simp only [hc,bs, ↓reduceIte]at h) <;> try simp only [hc]
 | (with_reducible refine aC hQ ?_;(try cases h);simp only [au,aw,bu,bw,go_sem,hF,hP,hY,hZ];repeat' (first | exact Ok.out | with_reducible refine aB ?_ ?_ | (simp;done))))
end Go.Abs

/-! RefMay2 -/

namespace Go.Abs
set_option maxRecDepth 8000
open Go.Proofs
structure Sm.jE (s:Sm):Prop where
 Wf : ∀ t∈s.labels,t.length<4611686018427387904
 aak:s.labels.length<4611686018427387904
 name:s.name.length<4611686018427387904
 proc:s.proc.length<4611686018427387904
 x:s.x.size<4611686018427387904
 xt:s.x.texts
 aal:s.args.length<4611686018427387904
 arg : ∀ a∈s.args,a.x.size<4611686018427387904∧a.x.texts∧a.name.length<4611686018427387904
section
variable {v:Sm} {B:fI} {Q:Exit→Tm→St→Prop} {p:Bool}
theorem adS (hf:v.jE) (hB:B.s = ⟨[],[]⟩) (hQ:iS 0 0 [(2,none)] (.bool p) ⟨[],[]⟩=Q)
 (h:(if !(Ar.dZ v.args)then false else((v.aZ.length:Int)==0 || v.kind==5 || v.kind==6) && ((v.aP.length:Int)==0 || v.kind==5))=p) :
 Sem Tryz.prog B 178 ZZ Q [(1, .ptr 0 0)] ⟨[bd v],[]⟩:=by
 have awN:=hf.aal
 have TA:=fun a ha s=>adR (hf.arg a ha).1 (hf.arg a ha).2.1 (hf.arg a ha).2.2 s
 have⟨hF,hP,hY,hZ⟩:=bq
 refine iA ?_
 repeat' (first
 | simp only [go_sem,hF,hP,hY,hZ]
 | (with_reducible refine aC hQ ?_;simp only [au,aw,bu,bw,go_sem,hF,hP,hY,hZ];repeat' (first | exact Ok.out | with_reducible refine aB ?_ ?_ | (simp;done))))
 refine cd 1 0 (a8.ind (ι:=List Ar×Nat) (fun i=>v.args.drop i.2=i.1∧(if !(Ar.dZ i.1)then false else((v.aZ.length:Int)==0 || v.kind==5 || v.kind==6) && ((v.aP.length:Int)==0 || v.kind==5))=p) (fun i=>i.1.length)
  (fun i=> [(1, .ptr 0 0),(143, .slice .shared 6 (v.args.map dT)),(144, .int .i64 (v.args.length:Int)),(145, .int .i64 (i.2:Int))]) (fun i=>⟨[bd v],[]⟩) ?_ (v.args,0) ⟨rfl,h⟩)
 rintro⟨rest,k⟩ ⟨h1,h⟩ IH
 dsimp only at h1 h
 cases rest with
 | nil=>
  have hF:=drop_nil h1
  simp only [Ar.dZ,Bool.not_true,Bool.false_eq_true, ↓reduceIte]at h
  repeat' (first
 | simp only [go_sem,hF,hP,hY,hZ]
 | (with_reducible first | refine bK fun hc=> ?_ | refine bL fun hc=> ?_ | refine bM (fun hc=> ?_) fun hc=> ?_) <;> (try simp only [hc,bs, ↓reduceIte]at h) <;> try simp only [hc]
 | (with_reducible refine aC hQ ?_;(try cases h);simp only [au,aw,bu,bw,go_sem,hF,hP,hY,hZ];repeat' (first | exact Ok.out | with_reducible refine aB ?_ ?_ | (simp;done))))
  all_goals
   simp only [*]
   exact Ok.out
 | cons a rest=>
  obtain⟨hP,g2,hF,g4⟩:=drop_cons h1
  have ha:=TA a (List.mem_of_getElem? hP)
  have hY:k<4611686018427387904:=by omega
  simp only [Ar.dZ]at h
  repeat' (first
 | simp only [go_sem,hF,hP,hY,hZ]
 | (with_reducible refine CU (ha _) ?_)
 | (with_reducible first | refine bK fun hc=> ?_ | refine bL fun hc=> ?_ | refine bM (fun hc=> ?_) fun hc=> ?_) <;> (try simp only [hc,bs, ↓reduceIte]at h) <;> try simp only [hc]
 | (with_reducible refine aC hQ ?_;(try cases h);simp only [au,aw,bu,bw,go_sem,hF,hP,hY,hZ];repeat' (first | exact Ok.out | with_reducible refine aB ?_ ?_ | (simp;done))))
  refine cd 1 0 (IH (rest,k+1) ⟨g2,h⟩ (Nat.lt_succ_self _))
theorem adT {cl:Bool} (hf:v.jE) (hB:B.s = ⟨[],[]⟩) (hQ:iS 0 0 [(2,none)] (.bool p) ⟨[],[]⟩=Q)
 (h:(if !(cl == !(v.proc == [])) || (cl && !(isName v.proc)) || (!cl && decide ((v.args.length:Int) > 0))then false
  else if !(Ar.dZ v.args)then false else((v.aZ.length:Int)==0 || v.kind==5 || v.kind==6) && ((v.aP.length:Int)==0 || v.kind==5))=p) :
 Sem Tryz.prog B 178 Z0 Q [(1, .ptr 0 0),(5, .bool cl)] ⟨[bd v],[]⟩:=by
 have NM:=rU v.proc hf.proc
 have⟨hF,hP,hY,hZ⟩:=bq
 refine Sem.kJ ?_
 repeat' (first
 | simp only [go_sem,hF,hP,hY,hZ]
 | (with_reducible refine CU (NM _) ?_)
 | (with_reducible first | refine bK fun hc=> ?_ | refine bL fun hc=> ?_ | refine bM (fun hc=> ?_) fun hc=> ?_) <;> (try simp only [hc,bs, ↓reduceIte]at h) <;> try simp only [hc]
 | (with_reducible refine aC hQ ?_;(try cases h);simp only [au,aw,bu,bw,go_sem,hF,hP,hY,hZ];repeat' (first | exact Ok.out | with_reducible refine aB ?_ ?_ | (simp;done))))
 all_goals
  refine Sem.re _ _ 1 0 (by rw [hB];exact mr rfl) (by rw [hB];exact mr rfl) ?_ ?_ (adS hf hB hQ h)
  ·(simp only [go_sem,hF,hP,hY,hZ];repeat' (first | exact Ok.out | with_reducible refine aB ?_ ?_))
  ·(simp only [go_sem,hF,hP,hY,hZ];repeat' (first | exact Ok.out | with_reducible refine aB ?_ ?_))
theorem adU {hn cl:Bool} (hf:v.jE) (hB:B.s = ⟨[],[]⟩) (hQ:iS 0 0 [(2,none)] (.bool p) ⟨[],[]⟩=Q)
 (h:(if(hn && !(isName v.name)) || (!hn && !(v.name == []) && !(cl && isName v.name))then false
  else if !(cl == !(v.proc == [])) || (cl && !(isName v.proc)) || (!cl && decide ((v.args.length:Int) > 0))then false
  else if !(Ar.dZ v.args)then false else((v.aZ.length:Int)==0 || v.kind==5 || v.kind==6) && ((v.aP.length:Int)==0 || v.kind==5))=p) :
 Sem Tryz.prog B 178 Z1 Q [(1, .ptr 0 0),(4, .bool hn),(5, .bool cl)] ⟨[bd v],[]⟩:=by
 have LA:=rU v.name hf.name
 have⟨hF,hP,hY,hZ⟩:=bq
 have k:=@adT v B Q p cl hf hB hQ
 cases cl
 all_goals
  refine Sem.kJ ?_
  repeat' (first
 | simp only [go_sem,hF,hP,hY,hZ]
 | (with_reducible refine CU (LA _) ?_)
 | (with_reducible first | refine bK fun hc=> ?_ | refine bL fun hc=> ?_ | refine bM (fun hc=> ?_) fun hc=> ?_) <;> (try simp only [hc,bs, ↓reduceIte]at h) <;> try simp only [hc]
 | (with_reducible refine aC hQ ?_;(try cases h);simp only [au,aw,bu,bw,go_sem,hF,hP,hY,hZ];repeat' (first | exact Ok.out | with_reducible refine aB ?_ ?_ | (simp;done))))
 all_goals
  refine Sem.re _ _ 1 0 (by rw [hB];exact mr rfl) (by rw [hB];exact mr rfl) ?_ ?_ (k (by simpa only [bs, ↓reduceIte]using h))
  ·(simp only [go_sem,hF,hP,hY,hZ];repeat' (first | exact Ok.out | with_reducible refine aB ?_ ?_))
  ·(simp only [go_sem,hF,hP,hY,hZ];repeat' (first | exact Ok.out | with_reducible refine aB ?_ ?_))
theorem adV {hx hn cl:Bool} (hf:v.jE) (hB:B.s = ⟨[],[]⟩) (hQ:iS 0 0 [(2,none)] (.bool p) ⟨[],[]⟩=Q)
 (h:(if decide (v.kind<1) || decide (v.kind > 10) || !(dG v.labels) || (hx && !(v.x.may)) || (!hx && !(v.x.none)) || (v.has && v.kind != 9)then false
  else if(hn && !(isName v.name)) || (!hn && !(v.name == []) && !(cl && isName v.name))then false
  else if !(cl == !(v.proc == [])) || (cl && !(isName v.proc)) || (!cl && decide ((v.args.length:Int) > 0))then false
  else if !(Ar.dZ v.args)then false else((v.aZ.length:Int)==0 || v.kind==5 || v.kind==6) && ((v.aP.length:Int)==0 || v.kind==5))=p) :
 Sem Tryz.prog B 178 Z2 Q [(1, .ptr 0 0),(3, .bool hx),(4, .bool hn),(5, .bool cl)] ⟨[bd v],[]⟩:=by
 have hns:=fun s=>yH hf.aak hf.Wf s
 have hm:=Ax hf.x hf.xt
 have⟨hF,hP,hY,hZ⟩:=bq
 refine Sem.kJ ?_
 repeat' (first
 | simp only [go_sem,hF,hP,hY,hZ]
 | (with_reducible refine CU (hns _) ?_)
 | (with_reducible refine CU (hm _) ?_)
 | (with_reducible refine CU (Qi _ _) ?_)
 | (with_reducible first | refine bK fun hc=> ?_ | refine bL fun hc=> ?_ | refine bM (fun hc=> ?_) fun hc=> ?_) <;> (try simp only [hc,bs, ↓reduceIte]at h) <;> try simp only [hc]
 | (with_reducible refine aC hQ ?_;(try cases h);simp only [au,aw,bu,bw,go_sem,hF,hP,hY,hZ];repeat' (first | exact Ok.out | with_reducible refine aB ?_ ?_ | (simp;done))))
 all_goals
  refine Sem.re _ _ 1 0 (by rw [hB];exact mr rfl) (by rw [hB];exact mr rfl) ?_ ?_ (adU hf hB hQ h)
  ·(simp only [go_sem,hF,hP,hY,hZ];repeat' (first | exact Ok.out | with_reducible refine aB ?_ ?_))
  ·(simp only [go_sem,hF,hP,hY,hZ];repeat' (first | exact Ok.out | with_reducible refine aB ?_ ?_))
theorem adW {hx hn:Bool} (hf:v.jE) (hB:B.s = ⟨[],[]⟩) (hQ:iS 0 0 [(2,none)] (.bool p) ⟨[],[]⟩=Q) (ex:v.vl=hx) (en:v.hasName=hn) (h:v.one=p) :
 Sem Tryz.prog B 178 Z3 Q [(1, .ptr 0 0),(3, .bool hx),(4, .bool hn)] ⟨[bd v],[]⟩:=by
 unfold Sm.one at h
 rw [ex,en]at h
 have⟨hF,hP,hY,hZ⟩:=bq
 refine Sem.kJ ?_
 repeat' (first
 | simp only [go_sem,hF,hP,hY,hZ]
 | (with_reducible refine aC hQ ?_;simp only [au,aw,Option.some.injEq,exists_eq_left',go_sem,hF,hP,hY,hZ];repeat' (first | exact Ok.out | with_reducible refine aB ?_ ?_ | (simp;done))))
 refine Sem.re _ _ 1 0 (by rw [hB];exact mr rfl) (by rw [hB];exact mr rfl) ?_ ?_ (adV hf hB hQ h)
 ·(simp only [go_sem,hF,hP,hY,hZ,Sm.o6];repeat' (first | exact Ok.out | with_reducible refine aB ?_ ?_))
 ·(simp only [go_sem,hF,hP,hY,hZ,Sm.o6];repeat' (first | exact Ok.out | with_reducible refine aB ?_ ?_))
theorem adX {hx:Bool} (hf:v.jE) (hB:B.s = ⟨[],[]⟩) (hQ:iS 0 0 [(2,none)] (.bool p) ⟨[],[]⟩=Q) (ex:v.vl=hx) (hp:v.one=p) :
 Sem Tryz.prog B 178 Z4 Q [(1, .ptr 0 0),(3, .bool hx)] ⟨[bd v],[]⟩:=by
 generalize h:v.hasName=hn
 have hn:=h
 unfold Sm.hasName at h
 have⟨hF,hP,hY,hZ⟩:=bq
 refine Sem.kJ ?_
 repeat' (first
 | simp only [go_sem,hF,hP,hY,hZ]
 | (with_reducible first | refine bK fun hc=> ?_ | refine bL fun hc=> ?_ | refine bM (fun hc=> ?_) fun hc=> ?_) <;> (try simp only [hc,bs, ↓reduceIte]at h) <;> try simp only [hc]
 | (with_reducible refine aC hQ ?_;simp only [au,aw,bu,bw,go_sem,hF,hP,hY,hZ];repeat' (first | exact Ok.out | with_reducible refine aB ?_ ?_ | (simp;done))))
 all_goals
  refine Sem.re _ _ 1 0 (by rw [hB];exact mr rfl) (by rw [hB];exact mr rfl) ?_ ?_ (adW hf hB hQ ex hn hp)
  ·(simp only [go_sem,hF,hP,hY,hZ,h];repeat' (first | exact Ok.out | with_reducible refine aB ?_ ?_))
  ·(simp only [go_sem,hF,hP,hY,hZ,h];repeat' (first | exact Ok.out | with_reducible refine aB ?_ ?_))
theorem adY (hf:v.jE) (hB:B.s = ⟨[],[]⟩) (hQ:iS 0 0 [(2,none)] (.bool p) ⟨[],[]⟩=Q) (hp:v.one=p) :
 Sem Tryz.prog B 178 Z5 Q [(1, .ptr 0 0)] ⟨[bd v],[]⟩:=by
 generalize h:v.vl=hx
 have ex:=h
 unfold Sm.vl at h
 have⟨hF,hP,hY,hZ⟩:=bq
 refine Sem.kJ ?_
 repeat' (first
 | simp only [go_sem,hF,hP,hY,hZ]
 | (with_reducible first | refine bK fun hc=> ?_ | refine bL fun hc=> ?_ | refine bM (fun hc=> ?_) fun hc=> ?_) <;> (try simp only [hc,bs, ↓reduceIte]at h) <;> try simp only [hc]
 | (with_reducible refine aC hQ ?_;simp only [au,aw,bu,bw,go_sem,hF,hP,hY,hZ];repeat' (first | exact Ok.out | with_reducible refine aB ?_ ?_ | (simp;done))))
 all_goals
  refine Sem.re _ _ 1 0 (by rw [hB];exact mr rfl) (by rw [hB];exact mr rfl) ?_ ?_ (adX hf hB hQ ex hp)
  ·(simp only [go_sem,hF,hP,hY,hZ,h];repeat' (first | exact Ok.out | with_reducible refine aB ?_ ?_))
  ·(simp only [go_sem,hF,hP,hY,hZ,h];repeat' (first | exact Ok.out | with_reducible refine aB ?_ ?_))
end
theorem aE.goS {P:Program} {f:FuncId} {nt:Nat} {res:List (Nat×Option (Bool×Nat))} {body:AC} {args:List D} {s:St} {d:D} {s':St} (h0:Has P f nt res body) (hl:Nat.ble args.length nt=true)
 (h : ∀ (B:fI) (Q:Exit→Tm→St→Prop),B.s=s→iS s.aG.length s.aH.length res d s'=Q→Sem P B nt body Q (ou 0 args) s):aE P f args s d s':=by
 obtain⟨fn,hf,hc⟩:=h0
 exact aE.intro ⟨fn,hf,hc⟩ (Nat.le_of_ble_eq_true hl) fun B hB=>h B _ hB rfl
theorem Dw {v:Sm} (hf:v.jE) (s:St):aE Tryz.prog yw [.agg (bd v)] s (.bool v.one) s:=by
 refine aE.pure ?_ (by simp [D.bR,D.ok,l9]) rfl s
 unfold S0
 refine aE.goS IT rfl fun B Q hB hQ=> ?_
 have⟨hF,hP,hY,hZ⟩:=bq
 refine Sem.kJ ?_
 repeat' (first
 | simp only [go_sem,hF,hP,hY,hZ]
 | (with_reducible refine aC hQ ?_;simp only [au,aw,Option.some.injEq,exists_eq_left',go_sem,hF,hP,hY,hZ];repeat' (first | exact Ok.out | with_reducible refine aB ?_ ?_ | (simp;done))))
 refine Sem.re _ _ 1 0 (by rw [hB];exact mr rfl) (by rw [hB];exact mr rfl) ?_ ?_ (adY hf hB hQ rfl)
 ·(simp only [go_sem,hF,hP,hY,hZ];repeat' (first | exact Ok.out | with_reducible refine aB ?_ ?_))
 ·(simp only [go_sem,hF,hP,hY,hZ];repeat' (first | exact Ok.out | with_reducible refine aB ?_ ?_))
end Go.Abs

/-! Flat1 -/

namespace Go.Abs
set_option maxRecDepth 8000
open Go.Proofs
def fu (i:Im):List D:= [.int .i64 i.s.id, .int .i64 i.s.kind, .slice .shared 1 (i.s.labels.map encStr), .str i.s.name, .str i.s.proc,
 .int .i64 i.s.x.op, .int .i64 i.s.x.n, .str i.s.x.name, .slice .shared 4 (i.s.x.kids.map bE), .bool i.s.has, .slice .shared 6 (i.s.args.map dT), .slice .shared 13 (i.s.aZ.map bd), .slice .shared 13 (i.s.aP.map bd), .int .i64 i.proc, .int .i64 i.up, .int .i64 i.next, .int .i64 i.loop]
def lV (n:Int):List D:= [.int .i64 n]
theorem NN (i:Im):D.bR 0 0 (fu i)=true:=by simp [fu,D.bR,D.ok,Tag.ok,dJ,VD,Hf,mF]
theorem Hw (l:List Im):D.ji 0 0 (l.map fu)=true:=gQ NN l
theorem Wg (n m:Nat) (l:List Im):D.kr n m (l.map fu)=l.map fu:=mP NN n m l
theorem adZ (n m:Nat) (i:Im):D.il n m (fu i)=fu i:=iG n m _ (NN i)
theorem ad0 (x:Im):(fu x).length=17:=nd rfl
theorem XF (x:Im):List.take 17 (fu x)=fu x:=nd rfl
theorem aam (x:Im):List.drop 17 (fu x) = []:=nd rfl
theorem aan (x:Im):List.take 13 (fu x)=bd x.s:=by simp only [fu,dm];rfl
theorem TB (x:Im):(fu x)[0]? = some (.int .i64 x.s.id):=nd rfl
theorem TC (x:Im):(fu x)[1]? = some (.int .i64 x.s.kind):=nd rfl
theorem TD (x:Im):(fu x)[4]? = some (.str x.s.proc):=nd rfl
theorem Qj (x:Im):(fu x)[13]? = some (.int .i64 x.proc):=nd rfl
theorem Qk (x:Im):(fu x)[14]? = some (.int .i64 x.up):=nd rfl
theorem Ql (x:Im):(fu x)[15]? = some (.int .i64 x.next):=nd rfl
theorem Qm (x:Im):(fu x)[16]? = some (.int .i64 x.loop):=nd rfl
theorem NO (s:Sm) (a b c d:Int):fu ⟨s,a,b,c,d⟩ = [.int .i64 s.id, .int .i64 s.kind, .slice .shared 1 (s.labels.map encStr), .str s.name, .str s.proc,
 .int .i64 s.x.op, .int .i64 s.x.n, .str s.x.name, .slice .shared 4 (s.x.kids.map bE), .bool s.has, .slice .shared 6 (s.args.map dT), .slice .shared 13 (s.aZ.map bd), .slice .shared 13 (s.aP.map bd), .int .i64 a, .int .i64 b, .int .i64 c, .int .i64 d]:=nd rfl
theorem Wh (n:Int):D.bR 0 0 (lV n)=true:=rfl
theorem Ay (l:List Int):D.ji 0 0 (l.map lV)=true:=gQ Wh l
theorem Qn (n m:Nat) (l:List Int):D.kr n m (l.map lV)=l.map lV:=mP Wh n m l
attribute [go_sem] Wg adZ ad0 XF aam aan TB TC TD Qj Qk Ql Qm Qn lV
theorem aao : ∀ n,n<1000000000→∀ v:Sm,v.size≤n→aE Tryz.prog mc [.agg (bd v)] S0 (.int .i64 (v.iI:Int)) S0:=by
 intro n
 induction n with
 | zero=>intro _ v h;obtain⟨_,_,_,_,_,_,_,_,_,_⟩:=v;simp only [Sm.size]at h;omega
 | succ n ih=>
 intro hn v hv
 have e9:Sm.aS v.aZ≤n∧Sm.aS v.aP≤n∧v.iI=1+Sm.eI v.aZ+Sm.eI v.aP:=by
  obtain⟨_,_,_,_,_,_,_,_,_,_⟩:=v
  simp only [Sm.size]at hv;exact⟨by dsimp only;omega,by dsimp only;omega,rfl⟩
 obtain⟨h1,h2,h3⟩:=e9
 have c1:=kQ v.aZ
 have c2:=kQ v.aP
 have l1:=Sm.cZ v.aZ
 have l2:=Sm.cZ v.aP
 have hk : ∀ y,y∈v.aZ∨y∈v.aP→∀ s,aE Tryz.prog mc [.agg (bd y)] s (.int .i64 (y.iI:Int)) s:=fun y hy s=>
  (ih (by omega) y (by rcases hy with hy | hy <;> (have:=Sm.bV hy;omega))).pure (by simp only [D.bR,D.ok,l9];rfl) rfl s
 rw [h3]
 unfold S0
 refine aE.go G3 rfl fun B Q hB hQ=> ?_
 have⟨hF,hP,hY,hZ⟩:=bq
 repeat' (first
 | simp only [go_sem,hF,hP,hY,hZ]
 | (with_reducible refine aC hQ ?_;simp only [au,aw,Option.some.injEq,exists_eq_left',go_sem,hF,hP,hY,hZ];repeat' (first | exact Ok.out | with_reducible refine aB ?_ ?_ | (simp;done))))
 refine cd 1 0 (a8.ind (ι:=List Sm×Nat×Nat) (fun i=>v.aZ.drop i.2.1=i.1∧i.2.2+Sm.eI i.1=1+Sm.eI v.aZ) (fun i=>i.1.length)
  (fun i=> [(1, .ptr 0 0),(3, .int .i64 (i.2.2:Int)),(9, .slice .shared 13 (v.aZ.map bd)),(10, .int .i64 (v.aZ.length:Int)),(11, .int .i64 (i.2.1:Int))]) (fun i=>⟨[bd v],[]⟩) ?_ (v.aZ,0,1) ⟨rfl,rfl⟩)
 rintro⟨rest,k,c⟩ ⟨g1,g2⟩ IH
 dsimp only at g1 g2
 cases rest with
 | cons y rest=>
  obtain⟨hP,g3,hF,g4⟩:=drop_cons g1
  have hy:=hk y (.inl (List.mem_of_getElem? hP))
  simp only [Sm.eI]at g2
  have hcy:=Ck y
  have OP:=Sm.bV (List.mem_of_getElem? hP)
  have w1:IntKind.wrap .i64 ((k:Int)+1)=((k+1:Nat):Int):=by rw [dc] <;> omega
  have w2:IntKind.wrap .i64 ((c:Int)+(y.iI:Int))=((c+y.iI:Nat):Int):=by rw [dc] <;> omega
  repeat' (first
 | simp only [go_sem,hF,hP,hY,hZ,w1,w2]
 | (with_reducible refine CU (hy _) ?_)
 | (with_reducible refine aC hQ ?_;simp only [au,aw,Option.some.injEq,exists_eq_left',go_sem,hF,hP,hY,hZ];repeat' (first | exact Ok.out | with_reducible refine aB ?_ ?_ | (simp;done))))
  refine cd 1 0 (IH (rest,k+1,c+y.iI) ⟨g3,by dsimp only;omega⟩ (Nat.lt_succ_self _))
 | nil=>
  have hF:=drop_nil g1
  simp only [Sm.eI,Nat.add_zero]at g2
  subst g2
  repeat' (first
 | simp only [go_sem,hF,hP,hY,hZ]
 | (with_reducible refine aC hQ ?_;simp only [au,aw,Option.some.injEq,exists_eq_left',go_sem,hF,hP,hY,hZ];repeat' (first | exact Ok.out | with_reducible refine aB ?_ ?_ | (simp;done))))
  refine cd 1 0 (a8.ind (ι:=List Sm×Nat×Nat) (fun i=>v.aP.drop i.2.1=i.1∧i.2.2+Sm.eI i.1=1+Sm.eI v.aZ+Sm.eI v.aP) (fun i=>i.1.length)
   (fun i=> [(1, .ptr 0 0),(3, .int .i64 (i.2.2:Int)),(21, .slice .shared 13 (v.aP.map bd)),(22, .int .i64 (v.aP.length:Int)),(23, .int .i64 (i.2.1:Int))]) (fun i=>⟨[bd v],[]⟩) ?_ (v.aP,0,1+Sm.eI v.aZ) ⟨rfl,rfl⟩)
  rintro⟨rest,k,c⟩ ⟨g1,g2⟩ IH
  dsimp only at g1 g2
  cases rest with
  | cons y rest=>
   obtain⟨hP,g3,hF,g4⟩:=drop_cons g1
   have hy:=hk y (.inr (List.mem_of_getElem? hP))
   simp only [Sm.eI]at g2
   have hcy:=Ck y
   have OP:=Sm.bV (List.mem_of_getElem? hP)
   have w1:IntKind.wrap .i64 ((k:Int)+1)=((k+1:Nat):Int):=by rw [dc] <;> omega
   have w2:IntKind.wrap .i64 ((c:Int)+(y.iI:Int))=((c+y.iI:Nat):Int):=by rw [dc] <;> omega
   repeat' (first
 | simp only [go_sem,hF,hP,hY,hZ,w1,w2]
 | (with_reducible refine CU (hy _) ?_)
 | (with_reducible refine aC hQ ?_;simp only [au,aw,Option.some.injEq,exists_eq_left',go_sem,hF,hP,hY,hZ];repeat' (first | exact Ok.out | with_reducible refine aB ?_ ?_ | (simp;done))))
   refine cd 1 0 (IH (rest,k+1,c+y.iI) ⟨g3,by dsimp only;omega⟩ (Nat.lt_succ_self _))
  | nil=>
   have hF:=drop_nil g1
   simp only [Sm.eI,Nat.add_zero]at g2
   subst g2
   repeat' (first
 | simp only [go_sem,hF,hP,hY,hZ]
 | (with_reducible refine aC hQ ?_;simp only [au,aw,Option.some.injEq,exists_eq_left',go_sem,hF,hP,hY,hZ];repeat' (first | exact Ok.out | with_reducible refine aB ?_ ?_ | (simp;done))))
theorem aap {v:Sm} (h:v.size<1000000000) (s:St):aE Tryz.prog mc [.agg (bd v)] s (.int .i64 (v.iI:Int)) s:=
 (aao v.size h v (Nat.le_refl _)).pure (by simp only [D.bR,D.ok,l9];rfl) rfl s
end Go.Abs

/-! Flat2 -/

namespace Go.Abs
set_option maxRecDepth 8000
open Go.Proofs
abbrev iP (g ps:D) (L:List Im) (lo hi:List Int):List D:= [g,ps, .slice (.tok 0) 17 (L.map fu), .slice (.tok 1) 1 (lo.map lV), .slice (.tok 2) 1 (hi.map lV)]
abbrev TE (proc up next loop:Int):List D:= [.int .i64 0, .int .i64 0, .slice .full 0 [], .str [], .str [], .int .i64 0, .int .i64 0, .str [], .slice .full 0 [], .bool false, .slice .full 0 [], .slice .full 0 [], .slice .full 0 [], .int .i64 proc, .int .i64 up, .int .i64 next, .int .i64 loop]
theorem aE.ad1 {P:Program} {f:Nat} {args:List D} {g ps:D} {L L':List Im} {lo hi Fy ik:List Int} {a b c a' b' c':Option Nat}
 (h:aE P f (.ptr 0 0::args) ⟨[iP g ps L lo hi],[a,b,c]⟩ (.tuple []) ⟨[iP g ps L' Fy ik],[a',b',c']⟩)
 (ha:D.bR 0 0 args=true) (hg:D.ok 0 0 g=true) (hp:D.ok 0 0 ps=true)
 {s:St} {o:Nat} (ho:s.aG[o]? = some (iP g ps L lo hi)) (ht:s.aH = [a,b,c]):aE P f (.ptr o 0::args) s (.tuple []) ⟨s.aG.set o (iP g ps L' Fy ik),[a',b',c']⟩:=by
 have hr : ∀ (L:List Im) (lo hi:List Int),D.gA [o] [0,1,2] (iP g ps L lo hi)=iP g ps L lo hi:=fun L lo hi=>by
  simp [D.gA,D.dW,Tag.dW,rL _ _ _ hg,rL _ _ _ hp,jz _ _ _ (Hw L),jz _ _ _ (Ay lo),jz _ _ _ (Ay hi)]
 have hk : ∀ (L:List Im) (lo hi:List Int),D.bR 1 3 (iP g ps L lo hi)=true:=fun L lo hi=>by
  simp [D.bR,D.ok,Tag.ok,Ek (Nat.zero_le 1) (Nat.zero_le 3) _ hg,Ek (Nat.zero_le 1) (Nat.zero_le 3) _ hp,nB (Nat.zero_le 1) (Nat.zero_le 3) _ (Hw L),nB (Nat.zero_le 1) (Nat.zero_le 3) _ (Ay lo),nB (Nat.zero_le 1) (Nat.zero_le 3) _ (Ay hi)]
 refine eU.frame [o] [0,1,2] h (by simp) (by decide) (by simpa using (List.getElem?_eq_some_iff.1 ho).1) (by rw [ht];simp) rfl (fun i o' ds e1 e2=> ?_) rfl (fun i t' e1=> ?_)
  (by simp [D.gA,D.dW,fF _ _ _ ha])
  (by simp [D.bR,D.ok,iu (Nat.zero_le 1) (Nat.zero_le 3) _ ha]) ?_
 ·cases i with
  | zero=>simp only [List.getElem?_cons_zero,Option.some.injEq]at e1 e2;subst e1;subst e2;exact⟨by rw [hr];exact ho,hk L lo hi⟩
  | succ i=>simp at e1
 ·rw [ht]
  match i,e1 with
  | 0,e1=>simp at e1;subst e1;rfl
  | 1,e1=>simp at e1;subst e1;rfl
  | 2,e1=>simp at e1;subst e1;rfl
  | i+3,e1=>simp at e1
 ·rintro _ _ ⟨rfl,rfl⟩
  refine⟨by simp [D.back,D.dW,D.gA], ?_⟩
  have:=hr L' Fy ik
  simp [St.back,ky,ku,this,ht]
abbrev Wi (N:Nat):Prop:=∀ (l:List Sm) (proc up next loop:Int) (out:List Im) (g ps:D) (lo hi:List Int) (b c:Option Nat),Sm.aS l<N→out.length+Sm.eI l<1000000000→D.ok 0 0 g=true→D.ok 0 0 ps=true→
 ∀ {s:St} {o:Nat},s.aG[o]? = some (iP g ps out lo hi)→s.aH = [some out.length,b,c]→
 aE Tryz.prog jR [.ptr o 0, .slice .shared 13 (l.map bd), .agg (TE proc up next loop)] s (.tuple []) ⟨s.aG.set o (iP g ps (Im.rows proc up next loop out l) lo hi),[some (Im.rows proc up next loop out l).length,b,c]⟩
theorem ad2 {N:Nat} (ih:Wi N) {l:List Sm} {proc up next loop:Int} {out:List Im} {g ps:D} {lo hi:List Int} {b c:Option Nat} (hs:Sm.aS l<N+1) (hc:out.length+Sm.eI l<1000000000) (hg:D.ok 0 0 g=true) (hp:D.ok 0 0 ps=true) (hN:N<1000000000) :
 aE Tryz.prog jR [.ptr 0 0, .slice .shared 13 (l.map bd), .agg (TE proc up next loop)] ⟨[iP g ps out lo hi],[some out.length,b,c]⟩ (.tuple []) ⟨[iP g ps (Im.rows proc up next loop out l) lo hi],[some (Im.rows proc up next loop out l).length,b,c]⟩:=by
 obtain⟨R,hR⟩ : ∃ R,R=Im.rows proc up next loop out l:=⟨_,rfl⟩
 have hlR:R.length=out.length+Sm.eI l:=by rw [hR,gC]
 rw [← hR]
 have k1 : ∀ n m,D.fg n m g=g:=fun n m=>Ng n m _ hg
 have k2 : ∀ n m,D.fg n m ps=ps:=fun n m=>Ng n m _ hp
 refine aE.go Au rfl fun B Q hB hQ=> ?_
 have⟨hF,hP,hY,hZ⟩:=bq
 repeat' (first
 | simp only [go_sem,hF,hP,hY,hZ,k1,k2]
 | (with_reducible first | refine bK fun hc=> ?_ | refine bL fun hc=> ?_ | refine bM (fun hc=> ?_) fun hc=> ?_) <;> (try simp only [hc,bs, ↓reduceIte]at h) <;> try simp only [hc]
 | (with_reducible refine aC hQ ?_;simp only [au,aw,bu,bw,go_sem,hF,hP,hY,hZ,k1,k2];repeat' (first | exact Ok.out | with_reducible refine aB ?_ ?_ | (simp;done))))
 refine ct 2 3 ?_ ?_ (a8.ind (ι:=List Sm×Nat×List Im) (fun i=>l.drop i.2.1=i.1∧Im.rows proc up next loop i.2.2 i.1=R∧i.2.2.length+Sm.eI i.1=out.length+Sm.eI l) (fun i=>i.1.length)
  (fun i=> [(0, .ptr 0 0),(1, .slice .shared 13 (l.map bd)),(5, .ptr 1 0),(11, .slice .shared 13 (l.map bd)),(12, .int .i64 (l.length:Int)),(13, .int .i64 (i.2.1:Int))]) (fun i=>⟨[iP g ps i.2.2 lo hi,TE proc up next loop],[some i.2.2.length,b,c]⟩) ?_ (l,0,out) ⟨rfl,hR.symm,rfl⟩)
 ·(simp only [go_sem,hF,hP,hY,hZ,k1,k2];try exact aU)
 ·(simp only [go_sem,hF,hP,hY,hZ,k1,k2];try exact aU)
 rintro⟨rest,k,bC⟩ ⟨h1,h2,h3⟩ IH
 dsimp only at h1 h2 h3
 have hlen:l.length<1000000000:=by have:=Sm.cZ l;omega
 cases rest with
 | nil=>
  have hF:=drop_nil h1
  simp only [Im.rows]at h2
  subst h2
  repeat' (first
 | simp only [go_sem,hF,hP,hY,hZ,k1,k2]
 | (with_reducible first | refine bK fun hc=> ?_ | refine bL fun hc=> ?_ | refine bM (fun hc=> ?_) fun hc=> ?_) <;> (try simp only [hc,bs, ↓reduceIte]at h) <;> try simp only [hc]
 | (with_reducible refine aC hQ ?_;simp only [au,aw,bu,bw,go_sem,hF,hP,hY,hZ,k1,k2];repeat' (first | exact Ok.out | with_reducible refine aB ?_ ?_ | (simp;done))))
 | cons v rest=>
  obtain⟨hP,g2,hF,g4⟩:=drop_cons h1
  have bl:k<4611686018427387904:=by omega
  have hv:=Sm.bV (List.mem_of_getElem? hP)
  have oQ:Sm.aS v.aZ<N∧Sm.aS v.aP<N∧v.iI=1+Sm.eI v.aZ+Sm.eI v.aP:=by
   obtain⟨_,_,_,_,_,_,_,_,_,_⟩:=v
   simp only [Sm.size]at hv
   exact⟨by dsimp only;omega,by dsimp only;omega,rfl⟩
  obtain⟨C1,HT,hv3⟩:=oQ
  simp only [Sm.eI]at h3
  simp only [Im.rows,Im.ZD]at h2
  have hY:(bC.length+1)*241≤bc:=by unfold bc;omega
  have K0:IntKind.wrap .i64 ((bC.length:Int)+1)=(bC.length:Int)+1:=dc (by omega) (by omega)
  have wc:IntKind.wrap .i64 ((k:Int)+1)=((k+1:Nat):Int):=by rw [dc] <;> omega
  have Wj:IntKind.wrap .i64 ((bC.length:Int)+1+(v.iI:Int))=(bC.length:Int)+1+(v.iI:Int):=dc (by omega) (by omega)
  have e9:=fun s=>aap (v:=v) (by omega) s
  simp only [dm]at e9
  have KK:rest.length=l.length - (k+1):=by rw [← g2,List.length_drop]
  by_cases awO:k+1<l.length
  ·have d1:decide (((k+1:Nat):Int)<(l.length:Int))=true:=by simp;omega
   have e1:(rest.length=0)=False:=by simp;intro h;rw [h]at KK;simp at KK;omega
   by_cases Qo:v.kind=6
   ·have d2:(v.kind==6)=true:=by simp [Qo]
    simp only [e1,d2, ↓reduceIte,Bool.false_eq_true]at h2
    have f1:=fun {s:St} {o:Nat}=>@ih v.aZ proc ((bC.length:Int)+1) ((bC.length:Int)+1) ((bC.length:Int)+1) (bC++ [⟨v,proc,up,((bC.length:Int)+1+(v.iI:Int)),loop⟩]) g ps lo hi b c C1 (by simp;omega) hg hp s o
    have f2:=fun {s:St} {o:Nat}=>@ih v.aP proc ((bC.length:Int)+1) ((bC.length:Int)+1) ((bC.length:Int)+1) _ g ps lo hi b c HT (by rw [gC proc ((bC.length:Int)+1) ((bC.length:Int)+1) ((bC.length:Int)+1) (bC++ [⟨v,proc,up,((bC.length:Int)+1+(v.iI:Int)),loop⟩]) v.aZ];simp;omega) hg hp s o
    have hl:(Im.rows proc ((bC.length:Int)+1) ((bC.length:Int)+1) ((bC.length:Int)+1) (Im.rows proc ((bC.length:Int)+1) ((bC.length:Int)+1) ((bC.length:Int)+1) (bC++ [⟨v,proc,up,((bC.length:Int)+1+(v.iI:Int)),loop⟩]) v.aZ) v.aP).length=bC.length+v.iI:=by rw [gC,gC];simp;omega
    simp only [iP,List.map_append,List.map_cons,List.map_nil,NO,List.length_append,List.length_cons,List.length_nil]at f1
    repeat' (first
 | simp only [go_sem,hF,hP,hY,hZ,k1,k2,K0,wc,Wj,d1,d2,dm]
 | (with_reducible refine CU (e9 _) ?_)
 | (with_reducible refine CU (f1 (by with_unfolding_all rfl) (by with_unfolding_all rfl)) ?_)
 | (with_reducible refine CU (f2 (by with_unfolding_all rfl) (by with_unfolding_all rfl)) ?_)
 | (with_reducible refine aC hQ ?_;simp only [au,aw,bu,bw,go_sem,hF,hP,hY,hZ];repeat' (first | exact Ok.out | with_reducible refine aB ?_ ?_ | (simp;done))))
    refine ct 2 3 ?_ ?_ (IH (rest,k+1,_) ⟨g2,h2,by dsimp only;rw [hl];omega⟩ (Nat.lt_succ_self _))
    ·(simp only [go_sem,hF,hP,hY,hZ,wc,k1,k2];try exact aU)
    ·(simp only [go_sem,hF,hP,hY,hZ,wc,k1,k2];try exact aU)
   ·have d2:(v.kind==6)=false:=by simp [Qo]
    simp only [e1,d2, ↓reduceIte,Bool.false_eq_true]at h2
    have f1:=fun {s:St} {o:Nat}=>@ih v.aZ proc ((bC.length:Int)+1) ((bC.length:Int)+1+(v.iI:Int)) loop (bC++ [⟨v,proc,up,((bC.length:Int)+1+(v.iI:Int)),loop⟩]) g ps lo hi b c C1 (by simp;omega) hg hp s o
    have f2:=fun {s:St} {o:Nat}=>@ih v.aP proc ((bC.length:Int)+1) ((bC.length:Int)+1+(v.iI:Int)) loop _ g ps lo hi b c HT (by rw [gC proc ((bC.length:Int)+1) ((bC.length:Int)+1+(v.iI:Int)) loop (bC++ [⟨v,proc,up,((bC.length:Int)+1+(v.iI:Int)),loop⟩]) v.aZ];simp;omega) hg hp s o
    have hl:(Im.rows proc ((bC.length:Int)+1) ((bC.length:Int)+1+(v.iI:Int)) loop (Im.rows proc ((bC.length:Int)+1) ((bC.length:Int)+1+(v.iI:Int)) loop (bC++ [⟨v,proc,up,((bC.length:Int)+1+(v.iI:Int)),loop⟩]) v.aZ) v.aP).length=bC.length+v.iI:=by rw [gC,gC];simp;omega
    simp only [iP,List.map_append,List.map_cons,List.map_nil,NO,List.length_append,List.length_cons,List.length_nil]at f1
    repeat' (first
 | simp only [go_sem,hF,hP,hY,hZ,k1,k2,K0,wc,Wj,d1,d2,dm]
 | (with_reducible refine CU (e9 _) ?_)
 | (with_reducible refine CU (f1 (by with_unfolding_all rfl) (by with_unfolding_all rfl)) ?_)
 | (with_reducible refine CU (f2 (by with_unfolding_all rfl) (by with_unfolding_all rfl)) ?_)
 | (with_reducible refine aC hQ ?_;simp only [au,aw,bu,bw,go_sem,hF,hP,hY,hZ];repeat' (first | exact Ok.out | with_reducible refine aB ?_ ?_ | (simp;done))))
    refine ct 2 3 ?_ ?_ (IH (rest,k+1,_) ⟨g2,h2,by dsimp only;rw [hl];omega⟩ (Nat.lt_succ_self _))
    ·(simp only [go_sem,hF,hP,hY,hZ,wc,k1,k2];try exact aU)
    ·(simp only [go_sem,hF,hP,hY,hZ,wc,k1,k2];try exact aU)
  ·have d1:decide (((k+1:Nat):Int)<(l.length:Int))=false:=by simp;omega
   have e1:(rest.length=0)=True:=by simp only [eq_iff_iff,iff_true];omega
   by_cases Qo:v.kind=6
   ·have d2:(v.kind==6)=true:=by simp [Qo]
    simp only [e1,d2, ↓reduceIte,Bool.false_eq_true]at h2
    have f1:=fun {s:St} {o:Nat}=>@ih v.aZ proc ((bC.length:Int)+1) ((bC.length:Int)+1) ((bC.length:Int)+1) (bC++ [⟨v,proc,up,next,loop⟩]) g ps lo hi b c C1 (by simp;omega) hg hp s o
    have f2:=fun {s:St} {o:Nat}=>@ih v.aP proc ((bC.length:Int)+1) ((bC.length:Int)+1) ((bC.length:Int)+1) _ g ps lo hi b c HT (by rw [gC proc ((bC.length:Int)+1) ((bC.length:Int)+1) ((bC.length:Int)+1) (bC++ [⟨v,proc,up,next,loop⟩]) v.aZ];simp;omega) hg hp s o
    have hl:(Im.rows proc ((bC.length:Int)+1) ((bC.length:Int)+1) ((bC.length:Int)+1) (Im.rows proc ((bC.length:Int)+1) ((bC.length:Int)+1) ((bC.length:Int)+1) (bC++ [⟨v,proc,up,next,loop⟩]) v.aZ) v.aP).length=bC.length+v.iI:=by rw [gC,gC];simp;omega
    simp only [iP,List.map_append,List.map_cons,List.map_nil,NO,List.length_append,List.length_cons,List.length_nil]at f1
    repeat' (first
 | simp only [go_sem,hF,hP,hY,hZ,k1,k2,K0,wc,Wj,d1,d2,dm]
 | (with_reducible refine CU (e9 _) ?_)
 | (with_reducible refine CU (f1 (by with_unfolding_all rfl) (by with_unfolding_all rfl)) ?_)
 | (with_reducible refine CU (f2 (by with_unfolding_all rfl) (by with_unfolding_all rfl)) ?_)
 | (with_reducible refine aC hQ ?_;simp only [au,aw,bu,bw,go_sem,hF,hP,hY,hZ];repeat' (first | exact Ok.out | with_reducible refine aB ?_ ?_ | (simp;done))))
    refine ct 2 3 ?_ ?_ (IH (rest,k+1,_) ⟨g2,h2,by dsimp only;rw [hl];omega⟩ (Nat.lt_succ_self _))
    ·(simp only [go_sem,hF,hP,hY,hZ,wc,k1,k2];try exact aU)
    ·(simp only [go_sem,hF,hP,hY,hZ,wc,k1,k2];try exact aU)
   ·have d2:(v.kind==6)=false:=by simp [Qo]
    simp only [e1,d2, ↓reduceIte,Bool.false_eq_true]at h2
    have f1:=fun {s:St} {o:Nat}=>@ih v.aZ proc ((bC.length:Int)+1) next loop (bC++ [⟨v,proc,up,next,loop⟩]) g ps lo hi b c C1 (by simp;omega) hg hp s o
    have f2:=fun {s:St} {o:Nat}=>@ih v.aP proc ((bC.length:Int)+1) next loop _ g ps lo hi b c HT (by rw [gC proc ((bC.length:Int)+1) next loop (bC++ [⟨v,proc,up,next,loop⟩]) v.aZ];simp;omega) hg hp s o
    have hl:(Im.rows proc ((bC.length:Int)+1) next loop (Im.rows proc ((bC.length:Int)+1) next loop (bC++ [⟨v,proc,up,next,loop⟩]) v.aZ) v.aP).length=bC.length+v.iI:=by rw [gC,gC];simp;omega
    simp only [iP,List.map_append,List.map_cons,List.map_nil,NO,List.length_append,List.length_cons,List.length_nil]at f1
    repeat' (first
 | simp only [go_sem,hF,hP,hY,hZ,k1,k2,K0,wc,Wj,d1,d2,dm]
 | (with_reducible refine CU (e9 _) ?_)
 | (with_reducible refine CU (f1 (by with_unfolding_all rfl) (by with_unfolding_all rfl)) ?_)
 | (with_reducible refine CU (f2 (by with_unfolding_all rfl) (by with_unfolding_all rfl)) ?_)
 | (with_reducible refine aC hQ ?_;simp only [au,aw,bu,bw,go_sem,hF,hP,hY,hZ];repeat' (first | exact Ok.out | with_reducible refine aB ?_ ?_ | (simp;done))))
    refine ct 2 3 ?_ ?_ (IH (rest,k+1,_) ⟨g2,h2,by dsimp only;rw [hl];omega⟩ (Nat.lt_succ_self _))
    ·(simp only [go_sem,hF,hP,hY,hZ,wc,k1,k2];try exact aU)
    ·(simp only [go_sem,hF,hP,hY,hZ,wc,k1,k2];try exact aU)
theorem XG : ∀ N,N<1000000000→Wi N:=by
 intro N
 induction N with
 | zero=>exact fun _ l proc up next loop out g ps lo hi b c h=>absurd h (Nat.not_lt_zero _)
 | succ N ih=>
  intro h l proc up next loop out g ps lo hi b c hs hc hg hp s o ho ht
  exact(ad2 (ih (by omega)) hs hc hg hp (by omega)).ad1 (by simp [D.bR,D.ok,Tag.ok,mF,D.ji]) hg hp ho ht
end Go.Abs

/-! Flat3 -/

namespace Go.Abs
set_option maxRecDepth 8000
open Go.Proofs
def iB (p:Pg):List D:= [.slice .shared 1 (p.globals.map encStr), .slice .shared 5 (p.procs.map cb), .slice .shared 17 (p.fz.L.map fu), .slice .shared 1 (p.fz.lo.map lV), .slice .shared 1 (p.fz.hi.map lV)]
theorem rV (p:Pg):iB p = [.slice .shared 1 (p.globals.map encStr), .slice .shared 5 (p.procs.map cb), .slice .shared 17 (p.fz.L.map fu), .slice .shared 1 (p.fz.lo.map lV), .slice .shared 1 (p.fz.hi.map lV)]:=nd rfl
theorem yI (p:Pg):D.bR 0 0 (iB p)=true:=by simp [iB,D.bR,D.ok,Tag.ok,dJ,Hg,Hw,Ay]
theorem Qp (p:Pg):bH p = [.slice .shared 1 (p.globals.map encStr), .slice .shared 5 (p.procs.map cb)]:=nd rfl
theorem ad3 {p:Pg} (hs:Pc.aS p.procs<1000000000):aE Tryz.prog lS [.agg (bH p)] S0 (.ptr 1 0) ⟨[bH p,iP (.slice .shared 1 (p.globals.map encStr)) (.slice .shared 5 (p.procs.map cb)) p.fz.L p.fz.lo p.fz.hi],[some p.fz.L.length,some p.fz.lo.length,some p.fz.hi.length]⟩:=by
 have hlen:p.procs.length<1000000000:=by have:=Pc.cZ p.procs;omega
 obtain⟨R,hR⟩ : ∃ R,R=p.fz:=⟨_,rfl⟩
 have K1:=hR
 unfold Pg.fz at K1
 unfold S0
 rw [Qp, ← hR]
 refine aE.goK 2 3 (Nat.zero_le _) (Nat.zero_le _) IK rfl fun B Q hB hQ=> ?_
 have⟨hF,hP,hY,hZ⟩:=bq
 repeat' (first
 | simp only [go_sem,hF,hP,hY,hZ,Qp]
 | (with_reducible refine aC hQ ?_;simp only [au,aw,Option.some.injEq,exists_eq_left',go_sem,hF,hP,hY,hZ];repeat' (first | exact Ok.out | with_reducible refine aB ?_ ?_ | (simp;done))))
 refine a8.uP 1 2 17 rfl rfl ?_
 simp only [go_sem,hF,hP,hY,hZ]
 refine a8.uP 1 3 1 rfl rfl ?_
 simp only [go_sem,hF,hP,hY,hZ]
 refine a8.uP 1 4 1 rfl rfl ?_
 simp only [go_sem,hF,hP,hY,hZ]
 refine ct 2 3 ?_ ?_ (a8.ind (ι:=List Pc×Nat×Sh×Nat×Nat) (fun i=>p.procs.drop i.2.1=i.1∧Sh.go i.2.1 i.2.2.1 i.1=R∧i.2.2.1.L.length+Pc.aS i.1≤Pc.aS p.procs∧i.2.2.1.lo.length=i.2.1∧i.2.2.1.hi.length=i.2.1∧i.2.2.2.1=i.2.2.1.lo.length∧i.2.2.2.2=i.2.2.1.hi.length) (fun i=>i.1.length)
  (fun i=> [(1, .ptr 0 0),(3, .ptr 1 0),(10, .slice .shared 5 (p.procs.map cb)),(11, .int .i64 (p.procs.length:Int)),(12, .int .i64 (i.2.1:Int))]) (fun i=>⟨[[.slice .shared 1 (p.globals.map encStr), .slice .shared 5 (p.procs.map cb)],iP (.slice .shared 1 (p.globals.map encStr)) (.slice .shared 5 (p.procs.map cb)) i.2.2.1.L i.2.2.1.lo i.2.2.1.hi],[some i.2.2.1.L.length,some i.2.2.2.1,some i.2.2.2.2]⟩) ?_ (p.procs,0,⟨[],[],[]⟩,0,0) ⟨rfl,K1.symm,by simp,rfl,rfl,rfl,rfl⟩)
 ·(simp only [go_sem,hF,hP,hY,hZ,iP];try exact aU)
 ·(simp only [go_sem,hF,hP,hY,hZ,iP];try exact aU)
 rintro⟨rest,k,h,n1,n2⟩ ⟨h1,h2,h3,h4,h5,h6,h7⟩ IH
 dsimp only at h1 h2 h3 h4 h5 h6 h7
 subst h6 h7
 cases rest with
 | nil=>
  have hF:=drop_nil h1
  simp only [Sh.go]at h2
  rw [← h2]at hQ
  repeat' (first
 | simp only [go_sem,hF,hP,hY,hZ,iP]
 | (with_reducible refine aC hQ ?_;simp only [au,aw,Option.some.injEq,exists_eq_left',go_sem,hF,hP,hY,hZ];repeat' (first | exact Ok.out | with_reducible refine aB ?_ ?_ | (simp;done))))
 | cons f rest=>
  obtain⟨hP,g2,hF,g4⟩:=drop_cons h1
  have bl:k<4611686018427387904:=by omega
  simp only [Pc.aS,Pc.size]at h3
  simp only [Sh.go]at h2
  have c1:=kQ f.body
  have hY:(h.lo.length+1)*9≤bc:=by unfold bc;omega
  have ao1:(h.hi.length+1)*9≤bc:=by unfold bc;omega
  have K0:IntKind.wrap .i64 ((h.L.length:Int)+1)=(h.L.length:Int)+1:=dc (by omega) (by omega)
  have hl:(Im.rows (k:Int) 0 (-1) 0 h.L f.body).length=h.L.length+Sm.eI f.body:=gC ..
  have wc:IntKind.wrap .i64 (((Im.rows (k:Int) 0 (-1) 0 h.L f.body).length:Int)+1)=((Im.rows (k:Int) 0 (-1) 0 h.L f.body).length:Int)+1:=dc (by omega) (by omega)
  have hr:=fun {s:St} {o:Nat}=>@XG (Sm.aS f.body+1) (by omega) f.body (k:Int) 0 (-1) 0 h.L (.slice .shared 1 (p.globals.map encStr)) (.slice .shared 5 (p.procs.map cb)) (h.lo++ [(h.L.length:Int)+1]) h.hi (some (h.lo.length+1)) (some h.hi.length) (Nat.lt_succ_self _) (by omega) (by simp [D.ok,Tag.ok,dJ]) (by simp [D.ok,Tag.ok,Hg]) s o
  simp only [iP,List.map_append,List.map_cons,List.map_nil,lV]at hr
  repeat' (first
 | simp only [go_sem,hF,hP,hY,hZ,K0,wc,ao1,iP]
 | (with_reducible refine CU (hr (by with_unfolding_all rfl) (by with_unfolding_all rfl)) ?_)
 | (with_reducible refine aC hQ ?_;simp only [au,aw,Option.some.injEq,exists_eq_left',go_sem,hF,hP,hY,hZ];repeat' (first | exact Ok.out | with_reducible refine aB ?_ ?_ | (simp;done))))
  refine ct 2 3 ?_ ?_ (IH (rest,k+1,⟨Im.rows (k:Int) 0 (-1) 0 h.L f.body,h.lo++ [(h.L.length:Int)+1],h.hi++ [((Im.rows (k:Int) 0 (-1) 0 h.L f.body).length:Int)+1]⟩,_,_) ⟨g2,h2,by dsimp only;rw [hl];omega,by simp [h4],by simp [h5],by simp,by simp⟩ (Nat.lt_succ_self _))
  ·(simp only [go_sem,hF,hP,hY,hZ,iP,az bl,List.map_append,List.map_cons,List.map_nil,lV];try exact aU)
  ·(simp only [go_sem,hF,hP,hY,hZ,iP,az bl,List.map_append,List.map_cons,List.map_nil,lV];try exact aU)
theorem Dy {p:Pg} (hs:Pc.aS p.procs<1000000000) (s:St):aE Tryz.prog lS [.agg (bH p)] s (.dU (iB p) 0) s:=by
 refine aE.pure ?_ (by simp only [D.bR,D.ok,fX];rfl) (by simp only [D.ok,yI]) s
 have h:=(ad3 hs).zI (n:=0) (m:=0) rfl (Nat.le_refl _) (Nat.zero_le _) (Nat.le_refl _)
 simpa [D.il,D.fg,Tag.fg,P7,VE,Wg,Qn,St.cut,iB,S0]using h
end Go.Abs

/-! Sl1 -/

namespace Go.Abs
set_option maxRecDepth 8000
open Go.Proofs
def oj (x:aF) (k:Int):List aF→Int
 | []=> -1
 | s::l=>if x==s then k else oj x (k+1) l
def dL (l:List aF) (x:aF):Bool:=decide (oj x 0 l≥0)
def mf {α:Type} (b:α→Bool) (k:Int):List α→Int
 | []=> -1
 | s::l=>if b s then k else mf b (k+1) l
theorem K3 (x:aF) : ∀ (l:List aF) (k:Int),0≤k→(oj x k l≥0↔x∈l)
 | [],k,h=>by simp [oj]
 | s::l,k,h=>by
  by_cases e:x=s
  ·simp [oj,e];omega
  ·have e':(x==s)=false:=by simp [e]
   simp only [oj,e',Bool.false_eq_true,if_false,List.mem_cons,e,false_or]
   exact K3 x l (k+1) (by omega)
theorem gl (l:List aF) (x:aF):dL l x=true↔x∈l:=by
 simp only [dL,decide_eq_true_eq];exact K3 x l 0 (Int.le_refl 0)
theorem E3 {α:Type} (b:α→Bool) : ∀ (l:List α) (k:Int),0≤k→(mf b k l≥0↔l.any b=true)
 | [],k,h=>by simp [mf]
 | s::l,k,h=>by
  by_cases e:b s=true
  ·simp [mf,e];omega
  ·have e':b s=false:=by simpa using e
   simp only [mf,e',Bool.false_eq_true,if_false,List.any_cons,Bool.or_eq_true,false_or]
   exact E3 b l (k+1) (by omega)
theorem K4 {l:List aF} (hl:l.length<4611686018427387904) (x:aF) (s:St):aE Tryz.prog iX [.slice .shared 1 (l.map encStr), .str x] s (.int .i64 (oj x 0 l)) s:=by
 refine aE.pure ?_ (by simp [D.bR,D.ok,Tag.ok,dJ]) rfl s
 generalize h:oj x 0 l=p
 unfold S0
 refine aE.go vC rfl fun B Q hB hQ=> ?_
 have⟨hF,hP,hY,hZ⟩:=bq
 repeat' (first
 | simp only [go_sem,hF,hP,hY,hZ]
 | (with_reducible first | refine bK fun hc=> ?_ | refine bL fun hc=> ?_ | refine bM (fun hc=> ?_) fun hc=> ?_) <;> (try simp only [hc,bs, ↓reduceIte]at h) <;> try simp only [hc]
 | (with_reducible refine aC hQ ?_;(try cases h);simp only [au,aw,bu,bw,go_sem,hF,hP,hY,hZ];repeat' (first | exact Ok.out | with_reducible refine aB ?_ ?_ | (simp;done))))
 refine cd 0 0 (a8.ind (ι:=List aF×Nat) (fun i=>l.drop i.2=i.1∧oj x (i.2:Int) i.1=p) (fun i=>i.1.length)
  (fun i=> [(0, .slice .shared 1 (l.map encStr)),(1, .str x),(7, .int .i64 (l.length:Int)),(8, .int .i64 (i.2:Int))]) (fun i=>⟨[],[]⟩) ?_ (l,0) ⟨rfl,h⟩)
 rintro⟨rest,k⟩ ⟨h1,h⟩ IH
 dsimp only at h1 h
 cases rest with
 | nil=>
  have hF:=drop_nil h1
  simp only [oj]at h
  repeat' (first
 | simp only [go_sem,hF,hP,hY,hZ]
 | (with_reducible first | refine bK fun hc=> ?_ | refine bL fun hc=> ?_ | refine bM (fun hc=> ?_) fun hc=> ?_) <;> (try simp only [hc,bs, ↓reduceIte]at h) <;> try simp only [hc]
 | (with_reducible refine aC hQ ?_;(try cases h);simp only [au,aw,bu,bw,go_sem,hF,hP,hY,hZ];repeat' (first | exact Ok.out | with_reducible refine aB ?_ ?_ | (simp;done))))
 | cons a rest=>
  obtain⟨hP,g2,hF,g4⟩:=drop_cons h1
  have bl:k<4611686018427387904:=by omega
  simp only [oj]at h
  repeat' (first
 | simp only [go_sem,hF,hP,hY,hZ]
 | (with_reducible first | refine bK fun hc=> ?_ | refine bL fun hc=> ?_ | refine bM (fun hc=> ?_) fun hc=> ?_) <;> (try simp only [hc,bs, ↓reduceIte]at h) <;> try simp only [hc]
 | (with_reducible refine aC hQ ?_;(try cases h);simp only [au,aw,bu,bw,go_sem,hF,hP,hY,hZ];repeat' (first | exact Ok.out | with_reducible refine aB ?_ ?_ | (simp;done))))
  refine ct 0 0 ?_ ?_ (IH (rest,k+1) ⟨g2,h⟩ (Nat.lt_succ_self _))
  ·(simp only [go_sem,hF,hP,hY,hZ,az bl];try exact aU)
  ·(simp only [go_sem,hF,hP,hY,hZ,az bl];try exact aU)
theorem q8 {l:List aF} (hl:l.length<4611686018427387904) (x:aF) (s:St):aE Tryz.prog cA [.slice .shared 1 (l.map encStr), .str x] s (.bool (dL l x)) s:=by
 refine aE.pure ?_ (by simp [D.bR,D.ok,Tag.ok,dJ]) rfl s
 have hi:=fun s=>K4 hl x s
 unfold S0
 refine aE.go tv rfl fun B Q hB hQ=> ?_
 have⟨hF,hP,hY,hZ⟩:=bq
 repeat' (first
 | simp only [go_sem,hF,hP,hY,hZ,dL]
 | (with_reducible refine CU (hi _) ?_)
 | (with_reducible first | refine bK fun hc=> ?_ | refine bL fun hc=> ?_ | refine bM (fun hc=> ?_) fun hc=> ?_) <;> (try simp only [hc,bs, ↓reduceIte]at h) <;> try simp only [hc]
 | (with_reducible refine aC hQ ?_;simp only [au,aw,bu,bw,go_sem,hF,hP,hY,hZ,dL];repeat' (first | exact Ok.out | with_reducible refine aB ?_ ?_ | (simp;done))))
theorem aE.FO {P:Program} {f:Nat} {d d':D} {r:List D} {s s':St} {x:D} (h:aE P f (d'::r) s x s') (hw:Wk d d'):aE P f (d::r) s x s':=eU.Cg (.cons hw (mM.refl r)) h
theorem jq {l:List aF} (hl:l.length<4611686018427387904) (x:aF) (g:Tag) (s:St):aE Tryz.prog cA [.slice g 1 (l.map encStr), .str x] s (.bool (dL l x)) s:=
 (q8 hl x s).FO (Wk.shared _ _ _)
theorem IY (x:aF) (z:Nat) (g:Tag) (s:St):aE Tryz.prog cA [.slice g z [], .str x] s (.bool false) s:=
 (q8 (l:= []) (by simp) x s).FO (Wk.nil _ _ _)
theorem Az {l:List aF} (hl:l.length<4611686018427387904) {f:Nat} {row:List D} {b:aF→Bool} (tM:D.bR 0 0 row=true) (he:enters Tryz.prog f=true)
 (hb : ∀ x∈l,aE Tryz.prog f ([.str x]++ [.ptr 0 0]) ⟨[row],[]⟩ (.bool (b x)) ⟨[row],[]⟩) :
 aE Tryz.prog kK [.slice .shared 1 (l.map encStr), .gP f [.ptr 0 0]] ⟨[row],[]⟩ (.int .i64 (mf b 0 l)) ⟨[row],[]⟩:=by
 generalize h:mf b 0 l=p
 have k1 : ∀ n m,D.il n m row=row:=fun n m=>iG n m _ tM
 refine aE.go sS rfl fun B Q hB hQ=> ?_
 have⟨hF,hP,hY,hZ⟩:=bq
 repeat' (first
 | simp only [go_sem,hF,hP,hY,hZ,k1]
 | (with_reducible first | refine bK fun hc=> ?_ | refine bL fun hc=> ?_ | refine bM (fun hc=> ?_) fun hc=> ?_) <;> (try simp only [hc,bs, ↓reduceIte]at h) <;> try simp only [hc]
 | (with_reducible refine aC hQ ?_;(try cases h);simp only [au,aw,bu,bw,go_sem,hF,hP,hY,hZ,k1];repeat' (first | exact Ok.out | with_reducible refine aB ?_ ?_ | (simp;done))))
 refine ct 1 0 ?_ ?_ (a8.ind (ι:=List aF×Nat) (fun i=>l.drop i.2=i.1∧mf b (i.2:Int) i.1=p) (fun i=>i.1.length)
  (fun i=> [(0, .slice .shared 1 (l.map encStr)),(1, .gP f [.ptr 0 0]),(7, .int .i64 (l.length:Int)),(8, .int .i64 (i.2:Int))]) (fun i=>⟨[row],[]⟩) ?_ (l,0) ⟨rfl,h⟩)
 ·(simp only [go_sem,hF,hP,hY,hZ,k1];try exact aU)
 ·(simp only [go_sem,hF,hP,hY,hZ,k1];try exact aU)
 rintro⟨rest,k⟩ ⟨h1,h⟩ IH
 dsimp only at h1 h
 cases rest with
 | nil=>
  have hF:=drop_nil h1
  simp only [mf]at h
  repeat' (first
 | simp only [go_sem,hF,hP,hY,hZ,k1]
 | (with_reducible first | refine bK fun hc=> ?_ | refine bL fun hc=> ?_ | refine bM (fun hc=> ?_) fun hc=> ?_) <;> (try simp only [hc,bs, ↓reduceIte]at h) <;> try simp only [hc]
 | (with_reducible refine aC hQ ?_;(try cases h);simp only [au,aw,bu,bw,go_sem,hF,hP,hY,hZ,k1];repeat' (first | exact Ok.out | with_reducible refine aB ?_ ?_ | (simp;done))))
 | cons a rest=>
  obtain⟨hP,g2,hF,g4⟩:=drop_cons h1
  have bl:k<4611686018427387904:=by omega
  have hba:=hb a (List.mem_of_getElem? hP)
  simp only [mf]at h
  repeat' (first
 | simp only [go_sem,hF,hP,hY,hZ,k1]
 | (with_reducible refine CV.use (he) (hba) ?_)
 | (with_reducible first | refine bK fun hc=> ?_ | refine bL fun hc=> ?_ | refine bM (fun hc=> ?_) fun hc=> ?_) <;> (try simp only [hc,bs, ↓reduceIte]at h) <;> try simp only [hc]
 | (with_reducible refine aC hQ ?_;(try cases h);simp only [au,aw,bu,bw,go_sem,hF,hP,hY,hZ,k1];repeat' (first | exact Ok.out | with_reducible refine aB ?_ ?_ | (simp;done))))
  refine ct 1 0 ?_ ?_ (IH (rest,k+1) ⟨g2,h⟩ (Nat.lt_succ_self _))
  ·(simp only [go_sem,hF,hP,hY,hZ,k1,az bl];try exact aU)
  ·(simp only [go_sem,hF,hP,hY,hZ,k1,az bl];try exact aU)
theorem AA {P:Program} {g f:Nat} {row:List D} {rows:List (List D)} {z:Nat} {d:D} (h:aE P g [.slice .shared z rows, .gP f [.ptr 0 0]] ⟨[row],[]⟩ d ⟨[row],[]⟩) (tM:D.bR 0 0 row=true) (hw:D.ji 0 0 rows=true) (hd:D.ok 0 0 d=true) {s:St} {o:Nat} (ho:s.aG[o]? = some row) :
 aE P g [.slice .shared z rows, .gP f [.ptr o 0]] s d s:=by
 refine eU.frame [o] [] h (by simp) List.nodup_nil (by simpa using (List.getElem?_eq_some_iff.1 ho).1) (by simp) rfl (fun i o' ds e1 e2=> ?_) rfl (by simp) (by simp [D.gA,D.dW,Tag.dW,jz _ _ _ hw])
  (by simp [D.bR,D.ok,Tag.ok,nB (Nat.zero_le 1) (Nat.le_refl 0) _ hw]) ?_
 ·cases i with
  | zero=>simp at e1 e2;subst e1;subst e2;exact⟨by rw [fF _ _ _ tM];exact ho,iu (Nat.zero_le 1) (Nat.le_refl 0) _ tM⟩
  | succ i=>simp at e1
 ·rintro _ _ ⟨rfl,rfl⟩
  refine⟨rL _ _ _ hd, ?_⟩
  have:s.aG.set o row=s.aG:=by
   apply List.ext_getElem?
   intro i
   rw [List.getElem?_set]
   split
   ·rename_i e;subst e;rw [ho];split
    ·rfl
    ·rename_i hh;exact absurd (List.getElem?_eq_some_iff.1 ho).1 hh
   ·rfl
  simp [St.back,ky,fF _ _ _ tM,this]
theorem xY {l:List aF} (hl:l.length<4611686018427387904) {f:Nat} {row:List D} {b:aF→Bool} (tM:D.bR 0 0 row=true) (he:enters Tryz.prog f=true)
 (hb : ∀ x∈l,aE Tryz.prog f ([.str x]++ [.ptr 0 0]) ⟨[row],[]⟩ (.bool (b x)) ⟨[row],[]⟩) :
 aE Tryz.prog fY [.slice .shared 1 (l.map encStr), .gP f [.ptr 0 0]] ⟨[row],[]⟩ (.bool (l.any b)) ⟨[row],[]⟩:=by
 have k1 : ∀ n m,D.il n m row=row:=fun n m=>iG n m _ tM
 have hi:=Az hl tM he hb
 have e:decide (mf b 0 l≥0)=l.any b:=by
  have:=E3 b l 0 (Int.le_refl 0)
  cases hh:l.any b <;> simp_all
 refine aE.go q5 rfl fun B Q hB hQ=> ?_
 have⟨hF,hP,hY,hZ⟩:=bq
 repeat' (first
 | simp only [go_sem,hF,hP,hY,hZ,k1,e]
 | (with_reducible refine CU (hi) ?_)
 | (with_reducible first | refine bK fun hc=> ?_ | refine bL fun hc=> ?_ | refine bM (fun hc=> ?_) fun hc=> ?_) <;> (try simp only [hc,bs, ↓reduceIte]at h) <;> try simp only [hc]
 | (with_reducible refine aC hQ ?_;simp only [au,aw,bu,bw,go_sem,hF,hP,hY,hZ,k1,e];repeat' (first | exact Ok.out | with_reducible refine aB ?_ ?_ | (simp;done))))
theorem xZ {l:List aF} (hl:l.length<4611686018427387904) {f:Nat} {row:List D} {b:aF→Bool} (tM:D.bR 0 0 row=true) (he:enters Tryz.prog f=true)
 (hb : ∀ x∈l,aE Tryz.prog f ([.str x]++ [.ptr 0 0]) ⟨[row],[]⟩ (.bool (b x)) ⟨[row],[]⟩) {s:St} {o:Nat} (ho:s.aG[o]? = some row) :
 aE Tryz.prog fY [.slice .shared 1 (l.map encStr), .gP f [.ptr o 0]] s (.bool (l.any b)) s:=
 AA (xY hl tM he hb) tM (dJ l) rfl ho
theorem vn {l:List Pc} (hl:l.length<4611686018427387904) {f:Nat} {row:List D} {b:Pc→Bool} (tM:D.bR 0 0 row=true) (he:enters Tryz.prog f=true)
 (hb : ∀ x∈l,aE Tryz.prog f ([.agg (cb x)]++ [.ptr 0 0]) ⟨[row],[]⟩ (.bool (b x)) ⟨[row],[]⟩) :
 aE Tryz.prog gd [.slice .shared 5 (l.map cb), .gP f [.ptr 0 0]] ⟨[row],[]⟩ (.int .i64 (mf b 0 l)) ⟨[row],[]⟩:=by
 generalize h:mf b 0 l=p
 have k1 : ∀ n m,D.il n m row=row:=fun n m=>iG n m _ tM
 refine aE.go ry rfl fun B Q hB hQ=> ?_
 have⟨hF,hP,hY,hZ⟩:=bq
 repeat' (first
 | simp only [go_sem,hF,hP,hY,hZ,k1]
 | (with_reducible first | refine bK fun hc=> ?_ | refine bL fun hc=> ?_ | refine bM (fun hc=> ?_) fun hc=> ?_) <;> (try simp only [hc,bs, ↓reduceIte]at h) <;> try simp only [hc]
 | (with_reducible refine aC hQ ?_;(try cases h);simp only [au,aw,bu,bw,go_sem,hF,hP,hY,hZ,k1];repeat' (first | exact Ok.out | with_reducible refine aB ?_ ?_ | (simp;done))))
 refine ct 1 0 ?_ ?_ (a8.ind (ι:=List Pc×Nat) (fun i=>l.drop i.2=i.1∧mf b (i.2:Int) i.1=p) (fun i=>i.1.length)
  (fun i=> [(0, .slice .shared 5 (l.map cb)),(1, .gP f [.ptr 0 0]),(7, .int .i64 (l.length:Int)),(8, .int .i64 (i.2:Int))]) (fun i=>⟨[row],[]⟩) ?_ (l,0) ⟨rfl,h⟩)
 ·(simp only [go_sem,hF,hP,hY,hZ,k1];try exact aU)
 ·(simp only [go_sem,hF,hP,hY,hZ,k1];try exact aU)
 rintro⟨rest,k⟩ ⟨h1,h⟩ IH
 dsimp only at h1 h
 cases rest with
 | nil=>
  have hF:=drop_nil h1
  simp only [mf]at h
  repeat' (first
 | simp only [go_sem,hF,hP,hY,hZ,k1]
 | (with_reducible first | refine bK fun hc=> ?_ | refine bL fun hc=> ?_ | refine bM (fun hc=> ?_) fun hc=> ?_) <;> (try simp only [hc,bs, ↓reduceIte]at h) <;> try simp only [hc]
 | (with_reducible refine aC hQ ?_;(try cases h);simp only [au,aw,bu,bw,go_sem,hF,hP,hY,hZ,k1];repeat' (first | exact Ok.out | with_reducible refine aB ?_ ?_ | (simp;done))))
 | cons a rest=>
  obtain⟨hP,g2,hF,g4⟩:=drop_cons h1
  have bl:k<4611686018427387904:=by omega
  have hba:=hb a (List.mem_of_getElem? hP)
  simp only [mf]at h
  repeat' (first
 | simp only [go_sem,hF,hP,hY,hZ,k1]
 | (with_reducible refine CV.use (he) (hba) ?_)
 | (with_reducible first | refine bK fun hc=> ?_ | refine bL fun hc=> ?_ | refine bM (fun hc=> ?_) fun hc=> ?_) <;> (try simp only [hc,bs, ↓reduceIte]at h) <;> try simp only [hc]
 | (with_reducible refine aC hQ ?_;(try cases h);simp only [au,aw,bu,bw,go_sem,hF,hP,hY,hZ,k1];repeat' (first | exact Ok.out | with_reducible refine aB ?_ ?_ | (simp;done))))
  refine ct 1 0 ?_ ?_ (IH (rest,k+1) ⟨g2,h⟩ (Nat.lt_succ_self _))
  ·(simp only [go_sem,hF,hP,hY,hZ,k1,az bl];try exact aU)
  ·(simp only [go_sem,hF,hP,hY,hZ,k1,az bl];try exact aU)
theorem zE {l:List Pc} (hl:l.length<4611686018427387904) {f:Nat} {row:List D} {b:Pc→Bool} (tM:D.bR 0 0 row=true) (he:enters Tryz.prog f=true)
 (hb : ∀ x∈l,aE Tryz.prog f ([.agg (cb x)]++ [.ptr 0 0]) ⟨[row],[]⟩ (.bool (b x)) ⟨[row],[]⟩) :
 aE Tryz.prog gK [.slice .shared 5 (l.map cb), .gP f [.ptr 0 0]] ⟨[row],[]⟩ (.bool (l.any b)) ⟨[row],[]⟩:=by
 have k1 : ∀ n m,D.il n m row=row:=fun n m=>iG n m _ tM
 have hi:=vn hl tM he hb
 have e:decide (mf b 0 l≥0)=l.any b:=by
  have:=E3 b l 0 (Int.le_refl 0)
  cases hh:l.any b <;> simp_all
 refine aE.go qm rfl fun B Q hB hQ=> ?_
 have⟨hF,hP,hY,hZ⟩:=bq
 repeat' (first
 | simp only [go_sem,hF,hP,hY,hZ,k1,e]
 | (with_reducible refine CU (hi) ?_)
 | (with_reducible first | refine bK fun hc=> ?_ | refine bL fun hc=> ?_ | refine bM (fun hc=> ?_) fun hc=> ?_) <;> (try simp only [hc,bs, ↓reduceIte]at h) <;> try simp only [hc]
 | (with_reducible refine aC hQ ?_;simp only [au,aw,bu,bw,go_sem,hF,hP,hY,hZ,k1,e];repeat' (first | exact Ok.out | with_reducible refine aB ?_ ?_ | (simp;done))))
end Go.Abs

/-! MirFlat2 -/

namespace Go.Abs
mutual
def Sm.pre:Sm→List Sm
 | ⟨id,kind,labels,name,pc,x,has,args,aZ,aP⟩=>⟨id,kind,labels,name,pc,x,has,args,aZ,aP⟩::(Sm.dN aZ++Sm.dN aP)
def Sm.dN:List Sm→List Sm
 | []=> []
 | s::l=>s.pre++Sm.dN l
end
def Pg.pre (p:Pg):List Sm:=(p.procs.map fun f=>Sm.dN f.body).flatten
theorem Sm.IZ (s:Sm):s.pre=s::(Sm.dN s.aZ++Sm.dN s.aP):=by cases s;simp only [Sm.pre]
mutual
theorem XH (proc up next loop:Int) (out:List Im) : ∀ s:Sm,∃ e:List Im,Im.one proc up next loop out s=out++e∧e.map Im.s=s.pre
 | ⟨id,kind,labels,name,pc,x,has,args,aZ,aP⟩=>by
  simp only [Im.one,Sm.pre]
  obtain⟨e1,h1,k1⟩:=yJ proc ((out.length:Int)+1) (if kind==6 then(out.length:Int)+1 else next) (if kind==6 then(out.length:Int)+1 else loop) (out++ [⟨⟨id,kind,labels,name,pc,x,has,args,aZ,aP⟩,proc,up,next,loop⟩]) aZ
  obtain⟨e2,h2,k2⟩:=yJ proc ((out.length:Int)+1) (if kind==6 then(out.length:Int)+1 else next) (if kind==6 then(out.length:Int)+1 else loop) (Im.rows proc ((out.length:Int)+1) (if kind==6 then(out.length:Int)+1 else next) (if kind==6 then(out.length:Int)+1 else loop) (out++ [⟨⟨id,kind,labels,name,pc,x,has,args,aZ,aP⟩,proc,up,next,loop⟩]) aZ) aP
  refine⟨⟨⟨id,kind,labels,name,pc,x,has,args,aZ,aP⟩,proc,up,next,loop⟩::(e1++e2), ?_, ?_⟩
  ·rw [h2,h1];simp
  ·simp [k1,k2]
theorem yJ (proc up next loop:Int) (out:List Im) : ∀ l:List Sm,∃ e:List Im,Im.rows proc up next loop out l=out++e∧e.map Im.s=Sm.dN l
 | []=>⟨[],by simp [Im.rows],rfl⟩
 | s::l=>by
  simp only [Im.rows,Sm.dN]
  obtain⟨e1,h1,k1⟩:=XH proc up (if l.length=0 then next else(out.length:Int)+1+(s.iI:Int)) loop out s
  obtain⟨e2,h2,k2⟩:=yJ proc up next loop (Im.one proc up (if l.length=0 then next else(out.length:Int)+1+(s.iI:Int)) loop out s) l
  refine⟨e1++e2, ?_,by simp [k1,k2]⟩
  rw [h2,h1];simp
end
theorem Qq : ∀ (l:List Pc) (n:Nat) (h:Sh),h.lo.length=n→h.hi.length=n→
 ∃ e lo hi,Sh.go n h l = ⟨h.L++e,h.lo++lo,h.hi++hi⟩∧e.map Im.s=(l.map fun f=>Sm.dN f.body).flatten∧lo.length=l.length∧hi.length=l.length∧
  ∀ (i:Nat) (f:Pc),l[i]? = some f→∃ a b e' Ox:List Im,lo[i]? = some (((h.L++a).length:Int)+1)∧hi[i]? = some (((h.L++a++b).length:Int)+1)∧b.map Im.s=Sm.dN f.body∧e=a++b++e'
 | [],n,h,hl,hh=>⟨[],[],[],by simp [Sh.go],rfl,rfl,rfl,fun i f h=>by simp at h⟩
 | f::l,n,h,hl,hh=>by
  simp only [Sh.go]
  obtain⟨e1,h1,k1⟩:=yJ (n:Int) 0 (-1) 0 h.L f.body
  obtain⟨e2,lo,hi,h2,k2,h3,h4,h5⟩:=Qq l (n+1) ⟨Im.rows (n:Int) 0 (-1) 0 h.L f.body,h.lo++ [(h.L.length:Int)+1],h.hi++ [((Im.rows (n:Int) 0 (-1) 0 h.L f.body).length:Int)+1]⟩ (by simp [hl]) (by simp [hh])
  refine⟨e1++e2,((h.L.length:Int)+1)::lo,(((Im.rows (n:Int) 0 (-1) 0 h.L f.body).length:Int)+1)::hi, ?_,by simp [k1,k2],by simp [h3],by simp [h4],fun i g ik=> ?_⟩
  ·rw [h2,h1];simp
  ·cases i with
   | zero=>
    simp only [List.getElem?_cons_zero,Option.some.injEq]at ik
    subst ik
    exact⟨[],e1,e2,[],by simp,by rw [h1];simp,k1,by simp⟩
   | succ i=>
    simp only [List.getElem?_cons_succ]at ik
    obtain⟨a,b,e',Ox,g1,g2,g3,g4⟩:=h5 i g ik
    refine⟨e1++a,b,e',Ox, ?_, ?_,g3,by rw [g4];simp⟩
    ·rw [List.getElem?_cons_succ,g1,h1];simp
    ·rw [List.getElem?_cons_succ,g2,h1];simp
theorem qx (p:Pg):p.fz.L.map Im.s=p.pre∧∀ (i:Nat) (f:Pc),p.procs[i]? = some f→∃ a b e:List Im,p.fz.lo[i]? = some ((a.length:Int)+1)∧p.fz.hi[i]? = some (((a++b).length:Int)+1)∧b.map Im.s=Sm.dN f.body∧p.fz.L=a++b++e:=by
 obtain⟨e,lo,hi,h1,h2,h3,h4,h5⟩:=Qq p.procs 0 ⟨[],[],[]⟩ rfl rfl
 unfold Pg.fz
 rw [h1]
 refine⟨by simpa [Pg.pre]using h2,fun i f hf=> ?_⟩
 obtain⟨a,b,e',_,g1,g2,g3,g4⟩:=h5 i f hf
 exact⟨a,b,e',by simpa using g1,by simpa using g2,g3,by simpa using g4⟩
end Go.Abs

/-! Sl2 -/

namespace Go.Abs
set_option maxRecDepth 8000
open Go.Proofs
def Pg.at (p:Pg) (name:aF):Int:=mf (fun f:Pc=>f.name==name) 0 p.procs
theorem XI (name:aF) (f:Pc):aE Tryz.prog ll ([.agg (cb f)]++ [.ptr 0 0]) ⟨[[.str name]],[]⟩ (.bool (f.name==name)) ⟨[[.str name]],[]⟩:=by
 show aE Tryz.prog ll [.agg (cb f), .ptr 0 0] _ _ _
 refine aE.go xK rfl fun B Q hB hQ=> ?_
 have⟨hF,hP,hY,hZ⟩:=bq
 repeat' (first
 | simp only [go_sem,hF,hP,hY,hZ]
 | (with_reducible refine aC hQ ?_;simp only [au,aw,Option.some.injEq,exists_eq_left',go_sem,hF,hP,hY,hZ];repeat' (first | exact Ok.out | with_reducible refine aB ?_ ?_ | (simp;done))))
theorem Qr {p:Pg} (hs:p.procs.length<4611686018427387904) (name:aF) (s:St):aE Tryz.prog mH [.dU (iB p) 0, .str name] s (.int .i64 (p.at name)) s:=by
 refine aE.pure ?_ (by simp [D.bR,D.ok,yI]) rfl s
 have hi:=fun {s:St} {o:Nat} (ho:s.aG[o]? = some [.str name])=>AA (vn (l:=p.procs) (f:=ll) (row:= [.str name]) (b:=fun f:Pc=>f.name==name) hs rfl (by with_unfolding_all rfl) (fun x _=>XI name x)) rfl (Hg _) rfl ho
 have ik:=fun {s:St} {o:Nat} (ho:s.aG[o]? = some [.str name])=>(show aE Tryz.prog gd [.slice .shared 5 (p.procs.map cb), .gP 167 [.ptr o 0]] s (.int .i64 (p.at name)) s from hi ho)
 unfold S0
 rw [rV]
 refine aE.go zB rfl fun B Q hB hQ=> ?_
 have⟨hF,hP,hY,hZ⟩:=bq
 repeat' (first
 | simp only [go_sem,hF,hP,hY,hZ]
 | (with_reducible refine CU (ik (by with_unfolding_all rfl)) ?_)
 | (with_reducible refine aC hQ ?_;simp only [au,aw,Option.some.injEq,exists_eq_left',go_sem,hF,hP,hY,hZ];repeat' (first | exact Ok.out | with_reducible refine aB ?_ ?_ | (simp;done))))
theorem Qs : ∀ (l:List Pc) (n:Nat) (h:Sh),(Sh.go n h l).L.length≤h.L.length+Pc.aS l
 | [],n,h=>by simp [Sh.go]
 | f::l,n,h=>by
  simp only [Sh.go]
  refine Nat.le_trans (Qs l _ _) ?_
  have:=gC (n:Int) 0 (-1) 0 h.L f.body
  have:=kQ f.body
  simp only [Pc.aS,Pc.size];omega
theorem qy (p:Pg):p.fz.L.length≤Pc.aS p.procs:=by have:=Qs p.procs 0 ⟨[],[],[]⟩;simpa [Pg.fz]using this
theorem aar {p:Pg} {i:Nat} (hs:Pc.aS p.procs<1000000000) {a b e:List Im} (h1:p.fz.lo[i]? = some ((a.length:Int)+1)) (h2:p.fz.hi[i]? = some (((a++b).length:Int)+1)) (h4:p.fz.L=a++b++e) (s:St) :
 aE Tryz.prog gJ [.dU (iB p) 0, .int .i64 (i:Int)] s (.slice .shared 17 (b.map fu)) s:=by
 refine aE.pure ?_ (by simp [D.bR,D.ok,yI]) (by simp [D.ok,Tag.ok,Hw]) s
 have hL:p.fz.L.length<1000000000:=Nat.lt_of_le_of_lt (qy p) hs
 have l1:(i:Int)<(p.fz.lo.length:Int):=by have:=(List.getElem?_eq_some_iff.1 h1).1;omega
 have l2:(i:Int)<(p.fz.hi.length:Int):=by have:=(List.getElem?_eq_some_iff.1 h2).1;omega
 have AB:a.length+b.length≤p.fz.L.length:=by rw [h4];simp
 have w1:IntKind.wrap .i64 ((a.length:Int)+1 - 1)=(a.length:Int):=by rw [show(a.length:Int)+1 - 1=(a.length:Int) by omega];exact dc (by omega) (by omega)
 have w2:IntKind.wrap .i64 (((a.length+b.length:Nat):Int)+1 - 1)=((a.length+b.length:Nat):Int):=by rw [show((a.length+b.length:Nat):Int)+1 - 1=((a.length+b.length:Nat):Int) by omega];exact dc (by omega) (by omega)
 have c1:((a.length:Int)≤((a.length+b.length:Nat):Int))=True:=by simp only [eq_iff_iff,iff_true];omega
 have c2:(((a.length+b.length:Nat):Int)≤(p.fz.L.length:Int))=True:=by simp only [eq_iff_iff,iff_true];omega
 have hb:List.drop a.length (List.take (a.length+b.length) (List.map fu p.fz.L))=List.map fu b:=by rw [h4];simp [List.map_append,List.take_append,List.drop_append]
 unfold S0
 rw [rV]
 refine aE.go BB rfl fun B Q hB hQ=> ?_
 have⟨hF,hP,hY,hZ⟩:=bq
 repeat' (first
 | simp only [go_sem,hF,hP,hY,hZ,h1,h2,List.length_append,w1,w2,c1,c2,or_true,true_and,and_self,ite_self,Int.toNat_natCast,hb]
 | (with_reducible first | refine bK fun hc=> ?_ | refine bL fun hc=> ?_ | refine bM (fun hc=> ?_) fun hc=> ?_) <;> (try simp only [hc,bs, ↓reduceIte]at h) <;> try simp only [hc]
 | (with_reducible refine aC hQ ?_;(try cases h);simp only [au,aw,bu,bw,go_sem,hF,hP,hY,hZ,h1,h2,List.length_append,w1,w2,c1,c2,or_true,true_and,and_self,ite_self,Int.toNat_natCast,hb];try exact Ai)
 | (cases h;done))
theorem TF {p:Pg} {i:Nat} {f:Pc} (hf:p.procs[i]? = some f) (hs:Pc.aS p.procs<1000000000) : ∃ it:List Im,it.map Im.s=Sm.dN f.body∧∀ s,aE Tryz.prog gJ [.dU (iB p) 0, .int .i64 (i:Int)] s (.slice .shared 17 (it.map fu)) s:=by
 obtain⟨a,b,e,h1,h2,h3,h4⟩:=(qx p).2 i f hf
 exact⟨b,h3,aar hs h1 h2 h4⟩
end Go.Abs

/-! TMay1 -/

namespace Go.Abs
set_option maxRecDepth 8000
open Go.Proofs
theorem FP {r:aF} : uh r=true↔lF r=r.length:=by
 induction r with
 | nil=>simp [uh,lF]
 | cons c r ih=>
  simp only [uh,lF]
  cases h1:pY c <;> cases h2:oA c <;> simp [ih]
theorem AE (t:aF) (hl:t.length<4611686018427387904) (s:St):aE Tryz.prog nE [.str t] s (.bool (isName t)) s:=by
 refine aE.pure ?_ rfl rfl s
 have hr:=fun s=>Wd (pos:=0) hl s
 simp only [List.drop_zero,Nat.zero_add]at hr
 unfold S0
 cases t with
 | nil=>
  have z:decide (((0:Nat):Int)<1)=true:=rfl
  have z':decide ((0:Int)<1)=true:=rfl
  have e:isName [] = false:=rfl
  rw [e]
  refine aE.go mX rfl fun B Q hB hQ=> ?_
  have⟨hF,hP,hY,hZ⟩:=bq
  repeat' (first
 | simp only [go_sem,hF,hP,hY,hZ,z,z']
 | (with_reducible refine aC hQ ?_;simp only [au,aw,Option.some.injEq,exists_eq_left',go_sem,hF,hP,hY,hZ];repeat' (first | exact Ok.out | with_reducible refine aB ?_ ?_ | (simp;done))))
 | cons c r=>
  have l1:decide (((r.length+1:Nat):Int)<1)=false:=by simp;omega
  generalize h:isName (c::r)=p
  simp only [isName]at h
  cases hL:pY c
  ·simp only [hL,Bool.not_false,Bool.or_true, ↓reduceIte]at h
   subst h
   by_cases c8:decide (((r.length+1:Nat):Int) > 8)=true
   ·refine aE.go mX rfl fun B Q hB hQ=> ?_
    have⟨hF,hP,hY,hZ⟩:=bq
    repeat' (first
 | simp only [go_sem,hF,hP,hY,hZ,l1,c8]
 | (with_reducible refine aC hQ ?_;simp only [au,aw,Option.some.injEq,exists_eq_left',go_sem,hF,hP,hY,hZ];repeat' (first | exact Ok.out | with_reducible refine aB ?_ ?_ | (simp;done))))
   ·have c8:decide (((r.length+1:Nat):Int) > 8)=false:=by simpa using c8
    refine aE.go mX rfl fun B Q hB hQ=> ?_
    have⟨hF,hP,hY,hZ⟩:=bq
    repeat' (first
 | simp only [go_sem,hF,hP,hY,hZ,l1,c8,hL]
 | (with_reducible refine CU (ix _ _) ?_)
 | (with_reducible refine aC hQ ?_;simp only [au,aw,Option.some.injEq,exists_eq_left',go_sem,hF,hP,hY,hZ];repeat' (first | exact Ok.out | with_reducible refine aB ?_ ?_ | (simp;done))))
  ·simp only [hL,Bool.not_true,Bool.or_false]at h
   by_cases c8:decide (((r.length+1:Nat):Int) > 8)=true
   ·simp only [c8, ↓reduceIte]at h
    subst h
    refine aE.go mX rfl fun B Q hB hQ=> ?_
    have⟨hF,hP,hY,hZ⟩:=bq
    repeat' (first
 | simp only [go_sem,hF,hP,hY,hZ,l1,c8]
 | (with_reducible refine aC hQ ?_;simp only [au,aw,Option.some.injEq,exists_eq_left',go_sem,hF,hP,hY,hZ];repeat' (first | exact Ok.out | with_reducible refine aB ?_ ?_ | (simp;done))))
   ·have c8:decide (((r.length+1:Nat):Int) > 8)=false:=by simpa using c8
    simp only [c8,Bool.false_eq_true, ↓reduceIte]at h
    have dS:lF (c::r)=lF r+1:=by simp [lF,hL]
    cases hn:uh r
    ·simp only [hn,Bool.false_eq_true, ↓reduceIte]at h
     have:lF r≠r.length:=fun e=>by rw [FP.2 e]at hn;cases hn
     have e:(((lF (c::r):Nat):Int)==((r.length+1:Nat):Int))=false:=by rw [dS];simp;omega
     subst h
     refine aE.go mX rfl fun B Q hB hQ=> ?_
     have⟨hF,hP,hY,hZ⟩:=bq
     repeat' (first
 | simp only [go_sem,hF,hP,hY,hZ,l1,c8,hL,e]
 | (with_reducible refine CU (ix _ _) ?_)
 | (with_reducible refine CU (hr _) ?_)
 | (with_reducible refine aC hQ ?_;simp only [au,aw,Option.some.injEq,exists_eq_left',go_sem,hF,hP,hY,hZ];repeat' (first | exact Ok.out | with_reducible refine aB ?_ ?_ | (simp;done))))
    ·simp only [hn, ↓reduceIte]at h
     have:=FP.1 hn
     have e:(((lF (c::r):Nat):Int)==((r.length+1:Nat):Int))=true:=by rw [dS];simp;omega
     subst h
     refine aE.go mX rfl fun B Q hB hQ=> ?_
     have⟨hF,hP,hY,hZ⟩:=bq
     repeat' (first
 | simp only [go_sem,hF,hP,hY,hZ,l1,c8,hL,e]
 | (with_reducible refine CU (ix _ _) ?_)
 | (with_reducible refine CU (hr _) ?_)
 | (with_reducible refine CU (vm _ _) ?_)
 | (with_reducible refine aC hQ ?_;simp only [au,aw,Option.some.injEq,exists_eq_left',go_sem,hF,hP,hY,hZ];repeat' (first | exact Ok.out | with_reducible refine aB ?_ ?_ | (simp;done))))
theorem K5 (op:Int) (s:St):aE Tryz.prog wZ [.int .i64 op] s (.int .i64 (lT op)) s:=by
 refine aE.pure ?_ rfl rfl s
 unfold S0
 generalize h:lT op=p
 unfold lT at h
 refine aE.go G0 rfl fun B Q hB hQ=> ?_
 have⟨hF,hP,hY,hZ⟩:=bq
 repeat' (first
 | simp only [go_sem,hF,hP,hY,hZ]
 | (with_reducible first | refine bK fun hc=> ?_ | refine bL fun hc=> ?_ | refine bM (fun hc=> ?_) fun hc=> ?_) <;> (try simp only [hc,bs, ↓reduceIte]at h) <;> try simp only [hc]
 | (with_reducible refine aC hQ ?_;(try cases h);simp only [au,aw,bu,bw,go_sem,hF,hP,hY,hZ];repeat' (first | exact Ok.out | with_reducible refine aB ?_ ?_ | (simp;done))))
theorem yK {l:List aF} (hl:l.length<4611686018427387904) (hs : ∀ t∈l,t.length<4611686018427387904) (s:St):aE Tryz.prog mR [.slice .shared 1 (l.map encStr)] s (.bool (dG l)) s:=by
 refine aE.pure ?_ (by simp [D.bR,D.ok,dJ,Tag.ok]) rfl s
 unfold S0
 generalize h:dG l=p
 refine aE.go EI rfl fun B Q hB hQ=> ?_
 have⟨hF,hP,hY,hZ⟩:=bq
 repeat' (first
 | simp only [go_sem,hF,hP,hY,hZ]
 | (with_reducible first | refine bK fun hc=> ?_ | refine bL fun hc=> ?_ | refine bM (fun hc=> ?_) fun hc=> ?_) <;> (try simp only [hc,bs, ↓reduceIte]at h) <;> try simp only [hc]
 | (with_reducible refine aC hQ ?_;(try cases h);simp only [au,aw,bu,bw,go_sem,hF,hP,hY,hZ];repeat' (first | exact Ok.out | with_reducible refine aB ?_ ?_ | (simp;done))))
 refine cd 0 0 (a8.ind (ι:=List aF×Nat) (fun i=>l.drop i.2=i.1∧dG i.1=p) (fun i=>i.1.length)
  (fun i=> [(5, .slice .shared 1 (l.map encStr)),(6, .int .i64 (l.length:Int)),(7, .int .i64 (i.2:Int))]) (fun i=>⟨[],[]⟩) ?_ (l,0) ⟨rfl,h⟩)
 rintro⟨rest,k⟩ ⟨h1,h⟩ IH
 dsimp only at h1 h
 cases rest with
 | nil=>
  have hF:=drop_nil h1
  simp only [dG]at h
  repeat' (first
 | simp only [go_sem,hF,hP,hY,hZ]
 | (with_reducible first | refine bK fun hc=> ?_ | refine bL fun hc=> ?_ | refine bM (fun hc=> ?_) fun hc=> ?_) <;> (try simp only [hc,bs, ↓reduceIte]at h) <;> try simp only [hc]
 | (with_reducible refine aC hQ ?_;(try cases h);simp only [au,aw,bu,bw,go_sem,hF,hP,hY,hZ];repeat' (first | exact Ok.out | with_reducible refine aB ?_ ?_ | (simp;done))))
 | cons t rest=>
  obtain⟨hP,g2,hF,g4⟩:=drop_cons h1
  have hY:k<4611686018427387904:=by omega
  have hn:=AE t (hs t (List.mem_of_getElem? hP))
  simp only [dG]at h
  repeat' (first
 | simp only [go_sem,hF,hP,hY,hZ]
 | (with_reducible refine CU (hn _) ?_)
 | (with_reducible first | refine bK fun hc=> ?_ | refine bL fun hc=> ?_ | refine bM (fun hc=> ?_) fun hc=> ?_) <;> (try simp only [hc,bs, ↓reduceIte]at h) <;> try simp only [hc]
 | (with_reducible refine aC hQ ?_;(try cases h);simp only [au,aw,bu,bw,go_sem,hF,hP,hY,hZ];repeat' (first | exact Ok.out | with_reducible refine aB ?_ ?_ | (simp;done))))
  refine cd 0 0 (IH (rest,k+1) ⟨g2,h⟩ (Nat.lt_succ_self _))
mutual
def Ex.dp (left:Int):Ex→Bool
 | ⟨op,n,name,kids⟩=>
  if decide (left<1) || (kids.length:Int) != lT op then false
  else if op==1 then decide (n≥0) && name == []
  else if op==2 then n==0 && isName name
  else if n != 0 || !(name == [])then false
  else Ex.Dz (left - 1) kids
def Ex.Dz (left:Int):List Ex→Bool
 | []=>true
 | x::l=>if !(Ex.dp left x)then false else Ex.Dz left l
end
theorem XJ : ∀ (m:Nat) (x:Ex),x.size≤m→x.size<4611686018427387904→x.texts→∀ left:Int,0≤left→left≤100→∀ s:St,aE Tryz.prog pX [.agg (bE x), .int .i64 left] s (.bool (x.dp left)) s:=by
 intro m
 induction m with
 | zero=>rintro⟨op,v,name,kids⟩ h;simp only [Ex.size]at h;omega
 | succ m ih=>
  rintro⟨op,v,name,kids⟩ h hx ht left h0 axf s
  refine aE.pure ?_ (by simp [D.bR,D.ok,gN]) rfl s
  have hlen:kids.length<4611686018427387904:=by simp only [Ex.size]at hx;have:=Ex.cZ kids;omega
  have hn:=AE name ht.1
  generalize hp:Ex.dp left ⟨op,v,name,kids⟩=p
  simp only [Ex.dp]at hp
  unfold S0
  by_cases Qt:left<1
  ·have d1:decide (left<1)=true:=by simpa using Qt
   simp only [d1,Bool.true_or, ↓reduceIte]at hp
   subst hp
   refine aE.go zp rfl fun B Q hB hQ=> ?_
   have⟨hF,hP,hY,hZ⟩:=bq
   repeat' (first
 | simp only [go_sem,hF,hP,hY,hZ,d1]
 | (with_reducible refine CU (K5 _ _) ?_)
 | (with_reducible refine CU (hn _) ?_)
 | (with_reducible refine aC hQ ?_;simp only [au,aw,bu,bw,go_sem,hF,hP,hY,hZ];repeat' (first | exact Ok.out | with_reducible refine aB ?_ ?_ | (simp;done))))
  ·have d1:decide (left<1)=false:=by simpa using Qt
   have w1:IntKind.wrap .i64 (left - 1)=left - 1:=dc (by omega) (by omega)
   have hk : ∀ y∈kids,∀ s,aE Tryz.prog pX [.agg (bE y), .int .i64 (left - 1)] s (.bool (y.dp (left - 1))) s:=fun y hy s=>
    ih y (by simp only [Ex.size]at h;have:=Ex.bV hy;omega) (by simp only [Ex.size]at hx;have:=Ex.bV hy;omega) (Ex.FM ht hy) (left - 1) (by omega) (by omega) s
   simp only [d1,Bool.false_or]at hp
   have h:=hp
   clear hp
   refine aE.go zp rfl fun B Q hB hQ=> ?_
   have⟨hF,hP,hY,hZ⟩:=bq
   repeat' (first
 | simp only [go_sem,hF,hP,hY,hZ,d1]
 | (with_reducible refine CU (K5 _ _) ?_)
 | (with_reducible refine CU (hn _) ?_)
 | (with_reducible first | refine bK fun hc=> ?_ | refine bL fun hc=> ?_ | refine bM (fun hc=> ?_) fun hc=> ?_) <;> (try simp only [hc,bs, ↓reduceIte]at h) <;> try simp only [hc]
 | (with_reducible refine aC hQ ?_;(try cases h);simp only [au,aw,bu,bw,go_sem,hF,hP,hY,hZ,d1];repeat' (first | exact Ok.out | with_reducible refine aB ?_ ?_ | (simp;done))))
   all_goals
    refine cd 1 0 (a8.ind (ι:=List Ex×Nat) (fun i=>kids.drop i.2=i.1∧Ex.Dz (left - 1) i.1=p) (fun i=>i.1.length)
     (fun i=> [(1, .int .i64 left),(49, .slice .shared 4 (kids.map bE)),(50, .int .i64 (kids.length:Int)),(51, .int .i64 (i.2:Int))]) (fun i=>⟨[bE ⟨op,v,name,kids⟩],[]⟩) ?_ (kids,0) ⟨rfl,h⟩)
    rintro⟨rest,k⟩ ⟨h1,h⟩ IH
    dsimp only at h1 h
    cases rest with
    | nil=>
     have hF:=drop_nil h1
     simp only [Ex.Dz]at h
     repeat' (first
 | simp only [go_sem,hF,hP,hY,hZ]
 | (with_reducible first | refine bK fun hc=> ?_ | refine bL fun hc=> ?_ | refine bM (fun hc=> ?_) fun hc=> ?_) <;> (try simp only [hc,bs, ↓reduceIte]at h) <;> try simp only [hc]
 | (with_reducible refine aC hQ ?_;exact nX)
 | (cases h;done))
    | cons y rest=>
     obtain⟨hP,g2,hF,g4⟩:=drop_cons h1
     have hy:=hk y (List.mem_of_getElem? hP)
     have hY:k<4611686018427387904:=by omega
     simp only [Ex.Dz]at h
     repeat' (first
 | simp only [go_sem,hF,hP,hY,hZ,w1]
 | (with_reducible refine CU (hy _) ?_)
 | (with_reducible first | refine bK fun hc=> ?_ | refine bL fun hc=> ?_ | refine bM (fun hc=> ?_) fun hc=> ?_) <;> (try simp only [hc,bs, ↓reduceIte]at h) <;> try simp only [hc]
 | (with_reducible refine aC hQ ?_;(try cases h);simp only [au,aw,bu,bw,go_sem,hF,hP,hY,hZ,w1];repeat' (first | exact Ok.out | with_reducible refine aB ?_ ?_ | (simp;done))))
     refine cd 1 0 (IH (rest,k+1) ⟨g2,h⟩ (Nat.lt_succ_self _))
end Go.Abs

/-! TMay2 -/

namespace Go.Abs
set_option maxRecDepth 8000
open Go.Proofs
theorem DA {x:Ex} (hx:x.size<4611686018427387904) (ht:x.texts) (s:St):aE Tryz.prog px [.agg (bE x)] s (.bool (x.dp 20)) s:=by
 refine aE.pure ?_ (by simp [D.bR,D.ok,gN]) rfl s
 have hd:=fun s=>XJ _ x (Nat.le_refl _) hx ht 20 (by omega) (by omega) s
 unfold S0
 refine aE.go Cs rfl fun B Q hB hQ=> ?_
 have⟨hF,hP,hY,hZ⟩:=bq
 repeat' (first
 | simp only [go_sem,hF,hP,hY,hZ]
 | (with_reducible refine CU (hd _) ?_)
 | (with_reducible refine aC hQ ?_;simp only [au,aw,Option.some.injEq,exists_eq_left',go_sem,hF,hP,hY,hZ];repeat' (first | exact Ok.out | with_reducible refine aB ?_ ?_ | (simp;done))))
theorem XK (x:Ex) (s:St):aE Tryz.prog wY [.agg (bE x)] s (.bool x.none) s:=by
 refine aE.pure ?_ (by simp [D.bR,D.ok,gN]) rfl s
 unfold S0
 generalize h:Ex.none x=p
 unfold Ex.none at h
 refine aE.go GY rfl fun B Q hB hQ=> ?_
 have⟨hF,hP,hY,hZ⟩:=bq
 repeat' (first
 | simp only [go_sem,hF,hP,hY,hZ]
 | (with_reducible first | refine bK fun hc=> ?_ | refine bL fun hc=> ?_ | refine bM (fun hc=> ?_) fun hc=> ?_) <;> (try simp only [hc,bs, ↓reduceIte]at h) <;> try simp only [hc]
 | (with_reducible refine aC hQ ?_;(try cases h);simp only [au,aw,bu,bw,go_sem,hF,hP,hY,hZ];repeat' (first | exact Ok.out | with_reducible refine aB ?_ ?_ | (simp;done))))
def q9 (t:aF) (is:Bool):Bool:=(is && isName t) || (!is && t == [])
theorem Cu (t:aF) (is:Bool) (hl:t.length<4611686018427387904) (s:St):aE Tryz.prog oZ [.str t, .bool is] s (.bool (q9 t is)) s:=by
 refine aE.pure ?_ rfl rfl s
 have hn:=AE t hl
 unfold S0
 generalize h:q9 t is=p
 unfold q9 at h
 refine aE.go EY rfl fun B Q hB hQ=> ?_
 have⟨hF,hP,hY,hZ⟩:=bq
 repeat' (first
 | simp only [go_sem,hF,hP,hY,hZ]
 | (with_reducible refine CU (hn _) ?_)
 | (with_reducible first | refine bK fun hc=> ?_ | refine bL fun hc=> ?_ | refine bM (fun hc=> ?_) fun hc=> ?_) <;> (try simp only [hc,bs, ↓reduceIte]at h) <;> try simp only [hc]
 | (with_reducible refine aC hQ ?_;(try cases h);simp only [au,aw,bu,bw,go_sem,hF,hP,hY,hZ];repeat' (first | exact Ok.out | with_reducible refine aB ?_ ?_ | (simp;done))))
def vo (x:Ex) (is:Bool):Bool:=(is && x.dp 20) || (!is && x.none)
theorem K6 {x:Ex} (is:Bool) (hx:x.size<4611686018427387904) (ht:x.texts) (s:St):aE Tryz.prog qW [.agg (bE x), .bool is] s (.bool (vo x is)) s:=by
 refine aE.pure ?_ (by simp [D.bR,D.ok,gN]) rfl s
 have hm:=DA hx ht
 unfold S0
 generalize h:vo x is=p
 unfold vo at h
 refine aE.go EZ rfl fun B Q hB hQ=> ?_
 have⟨hF,hP,hY,hZ⟩:=bq
 repeat' (first
 | simp only [go_sem,hF,hP,hY,hZ]
 | (with_reducible refine CU (hm _) ?_)
 | (with_reducible refine CU (XK _ _) ?_)
 | (with_reducible first | refine bK fun hc=> ?_ | refine bL fun hc=> ?_ | refine bM (fun hc=> ?_) fun hc=> ?_) <;> (try simp only [hc,bs, ↓reduceIte]at h) <;> try simp only [hc]
 | (with_reducible refine aC hQ ?_;(try cases h);simp only [au,aw,bu,bw,go_sem,hF,hP,hY,hZ];repeat' (first | exact Ok.out | with_reducible refine aB ?_ ?_ | (simp;done))))
def pB:List Ar→Bool
 | []=>true
 | a::l=>if !(q9 a.name a.ref) || !(vo a.x !a.ref)then false else pB l
theorem TG {l:List Ar} (hl:l.length<4611686018427387904) (hs : ∀ a∈l,a.x.size<4611686018427387904∧a.x.texts∧a.name.length<4611686018427387904) (s:St) :
 aE Tryz.prog tn [.slice .shared 6 (l.map dT)] s (.bool (pB l)) s:=by
 refine aE.pure ?_ (by simp [D.bR,D.ok,Hf,Tag.ok]) rfl s
 unfold S0
 generalize h:pB l=p
 refine aE.go Ds rfl fun B Q hB hQ=> ?_
 have⟨hF,hP,hY,hZ⟩:=bq
 repeat' (first
 | simp only [go_sem,hF,hP,hY,hZ]
 | (with_reducible first | refine bK fun hc=> ?_ | refine bL fun hc=> ?_ | refine bM (fun hc=> ?_) fun hc=> ?_) <;> (try simp only [hc,bs, ↓reduceIte]at h) <;> try simp only [hc]
 | (with_reducible refine aC hQ ?_;(try cases h);simp only [au,aw,bu,bw,go_sem,hF,hP,hY,hZ];repeat' (first | exact Ok.out | with_reducible refine aB ?_ ?_ | (simp;done))))
 refine cd 0 0 (a8.ind (ι:=List Ar×Nat) (fun i=>l.drop i.2=i.1∧pB i.1=p) (fun i=>i.1.length)
  (fun i=> [(5, .slice .shared 6 (l.map dT)),(6, .int .i64 (l.length:Int)),(7, .int .i64 (i.2:Int))]) (fun i=>⟨[],[]⟩) ?_ (l,0) ⟨rfl,h⟩)
 rintro⟨rest,k⟩ ⟨h1,h⟩ IH
 dsimp only at h1 h
 cases rest with
 | nil=>
  have hF:=drop_nil h1
  simp only [pB]at h
  repeat' (first
 | simp only [go_sem,hF,hP,hY,hZ]
 | (with_reducible first | refine bK fun hc=> ?_ | refine bL fun hc=> ?_ | refine bM (fun hc=> ?_) fun hc=> ?_) <;> (try simp only [hc,bs, ↓reduceIte]at h) <;> try simp only [hc]
 | (with_reducible refine aC hQ ?_;(try cases h);simp only [au,aw,bu,bw,go_sem,hF,hP,hY,hZ];repeat' (first | exact Ok.out | with_reducible refine aB ?_ ?_ | (simp;done))))
 | cons a rest=>
  obtain⟨hP,g2,hF,g4⟩:=drop_cons h1
  have hY:k<4611686018427387904:=by omega
  obtain⟨a1,a2,a3⟩:=hs a (List.mem_of_getElem? hP)
  have hn:=fun b s=>Cu a.name b a3 s
  have hw:=fun b s=>K6 b a1 a2 s
  simp only [pB]at h
  repeat' (first
 | simp only [go_sem,hF,hP,hY,hZ]
 | (with_reducible refine CU (hn _ _) ?_)
 | (with_reducible refine CU (hw _ _) ?_)
 | (with_reducible first | refine bK fun hc=> ?_ | refine bL fun hc=> ?_ | refine bM (fun hc=> ?_) fun hc=> ?_) <;> (try simp only [hc,bs, ↓reduceIte]at h) <;> try simp only [hc]
 | (with_reducible refine aC hQ ?_;(try cases h);simp only [au,aw,bu,bw,go_sem,hF,hP,hY,hZ];repeat' (first | exact Ok.out | with_reducible refine aB ?_ ?_ | (simp;done))))
  refine cd 0 0 (IH (rest,k+1) ⟨g2,h⟩ (Nat.lt_succ_self _))
def Sm.flags (s:Sm):Option (Bool×Bool×Bool×Bool×Bool×Bool):=
 if s.kind==1 then some (true,false,true,s.has,false,false)
 else if s.kind==2 || s.kind==10 then some (true,false,false,s.has,false,false)
 else if s.kind==3 then some (false,false,true,s.has,false,false)
 else if s.kind==4 then some (!(s.name == []),true,false,s.has,false,false)
 else if s.kind==5 then some (false,false,true,s.has,true,true)
 else if s.kind==6 then some (false,false,true,s.has,true,false)
 else if s.kind==9 then some (false,false,s.has,false,false,false)
 else if s.kind==7 || s.kind==8 then some (false,false,false,s.has,false,false)
 else none
def Sm.Hx (s:Sm) (nm pr x:Bool):Bool:=if !(q9 s.name nm) || !(q9 s.proc pr) || !(vo s.x x)then false else pB s.args
def Sm.Hy (s:Sm) (f:Bool×Bool×Bool×Bool×Bool×Bool):Bool:=
 if f.2.2.2.1 || (!f.2.2.2.2.1 && decide ((s.aZ.length:Int) > 0)) || (!f.2.2.2.2.2 && decide ((s.aP.length:Int) > 0)) || (!(s.kind==4) && decide ((s.args.length:Int) > 0))then false
 else s.Hx f.1 f.2.1 f.2.2.1
def Sm.fields (s:Sm):Bool:=match s.flags with
 | none=>false
 | some f=>s.Hy f
section
variable {v:Sm} {B:fI} {Q:Exit→Tm→St→Prop} {p:Bool}
theorem TH {nm pr x:Bool} (hf:v.jE) (hB:B.s = ⟨[],[]⟩) (hQ:iS 0 0 [(2,none)] (.bool p) ⟨[],[]⟩=Q) (h:v.Hx nm pr x=p) :
 Sem Tryz.prog B 93 ZS Q [(1, .ptr 0 0),(3, .bool nm),(4, .bool pr),(5, .bool x)] ⟨[bd v],[]⟩:=by
 have h1:=fun b s=>Cu v.name b hf.name s
 have h2:=fun b s=>Cu v.proc b hf.proc s
 have h3:=fun b s=>K6 b hf.x hf.xt s
 have h4:=fun s=>TG hf.aal hf.arg s
 unfold Sm.Hx at h
 have⟨hF,hP,hY,hZ⟩:=bq
 refine iA ?_
 repeat' (first
 | simp only [go_sem,hF,hP,hY,hZ]
 | (with_reducible refine CU (h1 _ _) ?_)
 | (with_reducible refine CU (h2 _ _) ?_)
 | (with_reducible refine CU (h3 _ _) ?_)
 | (with_reducible refine CU (h4 _) ?_)
 | (with_reducible first | refine bK fun hc=> ?_ | refine bL fun hc=> ?_ | refine bM (fun hc=> ?_) fun hc=> ?_) <;> (try simp only [hc,bs, ↓reduceIte]at h) <;> try simp only [hc]
 | (with_reducible refine aC hQ ?_;(try cases h);simp only [au,aw,bu,bw,go_sem,hF,hP,hY,hZ];repeat' (first | exact Ok.out | with_reducible refine aB ?_ ?_ | (simp;done))))
theorem TI {nm pr x has th ot ar:Bool} (hf:v.jE) (hB:B.s = ⟨[],[]⟩) (hQ:iS 0 0 [(2,none)] (.bool p) ⟨[],[]⟩=Q) (e:(v.kind==4)=ar) (h:v.Hy (nm,pr,x,has,th,ot)=p) :
 Sem Tryz.prog B 93 ZT Q [(1, .ptr 0 0),(3, .bool nm),(4, .bool pr),(5, .bool x),(6, .bool has),(7, .bool th),(8, .bool ot),(9, .bool ar)] ⟨[bd v],[]⟩:=by
 simp only [Sm.Hy,e]at h
 have⟨hF,hP,hY,hZ⟩:=bq
 refine Sem.kJ ?_
 repeat' (first
 | simp only [go_sem,hF,hP,hY,hZ]
 | (with_reducible first | refine bK fun hc=> ?_ | refine bL fun hc=> ?_ | refine bM (fun hc=> ?_) fun hc=> ?_) <;> (try simp only [hc,bs, ↓reduceIte]at h) <;> try simp only [hc]
 | (with_reducible refine aC hQ ?_;(try cases h);simp only [au,aw,bu,bw,go_sem,hF,hP,hY,hZ];repeat' (first | exact Ok.out | with_reducible refine aB ?_ ?_ | (simp;done))))
 all_goals
  refine Sem.re _ _ 1 0 (by rw [hB];exact mr rfl) (by rw [hB];exact mr rfl) ?_ ?_ (TH hf hB hQ h)
  ·(simp only [go_sem,hF,hP,hY,hZ];repeat' (first | exact Ok.out | with_reducible refine aB ?_ ?_))
  ·(simp only [go_sem,hF,hP,hY,hZ];repeat' (first | exact Ok.out | with_reducible refine aB ?_ ?_))
theorem TJ {ar:Bool} (hf:v.jE) (hB:B.s = ⟨[],[]⟩) (hQ:iS 0 0 [(2,none)] (.bool p) ⟨[],[]⟩=Q) (e:(v.kind==4)=ar) (h:v.fields=p) :
 Sem Tryz.prog B 93 Tp Q [(1, .ptr 0 0),(3, .bool false),(4, .bool false),(5, .bool false),(6, .bool v.has),(7, .bool false),(8, .bool false),(9, .bool ar)] ⟨[bd v],[]⟩:=by
 simp only [Sm.fields,Sm.flags]at h
 have⟨hF,hP,hY,hZ⟩:=bq
 refine Sem.kJ ?_
 repeat' (first
 | simp only [go_sem,hF,hP,hY,hZ]
 | (with_reducible first | refine bK fun hc=> ?_ | refine bL fun hc=> ?_ | refine bM (fun hc=> ?_) fun hc=> ?_) <;> (try simp only [hc,bs, ↓reduceIte]at h) <;> try simp only [hc]
 | (with_reducible refine aC hQ ?_;(try cases h);simp only [au,aw,bu,bw,go_sem,hF,hP,hY,hZ];repeat' (first | exact Ok.out | with_reducible refine aB ?_ ?_ | (simp;done))))
 all_goals
  refine Sem.re _ _ 1 0 (by rw [hB];exact mr rfl) (by rw [hB];exact mr rfl) ?_ ?_ (TI hf hB hQ e h)
  ·(simp only [go_sem,hF,hP,hY,hZ];repeat' (first | exact Ok.out | with_reducible refine aB ?_ ?_))
  ·(simp only [go_sem,hF,hP,hY,hZ];repeat' (first | exact Ok.out | with_reducible refine aB ?_ ?_))
end
theorem TK {v:Sm} (hf:v.jE) (s:St):aE Tryz.prog ti [.agg (bd v)] s (.bool v.fields) s:=by
 refine aE.pure ?_ (by simp [D.bR,D.ok,l9]) rfl s
 unfold S0
 refine aE.goS Dm rfl fun B Q hB hQ=> ?_
 have⟨hF,hP,hY,hZ⟩:=bq
 refine Sem.seq (b:=ZV) (iA ?_)
 repeat' (first
 | simp only [go_sem,hF,hP,hY,hZ]
 | (with_reducible refine aC hQ ?_;simp only [au,aw,Option.some.injEq,exists_eq_left',go_sem,hF,hP,hY,hZ];repeat' (first | exact Ok.out | with_reducible refine aB ?_ ?_ | (simp;done))))
 refine Sem.seq (b:=ZU) (iA ?_)
 repeat' (first
 | simp only [go_sem,hF,hP,hY,hZ]
 | (with_reducible refine aC hQ ?_;simp only [au,aw,Option.some.injEq,exists_eq_left',go_sem,hF,hP,hY,hZ];repeat' (first | exact Ok.out | with_reducible refine aB ?_ ?_ | (simp;done))))
 refine Sem.seq (b:=Tp) (iA ?_)
 repeat' (first
 | simp only [go_sem,hF,hP,hY,hZ]
 | (with_reducible refine aC hQ ?_;simp only [au,aw,Option.some.injEq,exists_eq_left',go_sem,hF,hP,hY,hZ];repeat' (first | exact Ok.out | with_reducible refine aB ?_ ?_ | (simp;done))))
 refine Sem.re _ _ 1 0 (by rw [hB];exact mr rfl) (by rw [hB];exact mr rfl) ?_ ?_ (TJ hf hB hQ rfl rfl)
 ·(simp only [go_sem,hF,hP,hY,hZ];repeat' (first | exact Ok.out | with_reducible refine aB ?_ ?_))
 ·(simp only [go_sem,hF,hP,hY,hZ];repeat' (first | exact Ok.out | with_reducible refine aB ?_ ?_))
end Go.Abs

/-! RefMay3 -/

namespace Go.Abs
set_option maxRecDepth 8000
open Go.Proofs
def ej (i:It):List D:= [.int .i64 i.s.id, .int .i64 i.s.kind, .slice .shared 1 (i.s.labels.map encStr), .str i.s.name, .str i.s.proc,
 .int .i64 i.s.x.op, .int .i64 i.s.x.n, .str i.s.x.name, .slice .shared 4 (i.s.x.kids.map bE), .bool i.s.has, .slice .shared 6 (i.s.args.map dT), .slice .shared 13 (i.s.aZ.map bd), .slice .shared 13 (i.s.aP.map bd), .int .i64 i.deep, .int .i64 i.bo, .bool i.aP]
theorem TL (i:It):D.bR 0 0 (ej i)=true:=by simp [ej,D.bR,D.ok,Tag.ok,dJ,VD,Hf,mF]
theorem Bn (l:List It):D.ji 0 0 (l.map ej)=true:=gQ TL l
theorem ad4 (n m:Nat) (l:List It):D.kr n m (l.map ej)=l.map ej:=mP TL n m l
theorem ad5 (n m:Nat) (i:It):D.il n m (ej i)=ej i:=iG n m _ (TL i)
theorem ad6 (x:It):(ej x).length=16:=nd rfl
theorem aat (x:It):List.take 13 (ej x)=bd x.s:=by simp only [ej,dm];rfl
theorem TN (x:It):(ej x)[0]? = some (.int .i64 x.s.id):=nd rfl
theorem Qu (x:It):(ej x)[13]? = some (.int .i64 x.deep):=nd rfl
theorem E4 (s:Sm) (d n:Int) (e:Bool):ej ⟨s,d,n,e⟩ = [.int .i64 s.id, .int .i64 s.kind, .slice .shared 1 (s.labels.map encStr), .str s.name, .str s.proc,
 .int .i64 s.x.op, .int .i64 s.x.n, .str s.x.name, .slice .shared 4 (s.x.kids.map bE), .bool s.has, .slice .shared 6 (s.args.map dT), .slice .shared 13 (s.aZ.map bd), .slice .shared 13 (s.aP.map bd), .int .i64 d, .int .i64 n, .bool e]:=nd rfl
attribute [go_sem] ad4 ad5 ad6 aat TN Qu
theorem I0 (deep bo:Int) (aP:Bool) (out:List It) (s:Sm) :
 fV deep bo aP out s=if decide (deep≤12)then dt (deep+1) s.id true (dt (deep+1) s.id false (out++ [⟨s,deep,bo,aP⟩]) s.aZ) s.aP else out++ [⟨s,deep,bo,aP⟩]:=by
 cases s;simp only [fV]
mutual
theorem Qv (deep bo:Int) (aP:Bool) (out:List It) (h:out.length≤200) : ∀ s:Sm,(fV deep bo aP out s).length≤201
 | ⟨id,kind,labels,name,proc,x,has,args,aZ,e⟩=>by
  simp only [fV]
  have h1:(out++ [(⟨⟨id,kind,labels,name,proc,x,has,args,aZ,e⟩,deep,bo,aP⟩:It)]).length≤201:=by simp;omega
  split
  ·exact kT _ _ _ _ (kT _ _ _ _ h1 aZ) e
  ·exact h1
theorem kT (deep bo:Int) (aP:Bool) (out:List It) (h:out.length≤201) : ∀ l:List Sm,(dt deep bo aP out l).length≤201
 | []=>by simpa only [dt]using h
 | s::l=>by
  simp only [dt]
  split
  ·rename_i hc
   simp only [decide_eq_true_eq]at hc
   exact kT deep bo aP _ (Qv _ _ _ _ (by omega) s) l
  ·exact h
end
abbrev Qw (N:Nat):Prop:=∀ (l:List Sm) (deep bo:Int) (aP:Bool) (out:List It),Sm.aS l<N→0≤deep→deep≤13→out.length≤201→∀ {s:St} {t:Nat},s.aH[t]? = some (some out.length)→
 aE Tryz.prog mb [.slice .shared 13 (l.map bd), .int .i64 deep, .int .i64 bo, .bool aP, .slice (.tok t) 16 (out.map ej)] s (.slice (.tok t) 16 ((dt deep bo aP out l).map ej)) ⟨s.aG,s.aH.set t (some (dt deep bo aP out l).length)⟩
theorem aau {N:Nat} (hN:N<4611686018427387904) (ih:Qw N) {l:List Sm} {deep bo:Int} {aP:Bool} {out:List It} (hs:Sm.aS l<N+1) (FQ:0≤deep) (hd:deep≤13) (ho:out.length≤201) :
 aE Tryz.prog mb [.slice .shared 13 (l.map bd), .int .i64 deep, .int .i64 bo, .bool aP, .slice (.tok 0) 16 (out.map ej)] ⟨[],[some out.length]⟩ (.slice (.tok 0) 16 ((dt deep bo aP out l).map ej)) ⟨[],[some (dt deep bo aP out l).length]⟩:=by
 generalize hR:dt deep bo aP out l=R
 refine aE.go zq rfl fun B Q hB hQ=> ?_
 have⟨hF,hP,hY,hZ⟩:=bq
 repeat' (first
 | simp only [go_sem,hF,hP,hY,hZ]
 | (with_reducible refine aC hQ ?_;simp only [au,aw,Option.some.injEq,exists_eq_left',go_sem,hF,hP,hY,hZ];repeat' (first | exact Ok.out | with_reducible refine aB ?_ ?_ | (simp;done))))
 refine cd 0 1 (a8.ind (ι:=List Sm×Nat×List It×Nat) (fun i=>l.drop i.2.1=i.1∧dt deep bo aP i.2.2.1 i.1=R∧i.2.2.1.length≤201∧i.2.2.2=i.2.2.1.length) (fun i=>i.1.length)
  (fun i=> [(0, .slice .shared 13 (l.map bd)),(1, .int .i64 deep),(2, .int .i64 bo),(3, .bool aP),(4, .slice (.tok 0) 16 (i.2.2.1.map ej)),(11, .int .i64 (i.2.1:Int))]) (fun i=>⟨[],[some i.2.2.2]⟩) ?_ (l,0,out,out.length) ⟨rfl,hR,ho,rfl⟩)
 rintro⟨rest,k,out,n⟩ ⟨h1,h2,h3,h4⟩ IH
 dsimp only at h1 h2 h3 h4
 subst h4
 have hlen:l.length<4611686018427387904:=by have:=Sm.cZ l;omega
 cases rest with
 | nil=>
  have hF:=drop_nil h1
  simp only [dt]at h2
  subst h2
  repeat' (first
 | simp only [go_sem,hF,hP,hY,hZ]
 | (with_reducible refine aC hQ ?_;simp only [au,aw,Option.some.injEq,exists_eq_left',go_sem,hF,hP,hY,hZ];repeat' (first | exact Ok.out | with_reducible refine aB ?_ ?_ | (simp;done))))
 | cons v rest=>
  obtain⟨hP,g2,hF,g4⟩:=drop_cons h1
  have bl:k<4611686018427387904:=by omega
  have hv:=Sm.bV (List.mem_of_getElem? hP)
  have oQ:Sm.aS v.aZ<N∧Sm.aS v.aP<N:=by
   obtain⟨_,_,_,_,_,_,_,_,_,_⟩:=v
   simp only [Sm.size]at hv ⊢;omega
  simp only [dt]at h2
  by_cases hc:out.length≤200
  ·have c1:decide ((out.length:Int)≤200)=true:=by simp;omega
   simp only [c1, ↓reduceIte,I0]at h2
   have hY:(out.length+1)*233≤bc:=by unfold bc;omega
   have nR:(out++ [(⟨v,deep,bo,aP⟩:It)]).length≤201:=by simp;omega
   have hw:IntKind.wrap .i64 (deep+1)=deep+1:=dc (by omega) (by omega)
   by_cases ao2:deep≤12
   ·have c2:decide (deep≤12)=true:=by simp;omega
    simp only [c2, ↓reduceIte]at h2
    have f1:=fun {s:St} {t:Nat} (ht:s.aH[t]? = some (some (out++ [(⟨v,deep,bo,aP⟩:It)]).length))=>ih v.aZ (deep+1) v.id false _ oQ.1 (by omega) (by omega) nR ht
    have f2:=fun {s:St} {t:Nat} (ht:s.aH[t]? = some (some (dt (deep+1) v.id false (out++ [(⟨v,deep,bo,aP⟩:It)]) v.aZ).length))=>ih v.aP (deep+1) v.id true _ oQ.2 (by omega) (by omega) (kT _ _ _ _ nR _) ht
    simp only [List.map_append,List.map_cons,List.map_nil,E4,List.length_append,List.length_cons,List.length_nil]at f1
    repeat' (first
 | simp only [go_sem,hF,hP,hY,hZ,c1,c2,hw,dm]
 | (with_reducible refine CU (f1 (by with_unfolding_all rfl)) ?_)
 | (with_reducible refine CU (f2 (by with_unfolding_all rfl)) ?_)
 | (with_reducible refine aC hQ ?_;simp only [au,aw,Option.some.injEq,exists_eq_left',go_sem,hF,hP,hY,hZ];repeat' (first | exact Ok.out | with_reducible refine aB ?_ ?_ | (simp;done))))
    refine ct 0 1 ?_ ?_ (IH (rest,k+1,_,_) ⟨g2,h2,kT _ _ _ _ (kT _ _ _ _ nR _) _,rfl⟩ (Nat.lt_succ_self _))
    ·(simp only [go_sem,hF,hP,hY,hZ,az bl];try exact aU)
    ·(simp only [go_sem,hF,hP,hY,hZ,az bl];try exact aU)
   ·have c2:decide (deep≤12)=false:=by simp;omega
    simp only [c2,Bool.false_eq_true, ↓reduceIte]at h2
    repeat' (first
 | simp only [go_sem,hF,hP,hY,hZ,c1,c2,dm]
 | (with_reducible refine aC hQ ?_;simp only [au,aw,Option.some.injEq,exists_eq_left',go_sem,hF,hP,hY,hZ];repeat' (first | exact Ok.out | with_reducible refine aB ?_ ?_ | (simp;done))))
    refine ct 0 1 ?_ ?_ (IH (rest,k+1,out++ [⟨v,deep,bo,aP⟩],out.length+1) ⟨g2,h2,nR,by simp⟩ (Nat.lt_succ_self _))
    ·(simp only [go_sem,hF,hP,hY,hZ,az bl,E4,List.map_append,List.map_cons,List.map_nil];try exact aU)
    ·(simp only [go_sem,hF,hP,hY,hZ,az bl,E4,List.map_append,List.map_cons,List.map_nil];try exact aU)
  ·have c1:decide ((out.length:Int)≤200)=false:=by simp;omega
   simp only [c1,Bool.false_eq_true, ↓reduceIte]at h2
   subst h2
   repeat' (first
 | simp only [go_sem,hF,hP,hY,hZ,c1]
 | (with_reducible refine aC hQ ?_;simp only [au,aw,Option.some.injEq,exists_eq_left',go_sem,hF,hP,hY,hZ];repeat' (first | exact Ok.out | with_reducible refine aB ?_ ?_ | (simp;done))))
theorem TO : ∀ N,N<4611686018427387904→Qw N:=by
 intro N
 induction N with
 | zero=>exact fun _ l deep bo aP out h=>absurd h (Nat.not_lt_zero _)
 | succ N ih=>
  intro h l deep bo aP out hs FQ hd ho s t ht
  exact(aau (by omega) (ih (by omega)) hs FQ hd ho).L9 (pre:= [_,_,_,_]) (post:= []) (by simp [D.bR,D.ok,Tag.ok,mF]) rfl (Bn out) (Bn _) ht
theorem TP {l:List Sm} (hs:Sm.aS l<4611686018427387000) (s:St) :
 aE Tryz.prog mb [.slice .shared 13 (l.map bd), .int .i64 1, .int .i64 0, .bool false, .slice .full 0 []] s (.slice .shared 16 ((dt 1 0 false [] l).map ej)) s:=by
 refine aE.pure ?_ (by simp [D.bR,D.ok,Tag.ok,mF,D.ji]) (by simp [D.ok,Tag.ok,Bn]) s
 obtain⟨N,hN⟩ : ∃ N,N=Sm.aS l:=⟨_,rfl⟩
 have ih:=TO N (by omega)
 replace hs:Sm.aS l<N+1∧N<4611686018427387000:=by omega
 obtain⟨hs,hN⟩:=hs
 generalize hR:dt 1 0 false [] l=R
 obtain⟨deep,NP⟩ : ∃ d:Int,d=1:=⟨_,rfl⟩
 obtain⟨bo,TQ⟩ : ∃ d:Int,d=0:=⟨_,rfl⟩
 obtain⟨aP,TR⟩ : ∃ d:Bool,d=false:=⟨_,rfl⟩
 rw [← NP, ← TQ, ← TR]at hR
 rw [← NP, ← TQ, ← TR]
 have FQ:0≤deep:=by omega
 have hd:deep≤13:=by omega
 clear NP TQ TR
 have ho:([] : List It).length≤201:=Nat.zero_le _
 unfold S0
 refine aE.go zq rfl fun B Q hB hQ=> ?_
 have⟨hF,hP,hY,hZ⟩:=bq
 repeat' (first
 | simp only [go_sem,hF,hP,hY,hZ]
 | (with_reducible refine aC hQ ?_;simp only [au,aw,Option.some.injEq,exists_eq_left',go_sem,hF,hP,hY,hZ];repeat' (first | exact Ok.out | with_reducible refine aB ?_ ?_ | (simp;done))))
 refine a8.jB 4 16 rfl ?_
 simp only [go_sem,hF,hP,hY,hZ]
 refine cd 0 1 (a8.ind (ι:=List Sm×Nat×List It×Nat) (fun i=>l.drop i.2.1=i.1∧dt deep bo aP i.2.2.1 i.1=R∧i.2.2.1.length≤201∧i.2.2.2=i.2.2.1.length) (fun i=>i.1.length)
  (fun i=> [(0, .slice .shared 13 (l.map bd)),(1, .int .i64 deep),(2, .int .i64 bo),(3, .bool aP),(4, .slice (.tok 0) 16 (i.2.2.1.map ej)),(11, .int .i64 (i.2.1:Int))]) (fun i=>⟨[],[some i.2.2.2]⟩) ?_ (l,0,[],0) ⟨rfl,hR,ho,rfl⟩)
 rintro⟨rest,k,out,n⟩ ⟨h1,h2,h3,h4⟩ IH
 dsimp only at h1 h2 h3 h4
 subst h4
 have hlen:l.length<4611686018427387904:=by have:=Sm.cZ l;omega
 cases rest with
 | nil=>
  have hF:=drop_nil h1
  simp only [dt]at h2
  subst h2
  repeat' (first
 | simp only [go_sem,hF,hP,hY,hZ]
 | (with_reducible refine aC hQ ?_;simp only [au,aw,Option.some.injEq,exists_eq_left',go_sem,hF,hP,hY,hZ];repeat' (first | exact Ok.out | with_reducible refine aB ?_ ?_ | (simp;done))))
 | cons v rest=>
  obtain⟨hP,g2,hF,g4⟩:=drop_cons h1
  have bl:k<4611686018427387904:=by omega
  have hv:=Sm.bV (List.mem_of_getElem? hP)
  have oQ:Sm.aS v.aZ<N∧Sm.aS v.aP<N:=by
   obtain⟨_,_,_,_,_,_,_,_,_,_⟩:=v
   simp only [Sm.size]at hv ⊢;omega
  simp only [dt]at h2
  by_cases hc:out.length≤200
  ·have c1:decide ((out.length:Int)≤200)=true:=by simp;omega
   simp only [c1, ↓reduceIte,I0]at h2
   have hY:(out.length+1)*233≤bc:=by unfold bc;omega
   have nR:(out++ [(⟨v,deep,bo,aP⟩:It)]).length≤201:=by simp;omega
   have hw:IntKind.wrap .i64 (deep+1)=deep+1:=dc (by omega) (by omega)
   by_cases ao2:deep≤12
   ·have c2:decide (deep≤12)=true:=by simp;omega
    simp only [c2, ↓reduceIte]at h2
    have f1:=fun {s:St} {t:Nat} (ht:s.aH[t]? = some (some (out++ [(⟨v,deep,bo,aP⟩:It)]).length))=>ih v.aZ (deep+1) v.id false _ oQ.1 (by omega) (by omega) nR ht
    have f2:=fun {s:St} {t:Nat} (ht:s.aH[t]? = some (some (dt (deep+1) v.id false (out++ [(⟨v,deep,bo,aP⟩:It)]) v.aZ).length))=>ih v.aP (deep+1) v.id true _ oQ.2 (by omega) (by omega) (kT _ _ _ _ nR _) ht
    simp only [List.map_append,List.map_cons,List.map_nil,E4,List.length_append,List.length_cons,List.length_nil]at f1
    repeat' (first
 | simp only [go_sem,hF,hP,hY,hZ,c1,c2,hw,dm]
 | (with_reducible refine CU (f1 (by with_unfolding_all rfl)) ?_)
 | (with_reducible refine CU (f2 (by with_unfolding_all rfl)) ?_)
 | (with_reducible refine aC hQ ?_;simp only [au,aw,Option.some.injEq,exists_eq_left',go_sem,hF,hP,hY,hZ];repeat' (first | exact Ok.out | with_reducible refine aB ?_ ?_ | (simp;done))))
    refine ct 0 1 ?_ ?_ (IH (rest,k+1,_,_) ⟨g2,h2,kT _ _ _ _ (kT _ _ _ _ nR _) _,rfl⟩ (Nat.lt_succ_self _))
    ·(simp only [go_sem,hF,hP,hY,hZ,az bl];try exact aU)
    ·(simp only [go_sem,hF,hP,hY,hZ,az bl];try exact aU)
   ·have c2:decide (deep≤12)=false:=by simp;omega
    simp only [c2,Bool.false_eq_true, ↓reduceIte]at h2
    repeat' (first
 | simp only [go_sem,hF,hP,hY,hZ,c1,c2,dm]
 | (with_reducible refine aC hQ ?_;simp only [au,aw,Option.some.injEq,exists_eq_left',go_sem,hF,hP,hY,hZ];repeat' (first | exact Ok.out | with_reducible refine aB ?_ ?_ | (simp;done))))
    refine ct 0 1 ?_ ?_ (IH (rest,k+1,out++ [⟨v,deep,bo,aP⟩],out.length+1) ⟨g2,h2,nR,by simp⟩ (Nat.lt_succ_self _))
    ·(simp only [go_sem,hF,hP,hY,hZ,az bl,E4,List.map_append,List.map_cons,List.map_nil];try exact aU)
    ·(simp only [go_sem,hF,hP,hY,hZ,az bl,E4,List.map_append,List.map_cons,List.map_nil];try exact aU)
  ·have c1:decide ((out.length:Int)≤200)=false:=by simp;omega
   simp only [c1,Bool.false_eq_true, ↓reduceIte]at h2
   subst h2
   repeat' (first
 | simp only [go_sem,hF,hP,hY,hZ,c1]
 | (with_reducible refine aC hQ ?_;simp only [au,aw,Option.some.injEq,exists_eq_left',go_sem,hF,hP,hY,hZ];repeat' (first | exact Ok.out | with_reducible refine aB ?_ ?_ | (simp;done))))
theorem x3 {f:Pc} (hs:Sm.aS f.body<4611686018427387000) (s:St):aE Tryz.prog kR [.agg (cb f)] s (.slice .shared 16 (f.flat.map ej)) s:=by
 refine aE.pure ?_ (by simp only [D.bR,D.ok,rM];rfl) (by simp [D.ok,Tag.ok,Bn]) s
 have h:=fun s=>TP hs s
 unfold S0
 refine aE.go GN rfl fun B Q hB hQ=> ?_
 have⟨hF,hP,hY,hZ⟩:=bq
 repeat' (first
 | simp only [go_sem,hF,hP,hY,hZ,Pc.flat]
 | (with_reducible refine CU (h _) ?_)
 | (with_reducible first | refine bK fun hc=> ?_ | refine bL fun hc=> ?_ | refine bM (fun hc=> ?_) fun hc=> ?_) <;> (try simp only [hc,bs, ↓reduceIte]at h) <;> try simp only [hc]
 | (with_reducible refine aC hQ ?_;simp only [au,aw,bu,bw,go_sem,hF,hP,hY,hZ,Pc.flat];repeat' (first | exact Ok.out | with_reducible refine aB ?_ ?_ | (simp;done))))
end Go.Abs

/-! RefMay4 -/

namespace Go.Abs
set_option maxRecDepth 8000
open Go.Proofs
theorem Pc.qn (f:Pc):f.flat.length≤201:=kT _ _ _ _ (Nat.zero_le _) _
theorem NQ {p:Pg} (hs:Pc.aS p.procs<4611686018427387000) (s:St):aE Tryz.prog qO [.agg (bH p)] s (.slice .shared 16 (p.all.map ej)) s:=by
 refine aE.pure ?_ (by simp only [D.bR,D.ok,fX];rfl) (by simp [D.ok,Tag.ok,Bn]) s
 have hlen:p.procs.length<4611686018427387904:=by have:=Pc.cZ p.procs;omega
 generalize hR:p.all=R
 unfold Pg.all at hR
 unfold S0
 refine aE.go IJ rfl fun B Q hB hQ=> ?_
 have⟨hF,hP,hY,hZ⟩:=bq
 repeat' (first
 | simp only [go_sem,hF,hP,hY,hZ]
 | (with_reducible refine aC hQ ?_;simp only [au,aw,bu,bw,go_sem,hF,hP,hY,hZ];repeat' (first | exact Ok.out | with_reducible refine aB ?_ ?_ | (simp;done))))
 refine a8.jB 3 16 rfl ?_
 simp only [go_sem,hF,hP,hY,hZ]
 refine cd 1 1 (a8.ind (ι:=List Pc×Nat×List It×Nat) (fun i=>p.procs.drop i.2.1=i.1∧allM i.2.2.1 i.1=R∧i.2.2.1.length≤200∧i.2.2.2=i.2.2.1.length) (fun i=>i.1.length)
  (fun i=> [(1, .ptr 0 0),(3, .slice (.tok 0) 16 (i.2.2.1.map ej)),(7, .slice .shared 5 (p.procs.map cb)),(8, .int .i64 (p.procs.length:Int)),(9, .int .i64 (i.2.1:Int))]) (fun i=>⟨[bH p],[some i.2.2.2]⟩) ?_ (p.procs,0,[],0) ⟨rfl,hR,Nat.zero_le _,rfl⟩)
 rintro⟨rest,k,out,n⟩ ⟨h1,h,h3,h4⟩ IH
 dsimp only at h1 h h3 h4
 subst h4
 cases rest with
 | nil=>
  have hF:=drop_nil h1
  simp only [allM]at h
  subst h
  repeat' (first
 | simp only [go_sem,hF,hP,hY,hZ]
 | (with_reducible refine aC hQ ?_;simp only [au,aw,bu,bw,go_sem,hF,hP,hY,hZ];repeat' (first | exact Ok.out | with_reducible refine aB ?_ ?_ | (simp;done))))
 | cons f rest=>
  obtain⟨hP,g2,hF,g4⟩:=drop_cons h1
  have bl:k<4611686018427387904:=by omega
  have hf:=Pc.bV (List.mem_of_getElem? hP)
  have hb:Sm.aS f.body<4611686018427387000:=by simp only [Pc.size]at hf;omega
  have jK:=fun s=>x3 hb s
  have axg:=f.qn
  have hY:(out.length+f.flat.length)*233≤bc:=by unfold bc;omega
  simp only [allM,List.length_append]at h
  have dh:=fun(o:List (List D))=>Cj (size:=16) (bytes:=232) (t:=0) (rows:=out.map ej) (new:=f.flat.map ej) (g:= .shared) (s:=⟨o,[some out.length]⟩) (by simpa using hY) (by simp)
  repeat' (first
 | simp only [go_sem,hF,hP,hY,hZ,dh]
 | (with_reducible refine CU (jK _) ?_)
 | (with_reducible first | refine bK fun hc=> ?_ | refine bL fun hc=> ?_ | refine bM (fun hc=> ?_) fun hc=> ?_) <;> (try simp only [hc,bs, ↓reduceIte]at h) <;> try simp only [hc]
 | (with_reducible refine aC hQ ?_;(try cases h);simp only [au,aw,bu,bw,go_sem,hF,hP,hY,hZ,dh];repeat' (first | exact Ok.out | with_reducible refine aB ?_ ?_ | (simp;done))))
  refine ct 1 1 ?_ ?_ (IH (rest,k+1,out++f.flat,out.length+f.flat.length) ⟨g2,h,by rename_i hc;simp only [decide_eq_false_iff_not]at hc;simp only [List.length_append];omega,by simp⟩ (Nat.lt_succ_self _))
  ·(simp only [go_sem,hF,hP,hY,hZ,az bl];try exact aU)
  ·(simp only [go_sem,hF,hP,hY,hZ,az bl];try exact aU)
structure Pg.jE (p:Pg):Prop where
 sz:p.size<4611686018427387000
 E5 : ∀ t∈p.globals,t.length<4611686018427387904
 lU : ∀ f∈p.procs,f.name.length<4611686018427387904∧(∀ t∈f.vars,t.length<4611686018427387904)∧(∀ t∈f.fin,t.length<4611686018427387904)∧∀ a∈f.params,a.name.length<4611686018427387904
 items : ∀ i∈p.all,i.s.jE
theorem I1 : ∀ (l:List Pc) (out:List It),out.length≤200→(allM out l).length≤401
 | [],out,h=>by simp only [allM];omega
 | f::l,out,h=>by
  have:=f.qn
  simp only [allM]
  split
  ·simp;omega
  ·rename_i hc
   exact I1 l _ (by simp only [decide_eq_true_eq]at hc;omega)
theorem ad7 {p:Pg} (hf:p.jE) (s:St):aE Tryz.prog yu [.agg (bH p)] s (.bool p.may) s:=by
 refine aE.pure ?_ (by simp only [D.bR,D.ok,fX];rfl) rfl s
 obtain⟨e9,pG,I2,aav⟩:=hf
 have nq:Pc.aS p.procs<4611686018427387000:=by simp only [Pg.size]at e9;omega
 have NR:p.globals.length<4611686018427387904:=by simp only [Pg.size]at e9;omega
 have ad8:p.procs.length<4611686018427387904:=by have:=Pc.cZ p.procs;omega
 have hg:=fun s=>yH NR pG s
 have sO:=fun s=>NQ nq s
 have pF:p.all.length≤401:=I1 _ _ (Nat.zero_le _)
 unfold S0
 generalize h:p.may=R
 unfold Pg.may at h
 refine aE.go IM rfl fun B Q hB hQ=> ?_
 have⟨hF,hP,hY,hZ⟩:=bq
 repeat' (first
 | simp only [go_sem,hF,hP,hY,hZ]
 | (with_reducible refine CU (hg _) ?_)
 | (with_reducible first | refine bK fun hc=> ?_ | refine bL fun hc=> ?_ | refine bM (fun hc=> ?_) fun hc=> ?_) <;> (try simp only [hc,bs, ↓reduceIte]at h) <;> try simp only [hc]
 | (with_reducible refine aC hQ ?_;(try cases h);simp only [au,aw,bu,bw,go_sem,hF,hP,hY,hZ];repeat' (first | exact Ok.out | with_reducible refine aB ?_ ?_ | (simp;done))))
 refine cd 1 0 (a8.ind (ι:=List Pc×Nat) (fun i=>p.procs.drop i.2=i.1∧(if !(Pc.lU i.1)then false else if decide ((p.all.length:Int) > 200)then false else It.dZ 0 p.all)=R) (fun i=>i.1.length)
  (fun i=> [(1, .ptr 0 0),(26, .slice .shared 5 (p.procs.map cb)),(27, .int .i64 (p.procs.length:Int)),(28, .int .i64 (i.2:Int))]) (fun i=>⟨[bH p],[]⟩) ?_ (p.procs,0) ⟨rfl,h⟩)
 rintro⟨rest,k⟩ ⟨h1,h⟩ IH
 dsimp only at h1 h
 cases rest with
 | nil=>
  have hF:=drop_nil h1
  simp only [Pc.lU,Bool.not_true,Bool.false_eq_true, ↓reduceIte]at h
  repeat' (first
 | simp only [go_sem,hF,hP,hY,hZ]
 | (with_reducible refine CU (sO _) ?_)
 | (with_reducible first | refine bK fun hc=> ?_ | refine bL fun hc=> ?_ | refine bM (fun hc=> ?_) fun hc=> ?_) <;> (try simp only [hc,bs, ↓reduceIte]at h) <;> try simp only [hc]
 | (with_reducible refine aC hQ ?_;exact nX)
 | (cases h;done))
  clear IH
  refine cd 1 0 (a8.ind (ι:=List It×Nat) (fun i=>p.all.drop i.2=i.1∧It.dZ i.2 i.1=R) (fun i=>i.1.length)
   (fun i=> [(1, .ptr 0 0),(7, .slice .shared 16 (p.all.map ej)),(79, .int .i64 (p.all.length:Int)),(80, .int .i64 (i.2:Int))]) (fun i=>⟨[bH p],[]⟩) ?_ (p.all,0) ⟨rfl,h⟩)
  rintro⟨rest,k⟩ ⟨h1,h⟩ IH
  dsimp only at h1 h
  cases rest with
  | nil=>
   have hF:=drop_nil h1
   simp only [It.dZ]at h
   repeat' (first
 | simp only [go_sem,hF,hP,hY,hZ]
 | (with_reducible first | refine bK fun hc=> ?_ | refine bL fun hc=> ?_ | refine bM (fun hc=> ?_) fun hc=> ?_) <;> (try simp only [hc,bs, ↓reduceIte]at h) <;> try simp only [hc]
 | (with_reducible refine aC hQ ?_;exact nX)
 | (cases h;done))
  | cons i rest=>
   obtain⟨hP,g2,hF,g4⟩:=drop_cons h1
   have hi:=fun s=>Dw (aav i (List.mem_of_getElem? hP)) s
   have hY:k<4611686018427387904:=by omega
   simp only [It.dZ]at h
   repeat' (first
 | simp only [go_sem,hF,hP,hY,hZ,az hY]
 | (with_reducible refine CU (hi _) ?_)
 | (with_reducible first | refine bK fun hc=> ?_ | refine bL fun hc=> ?_ | refine bM (fun hc=> ?_) fun hc=> ?_) <;> (try simp only [hc,bs, ↓reduceIte]at h) <;> try simp only [hc]
 | (with_reducible refine aC hQ ?_;(try cases h);simp only [au,aw,bu,bw,go_sem,hF,hP,hY,hZ,az hY];try exact Ai)
 | (cases h;done))
   refine ct 1 0 ?_ ?_ (IH (rest,k+1) ⟨g2,h⟩ (Nat.lt_succ_self _))
   ·(simp only [go_sem,hF,hP,hY,hZ,az hY];try exact aU)
   ·(simp only [go_sem,hF,hP,hY,hZ,az hY];try exact aU)
 | cons f rest=>
  obtain⟨hP,g2,hF,g4⟩:=drop_cons h1
  have bl:k<4611686018427387904:=by omega
  have mZ:=Pc.bV (List.mem_of_getElem? hP)
  simp only [Pc.size]at mZ
  obtain⟨we,hfv,hff,hfp⟩:=I2 f (List.mem_of_getElem? hP)
  have hn:=rU f.name we
  have hv:=fun s=>yH (by omega) hfv s
  have he:=fun s=>yH (by omega) hff s
  simp only [Pc.lU]at h
  repeat' (first
 | simp only [go_sem,hF,hP,hY,hZ]
 | (with_reducible refine CU (hn _) ?_)
 | (with_reducible refine CU (hv _) ?_)
 | (with_reducible refine CU (he _) ?_)
 | (with_reducible first | refine bK fun hc=> ?_ | refine bL fun hc=> ?_ | refine bM (fun hc=> ?_) fun hc=> ?_) <;> (try simp only [hc,bs, ↓reduceIte]at h) <;> try simp only [hc]
 | (with_reducible refine aC hQ ?_;exact nX)
 | (cases h;done))
  refine cd 1 0 (a8.ind (ι:=List Pm×Nat) (fun i=>f.params.drop i.2=i.1∧(if !(if !(Pm.dZ i.1)then false else Pc.lU rest)then false else if decide ((p.all.length:Int) > 200)then false else It.dZ 0 p.all)=R) (fun i=>i.1.length)
   (fun i=> [(1, .ptr 0 0),(26, .slice .shared 5 (p.procs.map cb)),(27, .int .i64 (p.procs.length:Int)),(28, .int .i64 (k:Int)),(61, .slice .shared 2 (f.params.map fQ)),(62, .int .i64 (f.params.length:Int)),(63, .int .i64 (i.2:Int))]) (fun i=>⟨[bH p],[]⟩) ?_ (f.params,0) ⟨rfl,h⟩)
  rintro⟨yL,j⟩ ⟨j1,h⟩ p7
  dsimp only at j1 h
  cases yL with
  | nil=>
   have hF:=drop_nil j1
   simp only [Pm.dZ,Bool.not_true,Bool.false_eq_true, ↓reduceIte]at h
   repeat' (first
 | simp only [go_sem,hF,hP,hY,hZ]
 | (with_reducible first | refine bK fun hc=> ?_ | refine bL fun hc=> ?_ | refine bM (fun hc=> ?_) fun hc=> ?_) <;> (try simp only [hc,bs, ↓reduceIte]at h) <;> try simp only [hc]
 | (with_reducible refine aC hQ ?_;exact nX)
 | (cases h;done))
   refine ct 1 0 ?_ ?_ (IH (rest,k+1) ⟨g2,h⟩ (Nat.lt_succ_self _))
   ·(simp only [go_sem,hF,hP,hY,hZ,az bl];try exact aU)
   ·(simp only [go_sem,hF,hP,hY,hZ,az bl];try exact aU)
  | cons a yL=>
   obtain⟨hP,b2,hF,b4⟩:=drop_cons j1
   have FR:j<4611686018427387904:=by omega
   have ha:=rU a.name (hfp a (List.mem_of_getElem? hP))
   simp only [Pm.dZ]at h
   repeat' (first
 | simp only [go_sem,hF,hP,hY,hZ]
 | (with_reducible refine CU (ha _) ?_)
 | (with_reducible first | refine bK fun hc=> ?_ | refine bL fun hc=> ?_ | refine bM (fun hc=> ?_) fun hc=> ?_) <;> (try simp only [hc,bs, ↓reduceIte]at h) <;> try simp only [hc]
 | (with_reducible refine aC hQ ?_;exact nX)
 | (cases h;done))
   refine ct 1 0 ?_ ?_ (p7 (yL,j+1) ⟨b2,h⟩ (Nat.lt_succ_self _))
   ·(simp only [go_sem,hF,hP,hY,hZ,az FR];try exact aU)
   ·(simp only [go_sem,hF,hP,hY,hZ,az FR];try exact aU)
end Go.Abs
