/-
  What is proved here: part 2 of the road to the claim (Codes2, Have2, Codes3, Codes4, Have4, Codes5, Have5, Codes6, Have6, Have3, Frz, MirLex, MirMay, Prs, Lex1, Lex2, RefLex1, Prs2, Ref1, Ref2, Ref3, RefMay1, RefMay2, Flat1, Flat2, Flat3, Sl1, MirFlat2, Sl2).
  No conditions.
-/
import Derived.Test.YtpjadlleefgcpabGreatRnM1
import Derived.Test.YtpjadlleefgcpabGreatProg
import Derived.KernelRfl

set_option linter.unusedSimpArgs false
set_option linter.unusedVariables false
namespace Go.Abs
abbrev QKG:AC:= .seq (.run [.m 3 aJ,(.o 4 (.build [(.int .i64 0),(.int .i64 0),(.str []),(.slice .full 0 [])] [(0,(1,(.k (.int .i64 1)))),(1,(1,bO))])), .op none none (.store cZ dz 4)]) .ret
abbrev QKH:AC:= .seq (.run [.o 2 (.alloc [(.int .i64 0),(.int .i64 0),(.str []),(.slice .full 0 [])])]) QKG
abbrev QKK:AC:= .seq (.run [.m 3 aJ,(.o 4 (.build [(.int .i64 0),(.int .i64 0),(.str []),(.slice .full 0 [])] [(0,(1,(.k (.int .i64 2)))),(2,(1,bO))])), .op none none (.store cZ dz 4)]) .ret
abbrev QKL:AC:= .seq (.run [.o 2 (.alloc [(.int .i64 0),(.int .i64 0),(.str []),(.slice .full 0 [])])]) QKK
abbrev QKP:AC:= .seq (.run [.o 4 (.box a7), .o 5 (.box cZ), .o 6 (.alloc [(.int .i64 0),(.int .i64 0),(.str []),(.slice .full 0 [])])]) (.seq (.run [.m 7 aJ, .o 8 (.load dz true 4), .o 9 (.load bk true 4), .o 10 (.cG [(.int .i64 0),(.int .i64 0),(.str []),(.slice .full 0 [])] 4 2 [(0,bU),(1,cu)]), .o 11 (.build [(.int .i64 0),(.int .i64 0),(.str []),(.slice .full 0 [])] [(0,(1,bW)),(3,(1,bD))]), .op none none (.store bX bV 4)]) .ret)
abbrev QKT:AC:= .seq (.run [(.o 16 (.build [(.int .i64 0),(.int .i64 0)] [(0,(1,(.k (.int .i64 1))))])), .op none none (.store cZ cp 2)]) .ret
abbrev QL5:AC:= .seq (.block 1 (.seq (.run [.o 22 (.cq cQ dt 5), .o 23 (.load dI true 5), .o 5 (.alloc [(.str []),(.slice .full 0 []),(.slice .full 0 []),(.slice .full 0 []),(.slice .full 0 [])]), .op none none (.store bk dJ 5)]) (.run [.m 24 bO, .o 25 (.aj bk 0), .o 26 (.load di false 1), .o 27 (.cG [(.str [])] 1 1 [(0,dX)]), .o 28 (.app 1 16 de dY), .m 3 eN]))) (.run [.o 29 (.bin .add dt (.k (.int .i64 1))), .m 20 eK])
abbrev QL9:AC:= .block 0 (.loop (.seq (.run [.o 21 (.bin .lss dt dh)]) (.seq (.cond dB .skip (.exit 0)) QL5)))
abbrev QLE:AC:= .seq (.run [(.o 53 (.build [(.int .i64 0),(.int .i64 0)] [(0,(1,(.k (.int .i64 5))))])), .op none none (.store cZ jt 2)]) .ret
abbrev QLP:AC:= .seq (.run [(.o 73 (.build [(.int .i64 0),(.int .i64 0)] [(0,(1,(.k (.int .i64 5))))])), .op none none (.store cZ vN 2)]) .ret
abbrev QLY:AC:= .seq (.run [.o 89 (.aj bZ 0), .o 90 (.aj zD 0), .o 91 (.load BG false 1),(.o 92 (.build [(.int .i64 0),(.int .i64 0)] [(0,(1,(.k (.int .i64 5)))),(1,(1,D3))])), .op none none (.store cZ Gf 2)]) .ret
abbrev QM4:AC:= .seq (.block 5 (.seq (.run [.o 80 (.cq vO vP 17), .o 81 (.load BE true 17), .o 12 (.alloc [(.int .i64 0),(.int .i64 0),(.slice .full 0 []),(.str []),(.str []),(.int .i64 0),(.int .i64 0),(.str []),(.slice .full 0 []),(.bool false),(.slice .full 0 []),(.slice .full 0 []),(.slice .full 0 []),(.int .i64 0),(.int .i64 0),(.int .i64 0),(.int .i64 0)]), .op none none (.store bZ BF 17)]) (.seq (.run [.o 82 (.load a7 true 2), .o 83 (.load cu true 5), .m 84 bO, .o 85 (.aj bZ 0), .o 86 (.load DZ true 13), .c 87 qB [DW,DX,DY,D0], .o 88 (.un .not D1)]) (.cond D2 QLY .skip)))) (.run [.o 93 (.bin .add vP (.k (.int .i64 1))), .m 78 KB])
abbrev QM8:AC:= .block 4 (.loop (.seq (.run [.o 79 (.bin .lss vP xI)]) (.seq (.cond BD .skip (.exit 4)) QM4)))
abbrev QMA:AC:= .seq (.seq (.run [.m 66 bD, .c 67 oe [sD], .m 68 sE, .g 69 68 false (.mv bD), .g 70 68 false (.uR 118 [a7]), .d 71 68 false fZ [ur,sF], .o 72 (.pick rS (.k (.bool true)) xF)]) (.cond vM QLP .skip)) (.seq (.run [.m 74 bW, .m 75 bU, .c 76 gP [xG,xH], .o 77 (.len vO), .o 78 (.mv (.k (.int .i64 0)))]) QM8)
abbrev QMF:AC:= .seq (.block 3 (.seq (.run [.m 61 kO, .o 62 (.cq mA kO 5), .o 63 (.load oE true 5), .o 9 (.alloc [(.str []),(.slice .full 0 []),(.slice .full 0 []),(.slice .full 0 []),(.slice .full 0 [])]), .m 8 oD, .op none none (.store cu oG 5)]) (.seq (.run [.o 64 (.load cu true 5), .c 65 s6 [p8], .m 10 rR]) QMA))) (.run [.o 94 (.bin .add kO (.k (.int .i64 1))), .m 59 KD])
abbrev QMJ:AC:= .block 2 (.loop (.seq (.run [.o 60 (.bin .lss kO lN)]) (.seq (.cond nW .skip (.exit 2)) QMF)))
abbrev QMN:AC:= .seq (.seq (.run [.o 56 (.aj a7 1), .o 57 (.load lE false 1), .o 58 (.len mA), .o 59 (.mv (.k (.int .i64 0)))]) QMJ) (.seq (.run [.o 95 (.build [(.int .i64 0),(.int .i64 0)] []), .op none none (.store cZ KE 2)]) .ret)
abbrev QMP:AC:= .seq (.seq (.run [.o 32 (.aj a7 0), .o 33 (.load fa false 1), .c 34 oe [eZ], .m 35 fj, .g 36 35 false (.mv bO), .d 37 35 false oe [fk], .o 38 (.pick fb (.k (.bool true)) fF), .m 39 fQ, .g 40 39 false (.mv bX), .g 41 39 false (.bin .lss gv (.k (.int .i64 0))), .o 42 (.pick fR (.k (.bool true)) gf), .m 43 ig, .g 44 43 false (.aj a7 1), .g 45 43 false (.load iN false 1), .g 46 43 false (.mv bX), .g 47 43 false (.cq jn jo 5), .g 48 43 false (.aj jU 1), .g 49 43 false (.load iF false 1), .g 50 43 false (.len ja), .g 51 43 false (.bin .gtr jV (.k (.int .i64 0))), .o 52 (.pick ij (.k (.bool true)) jq)]) (.cond jr QLE .skip)) (.seq (.run [.o 54 (.load a7 true 2), .c 55 kY [jW], .m 7 jX]) QMN)
abbrev QMR:AC:= .seq (.seq (.run [.o 17 (.aj a7 1), .o 18 (.load cW false 1), .o 19 (.len cQ), .o 20 (.mv (.k (.int .i64 0)))]) QL9) (.seq (.run [.m 30 bO,(.c 31 fY [eV,(.k (.str [109,97,105,110]))]), .m 6 eW]) QMP)
abbrev QMT:AC:= .seq (.seq (.run [.o 13 (.load a7 true 2), .c 14 rI [bS], .o 15 (.un .not bK)]) (.cond cy QKT .skip)) (.seq (.run [.o 3 (.mv (.k (.slice .full 0 [])))]) QMR)
abbrev QMU:AC:= .seq (.run [.o 1 (.box aJ), .o 2 (.alloc [(.int .i64 0),(.int .i64 0)])]) QMT
abbrev QMY:AC:= .seq (.run [(.o 9 (.build [(.int .i64 0),(.int .i64 0)] [(0,(1,(.k (.int .i64 1))))])), .op none none (.store cZ cu 2)]) .ret
abbrev QN7:AC:= .seq (.run [.o 31 (.aj dz 0), .o 32 (.aj eW 0), .o 33 (.load fa false 1),(.o 34 (.build [(.int .i64 0),(.int .i64 0)] [(0,(1,(.k (.int .i64 6)))),(1,(1,eZ))])), .op none none (.store cZ fj 2)]) .ret
abbrev QNA:AC:= .seq (.run [.o 18 (.cq bK cp 17), .o 19 (.load cQ true 17), .o 4 (.alloc [(.int .i64 0),(.int .i64 0),(.slice .full 0 []),(.str []),(.str []),(.int .i64 0),(.int .i64 0),(.str []),(.slice .full 0 []),(.bool false),(.slice .full 0 []),(.slice .full 0 []),(.slice .full 0 []),(.int .i64 0),(.int .i64 0),(.int .i64 0),(.int .i64 0)]), .op none none (.store dz dh 17)]) (.seq (.run [.o 20 (.aj dz 0), .o 21 (.aj dt 1), .o 22 (.load dB false 1), .o 23 (.bin .eql dI (.k (.int .i64 4))), .m 24 dJ, .g 25 24 true (.load a7 true 2), .g 26 24 true (.aj dz 0), .g 27 24 true (.load dX true 13), .d 28 24 true vE [di,dY], .g 29 24 true (.un .not eN), .o 30 (.pick de eK (.k (.bool false)))]) (.cond eV QN7 .skip))
abbrev QNE:AC:= .seq (.cond cW .skip (.exit 0)) (.seq (.block 1 QNA) (.run [.o 35 (.bin .add cp (.k (.int .i64 1))), .m 16 fb]))
abbrev QNI:AC:= .seq (.run [.o 10 (.load a7 true 2), .c 11 kY [bD], .o 12 (.bq bV), .o 13 (.aj bZ 2), .o 14 (.load bS false 1), .o 15 (.len bK), .o 16 (.mv (.k (.int .i64 0)))]) (.block 0 (.loop (.seq (.run [.o 17 (.bin .lss cp cy)]) QNE)))
abbrev QNM:AC:= .seq (.seq (.run [.o 5 (.load a7 true 2), .c 6 lR [bk], .o 7 (.uC bX 0 false 1), .o 8 (.bin .neq bW (.k (.int .i64 0)))]) (.cond bU QMY .skip)) (.seq QNI (.seq (.run [.o 36 (.build [(.int .i64 0),(.int .i64 0)] []), .op none none (.store cZ fk 2)]) .ret))
abbrev QNN:AC:= .seq (.run [.o 1 (.box aJ), .o 2 (.alloc [(.int .i64 0),(.int .i64 0)])]) QNM
abbrev QNS:AC:= .seq (.run [(.o 14 (.build [(.int .i64 0),(.int .i64 0)] [(0,(1,(.k (.int .i64 1))))])), .op none none (.store cZ bK 2)]) .ret
abbrev QO8:AC:= .seq (.run [.o 47 (.aj cu 0), .o 48 (.aj jU 0), .o 49 (.load iF false 1),(.o 50 (.build [(.int .i64 0),(.int .i64 0)] [(0,(1,(.k (.int .i64 7)))),(1,(1,ja))])), .op none none (.store cZ jV 2)]) .ret
abbrev QOB:AC:= .seq (.run [.m 32 bX, .o 33 (.aj cu 0), .o 34 (.aj eZ 2), .o 35 (.load fj false 1), .c 36 qj [fa,fb], .m 31 fk, .o 37 (.ext eW 0), .o 38 (.ext eW 1), .m 6 fF, .m 7 fQ]) (.seq (.run [.m 39 bW, .o 40 (.un .not fR), .m 41 gv, .g 42 41 false (.mv bO), .g 43 41 false (.load cu true 17), .d 44 41 false vF [ig,ij], .g 45 41 false (.un .not iN), .o 46 (.pick gf (.k (.bool true)) jn)]) (.cond jo QO8 .skip))
abbrev QOF:AC:= .seq (.block 3 (.seq (.run [.o 29 (.cq di dY 17), .o 30 (.load eK true 17), .o 9 (.alloc [(.int .i64 0),(.int .i64 0),(.slice .full 0 []),(.str []),(.str []),(.int .i64 0),(.int .i64 0),(.str []),(.slice .full 0 []),(.bool false),(.slice .full 0 []),(.slice .full 0 []),(.slice .full 0 []),(.int .i64 0),(.int .i64 0),(.int .i64 0),(.int .i64 0)]), .op none none (.store cu eV 17)]) QOB)) (.run [.o 51 (.bin .add dY (.k (.int .i64 1))), .m 27 jq])
abbrev QOJ:AC:= .block 2 (.loop (.seq (.run [.o 28 (.bin .lss dY dX)]) (.seq (.cond eN .skip (.exit 2)) QOF)))
abbrev QOO:AC:= .seq (.run [(.o 61 (.build [(.int .i64 0),(.int .i64 0)] [(0,(1,(.k (.int .i64 7))))])), .op none none (.store cZ oD 2)]) .ret
abbrev QOS:AC:= .seq (.seq (.run [.m 23 bO, .m 24 dz, .c 25 gP [dJ,de], .o 26 (.len di), .o 27 (.mv (.k (.int .i64 0)))]) QOJ) (.seq (.run [.m 53 bX, .o 54 (.aj bk 4), .o 55 (.load jW false 1), .c 56 qj [jt,jX], .m 52 lE, .o 57 (.ext jr 0), .o 58 (.ext jr 1), .m 7 lN]) (.seq (.run [.m 59 bW, .o 60 (.un .not kO)]) (.cond nW QOO .skip)))
abbrev QOU:AC:= .seq (.run [.o 6 (.mv (.k (.slice .full 0 [])))]) (.seq (.run [.o 7 (.mv (.k (.bool true)))]) QOS)
abbrev QOY:AC:= .seq (.block 1 (.seq (.run [.m 20 cQ, .o 21 (.cq cp cQ 5), .o 22 (.load dB true 5), .o 5 (.alloc [(.str []),(.slice .full 0 []),(.slice .full 0 []),(.slice .full 0 []),(.slice .full 0 [])]), .m 4 dt, .op none none (.store bk dI 5)]) QOU)) (.run [.o 62 (.bin .add cQ (.k (.int .i64 1))), .m 18 oE])
abbrev QP2:AC:= .block 0 (.loop (.seq (.run [.o 19 (.bin .lss cQ cW)]) (.seq (.cond dh .skip (.exit 0)) QOY)))
abbrev QP6:AC:= .seq (.seq (.run [.o 15 (.aj a7 1), .o 16 (.load cy false 1), .o 17 (.len cp), .o 18 (.mv (.k (.int .i64 0)))]) QP2) (.seq (.run [.o 63 (.build [(.int .i64 0),(.int .i64 0)] []), .op none none (.store cZ oG 2)]) .ret)
abbrev QP8:AC:= .seq (.run [.o 10 (.load a7 true 2), .c 11 rL [bD], .m 3 bV]) (.seq (.seq (.run [.m 12 bO, .o 13 (.G3 false bZ (.k .ek))]) (.cond bS QNS .skip)) QP6)
abbrev QP9:AC:= .seq (.run [.o 1 (.box aJ), .o 2 (.alloc [(.int .i64 0),(.int .i64 0)])]) QP8
abbrev QPD:AC:= .seq (.run [(.o 12 (.build [(.int .i64 0),(.int .i64 0)] [(0,(1,(.k (.int .i64 1))))])), .op none none (.store cZ bZ 2)]) .ret
abbrev QPL:AC:= .par [.m 21 bO, .o 22 (.aj bk 0), .o 23 (.load dI false 1), .o 24 (.load a7 true 2), .o 25 (.aj bk 0), .o 26 (.load di false 1), .c 27 rM [de,dX], .op none none (.zc dB dJ dY)] [(3,0),(4,0),(5,0),(6,0),(0,0),(1,0),(2,1),(7,0)]
abbrev QPP:AC:= .seq (.block 1 (.seq (.run [.o 19 (.cq cy cW 5), .o 20 (.load dh true 5), .o 5 (.alloc [(.str []),(.slice .full 0 []),(.slice .full 0 []),(.slice .full 0 []),(.slice .full 0 [])]), .op none none (.store bk dt 5)]) QPL)) (.run [.o 28 (.bin .add cW (.k (.int .i64 1))), .m 17 eN])
abbrev QPT:AC:= .block 0 (.loop (.seq (.run [.o 18 (.bin .lss cW cp)]) (.seq (.cond cQ .skip (.exit 0)) QPP)))
abbrev QQ1:AC:= .seq (.run [.o 54 (.aj bW 0), .o 55 (.aj jW 0), .o 56 (.load jX false 1),(.o 57 (.build [(.int .i64 0),(.int .i64 0)] [(0,(1,(.k (.int .i64 8)))),(1,(1,lE))])), .op none none (.store cZ mA 2)]) .ret
abbrev QQ4:AC:= .seq (.run [.o 37 (.cq eZ fb 17), .o 38 (.load fF true 17), .o 7 (.alloc [(.int .i64 0),(.int .i64 0),(.slice .full 0 []),(.str []),(.str []),(.int .i64 0),(.int .i64 0),(.str []),(.slice .full 0 []),(.bool false),(.slice .full 0 []),(.slice .full 0 []),(.slice .full 0 []),(.int .i64 0),(.int .i64 0),(.int .i64 0),(.int .i64 0)]), .op none none (.store bW fQ 17)]) (.seq (.run [.o 39 (.aj bW 0), .o 40 (.aj fR 1), .o 41 (.load gv false 1), .o 42 (.bin .eql gf (.k (.int .i64 4))), .m 43 ig, .g 44 43 true (.aj bW 0), .g 45 43 true (.load iN true 13), .g 46 43 true (.mv bO), .g 47 43 true (.aj bW 0), .g 48 43 true (.aj jU 4), .g 49 43 true (.load iF false 1), .g 50 43 true (.wy jo ja (.slice .full 0 [])), .d 51 43 true sA [jn,jV], .g 52 43 true (.un .not jq), .o 53 (.pick ij jr (.k (.bool false)))]) (.cond jt QQ1 .skip))
abbrev QQ8:AC:= .seq (.cond fk .skip (.exit 2)) (.seq (.block 3 QQ4) (.run [.o 58 (.bin .add fb (.k (.int .i64 1))), .m 35 lN]))
abbrev QQC:AC:= .seq (.run [.o 29 (.load a7 true 2), .c 30 kY [eK], .o 31 (.bq eV), .o 32 (.aj eW 2), .o 33 (.load fa false 1), .o 34 (.len eZ), .o 35 (.mv (.k (.int .i64 0)))]) (.block 2 (.loop (.seq (.run [.o 36 (.bin .lss fb fj)]) QQ8)))
abbrev QQG:AC:= .seq (.seq (.run [.o 14 (.aj a7 1), .o 15 (.load bK false 1), .o 16 (.len cy), .o 17 (.mv (.k (.int .i64 0)))]) QPT) (.seq QQC (.seq (.run [.o 59 (.build [(.int .i64 0),(.int .i64 0)] []), .op none none (.store cZ kO 2)]) .ret))
abbrev QQI:AC:= .seq (.seq (.run [.o 8 (.load a7 true 2), .c 9 qA [bU], .o 10 (.uC cu 0 false 1), .o 11 (.bin .neq bD (.k (.int .i64 0)))]) (.cond bV QPD .skip)) (.seq (.run [.op (some 13) none .uS, .m 3 bS]) QQG)
abbrev QQJ:AC:= .seq (.run [.o 1 (.box aJ), .o 2 (.alloc [(.int .i64 0),(.int .i64 0)])]) QQI
abbrev QQS:AC:= .cond bS (.seq (.run [.o 2 (.mv (.k (.bool false)))]) .ret) .skip
abbrev QQX:AC:= .seq (.block 1 (.seq (.run [.o 9 (.cq bk bW 1), .o 10 (.load cu false 1), .m 4 bD]) (.seq (.run [.m 11 dz, .c 12 nT [bV], .o 13 (.un .not bZ)]) QQS))) (.run [.o 14 (.bin .add bW (.k (.int .i64 1))), .m 7 bK])
abbrev QR1:AC:= .block 0 (.loop (.seq (.run [.o 8 (.bin .lss bW bX)]) (.seq (.cond bU .skip (.exit 0)) QQX)))
abbrev QR5:AC:= .seq (.seq (.run [.m 5 aJ, .o 6 (.len bk), .o 7 (.mv (.k (.int .i64 0)))]) QR1) (.seq (.run [.o 2 (.mv (.k (.bool true)))]) .ret)
abbrev QR6:AC:= .seq (.run [.o 2 (.mv (.k (.bool false)))]) QR5
abbrev QRB:AC:= .cond cp (.seq (.run [.o 2 (.mv (.k (.bool false)))]) .ret) .skip
abbrev QRF:AC:= .seq (.seq (.run [.m 3 aJ, .o 4 (.nK bO), .o 5 (.bin .lss dz (.k (.int .i64 1))), .m 6 bk, .g 7 6 false (.mv aJ), .g 8 6 false (.nK bW), .g 9 6 false (.bin .gtr bU (.k (.int .i64 8))), .o 10 (.pick bX (.k (.bool true)) cu), .m 11 bD, .g 12 11 false (.mv aJ), .g 13 11 false (.oU bZ (.k (.int .i64 0))), .d 14 11 false pg [bS], .g 15 11 false (.un .not bK), .o 16 (.pick bV (.k (.bool true)) cy)]) QRB) (.seq (.run [.m 17 aJ, .c 18 wO [cW,(.k (.int .i64 0))], .m 19 aJ, .o 20 (.nK dh), .o 21 (.bin .eql cQ dt), .m 22 dB, .g 23 22 true (.mv aJ), .d 24 22 true uY [dJ], .g 25 22 true (.un .not de), .o 26 (.pick dI di (.k (.bool false))), .m 2 dX]) .ret)
abbrev QRG:AC:= .seq (.run [.o 2 (.mv (.k (.bool false)))]) QRF
abbrev QRL:AC:= .cond cy (.seq (.run [.o 6 (.mv (.k (.bool false)))]) .ret) .skip
abbrev QRS:AC:= .par [.m 29 aJ, .o 30 (.bq eK), .o 31 (.aj eV 0), .o 32 (.load eW false 1), .o 33 (.bin .gtr fa (.k (.int .i64 200))), .m 34 eZ, .g 35 34 false (.aj bU 0), .g 36 34 false (.load fb false 1), .g 37 34 false (.mv aJ), .g 38 34 false (.bq fF), .g 39 34 false (.aj fQ 0), .g 40 34 false (.load fR false 1), .g 41 34 false (.bin .neq fk gv), .o 42 (.pick fj (.k (.bool true)) gf), .m 43 ig, .g 44 43 false (.aj bU 2), .g 45 43 false (.load iN false 1), .d 46 43 false ng [jn], .g 47 43 false (.un .not jo), .o 48 (.pick ij (.k (.bool true)) jU), .m 49 iF, .g 50 49 false (.load bU true 13), .d 51 49 false ui [jV], .g 52 49 false (.un .not jq), .o 53 (.pick ja (.k (.bool true)) jr)] [(0,0),(1,0),(2,0),(3,0),(4,0),(5,0),(6,0),(7,0),(8,0),(9,0),(10,0),(11,0),(12,0),(13,0),(14,0),(15,0),(16,0),(17,0),(18,0),(19,0),(20,0),(21,0),(22,0),(23,0),(24,0)]
abbrev QRV:AC:= .cond jt (.seq (.run [.o 6 (.mv (.k (.bool false)))]) .ret) .skip
abbrev QS0:AC:= .cond ur (.seq (.run [.o 6 (.mv (.k (.bool false)))]) .ret) .skip
abbrev QS2:AC:= .seq (.seq QRS QRV) (.seq (.run [.m 54 aJ, .o 55 (.aj bU 11), .o 56 (.load jX false 1), .m 57 cZ, .o 58 (.bin .add mA (.k (.int .i64 1))), .c 59 kD [jW,lE,lN], .o 60 (.un .not kO), .m 61 nW, .g 62 61 false (.mv aJ), .g 63 61 false (.aj bU 12), .g 64 61 false (.load oG false 1), .g 65 61 false (.mv cZ), .g 66 61 false (.bin .add rR (.k (.int .i64 1))), .d 67 61 false kD [oE,p8,sD], .g 68 61 false (.un .not sE), .o 69 (.pick oD (.k (.bool true)) rS)]) QS0)
abbrev QS4:AC:= .seq (.run [.o 20 (.cq cp cQ 13), .o 21 (.load dt true 13), .o 8 (.alloc [(.int .i64 0),(.int .i64 0),(.slice .full 0 []),(.str []),(.str []),(.int .i64 0),(.int .i64 0),(.str []),(.slice .full 0 []),(.bool false),(.slice .full 0 []),(.slice .full 0 []),(.slice .full 0 [])]), .op none none (.store bU dB 13)]) (.seq (.run [.m 22 aJ, .o 23 (.bq dI), .o 24 (.aj dJ 0), .o 25 (.load de false 1), .o 26 (.bin .add di (.k (.int .i64 1))), .o 27 (.bq dI), .o 28 (.aj dY 0), .op none none (.store eN dX 1)]) QS2)
abbrev QS8:AC:= .seq (.cond dh .skip (.exit 0)) (.seq (.block 1 QS4) (.run [.o 70 (.bin .add cQ (.k (.int .i64 1))), .m 18 sF]))
abbrev QSC:AC:= .seq (.run [.m 16 a7, .o 17 (.len cp), .o 18 (.mv (.k (.int .i64 0)))]) (.block 0 (.loop (.seq (.run [.o 19 (.bin .lss cQ cW)]) QS8)))
abbrev QSF:AC:= .seq QSC (.seq (.run [.o 6 (.mv (.k (.bool true)))]) .ret)
abbrev QSG:AC:= .seq (.seq (.run [.m 9 cZ, .o 10 (.bin .gtr cu (.k (.int .i64 12))), .m 11 bD, .g 12 11 true (.mv a7), .g 13 11 true (.len bZ), .g 14 11 true (.bin .gtr bS (.k (.int .i64 0))), .o 15 (.pick bV bK (.k (.bool false)))]) QRL) QSF
abbrev QSH:AC:= .seq (.run [.o 6 (.mv (.k (.bool false)))]) QSG
abbrev QSM:AC:= .cond dz (.seq (.run [.o 2 (.mv (.k (.slice .full 0 [])))]) .ret) .skip
abbrev QSR:AC:= .seq (.run [.o 2 (.mv (.k (.slice .full 0 [])))]) (.seq (.seq (.run [.m 3 aJ, .nil (some 4) none false bO]) QSM) (.seq (.run [.o 5 (.cG [(.str []),(.bool false)] 2 0 []), .m 6 aJ, .o 7 (.app 2 24 bk bX), .m 2 bW]) .ret))
abbrev QT4:AC:= .par [.o 26 (.aj bD 2), .o 27 (.load dX false 1), .c 28 fe [dY], .o 29 (.aj bD 5), .o 30 (.load eK true 4), .c 31 my [eV], .o 32 (.aj bV 2), .op none none (.store fa eN 1), .o 33 (.aj bV 5), .op none none (.store eZ eW 4), .o 34 (.aj bV 10), .op none none (.store fj (.k (.slice .full 0 [])) 1)] [(0,0),(1,0),(2,0),(3,0),(4,1),(5,0),(6,0),(7,0),(8,0),(9,0),(10,0),(11,0)]
abbrev QTD:AC:= .block 3 (.seq (.run [.o 40 (.cq fk fQ 6), .o 41 (.load gv true 6), .o 13 (.alloc [(.bool false),(.str []),(.int .i64 0),(.int .i64 0),(.str []),(.slice .full 0 [])]), .op none none (.store bS gf 6)]) (.seq (.run [.o 42 (.aj bS 2), .o 43 (.load ig true 4), .c 44 my [ij], .o 45 (.aj bS 2), .op none none (.store jn iN 4)]) (.run [.o 46 (.aj bV 10), .o 47 (.load jo false 1), .o 48 (.load bS true 6), .o 49 (.cG [(.bool false),(.str []),(.int .i64 0),(.int .i64 0),(.str []),(.slice .full 0 [])] 6 1 [(0,iF)]), .o 50 (.app 6 80 jU ja), .o 51 (.aj bV 10), .op none none (.store jq jV 1)])))
abbrev QTG:AC:= .seq (.cond fR .skip (.exit 2)) (.seq QTD (.run [.o 52 (.bin .add fQ (.k (.int .i64 1))), .m 38 jr]))
abbrev QTK:AC:= .seq (.run [.o 35 (.aj bD 10), .o 36 (.load fb false 1), .o 37 (.len fk), .o 38 (.mv (.k (.int .i64 0)))]) (.block 2 (.loop (.seq (.run [.o 39 (.bin .lss fQ fF)]) QTG)))
abbrev QTQ:AC:= .seq QTK (.seq (.run [.o 54 (.aj bD 11), .o 55 (.load jW false 1), .m 56 a7, .m 57 cZ, .c 58 kN [jX,lE,mA], .m 53 lN, .o 59 (.ext jt 0), .o 60 (.ext jt 1), .o 61 (.aj bV 11), .op none none (.store oD kO 1), .m 1 nW]) (.seq (.run [.o 63 (.aj bD 12), .o 64 (.load oG false 1), .m 65 a7, .m 66 cZ, .c 67 kN [p8,rR,sD], .m 62 sE, .o 68 (.ext oE 0), .o 69 (.ext oE 1), .o 70 (.aj bV 12), .op none none (.store sF rS 1), .m 1 ur]) (.run [.m 71 bU, .o 72 (.load bV true 13), .o 73 (.cG [(.int .i64 0),(.int .i64 0),(.slice .full 0 []),(.str []),(.str []),(.int .i64 0),(.int .i64 0),(.str []),(.slice .full 0 []),(.bool false),(.slice .full 0 []),(.slice .full 0 []),(.slice .full 0 [])] 13 1 [(0,vM)]), .o 74 (.app 13 208 xF vN), .m 8 xG])))
abbrev QTT:AC:= .seq (.run [.o 22 (.load bD true 13), .o 11 (.alloc [(.int .i64 0),(.int .i64 0),(.slice .full 0 []),(.str []),(.str []),(.int .i64 0),(.int .i64 0),(.str []),(.slice .full 0 []),(.bool false),(.slice .full 0 []),(.slice .full 0 []),(.slice .full 0 [])]), .op none none (.store bV dI 13)]) (.seq (.seq (.run [.m 23 cZ]) (.cond dJ (.run [.m 24 a7, .o 25 (.aj bV 0), .op none none (.store di de 1)]) .skip)) (.seq QT4 QTQ))
abbrev QTV:AC:= .seq (.run [.o 18 (.cq bK cp 13), .o 19 (.load cQ true 13), .o 10 (.alloc [(.int .i64 0),(.int .i64 0),(.slice .full 0 []),(.str []),(.str []),(.int .i64 0),(.int .i64 0),(.str []),(.slice .full 0 []),(.bool false),(.slice .full 0 []),(.slice .full 0 []),(.slice .full 0 [])]), .op none none (.store bD dh 13)]) (.seq (.run [.m 20 a7, .o 21 (.bin .add dt (.k (.int .i64 1))), .m 1 dB]) QTT)
abbrev QTZ:AC:= .seq (.cond cW .skip (.exit 0)) (.seq (.block 1 QTV) (.run [.o 75 (.bin .add cp (.k (.int .i64 1))), .m 16 xH]))
abbrev QU3:AC:= .seq (.run [.m 14 aJ, .o 15 (.len bK), .o 16 (.mv (.k (.int .i64 0)))]) (.block 0 (.loop (.seq (.run [.o 17 (.bin .lss cp cy)]) QTZ)))
abbrev QU8:AC:= .seq (.run [.o 6 (.mv (.k (.slice .full 0 []))), .o 7 (.mv (.k (.int .i64 0)))]) (.seq (.run [.o 8 (.mv (.k (.slice .full 0 [])))]) (.seq QU3 (.seq (.run [.m 76 bU, .m 77 a7, .m 6 vO, .m 7 xI]) .ret)))
abbrev QUA:AC:= .par [.m 7 a7, .o 8 (.bin .lss bW (.k (.int .i64 1))), .m 9 bU, .g 10 9 false (.aj cZ 3), .g 11 9 false (.load bD false 1), .g 12 9 false (.len bV), .g 13 9 false (.aj cZ 0), .g 14 9 false (.load bS false 1), .d 15 9 false xB [bK], .g 16 9 false (.bin .neq bZ cy), .o 17 (.pick cu (.k (.bool true)) cp)] [(0,0),(1,0),(2,0),(6,0),(7,0),(8,0),(3,0),(4,1),(5,0),(9,0),(10,0)]
abbrev QUD:AC:= .cond cW (.seq (.run [.o 4 (.mv (.k (.bool false)))]) .ret) .skip
abbrev QUM:AC:= .cond eV (.seq (.run [.o 32 (.aj cZ 1), .o 33 (.load fa false 1), .o 34 (.bin .eql eZ (.k (.int .i64 0))), .m 35 fj, .g 36 35 true (.aj cZ 2), .g 37 35 true (.load fk false 1), .d 38 35 true nT [fF], .o 39 (.pick fb fQ (.k (.bool false))), .m 4 fR]) .ret) .skip
abbrev QUO:AC:= .cond dt (.seq (.run [.o 22 (.aj cZ 1), .o 23 (.load dI false 1), .o 24 (.bin .geq dJ (.k (.int .i64 0))), .m 25 de, .g 26 25 true (.aj cZ 2), .g 27 25 true (.load dX false 1), .g 28 25 true (.bin .eql dY (.k (.str []))), .o 29 (.pick di eN (.k (.bool false))), .m 4 eK]) .ret) (.seq (.run [.o 31 (.bin .eql dh (.k (.int .i64 2))), .m 30 eW]) QUM)
abbrev QUQ:AC:= .block 0 (.seq (.run [.o 21 (.bin .eql dh (.k (.int .i64 1))), .m 20 dB]) QUO)
abbrev QUV:AC:= .cond jU (.seq (.run [.o 4 (.mv (.k (.bool false)))]) .ret) .skip
abbrev QV4:AC:= .cond kO (.seq (.run [.o 4 (.mv (.k (.bool false)))]) .ret) .skip
abbrev QV6:AC:= .seq (.run [.o 53 (.cq ja jq 4), .o 54 (.load jt true 4), .o 6 (.alloc [(.int .i64 0),(.int .i64 0),(.str []),(.slice .full 0 [])]), .op none none (.store bX jW 4)]) (.seq (.run [.o 55 (.load bX true 4), .m 56 a7, .o 57 (.bin .sub lE (.k (.int .i64 1))), .c 58 qh [jX,mA], .o 59 (.un .not lN)]) QV4)
abbrev QVA:AC:= .seq (.cond jr .skip (.exit 1)) (.seq (.block 2 QV6) (.run [.o 60 (.bin .add jq (.k (.int .i64 1))), .m 51 nW]))
abbrev QVE:AC:= .seq (.run [.o 48 (.aj cZ 3), .o 49 (.load iF false 1), .o 50 (.len ja), .o 51 (.mv (.k (.int .i64 0)))]) (.block 1 (.loop (.seq (.run [.o 52 (.bin .lss jq jV)]) QVA)))
abbrev QVH:AC:= .seq QVE (.seq (.run [.o 4 (.mv (.k (.bool true)))]) .ret)
abbrev QVI:AC:= .seq (.seq (.run [.o 40 (.aj cZ 1), .o 41 (.load gv false 1), .o 42 (.bin .neq gf (.k (.int .i64 0))), .m 43 ig, .g 44 43 false (.aj cZ 2), .g 45 43 false (.load iN false 1), .g 46 43 false (.bin .neq jn (.k (.str []))), .o 47 (.pick ij (.k (.bool true)) jo)]) QUV) QVH
abbrev QVL:AC:= .seq (.run [.o 2 (.box aJ), .o 4 (.mv (.k (.bool false)))]) (.seq (.seq QUA QUD) (.seq (.seq (.run [.o 18 (.aj cZ 0), .o 19 (.load cQ false 1)]) QUQ) QVI))
abbrev QVX:AC:= .block 1 (.seq (.run [.m 10 bU, .m 5 bD]) (.seq (.run [.m 11 a7, .m 12 aJ, .m 13 bk, .o 14 (.cq bZ bS 1), .o 15 (.load bK false 1), .o 16 (.bin .eql bV cy)]) (.cond cp (.seq (.run [.m 17 bk, .m 4 cW]) .ret) .skip)))
abbrev QW0:AC:= .seq (.cond cu .skip (.exit 0)) (.seq QVX (.run [.o 18 (.bin .add bU (.k (.int .i64 1))), .m 8 cQ]))
abbrev QW4:AC:= .seq (.run [.m 6 aJ, .o 7 (.len bX), .o 8 (.mv (.k (.int .i64 0)))]) (.block 0 (.loop (.seq (.run [.o 9 (.bin .lss bU bW)]) QW0)))
abbrev QW6:AC:= .seq (.run [(.o 4 (.mv (.k (.int .i64 (-1)))))]) .ret
abbrev QW8:AC:= .seq (.run [.o 4 (.mv (.k (.int .i64 0)))]) (.seq QW4 QW6)
abbrev QWH:AC:= .cond bV (.seq (.run [.m 13 a7, .o 14 (.bin .eql bS (.k (.int .i64 0))), .c 15 jB [bK], .m 4 cy, .o 5 (.mv (.k (.bool true)))]) .ret) .skip
abbrev QWJ:AC:= .cond bW (.seq (.run [.m 9 a7, .o 10 (.bin .sub (.k (.int .i64 0)) cu), .m 4 bD, .o 5 (.mv (.k (.bool true)))]) .ret) (.seq (.run [.o 12 (.bin .eql bX (.k (.int .i64 4))), .m 11 bZ]) QWH)
abbrev QWL:AC:= .block 0 (.seq (.run [.o 8 (.bin .eql bX (.k (.int .i64 3))), .m 7 bU]) QWJ)
abbrev QWP:AC:= .seq (.seq (.run [.m 6 aJ]) QWL) (.seq (.run [.o 4 (.mv (.k (.int .i64 0))), .o 5 (.mv (.k (.bool false)))]) .ret)
abbrev QWQ:AC:= .seq (.run [.o 4 (.mv (.k (.int .i64 0))), .o 5 (.mv (.k (.bool false)))]) QWP
abbrev QWU:AC:= .seq (.run [.o 2 (.mv (.k (.bool false)))]) (.seq (.run [.m 3 aJ, .o 4 (.bin .neq bO (.k (.int .i64 0))), .m 2 dz]) .ret)
abbrev QX9:AC:= .seq (.run [.o 25 (.bin .eql bU (.k (.int .i64 6))), .m 24 di]) (.cond de .skip (.run [.o 26 (.bin .eql bU (.k (.int .i64 7))), .m 24 dX]))
abbrev QXI:AC:= .cond ig (.seq (.run [.m 44 a7, .o 45 (.bin .neq iN (.k (.int .i64 0))), .m 46 jn, .g 47 46 false (.mv cZ), .g 48 46 false (.bin .neq jU (.k (.int .i64 0))), .o 49 (.pick jo (.k (.bool true)) iF), .c 50 jB [ja], .m 6 jV, .o 7 (.mv (.k (.bool true)))]) .ret) .skip
abbrev QXK:AC:= .cond eZ (.seq (.run [.m 35 a7, .o 36 (.bin .neq fb (.k (.int .i64 0))), .m 37 fk, .g 38 37 true (.mv cZ), .g 39 37 true (.bin .neq fQ (.k (.int .i64 0))), .o 40 (.pick fF fR (.k (.bool false))), .c 41 jB [gv], .m 6 gf, .o 7 (.mv (.k (.bool true)))]) .ret) (.seq (.run [.o 43 (.bin .eql bU (.k (.int .i64 17))), .m 42 ij]) QXI)
abbrev QXM:AC:= .cond de (.seq (.run [.m 27 aJ, .m 28 a7, .m 29 cZ, .c 30 uj [dY,eN,eK], .o 31 (.ext eV 0), .o 32 (.ext eV 1), .m 6 eW, .m 7 fa]) .ret) (.seq (.run [.o 34 (.bin .eql bU (.k (.int .i64 16))), .m 33 fj]) QXK)
abbrev QXO:AC:= .cond dh (.seq (.run [.m 21 a7, .m 22 cZ, .o 23 (.bin .mul dB dI), .m 6 dJ, .o 7 (.mv (.k (.bool true)))]) .ret) (.seq QX9 QXM)
abbrev QXQ:AC:= .cond bK (.seq (.run [.m 16 a7, .m 17 cZ, .o 18 (.bin .sub cp cW), .m 6 cQ, .o 7 (.mv (.k (.bool true)))]) .ret) (.seq (.run [.o 20 (.bin .eql bU (.k (.int .i64 5))), .m 19 dt]) QXO)
abbrev QXS:AC:= .cond cu (.seq (.run [.m 11 a7, .m 12 cZ, .o 13 (.bin .add bV bZ), .m 6 bS, .o 7 (.mv (.k (.bool true)))]) .ret) (.seq (.run [.o 15 (.bin .eql bU (.k (.int .i64 9))), .m 14 cy]) QXQ)
abbrev QXU:AC:= .block 0 (.seq (.run [.o 10 (.bin .eql bU (.k (.int .i64 8))), .m 9 bD]) QXS)
abbrev QXZ:AC:= .seq (.run [.o 6 (.mv (.k (.int .i64 0))), .o 7 (.mv (.k (.bool false)))]) (.seq (.seq (.run [.m 8 aJ]) QXU) (.seq (.run [.m 51 aJ, .m 52 a7, .m 53 cZ, .c 54 sB [jq,jr,jt], .o 55 (.ext jW 0), .o 56 (.ext jW 1), .m 6 jX, .m 7 lE]) .ret))
open Go.Proofs
theorem KI:Has Tryz.prog rJ 5 [(2,(some (true,4)))] QKH:=⟨Tryz.f56,by kernel_rfl,by kernel_rfl⟩
theorem Ii:Has Tryz.prog lf 5 [(2,(some (true,4)))] QKL:=⟨Tryz.f57,by kernel_rfl,by kernel_rfl⟩
theorem KK:Has Tryz.prog uX 12 [(6,(some (true,4)))] QKP:=⟨Tryz.f58,by kernel_rfl,by kernel_rfl⟩
theorem wP:Has Tryz.prog lR 96 [(2,(some (true,2)))] QMU:=⟨Tryz.f75,by kernel_rfl,by kernel_rfl⟩
theorem wQ:Has Tryz.prog qA 37 [(2,(some (true,2)))] QNN:=⟨Tryz.f76,by kernel_rfl,by kernel_rfl⟩
theorem yw:Has Tryz.prog vC 64 [(2,(some (true,2)))] QP9:=⟨Tryz.f77,by kernel_rfl,by kernel_rfl⟩
set_option maxRecDepth 20000 in
theorem wR : Has Tryz.prog uh 60 [(2, (some (true, 2)))] QQJ := ⟨Tryz.f78, by kernel_rfl, by kernel_rfl⟩
theorem Gi:Has Tryz.prog ng 15 [(2,none)] QR6:=⟨Tryz.f80,by kernel_rfl,by kernel_rfl⟩
theorem np:Has Tryz.prog nT 27 [(2,none)] QRG:=⟨Tryz.f81,by kernel_rfl,by kernel_rfl⟩
theorem rT:Has Tryz.prog kD 71 [(6,none)] QSH:=⟨Tryz.f82,by kernel_rfl,by kernel_rfl⟩
theorem uu:Has Tryz.prog lD 8 [(2,none)] QSR:=⟨Tryz.f83,by kernel_rfl,by kernel_rfl⟩
theorem EZ:Has Tryz.prog kN 78 [(6,none),(7,none)] QU8:=⟨Tryz.f84,by kernel_rfl,by kernel_rfl⟩
theorem Ay:Has Tryz.prog qh 61 [(4,none)] QVL:=⟨Tryz.f85,by kernel_rfl,by kernel_rfl⟩
theorem wo:Has Tryz.prog fY 19 [(4,none)] QW8:=⟨Tryz.f86,by kernel_rfl,by kernel_rfl⟩
theorem KM:Has Tryz.prog zz 16 [(4,none),(5,none)] QWQ:=⟨Tryz.f87,by kernel_rfl,by kernel_rfl⟩
theorem Gj:Has Tryz.prog rK 5 [(2,none)] QWU:=⟨Tryz.f88,by kernel_rfl,by kernel_rfl⟩
theorem KN:Has Tryz.prog zA 57 [(6,none),(7,none)] QXZ:=⟨Tryz.f89,by kernel_rfl,by kernel_rfl⟩
abbrev QYC:AC:= .par [.m 37 aJ, .m 38 aJ, .o 39 (.bq fQ), .o 40 (.aj fR 2), .o 41 (.load gv false 1), .o 42 (.load cu true 17), .o 43 (.cG [(.int .i64 0),(.int .i64 0),(.slice .full 0 []),(.str []),(.str []),(.int .i64 0),(.int .i64 0),(.str []),(.slice .full 0 []),(.bool false),(.slice .full 0 []),(.slice .full 0 []),(.slice .full 0 []),(.int .i64 0),(.int .i64 0),(.int .i64 0),(.int .i64 0)] 17 1 [(0,ig)]), .o 44 (.app 17 240 gf ij), .o 45 (.bq fF), .o 46 (.aj jn 2), .op none none (.store jo iN 1)] [(1,0),(2,0),(3,0),(4,0),(5,0),(6,0),(7,0),(0,0),(8,0),(9,0),(10,0)]
abbrev QYD:AC:= .run [.o 47 (.aj bk 13), .o 48 (.load jU false 1), .m 49 bU, .o 50 (.aj cu 15), .o 51 (.load jV false 1), .o 52 (.aj bk 16), .o 53 (.load jr false 1), .o 54 (.build [(.int .i64 0),(.int .i64 0),(.slice .full 0 []),(.str []),(.str []),(.int .i64 0),(.int .i64 0),(.str []),(.slice .full 0 []),(.bool false),(.slice .full 0 []),(.slice .full 0 []),(.slice .full 0 []),(.int .i64 0),(.int .i64 0),(.int .i64 0),(.int .i64 0)] [(13,(1,iF)),(14,(1,ja)),(15,(1,jq)),(16,(1,jt))]), .o 10 (.alloc [(.int .i64 0),(.int .i64 0),(.slice .full 0 []),(.str []),(.str []),(.int .i64 0),(.int .i64 0),(.str []),(.slice .full 0 []),(.bool false),(.slice .full 0 []),(.slice .full 0 []),(.slice .full 0 []),(.int .i64 0),(.int .i64 0),(.int .i64 0),(.int .i64 0)]), .op none none (.store bD jW 17)]
abbrev QYL:AC:= .seq (.seq (.run [.o 55 (.aj bW 1), .o 56 (.load jX false 1), .o 57 (.bin .eql lE (.k (.int .i64 6)))]) (.cond mA (.run [.m 58 bU, .m 59 bU, .o 60 (.aj bD 15), .op none none (.store nW lN 1), .o 61 (.aj bD 16), .op none none (.store oD kO 1)]) .skip)) (.seq (.run [.m 62 aJ, .o 63 (.aj bW 11), .o 64 (.load oG false 1), .o 65 (.load bD true 17), .c 66 kl [oE,p8,rR]]) (.run [.m 67 aJ, .o 68 (.aj bW 12), .o 69 (.load rS false 1), .o 70 (.load bD true 17), .c 71 kl [sE,ur,sF]]))
abbrev QYO:AC:= .seq (.seq (.run [.m 27 bX, .o 28 (.bin .add dY (.k (.int .i64 1))), .m 29 a7, .o 30 (.len eK), .o 31 (.bin .lss eN eV)]) (.cond eW (.run [.m 32 bU, .o 33 (.load bW true 13), .c 34 mz [eZ], .o 35 (.bin .add fa fj), .o 36 (.aj cu 15), .op none none (.store fk fb 1)]) .skip)) (.seq QYC (.seq QYD QYL))
abbrev QYS:AC:= .seq (.run [.m 15 bS, .o 16 (.cq bV bS 13), .o 17 (.load cp true 13), .o 7 (.alloc [(.int .i64 0),(.int .i64 0),(.slice .full 0 []),(.str []),(.str []),(.int .i64 0),(.int .i64 0),(.str []),(.slice .full 0 []),(.bool false),(.slice .full 0 []),(.slice .full 0 []),(.slice .full 0 [])]), .m 6 cy, .op none none (.store bW cW 13)]) (.seq (.run [.m 18 aJ, .o 19 (.bq cQ), .o 20 (.aj dh 2), .o 21 (.load dt false 1), .o 22 (.len dB), .o 23 (.bin .add dI (.k (.int .i64 1))), .m 8 dJ]) (.seq (.run [.o 24 (.load bk true 17), .o 9 (.alloc [(.int .i64 0),(.int .i64 0),(.slice .full 0 []),(.str []),(.str []),(.int .i64 0),(.int .i64 0),(.str []),(.slice .full 0 []),(.bool false),(.slice .full 0 []),(.slice .full 0 []),(.slice .full 0 []),(.int .i64 0),(.int .i64 0),(.int .i64 0),(.int .i64 0)]), .op none none (.store cu de 17)]) (.seq (.run [.o 25 (.load bW true 13), .o 26 (.aj cu 0), .op none none (.store dX di 13)]) QYO)))
abbrev QYW:AC:= .seq (.cond bK .skip (.exit 0)) (.seq (.block 1 QYS) (.run [.o 72 (.bin .add bS (.k (.int .i64 1))), .m 13 vM]))
abbrev QZ0:AC:= .seq (.run [.m 11 a7, .o 12 (.len bV), .o 13 (.mv (.k (.int .i64 0)))]) (.block 0 (.loop (.seq (.run [.o 14 (.bin .lss bS bZ)]) QYW)))
abbrev QZ1:AC:= .seq (.run [.o 5 (.box cZ)]) QZ0
abbrev QZ3:AC:= .par [.m 5 aJ, .o 6 (.bq bk), .o 7 (.aj bX 3), .o 8 (.load bW false 1), .m 9 a7, .o 10 (.cq bU cu 1), .o 11 (.load bD false 1), .m 12 aJ, .o 13 (.bq bZ), .o 14 (.aj bS 4), .o 15 (.load bK false 1), .m 16 a7, .o 17 (.cq cy cp 1), .o 18 (.load cW false 1), .o 19 (.bin .lss bV cQ)] [(0,0),(1,0),(2,0),(3,0),(4,0),(5,0),(6,0),(7,0),(8,0),(9,0),(10,0),(11,0),(12,0),(13,0),(14,0)]
abbrev QZ9:AC:= .seq (.run [(.o 4 (.mv (.k (.int .i64 (-1)))))]) .ret
abbrev QZA:AC:= .seq (.seq QZ3 (.cond dh (.seq (.run [.m 20 aJ, .o 21 (.bq dt), .o 22 (.aj dB 3), .o 23 (.load dI false 1), .m 24 a7, .o 25 (.cq dJ de 1), .o 26 (.load di false 1), .m 4 dX]) .ret) .skip)) QZ9
abbrev QZB:AC:= .seq (.run [.o 4 (.mv (.k (.int .i64 0)))]) QZA
abbrev QZN:AC:= .block 1 (.seq (.run [.m 10 bU, .m 5 bD]) (.seq (.run [.m 11 a7, .m 12 aJ, .m 13 bk, .o 14 (.cq bZ bS 5), .o 15 (.load bK true 5),(.jw (some 16) none 11 [cy])]) (.cond cp (.seq (.run [.m 17 bk, .m 4 cW]) .ret) .skip)))
abbrev QZQ:AC:= .seq (.cond cu .skip (.exit 0)) (.seq QZN (.run [.o 18 (.bin .add bU (.k (.int .i64 1))), .m 8 cQ]))
abbrev QZU:AC:= .seq (.run [.m 6 aJ, .o 7 (.len bX), .o 8 (.mv (.k (.int .i64 0)))]) (.block 0 (.loop (.seq (.run [.o 9 (.bin .lss bU bW)]) QZQ)))
abbrev QZW:AC:= .seq (.run [(.o 4 (.mv (.k (.int .i64 (-1)))))]) .ret
abbrev QZY:AC:= .seq (.run [.o 4 (.mv (.k (.int .i64 0)))]) (.seq QZU QZW)
abbrev akY:AC:= .seq (.run [.o 2 (.box aJ), .o 3 (.mv (.k (.bool false)))]) (.seq (.run [.o 4 (.aj cZ 0), .o 5 (.load dz false 1), .o 6 (.load a7 false 1), .o 7 (.bin .eql bk bX), .m 3 bW]) .ret)
abbrev akZ:AC:= .par [.m 8 bk, .o 9 (.bq bU), .o 10 (.aj cu 2), .o 11 (.load bD false 1), .m 12 bk, .o 13 (.bq bZ), .o 14 (.aj bS 1), .o 15 (.load bK false 1), .m 16 a7, .c 17 fY [cy,cp], .o 18 (.cq bV cW 1), .o 19 (.load cQ false 1), .m 4 dh] [(4,0),(5,0),(6,0),(7,0),(8,0),(9,0),(0,0),(1,0),(2,0),(3,1),(10,0),(11,0),(12,0)]
abbrev ak0:AC:= .seq (.run [.o 4 (.mv (.k .ek))]) (.seq (.run [.m 6 aJ, .c 7 kS [bX], .m 5 bW]) (.seq akZ .ret))
abbrev ak1:AC:= .par [.m 30 aJ, .m 31 aJ, .o 32 (.bq eW), .o 33 (.aj fa 5), .o 34 (.load eZ false 1), .m 35 bU, .o 36 (.bq fb), .o 37 (.load fk false 1), .o 38 (.cG [(.int .i64 0)] 1 1 [(0,fF)]), .o 39 (.app 1 8 fj fQ), .o 40 (.bq eV), .o 41 (.aj gv 5), .op none none (.store gf fR 1)] [(1,0),(2,0),(3,0),(4,0),(5,0),(6,0),(7,0),(8,0),(9,0),(0,0),(10,0),(11,0),(12,0)]
abbrev ak2:AC:= .seq (.cond dY .skip (.exit 0)) (.seq (.block 1 (.seq (.run [.o 28 (.cq de dX 1), .o 29 (.load eN false 1), .m 8 eK]) ak1)) (.run [.o 42 (.bin .add dX (.k (.int .i64 1))), .m 26 ig]))
abbrev ad3:AC:= .seq (.run [.o 27 (.bin .lss dX di)]) ak2
abbrev ak3:AC:= .par [.o 44 (.load bO true 4), .m 45 bX, .o 46 (.bq jn), .o 47 (.aj jo 1), .o 48 (.load jU false 1), .m 49 aJ, .o 50 (.bq ja), .o 51 (.aj jV 5), .o 52 (.load jq false 1), .c 53 wN [iN,iF,jr], .m 43 jt, .o 54 (.ext ij 0), .o 55 (.ext ij 1), .m 9 jW, .m 10 jX] [(0,0),(1,0),(2,0),(3,0),(4,0),(5,0),(6,0),(7,0),(8,0),(9,0),(10,0),(11,0),(12,0),(13,0),(14,0)]
abbrev ak4:AC:= .seq (.run [.m 56 bD, .o 57 (.un .not lE)]) (.cond mA (.run [.m 58 aJ, .o 59 (.bq lN), .o 60 (.aj kO 6), .o 61 (.aj nW 0), .op none none (.store oD (.k (.int .i64 4)) 1)]) .skip)
abbrev ad4:AC:= .seq ak3 (.seq ak4 (.seq (.run [.m 62 cu, .m 63 bD, .m 4 oE, .m 5 oG]) .ret))
abbrev ak5:AC:= .seq (.seq (.run [.m 21 bX, .o 22 (.bq dB), .o 23 (.aj dI 2), .o 24 (.load dJ false 1), .o 25 (.len de), .o 26 (.mv (.k (.int .i64 0)))]) (.block 0 (.loop ad3))) ad4
abbrev ak6:AC:= .seq (.run [.m 13 aJ, .m 14 aJ, .o 15 (.bq bK), .o 16 (.aj cy 5), .o 17 (.load cp false 1),(.o 18 (.Eu 1 cW none (some (.k (.int .i64 0))))), .o 19 (.bq bS), .o 20 (.aj dh 5), .op none none (.store dt cQ 1)]) ak5
abbrev ak7:AC:= .seq (.run [.o 3 (.box a7), .o 4 (.mv (.k (.int .i64 0))), .o 5 (.mv (.k (.bool false)))]) (.seq (.run [.m 11 aJ, .c 12 kS [bV], .m 6 bZ]) ak6)
abbrev ak8:AC:= .seq (.run [.m 6 aJ, .o 7 (.bq bX), .o 8 (.aj bW 3), .o 9 (.load bU false 1), .m 10 a7, .c 11 nh [cu,bD]]) (.cond bV (.run [.m 12 aJ, .m 13 aJ, .o 14 (.bq bS), .o 15 (.aj bK 6), .o 16 (.aj cy 4), .o 17 (.load cp false 1), .m 18 a7, .m 19 cZ, .o 20 (.build [(.int .i64 0),(.slice .full 0 [])] [(0,(1,cQ)),(1,(1,dh))]), .o 21 (.cG [(.int .i64 0),(.slice .full 0 [])] 2 1 [(0,dt)]), .o 22 (.app 2 32 cW dB), .o 23 (.bq bZ), .o 24 (.aj dJ 6), .o 25 (.aj de 4), .op none none (.store di dI 1)]) .skip)
abbrev ak9:AC:= .cond dI (.seq (.run [.o 23 (.aj cu 0), .o 24 (.aj dJ 0), .o 25 (.load de false 1), .m 6 di, .o 7 (.mv (.k (.bool true)))]) .ret) .skip
abbrev ala:AC:= .seq (.block 1 (.seq (.run [.o 16 (.cq bZ bK 17), .o 17 (.load cp true 17), .o 9 (.alloc [(.int .i64 0),(.int .i64 0),(.slice .full 0 []),(.str []),(.str []),(.int .i64 0),(.int .i64 0),(.str []),(.slice .full 0 []),(.bool false),(.slice .full 0 []),(.slice .full 0 []),(.slice .full 0 []),(.int .i64 0),(.int .i64 0),(.int .i64 0),(.int .i64 0)]), .op none none (.store cu cW 17)]) (.seq (.run [.o 18 (.aj cu 0), .o 19 (.aj cQ 2), .o 20 (.load dh false 1), .m 21 cZ, .c 22 cB [dt,dB]]) ak9))) (.run [.o 26 (.bin .add bK (.k (.int .i64 1))), .m 14 dX])
abbrev alb:AC:= .block 0 (.loop (.seq (.run [.o 15 (.bin .lss bK bS)]) (.seq (.cond cy .skip (.exit 0)) ala)))
abbrev alc:AC:= .seq (.run [(.o 6 (.mv (.k (.int .i64 (-1))))), .o 7 (.mv (.k (.bool true)))]) .ret
abbrev ald:AC:= .seq (.seq (.run [.m 27 aJ, .o 28 (.bq dY), .o 29 (.aj eN 0), .o 30 (.aj eK 1), .o 31 (.load eV false 1), .m 32 a7, .o 33 (.cq eW fa 5), .o 34 (.aj eZ 4), .o 35 (.load fj false 1), .m 36 cZ, .c 37 cB [fb,fk]]) (.cond fF alc .skip)) (.seq (.run [.o 6 (.mv (.k (.int .i64 0))), .o 7 (.mv (.k (.bool false)))]) .ret)
abbrev ale:AC:= .seq (.seq (.run [.m 10 aJ, .m 11 a7, .c 12 gP [bD,bV], .o 13 (.len bZ), .o 14 (.mv (.k (.int .i64 0)))]) alb) ald
abbrev alf:AC:= .seq (.run [.o 6 (.mv (.k (.int .i64 0))), .o 7 (.mv (.k (.bool false)))]) ale
abbrev alg:AC:= .cond bW (.seq (.run [.m 8 aJ, .o 9 (.cq bU (.k (.int .i64 0)) 13), .o 10 (.aj cu 0), .o 11 (.load bD false 1), .m 4 bV]) .ret) .skip
abbrev alh:AC:= .seq (.seq (.run [.m 5 aJ, .o 6 (.len bk), .o 7 (.bin .gtr bX (.k (.int .i64 0)))]) alg) (.seq (.run [.m 12 a7, .m 4 bZ]) .ret)
abbrev ali:AC:= .seq (.run [.o 4 (.mv (.k (.int .i64 0)))]) alh
abbrev alj:AC:= .par [.m 3 aJ, .o 4 (.bq bO), .o 5 (.aj dz 4), .o 6 (.load bk false 1), .m 7 aJ, .o 8 (.bq bW), .o 9 (.aj bU 4), .o 10 (.load cu false 1), .o 11 (.len bD), .o 12 (.bin .sub bV (.k (.int .i64 1))), .o 13 (.cq bX bZ 1), .o 14 (.load bS false 1), .m 2 bK] [(0,0),(1,0),(2,0),(3,0),(4,0),(5,0),(6,0),(7,0),(8,0),(9,0),(10,0),(11,0),(12,0)]
abbrev alk:AC:= .seq (.run [.o 2 (.mv (.k .ek))]) (.seq alj .ret)
abbrev alm:AC:= .seq (.run [(.o 13 (.build [(.int .i64 0),(.int .i64 0)] [(0,(1,(.k (.int .i64 4))))])), .o 2 (.mv (.k (.slice .full 0 []))), .op none none (.store bO bS 2)]) .ret
abbrev aln:AC:= .cond cW (.seq (.run [.m 18 dz, .m 19 aJ, .o 20 (.nK dh), .o 21 (.build [(.int .i64 0),(.str []),(.int .i64 0),(.int .i64 0)] [(3,(1,dt))]), .o 22 (.cG [(.int .i64 0),(.str []),(.int .i64 0),(.int .i64 0)] 4 1 [(0,dB)]), .o 23 (.app 4 40 cQ dI), .o 24 (.build [(.int .i64 0),(.int .i64 0)] []), .m 2 dJ, .op none none (.store bO de 2)]) .ret) .skip
abbrev alo:AC:= .cond jU (.goto 1) (.seq (.run [.m 51 cu, .c 52 pg [jq], .m 50 jr]) (.cond jV (.goto 2) (.seq (.run [.m 54 cu, .c 55 qk [jW], .m 53 jX]) (.cond jt (.goto 3) .skip))))
abbrev alp:AC:= .cond eV (.seq (.run [.m 45 bX, .o 46 (.bin .add jn (.k (.int .i64 1))), .m 6 jo]) (.goto 0)) (.seq (.run [.m 48 cu, .o 49 (.bin .eql iF (.k (.int .u8 35))), .m 47 ja]) alo)
abbrev alq:AC:= .block 0 (.seq (.run [.m 31 cu, .o 32 (.bin .eql eW (.k (.int .u8 32))), .m 33 fa, .g 34 33 false (.mv cu), .g 35 33 false (.bin .eql fj (.k (.int .u8 9))), .o 36 (.pick eZ (.k (.bool true)) fb), .m 37 fk, .g 38 37 false (.mv cu), .g 39 37 false (.bin .eql fQ (.k (.int .u8 10))), .o 40 (.pick fF (.k (.bool true)) fR), .m 41 gv, .g 42 41 false (.mv cu), .g 43 41 false (.bin .eql ig (.k (.int .u8 13))), .o 44 (.pick gf (.k (.bool true)) ij), .m 30 iN]) alp)
abbrev alr:AC:= .seq (.seq (.run [.m 72 bX, .m 73 aJ, .o 74 (.nK vN), .o 75 (.bin .lss vM xG), .m 76 xH, .g 77 76 true (.mv aJ), .g 78 76 true (.mv bX), .g 79 76 true (.oU xI vP), .g 80 76 true (.bin .neq BD (.k (.int .u8 10))), .o 81 (.pick vO BE (.k (.bool false)))]) (.cond BF .skip (.exit 1))) (.block 2 (.run [.m 82 bX, .o 83 (.bin .add DW (.k (.int .i64 1))), .m 6 DX]))
abbrev als:AC:= .par [.m 87 aJ, .o 88 (.aj bk 3), .o 89 (.load D2 false 1), .m 90 bX, .o 91 (.zb D1 (some zD) (some BG)), .o 92 (.aj bk 0), .op none none (.store Gf (.k (.int .i64 1)) 1), .o 93 (.aj bk 1), .op none none (.store KB D3 1)] [(1,0),(2,0),(5,0),(6,0),(0,0),(3,0),(4,0),(7,0),(8,0)]
abbrev alu:AC:= .seq (.run [.o 94 (.aj bk 1), .o 95 (.load KD false 1), .c 96 uY [KE]]) (.cond Qo (.run [.o 97 (.aj bk 0), .op none none (.store Qp (.k (.int .i64 3)) 1)]) .skip)
abbrev Wx:AC:= .seq (.seq (.run [.m 103 bX, .m 104 aJ, .o 105 (.nK IP), .o 106 (.bin .lss IN IQ), .m 107 IS, .g 108 107 true (.mv aJ), .g 109 107 true (.mv bX), .g 110 107 true (.oU IU Qs), .d 111 107 true qk [IV], .o 112 (.pick IT IW (.k (.bool false)))]) (.cond ET .skip (.exit 3))) (.block 4 (.run [.m 113 bX, .o 114 (.bin .add IX (.k (.int .i64 1))), .m 6 IY]))
abbrev alv:AC:= .par [.m 115 aJ, .o 116 (.aj bk 3), .o 117 (.load I0 false 1), .m 118 bX, .o 119 (.zb IZ (some I1) (some I2)), .o 120 (.aj bk 0), .op none none (.store I4 (.k (.int .i64 2)) 1), .o 121 (.aj bk 1), .op none none (.store I5 I3 1), .o 7 (.mv (.k (.int .i64 2)))] [(1,0),(2,0),(5,0),(6,0),(0,0),(3,0),(4,0),(7,0),(8,0),(9,0)]
abbrev alw:AC:= .par [.m 148 bW, .o 149 (.aj bk 3), .o 150 (.load QJ false 1), .o 151 (.build [(.int .i64 0),(.int .i64 0)] [(0,(1,QI)),(1,(1,QK))]), .o 2 (.mv (.k (.slice .full 0 []))), .op none none (.store bO QL 2)] [(0,0),(1,0),(2,0),(3,0),(4,0),(5,0)]
abbrev alx:AC:= .seq (.seq (.run [.m 141 dz, .o 142 (.len QD), .o 143 (.bin .eql QE (.k (.int .i64 2000)))]) (.cond Je (.goto 5) .skip)) (.seq (.run [.m 144 dz, .o 145 (.load bk true 4), .o 146 (.cG [(.int .i64 0),(.str []),(.int .i64 0),(.int .i64 0)] 4 1 [(0,EU)]), .o 147 (.app 4 40 QF QG), .m 4 QH]) (.seq (.goto 0) (.seq (.label 5) (.seq alw .ret))))
abbrev aly:AC:= .seq (.label 4) (.seq (.run [.o 7 (.mv (.k (.int .i64 4)))]) alx)
abbrev alz:AC:= .seq (.run [.o 133 (.aj bk 1), .o 134 (.load Qv false 1), .c 135 vG [Qw], .m 132 Qx, .o 136 (.ext Jd 0), .o 137 (.ext Jd 1), .o 138 (.aj bk 2), .op none none (.store QA Qy 1), .m 8 Qz]) (.seq (.run [.o 7 (.mv (.k (.int .i64 4)))]) (.seq (.seq (.run [.m 139 bU, .o 140 (.un .not QB)]) (.cond QC (.goto 5) .skip)) aly))
abbrev alA:AC:= .seq (.seq (.run [.o 122 (.aj bk 1), .o 123 (.load I6 false 1), .o 124 (.nK I7), .o 125 (.bin .gtr I8 (.k (.int .i64 1))), .m 126 I9, .g 127 126 true (.aj bk 1), .g 128 126 true (.load Ja false 1), .g 129 126 true (.oU zE (.k (.int .i64 0))), .g 130 126 true (.bin .eql Jb (.k (.int .u8 48))), .o 131 (.pick Qt Jc (.k (.bool false)))]) (.cond Qu (.goto 5) .skip)) alz
abbrev Wy:AC:= .seq alv alA
abbrev alB:AC:= .seq (.seq (.run [.m 98 bX, .o 99 (.aj bk 3), .o 100 (.load Qr false 1), .o 101 (.bin .sub Qq IK), .o 102 (.bin .gtr IL (.k (.int .i64 8)))]) (.cond IM (.goto 5) .skip)) (.seq (.goto 4) (.seq (.label 3) (.seq (.block 3 (.loop Wx)) Wy)))
abbrev alC:AC:= .seq alu (.seq (.run [.o 7 (.mv (.k (.int .i64 4)))]) alB)
abbrev alD:AC:= .seq (.label 1) (.seq (.block 1 (.loop alr)) (.seq (.goto 0) (.seq (.label 2) (.seq (.run [.m 84 aJ, .m 85 bX, .c 86 wO [DY,DZ], .m 6 D0]) (.seq als alC)))))
abbrev alE:AC:= .seq (.run [.m 62 aJ, .o 63 (.aj bk 3), .o 64 (.load oG false 1), .m 65 bX, .o 66 (.zb oE (some p8) (some rR)), .o 67 (.aj bk 1), .op none none (.store sE sD 1)]) (.seq (.run [.o 7 (.mv (.k (.int .i64 2)))]) (.seq (.seq (.run [.m 68 bX, .o 69 (.aj bk 3), .o 70 (.load ur false 1), .o 71 (.bin .gtr rS sF)]) (.cond xF (.goto 4) .skip)) (.seq (.goto 5) alD)))
abbrev alG:AC:= .seq (.seq (.run [.m 27 aJ, .m 28 bX, .o 29 (.oU dY eN), .m 9 eK]) alq) (.seq (.run [.o 56 (.aj bk 0), .op none none (.store lE (.k (.int .i64 4)) 1)]) (.seq (.run [.m 57 bX, .m 58 aJ, .m 59 bX, .c 60 zB [lN,kO], .o 61 (.bin .add mA nW), .m 6 oD]) alE))
abbrev vR:AC:= .seq (.seq (.run [.m 14 bX, .m 15 aJ, .o 16 (.nK cy), .o 17 (.bin .geq bK cp)]) aln) (.seq (.run [.m 25 bX, .o 26 (.build [(.int .i64 0),(.str []),(.int .i64 0),(.int .i64 0)] [(3,(1,di))]), .op none none (.store bk dX 4)]) alG)
abbrev alH:AC:= .seq (.seq (.run [.m 10 aJ, .o 11 (.nK bD), .o 12 (.bin .gtr bV (.k (.int .i64 100000)))]) (.cond bZ alm .skip)) (.seq (.label 0) vR)
abbrev alI:AC:= .seq (.run [.o 5 (.alloc [(.int .i64 0),(.str []),(.int .i64 0),(.int .i64 0)])]) (.seq (.run [.o 6 (.mv (.k (.int .i64 0))), .o 7 (.mv (.k (.int .i64 0))), .o 8 (.mv (.k (.bool true)))]) alH)
abbrev qO:AC:= .seq (.run [.o 4 (.mv (.k (.slice .full 0 [])))]) alI
abbrev alJ:AC:= .scope qO
abbrev alK:AC:= .seq (.run [.o 2 (.mv (.k (.slice .full 0 []))), .o 3 (.alloc [(.int .i64 0),(.int .i64 0)])]) alJ
abbrev alL:AC:= .seq (.seq (.run [.m 4 aJ,(.c 5 dN [dz,(.k (.str [103,108,111,98,97,108]))])]) (.cond bk .skip (.exit 0))) (.block 1 (.run [.m 6 aJ, .o 7 (.aj bO 0), .o 8 (.load bW false 1), .c 9 jC [bX,bU,(.k (.int .i64 16))], .o 10 (.aj bO 0), .op none none (.store bD cu 1)]))
abbrev alM:AC:= .seq (.run [.o 17 (.aj bO 1), .o 18 (.load cW false 1), .o 19 (.len cQ), .o 20 (.bin .eql dh (.k (.int .i64 16)))]) (.cond dt (.seq (.run [.m 21 aJ, .c 22 e9 [dB,(.k (.int .i64 4))]]) (.seq (.run [.o 23 (.load bO true 2), .op none none (.store cZ dJ 2)]) .ret)) .skip)
abbrev alN:AC:= .par [.o 31 (.aj bO 1), .o 32 (.load eW false 1), .m 33 aJ, .c 34 oA [eZ], .o 35 (.cG [(.str []),(.slice .full 0 []),(.slice .full 0 []),(.slice .full 0 []),(.slice .full 0 [])] 5 1 [(0,fj)]), .o 36 (.app 5 112 fa fb), .o 37 (.aj bO 1), .op none none (.store fF fk 1)] [(2,0),(3,0),(0,0),(1,1),(4,0),(5,0),(6,0),(7,0)]
abbrev alO:AC:= .seq alM (.seq (.run [.m 24 aJ, .o 25 (.bq de), .o 26 (.aj di 1), .o 27 (.load dX false 1), .o 28 (.bin .add dY (.k (.int .i64 1))), .o 29 (.bq de), .o 30 (.aj eK 1), .op none none (.store eV eN 1)]) alN)
abbrev ad5:AC:= .seq (.seq (.run [.m 11 aJ, .c 12 c6 [bV], .m 13 bZ, .g 14 13 true (.mv aJ),(.d 15 13 true fA [bK,(.k (.str [112,114,111,99]))]), .o 16 (.pick bS cy (.k (.bool false)))]) (.cond cp .skip (.exit 2))) (.block 3 alO)
abbrev ad6:AC:= .seq (.seq (.run [.m 38 aJ, .c 39 c6 [fQ], .m 40 fR, .g 41 40 true (.mv aJ), .d 42 40 true dO [gf], .g 43 40 true (.uC ig 0 false 1), .g 44 40 true (.bin .neq ij (.k (.int .i64 0))), .o 45 (.pick gv iN (.k (.bool false)))]) (.cond jn (.run [.m 46 aJ, .c 47 e9 [jo,(.k (.int .i64 3))]]) .skip)) (.seq (.run [.o 48 (.load bO true 2), .op none none (.store cZ iF 2)]) .ret)
abbrev alP:AC:= .seq (.run [.o 2 (.alloc [(.slice .full 0 []),(.slice .full 0 [])])]) (.seq (.run [.o 3 (.alloc [(.slice .full 0 []),(.slice .full 0 [])])]) (.seq (.block 0 (.loop alL)) (.seq (.block 2 (.loop ad5)) ad6)))
abbrev alQ:AC:= .cond cW (.seq (.run [.o 2 (.mv (.k (.int .i64 2)))]) .ret) .skip
abbrev alR:AC:= .cond bD (.seq (.run [.o 2 (.mv (.k (.int .i64 1)))]) .ret) (.seq (.run [.m 18 aJ, .o 19 (.bin .geq cQ (.k (.int .i64 5))), .m 20 dh, .g 21 20 true (.mv aJ), .g 22 20 true (.bin .leq dB (.k (.int .i64 17))), .o 23 (.pick dt dI (.k (.bool false))), .m 17 dJ]) alQ)
abbrev alS:AC:= .cond bO (.seq (.run [.o 2 (.mv (.k (.int .i64 0)))]) .ret) (.seq (.run [.m 11 aJ, .o 12 (.bin .eql bV (.k (.int .i64 3))), .m 13 bZ, .g 14 13 false (.mv aJ), .g 15 13 false (.bin .eql bK (.k (.int .i64 4))), .o 16 (.pick bS (.k (.bool true)) cy), .m 10 cp]) alR)
abbrev alT:AC:= .block 0 (.seq (.run [.m 4 aJ, .o 5 (.bin .eql dz (.k (.int .i64 1))), .m 6 bk, .g 7 6 false (.mv aJ), .g 8 6 false (.bin .eql bW (.k (.int .i64 2))), .o 9 (.pick bX (.k (.bool true)) bU), .m 3 cu]) alS)
abbrev alU:AC:= .seq (.run [(.o 2 (.mv (.k (.int .i64 (-1)))))]) .ret
abbrev alV:AC:= .seq (.run [.o 2 (.mv (.k (.int .i64 0)))]) (.seq alT alU)
abbrev alW:AC:= .cond cp (.seq (.run [.o 2 (.mv (.k (.bool true)))]) .ret) .skip
abbrev alX:AC:= .block 1 (.seq (.run [.m 9 bW, .o 10 (.cq bk bW 1), .o 11 (.load bD false 1), .m 3 cu, .m 4 bV]) (.seq (.run [.m 12 aJ, .m 13 bO, .o 14 (.Eu 1 bZ none (some bS)), .m 15 dz, .c 16 cB [bK,cy]]) alW))
abbrev alY:AC:= .seq (.cond bU .skip (.exit 0)) (.seq alX (.run [.o 17 (.bin .add bW (.k (.int .i64 1))), .m 7 cW]))
abbrev alZ:AC:= .seq (.run [.m 5 aJ, .o 6 (.len bk), .o 7 (.mv (.k (.int .i64 0)))]) (.block 0 (.loop (.seq (.run [.o 8 (.bin .lss bW bX)]) alY)))
abbrev al0:AC:= .seq alZ (.seq (.run [.o 2 (.mv (.k (.bool false)))]) .ret)
abbrev al1:AC:= .seq (.run [.o 2 (.mv (.k (.bool false)))]) al0
abbrev al2:AC:= .seq (.run [.o 4 (.mv (.k (.bool false)))]) (.seq (.run [.m 5 aJ, .m 6 a7, .c 7 kZ [bk,bX], .o 8 (.bin .geq bW (.k (.int .i64 0))), .m 4 bU]) .ret)
abbrev al3:AC:= .seq (.run [.o 3 (.mv (.k (.bool false)))]) (.seq (.run [.o 4 (.aj a7 0), .o 5 (.load dz false 1), .m 6 aJ, .c 7 cB [bk,bX], .m 3 bW]) .ret)
abbrev al4:AC:= .seq (.run [.o 4 (.mv (.k (.bool false)))]) (.seq (.run [.m 5 aJ, .m 6 a7, .c 7 fY [bk,bX], .o 8 (.bin .geq bW (.k (.int .i64 0))), .m 4 bU]) .ret)
abbrev al5:AC:= .par [.m 5 aJ, .o 6 (.bq bk), .o 7 (.aj bX 2), .o 8 (.load bW false 1), .m 9 aJ, .o 10 (.bq cu), .o 11 (.aj bD 3), .o 12 (.load bV false 1), .m 13 a7, .o 14 (.cq bZ bS 1), .o 15 (.load bK false 1), .o 16 (.bin .sub cy (.k (.int .i64 1))), .m 17 aJ, .o 18 (.bq cW), .o 19 (.aj cQ 4), .o 20 (.load dh false 1), .m 21 a7, .o 22 (.cq dt dB 1), .o 23 (.load dI false 1), .o 24 (.bin .sub dJ (.k (.int .i64 1))), .o 25 (.Eu 17 bU (some cp) (some de)), .m 4 di] [(0,0),(1,0),(2,0),(3,0),(4,0),(5,0),(6,0),(7,0),(8,0),(9,0),(10,0),(11,0),(12,0),(13,0),(14,0),(15,0),(16,0),(17,0),(18,0),(19,0),(20,0),(21,0)]
abbrev al6:AC:= .seq (.run [.o 4 (.mv (.k (.slice .full 0 [])))]) (.seq al5 .ret)
abbrev al7:AC:= .cond dI (.seq (.run [.o 8 (.mv (.k (.bool false)))]) .ret) .skip
abbrev al8:AC:= .seq (.run [.o 16 (.cq bZ bK 1), .o 17 (.load cp false 1), .m 10 cW]) (.seq (.run [.o 18 (.load dz true 2), .o 19 (.load bk true 5), .m 20 bD, .c 21 vH [cQ,dh,dt], .o 22 (.bin .eql dB (.k (.int .i64 0)))]) al7)
abbrev al9:AC:= .seq (.cond cy .skip (.exit 0)) (.seq (.block 1 al8) (.run [.o 23 (.bin .add bK (.k (.int .i64 1))), .m 14 dJ]))
abbrev ama:AC:= .seq (.run [.o 11 (.load bW true 13), .c 12 rN [bV], .o 13 (.len bZ), .o 14 (.mv (.k (.int .i64 0)))]) (.block 0 (.loop (.seq (.run [.o 15 (.bin .lss bK bS)]) al9)))
abbrev amb:AC:= .seq ama (.seq (.run [.o 24 (.aj bW 1), .o 25 (.load de false 1), .o 26 (.bin .neq di (.k (.int .i64 4))), .m 27 dX, .g 28 27 false (.aj bW 4), .g 29 27 false (.load eN false 1), .g 30 27 false (.bin .neq eK (.k (.str [109,97,105,110]))), .g 31 27 false (.mv eV), .g 32 31 true (.mv cZ), .g 33 31 true (.aj bW 4), .g 34 31 true (.load eZ false 1), .d 35 31 true cB [fa,fj], .g 36 27 false (.pick eW fb (.k (.bool false))), .o 37 (.pick dY (.k (.bool true)) fk), .m 8 fF]) .ret)
abbrev amc:AC:= .seq (.run [.o 4 (.box aJ), .o 5 (.box a7), .o 7 (.box bO), .o 8 (.mv (.k (.bool false)))]) amb
abbrev amd:AC:= .cond cu (.seq (.run [.o 4 (.mv (.k (.bool false)))]) .ret) .skip
abbrev ame:AC:= .seq (.run [.o 15 (.cq bV bS 5), .o 16 (.load cy true 5), .o 6 (.alloc [(.str []),(.slice .full 0 []),(.slice .full 0 []),(.slice .full 0 []),(.slice .full 0 [])]), .op none none (.store bX cp 5)]) (.seq (.run [.o 17 (.aj bX 0), .o 18 (.load cW false 1), .o 19 (.aj bO 4), .o 20 (.load dh false 1), .o 21 (.bin .eql cQ dt)]) (.cond dB (.seq (.run [.o 22 (.aj bX 1), .o 23 (.load dI false 1), .o 24 (.aj bO 10), .o 25 (.load de false 1), .c 26 vI [dJ,di], .m 4 dX]) .ret) .skip))
abbrev amf:AC:= .seq (.cond bK .skip (.exit 0)) (.seq (.block 1 ame) (.run [.o 27 (.bin .add bS (.k (.int .i64 1))), .m 13 dY]))
abbrev amg:AC:= .seq (.run [.o 10 (.aj cZ 1), .o 11 (.load bD false 1), .o 12 (.len bV), .o 13 (.mv (.k (.int .i64 0)))]) (.block 0 (.loop (.seq (.run [.o 14 (.bin .lss bS bZ)]) amf)))
abbrev amh:AC:= .seq amg (.seq (.run [.o 4 (.mv (.k (.bool false)))]) .ret)
abbrev ami:AC:= .seq (.seq (.run [.o 7 (.aj bO 1), .o 8 (.load bW false 1), .o 9 (.bin .neq bU (.k (.int .i64 4)))]) amd) amh
abbrev amj:AC:= .seq (.run [.o 2 (.box aJ), .o 3 (.box a7), .o 4 (.mv (.k (.bool false)))]) ami
abbrev amk:AC:= .seq (.run [.o 3 (.load a7 true 2), .c 4 lR [bO], .o 5 (.uC dz 0 false 1), .o 6 (.bin .neq bk (.k (.int .i64 0)))]) (.cond bX (.seq (.run [.o 2 (.mv (.k .ek))]) .ret) .skip)
abbrev aml:AC:= .seq (.run [.o 1 (.box aJ), .o 2 (.mv (.k .ek))]) (.seq amk (.seq (.run [.o 7 (.load a7 true 2), .c 8 kY [bW], .m 2 bU]) .ret))
abbrev amm:AC:= .cond cp (.seq (.run [.m 17 aJ, .m 4 cW, .o 5 (.mv (.k (.bool false)))]) .ret) .skip
abbrev amn:AC:= .block 1 (.seq (.run [.o 12 (.cq bU bD 1), .o 13 (.load bZ false 1), .m 7 bS]) (.seq (.seq (.run [.m 14 aJ, .m 15 bW, .c 16 cB [bK,cy]]) amm) (.run [.m 18 aJ, .m 19 bW, .o 20 (.cG [(.str [])] 1 1 [(0,dh)]), .o 21 (.app 1 16 cQ dt), .m 0 dB])))
abbrev amo:AC:= .seq (.cond bV .skip (.exit 0)) (.seq amn (.run [.o 22 (.bin .add bD (.k (.int .i64 1))), .m 10 dI]))
abbrev amp:AC:= .seq (.run [.m 8 a7, .o 9 (.len bU), .o 10 (.mv (.k (.int .i64 0)))]) (.block 0 (.loop (.seq (.run [.o 11 (.bin .lss bD cu)]) amo)))
abbrev amq:AC:= .seq amp (.seq (.run [.m 23 aJ, .m 4 dJ, .o 5 (.mv (.k (.bool true)))]) .ret)
abbrev amr:AC:= .seq (.run [.o 4 (.mv (.k (.slice .full 0 []))), .o 5 (.mv (.k (.bool false)))]) amq
abbrev ams:AC:= .seq (.run [.o 11 (.bin .eql cu (.k (.int .i64 7))), .m 10 bV]) (.cond bD .skip (.run [.o 12 (.bin .eql cu (.k (.int .i64 8))), .m 10 bZ]))
abbrev amt:AC:= .cond bD (.seq (.run [.o 13 (.aj bO 16), .o 14 (.load bS false 1), .o 15 (.bin .neq bK (.k (.int .i64 0))), .m 4 cy]) .ret) (.seq (.run [.o 17 (.bin .eql cu (.k (.int .i64 10))), .m 16 cW]) (.cond cp (.seq (.run [.m 19 aJ, .o 20 (.aj bO 13), .o 21 (.load dt false 1), .o 22 (.aj bO 0), .o 23 (.aj dI 3), .o 24 (.load dJ false 1), .c 25 oN [dh,dB,de], .m 18 di, .o 26 (.ext cQ 0), .o 27 (.ext cQ 1), .m 5 dX, .m 6 dY]) (.seq (.run [.m 28 bX, .m 4 eN]) .ret)) .skip))
abbrev amu:AC:= .seq (.seq (.run [.o 7 (.aj bO 0), .o 8 (.aj bW 1), .o 9 (.load bU false 1)]) (.block 0 (.seq ams amt))) (.seq (.run [.o 4 (.mv (.k (.bool true)))]) .ret)
abbrev amv:AC:= .seq (.run [.o 3 (.box a7), .o 4 (.mv (.k (.bool false)))]) amu
abbrev amw:AC:= .cond cp (.seq (.run [.o 4 (.mv (.k (.slice .full 0 [])))]) .ret) .skip
abbrev amx:AC:= .seq (.run [.o 43 (.cq fR gf 1), .o 44 (.load ij false 1), .m 12 iN]) (.seq (.run [.o 45 (.aj cZ 0), .o 46 (.load jn false 1), .m 47 bZ, .c 48 cB [jo,jU]]) (.cond iF (.run [.m 49 bX, .m 50 bZ, .o 51 (.cG [(.str [])] 1 1 [(0,jV)]), .o 52 (.app 1 16 ja jq), .m 6 jr]) .skip))
abbrev amy:AC:= .seq (.cond ig .skip (.exit 4)) (.seq (.block 5 amx) (.run [.o 53 (.bin .add gf (.k (.int .i64 1))), .m 41 jt]))
abbrev amz:AC:= .seq (.run [.o 37 (.aj bD 0), .o 38 (.load fF true 13), .c 39 rN [fQ], .o 40 (.len fR), .o 41 (.mv (.k (.int .i64 0)))]) (.block 4 (.loop (.seq (.run [.o 42 (.bin .lss gf gv)]) amy)))
abbrev amA:AC:= .seq (.block 3 (.seq (.run [.o 35 (.cq eW eZ 17), .o 36 (.load fb true 17), .o 10 (.alloc [(.int .i64 0),(.int .i64 0),(.slice .full 0 []),(.str []),(.str []),(.int .i64 0),(.int .i64 0),(.str []),(.slice .full 0 []),(.bool false),(.slice .full 0 []),(.slice .full 0 []),(.slice .full 0 []),(.int .i64 0),(.int .i64 0),(.int .i64 0),(.int .i64 0)]), .op none none (.store bD fk 17)]) amz)) (.run [.o 54 (.bin .add eZ (.k (.int .i64 1))), .m 33 jW])
abbrev amB:AC:= .block 2 (.loop (.seq (.run [.o 34 (.bin .lss eZ fa)]) (.seq (.cond fj .skip (.exit 2)) amA)))
abbrev amC:AC:= .seq (.run [.o 25 (.cq dB dJ 1), .o 26 (.load di false 1), .m 8 dX]) (.seq (.run [.m 27 bk, .m 28 bk, .m 29 bU, .c 30 iE [eN,eK], .c 31 gP [dY,eV], .o 32 (.len eW), .o 33 (.mv (.k (.int .i64 0)))]) amB)
abbrev amD:AC:= .seq (.cond de .skip (.exit 0)) (.seq (.block 1 amC) (.run [.o 55 (.bin .add dJ (.k (.int .i64 1))), .m 23 jX]))
abbrev amE:AC:= .seq (.run [.m 19 bk, .m 20 a7, .c 21 xC [dh,dt], .o 22 (.len dB), .o 23 (.mv (.k (.int .i64 0)))]) (.block 0 (.loop (.seq (.run [.o 24 (.bin .lss dJ dI)]) amD)))
abbrev amF:AC:= .seq (.run [.o 17 (.load cZ true 2), .c 18 kY [cW], .m 5 cQ]) (.seq (.run [.o 6 (.mv (.k (.slice .full 0 [])))]) (.seq amE (.seq (.run [.m 56 bX, .c 57 jD [lE]]) (.seq (.run [.m 58 bX, .c 59 j7 [lN], .m 4 kO]) .ret))))
abbrev amG:AC:= .seq (.run [.o 2 (.box aJ), .o 4 (.mv (.k (.slice .full 0 [])))]) (.seq (.seq (.run [.o 13 (.load cZ true 2), .m 14 a7, .c 15 uk [bS,bK], .o 16 (.un .not cy)]) amw) amF)
abbrev amH:AC:= .cond fj (.seq (.run [.o 4 (.mv (.k (.bool false)))]) .ret) .skip
abbrev amI:AC:= .seq (.seq (.run [.m 18 bk, .o 19 (.aj bW 1), .o 20 (.load dh false 1), .c 21 cB [cQ,dt], .m 22 dB, .g 23 22 false (.aj bW 1), .g 24 22 false (.load dJ false 1), .g 25 22 false (.aj cZ 3), .g 26 22 false (.load di false 1), .g 27 22 false (.bin .eql de dX), .o 28 (.pick dI (.k (.bool true)) dY), .m 29 eN, .g 30 29 false (.mv a7), .g 31 29 false (.aj bW 1), .g 32 29 false (.load eW false 1), .d 33 29 false cB [eV,fa], .o 34 (.pick eK (.k (.bool true)) eZ)]) amH) (.run [.m 35 bk, .o 36 (.aj bW 1), .o 37 (.load fk false 1), .o 38 (.cG [(.str [])] 1 1 [(0,fF)]), .o 39 (.app 1 16 fb fQ), .m 5 fR])
abbrev amJ:AC:= .block 1 (.seq (.run [.o 13 (.cq cu bV 6), .o 14 (.load bS true 6), .o 7 (.alloc [(.bool false),(.str []),(.int .i64 0),(.int .i64 0),(.str []),(.slice .full 0 [])]), .op none none (.store bW bK 6)]) (.seq (.seq (.run [.o 15 (.aj bW 0), .o 16 (.load cy false 1), .o 17 (.un .not cp)]) (.cond cW (.exit 1) .skip)) amI))
abbrev amK:AC:= .seq (.cond bZ .skip (.exit 0)) (.seq amJ (.run [.o 40 (.bin .add bV (.k (.int .i64 1))), .m 11 gv]))
abbrev amL:AC:= .seq (.run [.o 8 (.aj cZ 10), .o 9 (.load bU false 1), .o 10 (.len cu), .o 11 (.mv (.k (.int .i64 0)))]) (.block 0 (.loop (.seq (.run [.o 12 (.bin .lss bV bD)]) amK)))
abbrev amM:AC:= .seq amL (.seq (.run [.o 4 (.mv (.k (.bool true)))]) .ret)
abbrev amN:AC:= .seq (.run [.o 2 (.box aJ), .o 4 (.mv (.k (.bool false)))]) (.seq (.run [.o 5 (.mv (.k (.slice .full 0 [])))]) amM)
abbrev amO:AC:= .seq (.run [.o 2 (.mv (.k (.bool false)))]) (.seq (.run [.m 3 aJ, .o 4 (.bin .geq bO (.k (.int .u8 97))), .m 5 dz, .g 6 5 true (.mv aJ), .g 7 5 true (.bin .leq bX (.k (.int .u8 122))), .o 8 (.pick bk bW (.k (.bool false))), .m 2 bU]) .ret)
abbrev amP:AC:= .seq (.seq (.run [.m 5 a7, .m 6 aJ, .o 7 (.nK bX), .o 8 (.bin .lss bk bW), .m 9 bU, .g 10 9 true (.mv aJ), .g 11 9 true (.mv a7), .g 12 9 true (.oU bD bV), .d 13 9 true pg [bZ], .g 14 9 true (.mv bS), .g 15 14 false (.mv aJ), .g 16 14 false (.mv a7), .g 17 14 false (.oU cy cp), .d 18 14 false qk [cW], .g 19 9 true (.pick bK (.k (.bool true)) cQ), .o 20 (.pick cu dh (.k (.bool false)))]) (.cond dt .skip (.exit 0))) (.block 1 (.run [.m 21 a7, .o 22 (.bin .add dB (.k (.int .i64 1))), .m 1 dI]))
abbrev amQ:AC:= .seq (.run [.o 4 (.mv (.k (.int .i64 0)))]) (.seq (.block 0 (.loop amP)) (.seq (.run [.m 23 a7, .m 4 dJ]) .ret))
abbrev amR:AC:= .seq (.run [.o 16 (.bin .eql bO (.k (.str [114,101,97,100]))), .m 4 cp]) (.cond dz .skip (.run [.o 17 (.bin .eql bO (.k (.str [112,114,105,110,116]))), .m 4 cW]))
abbrev amS:AC:= .cond dz .skip (.seq (.run [.o 15 (.bin .eql bO (.k (.str [103,111,116,111]))), .m 4 cy]) (.cond dz .skip amR))
abbrev amT:AC:= .cond dz .skip (.seq (.run [.o 14 (.bin .eql bO (.k (.str [114,101,116,117,114,110]))), .m 4 bK]) amS)
abbrev amU:AC:= .cond dz .skip (.seq (.run [.o 13 (.bin .eql bO (.k (.str [99,111,110,116,105,110,117,101]))), .m 4 bS]) amT)
abbrev amV:AC:= .cond dz .skip (.seq (.run [.o 12 (.bin .eql bO (.k (.str [98,114,101,97,107]))), .m 4 bZ]) amU)
abbrev amW:AC:= .cond dz .skip (.seq (.run [.o 11 (.bin .eql bO (.k (.str [119,104,105,108,101]))), .m 4 bV]) amV)
abbrev amX:AC:= .cond dz .skip (.seq (.run [.o 10 (.bin .eql bO (.k (.str [101,108,115,101]))), .m 4 bD]) amW)
abbrev amY:AC:= .cond dz .skip (.seq (.run [.o 9 (.bin .eql bO (.k (.str [105,102]))), .m 4 cu]) amX)
abbrev amZ:AC:= .cond dz .skip (.seq (.run [.o 8 (.bin .eql bO (.k (.str [114,101,102]))), .m 4 bU]) amY)
abbrev am0:AC:= .cond dz .skip (.seq (.run [.o 7 (.bin .eql bO (.k (.str [118,97,114]))), .m 4 bW]) amZ)
abbrev am1:AC:= .cond dz .skip (.seq (.run [.o 6 (.bin .eql bO (.k (.str [112,114,111,99]))), .m 4 bX]) am0)
abbrev am2:AC:= .cond dz (.seq (.run [.o 2 (.mv (.k (.bool true)))]) .ret) .skip
abbrev am3:AC:= .seq (.seq (.run [.o 5 (.bin .eql bO (.k (.str [103,108,111,98,97,108]))), .m 4 bk]) am1) am2
abbrev am4:AC:= .seq (.seq (.run [.m 3 aJ]) (.block 0 am3)) (.seq (.run [.o 2 (.mv (.k (.bool false)))]) .ret)
abbrev am5:AC:= .seq (.run [.o 2 (.mv (.k (.bool false)))]) am4
abbrev am6:AC:= .par [.o 10 (.aj a7 9), .o 11 (.load bD false 1), .o 3 (.mv (.k (.bool false))), .o 4 (.mv (.k (.bool false))), .o 5 (.mv (.k (.bool false))), .m 6 bV, .o 7 (.mv (.k (.bool false))), .o 8 (.mv (.k (.bool false)))] [(0,0),(1,0),(2,0),(3,0),(4,0),(5,0),(6,0),(7,0)]
abbrev am7:AC:= .seq (.run [.o 20 (.bin .eql cp (.k (.int .i64 2))), .m 19 dt]) (.cond dh .skip (.run [.o 21 (.bin .eql cp (.k (.int .i64 10))), .m 19 dB]))
abbrev am8:AC:= .seq (.run [.o 38 (.bin .eql cp (.k (.int .i64 7))), .m 37 fQ]) (.cond fF .skip (.run [.o 39 (.bin .eql cp (.k (.int .i64 8))), .m 37 fR]))
abbrev am9:AC:= .cond fF .skip (.seq (.run [.o 2 (.mv (.k (.bool false)))]) .ret)
abbrev ana:AC:= .seq (.run [.o 34 (.bin .eql cp (.k (.int .i64 9))), .m 33 fj]) (.cond eZ (.run [.o 35 (.aj a7 9), .o 36 (.load fb false 1), .m 5 fk, .o 6 (.mv (.k (.bool false)))]) (.seq am8 am9))
abbrev anb:AC:= .seq (.run [.o 32 (.bin .eql cp (.k (.int .i64 6))), .m 31 fa]) (.cond eW (.run [.o 5 (.mv (.k (.bool true))), .o 7 (.mv (.k (.bool true)))]) ana)
abbrev anc:AC:= .seq (.run [.o 30 (.bin .eql cp (.k (.int .i64 5))), .m 29 eV]) (.cond eK (.run [.o 5 (.mv (.k (.bool true))), .o 7 (.mv (.k (.bool true))), .o 8 (.mv (.k (.bool true)))]) anb)
abbrev ane:AC:= .seq (.run [.o 25 (.bin .eql cp (.k (.int .i64 4))), .m 24 di]) (.cond de (.run [.o 26 (.aj a7 3), .o 27 (.load dX false 1), .o 28 (.bin .neq dY (.k (.str []))), .m 3 eN, .o 4 (.mv (.k (.bool true)))]) anc)
abbrev anf:AC:= .seq (.run [.o 23 (.bin .eql cp (.k (.int .i64 3))), .m 22 dJ]) (.cond dI (.run [.o 5 (.mv (.k (.bool true)))]) ane)
abbrev ang:AC:= .seq am7 (.cond dh (.run [.o 3 (.mv (.k (.bool true)))]) anf)
abbrev anh:AC:= .seq (.run [.o 18 (.bin .eql cp (.k (.int .i64 1))), .m 17 cQ]) (.cond cW (.run [.o 3 (.mv (.k (.bool true))), .o 5 (.mv (.k (.bool true)))]) ang)
abbrev ani:AC:= .run [.m 40 bX, .m 41 gv, .g 42 41 false (.mv bW), .g 43 41 false (.un .not ig), .g 44 41 false (.mv ij), .g 45 44 true (.aj a7 11), .g 46 44 true (.load jn false 1), .g 47 44 true (.len jo), .g 48 44 true (.bin .gtr jU (.k (.int .i64 0))), .g 49 41 false (.pick iN iF (.k (.bool false))), .o 50 (.pick gf (.k (.bool true)) ja), .m 51 jV, .g 52 51 false (.mv bU), .g 53 51 false (.un .not jr), .g 54 51 false (.mv jt), .g 55 54 true (.aj a7 12), .g 56 54 true (.load jX false 1), .g 57 54 true (.len lE), .g 58 54 true (.bin .gtr mA (.k (.int .i64 0))), .g 59 51 false (.pick jW lN (.k (.bool false))), .o 60 (.pick jq (.k (.bool true)) kO), .m 61 nW, .g 62 61 false (.mv cu), .g 63 61 false (.un .not oE), .g 64 61 false (.mv oG), .g 65 64 true (.aj a7 10), .g 66 64 true (.load rR false 1), .g 67 64 true (.len sD), .g 68 64 true (.bin .gtr sE (.k (.int .i64 0))), .g 69 61 false (.pick p8 rS (.k (.bool false))), .o 70 (.pick oD (.k (.bool true)) ur)]
abbrev anj:AC:= .cond sF (.seq (.run [.o 2 (.mv (.k (.bool false)))]) .ret) .skip
abbrev ank:AC:= .cond zD (.seq (.run [.o 2 (.mv (.k (.bool false)))]) .ret) .skip
abbrev ad7:AC:= .seq (.seq (.run [.o 71 (.aj a7 3), .o 72 (.load xF false 1), .m 73 bO, .c 74 ph [vM,vN], .o 75 (.un .not xG), .m 76 xH, .g 77 76 false (.aj a7 4), .g 78 76 false (.load xI false 1), .g 79 76 false (.mv dz), .d 80 76 false ph [vP,BD], .g 81 76 false (.un .not BE), .o 82 (.pick vO (.k (.bool true)) BF), .m 83 DW, .g 84 83 false (.aj a7 5), .g 85 83 false (.load DY true 4), .g 86 83 false (.mv bk), .d 87 83 false rO [DZ,D0], .g 88 83 false (.un .not D1), .o 89 (.pick DX (.k (.bool true)) D2)]) ank) (.seq (.run [.o 90 (.aj a7 10), .o 91 (.load BG false 1), .c 92 um [D3], .m 2 Gf]) .ret)
abbrev ad8:AC:= .seq (.seq ani anj) ad7
abbrev Wz:AC:= .seq (.seq (.run [.o 15 (.aj a7 1), .o 16 (.load cy false 1)]) (.block 0 anh)) ad8
abbrev ad9:AC:= .seq (.run [.o 12 (.aj a7 1), .o 13 (.load bZ false 1), .o 14 (.bin .eql bS (.k (.int .i64 4))), .m 9 bK]) Wz
abbrev aea:AC:= .seq am6 ad9
abbrev anl:AC:= .seq (.run [.o 1 (.box aJ), .o 2 (.mv (.k (.bool false)))]) aea
abbrev anm:AC:= .par [.o 15 (.aj a7 3), .o 16 (.load cy false 1), .o 17 (.load bk true 4), .c 18 my [cW], .o 19 (.cG [(.int .i64 0),(.int .i64 0),(.str []),(.slice .full 0 [])] 4 1 [(0,cQ)]), .o 20 (.app 4 56 cp dh), .o 21 (.aj a7 3), .op none none (.store dB dt 1)] [(2,0),(3,0),(0,0),(1,1),(4,0),(5,0),(6,0),(7,0)]
abbrev ann:AC:= .seq (.block 1 (.seq (.run [.o 13 (.cq cu bV 4), .o 14 (.load bS true 4), .o 5 (.alloc [(.int .i64 0),(.int .i64 0),(.str []),(.slice .full 0 [])]), .op none none (.store bk bK 4)]) anm)) (.run [.o 22 (.bin .add bV (.k (.int .i64 1))), .m 11 dI])
abbrev ano:AC:= .block 0 (.loop (.seq (.run [.o 12 (.bin .lss bV bD)]) (.seq (.cond bZ .skip (.exit 0)) ann)))
abbrev anp:AC:= .seq (.seq (.run [.m 9 bO, .o 10 (.len cu), .o 11 (.mv (.k (.int .i64 0)))]) ano) (.seq (.run [.o 23 (.load a7 true 4), .op none none (.store cZ dJ 4)]) .ret)
abbrev anq:AC:= .seq (.run [.o 6 (.aj a7 3), .o 7 (.load bX false 1), .m 3 bW]) (.seq (.run [.o 8 (.aj a7 3), .op none none (.store bU (.k (.slice .full 0 [])) 1)]) anp)
abbrev anr:AC:= .seq (.run [.o 1 (.box aJ), .o 2 (.alloc [(.int .i64 0),(.int .i64 0),(.str []),(.slice .full 0 [])])]) anq
abbrev ans:AC:= .cond cW (.seq (.run [.o 2 (.mv (.k (.int .i64 2)))]) .ret) .skip
abbrev ant:AC:= .cond bD (.seq (.run [.o 2 (.mv (.k (.int .i64 1)))]) .ret) (.seq (.run [.m 18 aJ, .o 19 (.bin .geq cQ (.k (.int .i64 5))), .m 20 dh, .g 21 20 true (.mv aJ), .g 22 20 true (.bin .leq dB (.k (.int .i64 17))), .o 23 (.pick dt dI (.k (.bool false))), .m 17 dJ]) ans)
abbrev anu:AC:= .cond bO (.seq (.run [.o 2 (.mv (.k (.int .i64 0)))]) .ret) (.seq (.run [.m 11 aJ, .o 12 (.bin .eql bV (.k (.int .i64 3))), .m 13 bZ, .g 14 13 false (.mv aJ), .g 15 13 false (.bin .eql bK (.k (.int .i64 4))), .o 16 (.pick bS (.k (.bool true)) cy), .m 10 cp]) ant)
abbrev anv:AC:= .block 0 (.seq (.run [.m 4 aJ, .o 5 (.bin .eql dz (.k (.int .i64 1))), .m 6 bk, .g 7 6 false (.mv aJ), .g 8 6 false (.bin .eql bW (.k (.int .i64 2))), .o 9 (.pick bX (.k (.bool true)) bU), .m 3 cu]) anu)
abbrev anw:AC:= .seq (.run [(.o 2 (.mv (.k (.int .i64 (-1)))))]) .ret
abbrev anx:AC:= .seq (.run [.o 2 (.mv (.k (.int .i64 0)))]) (.seq anv anw)
abbrev anz:AC:= .cond bO (.seq (.run [.o 2 (.mv (.k (.int .i64 1)))]) .ret) .skip
abbrev anA:AC:= .seq (.seq (.run [.m 3 aJ]) anz) (.seq (.run [.o 2 (.mv (.k (.int .i64 0)))]) .ret)
abbrev anB:AC:= .seq (.run [.o 2 (.mv (.k (.int .i64 0)))]) anA
abbrev anC:AC:= .cond cu (.seq (.run [.o 6 (.mv (.k (.int .i64 0))), .o 7 (.mv (.k (.bool false)))]) .ret) .skip
abbrev anD:AC:= .cond bS (.seq (.run [.o 6 (.mv (.k (.int .i64 0))), .o 7 (.mv (.k (.bool true)))]) .ret) .skip
abbrev anE:AC:= .cond cy (.seq (.run [.m 16 a7, .m 6 cp, .o 7 (.mv (.k (.bool true)))]) .ret) .skip
abbrev anF:AC:= .seq (.run [.m 14 a7,(.o 15 (.bin .eql bK (.k (.int .i64 (-9223372036854775808)))))]) anE
abbrev anG:AC:= .seq anF (.seq (.run [.m 17 a7, .o 18 (.bin .sub (.k (.int .i64 0)) cW), .m 6 cQ, .o 7 (.mv (.k (.bool true)))]) .ret)
abbrev anH:AC:= .seq (.seq (.run [.m 12 aJ, .o 13 (.bin .eql bZ (.k (.int .i64 7)))]) anD) anG
abbrev anI:AC:= .seq (.run [.m 10 cZ,(.o 11 (.bin .eql bD (.k (.int .i64 (-1)))))]) (.cond bV anH .skip)
abbrev anJ:AC:= .cond dt (.seq (.run [.m 21 a7, .m 22 cZ, .o 23 (.bin .rem dB dI), .m 6 dJ, .o 7 (.mv (.k (.bool true)))]) .ret) .skip
abbrev anK:AC:= .seq (.seq (.run [.m 19 aJ, .o 20 (.bin .eql dh (.k (.int .i64 7)))]) anJ) (.seq (.run [.m 24 a7, .m 25 cZ, .o 26 (.bin .quo de di), .m 6 dX, .o 7 (.mv (.k (.bool true)))]) .ret)
abbrev anL:AC:= .seq (.seq (.run [.m 8 cZ, .o 9 (.bin .eql bU (.k (.int .i64 0)))]) anC) (.seq anI anK)
abbrev anM:AC:= .seq (.run [.o 6 (.mv (.k (.int .i64 0))), .o 7 (.mv (.k (.bool false)))]) anL
abbrev anN:AC:= .cond fR (.seq (.run [.m 41 a7, .m 42 cZ, .o 43 (.bin .neq gf ig), .c 44 jB [ij], .m 6 iN, .o 7 (.mv (.k (.bool true)))]) .ret) .skip
abbrev anO:AC:= .cond eZ (.seq (.run [.m 35 a7, .m 36 cZ, .o 37 (.bin .eql fb fk), .c 38 jB [fF], .m 6 fQ, .o 7 (.mv (.k (.bool true)))]) .ret) (.seq (.run [.o 40 (.bin .eql bU (.k (.int .i64 15))), .m 39 gv]) anN)
abbrev anP:AC:= .cond dY (.seq (.run [.m 29 a7, .m 30 cZ, .o 31 (.bin .geq eK eV), .c 32 jB [eW], .m 6 fa, .o 7 (.mv (.k (.bool true)))]) .ret) (.seq (.run [.o 34 (.bin .eql bU (.k (.int .i64 14))), .m 33 fj]) anO)
abbrev anQ:AC:= .cond dB (.seq (.run [.m 23 a7, .m 24 cZ, .o 25 (.bin .gtr dJ de), .c 26 jB [di], .m 6 dX, .o 7 (.mv (.k (.bool true)))]) .ret) (.seq (.run [.o 28 (.bin .eql bU (.k (.int .i64 13))), .m 27 eN]) anP)
abbrev anR:AC:= .cond cy (.seq (.run [.m 17 a7, .m 18 cZ, .o 19 (.bin .leq cW cQ), .c 20 jB [dh], .m 6 dt, .o 7 (.mv (.k (.bool true)))]) .ret) (.seq (.run [.o 22 (.bin .eql bU (.k (.int .i64 12))), .m 21 dI]) anQ)
abbrev anS:AC:= .cond cu (.seq (.run [.m 11 a7, .m 12 cZ, .o 13 (.bin .lss bV bZ), .c 14 jB [bS], .m 6 bK, .o 7 (.mv (.k (.bool true)))]) .ret) (.seq (.run [.o 16 (.bin .eql bU (.k (.int .i64 11))), .m 15 cp]) anR)
abbrev anT:AC:= .block 0 (.seq (.run [.o 10 (.bin .eql bU (.k (.int .i64 10))), .m 9 bD]) anS)
abbrev anU:AC:= .seq (.seq (.run [.m 8 aJ]) anT) (.seq (.run [.o 6 (.mv (.k (.int .i64 0))), .o 7 (.mv (.k (.bool false)))]) .ret)
abbrev anV:AC:= .seq (.run [.o 6 (.mv (.k (.int .i64 0))), .o 7 (.mv (.k (.bool false)))]) anU
abbrev anW:AC:= .seq (.block 1 (.seq (.run [.o 13 (.cq cu bV 13), .o 14 (.load bS true 13), .o 5 (.alloc [(.int .i64 0),(.int .i64 0),(.slice .full 0 []),(.str []),(.str []),(.int .i64 0),(.int .i64 0),(.str []),(.slice .full 0 []),(.bool false),(.slice .full 0 []),(.slice .full 0 []),(.slice .full 0 [])]), .op none none (.store bk bK 13)]) (.run [.m 15 bO, .o 16 (.load bk true 13), .c 17 mz [cp], .o 18 (.bin .add cy cW), .m 3 cQ]))) (.run [.o 19 (.bin .add bV (.k (.int .i64 1))), .m 11 dh])
abbrev anX:AC:= .block 0 (.loop (.seq (.run [.o 12 (.bin .lss bV bD)]) (.seq (.cond bZ .skip (.exit 0)) anW)))
abbrev anY:AC:= .seq (.block 3 (.seq (.run [.o 25 (.cq dB dJ 13), .o 26 (.load di true 13), .o 7 (.alloc [(.int .i64 0),(.int .i64 0),(.slice .full 0 []),(.str []),(.str []),(.int .i64 0),(.int .i64 0),(.str []),(.slice .full 0 []),(.bool false),(.slice .full 0 []),(.slice .full 0 []),(.slice .full 0 [])]), .op none none (.store bW dX 13)]) (.run [.m 27 bO, .o 28 (.load bW true 13), .c 29 mz [eN], .o 30 (.bin .add dY eK), .m 3 eV]))) (.run [.o 31 (.bin .add dJ (.k (.int .i64 1))), .m 23 eW])
abbrev anZ:AC:= .block 2 (.loop (.seq (.run [.o 24 (.bin .lss dJ dI)]) (.seq (.cond de .skip (.exit 2)) anY)))
abbrev an0:AC:= .seq (.seq (.run [.o 20 (.aj a7 12), .o 21 (.load dt false 1), .o 22 (.len dB), .o 23 (.mv (.k (.int .i64 0)))]) anZ) (.seq (.run [.m 32 bO, .m 2 fa]) .ret)
abbrev an1:AC:= .seq (.seq (.run [.o 8 (.aj a7 11), .o 9 (.load bU false 1), .o 10 (.len cu), .o 11 (.mv (.k (.int .i64 0)))]) anX) an0
abbrev an2:AC:= .seq (.run [.o 1 (.box aJ), .o 2 (.mv (.k (.int .i64 0)))]) (.seq (.run [.o 3 (.mv (.k (.int .i64 1)))]) an1)
abbrev an3:AC:= .seq (.run [.o 4 (.mv (.k (.bool false)))]) (.seq (.run [.m 5 aJ, .m 6 a7, .c 7 pj [bk,bX], .o 8 (.bin .geq bW (.k (.int .i64 0))), .m 4 bU]) .ret)
abbrev an4:AC:= .seq (.run [.o 2 (.mv (.k (.bool false)))]) (.seq (.run [.m 3 aJ, .o 4 (.bin .geq bO (.k (.int .u8 48))), .m 5 dz, .g 6 5 true (.mv aJ), .g 7 5 true (.bin .leq bX (.k (.int .u8 57))), .o 8 (.pick bk bW (.k (.bool false))), .m 2 bU]) .ret)
abbrev an5:AC:= .seq (.run [.o 20 (.bin .eql bK (.k (.str [38,38]))), .m 15 dt]) (.cond cy .skip (.run [.o 21 (.bin .eql bK (.k (.str [124,124]))), .m 15 dB]))
abbrev an6:AC:= .cond cy .skip (.seq (.run [.o 19 (.bin .eql bK (.k (.str [62,61]))), .m 15 dh]) (.cond cy .skip an5))
abbrev an7:AC:= .cond cy .skip (.seq (.run [.o 18 (.bin .eql bK (.k (.str [60,61]))), .m 15 cQ]) an6)
abbrev an8:AC:= .cond cy .skip (.seq (.run [.o 17 (.bin .eql bK (.k (.str [33,61]))), .m 15 cW]) an7)
abbrev an9:AC:= .cond cy (.seq (.run [.o 4 (.mv (.k (.int .i64 2)))]) .ret) .skip
abbrev aoa:AC:= .seq (.seq (.run [.o 16 (.bin .eql bK (.k (.str [61,61]))), .m 15 cp]) an8) an9
abbrev aob:AC:= .cond cu (.seq (.run [.m 10 aJ, .m 11 a7, .m 12 a7, .o 13 (.bin .add bZ (.k (.int .i64 2))), .o 14 (.zb bD (some bV) (some bS))]) (.block 0 aoa)) .skip
abbrev aoc:AC:= .seq (.run [.o 40 (.bin .eql de (.k (.int .u8 47))), .m 25 gv]) (.cond di .skip (.run [.o 41 (.bin .eql de (.k (.int .u8 37))), .m 25 gf]))
abbrev aod:AC:= .cond di .skip (.seq (.run [.o 39 (.bin .eql de (.k (.int .u8 42))), .m 25 fR]) (.cond di .skip aoc))
abbrev aoe:AC:= .cond di .skip (.seq (.run [.o 38 (.bin .eql de (.k (.int .u8 45))), .m 25 fQ]) aod)
abbrev aof:AC:= .cond di .skip (.seq (.run [.o 37 (.bin .eql de (.k (.int .u8 43))), .m 25 fF]) aoe)
abbrev aog:AC:= .cond di .skip (.seq (.run [.o 36 (.bin .eql de (.k (.int .u8 62))), .m 25 fk]) aof)
abbrev aoh:AC:= .cond di .skip (.seq (.run [.o 35 (.bin .eql de (.k (.int .u8 60))), .m 25 fb]) aog)
abbrev aoi:AC:= .cond di .skip (.seq (.run [.o 34 (.bin .eql de (.k (.int .u8 33))), .m 25 fj]) aoh)
abbrev aoj:AC:= .cond di .skip (.seq (.run [.o 33 (.bin .eql de (.k (.int .u8 61))), .m 25 eZ]) aoi)
abbrev aok:AC:= .cond di .skip (.seq (.run [.o 32 (.bin .eql de (.k (.int .u8 58))), .m 25 fa]) aoj)
abbrev aol:AC:= .cond di .skip (.seq (.run [.o 31 (.bin .eql de (.k (.int .u8 59))), .m 25 eW]) aok)
abbrev aom:AC:= .cond di .skip (.seq (.run [.o 30 (.bin .eql de (.k (.int .u8 44))), .m 25 eV]) aol)
abbrev aon:AC:= .cond di .skip (.seq (.run [.o 29 (.bin .eql de (.k (.int .u8 125))), .m 25 eK]) aom)
abbrev aoo:AC:= .cond di .skip (.seq (.run [.o 28 (.bin .eql de (.k (.int .u8 123))), .m 25 eN]) aon)
abbrev aop:AC:= .cond di .skip (.seq (.run [.o 27 (.bin .eql de (.k (.int .u8 41))), .m 25 dY]) aoo)
abbrev aoq:AC:= .cond di (.seq (.run [.o 4 (.mv (.k (.int .i64 1)))]) .ret) .skip
abbrev aor:AC:= .seq (.seq (.run [.o 26 (.bin .eql de (.k (.int .u8 40))), .m 25 dX]) aop) aoq
abbrev aos:AC:= .seq (.seq (.run [.m 22 aJ, .m 23 a7, .o 24 (.oU dI dJ)]) (.block 1 aor)) (.seq (.run [.o 4 (.mv (.k (.int .i64 0)))]) .ret)
abbrev aot:AC:= .seq (.seq (.run [.m 5 a7, .o 6 (.bin .add bk (.k (.int .i64 1))), .m 7 aJ, .o 8 (.nK bW), .o 9 (.bin .lss bX bU)]) aob) aos
abbrev aou:AC:= .seq (.run [.o 4 (.mv (.k (.int .i64 0)))]) aot
abbrev aov:AC:= .cond dI (.seq (.run [.o 2 (.mv (.k (.int .i64 0))), .o 3 (.mv (.k (.bool false)))]) .ret) .skip
abbrev aow:AC:= .seq (.seq (.run [.m 18 dz, .m 19 bX, .o 20 (.bin .sub (.k (.int .i64 9223372036854775807)) dh), .o 21 (.bin .quo dt (.k (.int .i64 10))), .o 22 (.bin .gtr cQ dB)]) aov) (.run [.m 23 dz, .o 24 (.bin .mul dJ (.k (.int .i64 10))), .m 25 bX, .o 26 (.bin .add de di), .m 4 dX])
abbrev aox:AC:= .block 1 (.seq (.run [.m 13 aJ, .m 14 bk, .o 15 (.oU bS bK), .o 16 (.bin .sub cy (.k (.int .u8 48))), .o 17 (.conv .i64 cp), .m 6 cW]) aow)
abbrev aoy:AC:= .seq (.seq (.run [.m 7 bk, .m 8 aJ, .o 9 (.nK bU), .o 10 (.bin .lss bW cu)]) (.cond bD .skip (.exit 0))) (.seq aox (.run [.m 11 bk, .o 12 (.bin .add bV (.k (.int .i64 1))), .m 5 bZ]))
abbrev aoz:AC:= .seq (.seq (.run [.o 5 (.mv (.k (.int .i64 0)))]) (.block 0 (.loop aoy))) (.seq (.run [.m 27 dz, .m 2 dY, .o 3 (.mv (.k (.bool true)))]) .ret)
abbrev aoA:AC:= .seq (.run [.o 2 (.mv (.k (.int .i64 0))), .o 3 (.mv (.k (.bool false)))]) (.seq (.run [.o 4 (.mv (.k (.int .i64 0)))]) aoz)
abbrev aoB:AC:= .cond bS (.seq (.run [.o 4 (.mv (.k (.bool false)))]) .ret) .skip
abbrev aoC:AC:= .seq (.run [.m 14 aJ, .o 15 (.bq bK), .o 16 (.aj cy 1), .o 17 (.load cp false 1), .o 18 (.bin .add cW (.k (.int .i64 1))), .o 19 (.bq bK), .o 20 (.aj dh 1), .op none none (.store dt cQ 1)]) (.seq (.run [.o 4 (.mv (.k (.bool true)))]) .ret)
abbrev aoD:AC:= .seq (.seq (.run [.m 5 aJ, .c 6 c6 [bk], .o 7 (.un .not bX), .m 8 bW, .g 9 8 false (.mv aJ), .g 10 8 false (.mv a7), .d 11 8 false fA [cu,bD], .g 12 8 false (.un .not bV), .o 13 (.pick bU (.k (.bool true)) bZ)]) aoB) aoC
abbrev aoE:AC:= .seq (.run [.o 4 (.mv (.k (.bool false)))]) aoD
abbrev aoF:AC:= .cond dt (.seq (.run [.m 21 aJ,(.c 22 dv [dB,(.k (.str [59]))])]) (.seq (.run [.m 23 a7, .m 6 dJ]) .ret)) .skip
abbrev aoG:AC:= .seq (.run [.m 9 a7, .m 10 aJ, .m 11 a7, .o 12 (.len bV), .m 13 cZ, .o 14 (.bin .lss bZ bS), .c 15 eP [bD,bK], .o 16 (.cG [(.str [])] 1 1 [(0,cy)]), .o 17 (.app 1 16 cu cp), .m 1 cW]) (.seq (.run [.m 18 aJ,(.c 19 dN [cQ,(.k (.str [44]))]), .o 20 (.un .not dh)]) aoF)
abbrev aoH:AC:= .block 0 (.loop (.seq (.seq (.run [.m 7 aJ, .c 8 c6 [bW]]) (.cond bU .skip (.exit 0))) (.block 1 aoG)))
abbrev aoI:AC:= .seq (.run [.o 6 (.mv (.k (.slice .full 0 [])))]) (.seq aoH (.seq (.run [.m 24 a7, .m 6 de]) .ret))
abbrev aoJ:AC:= .seq (.run [.o 2 (.mv (.k (.bool false)))]) (.seq (.run [.m 3 aJ, .o 4 (.bq bO), .o 5 (.aj dz 2), .o 6 (.aj bk 0), .o 7 (.load bX false 1), .o 8 (.bin .eql bW (.k (.int .i64 0))), .m 2 bU]) .ret)
abbrev aoK:AC:= .seq (.run [.m 6 aJ, .c 7 dO [bX], .o 5 (.alloc [(.int .i64 0),(.str []),(.int .i64 0),(.int .i64 0)]), .op none none (.store bk bW 4)]) (.seq (.run [.o 8 (.aj bk 0), .o 9 (.load bU false 1), .o 10 (.bin .eql cu (.k (.int .i64 3))), .m 11 bD, .g 12 11 false (.aj bk 0), .g 13 11 false (.load bZ false 1), .g 14 11 false (.bin .eql bS (.k (.int .i64 4))), .o 15 (.pick bV (.k (.bool true)) bK), .m 16 cy, .g 17 16 true (.aj bk 1), .g 18 16 true (.load cW false 1), .g 19 16 true (.mv a7), .g 20 16 true (.bin .eql cQ dh), .o 21 (.pick cp dt (.k (.bool false))), .m 4 dB]) .ret)
abbrev aoL:AC:= .seq (.run [.o 4 (.mv (.k (.bool false)))]) aoK
abbrev aoM:AC:= .seq (.run [.m 4 aJ, .c 5 c6 [dz]]) (.cond bk (.run [.m 6 aJ, .m 7 a7, .m 8 aJ, .c 9 dO [bU], .o 10 (.uC cu 3 false 1), .o 11 (.build [(.int .i64 0),(.int .i64 0)] [(0,(1,bW)),(1,(1,bD))]), .o 12 (.bq bX), .o 13 (.aj bZ 2), .op none none (.store bS bV 2)]) .skip)
abbrev aoN:AC:= .par [.o 21 (.aj bO 1), .o 22 (.load dB false 1), .m 23 aJ, .o 24 (.aj bO 1), .o 25 (.load de false 1), .o 26 (.len di), .o 27 (.bin .lss dX (.k (.int .i64 8))), .c 28 eP [dJ,dY], .m 29 dz, .o 30 (.build [(.str []),(.bool false)] [(0,(1,eN)),(1,(1,eK))]), .o 31 (.cG [(.str []),(.bool false)] 2 1 [(0,eV)]), .o 32 (.app 2 24 dI eW), .o 33 (.aj bO 1), .op none none (.store eZ fa 1)] [(2,0),(3,0),(4,0),(5,0),(6,0),(7,0),(0,0),(1,1),(8,0),(9,0),(10,0),(11,0),(12,0),(13,0)]
abbrev aoO:AC:= .seq aoN (.seq (.run [.m 34 aJ,(.c 35 dN [fj,(.k (.str [44]))]), .o 36 (.un .not fb)]) (.cond fk (.exit 0) .skip))
abbrev aoP:AC:= .block 1 (.seq (.run [.m 19 aJ,(.c 20 dN [dh,(.k (.str [114,101,102]))]), .m 4 dt]) aoO)
abbrev aoQ:AC:= .block 0 (.loop (.seq (.seq (.run [.m 17 aJ, .c 18 c6 [cW]]) (.cond cQ .skip (.exit 0))) aoP))
abbrev aeb:AC:= .seq (.seq (.run [.m 41 aJ,(.c 42 dN [gf,(.k (.str [118,97,114]))])]) (.cond ig .skip (.exit 2))) (.block 3 (.run [.m 43 aJ, .o 44 (.aj bO 2), .o 45 (.load iN false 1), .c 46 jC [ij,jn,(.k (.int .i64 16))], .o 47 (.aj bO 2), .op none none (.store jU jo 1)]))
abbrev aec:AC:= .seq (.run [.m 49 aJ, .c 50 gH [ja,(.k (.int .i64 1)),(.k (.bool true))], .m 48 jV, .o 51 (.ext iF 0), .o 52 (.ext iF 1), .o 53 (.aj bO 3), .op none none (.store jt jq 1), .o 54 (.aj bO 4), .op none none (.store jW jr 1)]) (.seq (.run [.o 55 (.load bO true 5), .op none none (.store cZ jX 5)]) .ret)
abbrev aoR:AC:= .seq (.run [.m 37 aJ,(.c 38 dv [fF,(.k (.str [41]))])]) (.seq (.run [.m 39 aJ,(.c 40 dv [fR,(.k (.str [123]))])]) (.seq (.block 2 (.loop aeb)) aec))
abbrev aoS:AC:= .seq (.seq (.run [.m 10 aJ, .c 11 c6 [bD], .m 12 bV, .g 13 12 true (.mv aJ),(.d 14 12 true fA [bS,(.k (.str [41]))]), .g 15 12 true (.un .not bK), .o 16 (.pick bZ cy (.k (.bool false)))]) (.cond cp aoQ .skip)) aoR
abbrev aoT:AC:= .seq (.run [.m 5 aJ, .c 6 eP [bk,(.k (.bool true))], .o 7 (.build [(.str []),(.slice .full 0 []),(.slice .full 0 []),(.slice .full 0 []),(.slice .full 0 [])] [(0,(1,bX))]), .o 3 (.alloc [(.str []),(.slice .full 0 []),(.slice .full 0 []),(.slice .full 0 []),(.slice .full 0 [])]), .op none none (.store bO bW 5)]) (.seq (.run [.m 8 aJ,(.c 9 dv [bU,(.k (.str [40]))])]) aoS)
abbrev aoU:AC:= .seq (.run [.o 2 (.alloc [(.str []),(.slice .full 0 []),(.slice .full 0 []),(.slice .full 0 []),(.slice .full 0 [])])]) aoT
abbrev aoV:AC:= .par [.m 3 aJ, .o 4 (.bq bO), .o 5 (.aj dz 0), .o 6 (.load bk false 1), .m 7 aJ, .o 8 (.bq bW), .o 9 (.aj bU 1), .o 10 (.load cu false 1), .o 11 (.cq bX bD 4), .o 12 (.load bV true 4), .op none none (.store cZ bZ 4)] [(0,0),(1,0),(2,0),(3,0),(4,0),(5,0),(6,0),(7,0),(8,0),(9,0),(10,0)]
abbrev aoW:AC:= .seq (.run [.o 2 (.alloc [(.int .i64 0),(.str []),(.int .i64 0),(.int .i64 0)])]) (.seq aoV .ret)
open Go.Proofs
theorem uL:Has Tryz.prog rM 60 [(4,none)] amG:=⟨Tryz.f126,by kernel_rfl,by kernel_rfl⟩
set_option maxRecDepth 20000 in
theorem D5 : Has Tryz.prog sA 41 [(4, none)] amN := ⟨Tryz.f127, by kernel_rfl, by kernel_rfl⟩
theorem Gk:Has Tryz.prog pg 9 [(2,none)] amO:=⟨Tryz.f128,by kernel_rfl,by kernel_rfl⟩
theorem MF:Has Tryz.prog wO 24 [(4,none)] amQ:=⟨Tryz.f129,by kernel_rfl,by kernel_rfl⟩
theorem KO:Has Tryz.prog uY 18 [(2,none)] am5:=⟨Tryz.f130,by kernel_rfl,by kernel_rfl⟩
theorem E0:Has Tryz.prog ui 93 [(2,none)] anl:=⟨Tryz.f131,by kernel_rfl,by kernel_rfl⟩
theorem Ij:Has Tryz.prog my 24 [(2,(some (true,4)))] anr:=⟨Tryz.f132,by kernel_rfl,by kernel_rfl⟩
theorem Ik:Has Tryz.prog xB 24 [(2,none)] anx:=⟨Tryz.f133,by kernel_rfl,by kernel_rfl⟩
theorem KP:Has Tryz.prog jB 4 [(2,none)] anB:=⟨Tryz.f134,by kernel_rfl,by kernel_rfl⟩
theorem wS:Has Tryz.prog uj 27 [(6,none),(7,none)] anM:=⟨Tryz.f135,by kernel_rfl,by kernel_rfl⟩
theorem D6:Has Tryz.prog sB 45 [(6,none),(7,none)] anV:=⟨Tryz.f136,by kernel_rfl,by kernel_rfl⟩
theorem Il:Has Tryz.prog mz 33 [(2,none)] an2:=⟨Tryz.f137,by kernel_rfl,by kernel_rfl⟩
theorem wq:Has Tryz.prog nh 9 [(4,none)] an3:=⟨Tryz.f138,by kernel_rfl,by kernel_rfl⟩
theorem Io:Has Tryz.prog qk 9 [(2,none)] an4:=⟨Tryz.f139,by kernel_rfl,by kernel_rfl⟩
theorem BI:Has Tryz.prog zB 42 [(4,none)] aou:=⟨Tryz.f140,by kernel_rfl,by kernel_rfl⟩
theorem Gl:Has Tryz.prog vG 28 [(2,none),(3,none)] aoA:=⟨Tryz.f141,by kernel_rfl,by kernel_rfl⟩
theorem yx:Has Tryz.prog dN 21 [(4,none)] aoE:=⟨Tryz.f142,by kernel_rfl,by kernel_rfl⟩
theorem xJ:Has Tryz.prog jC 25 [(6,none)] aoI:=⟨Tryz.f143,by kernel_rfl,by kernel_rfl⟩
theorem yy:Has Tryz.prog c6 9 [(2,none)] aoJ:=⟨Tryz.f144,by kernel_rfl,by kernel_rfl⟩
theorem AR:Has Tryz.prog fA 22 [(4,none)] aoL:=⟨Tryz.f145,by kernel_rfl,by kernel_rfl⟩
theorem zH:Has Tryz.prog e9 14 [] aoM:=⟨Tryz.f146,by kernel_rfl,by kernel_rfl⟩
theorem yz:Has Tryz.prog oA 56 [(2,(some (true,5)))] aoU:=⟨Tryz.f147,by kernel_rfl,by kernel_rfl⟩
theorem yA:Has Tryz.prog dO 13 [(2,(some (true,4)))] aoW:=⟨Tryz.f148,by kernel_rfl,by kernel_rfl⟩
abbrev aoX:AC:= .block 1 (.seq (.run [.m 10 bU, .m 5 bD]) (.seq (.run [.m 11 a7, .m 12 aJ, .m 13 bk, .o 14 (.cq bZ bS 1), .o 15 (.load bK false 1),(.jw (some 16) none 11 [cy])]) (.cond cp (.seq (.run [.m 17 bk, .m 4 cW]) .ret) .skip)))
abbrev aoY:AC:= .seq (.cond cu .skip (.exit 0)) (.seq aoX (.run [.o 18 (.bin .add bU (.k (.int .i64 1))), .m 8 cQ]))
abbrev aoZ:AC:= .seq (.run [.m 6 aJ, .o 7 (.len bX), .o 8 (.mv (.k (.int .i64 0)))]) (.block 0 (.loop (.seq (.run [.o 9 (.bin .lss bU bW)]) aoY)))
abbrev ao0:AC:= .seq (.run [(.o 4 (.mv (.k (.int .i64 (-1)))))]) .ret
abbrev ao1:AC:= .seq (.run [.o 4 (.mv (.k (.int .i64 0)))]) (.seq aoZ ao0)
abbrev ao2:AC:= .seq (.seq (.run [.o 31 (.aj bk 0), .o 32 (.load eW false 1)]) (.cond fa (.run [.m 33 bO, .o 34 (.aj bk 1), .o 35 (.load fj false 1), .o 36 (.cG [(.str [])] 1 1 [(0,fb)]), .o 37 (.app 1 16 eZ fk), .m 3 fF]) .skip)) (.run [.m 38 bO, .o 39 (.aj bk 2), .o 40 (.load fR true 4), .c 41 rP [gv], .o 42 (.app 1 16 fQ gf), .m 3 ig])
abbrev ao3:AC:= .seq (.block 1 (.seq (.run [.o 29 (.cq di dY 6), .o 30 (.load eK true 6), .o 5 (.alloc [(.bool false),(.str []),(.int .i64 0),(.int .i64 0),(.str []),(.slice .full 0 [])]), .op none none (.store bk eV 6)]) ao2)) (.run [.o 43 (.bin .add dY (.k (.int .i64 1))), .m 27 ij])
abbrev ao4:AC:= .block 0 (.loop (.seq (.run [.o 28 (.bin .lss dY dX)]) (.seq (.cond eN .skip (.exit 0)) ao3)))
abbrev ao5:AC:= .seq (.seq (.run [.o 24 (.aj a7 10), .o 25 (.load de false 1), .o 26 (.len di), .o 27 (.mv (.k (.int .i64 0)))]) ao4) (.seq (.run [.m 44 bO, .m 2 iN]) .ret)
abbrev ao6:AC:= .seq (.seq (.run [.o 6 (.aj a7 1), .o 7 (.load bX false 1), .o 8 (.bin .neq bW (.k (.int .i64 10))), .m 9 bU, .g 10 9 true (.aj a7 3), .g 11 9 true (.load bD false 1), .g 12 9 true (.bin .neq bV (.k (.str []))), .o 13 (.pick cu bZ (.k (.bool false)))]) (.cond bS (.run [.m 14 bO, .o 15 (.aj a7 3), .o 16 (.load cy false 1), .o 17 (.cG [(.str [])] 1 1 [(0,cp)]), .o 18 (.app 1 16 bK cW), .m 3 cQ]) .skip)) (.seq (.run [.m 19 bO, .o 20 (.aj a7 5), .o 21 (.load dt true 4), .c 22 rP [dB], .o 23 (.app 1 16 dh dI), .m 3 dJ]) ao5)
abbrev ao7:AC:= .seq (.run [.o 1 (.box aJ), .o 2 (.mv (.k (.slice .full 0 [])))]) (.seq (.run [.o 3 (.mv (.k (.slice .full 0 [])))]) ao6)
abbrev ao8:AC:= .cond dJ (.seq (.run [.o 6 (.mv (.k (.int .i64 3)))]) .ret) .skip
abbrev ao9:AC:= .cond dY (.seq (.run [.o 6 (.mv (.k (.int .i64 2)))]) .ret) .skip
abbrev apa:AC:= .seq (.seq (.run [.o 16 (.aj bU 0), .o 17 (.load cp false 1), .m 18 cZ, .o 19 (.bin .eql cW cQ), .m 20 dh, .g 21 20 true (.aj bU 1), .g 22 20 true (.load dB false 1), .o 23 (.pick dt dI (.k (.bool false)))]) ao8) (.seq (.run [.o 24 (.aj bU 0), .o 25 (.load de false 1), .m 26 cZ, .o 27 (.bin .eql di dX)]) ao9)
abbrev apb:AC:= .seq (.block 1 (.seq (.run [.o 14 (.cq bD bZ 2), .o 15 (.load bK true 2), .o 8 (.alloc [(.str []),(.bool false)]), .op none none (.store bU cy 2)]) apa)) (.run [.o 28 (.bin .add bZ (.k (.int .i64 1))), .m 12 eN])
abbrev apc:AC:= .block 0 (.loop (.seq (.run [.o 13 (.bin .lss bZ bV)]) (.seq (.cond bS .skip (.exit 0)) apb)))
abbrev apd:AC:= .cond fa (.seq (.run [.o 6 (.mv (.k (.int .i64 4)))]) .ret) .skip
abbrev ape:AC:= .cond fk (.seq (.run [.o 6 (.mv (.k (.int .i64 1)))]) .ret) .skip
abbrev apf:AC:= .seq (.seq (.run [.o 33 (.aj bO 0), .o 34 (.load eZ false 1), .m 35 cZ, .c 36 cB [fj,fb]]) ape) (.seq (.run [.o 6 (.mv (.k (.int .i64 0)))]) .ret)
abbrev apg:AC:= .seq (.seq (.run [.o 9 (.aj dz 1), .o 10 (.load cu false 1), .o 11 (.len bD), .o 12 (.mv (.k (.int .i64 0)))]) apc) (.seq (.seq (.run [.o 29 (.aj dz 2), .o 30 (.load eK false 1), .m 31 cZ, .c 32 cB [eV,eW]]) apd) apf)
abbrev aph:AC:= .seq (.run [.o 3 (.box aJ), .o 4 (.box a7), .o 6 (.mv (.k (.int .i64 0)))]) apg
abbrev api:AC:= .cond bV (.seq (.run [.o 4 (.mv (.k (.bool false)))]) .ret) .skip
abbrev apj:AC:= .par [.o 19 (.aj bX 1), .o 20 (.load dh false 1), .m 21 a7, .m 22 bk, .o 23 (.cq dB dI 6), .o 24 (.aj dJ 0), .o 25 (.load de false 1), .o 26 (.De true dt di)] [(0,0),(1,0),(2,0),(3,0),(4,0),(5,0),(6,0),(7,0)]
abbrev apk:AC:= .cond dX (.seq (.run [.o 4 (.mv (.k (.bool false)))]) .ret) .skip
abbrev apl:AC:= .seq (.block 1 (.seq (.run [.m 16 bK, .o 17 (.cq bZ bK 2), .o 18 (.load cW true 2), .o 6 (.alloc [(.str []),(.bool false)]), .m 5 cp, .op none none (.store bX cQ 2)]) (.seq apj apk))) (.run [.o 27 (.bin .add bK (.k (.int .i64 1))), .m 14 dY])
abbrev apm:AC:= .block 0 (.loop (.seq (.run [.o 15 (.bin .lss bK bS)]) (.seq (.cond cy .skip (.exit 0)) apl)))
abbrev apn:AC:= .seq (.seq (.run [.m 12 aJ, .o 13 (.len bZ), .o 14 (.mv (.k (.int .i64 0)))]) apm) (.seq (.run [.o 4 (.mv (.k (.bool true)))]) .ret)
abbrev apo:AC:= .seq (.run [.o 4 (.mv (.k (.bool false)))]) (.seq (.seq (.run [.m 7 aJ, .o 8 (.len bW), .m 9 a7, .o 10 (.len cu), .o 11 (.bin .neq bU bD)]) api) apn)
abbrev apq:AC:= .seq (.run [.o 2 (.box aJ), .o 3 (.box a7), .o 4 (.mv (.k (.bool false)))]) (.seq (.run [.o 5 (.load cZ true 2), .c 6 lR [bk], .o 7 (.uC bX 0 false 1), .o 8 (.bin .eql bW (.k (.int .i64 0))), .m 9 bU, .g 10 9 true (.aj cZ 1), .g 11 9 true (.load bD false 1), .g 12 9 true (.uR 197 [bO]), .d 13 9 true gQ [bV,bZ], .o 14 (.pick cu bS (.k (.bool false))), .m 4 bK]) .ret)
abbrev apr:AC:= .seq (.run [.o 26 (.cq dI de 1), .o 27 (.load dX false 1), .m 8 dY]) (.seq (.run [.m 28 bk, .m 29 bU, .c 30 cB [eN,eK], .o 31 (.un .not eV)]) (.cond eW (.run [.m 32 bk, .m 33 bU, .o 34 (.cG [(.str [])] 1 1 [(0,eZ)]), .o 35 (.app 1 16 fa fj), .m 5 fb]) .skip))
abbrev aps:AC:= .seq (.cond di .skip (.exit 2)) (.seq (.block 3 apr) (.run [.o 36 (.bin .add de (.k (.int .i64 1))), .m 24 fk]))
abbrev apt:AC:= .seq (.run [.m 17 aJ, .m 18 bk, .m 19 bX, .o 20 (.cq cQ dh 1), .o 21 (.load dt false 1), .c 22 uq [cW,dB], .o 23 (.len dI), .o 24 (.mv (.k (.int .i64 0)))]) (.block 2 (.loop (.seq (.run [.o 25 (.bin .lss de dJ)]) aps)))
abbrev apu:AC:= .seq (.seq (.run [.m 11 bX, .m 12 bk, .o 13 (.len bZ), .o 14 (.bin .lss bV bS)]) (.cond bK .skip (.exit 0))) (.seq (.block 1 apt) (.run [.m 15 bX, .o 16 (.bin .add cy (.k (.int .i64 1))), .m 6 cp]))
abbrev aed:AC:= .seq (.run [.m 39 bk, .m 4 fR]) .ret
abbrev apv:AC:= .seq (.seq (.run [.o 6 (.mv (.k (.int .i64 0)))]) (.block 0 (.loop apu))) (.seq (.run [.m 37 bk, .c 38 jD [fF]]) aed)
abbrev apw:AC:= .seq (.run [.o 4 (.mv (.k (.slice .full 0 [])))]) (.seq (.run [.m 9 a7, .o 10 (.cG [(.str [])] 1 1 [(0,cu)]), .m 5 bD]) apv)
abbrev apx:AC:= .seq (.run [.o 4 (.mv (.k (.bool false)))]) (.seq (.run [.m 5 a7, .m 6 bk, .g 7 6 true (.mv aJ), .d 8 6 true nT [bW], .o 9 (.pick bX bU (.k (.bool false))), .m 10 cu, .g 11 10 false (.mv a7), .g 12 10 false (.un .not bV), .g 13 10 false (.mv bZ), .g 14 13 true (.mv aJ), .g 15 13 true (.bin .eql bK (.k (.str []))), .g 16 10 false (.pick bS cy (.k (.bool false))), .o 17 (.pick bD (.k (.bool true)) cp), .m 4 cW]) .ret)
abbrev apy:AC:= .seq (.run [.o 2 (.box aJ), .o 4 (.mv (.k (.bool false)))]) (.seq (.run [.m 5 a7, .m 6 bk, .g 7 6 true (.load cZ true 4), .d 8 6 true nc [bW], .o 9 (.pick bX bU (.k (.bool false))), .m 10 cu, .g 11 10 false (.mv a7), .g 12 10 false (.un .not bV), .g 13 10 false (.mv bZ), .g 14 13 true (.load cZ true 4), .d 15 13 true xD [bK], .g 16 10 false (.pick bS cy (.k (.bool false))), .o 17 (.pick bD (.k (.bool true)) cp), .m 4 cW]) .ret)
abbrev apz:AC:= .cond di (.seq (.run [.o 2 (.mv (.k (.bool false)))]) .ret) .skip
abbrev apA:AC:= .seq (.run [.o 9 (.cq bk bW 6), .o 10 (.load cu true 6), .o 4 (.alloc [(.bool false),(.str []),(.int .i64 0),(.int .i64 0),(.str []),(.slice .full 0 [])]), .op none none (.store dz bD 6)]) (.seq (.run [.o 11 (.aj dz 1), .o 12 (.load bV false 1), .o 13 (.aj dz 0), .o 14 (.load bS false 1), .c 15 ph [bZ,bK], .o 16 (.un .not cy), .m 17 cp, .g 18 17 false (.aj dz 2), .g 19 17 false (.load cQ true 4), .g 20 17 false (.aj dz 0), .g 21 17 false (.load dt false 1), .g 22 17 false (.un .not dB), .d 23 17 false rO [dh,dI], .g 24 17 false (.un .not dJ), .o 25 (.pick cW (.k (.bool true)) de)]) apz)
abbrev apB:AC:= .seq (.cond bU .skip (.exit 0)) (.seq (.block 1 apA) (.run [.o 26 (.bin .add bW (.k (.int .i64 1))), .m 7 dX]))
abbrev apC:AC:= .seq (.run [.m 5 aJ, .o 6 (.len bk), .o 7 (.mv (.k (.int .i64 0)))]) (.block 0 (.loop (.seq (.run [.o 8 (.bin .lss bW bX)]) apB)))
abbrev apD:AC:= .seq apC (.seq (.run [.o 2 (.mv (.k (.bool true)))]) .ret)
abbrev apE:AC:= .seq (.run [.o 2 (.mv (.k (.bool false)))]) apD
abbrev apG:AC:= .block 1 (.seq (.run [.m 10 bU, .m 5 bD]) (.seq (.run [.m 11 a7, .m 12 aJ, .m 13 bk, .o 14 (.cq bZ bS 1), .o 15 (.load bK false 1), .o 16 (.bin .eql bV cy)]) (.cond cp (.seq (.run [.m 17 bk, .m 4 cW]) .ret) .skip)))
abbrev apH:AC:= .seq (.cond cu .skip (.exit 0)) (.seq apG (.run [.o 18 (.bin .add bU (.k (.int .i64 1))), .m 8 cQ]))
abbrev apI:AC:= .seq (.run [.m 6 aJ, .o 7 (.len bX), .o 8 (.mv (.k (.int .i64 0)))]) (.block 0 (.loop (.seq (.run [.o 9 (.bin .lss bU bW)]) apH)))
abbrev apJ:AC:= .seq (.run [(.o 4 (.mv (.k (.int .i64 (-1)))))]) .ret
abbrev apK:AC:= .seq (.run [.o 4 (.mv (.k (.int .i64 0)))]) (.seq apI apJ)
abbrev apL:AC:= .seq (.run [.m 16 aJ, .c 17 e9 [cp,(.k (.int .i64 3))]]) (.seq (.run [.o 4 (.mv (.k (.str [])))]) .ret)
abbrev apN:AC:= .seq (.run [.m 20 aJ, .c 21 e9 [dt,(.k (.int .i64 4))]]) (.seq (.run [.o 4 (.mv (.k (.str [])))]) .ret)
abbrev apO:AC:= .seq (.seq (.run [.m 18 a7, .o 19 (.un .not cQ)]) (.cond dh apN .skip)) (.seq (.run [.m 22 aJ, .o 23 (.bq dI), .o 24 (.aj dJ 1), .o 25 (.load de false 1), .o 26 (.bin .add di (.k (.int .i64 1))), .o 27 (.bq dI), .o 28 (.aj dY 1), .op none none (.store eN dX 1)]) (.seq (.run [.o 29 (.aj bk 1), .o 30 (.load eK false 1), .m 4 eV]) .ret))
abbrev apP:AC:= .seq (.seq (.run [.m 8 aJ, .c 9 c6 [bU], .o 10 (.un .not cu), .m 11 bD, .g 12 11 false (.aj bk 0), .g 13 11 false (.load bZ false 1), .g 14 11 false (.bin .neq bS (.k (.int .i64 1))), .o 15 (.pick bV (.k (.bool true)) bK)]) (.cond cy apL .skip)) apO
abbrev apQ:AC:= .seq (.run [.o 4 (.mv (.k (.str [])))]) (.seq (.run [.m 6 aJ, .c 7 dO [bX], .o 5 (.alloc [(.int .i64 0),(.str []),(.int .i64 0),(.int .i64 0)]), .op none none (.store bk bW 4)]) apP)
abbrev apR:AC:= .seq (.run [.m 4 aJ, .m 5 a7, .c 6 dN [dz,bk], .o 7 (.un .not bX)]) (.cond bW (.run [.m 8 aJ, .c 9 e9 [bU,(.k (.int .i64 3))]]) .skip)
abbrev apS:AC:= .cond de (.seq (.run [.m 25 aJ, .o 26 (.bq di), .o 27 (.aj dX 1), .o 28 (.load dY false 1), .o 29 (.bin .add eN (.k (.int .i64 1))), .o 30 (.bq di), .o 31 (.aj eV 1), .op none none (.store eW eK 1)]) (.seq (.run [.m 32 bU, .m 33 cu, .m 6 fa, .m 7 eZ]) .ret)) .skip
abbrev apT:AC:= .seq (.seq (.run [.m 15 aJ,(.c 16 fA [cy,(.k (.str [125]))]), .m 17 cp, .g 18 17 true (.mv cZ), .g 19 17 true (.mv cQ), .g 20 19 false (.mv cu), .g 21 19 false (.len dt), .g 22 19 false (.bin .eql dB (.k (.int .i64 0))), .g 23 17 true (.pick dh (.k (.bool true)) dI), .o 24 (.pick cW dJ (.k (.bool false)))]) apS) (.seq (.run [.m 34 aJ, .m 35 a7, .c 36 oB [fj,fb], .o 10 (.alloc [(.int .i64 0),(.int .i64 0),(.slice .full 0 []),(.str []),(.str []),(.int .i64 0),(.int .i64 0),(.str []),(.slice .full 0 []),(.bool false),(.slice .full 0 []),(.slice .full 0 []),(.slice .full 0 [])]), .op none none (.store bD fk 13)]) (.seq (.run [.m 37 cu, .o 38 (.aj bD 2), .op none none (.store fQ fF 1)]) (.run [.m 39 bU, .o 40 (.load bD true 13), .o 41 (.cG [(.int .i64 0),(.int .i64 0),(.slice .full 0 []),(.str []),(.str []),(.int .i64 0),(.int .i64 0),(.str []),(.slice .full 0 []),(.bool false),(.slice .full 0 []),(.slice .full 0 []),(.slice .full 0 [])] 13 1 [(0,gv)]), .o 42 (.app 13 208 fR gf), .m 8 ig])))
abbrev apU:AC:= .block 0 (.loop (.seq (.seq (.run [.m 11 aJ, .c 12 c6 [bV]]) (.cond bZ .skip (.exit 0))) (.block 1 (.seq (.run [.m 13 aJ, .c 14 ni [bS], .m 9 bK]) apT))))
abbrev apV:AC:= .seq apU (.seq (.run [.o 6 (.mv (.k (.slice .full 0 []))), .o 7 (.mv (.k (.slice .full 0 [])))]) .ret)
abbrev apW:AC:= .seq (.run [.o 6 (.mv (.k (.slice .full 0 []))), .o 7 (.mv (.k (.slice .full 0 [])))]) (.seq (.run [.o 8 (.mv (.k (.slice .full 0 [])))]) apV)
abbrev apX:AC:= .cond bS (.seq (.run [.o 2 (.mv (.k (.bool false)))]) .ret) .skip
abbrev apY:AC:= .seq (.block 1 (.seq (.run [.o 9 (.cq bk bW 1), .o 10 (.load cu false 1), .m 4 bD]) (.seq (.run [.m 11 dz, .c 12 lg [bV], .o 13 (.un .not bZ)]) apX))) (.run [.o 14 (.bin .add bW (.k (.int .i64 1))), .m 7 bK])
abbrev apZ:AC:= .block 0 (.loop (.seq (.run [.o 8 (.bin .lss bW bX)]) (.seq (.cond bU .skip (.exit 0)) apY)))
abbrev ap0:AC:= .seq (.seq (.run [.m 5 aJ, .o 6 (.len bk), .o 7 (.mv (.k (.int .i64 0)))]) apZ) (.seq (.run [.o 2 (.mv (.k (.bool true)))]) .ret)
abbrev ap1:AC:= .seq (.run [.o 2 (.mv (.k (.bool false)))]) ap0
abbrev ap2:AC:= .cond cp (.seq (.run [.o 2 (.mv (.k (.bool false)))]) .ret) .skip
abbrev ap3:AC:= .cond fj (.seq (.run [.o 2 (.mv (.k (.bool false)))]) .ret) .skip
abbrev ap4:AC:= .block 1 (.seq (.run [.m 23 aJ, .m 24 bO, .o 25 (.oU dJ de), .c 26 rQ [di], .o 27 (.un .not dX), .m 28 dY, .g 29 28 true (.mv aJ), .g 30 28 true (.mv bO), .g 31 28 true (.oU eK eV), .d 32 28 true vK [eW], .g 33 28 true (.un .not fa), .o 34 (.pick eN eZ (.k (.bool false)))]) ap3)
abbrev ap5:AC:= .seq (.seq (.run [.m 17 bO, .m 18 aJ, .o 19 (.nK cQ), .o 20 (.bin .lss cW dh)]) (.cond dt .skip (.exit 0))) (.seq ap4 (.run [.m 21 bO, .o 22 (.bin .add dB (.k (.int .i64 1))), .m 3 dI]))
abbrev ap6:AC:= .seq (.seq (.run [.o 3 (.mv (.k (.int .i64 1)))]) (.block 0 (.loop ap5))) (.seq (.run [.m 35 aJ, .c 36 xE [fb], .o 37 (.un .not fk), .m 2 fF]) .ret)
abbrev ap7:AC:= .seq (.seq (.run [.m 4 aJ, .o 5 (.bin .eql dz (.k (.str []))), .m 6 bk, .g 7 6 false (.mv aJ), .g 8 6 false (.nK bW), .g 9 6 false (.bin .gtr bU (.k (.int .i64 8))), .o 10 (.pick bX (.k (.bool true)) cu), .m 11 bD, .g 12 11 false (.mv aJ), .g 13 11 false (.oU bZ (.k (.int .i64 0))), .d 14 11 false rQ [bS], .g 15 11 false (.un .not bK), .o 16 (.pick bV (.k (.bool true)) cy)]) ap2) ap6
abbrev ap8:AC:= .seq (.run [.o 2 (.mv (.k (.bool false)))]) ap7
abbrev ap9:AC:= .run [.o 8 (.aj a7 1), .o 9 (.load bU false 1), .o 10 (.bin .eql cu (.k (.int .i64 1))), .m 11 bD, .g 12 11 false (.aj a7 1), .g 13 11 false (.load bZ false 1), .g 14 11 false (.bin .eql bS (.k (.int .i64 3))), .o 15 (.pick bV (.k (.bool true)) bK), .m 16 cy, .g 17 16 false (.aj a7 1), .g 18 16 false (.load cW false 1), .g 19 16 false (.bin .eql cQ (.k (.int .i64 5))), .o 20 (.pick cp (.k (.bool true)) dh), .m 21 dt, .g 22 21 false (.aj a7 1), .g 23 21 false (.load dI false 1), .g 24 21 false (.bin .eql dJ (.k (.int .i64 6))), .o 25 (.pick dB (.k (.bool true)) de), .m 26 di, .g 27 26 false (.aj a7 1), .g 28 26 false (.load dY false 1), .g 29 26 false (.bin .eql eN (.k (.int .i64 9))), .g 30 26 false (.mv eK), .g 31 30 true (.aj a7 9), .g 32 30 true (.load eW false 1), .g 33 26 false (.pick eV fa (.k (.bool false))), .o 34 (.pick dX (.k (.bool true)) eZ), .m 3 fj]
abbrev aqa:AC:= .run [.o 51 (.aj a7 1), .o 52 (.load jq false 1), .o 53 (.bin .lss jr (.k (.int .i64 1))), .m 54 jt, .g 55 54 false (.aj a7 1), .g 56 54 false (.load jX false 1), .g 57 54 false (.bin .gtr lE (.k (.int .i64 10))), .o 58 (.pick jW (.k (.bool true)) mA), .m 59 lN, .g 60 59 false (.aj a7 2), .g 61 59 false (.load nW false 1), .d 62 59 false vJ [oD], .g 63 59 false (.un .not oE), .o 64 (.pick kO (.k (.bool true)) oG), .m 65 p8, .g 66 65 false (.mv bO), .g 67 65 false (.mv sD), .g 68 67 true (.aj a7 5), .g 69 67 true (.load rS true 4), .d 70 67 true pF [ur], .g 71 67 true (.un .not sF), .g 72 65 false (.pick sE xF (.k (.bool false))), .o 73 (.pick rR (.k (.bool true)) vM), .m 74 vN, .g 75 74 false (.mv bO), .g 76 74 false (.un .not xH), .g 77 74 false (.mv vO), .g 78 77 true (.aj a7 5), .g 79 77 true (.load vP true 4), .d 80 77 true s7 [BD], .g 81 77 true (.un .not BE), .g 82 74 false (.pick xI BF (.k (.bool false))), .o 83 (.pick xG (.k (.bool true)) DW), .m 84 DX, .g 85 84 false (.aj a7 9), .g 86 84 false (.load DZ false 1), .g 87 84 false (.mv D0), .g 88 87 true (.aj a7 1), .g 89 87 true (.load D2 false 1), .g 90 87 true (.bin .neq zD (.k (.int .i64 9))), .g 91 84 false (.pick D1 BG (.k (.bool false))), .o 92 (.pick DY (.k (.bool true)) D3)]
abbrev aqb:AC:= .cond Gf (.seq (.run [.o 2 (.mv (.k (.bool false)))]) .ret) .skip
abbrev aqc:AC:= .run [.m 93 dz, .m 94 KB, .g 95 94 true (.aj a7 3), .g 96 94 true (.load KE false 1), .d 97 94 true lg [Qo], .g 98 94 true (.un .not Qp), .o 99 (.pick KD Qq (.k (.bool false))), .m 100 Qr, .g 101 100 false (.mv dz), .g 102 100 false (.un .not IL), .g 103 100 false (.mv IM), .g 104 103 true (.aj a7 3), .g 105 103 true (.load IP false 1), .g 106 103 true (.bin .neq IQ (.k (.str []))), .g 107 100 false (.pick IN IS (.k (.bool false))), .g 108 100 false (.mv IT), .g 109 108 true (.mv bk), .g 110 108 true (.mv Qs), .g 111 110 true (.aj a7 3), .g 112 110 true (.load IW false 1), .d 113 110 true lg [ET], .g 114 108 true (.pick IV IX (.k (.bool false))), .g 115 108 true (.un .not IY), .g 116 100 false (.pick IU IZ (.k (.bool false))), .o 117 (.pick IK (.k (.bool true)) I0)]
abbrev aqd:AC:= .cond I1 (.seq (.run [.o 2 (.mv (.k (.bool false)))]) .ret) .skip
abbrev aqe:AC:= .run [.m 118 bk, .o 119 (.aj a7 4), .o 120 (.load I3 false 1), .o 121 (.bin .neq I4 (.k (.str []))), .o 122 (.De true I2 I5), .m 123 I6, .g 124 123 false (.mv bk), .g 125 123 false (.mv I8), .g 126 125 true (.aj a7 4), .g 127 125 true (.load Qt false 1), .d 128 125 true lg [Ja], .g 129 125 true (.un .not zE), .g 130 123 false (.pick I9 Jb (.k (.bool false))), .o 131 (.pick I7 (.k (.bool true)) Jc), .m 132 Qu, .g 133 132 false (.mv bk), .g 134 132 false (.un .not Qv), .g 135 132 false (.mv Qw), .g 136 135 true (.aj a7 10), .g 137 135 true (.load Qy false 1), .g 138 135 true (.len Qz), .g 139 135 true (.bin .gtr QA (.k (.int .i64 0))), .g 140 132 false (.pick Qx QB (.k (.bool false))), .o 141 (.pick Jd (.k (.bool true)) QC)]
abbrev aqf:AC:= .cond QD (.seq (.run [.o 2 (.mv (.k (.bool false)))]) .ret) .skip
abbrev aqg:AC:= .cond QL (.seq (.run [.o 2 (.mv (.k (.bool false)))]) .ret) .skip
abbrev aqh:AC:= .seq (.block 1 (.seq (.run [.o 147 (.cq Je EU 6), .o 148 (.load QH true 6), .o 7 (.alloc [(.bool false),(.str []),(.int .i64 0),(.int .i64 0),(.str []),(.slice .full 0 [])]), .op none none (.store bW QI 6)]) (.seq (.run [.o 149 (.load bW true 6), .c 150 zC [QJ], .o 151 (.un .not QK)]) aqg))) (.run [.o 152 (.bin .add EU (.k (.int .i64 1))), .m 145 YS])
abbrev aqi:AC:= .block 0 (.loop (.seq (.run [.o 146 (.bin .lss EU QF)]) (.seq (.cond QG .skip (.exit 0)) aqh)))
abbrev aqj:AC:= .run [.o 153 (.aj a7 11), .o 154 (.load YT false 1), .o 155 (.len YU), .o 156 (.bin .eql YV (.k (.int .i64 0))), .m 157 YW, .g 158 157 false (.aj a7 1), .g 159 157 false (.load YY false 1), .g 160 157 false (.bin .eql YZ (.k (.int .i64 5))), .o 161 (.pick YX (.k (.bool true)) Y0), .m 162 Y1, .g 163 162 false (.aj a7 1), .g 164 162 false (.load Y3 false 1), .g 165 162 false (.bin .eql Y4 (.k (.int .i64 6))), .o 166 (.pick Y2 (.k (.bool true)) Y5), .m 167 Y6, .g 168 167 true (.aj a7 12), .g 169 167 true (.load Y8 false 1), .g 170 167 true (.len Y9), .g 171 167 true (.bin .eql Za (.k (.int .i64 0))), .g 172 167 true (.mv Zb), .g 173 172 false (.aj a7 1), .g 174 172 false (.load Zd false 1), .g 175 172 false (.bin .eql Ze (.k (.int .i64 5))), .g 176 167 true (.pick Zc (.k (.bool true)) Zf), .o 177 (.pick Y7 ahL (.k (.bool false))), .m 2 ahM]
abbrev aee:AC:= .seq (.seq (.run [.o 142 (.aj a7 10), .o 143 (.load QE false 1), .o 144 (.len Je), .o 145 (.mv (.k (.int .i64 0)))]) aqi) (.seq aqj .ret)
abbrev aef:AC:= .seq (.seq aqe aqf) aee
abbrev aeg:AC:= .seq (.seq aqc aqd) aef
abbrev aeh:AC:= .seq (.seq aqa aqb) aeg
abbrev aei:AC:= .seq (.run [.o 48 (.aj a7 1), .o 49 (.load iF false 1), .o 50 (.bin .eql ja (.k (.int .i64 4))), .m 5 jV]) aeh
abbrev aej:AC:= .seq (.run [.o 35 (.aj a7 1), .o 36 (.load fb false 1), .o 37 (.bin .eql fk (.k (.int .i64 1))), .m 38 fF, .g 39 38 false (.aj a7 1), .g 40 38 false (.load fR false 1), .g 41 38 false (.bin .eql gv (.k (.int .i64 2))), .o 42 (.pick fQ (.k (.bool true)) gf), .m 43 ig, .g 44 43 false (.aj a7 1), .g 45 43 false (.load iN false 1), .g 46 43 false (.bin .eql jn (.k (.int .i64 10))), .o 47 (.pick ij (.k (.bool true)) jo), .m 4 jU]) aei
abbrev aek:AC:= .seq ap9 aej
abbrev aqk:AC:= .seq (.run [.o 1 (.box aJ), .o 2 (.mv (.k (.bool false)))]) aek
abbrev aql:AC:= .cond bk (.seq (.run [.o 2 (.mv (.k (.slice .full 0 [])))]) .ret) .skip
abbrev aqm:AC:= .seq (.seq (.run [.o 3 (.load a7 true 4), .c 4 nc [bO], .o 5 (.un .not dz)]) aql) (.seq (.run [.o 6 (.load a7 true 4),(.c 7 iQ [bX,(.k (.slice .full 0 []))]), .m 2 bW]) .ret)
abbrev aqn:AC:= .seq (.run [.o 1 (.box aJ), .o 2 (.mv (.k (.slice .full 0 [])))]) aqm
abbrev aqo:AC:= .seq (.run [.o 4 (.mv (.k (.bool false)))]) (.seq (.run [.m 5 aJ, .m 6 a7, .c 7 gj [bk,bX], .o 8 (.bin .geq bW (.k (.int .i64 0))), .m 4 bU]) .ret)
abbrev aqp:AC:= .seq (.run [.o 2 (.box aJ), .o 3 (.mv (.k (.bool false)))]) (.seq (.run [.o 4 (.aj cZ 0), .o 5 (.load dz false 1), .o 6 (.load a7 false 1), .o 7 (.bin .eql bk bX), .m 3 bW]) .ret)
abbrev aqq:AC:= .seq (.run [.o 16 (.cq bZ bK 17), .o 17 (.load cp true 17), .o 7 (.alloc [(.int .i64 0),(.int .i64 0),(.slice .full 0 []),(.str []),(.str []),(.int .i64 0),(.int .i64 0),(.str []),(.slice .full 0 []),(.bool false),(.slice .full 0 []),(.slice .full 0 []),(.slice .full 0 []),(.int .i64 0),(.int .i64 0),(.int .i64 0),(.int .i64 0)]), .op none none (.store bW cW 17)]) (.seq (.run [.o 18 (.aj bW 0), .o 19 (.aj cQ 1), .o 20 (.load dh false 1), .o 21 (.bin .eql dt (.k (.int .i64 4)))]) (.cond dB (.run [.m 22 bk, .o 23 (.aj bW 0), .o 24 (.aj dJ 4), .o 25 (.load de false 1), .o 26 (.cG [(.str [])] 1 1 [(0,di)]), .o 27 (.app 1 16 dI dX), .m 5 dY]) .skip))
abbrev aqr:AC:= .seq (.cond cy .skip (.exit 0)) (.seq (.block 1 aqq) (.run [.o 28 (.bin .add bK (.k (.int .i64 1))), .m 14 eN]))
abbrev aqs:AC:= .seq (.run [.m 8 aJ, .m 9 aJ, .m 10 a7, .c 11 iE [cu,bD], .c 12 gP [bU,bV], .o 13 (.len bZ), .o 14 (.mv (.k (.int .i64 0)))]) (.block 0 (.loop (.seq (.run [.o 15 (.bin .lss bK bS)]) aqr)))
abbrev aqt:AC:= .seq (.run [.o 4 (.mv (.k (.slice .full 0 [])))]) (.seq (.run [.o 5 (.mv (.k (.slice .full 0 [])))]) (.seq aqs (.seq (.run [.m 29 bk, .c 30 jD [eK]]) (.seq (.run [.m 31 bk, .c 32 j7 [eW], .m 4 fa]) .ret))))
abbrev aqu:AC:= .seq (.run [.o 1 (.box aJ), .o 2 (.mv (.k (.bool false)))]) (.seq (.run [.o 3 (.aj a7 0), .o 4 (.load bO false 1), .o 5 (.bin .eql dz (.k (.int .i64 0))), .m 6 bk, .g 7 6 true (.aj a7 1), .g 8 6 true (.load bW false 1), .g 9 6 true (.bin .eql bU (.k (.int .i64 0))), .o 10 (.pick bX cu (.k (.bool false))), .m 11 bD, .g 12 11 true (.aj a7 2), .g 13 11 true (.load bZ false 1), .g 14 11 true (.bin .eql bS (.k (.str []))), .o 15 (.pick bV bK (.k (.bool false))), .m 16 cy, .g 17 16 true (.aj a7 3), .g 18 16 true (.load cW false 1), .g 19 16 true (.len cQ), .g 20 16 true (.bin .eql dh (.k (.int .i64 0))), .o 21 (.pick cp dt (.k (.bool false))), .m 2 dB]) .ret)
abbrev aqv:AC:= .par [.m 4 aJ, .c 5 c6 [dz], .m 6 bk, .g 7 6 true (.mv aJ), .d 8 6 true dO [bW], .g 9 6 true (.uC bU 0 false 1), .g 10 6 true (.bin .eql cu (.k (.int .i64 1))), .o 11 (.pick bX bD (.k (.bool false))), .m 12 bV, .g 13 12 true (.mv aJ), .g 14 12 true (.bq bS), .g 15 12 true (.aj bK 0), .g 16 12 true (.load cy false 1), .g 17 12 true (.mv aJ), .g 18 12 true (.bq cW), .g 19 12 true (.aj cQ 1), .g 20 12 true (.load dh false 1), .g 21 12 true (.bin .add dt (.k (.int .i64 1))), .g 22 12 true (.cq cp dB 4), .g 23 12 true (.aj dI 0), .g 24 12 true (.load dJ false 1), .g 25 12 true (.bin .eql de (.k (.int .i64 4))), .o 26 (.pick bZ di (.k (.bool false))), .m 27 dX, .g 28 27 true (.mv aJ), .g 29 27 true (.bq eN), .g 30 27 true (.aj eK 0), .g 31 27 true (.load eV false 1), .g 32 27 true (.mv aJ), .g 33 27 true (.bq fa), .g 34 27 true (.aj eZ 1), .g 35 27 true (.load fj false 1), .g 36 27 true (.bin .add fb (.k (.int .i64 1))), .g 37 27 true (.cq eW fk 4), .g 38 27 true (.aj fF 1), .g 39 27 true (.load fQ false 1), .g 40 27 true (.bin .eql fR (.k (.str [58]))), .o 41 (.pick dY gv (.k (.bool false)))] [(0,0),(1,0),(2,0),(3,0),(4,0),(5,0),(6,0),(7,0),(8,0),(9,0),(10,0),(11,0),(12,0),(13,0),(14,0),(15,0),(16,0),(17,0),(18,0),(19,0),(20,0),(21,0),(22,0),(23,0),(24,0),(25,0),(26,0),(27,0),(28,0),(29,0),(30,0),(31,0),(32,0),(33,0),(34,0),(35,0),(36,0),(37,0)]
abbrev aqw:AC:= .block 1 (.seq (.run [.m 42 bO, .m 43 aJ, .c 44 dO [ij], .o 45 (.uC iN 1 false 1), .o 46 (.cG [(.str [])] 1 1 [(0,jn)]), .o 47 (.app 1 16 ig jo), .m 3 jU]) (.run [.m 48 aJ, .o 49 (.bq iF), .o 50 (.aj ja 1), .o 51 (.load jV false 1), .o 52 (.bin .add jq (.k (.int .i64 2))), .o 53 (.bq iF), .o 54 (.aj jt 1), .op none none (.store jW jr 1)]))
abbrev aqx:AC:= .block 0 (.loop (.seq (.seq aqv (.cond gf .skip (.exit 0))) aqw))
abbrev aqy:AC:= .seq (.run [.o 2 (.mv (.k (.slice .full 0 [])))]) (.seq (.run [.o 3 (.mv (.k (.slice .full 0 [])))]) (.seq aqx (.seq (.run [.m 55 bO, .m 2 jX]) .ret)))
abbrev aqz:AC:= .cond bD (.seq (.run [.m 11 aJ, .c 12 e9 [bV,(.k (.int .i64 3))]]) (.seq (.run [.o 13 (.build [(.int .i64 0),(.int .i64 0),(.slice .full 0 []),(.str []),(.str []),(.int .i64 0),(.int .i64 0),(.str []),(.slice .full 0 []),(.bool false),(.slice .full 0 []),(.slice .full 0 []),(.slice .full 0 [])] []), .op none none (.store dz bS 13)]) .ret)) .skip
abbrev aqA:AC:= .cond eK (.seq (.run [.m 30 aJ, .c 31 e9 [eV,(.k (.int .i64 4))]]) (.seq (.run [.o 32 (.build [(.int .i64 0),(.int .i64 0),(.slice .full 0 []),(.str []),(.str []),(.int .i64 0),(.int .i64 0),(.str []),(.slice .full 0 []),(.bool false),(.slice .full 0 []),(.slice .full 0 []),(.slice .full 0 [])] []), .op none none (.store dz fa 13)]) .ret)) .skip
abbrev aqB:AC:= .seq (.run [.m 56 aJ, .c 57 lI [lE],(.o 58 (.build [(.int .i64 0),(.int .i64 0),(.slice .full 0 []),(.str []),(.str []),(.int .i64 0),(.int .i64 0),(.str []),(.slice .full 0 []),(.bool false),(.slice .full 0 []),(.slice .full 0 []),(.slice .full 0 [])] [(1,(1,(.k (.int .i64 6)))),(5,(4,mA))])), .o 6 (.alloc [(.int .i64 0),(.int .i64 0),(.slice .full 0 []),(.str []),(.str []),(.int .i64 0),(.int .i64 0),(.str []),(.slice .full 0 []),(.bool false),(.slice .full 0 []),(.slice .full 0 []),(.slice .full 0 [])]), .op none none (.store bX lN 13)]) (.seq (.run [.m 59 aJ, .m 60 a7, .c 61 jE [kO,nW], .o 62 (.aj bX 11), .op none none (.store oE oD 1)]) (.seq (.run [.o 63 (.load bX true 13), .op none none (.store dz oG 13)]) .ret))
abbrev aqC:AC:= .cond ja (.seq (.run [.m 51 aJ, .m 52 a7, .c 53 nn [jq,jr], .op none none (.store dz jt 13)]) .ret) (.seq (.run [.o 55 (.bin .eql iF (.k (.str [119,104,105,108,101]))), .m 54 jX]) (.cond jW aqB .skip))
abbrev aqD:AC:= .block 0 (.seq (.run [.o 50 (.bin .eql iF (.k (.str [105,102]))), .m 49 jV]) aqC)
abbrev aqE:AC:= .seq (.run [.m 64 aJ, .o 65 (.aj bk 1), .o 66 (.load rR false 1), .c 67 nV [p8,sD], .o 7 (.alloc [(.int .i64 0),(.int .i64 0),(.slice .full 0 []),(.str []),(.str []),(.int .i64 0),(.int .i64 0),(.str []),(.slice .full 0 []),(.bool false),(.slice .full 0 []),(.slice .full 0 []),(.slice .full 0 [])]), .op none none (.store bW sE 13)]) (.seq (.run [.m 68 aJ,(.c 69 dv [rS,(.k (.str [59]))])]) (.seq (.run [.o 70 (.load bW true 13), .op none none (.store dz sF 13)]) .ret))
abbrev aqF:AC:= .seq (.seq (.run [.o 35 (.aj bk 0), .o 36 (.load fb false 1), .o 37 (.bin .eql fk (.k (.int .i64 1)))]) (.cond fF (.seq (.run [.m 38 aJ, .c 39 nU [fQ], .op none none (.store dz fR 13)]) .ret) .skip)) (.seq (.run [.m 40 aJ, .o 41 (.bq gv), .o 42 (.aj gf 1), .o 43 (.load ig false 1), .o 44 (.bin .add ij (.k (.int .i64 1))), .o 45 (.bq gv), .o 46 (.aj jn 1), .op none none (.store jo iN 1)]) (.seq (.seq (.run [.o 47 (.aj bk 1), .o 48 (.load jU false 1)]) aqD) aqE))
abbrev aqG:AC:= .seq (.seq (.run [.m 21 aJ, .o 22 (.bq dB), .o 23 (.aj dI 4), .o 24 (.load dJ false 1), .o 25 (.bin .gtr de (.k (.int .i64 200))), .m 26 di, .g 27 26 false (.mv a7), .g 28 26 false (.bin .gtr dY (.k (.int .i64 12))), .o 29 (.pick dX (.k (.bool true)) eN)]) aqA) (.seq (.run [.m 33 aJ, .c 34 dO [eZ], .o 5 (.alloc [(.int .i64 0),(.str []),(.int .i64 0),(.int .i64 0)]), .op none none (.store bk fj 4)]) aqF)
abbrev aqH:AC:= .seq (.seq (.run [.m 8 aJ, .c 9 nj [bU], .o 10 (.un .not cu)]) aqz) (.seq (.run [.m 14 aJ, .o 15 (.bq bK), .o 16 (.aj cy 4), .o 17 (.load cp false 1), .o 18 (.bin .add cW (.k (.int .i64 1))), .o 19 (.bq bK), .o 20 (.aj dh 4), .op none none (.store dt cQ 1)]) aqG)
abbrev aqI:AC:= .seq (.run [.o 4 (.alloc [(.int .i64 0),(.int .i64 0),(.slice .full 0 []),(.str []),(.str []),(.int .i64 0),(.int .i64 0),(.str []),(.slice .full 0 []),(.bool false),(.slice .full 0 []),(.slice .full 0 []),(.slice .full 0 [])])]) aqH
abbrev aqJ:AC:= .seq (.run [.o 2 (.mv (.k (.bool false)))]) (.seq (.run [.m 3 aJ, .o 4 (.bin .geq bO (.k (.int .u8 97))), .m 5 dz, .g 6 5 true (.mv aJ), .g 7 5 true (.bin .leq bX (.k (.int .u8 122))), .o 8 (.pick bk bW (.k (.bool false))), .m 2 bU]) .ret)
abbrev aqK:AC:= .seq (.run [.o 2 (.mv (.k (.bool false)))]) (.seq (.run [.m 3 aJ, .o 4 (.bin .geq bO (.k (.int .u8 48))), .m 5 dz, .g 6 5 true (.mv aJ), .g 7 5 true (.bin .leq bX (.k (.int .u8 57))), .o 8 (.pick bk bW (.k (.bool false))), .m 2 bU]) .ret)
abbrev aqL:AC:= .cond bS (.seq (.run [.o 2 (.mv (.k (.bool true)))]) .ret) .skip
abbrev aqM:AC:= .seq (.block 1 (.seq (.run [.o 9 (.cq bk bW 1), .o 10 (.load cu false 1), .m 4 bD]) (.seq (.run [.m 11 dz, .m 12 aJ, .o 13 (.bin .eql bV bZ)]) aqL))) (.run [.o 14 (.bin .add bW (.k (.int .i64 1))), .m 7 bK])
abbrev aqN:AC:= .block 0 (.loop (.seq (.run [.o 8 (.bin .lss bW bX)]) (.seq (.cond bU .skip (.exit 0)) aqM)))
abbrev aqO:AC:= .seq (.seq (.run [.c 5 vL [], .o 6 (.len bk), .o 7 (.mv (.k (.int .i64 0)))]) aqN) (.seq (.run [.o 2 (.mv (.k (.bool false)))]) .ret)
abbrev aqP:AC:= .seq (.run [.o 2 (.mv (.k (.bool false)))]) aqO
abbrev aqQ:AC:= .seq (.run [.o 1 (.box aJ), .o 2 (.mv (.k (.bool false)))]) (.seq (.run [.o 3 (.load a7 true 4), .c 4 ql [bO,(.k (.int .i64 20))], .o 5 (.bin .leq dz (.k (.int .i64 20))), .m 6 bk, .g 7 6 true (.load a7 true 4), .d 8 6 true qm [bW], .o 9 (.pick bX bU (.k (.bool false))), .m 2 cu]) .ret)
abbrev aqR:AC:= .seq (.run [.o 1 (.box aJ), .o 2 (.mv (.k (.bool false)))]) (.seq (.run [.o 3 (.aj a7 0), .o 4 (.load bO false 1), .o 5 (.bin .eql dz (.k (.int .i64 0))), .m 6 bk, .g 7 6 true (.aj a7 1), .g 8 6 true (.load bW false 1), .g 9 6 true (.bin .eql bU (.k (.int .i64 0))), .o 10 (.pick bX cu (.k (.bool false))), .m 11 bD, .g 12 11 true (.aj a7 2), .g 13 11 true (.load bZ false 1), .g 14 11 true (.bin .eql bS (.k (.str []))), .o 15 (.pick bV bK (.k (.bool false))), .m 16 cy, .g 17 16 true (.aj a7 3), .g 18 16 true (.load cW false 1), .g 19 16 true (.len cQ), .g 20 16 true (.bin .eql dh (.k (.int .i64 0))), .o 21 (.pick cp dt (.k (.bool false))), .m 2 dB]) .ret)
abbrev aqS:AC:= .cond dz (.seq (.run [.o 5 (.aj a7 1), .o 6 (.load bk false 1), .c 7 lg [bX], .m 8 bW, .g 9 8 true (.aj a7 2), .g 10 8 true (.load cu true 4), .d 11 8 true s7 [bD], .o 12 (.pick bU bV (.k (.bool false))), .m 2 bZ]) .ret) .skip
abbrev aqT:AC:= .seq (.seq (.run [.o 3 (.aj a7 0), .o 4 (.load bO false 1)]) aqS) (.seq (.run [.o 13 (.aj a7 1), .o 14 (.load bS false 1), .o 15 (.bin .eql bK (.k (.str []))), .m 16 cy, .g 17 16 true (.aj a7 2), .g 18 16 true (.load cW true 4), .d 19 16 true pF [cQ], .o 20 (.pick cp dh (.k (.bool false))), .m 2 dt]) .ret)
abbrev aqU:AC:= .seq (.run [.o 1 (.box aJ), .o 2 (.mv (.k (.bool false)))]) aqT
abbrev aqV:AC:= .seq (.block 1 (.seq (.run [.o 27 (.cq dJ di 4), .o 28 (.load dY true 4), .o 6 (.alloc [(.int .i64 0),(.int .i64 0),(.str []),(.slice .full 0 [])]), .op none none (.store bX eN 4)]) (.run [.o 29 (.load bX true 4), .m 30 a7, .c 31 iQ [eK,eV], .m 1 eW]))) (.run [.o 32 (.bin .add di (.k (.int .i64 1))), .m 25 fa])
abbrev aqW:AC:= .block 0 (.loop (.seq (.run [.o 26 (.bin .lss di de)]) (.seq (.cond dX .skip (.exit 0)) aqV)))
abbrev aqX:AC:= .seq (.seq (.run [.o 22 (.aj cZ 3), .o 23 (.load dI false 1), .o 24 (.len dJ), .o 25 (.mv (.k (.int .i64 0)))]) aqW) (.seq (.run [.m 33 a7, .m 4 eZ]) .ret)
abbrev aqY:AC:= .seq (.seq (.run [.o 7 (.aj cZ 0), .o 8 (.load bW false 1), .o 9 (.bin .eql bU (.k (.int .i64 2))), .m 10 cu, .g 11 10 true (.mv a7), .g 12 10 true (.aj cZ 2), .g 13 10 true (.load bZ false 1), .d 14 10 true cB [bV,bS], .g 15 10 true (.un .not bK), .o 16 (.pick bD cy (.k (.bool false)))]) (.cond cp (.run [.m 17 a7, .o 18 (.aj cZ 2), .o 19 (.load cQ false 1), .o 20 (.cG [(.str [])] 1 1 [(0,dh)]), .o 21 (.app 1 16 cW dt), .m 1 dB]) .skip)) aqX
abbrev aqZ:AC:= .seq (.run [.o 2 (.box aJ), .o 4 (.mv (.k (.slice .full 0 [])))]) aqY
open Go.Proofs
theorem tI:Has Tryz.prog kZ 19 [(4,none)] ao1:=⟨Tryz.f170,by kernel_rfl,by kernel_rfl⟩
theorem Gm:Has Tryz.prog rN 45 [(2,none)] ao7:=⟨Tryz.f171,by kernel_rfl,by kernel_rfl⟩
theorem Gn:Has Tryz.prog vH 37 [(6,none)] aph:=⟨Tryz.f172,by kernel_rfl,by kernel_rfl⟩
theorem yB:Has Tryz.prog vI 28 [(4,none)] apo:=⟨Tryz.f173,by kernel_rfl,by kernel_rfl⟩
theorem wT:Has Tryz.prog uk 15 [(4,none)] apq:=⟨Tryz.f174,by kernel_rfl,by kernel_rfl⟩
theorem Ip:Has Tryz.prog xC 40 [(4,none)] apw:=⟨Tryz.f175,by kernel_rfl,by kernel_rfl⟩
theorem Gp:Has Tryz.prog ph 18 [(4,none)] apx:=⟨Tryz.f178,by kernel_rfl,by kernel_rfl⟩
theorem Gq:Has Tryz.prog rO 18 [(4,none)] apy:=⟨Tryz.f179,by kernel_rfl,by kernel_rfl⟩
theorem E1:Has Tryz.prog um 27 [(2,none)] apE:=⟨Tryz.f180,by kernel_rfl,by kernel_rfl⟩
theorem zI:Has Tryz.prog pj 19 [(4,none)] apK:=⟨Tryz.f181,by kernel_rfl,by kernel_rfl⟩
theorem yC:Has Tryz.prog eP 31 [(4,none)] apQ:=⟨Tryz.f182,by kernel_rfl,by kernel_rfl⟩
theorem yD:Has Tryz.prog dv 10 [] apR:=⟨Tryz.f183,by kernel_rfl,by kernel_rfl⟩
theorem q6:Has Tryz.prog gH 43 [(6,none),(7,none)] apW:=⟨Tryz.f184,by kernel_rfl,by kernel_rfl⟩
theorem Gr:Has Tryz.prog vJ 15 [(2,none)] ap1:=⟨Tryz.f185,by kernel_rfl,by kernel_rfl⟩
theorem Az:Has Tryz.prog lg 38 [(2,none)] ap8:=⟨Tryz.f186,by kernel_rfl,by kernel_rfl⟩
theorem KQ:Has Tryz.prog ER 178 [(2,none)] aqk:=⟨Tryz.f187,by kernel_rfl,by kernel_rfl⟩
theorem yE:Has Tryz.prog rP 8 [(2,none)] aqn:=⟨Tryz.f195,by kernel_rfl,by kernel_rfl⟩
theorem qP:Has Tryz.prog gQ 9 [(4,none)] aqo:=⟨Tryz.f196,by kernel_rfl,by kernel_rfl⟩
theorem C6:Has Tryz.prog oP 8 [(3,none)] aqp:=⟨Tryz.f197,by kernel_rfl,by kernel_rfl⟩
theorem E2:Has Tryz.prog uq 33 [(4,none)] aqt:=⟨Tryz.f198,by kernel_rfl,by kernel_rfl⟩
theorem Iq:Has Tryz.prog xD 22 [(2,none)] aqu:=⟨Tryz.f201,by kernel_rfl,by kernel_rfl⟩
theorem wu:Has Tryz.prog ni 56 [(2,none)] aqy:=⟨Tryz.f202,by kernel_rfl,by kernel_rfl⟩
theorem yF:Has Tryz.prog oB 71 [(4,(some (true,13)))] aqI:=⟨Tryz.f203,by kernel_rfl,by kernel_rfl⟩
theorem Gs:Has Tryz.prog rQ 9 [(2,none)] aqJ:=⟨Tryz.f204,by kernel_rfl,by kernel_rfl⟩
theorem Gt:Has Tryz.prog vK 9 [(2,none)] aqK:=⟨Tryz.f205,by kernel_rfl,by kernel_rfl⟩
theorem Ir:Has Tryz.prog xE 15 [(2,none)] aqP:=⟨Tryz.f206,by kernel_rfl,by kernel_rfl⟩
theorem D7:Has Tryz.prog pF 10 [(2,none)] aqQ:=⟨Tryz.f207,by kernel_rfl,by kernel_rfl⟩
theorem Is:Has Tryz.prog s7 22 [(2,none)] aqR:=⟨Tryz.f208,by kernel_rfl,by kernel_rfl⟩
theorem KR:Has Tryz.prog zC 21 [(2,none)] aqU:=⟨Tryz.f209,by kernel_rfl,by kernel_rfl⟩
theorem rU:Has Tryz.prog iQ 34 [(4,none)] aqZ:=⟨Tryz.f213,by kernel_rfl,by kernel_rfl⟩
abbrev aq0:AC:= .cond bU (.seq (.run [.o 2 (.mv (.k (.bool true)))]) .ret) .skip
abbrev aq1:AC:= .cond bV (.seq (.run [.o 2 (.mv (.k (.bool false)))]) .ret) .skip
abbrev aq2:AC:= .seq (.run [.o 21 (.bin .eql bS (.k (.str [114,101,97,100]))), .m 14 dB]) (.cond bK .skip (.run [.o 22 (.bin .eql bS (.k (.str [112,114,105,110,116]))), .m 14 dI]))
abbrev aq3:AC:= .cond bK .skip (.seq (.run [.o 20 (.bin .eql bS (.k (.str [103,111,116,111]))), .m 14 dt]) (.cond bK .skip aq2))
abbrev aq4:AC:= .cond bK .skip (.seq (.run [.o 19 (.bin .eql bS (.k (.str [114,101,116,117,114,110]))), .m 14 dh]) aq3)
abbrev aq5:AC:= .cond bK .skip (.seq (.run [.o 18 (.bin .eql bS (.k (.str [99,111,110,116,105,110,117,101]))), .m 14 cQ]) aq4)
abbrev aq6:AC:= .cond bK .skip (.seq (.run [.o 17 (.bin .eql bS (.k (.str [98,114,101,97,107]))), .m 14 cW]) aq5)
abbrev aq7:AC:= .cond bK .skip (.seq (.run [.o 16 (.bin .eql bS (.k (.str [119,104,105,108,101]))), .m 14 cp]) aq6)
abbrev aq8:AC:= .cond bK (.seq (.run [.o 2 (.mv (.k (.bool true)))]) .ret) .skip
abbrev aq9:AC:= .seq (.seq (.run [.o 15 (.bin .eql bS (.k (.str [105,102]))), .m 14 cy]) aq7) aq8
abbrev ara:AC:= .seq (.seq (.run [.o 12 (.aj bO 1), .o 13 (.load bZ false 1)]) (.block 0 aq9)) (.seq (.run [.o 2 (.mv (.k (.bool false)))]) .ret)
abbrev arb:AC:= .seq (.seq (.run [.o 9 (.aj bO 0), .o 10 (.load cu false 1), .o 11 (.bin .neq bD (.k (.int .i64 3)))]) aq1) ara
abbrev arc:AC:= .seq (.seq (.run [.o 6 (.aj bO 0), .o 7 (.load bX false 1), .o 8 (.bin .eql bW (.k (.int .i64 1)))]) aq0) arb
abbrev ard:AC:= .seq (.run [.o 2 (.mv (.k (.bool false)))]) (.seq (.run [.m 4 aJ, .c 5 dO [dz], .o 3 (.alloc [(.int .i64 0),(.str []),(.int .i64 0),(.int .i64 0)]), .op none none (.store bO bk 4)]) arc)
abbrev arf:AC:= .cond bU (.seq (.run [.m 9 aJ, .m 10 bO,(.c 11 lJ [cu,(.k (.str [])),bD]), .op none none (.store cZ bV 13)]) .ret) .skip
abbrev arh:AC:= .par [.m 14 aJ, .c 15 c6 [bK], .m 16 cy, .g 17 16 true (.mv aJ), .d 18 16 true dO [cW], .g 19 16 true (.uC cQ 0 false 1), .g 20 16 true (.bin .eql dh (.k (.int .i64 1))), .o 21 (.pick cp dt (.k (.bool false))), .m 22 dB, .g 23 22 true (.mv aJ), .g 24 22 true (.bq dJ), .g 25 22 true (.aj de 0), .g 26 22 true (.load di false 1), .g 27 22 true (.mv aJ), .g 28 22 true (.bq dY), .g 29 22 true (.aj eN 1), .g 30 22 true (.load eK false 1), .g 31 22 true (.bin .add eV (.k (.int .i64 1))), .g 32 22 true (.cq dX eW 4), .g 33 22 true (.aj fa 0), .g 34 22 true (.load eZ false 1), .g 35 22 true (.bin .eql fj (.k (.int .i64 4))), .o 36 (.pick dI fb (.k (.bool false))), .m 37 fk, .g 38 37 true (.mv aJ), .g 39 37 true (.bq fQ), .g 40 37 true (.aj fR 0), .g 41 37 true (.load gv false 1), .g 42 37 true (.mv aJ), .g 43 37 true (.bq ig), .g 44 37 true (.aj ij 1), .g 45 37 true (.load iN false 1), .g 46 37 true (.bin .add jn (.k (.int .i64 1))), .g 47 37 true (.cq gf jo 4), .g 48 37 true (.aj jU 1), .g 49 37 true (.load iF false 1), .g 50 37 true (.bin .eql ja (.k (.str [40]))), .o 51 (.pick fF jV (.k (.bool false)))] [(0,0),(1,0),(2,0),(3,0),(4,0),(5,0),(6,0),(7,0),(8,0),(9,0),(10,0),(11,0),(12,0),(13,0),(14,0),(15,0),(16,0),(17,0),(18,0),(19,0),(20,0),(21,0),(22,0),(23,0),(24,0),(25,0),(26,0),(27,0),(28,0),(29,0),(30,0),(31,0),(32,0),(33,0),(34,0),(35,0),(36,0),(37,0)]
abbrev ari:AC:= .seq arh (.cond jq (.seq (.run [.m 52 aJ, .m 53 bO, .m 54 aJ, .c 55 eP [jW,(.k (.bool true))], .c 56 lJ [jr,jt,jX], .op none none (.store cZ lE 13)]) .ret) .skip)
abbrev arj:AC:= .seq (.run [.m 57 bO, .m 58 aJ, .c 59 gu [lN],(.o 60 (.build [(.int .i64 0),(.int .i64 0),(.slice .full 0 []),(.str []),(.str []),(.int .i64 0),(.int .i64 0),(.str []),(.slice .full 0 []),(.bool false),(.slice .full 0 []),(.slice .full 0 []),(.slice .full 0 [])] [(1,(1,(.k (.int .i64 1)))),(3,(1,mA)),(5,(4,kO))])), .o 4 (.alloc [(.int .i64 0),(.int .i64 0),(.slice .full 0 []),(.str []),(.str []),(.int .i64 0),(.int .i64 0),(.str []),(.slice .full 0 []),(.bool false),(.slice .full 0 []),(.slice .full 0 []),(.slice .full 0 [])]), .op none none (.store dz nW 13)]) (.seq (.run [.m 61 aJ,(.c 62 dv [oD,(.k (.str [59]))])]) (.seq (.run [.o 63 (.load dz true 13), .op none none (.store cZ oG 13)]) .ret))
abbrev ark:AC:= .seq (.seq (.run [.m 7 aJ,(.c 8 fA [bW,(.k (.str [40]))])]) arf) (.seq (.run [.m 12 aJ,(.c 13 dv [bZ,(.k (.str [61]))])]) (.seq ari arj))
abbrev arl:AC:= .seq (.run [.o 2 (.alloc [(.int .i64 0),(.int .i64 0),(.slice .full 0 []),(.str []),(.str []),(.int .i64 0),(.int .i64 0),(.str []),(.slice .full 0 []),(.bool false),(.slice .full 0 []),(.slice .full 0 []),(.slice .full 0 [])])]) (.seq (.run [.m 5 aJ, .c 6 eP [bk,(.k (.bool true))], .m 3 bX]) ark)
abbrev arn:AC:= .seq (.seq (.run [.m 13 aJ,(.c 14 dN [bS,(.k (.str [101,108,115,101]))])]) (.cond bK (.run [.m 15 aJ, .m 16 a7, .c 17 jE [cy,cp], .o 18 (.aj bk 12), .op none none (.store cQ cW 1)]) .skip)) (.seq (.run [.o 19 (.load bk true 13), .op none none (.store dz dh 13)]) .ret)
abbrev aro:AC:= .seq (.run [.m 6 aJ, .c 7 lI [bX],(.o 8 (.build [(.int .i64 0),(.int .i64 0),(.slice .full 0 []),(.str []),(.str []),(.int .i64 0),(.int .i64 0),(.str []),(.slice .full 0 []),(.bool false),(.slice .full 0 []),(.slice .full 0 []),(.slice .full 0 [])] [(1,(1,(.k (.int .i64 5)))),(5,(4,bW))])), .o 5 (.alloc [(.int .i64 0),(.int .i64 0),(.slice .full 0 []),(.str []),(.str []),(.int .i64 0),(.int .i64 0),(.str []),(.slice .full 0 []),(.bool false),(.slice .full 0 []),(.slice .full 0 []),(.slice .full 0 [])]), .op none none (.store bk bU 13)]) (.seq (.run [.m 9 aJ, .m 10 a7, .c 11 jE [cu,bD], .o 12 (.aj bk 11), .op none none (.store bZ bV 1)]) arn)
abbrev arp:AC:= .seq (.run [.o 4 (.alloc [(.int .i64 0),(.int .i64 0),(.slice .full 0 []),(.str []),(.str []),(.int .i64 0),(.int .i64 0),(.str []),(.slice .full 0 []),(.bool false),(.slice .full 0 []),(.slice .full 0 []),(.slice .full 0 [])])]) aro
abbrev arq:AC:= .seq (.run [.m 6 aJ, .c 7 gu [bX], .o 3 (.alloc [(.int .i64 0),(.int .i64 0),(.str []),(.slice .full 0 [])]), .op none none (.store bO bW 4)]) (.seq (.run [.m 8 aJ,(.c 9 dv [bU,(.k (.str [41]))])]) (.seq (.run [.o 10 (.load bO true 4), .op none none (.store cZ bD 4)]) .ret))
abbrev ars:AC:= .seq (.run [.o 2 (.alloc [(.int .i64 0),(.int .i64 0),(.str []),(.slice .full 0 [])])]) (.seq (.run [.m 4 aJ,(.c 5 dv [dz,(.k (.str [40]))])]) arq)
abbrev art:AC:= .seq (.run [.m 7 aJ,(.c 8 dv [bW,(.k (.str [123]))])]) (.seq (.run [.m 10 aJ, .m 11 a7, .o 12 (.bin .add bV (.k (.int .i64 1))), .c 13 gH [bD,bZ,(.k (.bool false))], .m 9 bS, .o 14 (.ext cu 0), .o 15 (.ext cu 1), .m 5 bK, .m 6 cy]) (.seq (.run [.m 16 bk, .m 4 cp]) .ret))
abbrev aru:AC:= .seq (.run [.o 4 (.mv (.k (.slice .full 0 [])))]) art
abbrev arv:AC:= .seq (.run [.m 16 aJ,(.c 17 fA [cp,(.k (.str [59]))]), .o 18 (.un .not cW)]) (.cond cQ (.run [.m 19 aJ, .c 20 gu [dh], .o 21 (.aj bk 9), .op none none (.store dB (.k (.bool true)) 1), .o 22 (.aj bk 5), .op none none (.store dI dt 4)]) .skip)
abbrev arw:AC:= .seq (.run [.o 36 (.bin .eql bX (.k (.str [112,114,105,110,116]))), .m 35 fk]) (.cond fb (.run [.m 37 aJ, .c 38 gu [fF], .o 39 (.aj bk 1), .op none none (.store fR (.k (.int .i64 3)) 1), .o 40 (.aj bk 5), .op none none (.store gv fQ 4)]) .skip)
abbrev arx:AC:= .seq (.run [.o 30 (.bin .eql bX (.k (.str [114,101,97,100]))), .m 29 eV]) (.cond eK (.run [.m 31 aJ, .c 32 eP [eW,(.k (.bool true))], .o 33 (.aj bk 1), .op none none (.store eZ (.k (.int .i64 2)) 1), .o 34 (.aj bk 3), .op none none (.store fj fa 1)]) arw)
abbrev ary:AC:= .seq (.run [.o 24 (.bin .eql bX (.k (.str [103,111,116,111]))), .m 23 de]) (.cond dJ (.run [.m 25 aJ, .c 26 eP [di,(.k (.bool true))], .o 27 (.aj bk 1), .op none none (.store dY (.k (.int .i64 10)) 1), .o 28 (.aj bk 3), .op none none (.store eN dX 1)]) arx)
abbrev arz:AC:= .cond bS (.seq (.run [.o 15 (.aj bk 1), .op none none (.store cy (.k (.int .i64 9)) 1)]) arv) ary
abbrev arA:AC:= .cond bD (.run [.o 12 (.aj bk 1), .op none none (.store bZ (.k (.int .i64 8)) 1)]) (.seq (.run [.o 14 (.bin .eql bX (.k (.str [114,101,116,117,114,110]))), .m 13 bK]) arz)
abbrev arB:AC:= .cond bW (.run [.o 9 (.aj bk 1), .op none none (.store cu (.k (.int .i64 7)) 1)]) (.seq (.run [.o 11 (.bin .eql bX (.k (.str [99,111,110,116,105,110,117,101]))), .m 10 bV]) arA)
abbrev arC:AC:= .block 0 (.seq (.run [.o 8 (.bin .eql bX (.k (.str [98,114,101,97,107]))), .m 7 bU]) arB)
abbrev arD:AC:= .seq (.run [.o 4 (.alloc [(.int .i64 0),(.int .i64 0),(.slice .full 0 []),(.str []),(.str []),(.int .i64 0),(.int .i64 0),(.str []),(.slice .full 0 []),(.bool false),(.slice .full 0 []),(.slice .full 0 []),(.slice .full 0 [])])]) (.seq (.run [.o 5 (.alloc [(.int .i64 0),(.int .i64 0),(.slice .full 0 []),(.str []),(.str []),(.int .i64 0),(.int .i64 0),(.str []),(.slice .full 0 []),(.bool false),(.slice .full 0 []),(.slice .full 0 []),(.slice .full 0 [])])]) (.seq (.seq (.run [.m 6 a7]) arC) (.seq (.run [.o 41 (.load bk true 13), .op none none (.store dz gf 13)]) .ret)))
abbrev arE:AC:= .seq (.run [(.o 1 (.cG [(.str [])] 1 13 [(0,(.k (.str [103,108,111,98,97,108]))),(1,(.k (.str [112,114,111,99]))),(2,(.k (.str [118,97,114]))),(3,(.k (.str [114,101,102]))),(4,(.k (.str [105,102]))),(5,(.k (.str [101,108,115,101]))),(6,(.k (.str [119,104,105,108,101]))),(7,(.k (.str [98,114,101,97,107]))),(8,(.k (.str [99,111,110,116,105,110,117,101]))),(9,(.k (.str [114,101,116,117,114,110]))),(10,(.k (.str [103,111,116,111]))),(11,(.k (.str [114,101,97,100]))),(12,(.k (.str [112,114,105,110,116])))])), .m 0 a7]) .ret
abbrev arG:AC:= .seq (.run [.o 0 (.mv (.k (.slice .full 0 [])))]) arE
abbrev arH:AC:= .cond cu (.seq (.run [.o 4 (.mv (.k (.int .i64 1)))]) .ret) .skip
abbrev arI:AC:= .block 1 (.seq (.run [.o 22 (.aj cZ 3), .o 23 (.load dI false 1), .m 24 bX, .o 25 (.cq dJ de 4), .o 26 (.load di true 4), .m 27 a7, .o 28 (.bin .sub dY (.k (.int .i64 1))), .c 29 ql [dX,eN], .m 7 eK]) (.seq (.run [.m 30 bW, .m 31 bk, .o 32 (.bin .gtr eV eW)]) (.cond fa (.run [.m 33 bW, .m 5 eZ]) .skip)))
abbrev arJ:AC:= .seq (.seq (.run [.m 10 bX, .o 11 (.aj cZ 3), .o 12 (.load bV false 1), .o 13 (.len bZ), .o 14 (.bin .lss bD bS), .m 15 bK, .g 16 15 true (.mv bk), .g 17 15 true (.mv a7), .g 18 15 true (.bin .lss cp cW), .o 19 (.pick cy cQ (.k (.bool false)))]) (.cond dh .skip (.exit 0))) (.seq arI (.run [.m 20 bX, .o 21 (.bin .add dt (.k (.int .i64 1))), .m 6 dB]))
abbrev arK:AC:= .seq (.seq (.run [.o 6 (.mv (.k (.int .i64 0)))]) (.block 0 (.loop arJ))) (.seq (.run [.m 34 bk, .o 35 (.bin .add fj (.k (.int .i64 1))), .m 4 fb]) .ret)
abbrev arL:AC:= .seq (.seq (.run [.m 8 a7, .o 9 (.bin .eql bU (.k (.int .i64 0)))]) arH) (.seq (.run [.o 5 (.mv (.k (.int .i64 0)))]) arK)
abbrev arM:AC:= .seq (.run [.o 2 (.box aJ), .o 4 (.mv (.k (.int .i64 0)))]) arL
abbrev arN:AC:= .par [.o 4 (.aj a7 0), .o 5 (.load dz false 1), .c 6 vD [bk], .o 7 (.aj a7 3), .o 8 (.load bW false 1), .o 9 (.len bU), .o 10 (.bin .neq bX cu), .m 11 bD, .g 12 11 false (.aj a7 0), .g 13 11 false (.load bZ false 1), .g 14 11 false (.bin .neq bS (.k (.int .i64 1))), .g 15 11 false (.mv bK), .g 16 15 true (.aj a7 1), .g 17 15 true (.load cp false 1), .g 18 15 true (.bin .neq cW (.k (.int .i64 0))), .g 19 11 false (.pick cy cQ (.k (.bool false))), .o 20 (.pick bV (.k (.bool true)) dh), .m 21 dt, .g 22 21 false (.aj a7 1), .g 23 21 false (.load dI false 1), .g 24 21 false (.bin .lss dJ (.k (.int .i64 0))), .o 25 (.pick dB (.k (.bool true)) de), .m 26 di, .g 27 26 false (.aj a7 0), .g 28 26 false (.load dY false 1), .g 29 26 false (.bin .eql eN (.k (.int .i64 2))), .g 30 26 false (.aj a7 2), .g 31 26 false (.load eV false 1), .g 32 26 false (.bin .neq eW (.k (.str []))), .g 33 26 false (.De true eK fa), .o 34 (.pick dX (.k (.bool true)) eZ), .m 35 fj, .g 36 35 false (.aj a7 2), .g 37 35 false (.load fk false 1), .g 38 35 false (.bin .neq fF (.k (.str []))), .g 39 35 false (.mv fQ), .g 40 39 true (.aj a7 2), .g 41 39 true (.load gv false 1), .d 42 39 true lg [gf], .g 43 39 true (.un .not ig), .g 44 35 false (.pick fR ij (.k (.bool false))), .o 45 (.pick fb (.k (.bool true)) iN)] [(0,0),(1,0),(2,0),(3,0),(4,1),(5,0),(6,0),(7,0),(8,0),(9,0),(10,0),(11,0),(12,0),(13,0),(14,0),(15,0),(16,0),(17,0),(18,0),(19,0),(20,0),(21,0),(22,0),(23,0),(24,0),(25,0),(26,0),(27,0),(28,0),(29,0),(30,0),(31,0),(32,0),(33,0),(34,0),(35,0),(36,0),(37,0),(38,0),(39,0),(40,0),(41,0)]
abbrev arO:AC:= .cond jn (.seq (.run [.o 2 (.mv (.k (.bool false)))]) .ret) .skip
abbrev arP:AC:= .cond lN (.seq (.run [.o 2 (.mv (.k (.bool false)))]) .ret) .skip
abbrev arQ:AC:= .seq (.block 1 (.seq (.run [.m 51 ja, .m 3 jq]) (.seq (.run [.o 52 (.aj a7 3), .o 53 (.load jr false 1), .m 54 bO, .o 55 (.cq jt jW 4), .o 56 (.load jX true 4), .c 57 qm [lE], .o 58 (.un .not mA)]) arP))) (.run [.o 59 (.bin .add ja (.k (.int .i64 1))), .m 49 kO])
abbrev arR:AC:= .block 0 (.loop (.seq (.run [.o 50 (.bin .lss ja iF)]) (.seq (.cond jV .skip (.exit 0)) arQ)))
abbrev arS:AC:= .seq (.seq (.run [.o 46 (.aj a7 3), .o 47 (.load jo false 1), .o 48 (.len jU), .o 49 (.mv (.k (.int .i64 0)))]) arR) (.seq (.run [.o 2 (.mv (.k (.bool true)))]) .ret)
abbrev arT:AC:= .seq (.run [.o 1 (.box aJ), .o 2 (.mv (.k (.bool false)))]) (.seq (.seq arN arO) arS)
abbrev arU:AC:= .par [.o 24 (.aj bW 10), .o 25 (.load de false 1), .m 26 aJ, .c 27 eP [dX,(.k (.bool true))],(.o 28 (.build [(.bool false),(.str []),(.int .i64 0),(.int .i64 0),(.str []),(.slice .full 0 [])] [(0,(1,(.k (.bool true)))),(1,(1,dY))])), .o 29 (.cG [(.bool false),(.str []),(.int .i64 0),(.int .i64 0),(.str []),(.slice .full 0 [])] 6 1 [(0,eN)]), .o 30 (.app 6 80 di eK), .o 31 (.aj bW 10), .op none none (.store eW eV 1)] [(2,0),(3,0),(0,0),(1,1),(4,0),(5,0),(6,0),(7,0),(8,0)]
abbrev arV:AC:= .par [.o 32 (.aj bW 10), .o 33 (.load fa false 1), .m 34 aJ, .c 35 gu [fj], .o 36 (.build [(.bool false),(.str []),(.int .i64 0),(.int .i64 0),(.str []),(.slice .full 0 [])] [(2,(4,fb))]), .o 37 (.cG [(.bool false),(.str []),(.int .i64 0),(.int .i64 0),(.str []),(.slice .full 0 [])] 6 1 [(0,fk)]), .o 38 (.app 6 80 eZ fF), .o 39 (.aj bW 10), .op none none (.store fR fQ 1)] [(2,0),(3,0),(0,0),(1,1),(4,0),(5,0),(6,0),(7,0),(8,0)]
abbrev arW:AC:= .seq (.seq (.run [.m 22 aJ,(.c 23 dN [dI,(.k (.str [114,101,102]))])]) (.cond dJ arU arV)) (.seq (.run [.m 40 aJ,(.c 41 dN [gv,(.k (.str [44]))]), .o 42 (.un .not gf)]) (.cond ig (.exit 0) .skip))
abbrev arX:AC:= .block 0 (.loop (.seq (.seq (.run [.m 20 aJ, .c 21 c6 [dt]]) (.cond dB .skip (.exit 0))) (.block 1 arW)))
abbrev arY:AC:= .seq (.run [.m 43 aJ,(.c 44 dv [ij,(.k (.str [41]))])]) (.seq (.run [.m 45 aJ,(.c 46 dv [jn,(.k (.str [59]))])]) (.seq (.run [.o 47 (.load bW true 13), .op none none (.store bX jU 13)]) .ret))
abbrev arZ:AC:= .seq (.seq (.run [.m 13 aJ, .c 14 c6 [bS], .m 15 bK, .g 16 15 true (.mv aJ),(.d 17 15 true fA [cp,(.k (.str [41]))]), .g 18 15 true (.un .not cW), .o 19 (.pick cy cQ (.k (.bool false)))]) (.cond dh arX .skip)) arY
abbrev ar1:AC:= .seq (.run [.m 8 a7, .m 9 cZ,(.o 10 (.build [(.int .i64 0),(.int .i64 0),(.slice .full 0 []),(.str []),(.str []),(.int .i64 0),(.int .i64 0),(.str []),(.slice .full 0 []),(.bool false),(.slice .full 0 []),(.slice .full 0 []),(.slice .full 0 [])] [(1,(1,(.k (.int .i64 4)))),(3,(1,bU)),(4,(1,cu))])), .o 7 (.alloc [(.int .i64 0),(.int .i64 0),(.slice .full 0 []),(.str []),(.str []),(.int .i64 0),(.int .i64 0),(.str []),(.slice .full 0 []),(.bool false),(.slice .full 0 []),(.slice .full 0 []),(.slice .full 0 [])]), .op none none (.store bW bD 13)]) (.seq (.run [.m 11 aJ,(.c 12 dv [bV,(.k (.str [40]))])]) arZ)
abbrev ar2:AC:= .seq (.run [.o 6 (.alloc [(.int .i64 0),(.int .i64 0),(.slice .full 0 []),(.str []),(.str []),(.int .i64 0),(.int .i64 0),(.str []),(.slice .full 0 []),(.bool false),(.slice .full 0 []),(.slice .full 0 []),(.slice .full 0 [])])]) ar1
abbrev ar3:AC:= .cond cp (.run [.m 17 aJ, .m 18 bO,(.o 19 (.build [(.int .i64 0),(.int .i64 0)] [(0,(1,(.k (.int .i64 4)))),(1,(1,cQ))])), .o 20 (.bq cW), .o 21 (.aj dt 2), .op none none (.store dB dh 2)]) .skip
abbrev ar4:AC:= .seq (.seq (.run [.m 10 aJ, .c 11 c6 [bD], .m 12 bV, .g 13 12 true (.load dz true 4), .d 14 12 true lS [bS], .g 15 12 true (.bin .gtr bK (.k (.int .i64 20))), .o 16 (.pick bZ cy (.k (.bool false)))]) ar3) (.seq (.run [.o 22 (.load dz true 4), .op none none (.store cZ dI 4)]) .ret)
abbrev ar5:AC:= .seq (.run [.o 2 (.alloc [(.int .i64 0),(.int .i64 0),(.str []),(.slice .full 0 [])])]) (.seq (.run [.m 5 aJ, .c 6 dO [bk], .o 7 (.uC bX 3 false 1), .m 3 bW]) (.seq (.run [.m 8 aJ, .c 9 jh [bU,(.k (.int .i64 1))], .o 4 (.alloc [(.int .i64 0),(.int .i64 0),(.str []),(.slice .full 0 [])]), .op none none (.store dz cu 4)]) ar4))
abbrev ar6:AC:= .seq (.run [.m 27 aJ, .o 28 (.bq dY), .o 29 (.aj eN 1), .o 30 (.load eK false 1), .o 31 (.bin .add eV (.k (.int .i64 1))), .o 32 (.bq dY), .o 33 (.aj fa 1), .op none none (.store eZ eW 1)]) (.seq (.run [.m 34 aJ, .m 35 bW, .o 36 (.bin .add fb (.k (.int .i64 1))), .c 37 jh [fj,fk], .o 8 (.alloc [(.int .i64 0),(.int .i64 0),(.str []),(.slice .full 0 [])]), .op none none (.store bU fF 4)]) (.run [.m 38 bX, .o 39 (.load bk true 4), .o 40 (.load bU true 4), .o 41 (.cG [(.int .i64 0),(.int .i64 0),(.str []),(.slice .full 0 [])] 4 2 [(0,fR),(1,gv)]), .o 42 (.build [(.int .i64 0),(.int .i64 0),(.str []),(.slice .full 0 [])] [(0,(1,fQ)),(3,(1,gf))]), .op none none (.store bk ig 4)]))
abbrev ar7:AC:= .seq (.seq (.run [.m 19 bW, .m 20 a7, .o 21 (.bin .lss dh dt), .m 22 dB, .g 23 22 false (.mv bX), .g 24 22 false (.bin .eql dJ (.k (.int .i64 0))), .o 25 (.pick dI (.k (.bool true)) de)]) (.cond di (.seq (.run [.o 26 (.load bk true 4), .op none none (.store dz dX 4)]) .ret) .skip)) ar6
abbrev ar8:AC:= .loop (.seq (.seq (.run [.m 11 aJ, .c 12 c6 [bV]]) (.cond bZ .skip (.exit 0))) (.block 1 (.seq (.run [.m 14 aJ, .c 15 dO [bK], .c 16 uZ [cy], .m 13 cp, .o 17 (.ext bS 0), .o 18 (.ext bS 1), .m 6 cW, .m 7 cQ]) ar7)))
abbrev ar9:AC:= .seq (.run [.o 4 (.alloc [(.int .i64 0),(.int .i64 0),(.str []),(.slice .full 0 [])])]) (.seq (.run [.m 9 aJ, .c 10 kE [cu], .o 5 (.alloc [(.int .i64 0),(.int .i64 0),(.str []),(.slice .full 0 [])]), .op none none (.store bk bD 4)]) (.seq (.block 0 ar8) (.seq (.run [.o 43 (.load bk true 4), .op none none (.store dz ij 4)]) .ret)))
abbrev asa:AC:= .seq (.block 1 (.seq (.run [.o 11 (.cq bW cu 4), .o 12 (.load bV true 4), .o 5 (.alloc [(.int .i64 0),(.int .i64 0),(.str []),(.slice .full 0 [])]), .op none none (.store bk bZ 4)]) (.run [.m 13 bO, .o 14 (.load bk true 4), .c 15 lS [bK], .o 16 (.mm true bS cy), .m 3 cp]))) (.run [.o 17 (.bin .add cu (.k (.int .i64 1))), .m 9 cW])
abbrev asb:AC:= .block 0 (.loop (.seq (.run [.o 10 (.bin .lss cu bU)]) (.seq (.cond bD .skip (.exit 0)) asa)))
abbrev asc:AC:= .seq (.seq (.run [.o 6 (.aj a7 3), .o 7 (.load bX false 1), .o 8 (.len bW), .o 9 (.mv (.k (.int .i64 0)))]) asb) (.seq (.run [.m 18 bO, .o 19 (.bin .add cQ (.k (.int .i64 1))), .m 2 dh]) .ret)
abbrev asd:AC:= .seq (.run [.o 1 (.box aJ), .o 2 (.mv (.k (.int .i64 0)))]) (.seq (.run [.o 3 (.mv (.k (.int .i64 0)))]) asc)
abbrev ase:AC:= .seq (.run [.m 7 aJ, .c 8 c6 [bW], .o 9 (.un .not bU)]) (.cond cu (.seq (.run [.o 10 (.build [(.int .i64 0),(.int .i64 0),(.str []),(.slice .full 0 [])] []), .op none none (.store cZ bD 4)]) .ret) .skip)
abbrev asf:AC:= .seq (.run [.o 22 (.aj bO 2), .o 23 (.load dI false 1),(.o 24 (.build [(.int .i64 0),(.int .i64 0),(.str []),(.slice .full 0 [])] [(0,(1,(.k (.int .i64 1)))),(1,(1,dJ))])), .op none none (.store cZ de 4)]) .ret
abbrev asg:AC:= .seq (.run [.o 36 (.aj bO 1), .o 37 (.load fk false 1),(.o 38 (.build [(.int .i64 0),(.int .i64 0),(.str []),(.slice .full 0 [])] [(0,(1,(.k (.int .i64 2)))),(2,(1,fF))])), .op none none (.store cZ fQ 4)]) .ret
abbrev ash:AC:= .seq (.run [.m 42 aJ, .c 43 jh [ig,(.k (.int .i64 1))], .o 4 (.alloc [(.int .i64 0),(.int .i64 0),(.str []),(.slice .full 0 [])]), .op none none (.store dz ij 4)]) (.seq (.run [.m 44 aJ,(.c 45 dv [iN,(.k (.str [41]))])]) (.seq (.run [.o 46 (.load dz true 4), .op none none (.store cZ jo 4)]) .ret))
abbrev asi:AC:= .seq (.run [.m 50 aJ, .c 51 kE [jV], .o 52 (.cG [(.int .i64 0),(.int .i64 0),(.str []),(.slice .full 0 [])] 4 1 [(0,jq)]),(.o 53 (.build [(.int .i64 0),(.int .i64 0),(.str []),(.slice .full 0 [])] [(0,(1,(.k (.int .i64 3)))),(3,(1,jr))])), .op none none (.store cZ jt 4)]) .ret
abbrev asj:AC:= .seq (.run [.m 57 aJ, .c 58 kE [mA], .o 59 (.cG [(.int .i64 0),(.int .i64 0),(.str []),(.slice .full 0 [])] 4 1 [(0,lN)]),(.o 60 (.build [(.int .i64 0),(.int .i64 0),(.str []),(.slice .full 0 [])] [(0,(1,(.k (.int .i64 4)))),(3,(1,kO))])), .op none none (.store cZ nW 4)]) .ret
abbrev asm:AC:= .cond jU asi (.seq (.run [.m 55 aJ,(.c 56 dN [jX,(.k (.str [33]))]), .m 54 lE]) (.cond jW asj .skip))
abbrev asn:AC:= .cond fR ash (.seq (.run [.m 48 aJ,(.c 49 dN [iF,(.k (.str [45]))]), .m 47 ja]) asm)
abbrev aso:AC:= .cond di (.seq (.run [.m 29 aJ, .o 30 (.bq eK), .o 31 (.aj eV 1), .o 32 (.load eW false 1), .o 33 (.bin .add fa (.k (.int .i64 1))), .o 34 (.bq eK), .o 35 (.aj fj 1), .op none none (.store fb eZ 1)]) asg) (.seq (.run [.m 40 aJ,(.c 41 dN [gv,(.k (.str [40]))]), .m 39 gf]) asn)
abbrev asp:AC:= .cond bV (.seq (.run [.m 15 aJ, .o 16 (.bq cy), .o 17 (.aj cp 1), .o 18 (.load cW false 1), .o 19 (.bin .add cQ (.k (.int .i64 1))), .o 20 (.bq cy), .o 21 (.aj dt 1), .op none none (.store dB dh 1)]) asf) (.seq (.run [.o 26 (.aj bO 0), .o 27 (.load dX false 1), .o 28 (.bin .eql dY (.k (.int .i64 1))), .m 25 eN]) aso)
abbrev asq:AC:= .block 0 (.seq (.run [.o 12 (.aj bO 0), .o 13 (.load bZ false 1), .o 14 (.bin .eql bS (.k (.int .i64 2))), .m 11 bK]) asp)
abbrev asr:AC:= .seq asq (.seq (.run [.m 61 aJ, .c 62 e9 [oD,(.k (.int .i64 3))]]) (.seq (.run [.o 63 (.build [(.int .i64 0),(.int .i64 0),(.str []),(.slice .full 0 [])] []), .op none none (.store cZ oG 4)]) .ret))
abbrev ass:AC:= .seq (.run [.o 2 (.alloc [(.int .i64 0),(.int .i64 0),(.str []),(.slice .full 0 [])])]) (.seq (.run [.m 5 aJ, .c 6 dO [bk], .o 3 (.alloc [(.int .i64 0),(.str []),(.int .i64 0),(.int .i64 0)]), .op none none (.store bO bX 4)]) (.seq ase asr))
abbrev ast:AC:= .cond bX (.seq (.run [.o 2 (.mv (.k (.int .i64 0))), .o 3 (.mv (.k (.int .i64 0)))]) .ret) .skip
abbrev asu:AC:= .cond eZ (.seq (.run [.o 2 (.mv (.k (.int .i64 7))), .o 3 (.mv (.k (.int .i64 6)))]) .ret) .skip
abbrev asv:AC:= .cond eW (.seq (.run [.o 2 (.mv (.k (.int .i64 6))), .o 3 (.mv (.k (.int .i64 6)))]) .ret) (.seq (.run [.o 34 (.bin .eql bU (.k (.str [37]))), .m 33 fj]) asu)
abbrev asw:AC:= .cond eK (.seq (.run [.o 2 (.mv (.k (.int .i64 5))), .o 3 (.mv (.k (.int .i64 6)))]) .ret) (.seq (.run [.o 32 (.bin .eql bU (.k (.str [47]))), .m 31 fa]) asv)
abbrev asx:AC:= .cond dY (.seq (.run [.o 2 (.mv (.k (.int .i64 9))), .o 3 (.mv (.k (.int .i64 5)))]) .ret) (.seq (.run [.o 30 (.bin .eql bU (.k (.str [42]))), .m 29 eV]) asw)
abbrev asy:AC:= .cond di (.seq (.run [.o 2 (.mv (.k (.int .i64 8))), .o 3 (.mv (.k (.int .i64 5)))]) .ret) (.seq (.run [.o 28 (.bin .eql bU (.k (.str [45]))), .m 27 eN]) asx)
abbrev asz:AC:= .cond dJ (.seq (.run [.o 2 (.mv (.k (.int .i64 13))), .o 3 (.mv (.k (.int .i64 4)))]) .ret) (.seq (.run [.o 26 (.bin .eql bU (.k (.str [43]))), .m 25 dX]) asy)
abbrev asA:AC:= .cond dB (.seq (.run [.o 2 (.mv (.k (.int .i64 12))), .o 3 (.mv (.k (.int .i64 4)))]) .ret) (.seq (.run [.o 24 (.bin .eql bU (.k (.str [62,61]))), .m 23 de]) asz)
abbrev asB:AC:= .cond dh (.seq (.run [.o 2 (.mv (.k (.int .i64 11))), .o 3 (.mv (.k (.int .i64 4)))]) .ret) (.seq (.run [.o 22 (.bin .eql bU (.k (.str [62]))), .m 21 dI]) asA)
abbrev asC:AC:= .cond cW (.seq (.run [.o 2 (.mv (.k (.int .i64 10))), .o 3 (.mv (.k (.int .i64 4)))]) .ret) (.seq (.run [.o 20 (.bin .eql bU (.k (.str [60,61]))), .m 19 dt]) asB)
abbrev asD:AC:= .cond cy (.seq (.run [.o 2 (.mv (.k (.int .i64 15))), .o 3 (.mv (.k (.int .i64 3)))]) .ret) (.seq (.run [.o 18 (.bin .eql bU (.k (.str [60]))), .m 17 cQ]) asC)
abbrev asE:AC:= .cond bS (.seq (.run [.o 2 (.mv (.k (.int .i64 14))), .o 3 (.mv (.k (.int .i64 3)))]) .ret) (.seq (.run [.o 16 (.bin .eql bU (.k (.str [33,61]))), .m 15 cp]) asD)
abbrev asF:AC:= .cond bV (.seq (.run [.o 2 (.mv (.k (.int .i64 16))), .o 3 (.mv (.k (.int .i64 2)))]) .ret) (.seq (.run [.o 14 (.bin .eql bU (.k (.str [61,61]))), .m 13 bK]) asE)
abbrev asG:AC:= .cond cu (.seq (.run [.o 2 (.mv (.k (.int .i64 17))), .o 3 (.mv (.k (.int .i64 1)))]) .ret) (.seq (.run [.o 12 (.bin .eql bU (.k (.str [38,38]))), .m 11 bZ]) asF)
abbrev asH:AC:= .block 0 (.seq (.run [.o 10 (.bin .eql bU (.k (.str [124,124]))), .m 9 bD]) asG)
abbrev asI:AC:= .seq (.seq (.run [.o 7 (.aj a7 1), .o 8 (.load bW false 1)]) asH) (.seq (.run [.o 2 (.mv (.k (.int .i64 0))), .o 3 (.mv (.k (.int .i64 0)))]) .ret)
abbrev asJ:AC:= .seq (.seq (.run [.o 4 (.aj a7 0), .o 5 (.load dz false 1), .o 6 (.bin .neq bk (.k (.int .i64 4)))]) ast) asI
abbrev asK:AC:= .seq (.run [.o 1 (.box aJ), .o 2 (.mv (.k (.int .i64 0))), .o 3 (.mv (.k (.int .i64 0)))]) asJ
open Go.Proofs
theorem wv:Has Tryz.prog nj 23 [(2,none)] ard:=⟨Tryz.f225,by kernel_rfl,by kernel_rfl⟩
theorem xK:Has Tryz.prog nU 64 [(2,(some (true,13)))] arl:=⟨Tryz.f226,by kernel_rfl,by kernel_rfl⟩
theorem wx:Has Tryz.prog nn 20 [(4,(some (true,13)))] arp:=⟨Tryz.f227,by kernel_rfl,by kernel_rfl⟩
theorem yG:Has Tryz.prog lI 11 [(2,(some (true,4)))] ars:=⟨Tryz.f228,by kernel_rfl,by kernel_rfl⟩
theorem xL:Has Tryz.prog jE 17 [(4,none)] aru:=⟨Tryz.f229,by kernel_rfl,by kernel_rfl⟩
theorem xM:Has Tryz.prog nV 42 [(4,(some (true,13)))] arD:=⟨Tryz.f230,by kernel_rfl,by kernel_rfl⟩
theorem Gu:Has Tryz.prog vL 2 [(0,none)] arG:=⟨Tryz.f231,by kernel_rfl,by kernel_rfl⟩
theorem AA:Has Tryz.prog ql 36 [(4,none)] arM:=⟨Tryz.f232,by kernel_rfl,by kernel_rfl⟩
theorem Iu:Has Tryz.prog qm 60 [(2,none)] arT:=⟨Tryz.f233,by kernel_rfl,by kernel_rfl⟩
theorem yH:Has Tryz.prog lJ 48 [(6,(some (true,13)))] ar2:=⟨Tryz.f242,by kernel_rfl,by kernel_rfl⟩
theorem xN:Has Tryz.prog gu 23 [(2,(some (true,4)))] ar5:=⟨Tryz.f243,by kernel_rfl,by kernel_rfl⟩
theorem zJ:Has Tryz.prog jh 44 [(4,(some (true,4)))] ar9:=⟨Tryz.f245,by kernel_rfl,by kernel_rfl⟩
theorem E3:Has Tryz.prog lS 20 [(2,none)] asd:=⟨Tryz.f246,by kernel_rfl,by kernel_rfl⟩
theorem zK:Has Tryz.prog kE 64 [(2,(some (true,4)))] ass:=⟨Tryz.f247,by kernel_rfl,by kernel_rfl⟩
theorem KS:Has Tryz.prog uZ 35 [(2,none),(3,none)] asK:=⟨Tryz.f248,by kernel_rfl,by kernel_rfl⟩
open Go.Proofs
theorem BJ:Has Tryz.prog kl 73 [] QZ1:=⟨Tryz.f90,by kernel_rfl,by kernel_rfl⟩
theorem zL:Has Tryz.prog pf 27 [(4,none)] QZB:=⟨Tryz.f91,by kernel_rfl,by kernel_rfl⟩
theorem se:Has Tryz.prog gj 19 [(4,none)] QZY:=⟨Tryz.f92,by kernel_rfl,by kernel_rfl⟩
theorem yI:Has Tryz.prog lH 8 [(3,none)] akY:=⟨Tryz.f93,by kernel_rfl,by kernel_rfl⟩
set_option maxRecDepth 20000 in
theorem yJ : Has Tryz.prog iK 20 [(4, none)] ak0 := ⟨Tryz.f94, by kernel_rfl, by kernel_rfl⟩
set_option maxRecDepth 20000 in
theorem yK : Has Tryz.prog kb 64 [(4, none), (5, none)] ak7 := ⟨Tryz.f95, by kernel_rfl, by kernel_rfl⟩
set_option maxRecDepth 20000 in
theorem yL : Has Tryz.prog eE 26 [] ak8 := ⟨Tryz.f96, by kernel_rfl, by kernel_rfl⟩
theorem C7:Has Tryz.prog oN 38 [(6,none),(7,none)] alf:=⟨Tryz.f97,by kernel_rfl,by kernel_rfl⟩
theorem AB:Has Tryz.prog qi 13 [(4,none)] ali:=⟨Tryz.f98,by kernel_rfl,by kernel_rfl⟩
set_option maxRecDepth 20000 in
theorem AS : Has Tryz.prog kS 15 [(2, none)] alk := ⟨Tryz.f99, by kernel_rfl, by kernel_rfl⟩
theorem MG:Has Tryz.prog By 152 [(2,none),(3,(some (true,2)))] alK:=⟨Tryz.f100,by kernel_rfl,by kernel_rfl⟩
theorem vS:Has Tryz.prog mw 49 [(2,(some (true,2)))] alP:=⟨Tryz.f101,by kernel_rfl,by kernel_rfl⟩
theorem Gv:Has Tryz.prog vD 24 [(2,none)] alV:=⟨Tryz.f110,by kernel_rfl,by kernel_rfl⟩
theorem E4:Has Tryz.prog oe 18 [(2,none)] al1:=⟨Tryz.f116,by kernel_rfl,by kernel_rfl⟩
theorem rV:Has Tryz.prog fZ 9 [(4,none)] al2:=⟨Tryz.f117,by kernel_rfl,by kernel_rfl⟩
theorem C8:Has Tryz.prog oO 8 [(3,none)] al3:=⟨Tryz.f118,by kernel_rfl,by kernel_rfl⟩
theorem uv:Has Tryz.prog cB 9 [(4,none)] al4:=⟨Tryz.f119,by kernel_rfl,by kernel_rfl⟩
theorem C9:Has Tryz.prog gP 26 [(4,none)] al6:=⟨Tryz.f120,by kernel_rfl,by kernel_rfl⟩
theorem E5:Has Tryz.prog qB 38 [(8,none)] amc:=⟨Tryz.f121,by kernel_rfl,by kernel_rfl⟩
theorem yM:Has Tryz.prog vE 28 [(4,none)] amj:=⟨Tryz.f122,by kernel_rfl,by kernel_rfl⟩
theorem yN:Has Tryz.prog rL 9 [(2,none)] aml:=⟨Tryz.f123,by kernel_rfl,by kernel_rfl⟩
theorem Iv:Has Tryz.prog qj 24 [(4,none),(5,none)] amr:=⟨Tryz.f124,by kernel_rfl,by kernel_rfl⟩
theorem pG:Has Tryz.prog vF 29 [(4,none)] amv:=⟨Tryz.f125,by kernel_rfl,by kernel_rfl⟩
theorem az.AZ {P:Program} {f:Nat} {args:List D} {s0 s:St} {o off n m:Nat} {row:List D} (h:az P f args s0 (.ptr o off) s) (ho:s.ah[o]? = some row) (hn:s0.ah.length≤n) (AE:n≤o) (hm:s0.aw.length≤m) :
 az P f args s0 (.dL (D.gw n m row) off) (s.cut n m):=by
 intro M0 w0 fI r0 kK asL ha
 refine(h M0 w0 fI r0 kK asL ha).mono ?_
 rintro en w ⟨M,d,v0,s',rfl,⟨rfl,rfl⟩,e,r,hv⟩
 have ya:=hv.A9
 have rA:v0 = .pointer (some ⟨M.mu o,off,none⟩):=hv.su.1
 have Gw:o<s'.ah.length:=(List.getElem?_eq_some_iff.1 ho).1
 obtain⟨vs,T,hh,eg,⟨gX,_⟩,jy⟩:=r.obj o row ho
 replace hh:w.heap[M.mu o]? = some (.cells vs T (0,0)):=hh.cells ya
 let M':Map:= {M with G:=fun b q=>if b=M.mu o then vs[q]? else M.G b q}
 have hGo : ∀ q,M.G (M.mu o) q=none:=r.jR o Gw
 have le:Le M s' M' s':=⟨fun b q v hq=>by
  show(if b=M.mu o then vs[q]? else M.G b q)=some v
  by_cases hb:b=M.mu o
  ·subst hb;rw[hGo]at hq;cases hq
  ·rw[if_neg hb];exact hq,Nat.le_refl _,fun _ _=> .refl _,Nat.le_refl _,fun t n' _ e=>⟨n',e,Nat.le_refl _,fun _=>rfl⟩⟩
 have hC : ∀ q,q<(s'.cut n m).ah.length→q<s'.ah.length∧q≠o:=fun q h=>by rw[nQ]at h;omega
 have wU:w0.heap.size≤M.mu o:=e.tX o (.inl (by omega)) Gw
 have ec:=e.cut hn hm
 have lec:Le M (s'.cut n m) M' (s'.cut n m):=⟨le.G,Nat.le_refl _,fun _ _=> .refl _,Nat.le_refl _,fun t n' _ e=>⟨n',e,Nat.le_refl _,fun _=>rfl⟩⟩
 have rc:=r.cut n m
 have qf : ∀ b,b≠M.mu o→∀ q,M'.G b q=M.G b q:=fun b hb q=>if_neg hb
 refine⟨M',_,v0,_,rfl,⟨rfl,rfl⟩,⟨ec.le.trans lec,ec.kept,ec.tX,ec.qF,fun b q fi=>?_,ec.size,ec.os,ec.tape,ec.output⟩,⟨fun b q v hq=>?_,fun q ds hq=>?_,fun q hq xk=>?_,rc.inj,fun t n' Sq=>?_,rc.fc,rc.fU⟩, ?_⟩
 ·by_cases hb:b=M.mu o
  ·subst hb;exact .inl wU
  ·rw[qf b hb]at fi;exact ec.sm b q fi
 ·have mD:(if b=M.mu o then vs[q]? else M.G b q)=some v:=hq
  by_cases hb:b=M.mu o
  ·rw [if_pos hb]at mD
   rw[hb,jd hh]
   exact⟨mD,gX v (Array.mem_of_getElem? mD)⟩
  ·rw [if_neg hb]at mD
   exact r.comm b q v mD
 ·obtain⟨fB,T',h3,h4,h5,h6⟩:=rc.obj q ds hq
  exact⟨fB,T',h3,h4,h5,fun i d v e1 e2=>(h6 i d v e1 e2).mono lec⟩
 ·obtain⟨h3,h4⟩:=hC q hq
  show M'.G (M.mu q) xk=none
  rw[qf _ (fun e=>h4 (r.inj q o h3 Gw e))]
  exact r.jR q h3 xk
 ·rcases rc.tok t n' Sq with h3 | ⟨b,cap,z,fB,T',h3,h4,h5,h6,h7⟩
  ·exact .inl h3
  ·refine .inr ⟨b,cap,z,fB,T',h3,h4,h5,h6,fun xk DQ=> ?_,h7.2⟩
   rw[qf _ (fun e=>r.fc t b cap z o (vw ⟨n',Sq⟩) h3 Gw e.symm)]
   exact h7.1 xk DQ
 ·rw [rA]
  have:=RD.dL (M:=M') (s:=s'.cut n m) (D.gw n m row) off (M.mu o) 0 (fun i d e1=>?_) (fun i d u e1 eu=>?_)
  ·simpa using this
  ·rw [mW,List.getElem?_map,Option.map_eq_some_iff]at e1
   obtain⟨d0,e1,rfl⟩:=e1
   have hi:=(List.getElem?_eq_some_iff.1 e1).1
   refine⟨vs[i]'(by omega), ?_⟩
   show(if M.mu o=M.mu o then vs[0+i]? else _)=_
   rw[if_pos rfl,Nat.zero_add]
   exact Array.getElem?_eq_getElem _
  ·rw [mW,List.getElem?_map,Option.map_eq_some_iff]at e1
   obtain⟨d0,e1,rfl⟩:=e1
   have E6:(if M.mu o=M.mu o then vs[0+i]? else M.G (M.mu o) (0+i))=some u:=eu
   rw[if_pos rfl,Nat.zero_add]at E6
   exact((jy i d0 u e1 E6).fg n m).mono lec
theorem az.goK {P:Program} {f:FuncId} {res:List (Nat×Option (Bool×Nat))} {body:AC} {args:List D} {s:St} {d:D} {s':St} {nt:Nat} (n m:Nat) (hn:s.ah.length≤n) (hm:s.aw.length≤m) (h0:Has P f nt res body) (hl:Nat.ble args.length nt=true)
 (h : ∀ (B:e7) (Q:Exit→Tm→St→Prop),B.s=s→iz n m res d s'=Q→gC P B nt body Q (mN 0 args) s):az P f args s d s':=by
 obtain⟨fn,hf,hc⟩:=h0
 refine bP.IE (bP.intro (Q:=fun d1 s1=>Wk d1 d∧gx s1.ah s'.ah∧s1.aw=s'.aw) hf hc (Nat.le_of_ble_eq_true hl) fun B hB=>(gD (h B _ hB rfl)).mono fun e tm s1 hr=>?_) fun d1 s1 ⟨h1,h2,h3⟩=>⟨d,s',h1,h2,h3,rfl,rfl⟩
 subst hB
 cases e with
 |normal=>obtain⟨l,h1,h2,h3,h4⟩:=hr;exact⟨l,h1,_,_,hn,hm,h2,h3,h4⟩
 |ret=>obtain⟨l,h1,h2,h3,h4⟩:=hr;exact⟨l,h1,_,_,hn,hm,h2,h3,h4⟩
 |exit id=>exact hr.elim
 |goto l=>exact hr.elim
 |panic ch=>exact hr.elim
 |outgrown=>exact hr.elim
def rW (c:UInt8):Bool:=decide ((c.toNat:Int)≥97) && decide ((c.toNat:Int)≤122)
def pT (c:UInt8):Bool:=decide ((c.toNat:Int)≥48) && decide ((c.toNat:Int)≤57)
def AG (c:UInt8):Bool:=(c.toNat:Int)==32 ||(c.toNat:Int)==9 ||(c.toNat:Int)==10 ||(c.toNat:Int)==13
def lP:aF→Nat
 | []=>0
 |c::r=>if rW c ||pT c then lP r+1 else 0
def rX:aF→Nat
 | []=>0
 |c::r=>if pT c then rX r+1 else 0
def qC:aF→Nat
 | []=>0
 |c::r=>if(c.toNat:Int) != 10 then qC r+1 else 0
def isWord (s:aF):Bool:=
 s == [103,108,111,98,97,108] ||s == [112,114,111,99] ||s == [118,97,114] ||s == [114,101,102] ||s == [105,102] ||s == [101,108,115,101] ||s == [119,104,105,108,101] ||s == [98,114,101,97,107] ||s == [99,111,110,116,105,110,117,101] ||s == [114,101,116,117,114,110] ||s == [103,111,116,111] ||s == [114,101,97,100] ||s == [112,114,105,110,116]
def Zg (s:aF):Bool:=s == [61,61] ||s == [33,61] ||s == [60,61] ||s == [62,61] ||s == [38,38] ||s == [124,124]
def Jf (c:UInt8):Bool:=
 (c.toNat:Int)==40 ||(c.toNat:Int)==41 ||(c.toNat:Int)==123 ||(c.toNat:Int)==125 ||(c.toNat:Int)==44 ||(c.toNat:Int)==59 ||(c.toNat:Int)==58 ||(c.toNat:Int)==61 ||
 (c.toNat:Int)==33 ||(c.toNat:Int)==60 ||(c.toNat:Int)==62 ||(c.toNat:Int)==43 ||(c.toNat:Int)==45 ||(c.toNat:Int)==42 ||(c.toNat:Int)==47 ||(c.toNat:Int)==37
def s8:aF→Nat
 | []=>0
 | [c]=>if Jf c then 1 else 0
 |c::d::_=>if Zg [c,d]then 2 else if Jf c then 1 else 0
def bT:Int→aF→Option Int
 |n,[]=>some n
 |n,c::r=>if n > (9223372036854775807 - ((c.toNat:Int) - 48)) / 10 then none else bT (n*10+((c.toNat:Int) - 48)) r
def QM (pos:Nat):aF→fX ⊕ Int
 | []=> .inr 2
 | c::r=>
  if rW c then
   let s:=(c::r).take (lP (c::r))
   if s.length > 8 then .inr 4 else .inl ⟨if isWord s then 3 else 1,s,0,pos⟩
  else if pT c then
   let s:=(c::r).take (rX (c::r))
   if s.length > 1∧(c.toNat:Int)=48 then .inr 2 else
   match bT 0 s with
   |some n=> .inl ⟨2,s,n,pos⟩
   |none=> .inr 4
  else
   if s8 (c::r)=0 then .inr 2 else .inl ⟨4,(c::r).take (s8 (c::r)),0,pos⟩
def nX:Nat→Nat→aF→List fX→List fX×Int×Int
 | 0,_,_,_=>([],0,0)
 |_+1,pos,[],out=>(out++ [⟨0,[],0,pos⟩],0,0)
 | n+1,pos,c::r,out=>
  if AG c then nX n (pos+1) r out
  else if(c.toNat:Int)==35 then nX n (pos+qC (c::r)) ((c::r).drop (qC (c::r))) out
  else match QM pos (c::r)with
   | .inr e=>([],e,pos)
   | .inl t=>if out.length=2000 then([],4,pos)else nX n (pos+t.text.length) ((c::r).drop t.text.length) (out++ [t])
def pk (text:aF):List fX×Int×Int:=if text.length > 100000 then([],4,0)else nX (text.length+1) 0 text []
def u3:aF→Bool
 | []=>true
 |c::r=>if !(rW c) && !(pT c)then false else u3 r
def isName:aF→Bool
 | []=>false
 |c::r=>if decide (((r.length+1:Nat):Int) > 8) || !(rW c)then false else if u3 r then !(isWord (c::r))else false
def lF (op:Int):Int:=if op==1 ||op==2 then 0 else if op==3 ||op==4 then 1 else if decide (op≥5) && decide (op≤17)then 2 else -1
mutual
def Ex.form:Ex→Bool
 |⟨op,n,name,kids⟩=>
  if lF op != (kids.length:Int) ||(op != 1 && n != 0) ||decide (n<0) || !((op==2) == !(name == [])) ||(!(name == []) && !(isName name))then false else Ex.pH kids
def Ex.pH:List Ex→Bool
 | []=>true
 |x::l=>if !(Ex.form x)then false else Ex.pH l
end
mutual
def Ex.texts:Ex→Prop
 |⟨_,_,name,kids⟩=>name.length<4611686018427387904∧Ex.yO kids
def Ex.yO:List Ex→Prop
 | []=>True
 |x::l=>x.texts∧Ex.yO l
end
theorem Ex.E7 {x:Ex} : ∀ {l:List Ex},Ex.yO l→x∈l→x.texts
 |y::l,h,m=>by
  rcases List.mem_cons.1 m with rfl|m
  ·exact h.1
  ·exact Ex.E7 h.2 m
theorem Ex.Hq {op n:Int} {name:aF} {kids:List Ex} (h:Ex.texts ⟨op,n,name,kids⟩) {y:Ex} (m:y∈kids):y.texts:=Ex.E7 h.2 m
def Ex.may (x:Ex):Bool:=decide (((min x.depth 21:Nat):Int)≤20) && x.form
def Ex.none (x:Ex):Bool:=x.op==0 && x.n==0 && x.name == [] && (x.kids.length:Int)==0
def eo:List aF→Bool
 | []=>true
 |s::l=>if !(isName s)then false else eo l
def Ar.may (a:Ar):Bool:=if a.ref then isName a.name && a.x.none else a.name == [] && a.x.may
def Ar.fl:List Ar→Bool
 | []=>true
 |a::l=>if !(a.may)then false else Ar.fl l
def Sm.BK (s:Sm):Bool:=s.kind==1 ||s.kind==3 ||s.kind==5 ||s.kind==6 ||(s.kind==9 && s.has)
def Sm.hasName (s:Sm):Bool:=s.kind==1 ||s.kind==2 ||s.kind==10
def Sm.tJ (s:Sm):Bool:=s.kind==4
def Sm.one (s:Sm):Bool:=
 if decide (s.kind<1) ||decide (s.kind > 10) || !(eo s.labels) ||(s.BK && !(s.x.may)) ||(!(s.BK) && !(s.x.none)) ||(s.has && s.kind != 9)then false
 else if(s.hasName && !(isName s.name)) ||(!(s.hasName) && !(s.name == []) && !(s.tJ && isName s.name))then false
 else if !(s.tJ == !(s.proc == [])) ||(s.tJ && !(isName s.proc)) ||(!(s.tJ) && decide ((s.args.length:Int) > 0))then false
 else if !(Ar.fl s.args)then false
 else((s.bm.length:Int)==0 ||s.kind==5 ||s.kind==6) && ((s.bc.length:Int)==0 ||s.kind==5)
structure It where
 s:Sm
 deep:Int
 dD:Int
 bc:Bool
mutual
def kx (deep dD:Int) (bc:Bool) (out:List It):Sm→List It
 |⟨id,kind,labels,name,proc,x,has,args,bm,e⟩=>
  if decide (deep≤12)then fO (deep+1) id true (fO (deep+1) id false (out++ [⟨⟨id,kind,labels,name,proc,x,has,args,bm,e⟩,deep,dD,bc⟩]) bm) e
  else out++ [⟨⟨id,kind,labels,name,proc,x,has,args,bm,e⟩,deep,dD,bc⟩]
def fO (deep dD:Int) (bc:Bool) (out:List It):List Sm→List It
 | []=>out
 |s::l=>if decide ((out.length:Int)≤200)then fO deep dD bc (kx deep dD bc out s) l else out
end
def Pc.flat (f:Pc):List It:=fO 1 0 false [] f.body
def allM (out:List It):List Pc→List It
 | []=>out
 |f::l=>if decide (((out++f.flat).length:Int) > 200)then out++f.flat else allM (out++f.flat) l
def Pg.all (p:Pg):List It:=allM [] p.procs
def Pm.fl:List Pm→Bool
 | []=>true
 |a::l=>if !(isName a.name)then false else Pm.fl l
def Pc.pI:List Pc→Bool
 | []=>true
 |f::l=>
  if !(isName f.name) ||decide ((f.params.length:Int) > 8) ||decide ((f.vars.length:Int) > 16) || !(eo f.vars) || !(eo f.fin)then false
  else if !(Pm.fl f.params)then false else Pc.pI l
def It.fl (n:Nat):List It→Bool
 | []=>true
 |i::l=>if i.s.id != ((n+1:Nat):Int) ||decide (i.deep > 12) || !(i.s.one)then false else It.fl (n+1) l
def Pg.may (p:Pg):Bool:=
 if decide ((p.globals.length:Int) > 16) ||decide ((p.procs.length:Int) > 16) || !(eo p.globals)then false
 else if !(Pc.pI p.procs)then false
 else if decide ((p.all.length:Int) > 200)then false else It.fl 0 p.all
set_option maxRecDepth 8000
open Go.Proofs
@[go_sem] def cJ (r:Rd):List D:= [.slice .shared 4 (r.l.map eM), .int .i64 r.i, .int .i64 r.code, .int .i64 r.Kv, .int .i64 r.n]
theorem fJ (r:Rd):D.bH 0 0 (cJ r)=true:=by simp[cJ,D.bH,D.ok,Tag.ok,Kt]
theorem sG {r:Rd} {t:fX} (h:r.p6=some t):r.i<4611686018427387904:=(Kw h).1
theorem is_lt {r:Rd} {s:aF} {t:Bool} (h:r.is s=some t):r.i<4611686018427387904:=by
 obtain⟨t,h1,h⟩:=Option.bind_eq_some_iff.1 h
 exact sG h1
-- good
theorem aen (l:List fX) (i c f n:Int):az Tryz.prog c6 [.ptr 0 0] ⟨[[.slice .shared 4 (l.map eM), .int .i64 i, .int .i64 c, .int .i64 f, .int .i64 n]],[]⟩ (.bool (c==0)) ⟨[[.slice .shared 4 (l.map eM), .int .i64 i, .int .i64 c, .int .i64 f, .int .i64 n]],[]⟩:=by
 refine az.go yy rfl fun B Q hB hQ=>?_
 have⟨hC,hE,hM,hY⟩:=bC
 repeat' (first
 |simp only[go_sem,hC,hE,hM,hY,na]
 |(with_reducible refine aB hQ ?_;exact bd))
theorem kT {l:List fX} {i c f n:Int} {s:St} {o:Nat} (ho:s.ah[o]? = some [.slice .shared 4 (l.map eM), .int .i64 i, .int .i64 c, .int .i64 f, .int .i64 n]):az Tryz.prog c6 [.ptr o 0] s (.bool (c==0)) ⟨s.ah.set o [.slice .shared 4 (l.map eM), .int .i64 i, .int .i64 c, .int .i64 f, .int .i64 n],s.aw⟩:=
 have hk:D.bH 0 0 [.slice .shared 4 (l.map eM), .int .i64 i, .int .i64 c, .int .i64 f, .int .i64 n] = true:=by simp[D.bH,D.ok,Tag.ok,Kt]
 az.kL (aen l i c f n) rfl hk hk rfl ho
theorem aeo {r:Rd} {t:fX} (h:r.p6=some t):az Tryz.prog dO [.ptr 0 0] ⟨[cJ r],[]⟩ (.agg (eM t)) ⟨[cJ r],[]⟩:=by
 obtain⟨h2,h,_,_⟩:=Kw h
 refine az.go yA rfl fun B Q hB hQ=>?_
 have⟨hC,hE,hM,hY⟩:=bC
 repeat' (first
 |simp only[go_sem,hC,hE,hM,hY,na,h]
 |(with_reducible refine aB hQ ?_;exact bd))
theorem po {r:Rd} {t:fX} (h:r.p6=some t) {s:St} {o:Nat} (ho:s.ah[o]? = some (cJ r)):az Tryz.prog dO [.ptr o 0] s (.agg (eM t)) ⟨s.ah.set o (cJ r),s.aw⟩:=
 (aeo h).kL rfl (fJ r) (fJ r) (IF t) ho
theorem asM {r:Rd} {text:aF} {b:Bool} (h:r.is text=some b):az Tryz.prog fA [.ptr 0 0, .str text] ⟨[cJ r],[]⟩ (.bool b) ⟨[cJ r],[]⟩:=by
 unfold Rd.is at h
 refine az.go AR rfl fun B Q hB hQ=>?_
 have⟨hC,hE,hM,hY⟩:=bC
 repeat' (first
 |simp only[go_sem,hC,hE,hM,hY,na]
 |(rw[Option.bind_eq_some_iff]at h;obtain⟨_,h1,h⟩:=h;first|(with_reducible refine CU (po h1 (by with_unfolding_all rfl)) ?_))
 |(with_reducible first|refine aX fun hc=>?_|refine aY fun hc=>?_|refine aZ (fun hc=>?_) fun hc=>?_)<;>(try simp only[hc,bs,↓reduceIte]at h)<;>try simp only[hc]
 |(with_reducible refine aB hQ ?_;(try cases h);simp only[aQ,aS,bn,bo,go_sem,hC,hE,hM,hY,na];try exact bR))
theorem BL {r:Rd} {text:aF} {b:Bool} (h:r.is text=some b) {s:St} {o:Nat} (ho:s.ah[o]? = some (cJ r)):az Tryz.prog fA [.ptr o 0, .str text] s (.bool b) ⟨s.ah.set o (cJ r),s.aw⟩:=
 (asM h).kL rfl (fJ r) (fJ r) rfl ho
theorem ahN {r r':Rd} {c:Int} (h:r.bad c=some r'):az Tryz.prog e9 [.ptr 0 0, .int .i64 c] ⟨[cJ r],[]⟩ (.tuple []) ⟨[cJ r'],[]⟩:=by
 unfold Rd.bad at h
 refine az.go zH rfl fun B Q hB hQ=>?_
 have⟨hC,hE,hM,hY⟩:=bC
 repeat' (first
 |simp only[go_sem,hC,hE,hM,hY,na]
 |(rw[Option.bind_eq_some_iff]at h;obtain⟨_,h1,h⟩:=h;first|(with_reducible refine CU (po h1 (by with_unfolding_all rfl)) ?_))
 |(with_reducible refine CU (kT (by with_unfolding_all rfl)) ?_)
 |(with_reducible first|refine aX fun hc=>?_|refine aY fun hc=>?_|refine aZ (fun hc=>?_) fun hc=>?_)<;>(try simp only[hc,bs,↓reduceIte]at h)<;>try simp only[hc]
 |(with_reducible refine aB hQ ?_;(try cases h);simp only[aQ,aS,bn,bo,go_sem,hC,hE,hM,hY,na];try exact bR))
theorem E8 {r r':Rd} {c:Int} (h:r.bad c=some r') {s:St} {o:Nat} (ho:s.ah[o]? = some (cJ r)):az Tryz.prog e9 [.ptr o 0, .int .i64 c] s (.tuple []) ⟨s.ah.set o (cJ r'),s.aw⟩:=
 (ahN h).kL rfl (fJ r) (fJ r') rfl ho
theorem aep {r:Rd} {text:aF} {p:Bool×Rd} (h:r.take text=some p):az Tryz.prog dN [.ptr 0 0, .str text] ⟨[cJ r],[]⟩ (.bool p.1) ⟨[cJ p.2],[]⟩:=by
 unfold Rd.take at h
 refine az.go yx rfl fun B Q hB hQ=>?_
 have⟨hC,hE,hM,hY⟩:=bC
 repeat' (first
 |simp only[go_sem,hC,hE,hM,hY,na]
 |(rw[Option.bind_eq_some_iff]at h;obtain⟨_,h1,h⟩:=h;first|(with_reducible refine CU (BL h1 (by with_unfolding_all rfl)) ?_;have hC:=is_lt h1))
 |(with_reducible refine CU (kT (by with_unfolding_all rfl)) ?_)
 |(with_reducible first|refine aX fun hc=>?_|refine aY fun hc=>?_|refine aZ (fun hc=>?_) fun hc=>?_)<;>(try simp only[hc,bs,↓reduceIte]at h)<;>try simp only[hc]
 |(with_reducible refine aB hQ ?_;(try cases h);simp only[aQ,aS,bn,bo,go_sem,hC,hE,hM,hY,na];try exact bR))
theorem tK {r:Rd} {text:aF} {p:Bool×Rd} (h:r.take text=some p) {s:St} {o:Nat} (ho:s.ah[o]? = some (cJ r)):az Tryz.prog dN [.ptr o 0, .str text] s (.bool p.1) ⟨s.ah.set o (cJ p.2),s.aw⟩:=
 (aep h).kL rfl (fJ r) (fJ p.2) rfl ho
theorem aeq {r r':Rd} {text:aF} (h:r.want text=some r'):az Tryz.prog dv [.ptr 0 0, .str text] ⟨[cJ r],[]⟩ (.tuple []) ⟨[cJ r'],[]⟩:=by
 unfold Rd.want at h
 refine az.go yD rfl fun B Q hB hQ=>?_
 have⟨hC,hE,hM,hY⟩:=bC
 repeat' (first
 |simp only[go_sem,hC,hE,hM,hY,na]
 |(rw[Option.bind_eq_some_iff]at h;obtain⟨_,h1,h⟩:=h;first|(with_reducible refine CU (tK h1 (by with_unfolding_all rfl)) ?_))
 |(with_reducible refine CU (E8 h (by with_unfolding_all rfl)) ?_)
 |(with_reducible first|refine aX fun hc=>?_|refine aY fun hc=>?_|refine aZ (fun hc=>?_) fun hc=>?_)<;>(try simp only[hc,bs,↓reduceIte]at h)<;>try simp only[hc]
 |(with_reducible refine aB hQ ?_;(try cases h);simp only[aQ,aS,bn,bo,go_sem,hC,hE,hM,hY,na];try exact bR))
theorem qn {r r':Rd} {text:aF} (h:r.want text=some r') {s:St} {o:Nat} (ho:s.ah[o]? = some (cJ r)):az Tryz.prog dv [.ptr o 0, .str text] s (.tuple []) ⟨s.ah.set o (cJ r'),s.aw⟩:=
 (aeq h).kL rfl (fJ r) (fJ r') rfl ho
theorem aer {r:Rd} {room:Bool} {p:aF×Rd} (h:r.name room=some p):az Tryz.prog eP [.ptr 0 0, .bool room] ⟨[cJ r],[]⟩ (.str p.1) ⟨[cJ p.2],[]⟩:=by
 unfold Rd.name at h
 refine az.go yC rfl fun B Q hB hQ=>?_
 have⟨hC,hE,hM,hY⟩:=bC
 repeat' (first
 |simp only[go_sem,hC,hE,hM,hY,na]
 |(rw[Option.bind_eq_some_iff]at h;obtain⟨_,h1,h⟩:=h;first|(with_reducible refine CU (po h1 (by with_unfolding_all rfl)) ?_;have hC:=sG h1)|(with_reducible refine CU (E8 h1 (by with_unfolding_all rfl)) ?_))
 |(with_reducible refine CU (kT (by with_unfolding_all rfl)) ?_)
 |(with_reducible first|refine aX fun hc=>?_|refine aY fun hc=>?_|refine aZ (fun hc=>?_) fun hc=>?_)<;>(try simp only[hc,bs,↓reduceIte]at h)<;>try simp only[hc]
 |(with_reducible refine aB hQ ?_;(try cases h);simp only[aQ,aS,bn,bo,go_sem,hC,hE,hM,hY,na];try exact bR))
theorem yP {r:Rd} {room:Bool} {p:aF×Rd} (h:r.name room=some p) {s:St} {o:Nat} (ho:s.ah[o]? = some (cJ r)):az Tryz.prog eP [.ptr o 0, .bool room] s (.str p.1) ⟨s.ah.set o (cJ p.2),s.aw⟩:=
 (aer h).kL rfl (fJ r) (fJ p.2) rfl ho
set_option maxRecDepth 8000
open Go.Proofs
theorem iG (c:UInt8) (s:St):az Tryz.prog pg [.int .u8 (c.toNat:Int)] s (.bool (rW c)) s:=by
 refine az.pure ?_ rfl rfl s
 generalize h:rW c=b
 unfold rW at h
 unfold S0
 refine az.go Gk rfl fun B Q hB hQ=>?_
 have⟨hC,hE,hM,hY⟩:=bC
 repeat' (first
 |simp only[go_sem,hC,hE,hM,hY]
 |(with_reducible first|refine aX fun hc=>?_|refine aY fun hc=>?_|refine aZ (fun hc=>?_) fun hc=>?_)<;>(try simp only[hc,bs,↓reduceIte]at h)<;>try simp only[hc]
 |(with_reducible refine aB hQ ?_;exact er))
theorem km (c:UInt8) (s:St):az Tryz.prog qk [.int .u8 (c.toNat:Int)] s (.bool (pT c)) s:=by
 refine az.pure ?_ rfl rfl s
 generalize h:pT c=b
 unfold pT at h
 unfold S0
 refine az.go Io rfl fun B Q hB hQ=>?_
 have⟨hC,hE,hM,hY⟩:=bC
 repeat' (first
 |simp only[go_sem,hC,hE,hM,hY]
 |(with_reducible first|refine aX fun hc=>?_|refine aY fun hc=>?_|refine aZ (fun hc=>?_) fun hc=>?_)<;>(try simp only[hc,bs,↓reduceIte]at h)<;>try simp only[hc]
 |(with_reducible refine aB hQ ?_;exact er))
theorem vT (t:aF) (s:St):az Tryz.prog uY [.str t] s (.bool (isWord t)) s:=by
 refine az.pure ?_ rfl rfl s
 generalize h:isWord t=b
 unfold isWord at h
 unfold S0
 refine az.go KO rfl fun B Q hB hQ=>?_
 have⟨hC,hE,hM,hY⟩:=bC
 repeat' (first
 |simp only[go_sem,hC,hE,hM,hY]
 |(with_reducible first|refine aX fun hc=>?_|refine aY fun hc=>?_|refine aZ (fun hc=>?_) fun hc=>?_)<;>(try simp only[hc,bs,↓reduceIte]at h)<;>try simp only[hc]
 |(with_reducible refine aB hQ ?_;exact er))
theorem Zh {text:aF} {pos:Nat} (hl:text.length<4611686018427387904) (s:St):az Tryz.prog wO [.str text, .int .i64 (pos:Int)] s (.int .i64 ((pos+lP (text.drop pos):Nat):Int)) s:=by
 refine az.pure ?_ rfl rfl s
 unfold S0
 refine az.go MF rfl fun B Q hB hQ=>?_
 have⟨hC,hE,hM,hY⟩:=bC
 repeat' (first
 |simp only[go_sem,hC,hE,hM,hY]
 |(with_reducible refine aB hQ ?_;exact bd))
 refine dQ 0 0 (bg.ind (ι:=aF×Nat) (fun i=>text.drop i.2=i.1∧i.2+lP i.1=pos+lP (text.drop pos)) (fun i=>i.1.length)
  (fun i=> [(0, .str text),(1, .int .i64 (i.2:Int))]) (fun i=>⟨[],[]⟩) ?_ (text.drop pos,pos) ⟨rfl,rfl⟩)
 rintro⟨rest,k⟩ ⟨h1,h2⟩ IH
 dsimp only at h1 h2
 cases rest with
 |nil=>
  have hC:=drop_nil h1
  simp only[lP,Nat.add_zero]at h2
  rw[← h2]at hQ
  repeat' (first
 |simp only[go_sem,hC,hE,hM,hY]
 |(with_reducible refine aB hQ ?_;exact bd))
 | cons c rest=>
  obtain⟨hE,g2,hC,g4⟩:=drop_cons h1
  have hM:k<4611686018427387904:=by omega
  cases hb:(rW c ||pT c)
  ·simp only [lP,hb,Bool.false_eq_true, ↓reduceIte,Nat.add_zero]at h2
   rw[← h2]at hQ
   simp only[Bool.or_eq_false_iff]at hb
   repeat' (first
 |simp only[go_sem,hC,hE,hM,hY,hb.1,hb.2]
 |(with_reducible refine CU (iG _ _) ?_)
 |(with_reducible refine CU (km _ _) ?_)
 | (with_reducible refine aB hQ ?_;exact bd))
  ·simp only [lP,hb, ↓reduceIte]at h2
   cases JX:rW c
   ·rw [JX,Bool.false_or]at hb
    repeat' (first
 |simp only[go_sem,hC,hE,hM,hY,hb,JX]
 |(with_reducible refine CU (iG _ _) ?_)
 |(with_reducible refine CU (km _ _) ?_)
 | (with_reducible refine aB hQ ?_;exact bd))
    refine dQ 0 0 (IH (rest,k+1) ⟨g2,by dsimp only;omega⟩ (Nat.lt_succ_self _))
   ·repeat' (first
 |simp only[go_sem,hC,hE,hM,hY,JX]
 |(with_reducible refine CU (iG _ _) ?_)
 |(with_reducible refine CU (km _ _) ?_)
 | (with_reducible refine aB hQ ?_;exact bd))
    refine dQ 0 0 (IH (rest,k+1) ⟨g2,by dsimp only;omega⟩ (Nat.lt_succ_self _))
theorem zM (text:aF) (a b:Nat):(text.take (a+b)).drop a=(text.drop a).take b:=by rw[List.drop_take];congr 1;omega
set_option maxRecDepth 20000 in
theorem aes {text : aF} {pos : Nat} {c : UInt8} {r : aF} (hd : text.drop pos = c :: r) (hl : text.length < 4611686018427387904) (s : St) :
   az Tryz.prog zB [.str text, .int .i64 (pos : Int)] s (.int .i64 ((s8 (c :: r) : Nat) : Int)) s := by
 refine az.pure ?_ rfl rfl s
 obtain ⟨hE, g2, g3, g4⟩ := drop_cons hd
 have hM : pos < 4611686018427387904 := by omega
 have hY : 0 < 1 := Nat.zero_lt_one
 generalize h : s8 (c :: r) = k
 unfold S0
 cases r with
 | nil =>
   have hC : decide (((pos + 1 : Nat) : Int) < (text.length : Int)) = false := drop_nil g2
   simp only[s8, Jf]at h
   refine az.go BI rfl fun B Q hB hQ =>?_
   repeat' (first
 |simp only[go_sem, hC, hE, hM, hY]
 |(with_reducible first|refine aX fun hc =>?_|refine aY fun hc =>?_|refine aZ (fun hc =>?_) fun hc =>?_)<;>(try simp only[hc, bs,↓reduceIte]at h)<;>try simp only[hc]
 |(with_reducible refine aB hQ ?_; exact er)
 |(cases h; done))
 | cons d r =>
   obtain ⟨_, _, hC, _⟩ := drop_cons g2
   have e1 : (text.take (pos + 2)).drop pos = [c, d] := by rw[zM, hd]; rfl
   have e2 : (0 : Int) ≤ (pos : Int) ∧ (pos : Int) ≤ ((pos + 2 : Nat) : Int) ∧ ((pos + 2 : Nat) : Int) ≤ (text.length : Int) := by omega
   simp only[s8, Jf, Zg]at h
   refine az.go BI rfl fun B Q hB hQ =>?_
   repeat' (first
 |simp only[go_sem, hC, hE, hM, hY, e1, e2]
 |(with_reducible first|refine aX fun hc =>?_|refine aY fun hc =>?_|refine aZ (fun hc =>?_) fun hc =>?_)<;>(try simp only[hc, bs,↓reduceIte]at h)<;>try simp only[hc]
 |(with_reducible refine aB hQ ?_; (try cases h); simp only[aQ, aS, bn, bo, go_sem, hC, hE, hM, hY, e1, e2]; try exact bR)
 |(cases h; done))
theorem Tr {c:UInt8} (h:pT c=true):48≤(c.toNat:Int)∧(c.toNat:Int)≤57:=by
 simp only[pT,Bool.and_eq_true,decide_eq_true_eq]at h
 omega
def pw (s:aF):Int×Bool:=match bT 0 s with|some n=>(n,true)|none=>(0,false)
theorem WA {text:aF} (hd : ∀ c∈text,pT c=true) (hl:text.length<4611686018427387904) (s:St) :
 az Tryz.prog vG [.str text] s (.tuple [.int .i64 (pw text).1, .bool (pw text).2]) s:=by
 refine az.pure ?_ rfl rfl s
 generalize hw:pw text=p
 unfold S0
 refine az.go Gl rfl fun B Q hB hQ=>?_
 have⟨hC,hE,hM,hY⟩:=bC
 repeat' (first
 |simp only[go_sem,hC,hE,hM,hY]
 |(with_reducible first|refine aX fun hc=>?_|refine aY fun hc=>?_|refine aZ (fun hc=>?_) fun hc=>?_)<;>(try simp only[hc,bs,↓reduceIte]at h)<;>try simp only[hc]
 |(with_reducible refine aB hQ ?_;exact er)
 |(cases h;done))
 refine dQ 0 0 (bg.ind (ι:=aF×Nat×Int) (fun i=>text.drop i.2.1=i.1∧0≤i.2.2∧i.2.2≤9223372036854775807∧(match bT i.2.2 i.1 with|some n=>(n,true)|none=>(0,false))=p) (fun i=>i.1.length)
  (fun i=> [(0, .str text),(4, .int .i64 i.2.2),(5, .int .i64 (i.2.1:Int))]) (fun i=>⟨[],[]⟩) ?_ (text,0,0) ⟨rfl,Int.le_refl 0,by dsimp only;omega,hw⟩)
 rintro⟨rest,k,n⟩ ⟨h1,h2,h3,h⟩ IH
 dsimp only at h1 h2 h3 h
 cases rest with
 |nil=>
  have hC:=drop_nil h1
  simp only[bT]at h
  repeat' (first
 |simp only[go_sem,hC,hE,hM,hY]
 |(with_reducible first|refine aX fun hc=>?_|refine aY fun hc=>?_|refine aZ (fun hc=>?_) fun hc=>?_)<;>(try simp only[hc,bs,↓reduceIte]at h)<;>try simp only[hc]
 |(with_reducible refine aB hQ ?_;exact er)
 |(cases h;done))
 | cons c rest=>
  obtain⟨hE,g2,hC,g4⟩:=drop_cons h1
  have hM:k<4611686018427387904:=by omega
  have hc:=Tr (hd c (List.mem_of_getElem? hE))
  have w1:IntKind.wrap .u8 ((c.toNat:Int) - 48)=(c.toNat:Int) - 48:=by rw[IntKind.wrap_u8];omega
  have w2:IntKind.wrap .i64 ((c.toNat:Int) - 48)=(c.toNat:Int) - 48:=dP (by omega) (by omega)
  have w3:IntKind.wrap .i64 (9223372036854775807 - ((c.toNat:Int) - 48))=9223372036854775807 - ((c.toNat:Int) - 48):=dP (by omega) (by omega)
  have w4:IntKind.wrap .i64 ((9223372036854775807 - ((c.toNat:Int) - 48)).tdiv 10)=(9223372036854775807 - ((c.toNat:Int) - 48)) / 10:=by
   rw[Int.tdiv_eq_ediv_of_nonneg (by omega)];exact dP (by omega) (by omega)
  have t10:((10:Int)=0)=False:=by simp
  simp only[bT]at h
  by_cases hn:n > (9223372036854775807 - ((c.toNat:Int) - 48)) / 10
  ·have mV:decide (n > (9223372036854775807 - ((c.toNat:Int) - 48)) / 10)=true:=by simpa using hn
   rw[if_pos hn]at h
   repeat' (first
 |simp only[go_sem,hC,hE,hM,hY,w1,w2,w3,w4,t10,mV]
 |(with_reducible first|refine aX fun hc=>?_|refine aY fun hc=>?_|refine aZ (fun hc=>?_) fun hc=>?_)<;>(try simp only[hc,bs,↓reduceIte]at h)<;>try simp only[hc]
 |(with_reducible refine aB hQ ?_;(try cases h);simp only[aQ,aS,bn,bo,go_sem,hC,hE,hM,hY,w1,w2,w3,w4,t10,mV];try exact bR)
 | (cases h;done))
  ·have mV:decide (n > (9223372036854775807 - ((c.toNat:Int) - 48)) / 10)=false:=by simpa using hn
   rw[if_neg hn]at h
   have w5:IntKind.wrap .i64 (n*10)=n*10:=dP (by omega) (by omega)
   have w6:IntKind.wrap .i64 (n*10+((c.toNat:Int) - 48))=n*10+((c.toNat:Int) - 48):=dP (by omega) (by omega)
   repeat' (first
 |simp only[go_sem,hC,hE,hM,hY,w1,w2,w3,w4,t10,mV,w5,w6]
 |(with_reducible first|refine aX fun hc=>?_|refine aY fun hc=>?_|refine aZ (fun hc=>?_) fun hc=>?_)<;>(try simp only[hc,bs,↓reduceIte]at h)<;>try simp only[hc]
 |(with_reducible refine aB hQ ?_;(try cases h);simp only[aQ,aS,bn,bo,go_sem,hC,hE,hM,hY,w1,w2,w3,w4,t10,mV,w5,w6];try exact bR)
 | (cases h;done))
   refine dQ 0 0 (IH (rest,k+1,n*10+((c.toNat:Int) - 48)) ⟨g2,by dsimp only;omega,by dsimp only;omega,h⟩ (Nat.lt_succ_self _))
set_option maxRecDepth 8000
open Go.Proofs
theorem WB {c:UInt8} {r:aF} (h:rW c=true):0<lP (c::r):=by simp[lP,h]
theorem KU : ∀ s:aF,lP s≤s.length
 | []=>Nat.le_refl _
 |c::r=>by simp only[lP];split<;>simp only[List.length_cons]<;>have:=KU r<;>omega
theorem KV : ∀ s:aF,rX s≤s.length
 | []=>Nat.le_refl _
 |c::r=>by simp only[rX];split<;>simp only[List.length_cons]<;>have:=KV r<;>omega
theorem Hr : ∀ s:aF,qC s≤s.length
 | []=>Nat.le_refl _
 |c::r=>by simp only[qC];split<;>simp only[List.length_cons]<;>have:=Hr r<;>omega
theorem Ts : ∀ s:aF,s8 s≤s.length
 | []=>Nat.le_refl _
 | [c]=>by simp only[s8];split<;>simp
 |c::d::r=>by simp only[s8];(repeat' split)<;>simp
theorem KW : ∀ (s:aF),∀ c∈s.take (rX s),pT c=true
 | [],c,h=>by simp[rX]at h
 | d::r,c,h=>by
  simp only[rX]at h
  split at h
  ·rw [List.take_succ_cons]at h
   rcases List.mem_cons.1 h with rfl|h
   ·assumption
   ·exact KW r c h
  ·simp at h
def p9 (f:Int×Int):List D:= [.int .i64 f.1, .int .i64 f.2]
def oQ (text:aF) (out:List fX) (pos:Nat):Tm:= [(0, .str text),(3, .ptr 0 0),(4, .slice (.tok 0) 4 (out.map eM)),(5, .ptr 1 0),(6, .int .i64 (pos:Int))]
def pJ (out:List fX):St:=⟨[[.int .i64 0, .int .i64 0],[.junk, .junk, .junk, .junk]],[some out.length]⟩
theorem Tt {c:UInt8} {r:aF} (h:((c.toNat:Int)==35)=true):0<qC (c::r):=by
 have:((c.toNat:Int) != 10)=true:=by simp only[beq_iff_eq]at h;simp[h]
 simp[qC,this]
def s9 (text:aF) (B:e7) (Q:Exit→Tm→St→Prop) (p:List fX×Int×Int) (N:Nat):Prop:=
 ∀ (n pos:Nat) (rest:aF) (out:List fX),text.drop pos=rest→nX n pos rest out=p→rest.length<n→out.length≤2000→pos≤text.length→n<N→
  iY Tryz.prog B 152 qO (.seq .skip vR) Q (oQ text out pos) (pJ out)
theorem s9.to {text:aF} {B:e7} {Q:Exit→Tm→St→Prop} {p:List fX×Int×Int} {N:Nat} (hB:B.s=S0) (IH:s9 text B Q p N) {n pos:Nat} {rest:aF} {out:List fX} {tm:Tm} {s:St}
 (h1:text.drop pos=rest) (h:nX n pos rest out=p) (h2:rest.length<n) (h3:out.length≤2000) (h4:pos≤text.length) (h5:n<N)
 (ht:uI tm 2 1 (oQ text out pos)) (ho:gx (s.cut 2 1).ah (pJ out).ah) (hk:(s.cut 2 1).aw=(pJ out).aw) :
 jZ Tryz.prog B 152 qO Q (.goto 0) tm s:=by
 refine zv (l:=0) (r:= .seq .skip vR) rfl (iY.re _ _ 2 1 (by rw[hB];exact mI rfl) (by rw[hB];exact mI rfl) ht ho ?_)
 have:=IH n pos rest out h1 h h2 h3 h4 h5
 rw[hk]
 exact this
attribute [go_sem] oQ pJ p9
theorem lex_nil {text:aF} (hl:text.length≤100000) {B:e7} {Q:Exit→Tm→St→Prop} {p:List fX×Int×Int} (hB:B.s=S0)
 (hQ:iz 0 0 [(2,none),(3,some (true,2))] (.tuple [.slice .shared 4 (p.1.map eM), .agg (p9 p.2)]) ⟨[],[]⟩=Q)
 {n pos:Nat} {out:List fX} (ho:out.length≤2000) (hp:pos≤text.length) (IH:s9 text B Q p (n+1))
 (h1:text.drop pos = []) (h:nX (n+1) pos [] out=p):gC Tryz.prog B 152 vR (jZ Tryz.prog B 152 qO Q) (oQ text out pos) (pJ out):=by
 have⟨hC,hE,hM,hY⟩:=bC
 have fL:(out.length+1)*41≤bx:=by simp only[bx];omega
 have eH:decide ((pos:Int)≥(text.length:Int))=true:=by have:=List.drop_eq_nil_iff.1 h1;simp;omega
 have:pos=text.length:=by have:=List.drop_eq_nil_iff.1 h1;omega
 subst this
 simp only[nX]at h
 repeat' (first
 |simp only[go_sem,hC,hE,hM,hY,eH,fL]
 |(with_reducible first|refine aX fun hc=>?_|refine aY fun hc=>?_|refine aZ (fun hc=>?_) fun hc=>?_)<;>(try simp only[hc,bs,↓reduceIte]at h)<;>try simp only[hc]
 |(with_reducible refine aB hQ ?_;(try cases h);simp only[aQ,aS,bn,bo,go_sem,hC,hE,hM,hY,eH,fL];try exact bR))
theorem Tv {text:aF} (hl:text.length≤100000) {B:e7} {Q:Exit→Tm→St→Prop} {p:List fX×Int×Int} (hB:B.s=S0)
 (hQ:iz 0 0 [(2,none),(3,some (true,2))] (.tuple [.slice .shared 4 (p.1.map eM), .agg (p9 p.2)]) ⟨[],[]⟩=Q)
 {n pos:Nat} {out:List fX} (ho:out.length≤2000) (hp:pos≤text.length) (IH:s9 text B Q p (n+1))
 {c:UInt8} {r:aF} (h1:text.drop pos=c::r) (hb:AG c=true) (hn:(c::r).length<n+1) (h:nX (n+1) pos (c::r) out=p) :
 gC Tryz.prog B 152 vR (jZ Tryz.prog B 152 qO Q) (oQ text out pos) (pJ out):=by
 have hM:0<1:=Nat.zero_lt_one
 have hY:0<1:=Nat.zero_lt_one
 obtain⟨hE,g2,g3,g4⟩:=drop_cons h1
 have hC:pos<4611686018427387904:=by omega
 have eH:decide ((pos:Int)≥(text.length:Int))=false:=by simp;omega
 simp only[nX,hb,↓reduceIte]at h
 have mV:r.length<n:=by simp only[List.length_cons]at hn;omega
 have e : ∀ x y:Int,(x==y)=false→(x==y)=true→False:=fun x y a b=>by rw[a]at b;cases b
 simp only[AG]at hb
 repeat' (first
 |simp only[go_sem,hC,hE,hM,hY,eH]
 |(refine IH.to hB g2 h mV ho g4 (Nat.lt_succ_self _) ?_ ?_ ?_<;>((try simp only[go_sem,hC,hE,hM,hY]);repeat' (first|exact Ok.out|with_reducible refine eL ?_ ?_|omega|(simp;done)));done)
 |(with_reducible first|refine aX fun hc=>?_|refine aY fun hc=>?_|refine aZ (fun hc=>?_) fun hc=>?_)<;>(try simp only[hc,bs,↓reduceIte]at h)<;>try simp only[hc]
 |(with_reducible refine aB hQ ?_;simp only[aQ,aS,bn,bo,go_sem,hC,hE,hM,hY];repeat' (first|exact Ok.out|with_reducible refine eL ?_ ?_|(simp;done))))
 all_goals (exfalso;simp_all;done)
theorem QP {text:aF} (hl:text.length≤100000) {B:e7} {Q:Exit→Tm→St→Prop} {p:List fX×Int×Int} (hB:B.s=S0)
 (hQ:iz 0 0 [(2,none),(3,some (true,2))] (.tuple [.slice .shared 4 (p.1.map eM), .agg (p9 p.2)]) ⟨[],[]⟩=Q)
 {n pos:Nat} {out:List fX} (ho:out.length≤2000) (hp:pos≤text.length) (IH:s9 text B Q p (n+1))
 {c:UInt8} {r:aF} (h1:text.drop pos=c::r) (hb:AG c=false) (hc:((c.toNat:Int)==35)=true) (hn:(c::r).length<n+1) (h:nX (n+1) pos (c::r) out=p) :
 gC Tryz.prog B 152 vR (jZ Tryz.prog B 152 qO Q) (oQ text out pos) (pJ out):=by
 have hM:0<1:=Nat.zero_lt_one
 have hY:0<1:=Nat.zero_lt_one
 have ahO:=(drop_cons h1).1
 have hE:=ahO
 have g4:=(drop_cons h1).2.2.2
 have hC:pos<4611686018427387904:=by omega
 have eH:decide ((pos:Int)≥(text.length:Int))=false:=by simp;omega
 simp only[nX,hb,Bool.false_eq_true,↓reduceIte,hc]at h
 simp only[AG,Bool.or_eq_false_iff]at hb
 have hk:=Tt (r:=r) hc
 have cj:=Hr (c::r)
 have tL:(c::r).length=text.length - pos:=by rw[← h1,List.length_drop]
 generalize hL:qC (c::r)=L at h hk cj
 repeat' (first
 |simp only[go_sem,hC,hE,hM,hY,eH,hb.1.1.1,hb.1.1.2,hb.1.2,hb.2,hc]
 |(with_reducible refine cv (l:=1) (by with_unfolding_all rfl) ?_)
 |(with_reducible refine aB hQ ?_;exact bd))
 refine dQ 2 1 (bg.ind (ι:=aF×Nat) (fun i=>text.drop i.2=i.1∧i.2+qC i.1=pos+L) (fun i=>i.1.length)
  (fun i=>oQ text out i.2) (fun i=>pJ out) ?_ (c::r,pos) ⟨h1,by dsimp only;omega⟩)
 rintro⟨rest,k⟩ ⟨j1,j2⟩ IHl
 dsimp only at j1 j2
 have fin:text.drop (pos+L)=(c::r).drop L:=by rw[← h1,List.drop_drop]
 have hlen:((c::r).drop L).length<n:=by rw[List.length_drop];omega
 cases rest with
 |nil=>
  have eH:=drop_nil j1
  simp only[qC,Nat.add_zero]at j2
  subst j2
  repeat' (first
 |simp only[go_sem,hC,hE,hM,hY,eH]
 |(refine IH.to hB fin h hlen ho (by omega) (Nat.lt_succ_self _) ?_ ?_ ?_<;>((try simp only[go_sem,hC,hE,hM,hY]);repeat' (first|exact Ok.out|with_reducible refine eL ?_ ?_|omega|(simp;done)));done)
 |(with_reducible refine aB hQ ?_;exact bd))
 | cons d rest=>
  obtain⟨hE,g2,eH,g5⟩:=drop_cons j1
  have hC:k<4611686018427387904:=by omega
  cases hd:((d.toNat:Int) != 10)
  ·simp only [qC,hd,Bool.false_eq_true, ↓reduceIte,Nat.add_zero]at j2
   subst j2
   repeat' (first
 |simp only[go_sem,hC,hE,hM,hY,eH,hd]
 |(refine IH.to hB fin h hlen ho (by omega) (Nat.lt_succ_self _) ?_ ?_ ?_<;>((try simp only[go_sem,hC,hE,hM,hY]);repeat' (first|exact Ok.out|with_reducible refine eL ?_ ?_|omega|(simp;done)));done)
 | (with_reducible refine aB hQ ?_;exact bd))
  ·simp only [qC,hd, ↓reduceIte]at j2
   repeat' (first
 |simp only[go_sem,hC,hE,hM,hY,eH,hd]
 | (with_reducible refine aB hQ ?_;exact bd))
   refine dQ 2 1 (IHl (rest,k+1) ⟨g2,by dsimp only;omega⟩ (Nat.lt_succ_self _))
theorem WC {text:aF} (hl:text.length≤100000) {B:e7} {Q:Exit→Tm→St→Prop} {p:List fX×Int×Int} (hB:B.s=S0)
 (hQ:iz 0 0 [(2,none),(3,some (true,2))] (.tuple [.slice .shared 4 (p.1.map eM), .agg (p9 p.2)]) ⟨[],[]⟩=Q)
 {n pos:Nat} {out:List fX} (ho:out.length≤2000) (hp:pos≤text.length) (IH:s9 text B Q p (n+1))
 {c:UInt8} {r:aF} (h1:text.drop pos=c::r) (hb:AG c=false) (hc:((c.toNat:Int)==35)=false) (hL:rW c=false) (hD:pT c=false) (hn:(c::r).length<n+1) (h:nX (n+1) pos (c::r) out=p) :
 gC Tryz.prog B 152 vR (jZ Tryz.prog B 152 qO Q) (oQ text out pos) (pJ out):=by
 have hM:0<1:=Nat.zero_lt_one
 have hY:0<1:=Nat.zero_lt_one
 have hE:=(drop_cons h1).1
 have g4:=(drop_cons h1).2.2.2
 have hC:pos<4611686018427387904:=by omega
 have eH:decide ((pos:Int)≥(text.length:Int))=false:=by simp;omega
 have fL:(out.length+1)*41≤bx:=by simp only[bx];omega
 have Jg:=fun s=>aes h1 (by omega) s
 have cj:=Ts (c::r)
 have tL:(c::r).length=text.length - pos:=by rw[← h1,List.length_drop]
 simp only[nX,hb,Bool.false_eq_true,↓reduceIte,hc,QM,hL,hD]at h
 simp only[AG,Bool.or_eq_false_iff]at hb
 generalize hK:s8 (c::r)=k at h Jg cj
 have e1:IntKind.wrap .i64 ((pos:Int)+(k:Int))=((pos+k:Nat):Int):=by rw[dP]<;>omega
 have e2:(0:Int)≤(pos:Int)∧(pos:Int)≤((pos+k:Nat):Int)∧((pos+k:Nat):Int)≤(text.length:Int):=by omega
 have e3:(text.take (pos+k)).drop pos=(c::r).take k:=by rw[zM,h1]
 by_cases hz:k=0
 ·have oh:decide (((pos+k:Nat):Int) > (pos:Int))=false:=by simp;omega
  simp only[hz,↓reduceIte]at h
  repeat' (first
 |simp only[go_sem,hC,hE,hM,hY,eH,hb.1.1.1,hb.1.1.2,hb.1.2,hb.2,hc,hL,hD,e1,e2,e3,oh]
 |(with_reducible refine CU (iG _ _) ?_)
 |(with_reducible refine CU (km _ _) ?_)
 |(with_reducible refine CU (Jg _) ?_)
 |(with_reducible refine cv (l:=4) (by with_unfolding_all rfl) ?_)
 |(with_reducible refine cv (l:=5) (by with_unfolding_all rfl) ?_)
 |(with_reducible first|refine aX fun hc=>?_|refine aY fun hc=>?_|refine aZ (fun hc=>?_) fun hc=>?_)<;>(try simp only[hc,bs,↓reduceIte]at h)<;>try simp only[hc]
 |(with_reducible refine aB hQ ?_;(try cases h);simp only[aQ,aS,bn,bo,go_sem,hC,hE,hM,hY,eH,hb.1.1.1,hb.1.1.2,hb.1.2,hb.2,hc,hL,hD,e1,e2,e3,oh];try exact bR))
 ·have oh:decide (((pos+k:Nat):Int) > (pos:Int))=true:=by simp;omega
  have hlen:((c::r).take k).length=k:=by rw[List.length_take];omega
  have fin:text.drop (pos+k)=(c::r).drop k:=by rw[← h1,List.drop_drop]
  have u4:((c::r).drop k).length<n:=by rw[List.length_drop];omega
  simp only[hz,↓reduceIte,hlen]at h
  by_cases sg:out.length=2000
  ·have kH:((out.length:Int)==2000)=true:=by simp [sg]
   simp only[sg,↓reduceIte]at h
   repeat' (first
 |simp only[go_sem,hC,hE,hM,hY,eH,hb.1.1.1,hb.1.1.2,hb.1.2,hb.2,hc,hL,hD,e1,e2,e3,oh,kH]
 |(with_reducible refine CU (iG _ _) ?_)
 |(with_reducible refine CU (km _ _) ?_)
 |(with_reducible refine CU (Jg _) ?_)
 |(with_reducible refine cv (l:=4) (by with_unfolding_all rfl) ?_)
 |(with_reducible refine cv (l:=5) (by with_unfolding_all rfl) ?_)
 |(with_reducible first|refine aX fun hc=>?_|refine aY fun hc=>?_|refine aZ (fun hc=>?_) fun hc=>?_)<;>(try simp only[hc,bs,↓reduceIte]at h)<;>try simp only[hc]
 | (with_reducible refine aB hQ ?_;(try cases h);simp only [aQ,aS,bn,bo,go_sem,hC,hE,hM,hY,eH,hb.1.1.1,hb.1.1.2,hb.1.2,hb.2,hc,hL,hD,e1,e2,e3,oh,kH];try exact bR))
  ·have kH:((out.length:Int)==2000)=false:=by simp;omega
   have Du : ∀ t:fX,(out++ [t]).length≤2000:=by intro t;simp;omega
   simp only[sg,↓reduceIte]at h
   repeat' (first
 |simp only[go_sem,hC,hE,hM,hY,eH,hb.1.1.1,hb.1.1.2,hb.1.2,hb.2,hc,hL,hD,e1,e2,e3,oh,kH,fL]
 |(with_reducible refine CU (iG _ _) ?_)
 |(with_reducible refine CU (km _ _) ?_)
 |(with_reducible refine CU (Jg _) ?_)
 |(with_reducible refine cv (l:=4) (by with_unfolding_all rfl) ?_)
 |(with_reducible refine cv (l:=5) (by with_unfolding_all rfl) ?_)
 |(refine IH.to hB fin h u4 (Du _) (by omega) (Nat.lt_succ_self _) ?_ ?_ ?_<;>((try simp only[go_sem,hC,hE,hM,hY]);repeat' (first|exact Ok.out|with_reducible refine eL ?_ ?_|omega|(simp;done)));done)
 |(with_reducible refine aB hQ ?_;exact bd))
theorem WD {text:aF} (hl:text.length≤100000) {B:e7} {Q:Exit→Tm→St→Prop} {p:List fX×Int×Int} (hB:B.s=S0)
 (hQ:iz 0 0 [(2,none),(3,some (true,2))] (.tuple [.slice .shared 4 (p.1.map eM), .agg (p9 p.2)]) ⟨[],[]⟩=Q)
 {n pos:Nat} {out:List fX} (ho:out.length≤2000) (hp:pos≤text.length) (IH:s9 text B Q p (n+1))
 {c:UInt8} {r:aF} (h1:text.drop pos=c::r) (hb:AG c=false) (hc:((c.toNat:Int)==35)=false) (hL:rW c=true) (hn:(c::r).length<n+1) (h:nX (n+1) pos (c::r) out=p) :
 gC Tryz.prog B 152 vR (jZ Tryz.prog B 152 qO Q) (oQ text out pos) (pJ out):=by
 have hM:0<1:=Nat.zero_lt_one
 have hY:0<1:=Nat.zero_lt_one
 have hE:=(drop_cons h1).1
 have g4:=(drop_cons h1).2.2.2
 have hC:pos<4611686018427387904:=by omega
 have eH:decide ((pos:Int)≥(text.length:Int))=false:=by simp;omega
 have fL:(out.length+1)*41≤bx:=by simp only[bx];omega
 have dG:=fun s=>Zh (text:=text) (pos:=pos) (by omega) s
 rw[h1]at dG
 have cj:=KU (c::r)
 have rn:=WB (r:=r) hL
 have tL:(c::r).length=text.length - pos:=by rw[← h1,List.length_drop]
 simp only[nX,hb,Bool.false_eq_true,↓reduceIte,hc,QM,hL]at h
 simp only[AG,Bool.or_eq_false_iff]at hb
 generalize hK:lP (c::r)=k at h dG cj rn
 have hlen:((c::r).take k).length=k:=by rw[List.length_take];omega
 simp only[hlen]at h
 have e1:IntKind.wrap .i64 (((pos+k:Nat):Int) - (pos:Int))=(k:Int):=by rw[dP]<;>omega
 have e2:(0:Int)≤(pos:Int)∧(pos:Int)≤((pos+k:Nat):Int)∧((pos+k:Nat):Int)≤(text.length:Int):=by omega
 have e3:(text.take (pos+k)).drop pos=(c::r).take k:=by rw[zM,h1]
 by_cases hz:k > 8
 ·have oh:decide ((k:Int) > 8)=true:=by simp;omega
  simp only[hz,↓reduceIte]at h
  cases hw:isWord ((c::r).take k)
  ·repeat' (first
 |simp only[go_sem,hC,hE,hM,hY,eH,hb.1.1.1,hb.1.1.2,hb.1.2,hb.2,hc,hL,e1,e2,e3,oh,hw]
 |(with_reducible refine CU (iG _ _) ?_)
 |(with_reducible refine CU (dG _) ?_)
 |(with_reducible refine CU (vT _ _) ?_)
 |(with_reducible refine cv (l:=2) (by with_unfolding_all rfl) ?_)
 |(with_reducible refine cv (l:=4) (by with_unfolding_all rfl) ?_)
 |(with_reducible refine cv (l:=5) (by with_unfolding_all rfl) ?_)
 |(with_reducible first|refine aX fun hc=>?_|refine aY fun hc=>?_|refine aZ (fun hc=>?_) fun hc=>?_)<;>(try simp only[hc,bs,↓reduceIte]at h)<;>try simp only[hc]
 |(with_reducible refine aB hQ ?_;(try cases h);simp only[aQ,aS,bn,bo,go_sem,hC,hE,hM,hY,eH,hb.1.1.1,hb.1.1.2,hb.1.2,hb.2,hc,hL,e1,e2,e3,oh,hw];try exact bR))
  ·repeat' (first
 |simp only[go_sem,hC,hE,hM,hY,eH,hb.1.1.1,hb.1.1.2,hb.1.2,hb.2,hc,hL,e1,e2,e3,oh,hw]
 |(with_reducible refine CU (iG _ _) ?_)
 |(with_reducible refine CU (dG _) ?_)
 |(with_reducible refine CU (vT _ _) ?_)
 |(with_reducible refine cv (l:=2) (by with_unfolding_all rfl) ?_)
 |(with_reducible refine cv (l:=4) (by with_unfolding_all rfl) ?_)
 |(with_reducible refine cv (l:=5) (by with_unfolding_all rfl) ?_)
 |(with_reducible first|refine aX fun hc=>?_|refine aY fun hc=>?_|refine aZ (fun hc=>?_) fun hc=>?_)<;>(try simp only[hc,bs,↓reduceIte]at h)<;>try simp only[hc]
 |(with_reducible refine aB hQ ?_;(try cases h);simp only[aQ,aS,bn,bo,go_sem,hC,hE,hM,hY,eH,hb.1.1.1,hb.1.1.2,hb.1.2,hb.2,hc,hL,e1,e2,e3,oh,hw];try exact bR))
 ·have oh:decide ((k:Int) > 8)=false:=by simp;omega
  have fin:text.drop (pos+k)=(c::r).drop k:=by rw[← h1,List.drop_drop]
  have u4:((c::r).drop k).length<n:=by rw[List.length_drop];omega
  simp only[hz,↓reduceIte,hlen]at h
  by_cases sg:out.length=2000
  ·have kH:((out.length:Int)==2000)=true:=by simp [sg]
   simp only[sg,↓reduceIte]at h
   cases hw:isWord ((c::r).take k)
   ·repeat' (first
 |simp only[go_sem,hC,hE,hM,hY,eH,hb.1.1.1,hb.1.1.2,hb.1.2,hb.2,hc,hL,e1,e2,e3,oh,kH,hw]
 |(with_reducible refine CU (iG _ _) ?_)
 |(with_reducible refine CU (dG _) ?_)
 |(with_reducible refine CU (vT _ _) ?_)
 |(with_reducible refine cv (l:=2) (by with_unfolding_all rfl) ?_)
 |(with_reducible refine cv (l:=4) (by with_unfolding_all rfl) ?_)
 |(with_reducible refine cv (l:=5) (by with_unfolding_all rfl) ?_)
 |(with_reducible first|refine aX fun hc=>?_|refine aY fun hc=>?_|refine aZ (fun hc=>?_) fun hc=>?_)<;>(try simp only[hc,bs,↓reduceIte]at h)<;>try simp only[hc]
 | (with_reducible refine aB hQ ?_;(try cases h);simp only [aQ,aS,bn,bo,go_sem,hC,hE,hM,hY,eH,hb.1.1.1,hb.1.1.2,hb.1.2,hb.2,hc,hL,e1,e2,e3,oh,kH,hw];try exact bR))
   ·repeat' (first
 |simp only[go_sem,hC,hE,hM,hY,eH,hb.1.1.1,hb.1.1.2,hb.1.2,hb.2,hc,hL,e1,e2,e3,oh,kH,hw]
 |(with_reducible refine CU (iG _ _) ?_)
 |(with_reducible refine CU (dG _) ?_)
 |(with_reducible refine CU (vT _ _) ?_)
 |(with_reducible refine cv (l:=2) (by with_unfolding_all rfl) ?_)
 |(with_reducible refine cv (l:=4) (by with_unfolding_all rfl) ?_)
 |(with_reducible refine cv (l:=5) (by with_unfolding_all rfl) ?_)
 |(with_reducible first|refine aX fun hc=>?_|refine aY fun hc=>?_|refine aZ (fun hc=>?_) fun hc=>?_)<;>(try simp only[hc,bs,↓reduceIte]at h)<;>try simp only[hc]
 | (with_reducible refine aB hQ ?_;(try cases h);simp only [aQ,aS,bn,bo,go_sem,hC,hE,hM,hY,eH,hb.1.1.1,hb.1.1.2,hb.1.2,hb.2,hc,hL,e1,e2,e3,oh,kH,hw];try exact bR))
  ·have kH:((out.length:Int)==2000)=false:=by simp;omega
   have Du : ∀ t:fX,(out++ [t]).length≤2000:=by intro t;simp;omega
   simp only[sg,↓reduceIte]at h
   cases hw:isWord ((c::r).take k)
   ·simp only [hw,Bool.false_eq_true, ↓reduceIte]at h
    repeat' (first
 |simp only[go_sem,hC,hE,hM,hY,eH,hb.1.1.1,hb.1.1.2,hb.1.2,hb.2,hc,hL,e1,e2,e3,oh,kH,fL,hw]
 |(with_reducible refine CU (iG _ _) ?_)
 |(with_reducible refine CU (dG _) ?_)
 |(with_reducible refine CU (vT _ _) ?_)
 |(with_reducible refine cv (l:=2) (by with_unfolding_all rfl) ?_)
 |(with_reducible refine cv (l:=4) (by with_unfolding_all rfl) ?_)
 |(with_reducible refine cv (l:=5) (by with_unfolding_all rfl) ?_)
 |(refine IH.to hB fin h u4 (Du _) (by omega) (Nat.lt_succ_self _) ?_ ?_ ?_<;>((try simp only[go_sem,hC,hE,hM,hY]);repeat' (first|exact Ok.out|with_reducible refine eL ?_ ?_|omega|(simp;done)));done)
 |(with_reducible first|refine aX fun hc=>?_|refine aY fun hc=>?_|refine aZ (fun hc=>?_) fun hc=>?_)<;>(try simp only[hc,bs,↓reduceIte]at h)<;>try simp only[hc]
 | (with_reducible refine aB hQ ?_;(try cases h);simp only [aQ,aS,bn,bo,go_sem,hC,hE,hM,hY,eH,hb.1.1.1,hb.1.1.2,hb.1.2,hb.2,hc,hL,e1,e2,e3,oh,kH,fL,hw];try exact bR))
   ·simp only [hw, ↓reduceIte]at h
    repeat' (first
 |simp only[go_sem,hC,hE,hM,hY,eH,hb.1.1.1,hb.1.1.2,hb.1.2,hb.2,hc,hL,e1,e2,e3,oh,kH,fL,hw]
 |(with_reducible refine CU (iG _ _) ?_)
 |(with_reducible refine CU (dG _) ?_)
 |(with_reducible refine CU (vT _ _) ?_)
 |(with_reducible refine cv (l:=2) (by with_unfolding_all rfl) ?_)
 |(with_reducible refine cv (l:=4) (by with_unfolding_all rfl) ?_)
 |(with_reducible refine cv (l:=5) (by with_unfolding_all rfl) ?_)
 |(refine IH.to hB fin h u4 (Du _) (by omega) (Nat.lt_succ_self _) ?_ ?_ ?_<;>((try simp only[go_sem,hC,hE,hM,hY]);repeat' (first|exact Ok.out|with_reducible refine eL ?_ ?_|omega|(simp;done)));done)
 |(with_reducible refine aB hQ ?_;exact bd))
end Go.Abs
namespace Go.Abs
set_option maxRecDepth 8000
open Go.Proofs
theorem KX (c:UInt8) (s:St):az Tryz.prog rQ [.int .u8 (c.toNat:Int)] s (.bool (rW c)) s:=by
 refine az.pure ?_ rfl rfl s
 generalize h:rW c=b
 unfold rW at h
 unfold S0
 refine az.go Gs rfl fun B Q hB hQ=>?_
 have⟨hC,hE,hM,hY⟩:=bC
 repeat' (first
 |simp only[go_sem,hC,hE,hM,hY]
 |(with_reducible first|refine aX fun hc=>?_|refine aY fun hc=>?_|refine aZ (fun hc=>?_) fun hc=>?_)<;>(try simp only[hc,bs,↓reduceIte]at h)<;>try simp only[hc]
 |(with_reducible refine aB hQ ?_;exact er))
theorem WE (c:UInt8) (s:St):az Tryz.prog vK [.int .u8 (c.toNat:Int)] s (.bool (pT c)) s:=by
 refine az.pure ?_ rfl rfl s
 generalize h:pT c=b
 unfold pT at h
 unfold S0
 refine az.go Gt rfl fun B Q hB hQ=>?_
 have⟨hC,hE,hM,hY⟩:=bC
 repeat' (first
 |simp only[go_sem,hC,hE,hM,hY]
 |(with_reducible first|refine aX fun hc=>?_|refine aY fun hc=>?_|refine aZ (fun hc=>?_) fun hc=>?_)<;>(try simp only[hc,bs,↓reduceIte]at h)<;>try simp only[hc]
 |(with_reducible refine aB hQ ?_;exact er))
theorem aaH (s:St):az Tryz.prog vL [] s (.slice .shared 1 [[.str [103,108,111,98,97,108]],[.str [112,114,111,99]],[.str [118,97,114]],[.str [114,101,102]],[.str [105,102]],[.str [101,108,115,101]],[.str [119,104,105,108,101]],[.str [98,114,101,97,107]],[.str [99,111,110,116,105,110,117,101]],[.str [114,101,116,117,114,110]],[.str [103,111,116,111]],[.str [114,101,97,100]],[.str [112,114,105,110,116]]]) s:=by
 refine az.pure ?_ rfl rfl s
 unfold S0
 refine az.go Gu rfl fun B Q hB hQ=>?_
 have⟨hC,hE,hM,hY⟩:=bC
 repeat' (first
 |simp only[go_sem,hC,hE,hM,hY]
 |(with_reducible refine aB hQ ?_;exact bd))
def Cx (s:aF):Bool:=
 [103,108,111,98,97,108] == s || [112,114,111,99] == s || [118,97,114] == s || [114,101,102] == s || [105,102] == s || [101,108,115,101] == s || [119,104,105,108,101] == s || [98,114,101,97,107] == s || [99,111,110,116,105,110,117,101] == s || [114,101,116,117,114,110] == s || [103,111,116,111] == s || [114,101,97,100] == s || [112,114,105,110,116] == s
theorem QQ (s:aF):Cx s=isWord s:=by
 have e : ∀ a:aF,(a==s)=(s==a):=fun a=>BEq.comm
 simp only[Cx,isWord,e]
theorem aaI (text:aF) (s:St):az Tryz.prog xE [.str text] s (.bool (isWord text)) s:=by
 refine az.pure ?_ rfl rfl s
 rw[← QQ]
 generalize h:Cx text=p
 unfold Cx at h
 unfold S0
 refine az.go Ir rfl fun B Q hB hQ=>?_
 have⟨hC,hE,hM,hY⟩:=bC
 repeat' (first
 |simp only[go_sem,hC,hE,hM,hY,Int.cast_ofNat_Int,dP,Int.reduceAdd,Int.reduceLT,Int.reduceNeg,decide_true,decide_false,Int.reduceToNat]
 |(with_reducible refine CU (aaH _) ?_)
 |(with_reducible refine bg.kv ?_)
 |(with_reducible first|refine aX fun hc=>?_|refine aY fun hc=>?_|refine aZ (fun hc=>?_) fun hc=>?_)<;>(try simp only[hc,bs,↓reduceIte]at h)<;>try simp only[hc]
 |(with_reducible refine aB hQ ?_;(try cases h);simp only[aQ,aS,bn,bo,go_sem,hC,hE,hM,hY,Int.cast_ofNat_Int,dP,Int.reduceAdd,Int.reduceLT,Int.reduceNeg,decide_true,decide_false,Int.reduceToNat];try exact bR))
theorem asN {t:fX} {p:Int×Int} (h:rE t=p):az Tryz.prog uZ [.agg (eM t)] S0 (.tuple [.int .i64 p.1, .int .i64 p.2]) S0:=by
 unfold rE at h
 unfold S0
 refine az.go KS rfl fun B Q hB hQ=>?_
 have⟨hC,hE,hM,hY⟩:=bC
 repeat' (first
 |simp only[go_sem,hC,hE,hM,hY]
 |(with_reducible first|refine aX fun hc=>?_|refine aY fun hc=>?_|refine aZ (fun hc=>?_) fun hc=>?_)<;>(try simp only[hc,bs,↓reduceIte]at h)<;>try simp only[hc]
 |(with_reducible refine aB hQ ?_;exact er))
theorem aaJ : ∀ n,n<4611686018427387904→∀ x:Ex,x.size≤n→az Tryz.prog lS [.agg (bI x)] S0 (.int .i64 (x.depth:Int)) S0:=by
 intro n
 induction n with
 |zero=>rintro _ ⟨op,m,name,kids⟩ h;simp only[Ex.size]at h;omega
 |succ n ihn=>
 rintro hn ⟨op,m,name,kids⟩ hx
 have hk : ∀ y∈kids,az Tryz.prog lS [.agg (bI y)] S0 (.int .i64 (y.depth:Int)) S0:=fun y hy=>ihn (by omega) y (by simp only[Ex.size]at hx;have:=Ex.dd hy;omega)
 have hlen:kids.length<4611686018427387904:=by simp only[Ex.size]at hx;have:=Ex.ei kids;omega
 have OZ:Ex.gN kids<4611686018427387904:=by have:=Ex.Qi _ _ hx;simp only[Ex.depth]at this;omega
 unfold S0
 refine az.go E3 rfl fun B Q hB hQ=>?_
 have⟨hC,hE,hM,hY⟩:=bC
 repeat' (first
 |simp only[go_sem,hC,hE,hM,hY]
 |(with_reducible first|refine aX fun hc=>?_|refine aY fun hc=>?_|refine aZ (fun hc=>?_) fun hc=>?_)<;>(try simp only[hc,bs,↓reduceIte]at h)<;>try simp only[hc]
 |(with_reducible refine aB hQ ?_;exact bd))
 refine dQ 0 0 (bg.ind (ι:=List Ex×Nat×Nat) (fun i=>kids.drop i.2.1=i.1∧max i.2.2 (Ex.gN i.1)=Ex.gN kids) (fun i=>i.1.length)
  (fun i=> [(3, .int .i64 (i.2.2:Int)),(7, .slice .shared 4 (kids.map bI)),(8, .int .i64 (kids.length:Int)),(9, .int .i64 (i.2.1:Int))]) (fun _=>S0) ?_ (kids,0,0) ⟨rfl,by simp⟩)
 rintro⟨rest,k,acc⟩ ⟨h1,h2⟩ IH
 unfold S0
 cases rest with
 |nil=>
  have hC:=drop_nil h1
  simp only[Ex.gN,Nat.max_zero]at h2
  subst h2
  repeat' (first
 |simp only[go_sem,hC,hE,hM,hY,aL OZ,Ex.depth]
 |(with_reducible first|refine aX fun hc=>?_|refine aY fun hc=>?_|refine aZ (fun hc=>?_) fun hc=>?_)<;>(try simp only[hc,bs,↓reduceIte]at h)<;>try simp only[hc]
 |(with_reducible refine aB hQ ?_;simp only[aQ,aS,bn,bo,go_sem,hC,hE,hM,hY,aL OZ,Ex.depth];try exact bR))
 |cons y rest=>
  obtain⟨g1,g2,hC,g4⟩:=drop_cons h1
  simp only[Ex.gN]at h2
  have hy:=fun s=>(hk y (List.mem_of_getElem? g1)).pure (by simp[D.bH,D.ok,gS]) rfl s
  dsimp only at g1 g2 hC g4 h2
  repeat' (first
 |simp only[go_sem,hC,hE,hM,hY,g1]
 |(with_reducible refine CU (hy _) ?_)
 |(with_reducible refine aB hQ ?_;exact bd))
  refine eS 0 0 ?_ ?_ (IH (rest,k+1,max acc y.depth) ⟨g2,by dsimp only;omega⟩ (by simp))
  ·(simp only[go_sem,hC,hE,hM,hY,mx,aL (show k<4611686018427387904 by omega)];try exact cr)
  ·(simp only[go_sem,hC,hE,hM,hY,mx,aL (show k<4611686018427387904 by omega)];try exact cr)
theorem aaK {x:Ex} {d:Int} (h:Ku x=some d) (s:St):az Tryz.prog lS [.agg (bI x)] s (.int .i64 d) s:=by
 unfold Ku at h
 split at h
 ·cases h;exact(aaJ x.size ‹_› x (Nat.le_refl _)).pure (by simp[D.bH,D.ok,gS]) rfl s
 ·cases h
theorem asO (t:fX) (s:St):az Tryz.prog uZ [.agg (eM t)] s (.tuple [.int .i64 (rE t).1, .int .i64 (rE t).2]) s:=(asN rfl).pure rfl rfl s
theorem ahP {c:Prop} [Decidable c] {α:Type} {P:α→Prop} {a b:α} (ha:P a) (hb:P b):P (if c then a else b):=by
 by_cases h:c
 ·rw[if_pos h];exact ha
 ·rw[if_neg h];exact hb
def OpR (p:Int×Int):Prop:=0≤p.2∧p.2≤6
theorem WG (t:fX):OpR (rE t):=by
 unfold rE
 repeat' with_reducible refine ahP (P:=OpR) ?_ ?_
 all_goals exact⟨by decide,by decide⟩
theorem Ng (t:fX):IntKind.wrap .i64 ((rE t).2+1)=(rE t).2+1:=by
 have:0≤(rE t).2∧(rE t).2≤6:=WG t
 rw[dP]<;>omega
abbrev Jh (m:Nat):Prop:=∀ {r:Rd} {p:Ex×Rd},Rd.one m r=some p→∀ {s:St} {o:Nat},s.ah[o]? = some (cJ r)→az Tryz.prog kE [.ptr o 0] s (.agg (bI p.1)) ⟨s.ah.set o (cJ p.2),s.aw⟩
abbrev Ji (m:Nat):Prop:=∀ {k:Int} {r:Rd} {p:Ex×Rd},Rd.two m k r=some p→∀ {s:St} {o:Nat},s.ah[o]? = some (cJ r)→az Tryz.prog jh [.ptr o 0, .int .i64 k] s (.agg (bI p.1)) ⟨s.ah.set o (cJ p.2),s.aw⟩
theorem WH {m:Nat} (Jj:Jh m) (E9:Ji m):Jh (m+1):=by
 intro r p h s o ho
 refine az.kL ?_ rfl (fJ r) (fJ p.2) (by simp[D.ok,gS]) ho
 unfold Rd.one at h
 refine az.go zK rfl fun B Q hB hQ=>?_
 have⟨hC,hE,hM,hY⟩:=bC
 repeat' (first
 |simp only[go_sem,hC,hE,hM,hY]
 |(rw[Option.bind_eq_some_iff]at h;obtain⟨_,h1,h⟩:=h;first|(with_reducible refine CU (po h1 (by with_unfolding_all rfl)) ?_;have hC:=sG h1)|(with_reducible refine CU (tK h1 (by with_unfolding_all rfl)) ?_)|(with_reducible refine CU (E9 h1 (by with_unfolding_all rfl)) ?_)|(with_reducible refine CU (qn h1 (by with_unfolding_all rfl)) ?_)|(with_reducible refine CU (Jj h1 (by with_unfolding_all rfl)) ?_)|(with_reducible refine CU (E8 h1 (by with_unfolding_all rfl)) ?_))
 |(with_reducible refine CU (kT (by with_unfolding_all rfl)) ?_)
 |(with_reducible first|refine aX fun hc=>?_|refine aY fun hc=>?_|refine aZ (fun hc=>?_) fun hc=>?_)<;>(try simp only[hc,bs,↓reduceIte]at h)<;>try simp only[hc]
 |(with_reducible refine aB hQ ?_;exact er))
theorem WI {m:Nat} (Jj:Jh m) (E9 : ∀ j<m,Ji j):Ji (m+1):=by
 intro k r p h s o ho
 refine az.kL ?_ rfl (fJ r) (fJ p.2) (by simp[D.ok,gS]) ho
 unfold Rd.two at h
 refine az.go zJ rfl fun B Q hB hQ=>?_
 have⟨hC,hE,hM,hY⟩:=bC
 repeat' (first
 |simp only[go_sem,hC,hE,hM,hY]
 |(rw[Option.bind_eq_some_iff]at h;obtain⟨_,h1,h⟩:=h;first|(with_reducible refine CU (Jj h1 (by with_unfolding_all rfl)) ?_))
 |(with_reducible refine aB hQ ?_;exact bd))
 refine dQ 3 0 (bg.ind (ι:=Nat×Ex×Rd) (fun i=>Rd.Kx i.1 k i.2.1 i.2.2=some p∧i.1≤m) (fun i=>i.1)
  (fun i=> [(0, .ptr 0 0),(1, .int .i64 k),(4, .ptr 1 0),(5, .ptr 2 0)]) (fun i=>⟨[cJ i.2.2,bI qg,bI i.2.1],[]⟩) ?_ (m,_,_) ⟨h,Nat.le_refl _⟩)
 rintro⟨n,x,r⟩ ⟨h,hn⟩ IH
 cases n with
 |zero=>simp only[Rd.Kx]at h;cases h
 |succ n=>
  have ahQ:=@E9 n (by omega)
  simp only[Rd.Kx]at h
  repeat' (first
 |simp only[go_sem,hC,hE,hM,hY,Ng]
 |(rw[Option.bind_eq_some_iff]at h;obtain⟨_,h1,h⟩:=h;first|(with_reducible refine CU (po h1 (by with_unfolding_all rfl)) ?_;have hC:=sG h1)|(with_reducible refine CU (ahQ h1 (by with_unfolding_all rfl)) ?_))
 |(with_reducible refine CU (kT (by with_unfolding_all rfl)) ?_)
 |(with_reducible refine CU (asO _ _) ?_)
 |(with_reducible first|refine aX fun hc=>?_|refine aY fun hc=>?_|refine aZ (fun hc=>?_) fun hc=>?_)<;>(try simp only[hc,bs,↓reduceIte]at h)<;>try simp only[hc]
 |(with_reducible refine aB hQ ?_;(try cases h);simp only[aQ,aS,bn,bo,go_sem,hC,hE,hM,hY,Ng];try exact bR))
  refine dQ 3 0 (IH (n,_,_) ⟨h,by dsimp only at hn ⊢;omega⟩ (Nat.lt_succ_self _))
theorem aaL : ∀ n,∀ m<n,Jh m∧Ji m:=by
 intro n
 induction n with
 |zero=>intro m h;exact absurd h (Nat.not_lt_zero _)
 | succ n ih=>
  intro m h
  cases m with
  |zero=>
   refine⟨?_, ?_⟩
   ·intro r p h;simp only[Rd.one]at h;cases h
   ·intro k r p h;simp only[Rd.two]at h;cases h
  |succ m=>
   have hm:=ih m (by omega)
   exact⟨WH hm.1 hm.2,WI hm.1 fun j hj=>(ih j (by omega)).2⟩
theorem E9 {m:Nat} {k:Int} {r:Rd} {p:Ex×Rd} (h:Rd.two m k r=some p) {s:St} {o:Nat} (ho:s.ah[o]? = some (cJ r)) :
 az Tryz.prog jh [.ptr o 0, .int .i64 k] s (.agg (bI p.1)) ⟨s.ah.set o (cJ p.2),s.aw⟩:=(aaL (m+1) m (Nat.lt_succ_self _)).2 h ho
theorem Cy {n:Nat} {r:Rd} {p:Ex×Rd} (h:Rd.whole n r=some p) {s:St} {o:Nat} (ho:s.ah[o]? = some (cJ r)) :
 az Tryz.prog gu [.ptr o 0] s (.agg (bI p.1)) ⟨s.ah.set o (cJ p.2),s.aw⟩:=by
 refine az.kL ?_ rfl (fJ r) (fJ p.2) (by simp[D.ok,gS]) ho
 unfold Rd.whole at h
 refine az.go xN rfl fun B Q hB hQ=>?_
 have⟨hC,hE,hM,hY⟩:=bC
 repeat' (first
 |simp only[go_sem,hC,hE,hM,hY]
 |(rw[Option.bind_eq_some_iff]at h;obtain⟨_,h1,h⟩:=h;first|(with_reducible refine CU (po h1 (by with_unfolding_all rfl)) ?_)|(with_reducible refine CU (aaK h1 _) ?_)|(with_reducible refine CU (E9 h1 (by with_unfolding_all rfl)) ?_))
 |(with_reducible refine CU (kT (by with_unfolding_all rfl)) ?_)
 |(with_reducible first|refine aX fun hc=>?_|refine aY fun hc=>?_|refine aZ (fun hc=>?_) fun hc=>?_)<;>(try simp only[hc,bs,↓reduceIte]at h)<;>try simp only[hc]
 |(with_reducible refine aB hQ ?_;exact er))
@[go_sem] def aAb (z:D) (r:Rd):List D:= [.slice .shared 4 (r.l.map eM), .int .i64 r.i, .int .i64 r.code, .int .i64 r.Kv,z]
class Cell (z:D):Prop where
 ok:D.ok 0 0 z=true
 fg : ∀ n m,D.fg n m z=z
instance (n:Int):Cell (.int .i64 n):=⟨rfl,fun _ _=>rfl⟩
instance:Cell .junk:=⟨rfl,fun _ _=>rfl⟩
theorem aaM (z:D) [h:Cell z] (n m:Nat):D.fg n m z=z:=h.fg n m
attribute [go_sem] aaM
def Rd.isO (text:aF) (r:Rd):Option Bool:=if r.good then r.is text else some false
end Go.Abs
namespace Go.Abs
open Go.Proofs
def aev (s:aF):Int×Int:=
 if [42] == s then(6,5)else if [47] == s then(6,6)else if [37] == s then(6,7)else if [43] == s then(5,8)else if [45] == s then(5,9)
 else if [60] == s then(4,10)else if [60,61] == s then(4,11)else if [62] == s then(4,12)else if [62,61] == s then(4,13)
 else if [61,61] == s then(3,14)else if [33,61] == s then(3,15)else if [38,38] == s then(2,16)else if [124,124] == s then(1,17)else(0,0)
def BZ (p:Int×Int):Prop:=(p.2==0)=(p.1==0)
set_option maxRecDepth 8000
open Go.Proofs
theorem aew : ∀ (gF:Nat),gF<1000000→∀ x:Ex,x.size<4611686018427387904→∀ s:St,az Tryz.prog ql [.agg (bI x), .int .i64 (gF:Int)] s (.int .i64 ((min x.depth (gF+1):Nat):Int)) s:=by
 intro gF
 induction gF with
 |zero=>
  rintro _ ⟨op,m,name,kids⟩ hx s
  refine az.pure ?_ (by simp[D.bH,D.ok,gS]) rfl s
  have hz:((0:Int)==0)=true:=rfl
  have e:min (Ex.depth ⟨op,m,name,kids⟩) (0+1)=1:=by simp only[Ex.depth];omega
  rw[e]
  unfold S0
  refine az.go AA rfl fun B Q hB hQ=>?_
  have⟨hC,hE,hM,hY⟩:=bC
  repeat' (first
 |simp only[go_sem,hC,hE,hM,hY,hz]
 |(with_reducible refine aB hQ ?_;exact bd))
 | succ gF ih=>
  rintro aAc ⟨op,m,name,kids⟩ hx s
  refine az.pure ?_ (by simp[D.bH,D.ok,gS]) rfl s
  have hlen:kids.length<4611686018427387904:=by simp only[Ex.size]at hx;have:=Ex.ei kids;omega
  have hk : ∀ y∈kids,∀ s,az Tryz.prog ql [.agg (bI y), .int .i64 (gF:Int)] s (.int .i64 ((min y.depth (gF+1):Nat):Int)) s:=fun y hy s=>
   ih (by omega) y (by simp only[Ex.size]at hx;have:=Ex.dd hy;omega) s
  have hz:(((gF+1:Nat):Int)==0)=false:=by simp;omega
  have w1:IntKind.wrap .i64 (((gF+1:Nat):Int) - 1)=(gF:Int):=by rw[dP]<;>omega
  unfold S0
  refine az.go AA rfl fun B Q hB hQ=>?_
  have⟨hC,hE,hM,hY⟩:=bC
  repeat' (first
 |simp only[go_sem,hC,hE,hM,hY,hz]
 | (with_reducible refine aB hQ ?_;exact bd))
  refine dQ 1 0 (bg.ind (ι:=List Ex×Nat×Nat) (fun i=>kids.drop i.2.1=i.1∧i.2.2≤gF+1∧min (max i.2.2 (Ex.gN i.1)) (gF+1)=min (Ex.gN kids) (gF+1)) (fun i=>i.1.length)
   (fun i=> [(1, .int .i64 ((gF+1:Nat):Int)),(2, .ptr 0 0),(5, .int .i64 (i.2.2:Int)),(6, .int .i64 (i.2.1:Int))]) (fun i=>⟨[bI ⟨op,m,name,kids⟩],[]⟩) ?_ (kids,0,0) ⟨rfl,Nat.zero_le _,by simp⟩)
  rintro⟨rest,k,d⟩ ⟨h1,h2,h3⟩ IH
  dsimp only at h1 h2 h3
  have hd:min (Ex.depth ⟨op,m,name,kids⟩) (gF+1+1)=min (Ex.gN kids) (gF+1)+1:=by simp only[Ex.depth];omega
  rw[hd, ← h3]at hQ
  have w2:IntKind.wrap .i64 ((d:Int)+1)=((d+1:Nat):Int):=by rw[dP]<;>omega
  by_cases aAE:d<gF+1
  ·have c2:decide ((d:Int)<((gF+1:Nat):Int))=true:=by simp;omega
   cases rest with
   |nil=>
    have hC:=drop_nil h1
    simp only[Ex.gN,Nat.max_zero]at hQ
    have e:min d (gF+1)=d:=by omega
    rw[e]at hQ
    repeat' (first
 |simp only[go_sem,hC,hE,hM,hY,c2,w2]
 | (with_reducible refine aB hQ ?_;exact bd))
   | cons y rest=>
    obtain⟨hE,g2,hC,g4⟩:=drop_cons h1
    have hy:=hk y (List.mem_of_getElem? hE)
    simp only[Ex.gN]at h3
    have cj:k<4611686018427387904:=by omega
    by_cases oh:min y.depth (gF+1) > d
    ·have c3:decide (((min y.depth (gF+1):Nat):Int) > (d:Int))=true:=by simp only [decide_eq_true_eq];omega
     repeat' (first
 |simp only[go_sem,hC,hE,hM,hY,c2,w1,c3]
 |(with_reducible refine CU (hy _) ?_)
 | (with_reducible refine aB hQ ?_;exact bd))
     refine eS 1 0 ?_ ?_ (IH (rest,k+1,min y.depth (gF+1)) ⟨g2,by dsimp only;omega,by dsimp only;omega⟩ (Nat.lt_succ_self _))
     ·(simp only[go_sem,hC,hE,hM,hY,aL cj];try exact cr)
     ·(simp only[go_sem,hC,hE,hM,hY,aL cj];try exact cr)
    ·have c3:decide (((min y.depth (gF+1):Nat):Int) > (d:Int))=false:=by simp only [decide_eq_false_iff_not];omega
     repeat' (first
 |simp only[go_sem,hC,hE,hM,hY,c2,w1,c3]
 |(with_reducible refine CU (hy _) ?_)
 | (with_reducible refine aB hQ ?_;exact bd))
     refine eS 1 0 ?_ ?_ (IH (rest,k+1,d) ⟨g2,h2,by dsimp only;omega⟩ (Nat.lt_succ_self _))
     ·(simp only[go_sem,hC,hE,hM,hY,aL cj];try exact cr)
     ·(simp only[go_sem,hC,hE,hM,hY,aL cj];try exact cr)
  ·have c2:decide ((d:Int)<((gF+1:Nat):Int))=false:=by simp;omega
   have e:min (max d (Ex.gN rest)) (gF+1)=d:=by omega
   rw[e]at hQ
   cases rest with
   |nil=>
    have hC:=drop_nil h1
    repeat' (first
 |simp only[go_sem,hC,hE,hM,hY,c2,w2]
 | (with_reducible refine aB hQ ?_;exact bd))
   |cons y rest=>
    obtain⟨hE,g2,hC,g4⟩:=drop_cons h1
    repeat' (first
 |simp only[go_sem,hC,hE,hM,hY,c2,w2]
 |(with_reducible refine aB hQ ?_;exact bd))
theorem yQ (text:aF) (hl:text.length<4611686018427387904) (s:St):az Tryz.prog lg [.str text] s (.bool (isName text)) s:=by
 refine az.pure ?_ rfl rfl s
 unfold S0
 cases text with
 |nil=>
  have e:(([] : aF) == [])=true:=rfl
  refine az.go Az rfl fun B Q hB hQ=>?_
  have⟨hC,hE,hM,hY⟩:=bC
  repeat' (first
 |simp only[go_sem,hC,hE,hM,hY,e,isName]
 |(with_reducible first|refine aX fun hc=>?_|refine aY fun hc=>?_|refine aZ (fun hc=>?_) fun hc=>?_)<;>(try simp only[hc,bs,↓reduceIte]at h)<;>try simp only[hc]
 |(with_reducible refine aB hQ ?_;simp only[aQ,aS,bn,bo,go_sem,hC,hE,hM,hY,e,isName];try exact bR))
 |cons c r=>
  have e:((c::r) == [])=false:=rfl
  generalize h:isName (c::r)=p
  simp only[isName]at h
  refine az.go Az rfl fun B Q hB hQ=>?_
  have⟨hC,hE,hM,hY⟩:=bC
  repeat' (first
 |simp only[go_sem,hC,hE,hM,hY,e]
 |(with_reducible refine CU (KX _ _) ?_)
 |(with_reducible first|refine aX fun hc=>?_|refine aY fun hc=>?_|refine aZ (fun hc=>?_) fun hc=>?_)<;>(try simp only[hc,bs,↓reduceIte]at h)<;>try simp only[hc]
 | (with_reducible refine aB hQ ?_;(try cases h);simp only [aQ,aS,bn,bo,go_sem,hC,hE,hM,hY,e];try exact bR))
  refine dQ 0 0 (bg.ind (ι:=aF×Nat) (fun i=>(c::r).drop i.2=i.1∧(if u3 i.1 then !(isWord (c::r))else false)=p) (fun i=>i.1.length)
   (fun i=> [(0, .str (c::r)),(3, .int .i64 (i.2:Int))]) (fun i=>⟨[],[]⟩) ?_ (r,1) ⟨rfl,h⟩)
  rintro⟨rest,k⟩ ⟨h1,h⟩ IH
  dsimp only at h1 h
  cases rest with
  |nil=>
   have hC:=drop_nil h1
   simp only[List.length_cons]at hC
   simp only[u3,↓reduceIte]at h
   repeat' (first
 |simp only[go_sem,hC,hE,hM,hY]
 |(with_reducible refine CU (aaI _ _) ?_)
 |(with_reducible first|refine aX fun hc=>?_|refine aY fun hc=>?_|refine aZ (fun hc=>?_) fun hc=>?_)<;>(try simp only[hc,bs,↓reduceIte]at h)<;>try simp only[hc]
 | (with_reducible refine aB hQ ?_;exact er))
  |cons d rest=>
   obtain⟨hE,g2,hC,g4⟩:=drop_cons h1
   simp only[List.length_cons]at hC
   have hM:k<4611686018427387904:=by omega
   simp only[u3]at h
   repeat' (first
 |simp only[go_sem,hC,hE,hM,hY]
 |(with_reducible refine CU (KX _ _) ?_)
 |(with_reducible refine CU (WE _ _) ?_)
 |(with_reducible first|refine aX fun hc=>?_|refine aY fun hc=>?_|refine aZ (fun hc=>?_) fun hc=>?_)<;>(try simp only[hc,bs,↓reduceIte]at h)<;>try simp only[hc]
 |(with_reducible refine aB hQ ?_;(try cases h);simp only[aQ,aS,bn,bo,go_sem,hC,hE,hM,hY];repeat' (first|exact Ok.out|with_reducible refine eL ?_ ?_|(simp;done)))
 | (cases h;done))
   all_goals
    refine dQ 0 0 (IH (rest,k+1) ⟨g2,h⟩ (Nat.lt_succ_self _))
theorem aaN (op:Int) (s:St):az Tryz.prog vD [.int .i64 op] s (.int .i64 (lF op)) s:=by
 refine az.pure ?_ rfl rfl s
 unfold S0
 generalize h:lF op=p
 unfold lF at h
 refine az.go Gv rfl fun B Q hB hQ=>?_
 have⟨hC,hE,hM,hY⟩:=bC
 repeat' (first
 |simp only[go_sem,hC,hE,hM,hY]
 |(with_reducible first|refine aX fun hc=>?_|refine aY fun hc=>?_|refine aZ (fun hc=>?_) fun hc=>?_)<;>(try simp only[hc,bs,↓reduceIte]at h)<;>try simp only[hc]
 |(with_reducible refine aB hQ ?_;exact er))
theorem WJ {l:List aF} (hl:l.length<4611686018427387904) (hs : ∀ t∈l,t.length<4611686018427387904) (s:St):az Tryz.prog vJ [.slice .shared 1 (l.map encStr)] s (.bool (eo l)) s:=by
 refine az.pure ?_ (by simp[D.bH,D.ok,eB,Tag.ok]) rfl s
 unfold S0
 generalize h:eo l=p
 refine az.go Gr rfl fun B Q hB hQ=>?_
 have⟨hC,hE,hM,hY⟩:=bC
 repeat' (first
 |simp only[go_sem,hC,hE,hM,hY]
 |(with_reducible first|refine aX fun hc=>?_|refine aY fun hc=>?_|refine aZ (fun hc=>?_) fun hc=>?_)<;>(try simp only[hc,bs,↓reduceIte]at h)<;>try simp only[hc]
 |(with_reducible refine aB hQ ?_;exact er))
 refine dQ 0 0 (bg.ind (ι:=List aF×Nat) (fun i=>l.drop i.2=i.1∧eo i.1=p) (fun i=>i.1.length)
  (fun i=> [(5, .slice .shared 1 (l.map encStr)),(6, .int .i64 (l.length:Int)),(7, .int .i64 (i.2:Int))]) (fun i=>⟨[],[]⟩) ?_ (l,0) ⟨rfl,h⟩)
 rintro⟨rest,k⟩ ⟨h1,h⟩ IH
 dsimp only at h1 h
 cases rest with
 |nil=>
  have hC:=drop_nil h1
  simp only[eo]at h
  repeat' (first
 |simp only[go_sem,hC,hE,hM,hY]
 |(with_reducible first|refine aX fun hc=>?_|refine aY fun hc=>?_|refine aZ (fun hc=>?_) fun hc=>?_)<;>(try simp only[hc,bs,↓reduceIte]at h)<;>try simp only[hc]
 |(with_reducible refine aB hQ ?_;exact er))
 |cons t rest=>
  obtain⟨hE,g2,hC,g4⟩:=drop_cons h1
  have hM:k<4611686018427387904:=by omega
  have hn:=yQ t (hs t (List.mem_of_getElem? hE))
  simp only[eo]at h
  repeat' (first
 |simp only[go_sem,hC,hE,hM,hY]
 |(with_reducible refine CU (hn _) ?_)
 |(with_reducible first|refine aX fun hc=>?_|refine aY fun hc=>?_|refine aZ (fun hc=>?_) fun hc=>?_)<;>(try simp only[hc,bs,↓reduceIte]at h)<;>try simp only[hc]
 |(with_reducible refine aB hQ ?_;exact er))
  refine dQ 0 0 (IH (rest,k+1) ⟨g2,h⟩ (Nat.lt_succ_self _))
theorem aex : ∀ (n:Nat) (x:Ex),x.size≤n→x.size<4611686018427387904→x.texts→∀ s:St,az Tryz.prog qm [.agg (bI x)] s (.bool x.form) s:=by
 intro n
 induction n with
 |zero=>rintro⟨op,m,name,kids⟩ h;simp only[Ex.size]at h;omega
 | succ n ih=>
  rintro⟨op,m,name,kids⟩ h hx ht s
  refine az.pure ?_ (by simp[D.bH,D.ok,gS]) rfl s
  have hlen:kids.length<4611686018427387904:=by simp only[Ex.size]at hx;have:=Ex.ei kids;omega
  have hk : ∀ y∈kids,∀ s,az Tryz.prog qm [.agg (bI y)] s (.bool y.form) s:=fun y hy s=>
   ih y (by simp only[Ex.size]at h;have:=Ex.dd hy;omega) (by simp only[Ex.size]at hx;have:=Ex.dd hy;omega) (Ex.Hq ht hy) s
  have hn:=yQ name ht.1
  unfold S0
  generalize h:Ex.form ⟨op,m,name,kids⟩=p
  simp only[Ex.form]at h
  refine az.go Iu rfl fun B Q hB hQ=>?_
  have⟨hC,hE,hM,hY⟩:=bC
  repeat' (first
 |simp only[go_sem,hC,hE,hM,hY]
 |(with_reducible refine CU (aaN _ _) ?_)
 |(with_reducible refine CU (hn _) ?_)
 |(with_reducible first|refine aX fun hc=>?_|refine aY fun hc=>?_|refine aZ (fun hc=>?_) fun hc=>?_)<;>(try simp only[hc,bs,↓reduceIte]at h)<;>try simp only[hc]
 | (with_reducible refine aB hQ ?_;(try cases h);simp only [aQ,aS,bn,bo,go_sem,hC,hE,hM,hY];repeat' (first | exact Ok.out | with_reducible refine eL ?_ ?_ | (simp;done))))
  all_goals
   refine dQ 1 0 (bg.ind (ι:=List Ex×Nat) (fun i=>kids.drop i.2=i.1∧Ex.pH i.1=p) (fun i=>i.1.length)
    (fun i=> [(1, .ptr 0 0),(48, .int .i64 (kids.length:Int)),(49, .int .i64 (i.2:Int))]) (fun i=>⟨[bI ⟨op,m,name,kids⟩],[]⟩) ?_ (kids,0) ⟨rfl,h⟩)
   rintro⟨rest,k⟩ ⟨h1,h⟩ IH
   dsimp only at h1 h
   cases rest with
   |nil=>
    have hC:=drop_nil h1
    simp only[Ex.pH]at h
    repeat' (first
 |simp only[go_sem,hC,hE,hM,hY]
 |(with_reducible first|refine aX fun hc=>?_|refine aY fun hc=>?_|refine aZ (fun hc=>?_) fun hc=>?_)<;>(try simp only[hc,bs,↓reduceIte]at h)<;>try simp only[hc]
 |(with_reducible refine aB hQ ?_;exact er)
 | (cases h;done))
   |cons y rest=>
    obtain⟨hE,g2,hC,g4⟩:=drop_cons h1
    have hy:=hk y (List.mem_of_getElem? hE)
    have hM:k<4611686018427387904:=by omega
    simp only[Ex.pH]at h
    repeat' (first
 |simp only[go_sem,hC,hE,hM,hY]
 |(with_reducible refine CU (hy _) ?_)
 |(with_reducible first|refine aX fun hc=>?_|refine aY fun hc=>?_|refine aZ (fun hc=>?_) fun hc=>?_)<;>(try simp only[hc,bs,↓reduceIte]at h)<;>try simp only[hc]
 | (with_reducible refine aB hQ ?_;exact er))
    refine dQ 1 0 (IH (rest,k+1) ⟨g2,h⟩ (Nat.lt_succ_self _))
theorem Hs {x:Ex} (hx:x.size<4611686018427387904) (ht:x.texts) (s:St):az Tryz.prog pF [.agg (bI x)] s (.bool x.may) s:=by
 refine az.pure ?_ (by simp[D.bH,D.ok,gS]) rfl s
 have hd:=fun s=>aew 20 (by decide) x hx s
 have c20:((20:Nat):Int)=20:=rfl
 rw[c20]at hd
 have hf:=aex _ x (Nat.le_refl _) hx ht
 unfold S0
 generalize h:Ex.may x=p
 unfold Ex.may at h
 refine az.go D7 rfl fun B Q hB hQ=>?_
 have⟨hC,hE,hM,hY⟩:=bC
 repeat' (first
 |simp only[go_sem,hC,hE,hM,hY]
 |(with_reducible refine CU (hd _) ?_)
 |(with_reducible refine CU (hf _) ?_)
 |(with_reducible first|refine aX fun hc=>?_|refine aY fun hc=>?_|refine aZ (fun hc=>?_) fun hc=>?_)<;>(try simp only[hc,bs,↓reduceIte]at h)<;>try simp only[hc]
 |(with_reducible refine aB hQ ?_;exact er))
theorem Tw (x:Ex) (s:St):az Tryz.prog s7 [.agg (bI x)] s (.bool x.none) s:=by
 refine az.pure ?_ (by simp[D.bH,D.ok,gS]) rfl s
 unfold S0
 generalize h:Ex.none x=p
 unfold Ex.none at h
 refine az.go Is rfl fun B Q hB hQ=>?_
 have⟨hC,hE,hM,hY⟩:=bC
 repeat' (first
 |simp only[go_sem,hC,hE,hM,hY]
 |(with_reducible first|refine aX fun hc=>?_|refine aY fun hc=>?_|refine aZ (fun hc=>?_) fun hc=>?_)<;>(try simp only[hc,bs,↓reduceIte]at h)<;>try simp only[hc]
 |(with_reducible refine aB hQ ?_;exact er))
theorem ahR {a:Ar} (hx:a.x.size<4611686018427387904) (ht:a.x.texts) (hn:a.name.length<4611686018427387904) (s:St):az Tryz.prog zC [.agg (eC a)] s (.bool a.may) s:=by
 refine az.pure ?_ (by simp[D.bH,D.ok,Ks]) rfl s
 have hm:=Hs hx ht
 have h1:=yQ a.name hn
 unfold S0
 generalize h:Ar.may a=p
 simp only[Ar.may]at h
 refine az.go KR rfl fun B Q hB hQ=>?_
 have⟨hC,hE,hM,hY⟩:=bC
 repeat' (first
 |simp only[go_sem,hC,hE,hM,hY]
 |(with_reducible refine CU (hm _) ?_)
 |(with_reducible refine CU (h1 _) ?_)
 |(with_reducible refine CU (Tw _ _) ?_)
 |(with_reducible first|refine aX fun hc=>?_|refine aY fun hc=>?_|refine aZ (fun hc=>?_) fun hc=>?_)<;>(try simp only[hc,bs,↓reduceIte]at h)<;>try simp only[hc]
 |(with_reducible refine aB hQ ?_;exact er))
structure Sm.nq (s:Sm):Prop where
 Tx : ∀ t∈s.labels,t.length<4611686018427387904
 aey:s.labels.length<4611686018427387904
 name:s.name.length<4611686018427387904
 proc:s.proc.length<4611686018427387904
 x:s.x.size<4611686018427387904
 xt:s.x.texts
 aez:s.args.length<4611686018427387904
 arg : ∀ a∈s.args,a.x.size<4611686018427387904∧a.x.texts∧a.name.length<4611686018427387904
section
variable {v:Sm} {B:e7} {Q:Exit→Tm→St→Prop} {p:Bool}
theorem ahS (hf:v.nq) (hB:B.s = ⟨[],[]⟩) (hQ:iz 0 0 [(2,none)] (.bool p) ⟨[],[]⟩=Q)
 (h:(if !(Ar.fl v.args)then false else((v.bm.length:Int)==0 ||v.kind==5 ||v.kind==6) && ((v.bc.length:Int)==0 ||v.kind==5))=p) :
 Sem Tryz.prog B 178 aee Q [(1, .ptr 0 0)] ⟨[a8 v],[]⟩:=by
 have aAd:=hf.aez
 have WK:=fun a ha s=>ahR (hf.arg a ha).1 (hf.arg a ha).2.1 (hf.arg a ha).2.2 s
 have⟨hC,hE,hM,hY⟩:=bC
 refine gD ?_
 repeat' (first
 |simp only[go_sem,hC,hE,hM,hY]
 |(with_reducible refine aB hQ ?_;exact bd))
 refine dQ 1 0 (bg.ind (ι:=List Ar×Nat) (fun i=>v.args.drop i.2=i.1∧(if !(Ar.fl i.1)then false else((v.bm.length:Int)==0 ||v.kind==5 ||v.kind==6) && ((v.bc.length:Int)==0 ||v.kind==5))=p) (fun i=>i.1.length)
  (fun i=> [(1, .ptr 0 0),(143, .slice .shared 6 (v.args.map eC)),(144, .int .i64 (v.args.length:Int)),(145, .int .i64 (i.2:Int))]) (fun i=>⟨[a8 v],[]⟩) ?_ (v.args,0) ⟨rfl,h⟩)
 rintro⟨rest,k⟩ ⟨h1,h⟩ IH
 dsimp only at h1 h
 cases rest with
 |nil=>
  have hC:=drop_nil h1
  simp only[Ar.fl,Bool.not_true,Bool.false_eq_true,↓reduceIte]at h
  repeat' (first
 |simp only[go_sem,hC,hE,hM,hY]
 |(with_reducible first|refine aX fun hc=>?_|refine aY fun hc=>?_|refine aZ (fun hc=>?_) fun hc=>?_)<;>(try simp only[hc,bs,↓reduceIte]at h)<;>try simp only[hc]
 | (with_reducible refine aB hQ ?_;(try cases h);simp only [aQ,aS,bn,bo,go_sem,hC,hE,hM,hY];repeat' (first | exact Ok.out | with_reducible refine eL ?_ ?_ | (simp;done))))
  all_goals
   simp only[*]
   exact Ok.out
 |cons a rest=>
  obtain⟨hE,g2,hC,g4⟩:=drop_cons h1
  have ha:=WK a (List.mem_of_getElem? hE)
  have hM:k<4611686018427387904:=by omega
  simp only[Ar.fl]at h
  repeat' (first
 |simp only[go_sem,hC,hE,hM,hY]
 |(with_reducible refine CU (ha _) ?_)
 |(with_reducible first|refine aX fun hc=>?_|refine aY fun hc=>?_|refine aZ (fun hc=>?_) fun hc=>?_)<;>(try simp only[hc,bs,↓reduceIte]at h)<;>try simp only[hc]
 |(with_reducible refine aB hQ ?_;exact er))
  refine dQ 1 0 (IH (rest,k+1) ⟨g2,h⟩ (Nat.lt_succ_self _))
theorem ahT {cl:Bool} (hf:v.nq) (hB:B.s = ⟨[],[]⟩) (hQ:iz 0 0 [(2,none)] (.bool p) ⟨[],[]⟩=Q)
 (h:(if !(cl == !(v.proc == [])) || (cl && !(isName v.proc)) || (!cl && decide ((v.args.length:Int) > 0))then false
  else if !(Ar.fl v.args)then false else((v.bm.length:Int)==0 ||v.kind==5 ||v.kind==6) && ((v.bc.length:Int)==0 ||v.kind==5))=p) :
 Sem Tryz.prog B 178 aef Q [(1, .ptr 0 0),(5, .bool cl)] ⟨[a8 v],[]⟩:=by
 have QR:=yQ v.proc hf.proc
 have⟨hC,hE,hM,hY⟩:=bC
 refine Sem.iM ?_
 repeat' (first
 |simp only[go_sem,hC,hE,hM,hY]
 |(with_reducible refine CU (QR _) ?_)
 |(with_reducible first|refine aX fun hc=>?_|refine aY fun hc=>?_|refine aZ (fun hc=>?_) fun hc=>?_)<;>(try simp only[hc,bs,↓reduceIte]at h)<;>try simp only[hc]
 |(with_reducible refine aB hQ ?_;(try cases h);simp only[aQ,aS,bn,bo,go_sem,hC,hE,hM,hY];repeat' (first|exact Ok.out|with_reducible refine eL ?_ ?_|(simp;done))))
 all_goals
  refine Sem.re _ _ 1 0 (by rw[hB];exact mI rfl) (by rw[hB];exact mI rfl) ?_ ?_ (ahS hf hB hQ h)
  ·(simp only[go_sem,hC,hE,hM,hY];repeat' (first|exact Ok.out|with_reducible refine eL ?_ ?_))
  ·(simp only[go_sem,hC,hE,hM,hY];repeat' (first|exact Ok.out|with_reducible refine eL ?_ ?_))
theorem ahU {hn cl:Bool} (hf:v.nq) (hB:B.s = ⟨[],[]⟩) (hQ:iz 0 0 [(2,none)] (.bool p) ⟨[],[]⟩=Q)
 (h:(if(hn && !(isName v.name)) || (!hn && !(v.name == []) && !(cl && isName v.name))then false
  else if !(cl == !(v.proc == [])) ||(cl && !(isName v.proc)) ||(!cl && decide ((v.args.length:Int) > 0))then false
  else if !(Ar.fl v.args)then false else((v.bm.length:Int)==0 ||v.kind==5 ||v.kind==6) && ((v.bc.length:Int)==0 ||v.kind==5))=p) :
 Sem Tryz.prog B 178 aeg Q [(1, .ptr 0 0),(4, .bool hn),(5, .bool cl)] ⟨[a8 v],[]⟩:=by
 have Oj:=yQ v.name hf.name
 have⟨hC,hE,hM,hY⟩:=bC
 have k:=@ahT v B Q p cl hf hB hQ
 cases cl
 all_goals
  refine Sem.iM ?_
  repeat' (first
 |simp only[go_sem,hC,hE,hM,hY]
 |(with_reducible refine CU (Oj _) ?_)
 |(with_reducible first|refine aX fun hc=>?_|refine aY fun hc=>?_|refine aZ (fun hc=>?_) fun hc=>?_)<;>(try simp only[hc,bs,↓reduceIte]at h)<;>try simp only[hc]
 |(with_reducible refine aB hQ ?_;(try cases h);simp only[aQ,aS,bn,bo,go_sem,hC,hE,hM,hY];repeat' (first|exact Ok.out|with_reducible refine eL ?_ ?_|(simp;done))))
 all_goals
  refine Sem.re _ _ 1 0 (by rw[hB];exact mI rfl) (by rw[hB];exact mI rfl) ?_ ?_ (k (by simpa only[bs,↓reduceIte]using h))
  ·(simp only[go_sem,hC,hE,hM,hY];repeat' (first|exact Ok.out|with_reducible refine eL ?_ ?_))
  ·(simp only[go_sem,hC,hE,hM,hY];repeat' (first|exact Ok.out|with_reducible refine eL ?_ ?_))
theorem ahV {hx hn cl:Bool} (hf:v.nq) (hB:B.s = ⟨[],[]⟩) (hQ:iz 0 0 [(2,none)] (.bool p) ⟨[],[]⟩=Q)
 (h:(if decide (v.kind<1) || decide (v.kind > 10) || !(eo v.labels) || (hx && !(v.x.may)) || (!hx && !(v.x.none)) || (v.has && v.kind != 9)then false
  else if(hn && !(isName v.name)) ||(!hn && !(v.name == []) && !(cl && isName v.name))then false
  else if !(cl == !(v.proc == [])) ||(cl && !(isName v.proc)) ||(!cl && decide ((v.args.length:Int) > 0))then false
  else if !(Ar.fl v.args)then false else((v.bm.length:Int)==0 ||v.kind==5 ||v.kind==6) && ((v.bc.length:Int)==0 ||v.kind==5))=p) :
 Sem Tryz.prog B 178 aeh Q [(1, .ptr 0 0),(3, .bool hx),(4, .bool hn),(5, .bool cl)] ⟨[a8 v],[]⟩:=by
 have hns:=fun s=>WJ hf.aey hf.Tx s
 have hm:=Hs hf.x hf.xt
 have⟨hC,hE,hM,hY⟩:=bC
 refine Sem.iM ?_
 repeat' (first
 |simp only[go_sem,hC,hE,hM,hY]
 |(with_reducible refine CU (hns _) ?_)
 |(with_reducible refine CU (hm _) ?_)
 |(with_reducible refine CU (Tw _ _) ?_)
 |(with_reducible first|refine aX fun hc=>?_|refine aY fun hc=>?_|refine aZ (fun hc=>?_) fun hc=>?_)<;>(try simp only[hc,bs,↓reduceIte]at h)<;>try simp only[hc]
 |(with_reducible refine aB hQ ?_;(try cases h);simp only[aQ,aS,bn,bo,go_sem,hC,hE,hM,hY];repeat' (first|exact Ok.out|with_reducible refine eL ?_ ?_|(simp;done))))
 all_goals
  refine Sem.re _ _ 1 0 (by rw[hB];exact mI rfl) (by rw[hB];exact mI rfl) ?_ ?_ (ahU hf hB hQ h)
  ·(simp only[go_sem,hC,hE,hM,hY];repeat' (first|exact Ok.out|with_reducible refine eL ?_ ?_))
  ·(simp only[go_sem,hC,hE,hM,hY];repeat' (first|exact Ok.out|with_reducible refine eL ?_ ?_))
theorem ahW {hx hn:Bool} (hf:v.nq) (hB:B.s = ⟨[],[]⟩) (hQ:iz 0 0 [(2,none)] (.bool p) ⟨[],[]⟩=Q) (ex:v.BK=hx) (en:v.hasName=hn) (h:v.one=p) :
 Sem Tryz.prog B 178 aei Q [(1, .ptr 0 0),(3, .bool hx),(4, .bool hn)] ⟨[a8 v],[]⟩:=by
 unfold Sm.one at h
 rw[ex,en]at h
 have⟨hC,hE,hM,hY⟩:=bC
 refine Sem.iM ?_
 repeat' (first
 |simp only[go_sem,hC,hE,hM,hY]
 |(with_reducible refine aB hQ ?_;exact bd))
 refine Sem.re _ _ 1 0 (by rw[hB];exact mI rfl) (by rw[hB];exact mI rfl) ?_ ?_ (ahV hf hB hQ h)
 ·(simp only[go_sem,hC,hE,hM,hY,Sm.tJ];repeat' (first|exact Ok.out|with_reducible refine eL ?_ ?_))
 ·(simp only[go_sem,hC,hE,hM,hY,Sm.tJ];repeat' (first|exact Ok.out|with_reducible refine eL ?_ ?_))
theorem ahX {hx:Bool} (hf:v.nq) (hB:B.s = ⟨[],[]⟩) (hQ:iz 0 0 [(2,none)] (.bool p) ⟨[],[]⟩=Q) (ex:v.BK=hx) (hp:v.one=p) :
 Sem Tryz.prog B 178 aej Q [(1, .ptr 0 0),(3, .bool hx)] ⟨[a8 v],[]⟩:=by
 generalize h:v.hasName=hn
 have hn:=h
 unfold Sm.hasName at h
 have⟨hC,hE,hM,hY⟩:=bC
 refine Sem.iM ?_
 repeat' (first
 |simp only[go_sem,hC,hE,hM,hY]
 |(with_reducible first|refine aX fun hc=>?_|refine aY fun hc=>?_|refine aZ (fun hc=>?_) fun hc=>?_)<;>(try simp only[hc,bs,↓reduceIte]at h)<;>try simp only[hc]
 |(with_reducible refine aB hQ ?_;simp only[aQ,aS,bn,bo,go_sem,hC,hE,hM,hY];repeat' (first|exact Ok.out|with_reducible refine eL ?_ ?_|(simp;done))))
 all_goals
  refine Sem.re _ _ 1 0 (by rw[hB];exact mI rfl) (by rw[hB];exact mI rfl) ?_ ?_ (ahW hf hB hQ ex hn hp)
  ·(simp only[go_sem,hC,hE,hM,hY,h];repeat' (first|exact Ok.out|with_reducible refine eL ?_ ?_))
  ·(simp only[go_sem,hC,hE,hM,hY,h];repeat' (first|exact Ok.out|with_reducible refine eL ?_ ?_))
theorem ahY (hf:v.nq) (hB:B.s = ⟨[],[]⟩) (hQ:iz 0 0 [(2,none)] (.bool p) ⟨[],[]⟩=Q) (hp:v.one=p) :
 Sem Tryz.prog B 178 aek Q [(1, .ptr 0 0)] ⟨[a8 v],[]⟩:=by
 generalize h:v.BK=hx
 have ex:=h
 unfold Sm.BK at h
 have⟨hC,hE,hM,hY⟩:=bC
 refine Sem.iM ?_
 repeat' (first
 |simp only[go_sem,hC,hE,hM,hY]
 |(with_reducible first|refine aX fun hc=>?_|refine aY fun hc=>?_|refine aZ (fun hc=>?_) fun hc=>?_)<;>(try simp only[hc,bs,↓reduceIte]at h)<;>try simp only[hc]
 |(with_reducible refine aB hQ ?_;simp only[aQ,aS,bn,bo,go_sem,hC,hE,hM,hY];repeat' (first|exact Ok.out|with_reducible refine eL ?_ ?_|(simp;done))))
 all_goals
  refine Sem.re _ _ 1 0 (by rw[hB];exact mI rfl) (by rw[hB];exact mI rfl) ?_ ?_ (ahX hf hB hQ ex hp)
  ·(simp only[go_sem,hC,hE,hM,hY,h];repeat' (first|exact Ok.out|with_reducible refine eL ?_ ?_))
  ·(simp only[go_sem,hC,hE,hM,hY,h];repeat' (first|exact Ok.out|with_reducible refine eL ?_ ?_))
end
theorem az.goS {P:Program} {f:FuncId} {nt:Nat} {res:List (Nat×Option (Bool×Nat))} {body:AC} {args:List D} {s:St} {d:D} {s':St} (h0:Has P f nt res body) (hl:Nat.ble args.length nt=true)
 (h : ∀ (B:e7) (Q:Exit→Tm→St→Prop),B.s=s→iz s.ah.length s.aw.length res d s'=Q→Sem P B nt body Q (mN 0 args) s):az P f args s d s':=by
 obtain⟨fn,hf,hc⟩:=h0
 exact az.intro ⟨fn,hf,hc⟩ (Nat.le_of_ble_eq_true hl) fun B hB=>h B _ hB rfl
theorem Jj {v:Sm} (hf:v.nq) (s:St):az Tryz.prog ER [.agg (a8 v)] s (.bool v.one) s:=by
 refine az.pure ?_ (by simp[D.bH,D.ok,mZ]) rfl s
 unfold S0
 refine az.goS KQ rfl fun B Q hB hQ=>?_
 have⟨hC,hE,hM,hY⟩:=bC
 refine Sem.iM ?_
 repeat' (first
 |simp only[go_sem,hC,hE,hM,hY]
 |(with_reducible refine aB hQ ?_;exact bd))
 refine Sem.re _ _ 1 0 (by rw[hB];exact mI rfl) (by rw[hB];exact mI rfl) ?_ ?_ (ahY hf hB hQ rfl)
 ·(simp only[go_sem,hC,hE,hM,hY];repeat' (first|exact Ok.out|with_reducible refine eL ?_ ?_))
 ·(simp only[go_sem,hC,hE,hM,hY];repeat' (first|exact Ok.out|with_reducible refine eL ?_ ?_))
end Go.Abs
namespace Go.Abs
set_option maxRecDepth 8000
open Go.Proofs
def dK (i:Im):List D:= [.int .i64 i.s.id, .int .i64 i.s.kind, .slice .shared 1 (i.s.labels.map encStr), .str i.s.name, .str i.s.proc,
 .int .i64 i.s.x.op, .int .i64 i.s.x.n, .str i.s.x.name, .slice .shared 4 (i.s.x.kids.map bI), .bool i.s.has, .slice .shared 6 (i.s.args.map eC), .slice .shared 13 (i.s.bm.map a8), .slice .shared 13 (i.s.bc.map a8), .int .i64 i.proc, .int .i64 i.up, .int .i64 i.next, .int .i64 i.loop]
def cU (n:Int):List D:= [.int .i64 n]
theorem QS (i:Im):D.bH 0 0 (dK i)=true:=by simp[dK,D.bH,D.ok,Tag.ok,eB,YH,IG,oM]
theorem Jk (l:List Im):D.gT 0 0 (l.map dK)=true:=gU QS l
theorem Zi (n m:Nat) (l:List Im):D.kJ n m (l.map dK)=l.map dK:=lQ QS n m l
theorem ahZ (n m:Nat) (i:Im):D.gw n m (dK i)=dK i:=ic n m _ (QS i)
theorem ah0 (x:Im):(dK x).length=17:=nd rfl
theorem aaO (x:Im):List.take 17 (dK x)=dK x:=nd rfl
theorem aeA (x:Im):List.drop 17 (dK x) = []:=nd rfl
theorem aeB (x:Im):List.take 13 (dK x)=a8 x.s:=by simp only[dK,dR];rfl
theorem WL (x:Im):(dK x)[0]? = some (.int .i64 x.s.id):=nd rfl
theorem WM (x:Im):(dK x)[1]? = some (.int .i64 x.s.kind):=nd rfl
theorem WN (x:Im):(dK x)[4]? = some (.str x.s.proc):=nd rfl
theorem Ty (x:Im):(dK x)[13]? = some (.int .i64 x.proc):=nd rfl
theorem Tz (x:Im):(dK x)[14]? = some (.int .i64 x.up):=nd rfl
theorem TA (x:Im):(dK x)[15]? = some (.int .i64 x.next):=nd rfl
theorem TB (x:Im):(dK x)[16]? = some (.int .i64 x.loop):=nd rfl
theorem QT (s:Sm) (a b c d:Int):dK ⟨s,a,b,c,d⟩ = [.int .i64 s.id, .int .i64 s.kind, .slice .shared 1 (s.labels.map encStr), .str s.name, .str s.proc,
 .int .i64 s.x.op, .int .i64 s.x.n, .str s.x.name, .slice .shared 4 (s.x.kids.map bI), .bool s.has, .slice .shared 6 (s.args.map eC), .slice .shared 13 (s.bm.map a8), .slice .shared 13 (s.bc.map a8), .int .i64 a, .int .i64 b, .int .i64 c, .int .i64 d]:=nd rfl
theorem Zj (n:Int):D.bH 0 0 (cU n)=true:=rfl
theorem kF (l:List Int):D.gT 0 0 (l.map cU)=true:=gU Zj l
theorem TC (n m:Nat) (l:List Int):D.kJ n m (l.map cU)=l.map cU:=lQ Zj n m l
attribute [go_sem] Zi ahZ ah0 aaO aeA aeB WL WM WN Ty Tz TA TB TC cU
theorem aeC : ∀ n,n<1000000000→∀ v:Sm,v.size≤n→az Tryz.prog mz [.agg (a8 v)] S0 (.int .i64 (v.jA:Int)) S0:=by
 intro n
 induction n with
 |zero=>intro _ v h;obtain⟨_,_,_,_,_,_,_,_,_,_⟩:=v;simp only[Sm.size]at h;omega
 |succ n ih=>
 intro hn v hv
 have eg:Sm.br v.bm≤n∧Sm.br v.bc≤n∧v.jA=1+Sm.iZ v.bm+Sm.iZ v.bc:=by
  obtain⟨_,_,_,_,_,_,_,_,_,_⟩:=v
  simp only[Sm.size]at hv;exact⟨by dsimp only;omega,by dsimp only;omega,rfl⟩
 obtain⟨h1,h2,h3⟩:=eg
 have c1:=nG v.bm
 have c2:=nG v.bc
 have l1:=Sm.ei v.bm
 have l2:=Sm.ei v.bc
 have hk : ∀ y,y∈v.bm∨y∈v.bc→∀ s,az Tryz.prog mz [.agg (a8 y)] s (.int .i64 (y.jA:Int)) s:=fun y hy s=>
  (ih (by omega) y (by rcases hy with hy|hy<;>(have:=Sm.dd hy;omega))).pure (by simp only[D.bH,D.ok,mZ];rfl) rfl s
 rw[h3]
 unfold S0
 refine az.go Il rfl fun B Q hB hQ=>?_
 have⟨hC,hE,hM,hY⟩:=bC
 repeat' (first
 |simp only[go_sem,hC,hE,hM,hY]
 |(with_reducible refine aB hQ ?_;exact bd))
 refine dQ 1 0 (bg.ind (ι:=List Sm×Nat×Nat) (fun i=>v.bm.drop i.2.1=i.1∧i.2.2+Sm.iZ i.1=1+Sm.iZ v.bm) (fun i=>i.1.length)
  (fun i=> [(1, .ptr 0 0),(3, .int .i64 (i.2.2:Int)),(9, .slice .shared 13 (v.bm.map a8)),(10, .int .i64 (v.bm.length:Int)),(11, .int .i64 (i.2.1:Int))]) (fun i=>⟨[a8 v],[]⟩) ?_ (v.bm,0,1) ⟨rfl,rfl⟩)
 rintro⟨rest,k,c⟩ ⟨g1,g2⟩ IH
 dsimp only at g1 g2
 cases rest with
 |cons y rest=>
  obtain⟨hE,g3,hC,g4⟩:=drop_cons g1
  have hy:=hk y (.inl (List.mem_of_getElem? hE))
  simp only[Sm.iZ]at g2
  have hcy:=DU y
  have G8:=Sm.dd (List.mem_of_getElem? hE)
  have w1:IntKind.wrap .i64 ((k:Int)+1)=((k+1:Nat):Int):=by rw[dP]<;>omega
  have w2:IntKind.wrap .i64 ((c:Int)+(y.jA:Int))=((c+y.jA:Nat):Int):=by rw[dP]<;>omega
  repeat' (first
 |simp only[go_sem,hC,hE,hM,hY,w1,w2]
 |(with_reducible refine CU (hy _) ?_)
 |(with_reducible refine aB hQ ?_;exact bd))
  refine dQ 1 0 (IH (rest,k+1,c+y.jA) ⟨g3,by dsimp only;omega⟩ (Nat.lt_succ_self _))
 |nil=>
  have hC:=drop_nil g1
  simp only[Sm.iZ,Nat.add_zero]at g2
  subst g2
  repeat' (first
 |simp only[go_sem,hC,hE,hM,hY]
 | (with_reducible refine aB hQ ?_;exact bd))
  refine dQ 1 0 (bg.ind (ι:=List Sm×Nat×Nat) (fun i=>v.bc.drop i.2.1=i.1∧i.2.2+Sm.iZ i.1=1+Sm.iZ v.bm+Sm.iZ v.bc) (fun i=>i.1.length)
   (fun i=> [(1, .ptr 0 0),(3, .int .i64 (i.2.2:Int)),(21, .slice .shared 13 (v.bc.map a8)),(22, .int .i64 (v.bc.length:Int)),(23, .int .i64 (i.2.1:Int))]) (fun i=>⟨[a8 v],[]⟩) ?_ (v.bc,0,1+Sm.iZ v.bm) ⟨rfl,rfl⟩)
  rintro⟨rest,k,c⟩ ⟨g1,g2⟩ IH
  dsimp only at g1 g2
  cases rest with
  |cons y rest=>
   obtain⟨hE,g3,hC,g4⟩:=drop_cons g1
   have hy:=hk y (.inr (List.mem_of_getElem? hE))
   simp only[Sm.iZ]at g2
   have hcy:=DU y
   have G8:=Sm.dd (List.mem_of_getElem? hE)
   have w1:IntKind.wrap .i64 ((k:Int)+1)=((k+1:Nat):Int):=by rw[dP]<;>omega
   have w2:IntKind.wrap .i64 ((c:Int)+(y.jA:Int))=((c+y.jA:Nat):Int):=by rw[dP]<;>omega
   repeat' (first
 |simp only[go_sem,hC,hE,hM,hY,w1,w2]
 |(with_reducible refine CU (hy _) ?_)
 | (with_reducible refine aB hQ ?_;exact bd))
   refine dQ 1 0 (IH (rest,k+1,c+y.jA) ⟨g3,by dsimp only;omega⟩ (Nat.lt_succ_self _))
  |nil=>
   have hC:=drop_nil g1
   simp only[Sm.iZ,Nat.add_zero]at g2
   subst g2
   repeat' (first
 |simp only[go_sem,hC,hE,hM,hY]
 |(with_reducible refine aB hQ ?_;exact bd))
theorem aeD {v:Sm} (h:v.size<1000000000) (s:St):az Tryz.prog mz [.agg (a8 v)] s (.int .i64 (v.jA:Int)) s:=
 (aeC v.size h v (Nat.le_refl _)).pure (by simp only[D.bH,D.ok,mZ];rfl) rfl s
end Go.Abs
namespace Go.Abs
set_option maxRecDepth 8000
open Go.Proofs
abbrev iR (g ps:D) (L:List Im) (lo hi:List Int):List D:= [g,ps, .slice (.tok 0) 17 (L.map dK), .slice (.tok 1) 1 (lo.map cU), .slice (.tok 2) 1 (hi.map cU)]
abbrev WO (proc up next loop:Int):List D:= [.int .i64 0, .int .i64 0, .slice .full 0 [], .str [], .str [], .int .i64 0, .int .i64 0, .str [], .slice .full 0 [], .bool false, .slice .full 0 [], .slice .full 0 [], .slice .full 0 [], .int .i64 proc, .int .i64 up, .int .i64 next, .int .i64 loop]
theorem az.ah1 {P:Program} {f:Nat} {args:List D} {g ps:D} {L L':List Im} {lo hi Hc gZ:List Int} {a b c a' b' c':Option Nat}
 (h:az P f (.ptr 0 0::args) ⟨[iR g ps L lo hi],[a,b,c]⟩ (.tuple []) ⟨[iR g ps L' Hc gZ],[a',b',c']⟩)
 (ha:D.bH 0 0 args=true) (hg:D.ok 0 0 g=true) (hp:D.ok 0 0 ps=true)
 {s:St} {o:Nat} (ho:s.ah[o]? = some (iR g ps L lo hi)) (ht:s.aw = [a,b,c]):az P f (.ptr o 0::args) s (.tuple []) ⟨s.ah.set o (iR g ps L' Hc gZ),[a',b',c']⟩:=by
 have hr : ∀ (L:List Im) (lo hi:List Int),D.eU [o] [0,1,2] (iR g ps L lo hi)=iR g ps L lo hi:=fun L lo hi=>by
  simp[D.eU,D.db,Tag.db,qK _ _ _ hg,qK _ _ _ hp,ib _ _ _ (Jk L),ib _ _ _ (kF lo),ib _ _ _ (kF hi)]
 have hk : ∀ (L:List Im) (lo hi:List Int),D.bH 1 3 (iR g ps L lo hi)=true:=fun L lo hi=>by
  simp[D.bH,D.ok,Tag.ok,F8 (Nat.zero_le 1) (Nat.zero_le 3) _ hg,F8 (Nat.zero_le 1) (Nat.zero_le 3) _ hp,lC (Nat.zero_le 1) (Nat.zero_le 3) _ (Jk L),lC (Nat.zero_le 1) (Nat.zero_le 3) _ (kF lo),lC (Nat.zero_le 1) (Nat.zero_le 3) _ (kF hi)]
 refine bP.frame [o] [0,1,2] h (by simp) (by decide) (by simpa using (List.getElem?_eq_some_iff.1 ho).1) (by rw[ht];simp) rfl (fun i o' ds e1 e2=>?_) rfl (fun i t' e1=>?_)
  (by simp[D.eU,D.db,e8 _ _ _ ha])
  (by simp[D.bH,D.ok,gE (Nat.zero_le 1) (Nat.zero_le 3) _ ha]) ?_
 ·cases i with
  |zero=>simp only[List.getElem?_cons_zero,Option.some.injEq]at e1 e2;subst e1;subst e2;exact⟨by rw[hr];exact ho,hk L lo hi⟩
  |succ i=>simp at e1
 ·rw [ht]
  match i,e1 with
  | 0,e1=>simp at e1;subst e1;rfl
  | 1,e1=>simp at e1;subst e1;rfl
  | 2,e1=>simp at e1;subst e1;rfl
  |i+3,e1=>simp at e1
 ·rintro _ _ ⟨rfl,rfl⟩
  refine⟨by simp[D.back,D.db,D.eU], ?_⟩
  have:=hr L' Hc gZ
  simp[St.back,kB,kj,this,ht]
abbrev Zk (N:Nat):Prop:=∀ (l:List Sm) (proc up next loop:Int) (out:List Im) (g ps:D) (lo hi:List Int) (b c:Option Nat),Sm.br l<N→out.length+Sm.iZ l<1000000000→D.ok 0 0 g=true→D.ok 0 0 ps=true→
 ∀ {s:St} {o:Nat},s.ah[o]? = some (iR g ps out lo hi)→s.aw = [some out.length,b,c]→
 az Tryz.prog kl [.ptr o 0, .slice .shared 13 (l.map a8), .agg (WO proc up next loop)] s (.tuple []) ⟨s.ah.set o (iR g ps (Im.rows proc up next loop out l) lo hi),[some (Im.rows proc up next loop out l).length,b,c]⟩
theorem ah2 {N:Nat} (ih:Zk N) {l:List Sm} {proc up next loop:Int} {out:List Im} {g ps:D} {lo hi:List Int} {b c:Option Nat} (hs:Sm.br l<N+1) (hc:out.length+Sm.iZ l<1000000000) (hg:D.ok 0 0 g=true) (hp:D.ok 0 0 ps=true) (hN:N<1000000000) :
 az Tryz.prog kl [.ptr 0 0, .slice .shared 13 (l.map a8), .agg (WO proc up next loop)] ⟨[iR g ps out lo hi],[some out.length,b,c]⟩ (.tuple []) ⟨[iR g ps (Im.rows proc up next loop out l) lo hi],[some (Im.rows proc up next loop out l).length,b,c]⟩:=by
 obtain⟨R,hR⟩ : ∃ R,R=Im.rows proc up next loop out l:=⟨_,rfl⟩
 have hlR:R.length=out.length+Sm.iZ l:=by rw[hR,gG]
 rw[← hR]
 have k1 : ∀ n m,D.fg n m g=g:=fun n m=>Qd n m _ hg
 have k2 : ∀ n m,D.fg n m ps=ps:=fun n m=>Qd n m _ hp
 refine az.go BJ rfl fun B Q hB hQ=>?_
 have⟨hC,hE,hM,hY⟩:=bC
 repeat' (first
 |simp only[go_sem,hC,hE,hM,hY,k1,k2]
 |(with_reducible first|refine aX fun hc=>?_|refine aY fun hc=>?_|refine aZ (fun hc=>?_) fun hc=>?_)<;>(try simp only[hc,bs,↓reduceIte]at h)<;>try simp only[hc]
 |(with_reducible refine aB hQ ?_;simp only[aQ,aS,bn,bo,go_sem,hC,hE,hM,hY,k1,k2];try exact bR))
 refine eS 2 3 ?_ ?_ (bg.ind (ι:=List Sm×Nat×List Im) (fun i=>l.drop i.2.1=i.1∧Im.rows proc up next loop i.2.2 i.1=R∧i.2.2.length+Sm.iZ i.1=out.length+Sm.iZ l) (fun i=>i.1.length)
  (fun i=> [(0, .ptr 0 0),(1, .slice .shared 13 (l.map a8)),(5, .ptr 1 0),(11, .slice .shared 13 (l.map a8)),(12, .int .i64 (l.length:Int)),(13, .int .i64 (i.2.1:Int))]) (fun i=>⟨[iR g ps i.2.2 lo hi,WO proc up next loop],[some i.2.2.length,b,c]⟩) ?_ (l,0,out) ⟨rfl,hR.symm,rfl⟩)
 ·(simp only[go_sem,hC,hE,hM,hY,k1,k2];try exact cr)
 ·(simp only[go_sem,hC,hE,hM,hY,k1,k2];try exact cr)
 rintro⟨rest,k,cO⟩ ⟨h1,h2,h3⟩ IH
 dsimp only at h1 h2 h3
 have hlen:l.length<1000000000:=by have:=Sm.ei l;omega
 cases rest with
 |nil=>
  have hC:=drop_nil h1
  simp only[Im.rows]at h2
  subst h2
  repeat' (first
 |simp only[go_sem,hC,hE,hM,hY,k1,k2]
 |(with_reducible first|refine aX fun hc=>?_|refine aY fun hc=>?_|refine aZ (fun hc=>?_) fun hc=>?_)<;>(try simp only[hc,bs,↓reduceIte]at h)<;>try simp only[hc]
 |(with_reducible refine aB hQ ?_;simp only[aQ,aS,bn,bo,go_sem,hC,hE,hM,hY,k1,k2];try exact bR))
 | cons v rest=>
  obtain⟨hE,g2,hC,g4⟩:=drop_cons h1
  have cj:k<4611686018427387904:=by omega
  have hv:=Sm.dd (List.mem_of_getElem? hE)
  have tx:Sm.br v.bm<N∧Sm.br v.bc<N∧v.jA=1+Sm.iZ v.bm+Sm.iZ v.bc:=by
   obtain⟨_,_,_,_,_,_,_,_,_,_⟩:=v
   simp only[Sm.size]at hv
   exact⟨by dsimp only;omega,by dsimp only;omega,rfl⟩
  obtain⟨EG,JV,hv3⟩:=tx
  simp only[Sm.iZ]at h3
  simp only[Im.rows,Im.adJ]at h2
  have hM:(cO.length+1)*241≤bx:=by unfold bx;omega
  have Nh:IntKind.wrap .i64 ((cO.length:Int)+1)=(cO.length:Int)+1:=dP (by omega) (by omega)
  have tM:IntKind.wrap .i64 ((k:Int)+1)=((k+1:Nat):Int):=by rw[dP]<;>omega
  have Zl:IntKind.wrap .i64 ((cO.length:Int)+1+(v.jA:Int))=(cO.length:Int)+1+(v.jA:Int):=dP (by omega) (by omega)
  have eg:=fun s=>aeD (v:=v) (by omega) s
  simp only[dR]at eg
  have Bf:rest.length=l.length - (k+1):=by rw[← g2,List.length_drop]
  by_cases aAe:k+1<l.length
  ·have d1:decide (((k+1:Nat):Int)<(l.length:Int))=true:=by simp;omega
   have e1:(rest.length=0)=False:=by simp;intro h;rw[h]at Bf;simp at Bf;omega
   by_cases TD:v.kind=6
   ·have d2:(v.kind==6)=true:=by simp [TD]
    simp only[e1,d2,↓reduceIte,Bool.false_eq_true]at h2
    have f1:=fun {s:St} {o:Nat}=>@ih v.bm proc ((cO.length:Int)+1) ((cO.length:Int)+1) ((cO.length:Int)+1) (cO++ [⟨v,proc,up,((cO.length:Int)+1+(v.jA:Int)),loop⟩]) g ps lo hi b c EG (by simp;omega) hg hp s o
    have f2:=fun {s:St} {o:Nat}=>@ih v.bc proc ((cO.length:Int)+1) ((cO.length:Int)+1) ((cO.length:Int)+1) _ g ps lo hi b c JV (by rw[gG proc ((cO.length:Int)+1) ((cO.length:Int)+1) ((cO.length:Int)+1) (cO++ [⟨v,proc,up,((cO.length:Int)+1+(v.jA:Int)),loop⟩]) v.bm];simp;omega) hg hp s o
    have hl:(Im.rows proc ((cO.length:Int)+1) ((cO.length:Int)+1) ((cO.length:Int)+1) (Im.rows proc ((cO.length:Int)+1) ((cO.length:Int)+1) ((cO.length:Int)+1) (cO++ [⟨v,proc,up,((cO.length:Int)+1+(v.jA:Int)),loop⟩]) v.bm) v.bc).length=cO.length+v.jA:=by rw[gG,gG];simp;omega
    simp only[iR,List.map_append,List.map_cons,List.map_nil,QT,List.length_append,List.length_cons,List.length_nil]at f1
    repeat' (first
 |simp only[go_sem,hC,hE,hM,hY,k1,k2,Nh,tM,Zl,d1,d2,dR]
 |(with_reducible refine CU (eg _) ?_)
 |(with_reducible refine CU (f1 (by with_unfolding_all rfl) (by with_unfolding_all rfl)) ?_)
 |(with_reducible refine CU (f2 (by with_unfolding_all rfl) (by with_unfolding_all rfl)) ?_)
 | (with_reducible refine aB hQ ?_;exact bd))
    refine eS 2 3 ?_ ?_ (IH (rest,k+1,_) ⟨g2,h2,by dsimp only;rw[hl];omega⟩ (Nat.lt_succ_self _))
    ·(simp only[go_sem,hC,hE,hM,hY,tM,k1,k2];try exact cr)
    ·(simp only[go_sem,hC,hE,hM,hY,tM,k1,k2];try exact cr)
   ·have d2:(v.kind==6)=false:=by simp [TD]
    simp only[e1,d2,↓reduceIte,Bool.false_eq_true]at h2
    have f1:=fun {s:St} {o:Nat}=>@ih v.bm proc ((cO.length:Int)+1) ((cO.length:Int)+1+(v.jA:Int)) loop (cO++ [⟨v,proc,up,((cO.length:Int)+1+(v.jA:Int)),loop⟩]) g ps lo hi b c EG (by simp;omega) hg hp s o
    have f2:=fun {s:St} {o:Nat}=>@ih v.bc proc ((cO.length:Int)+1) ((cO.length:Int)+1+(v.jA:Int)) loop _ g ps lo hi b c JV (by rw[gG proc ((cO.length:Int)+1) ((cO.length:Int)+1+(v.jA:Int)) loop (cO++ [⟨v,proc,up,((cO.length:Int)+1+(v.jA:Int)),loop⟩]) v.bm];simp;omega) hg hp s o
    have hl:(Im.rows proc ((cO.length:Int)+1) ((cO.length:Int)+1+(v.jA:Int)) loop (Im.rows proc ((cO.length:Int)+1) ((cO.length:Int)+1+(v.jA:Int)) loop (cO++ [⟨v,proc,up,((cO.length:Int)+1+(v.jA:Int)),loop⟩]) v.bm) v.bc).length=cO.length+v.jA:=by rw[gG,gG];simp;omega
    simp only[iR,List.map_append,List.map_cons,List.map_nil,QT,List.length_append,List.length_cons,List.length_nil]at f1
    repeat' (first
 |simp only[go_sem,hC,hE,hM,hY,k1,k2,Nh,tM,Zl,d1,d2,dR]
 |(with_reducible refine CU (eg _) ?_)
 |(with_reducible refine CU (f1 (by with_unfolding_all rfl) (by with_unfolding_all rfl)) ?_)
 |(with_reducible refine CU (f2 (by with_unfolding_all rfl) (by with_unfolding_all rfl)) ?_)
 | (with_reducible refine aB hQ ?_;exact bd))
    refine eS 2 3 ?_ ?_ (IH (rest,k+1,_) ⟨g2,h2,by dsimp only;rw[hl];omega⟩ (Nat.lt_succ_self _))
    ·(simp only[go_sem,hC,hE,hM,hY,tM,k1,k2];try exact cr)
    ·(simp only[go_sem,hC,hE,hM,hY,tM,k1,k2];try exact cr)
  ·have d1:decide (((k+1:Nat):Int)<(l.length:Int))=false:=by simp;omega
   have e1:(rest.length=0)=True:=by simp only[eq_iff_iff,iff_true];omega
   by_cases TD:v.kind=6
   ·have d2:(v.kind==6)=true:=by simp [TD]
    simp only[e1,d2,↓reduceIte,Bool.false_eq_true]at h2
    have f1:=fun {s:St} {o:Nat}=>@ih v.bm proc ((cO.length:Int)+1) ((cO.length:Int)+1) ((cO.length:Int)+1) (cO++ [⟨v,proc,up,next,loop⟩]) g ps lo hi b c EG (by simp;omega) hg hp s o
    have f2:=fun {s:St} {o:Nat}=>@ih v.bc proc ((cO.length:Int)+1) ((cO.length:Int)+1) ((cO.length:Int)+1) _ g ps lo hi b c JV (by rw[gG proc ((cO.length:Int)+1) ((cO.length:Int)+1) ((cO.length:Int)+1) (cO++ [⟨v,proc,up,next,loop⟩]) v.bm];simp;omega) hg hp s o
    have hl:(Im.rows proc ((cO.length:Int)+1) ((cO.length:Int)+1) ((cO.length:Int)+1) (Im.rows proc ((cO.length:Int)+1) ((cO.length:Int)+1) ((cO.length:Int)+1) (cO++ [⟨v,proc,up,next,loop⟩]) v.bm) v.bc).length=cO.length+v.jA:=by rw[gG,gG];simp;omega
    simp only[iR,List.map_append,List.map_cons,List.map_nil,QT,List.length_append,List.length_cons,List.length_nil]at f1
    repeat' (first
 |simp only[go_sem,hC,hE,hM,hY,k1,k2,Nh,tM,Zl,d1,d2,dR]
 |(with_reducible refine CU (eg _) ?_)
 |(with_reducible refine CU (f1 (by with_unfolding_all rfl) (by with_unfolding_all rfl)) ?_)
 |(with_reducible refine CU (f2 (by with_unfolding_all rfl) (by with_unfolding_all rfl)) ?_)
 | (with_reducible refine aB hQ ?_;exact bd))
    refine eS 2 3 ?_ ?_ (IH (rest,k+1,_) ⟨g2,h2,by dsimp only;rw[hl];omega⟩ (Nat.lt_succ_self _))
    ·(simp only[go_sem,hC,hE,hM,hY,tM,k1,k2];try exact cr)
    ·(simp only[go_sem,hC,hE,hM,hY,tM,k1,k2];try exact cr)
   ·have d2:(v.kind==6)=false:=by simp [TD]
    simp only[e1,d2,↓reduceIte,Bool.false_eq_true]at h2
    have f1:=fun {s:St} {o:Nat}=>@ih v.bm proc ((cO.length:Int)+1) next loop (cO++ [⟨v,proc,up,next,loop⟩]) g ps lo hi b c EG (by simp;omega) hg hp s o
    have f2:=fun {s:St} {o:Nat}=>@ih v.bc proc ((cO.length:Int)+1) next loop _ g ps lo hi b c JV (by rw[gG proc ((cO.length:Int)+1) next loop (cO++ [⟨v,proc,up,next,loop⟩]) v.bm];simp;omega) hg hp s o
    have hl:(Im.rows proc ((cO.length:Int)+1) next loop (Im.rows proc ((cO.length:Int)+1) next loop (cO++ [⟨v,proc,up,next,loop⟩]) v.bm) v.bc).length=cO.length+v.jA:=by rw[gG,gG];simp;omega
    simp only[iR,List.map_append,List.map_cons,List.map_nil,QT,List.length_append,List.length_cons,List.length_nil]at f1
    repeat' (first
 |simp only[go_sem,hC,hE,hM,hY,k1,k2,Nh,tM,Zl,d1,d2,dR]
 |(with_reducible refine CU (eg _) ?_)
 |(with_reducible refine CU (f1 (by with_unfolding_all rfl) (by with_unfolding_all rfl)) ?_)
 |(with_reducible refine CU (f2 (by with_unfolding_all rfl) (by with_unfolding_all rfl)) ?_)
 | (with_reducible refine aB hQ ?_;exact bd))
    refine eS 2 3 ?_ ?_ (IH (rest,k+1,_) ⟨g2,h2,by dsimp only;rw[hl];omega⟩ (Nat.lt_succ_self _))
    ·(simp only[go_sem,hC,hE,hM,hY,tM,k1,k2];try exact cr)
    ·(simp only[go_sem,hC,hE,hM,hY,tM,k1,k2];try exact cr)
theorem aaP : ∀ N,N<1000000000→Zk N:=by
 intro N
 induction N with
 |zero=>exact fun _ l proc up next loop out g ps lo hi b c h=>absurd h (Nat.not_lt_zero _)
 |succ N ih=>
  intro h l proc up next loop out g ps lo hi b c hs hc hg hp s o ho ht
  exact(ah2 (ih (by omega)) hs hc hg hp (by omega)).ah1 (by simp[D.bH,D.ok,Tag.ok,oM,D.gT]) hg hp ho ht
def fw (p:Pg):List D:= [.slice .shared 1 (p.globals.map encStr), .slice .shared 5 (p.procs.map cH), .slice .shared 17 (p.bh.L.map dK), .slice .shared 1 (p.bh.lo.map cU), .slice .shared 1 (p.bh.hi.map cU)]
theorem nY (p:Pg):fw p = [.slice .shared 1 (p.globals.map encStr), .slice .shared 5 (p.procs.map cH), .slice .shared 17 (p.bh.L.map dK), .slice .shared 1 (p.bh.lo.map cU), .slice .shared 1 (p.bh.hi.map cU)]:=nd rfl
theorem uw (p:Pg):D.bH 0 0 (fw p)=true:=by simp[fw,D.bH,D.ok,Tag.ok,eB,wK,Jk,kF]
theorem Fa (p:Pg):cR p = [.slice .shared 1 (p.globals.map encStr), .slice .shared 5 (p.procs.map cH)]:=nd rfl
theorem ah4 {p:Pg} (hs:Pc.br p.procs<1000000000):az Tryz.prog kY [.agg (cR p)] S0 (.ptr 1 0) ⟨[cR p,iR (.slice .shared 1 (p.globals.map encStr)) (.slice .shared 5 (p.procs.map cH)) p.bh.L p.bh.lo p.bh.hi],[some p.bh.L.length,some p.bh.lo.length,some p.bh.hi.length]⟩:=by
 have hlen:p.procs.length<1000000000:=by have:=Pc.ei p.procs;omega
 obtain⟨R,hR⟩ : ∃ R,R=p.bh:=⟨_,rfl⟩
 have hR':=hR
 unfold Pg.bh at hR'
 unfold S0
 rw[Fa, ← hR]
 refine az.goK 2 3 (Nat.zero_le _) (Nat.zero_le _) KH rfl fun B Q hB hQ=>?_
 have⟨hC,hE,hM,hY⟩:=bC
 repeat' (first
 |simp only[go_sem,hC,hE,hM,hY,Fa]
 |(with_reducible refine aB hQ ?_;exact bd))
 refine bg.qL 1 2 17 rfl rfl ?_
 simp only[go_sem,hC,hE,hM,hY]
 refine bg.qL 1 3 1 rfl rfl ?_
 simp only[go_sem,hC,hE,hM,hY]
 refine bg.qL 1 4 1 rfl rfl ?_
 simp only[go_sem,hC,hE,hM,hY]
 refine eS 2 3 ?_ ?_ (bg.ind (ι:=List Pc×Nat×Sh×Nat×Nat) (fun i=>p.procs.drop i.2.1=i.1∧Sh.go i.2.1 i.2.2.1 i.1=R∧i.2.2.1.L.length+Pc.br i.1≤Pc.br p.procs∧i.2.2.1.lo.length=i.2.1∧i.2.2.1.hi.length=i.2.1∧i.2.2.2.1=i.2.2.1.lo.length∧i.2.2.2.2=i.2.2.1.hi.length) (fun i=>i.1.length)
  (fun i=> [(1, .ptr 0 0),(3, .ptr 1 0),(10, .slice .shared 5 (p.procs.map cH)),(11, .int .i64 (p.procs.length:Int)),(12, .int .i64 (i.2.1:Int))]) (fun i=>⟨[[.slice .shared 1 (p.globals.map encStr), .slice .shared 5 (p.procs.map cH)],iR (.slice .shared 1 (p.globals.map encStr)) (.slice .shared 5 (p.procs.map cH)) i.2.2.1.L i.2.2.1.lo i.2.2.1.hi],[some i.2.2.1.L.length,some i.2.2.2.1,some i.2.2.2.2]⟩) ?_ (p.procs,0,⟨[],[],[]⟩,0,0) ⟨rfl,hR'.symm,by simp,rfl,rfl,rfl,rfl⟩)
 ·(simp only[go_sem,hC,hE,hM,hY,iR];try exact cr)
 ·(simp only[go_sem,hC,hE,hM,hY,iR];try exact cr)
 rintro⟨rest,k,h,n1,n2⟩ ⟨h1,h2,h3,h4,h5,h6,h7⟩ IH
 dsimp only at h1 h2 h3 h4 h5 h6 h7
 subst h6 h7
 cases rest with
 |nil=>
  have hC:=drop_nil h1
  simp only[Sh.go]at h2
  rw[← h2]at hQ
  repeat' (first
 |simp only[go_sem,hC,hE,hM,hY,iR]
 |(with_reducible refine aB hQ ?_;exact bd))
 |cons f rest=>
  obtain⟨hE,g2,hC,g4⟩:=drop_cons h1
  have cj:k<4611686018427387904:=by omega
  simp only[Pc.br,Pc.size]at h3
  simp only[Sh.go]at h2
  have c1:=nG f.body
  have hM:(h.lo.length+1)*9≤bx:=by unfold bx;omega
  have asR:(h.hi.length+1)*9≤bx:=by unfold bx;omega
  have Nh:IntKind.wrap .i64 ((h.L.length:Int)+1)=(h.L.length:Int)+1:=dP (by omega) (by omega)
  have hl:(Im.rows (k:Int) 0 (-1) 0 h.L f.body).length=h.L.length+Sm.iZ f.body:=gG ..
  have tM:IntKind.wrap .i64 (((Im.rows (k:Int) 0 (-1) 0 h.L f.body).length:Int)+1)=((Im.rows (k:Int) 0 (-1) 0 h.L f.body).length:Int)+1:=dP (by omega) (by omega)
  have hr:=fun {s:St} {o:Nat}=>@aaP (Sm.br f.body+1) (by omega) f.body (k:Int) 0 (-1) 0 h.L (.slice .shared 1 (p.globals.map encStr)) (.slice .shared 5 (p.procs.map cH)) (h.lo++ [(h.L.length:Int)+1]) h.hi (some (h.lo.length+1)) (some h.hi.length) (Nat.lt_succ_self _) (by omega) (by simp[D.ok,Tag.ok,eB]) (by simp[D.ok,Tag.ok,wK]) s o
  simp only[iR,List.map_append,List.map_cons,List.map_nil,cU]at hr
  repeat' (first
 |simp only[go_sem,hC,hE,hM,hY,Nh,tM,asR,iR]
 |(with_reducible refine CU (hr (by with_unfolding_all rfl) (by with_unfolding_all rfl)) ?_)
 |(with_reducible refine aB hQ ?_;exact bd))
  refine eS 2 3 ?_ ?_ (IH (rest,k+1,⟨Im.rows (k:Int) 0 (-1) 0 h.L f.body,h.lo++ [(h.L.length:Int)+1],h.hi++ [((Im.rows (k:Int) 0 (-1) 0 h.L f.body).length:Int)+1]⟩,_,_) ⟨g2,h2,by dsimp only;rw[hl];omega,by simp[h4],by simp[h5],by simp,by simp⟩ (Nat.lt_succ_self _))
  ·(simp only[go_sem,hC,hE,hM,hY,iR,aL cj,List.map_append,List.map_cons,List.map_nil,cU];try exact cr)
  ·(simp only[go_sem,hC,hE,hM,hY,iR,aL cj,List.map_append,List.map_cons,List.map_nil,cU];try exact cr)
theorem Cz {p:Pg} (hs:Pc.br p.procs<1000000000) (s:St):az Tryz.prog kY [.agg (cR p)] s (.dL (fw p) 0) s:=by
 refine az.pure ?_ (by simp only[D.bH,D.ok,jT];rfl) (by simp only[D.ok,uw]) s
 have h:=(ah4 hs).AZ (n:=0) (m:=0) rfl (Nat.le_refl _) (Nat.zero_le _) (Nat.le_refl _)
 simpa[D.gw,D.fg,Tag.fg,Tj,YI,Zi,TC,St.cut,fw,S0]using h
def jb (x:aF) (k:Int):List aF→Int
 | []=> -1
 |s::l=>if x==s then k else jb x (k+1) l
def fq (l:List aF) (x:aF):Bool:=decide (jb x 0 l≥0)
def k6 {α:Type} (b:α→Bool) (k:Int):List α→Int
 | []=> -1
 |s::l=>if b s then k else k6 b (k+1) l
theorem Ni (x:aF) : ∀ (l:List aF) (k:Int),0≤k→(jb x k l≥0↔x∈l)
 | [],k,h=>by simp[jb]
 | s::l,k,h=>by
  by_cases e:x=s
  ·simp[jb,e];omega
  ·have e':(x==s)=false:=by simp [e]
   simp only[jb,e',Bool.false_eq_true,if_false,List.mem_cons,e,false_or]
   exact Ni x l (k+1) (by omega)
theorem jc (l:List aF) (x:aF):fq l x=true↔x∈l:=by
 simp only[fq,decide_eq_true_eq];exact Ni x l 0 (Int.le_refl 0)
theorem Gy {α:Type} (b:α→Bool) : ∀ (l:List α) (k:Int),0≤k→(k6 b k l≥0↔l.any b=true)
 | [],k,h=>by simp[k6]
 | s::l,k,h=>by
  by_cases e:b s=true
  ·simp[k6,e];omega
  ·have e':b s=false:=by simpa using e
   simp only[k6,e',Bool.false_eq_true,if_false,List.any_cons,Bool.or_eq_true,false_or]
   exact Gy b l (k+1) (by omega)
theorem CA {l:List aF} (hl:l.length<4611686018427387904) (x:aF) (s:St):az Tryz.prog fY [.slice .shared 1 (l.map encStr), .str x] s (.int .i64 (jb x 0 l)) s:=by
 refine az.pure ?_ (by simp[D.bH,D.ok,Tag.ok,eB]) rfl s
 generalize h:jb x 0 l=p
 unfold S0
 refine az.go wo rfl fun B Q hB hQ=>?_
 have⟨hC,hE,hM,hY⟩:=bC
 repeat' (first
 |simp only[go_sem,hC,hE,hM,hY]
 |(with_reducible first|refine aX fun hc=>?_|refine aY fun hc=>?_|refine aZ (fun hc=>?_) fun hc=>?_)<;>(try simp only[hc,bs,↓reduceIte]at h)<;>try simp only[hc]
 |(with_reducible refine aB hQ ?_;exact er))
 refine dQ 0 0 (bg.ind (ι:=List aF×Nat) (fun i=>l.drop i.2=i.1∧jb x (i.2:Int) i.1=p) (fun i=>i.1.length)
  (fun i=> [(0, .slice .shared 1 (l.map encStr)),(1, .str x),(7, .int .i64 (l.length:Int)),(8, .int .i64 (i.2:Int))]) (fun i=>⟨[],[]⟩) ?_ (l,0) ⟨rfl,h⟩)
 rintro⟨rest,k⟩ ⟨h1,h⟩ IH
 dsimp only at h1 h
 cases rest with
 |nil=>
  have hC:=drop_nil h1
  simp only[jb]at h
  repeat' (first
 |simp only[go_sem,hC,hE,hM,hY]
 |(with_reducible first|refine aX fun hc=>?_|refine aY fun hc=>?_|refine aZ (fun hc=>?_) fun hc=>?_)<;>(try simp only[hc,bs,↓reduceIte]at h)<;>try simp only[hc]
 |(with_reducible refine aB hQ ?_;exact er))
 |cons a rest=>
  obtain⟨hE,g2,hC,g4⟩:=drop_cons h1
  have cj:k<4611686018427387904:=by omega
  simp only[jb]at h
  repeat' (first
 |simp only[go_sem,hC,hE,hM,hY]
 |(with_reducible first|refine aX fun hc=>?_|refine aY fun hc=>?_|refine aZ (fun hc=>?_) fun hc=>?_)<;>(try simp only[hc,bs,↓reduceIte]at h)<;>try simp only[hc]
 |(with_reducible refine aB hQ ?_;exact er))
  refine eS 0 0 ?_ ?_ (IH (rest,k+1) ⟨g2,h⟩ (Nat.lt_succ_self _))
  ·(simp only[go_sem,hC,hE,hM,hY,aL cj];try exact cr)
  ·(simp only[go_sem,hC,hE,hM,hY,aL cj];try exact cr)
theorem rY {l:List aF} (hl:l.length<4611686018427387904) (x:aF) (s:St):az Tryz.prog cB [.slice .shared 1 (l.map encStr), .str x] s (.bool (fq l x)) s:=by
 refine az.pure ?_ (by simp[D.bH,D.ok,Tag.ok,eB]) rfl s
 have hi:=fun s=>CA hl x s
 unfold S0
 refine az.go uv rfl fun B Q hB hQ=>?_
 have⟨hC,hE,hM,hY⟩:=bC
 repeat' (first
 |simp only[go_sem,hC,hE,hM,hY,fq]
 |(with_reducible refine CU (hi _) ?_)
 |(with_reducible first|refine aX fun hc=>?_|refine aY fun hc=>?_|refine aZ (fun hc=>?_) fun hc=>?_)<;>(try simp only[hc,bs,↓reduceIte]at h)<;>try simp only[hc]
 |(with_reducible refine aB hQ ?_;simp only[aQ,aS,bn,bo,go_sem,hC,hE,hM,hY,fq];try exact bR))
theorem az.Zm {P:Program} {f:Nat} {d d':D} {r:List D} {s s':St} {x:D} (h:az P f (d'::r) s x s') (hw:Wk d d'):az P f (d::r) s x s':=bP.ox (.cons hw (ju.refl r)) h
theorem jF {l:List aF} (hl:l.length<4611686018427387904) (x:aF) (g:Tag) (s:St):az Tryz.prog cB [.slice g 1 (l.map encStr), .str x] s (.bool (fq l x)) s:=
 (rY hl x s).Zm (Wk.shared _ _ _)
theorem KY (x:aF) (z:Nat) (g:Tag) (s:St):az Tryz.prog cB [.slice g z [], .str x] s (.bool false) s:=
 (rY (l:= []) (by simp) x s).Zm (Wk.nil _ _ _)
theorem BM {l:List aF} (hl:l.length<4611686018427387904) {f:Nat} {row:List D} {b:aF→Bool} (uM:D.bH 0 0 row=true) (he:enters Tryz.prog f=true)
 (hb : ∀ x∈l,az Tryz.prog f ([.str x]++ [.ptr 0 0]) ⟨[row],[]⟩ (.bool (b x)) ⟨[row],[]⟩) :
 az Tryz.prog kZ [.slice .shared 1 (l.map encStr), .gh f [.ptr 0 0]] ⟨[row],[]⟩ (.int .i64 (k6 b 0 l)) ⟨[row],[]⟩:=by
 generalize h:k6 b 0 l=p
 have k1 : ∀ n m,D.gw n m row=row:=fun n m=>ic n m _ uM
 refine az.go tI rfl fun B Q hB hQ=>?_
 have⟨hC,hE,hM,hY⟩:=bC
 repeat' (first
 |simp only[go_sem,hC,hE,hM,hY,k1]
 |(with_reducible first|refine aX fun hc=>?_|refine aY fun hc=>?_|refine aZ (fun hc=>?_) fun hc=>?_)<;>(try simp only[hc,bs,↓reduceIte]at h)<;>try simp only[hc]
 |(with_reducible refine aB hQ ?_;(try cases h);simp only[aQ,aS,bn,bo,go_sem,hC,hE,hM,hY,k1];try exact bR))
 refine eS 1 0 ?_ ?_ (bg.ind (ι:=List aF×Nat) (fun i=>l.drop i.2=i.1∧k6 b (i.2:Int) i.1=p) (fun i=>i.1.length)
  (fun i=> [(0, .slice .shared 1 (l.map encStr)),(1, .gh f [.ptr 0 0]),(7, .int .i64 (l.length:Int)),(8, .int .i64 (i.2:Int))]) (fun i=>⟨[row],[]⟩) ?_ (l,0) ⟨rfl,h⟩)
 ·(simp only[go_sem,hC,hE,hM,hY,k1];try exact cr)
 ·(simp only[go_sem,hC,hE,hM,hY,k1];try exact cr)
 rintro⟨rest,k⟩ ⟨h1,h⟩ IH
 dsimp only at h1 h
 cases rest with
 |nil=>
  have hC:=drop_nil h1
  simp only[k6]at h
  repeat' (first
 |simp only[go_sem,hC,hE,hM,hY,k1]
 |(with_reducible first|refine aX fun hc=>?_|refine aY fun hc=>?_|refine aZ (fun hc=>?_) fun hc=>?_)<;>(try simp only[hc,bs,↓reduceIte]at h)<;>try simp only[hc]
 |(with_reducible refine aB hQ ?_;(try cases h);simp only[aQ,aS,bn,bo,go_sem,hC,hE,hM,hY,k1];try exact bR))
 |cons a rest=>
  obtain⟨hE,g2,hC,g4⟩:=drop_cons h1
  have cj:k<4611686018427387904:=by omega
  have hba:=hb a (List.mem_of_getElem? hE)
  simp only[k6]at h
  repeat' (first
 |simp only[go_sem,hC,hE,hM,hY,k1]
 |(with_reducible refine CV.use (he) (hba) ?_)
 |(with_reducible first|refine aX fun hc=>?_|refine aY fun hc=>?_|refine aZ (fun hc=>?_) fun hc=>?_)<;>(try simp only[hc,bs,↓reduceIte]at h)<;>try simp only[hc]
 |(with_reducible refine aB hQ ?_;(try cases h);simp only[aQ,aS,bn,bo,go_sem,hC,hE,hM,hY,k1];try exact bR))
  refine eS 1 0 ?_ ?_ (IH (rest,k+1) ⟨g2,h⟩ (Nat.lt_succ_self _))
  ·(simp only[go_sem,hC,hE,hM,hY,k1,aL cj];try exact cr)
  ·(simp only[go_sem,hC,hE,hM,hY,k1,aL cj];try exact cr)
theorem BN {P:Program} {g f:Nat} {row:List D} {rows:List (List D)} {z:Nat} {d:D} (h:az P g [.slice .shared z rows, .gh f [.ptr 0 0]] ⟨[row],[]⟩ d ⟨[row],[]⟩) (uM:D.bH 0 0 row=true) (hw:D.gT 0 0 rows=true) (hd:D.ok 0 0 d=true) {s:St} {o:Nat} (ho:s.ah[o]? = some row) :
 az P g [.slice .shared z rows, .gh f [.ptr o 0]] s d s:=by
 refine bP.frame [o] [] h (by simp) List.nodup_nil (by simpa using (List.getElem?_eq_some_iff.1 ho).1) (by simp) rfl (fun i o' ds e1 e2=>?_) rfl (by simp) (by simp[D.eU,D.db,Tag.db,ib _ _ _ hw])
  (by simp[D.bH,D.ok,Tag.ok,lC (Nat.zero_le 1) (Nat.le_refl 0) _ hw]) ?_
 ·cases i with
  |zero=>simp at e1 e2;subst e1;subst e2;exact⟨by rw[e8 _ _ _ uM];exact ho,gE (Nat.zero_le 1) (Nat.le_refl 0) _ uM⟩
  |succ i=>simp at e1
 ·rintro _ _ ⟨rfl,rfl⟩
  refine⟨qK _ _ _ hd, ?_⟩
  have:s.ah.set o row=s.ah:=by
   apply List.ext_getElem?
   intro i
   rw[List.getElem?_set]
   split
   ·rename_i e;subst e;rw [ho];split
    ·rfl
    ·rename_i hh;exact absurd (List.getElem?_eq_some_iff.1 ho).1 hh
   ·rfl
  simp[St.back,kB,e8 _ _ _ uM,this]
theorem yR {l:List aF} (hl:l.length<4611686018427387904) {f:Nat} {row:List D} {b:aF→Bool} (uM:D.bH 0 0 row=true) (he:enters Tryz.prog f=true)
 (hb : ∀ x∈l,az Tryz.prog f ([.str x]++ [.ptr 0 0]) ⟨[row],[]⟩ (.bool (b x)) ⟨[row],[]⟩) :
 az Tryz.prog fZ [.slice .shared 1 (l.map encStr), .gh f [.ptr 0 0]] ⟨[row],[]⟩ (.bool (l.any b)) ⟨[row],[]⟩:=by
 have k1 : ∀ n m,D.gw n m row=row:=fun n m=>ic n m _ uM
 have hi:=BM hl uM he hb
 have e:decide (k6 b 0 l≥0)=l.any b:=by
  have:=Gy b l 0 (Int.le_refl 0)
  cases hh:l.any b<;>simp_all
 refine az.go rV rfl fun B Q hB hQ=>?_
 have⟨hC,hE,hM,hY⟩:=bC
 repeat' (first
 |simp only[go_sem,hC,hE,hM,hY,k1,e]
 |(with_reducible refine CU (hi) ?_)
 |(with_reducible first|refine aX fun hc=>?_|refine aY fun hc=>?_|refine aZ (fun hc=>?_) fun hc=>?_)<;>(try simp only[hc,bs,↓reduceIte]at h)<;>try simp only[hc]
 |(with_reducible refine aB hQ ?_;simp only[aQ,aS,bn,bo,go_sem,hC,hE,hM,hY,k1,e];try exact bR))
theorem yS {l:List aF} (hl:l.length<4611686018427387904) {f:Nat} {row:List D} {b:aF→Bool} (uM:D.bH 0 0 row=true) (he:enters Tryz.prog f=true)
 (hb : ∀ x∈l,az Tryz.prog f ([.str x]++ [.ptr 0 0]) ⟨[row],[]⟩ (.bool (b x)) ⟨[row],[]⟩) {s:St} {o:Nat} (ho:s.ah[o]? = some row) :
 az Tryz.prog fZ [.slice .shared 1 (l.map encStr), .gh f [.ptr o 0]] s (.bool (l.any b)) s:=
 BN (yR hl uM he hb) uM (eB l) rfl ho
theorem vU {l:List Pc} (hl:l.length<4611686018427387904) {f:Nat} {row:List D} {b:Pc→Bool} (uM:D.bH 0 0 row=true) (he:enters Tryz.prog f=true)
 (hb : ∀ x∈l,az Tryz.prog f ([.agg (cH x)]++ [.ptr 0 0]) ⟨[row],[]⟩ (.bool (b x)) ⟨[row],[]⟩) :
 az Tryz.prog gj [.slice .shared 5 (l.map cH), .gh f [.ptr 0 0]] ⟨[row],[]⟩ (.int .i64 (k6 b 0 l)) ⟨[row],[]⟩:=by
 generalize h:k6 b 0 l=p
 have k1 : ∀ n m,D.gw n m row=row:=fun n m=>ic n m _ uM
 refine az.go se rfl fun B Q hB hQ=>?_
 have⟨hC,hE,hM,hY⟩:=bC
 repeat' (first
 |simp only[go_sem,hC,hE,hM,hY,k1]
 |(with_reducible first|refine aX fun hc=>?_|refine aY fun hc=>?_|refine aZ (fun hc=>?_) fun hc=>?_)<;>(try simp only[hc,bs,↓reduceIte]at h)<;>try simp only[hc]
 |(with_reducible refine aB hQ ?_;(try cases h);simp only[aQ,aS,bn,bo,go_sem,hC,hE,hM,hY,k1];try exact bR))
 refine eS 1 0 ?_ ?_ (bg.ind (ι:=List Pc×Nat) (fun i=>l.drop i.2=i.1∧k6 b (i.2:Int) i.1=p) (fun i=>i.1.length)
  (fun i=> [(0, .slice .shared 5 (l.map cH)),(1, .gh f [.ptr 0 0]),(7, .int .i64 (l.length:Int)),(8, .int .i64 (i.2:Int))]) (fun i=>⟨[row],[]⟩) ?_ (l,0) ⟨rfl,h⟩)
 ·(simp only[go_sem,hC,hE,hM,hY,k1];try exact cr)
 ·(simp only[go_sem,hC,hE,hM,hY,k1];try exact cr)
 rintro⟨rest,k⟩ ⟨h1,h⟩ IH
 dsimp only at h1 h
 cases rest with
 |nil=>
  have hC:=drop_nil h1
  simp only[k6]at h
  repeat' (first
 |simp only[go_sem,hC,hE,hM,hY,k1]
 |(with_reducible first|refine aX fun hc=>?_|refine aY fun hc=>?_|refine aZ (fun hc=>?_) fun hc=>?_)<;>(try simp only[hc,bs,↓reduceIte]at h)<;>try simp only[hc]
 |(with_reducible refine aB hQ ?_;(try cases h);simp only[aQ,aS,bn,bo,go_sem,hC,hE,hM,hY,k1];try exact bR))
 |cons a rest=>
  obtain⟨hE,g2,hC,g4⟩:=drop_cons h1
  have cj:k<4611686018427387904:=by omega
  have hba:=hb a (List.mem_of_getElem? hE)
  simp only[k6]at h
  repeat' (first
 |simp only[go_sem,hC,hE,hM,hY,k1]
 |(with_reducible refine CV.use (he) (hba) ?_)
 |(with_reducible first|refine aX fun hc=>?_|refine aY fun hc=>?_|refine aZ (fun hc=>?_) fun hc=>?_)<;>(try simp only[hc,bs,↓reduceIte]at h)<;>try simp only[hc]
 |(with_reducible refine aB hQ ?_;(try cases h);simp only[aQ,aS,bn,bo,go_sem,hC,hE,hM,hY,k1];try exact bR))
  refine eS 1 0 ?_ ?_ (IH (rest,k+1) ⟨g2,h⟩ (Nat.lt_succ_self _))
  ·(simp only[go_sem,hC,hE,hM,hY,k1,aL cj];try exact cr)
  ·(simp only[go_sem,hC,hE,hM,hY,k1,aL cj];try exact cr)
theorem AT {l:List Pc} (hl:l.length<4611686018427387904) {f:Nat} {row:List D} {b:Pc→Bool} (uM:D.bH 0 0 row=true) (he:enters Tryz.prog f=true)
 (hb : ∀ x∈l,az Tryz.prog f ([.agg (cH x)]++ [.ptr 0 0]) ⟨[row],[]⟩ (.bool (b x)) ⟨[row],[]⟩) :
 az Tryz.prog gQ [.slice .shared 5 (l.map cH), .gh f [.ptr 0 0]] ⟨[row],[]⟩ (.bool (l.any b)) ⟨[row],[]⟩:=by
 have k1 : ∀ n m,D.gw n m row=row:=fun n m=>ic n m _ uM
 have hi:=vU hl uM he hb
 have e:decide (k6 b 0 l≥0)=l.any b:=by
  have:=Gy b l 0 (Int.le_refl 0)
  cases hh:l.any b<;>simp_all
 refine az.go qP rfl fun B Q hB hQ=>?_
 have⟨hC,hE,hM,hY⟩:=bC
 repeat' (first
 |simp only[go_sem,hC,hE,hM,hY,k1,e]
 |(with_reducible refine CU (hi) ?_)
 |(with_reducible first|refine aX fun hc=>?_|refine aY fun hc=>?_|refine aZ (fun hc=>?_) fun hc=>?_)<;>(try simp only[hc,bs,↓reduceIte]at h)<;>try simp only[hc]
 |(with_reducible refine aB hQ ?_;simp only[aQ,aS,bn,bo,go_sem,hC,hE,hM,hY,k1,e];try exact bR))
mutual
def Sm.pre:Sm→List Sm
 |⟨id,kind,labels,name,pc,x,has,args,bm,bc⟩=>⟨id,kind,labels,name,pc,x,has,args,bm,bc⟩::(Sm.dm bm++Sm.dm bc)
def Sm.dm:List Sm→List Sm
 | []=> []
 |s::l=>s.pre++Sm.dm l
end
def Pg.pre (p:Pg):List Sm:=(p.procs.map fun f=>Sm.dm f.body).flatten
theorem Sm.qo (s:Sm):s.pre=s::(Sm.dm s.bm++Sm.dm s.bc):=by cases s;simp only[Sm.pre]
mutual
theorem aaQ (proc up next loop:Int) (out:List Im) : ∀ s:Sm,∃ e:List Im,Im.one proc up next loop out s=out++e∧e.map Im.s=s.pre
 |⟨id,kind,labels,name,pc,x,has,args,bm,bc⟩=>by
  simp only[Im.one,Sm.pre]
  obtain⟨e1,h1,k1⟩:=zN proc ((out.length:Int)+1) (if kind==6 then(out.length:Int)+1 else next) (if kind==6 then(out.length:Int)+1 else loop) (out++ [⟨⟨id,kind,labels,name,pc,x,has,args,bm,bc⟩,proc,up,next,loop⟩]) bm
  obtain⟨e2,h2,k2⟩:=zN proc ((out.length:Int)+1) (if kind==6 then(out.length:Int)+1 else next) (if kind==6 then(out.length:Int)+1 else loop) (Im.rows proc ((out.length:Int)+1) (if kind==6 then(out.length:Int)+1 else next) (if kind==6 then(out.length:Int)+1 else loop) (out++ [⟨⟨id,kind,labels,name,pc,x,has,args,bm,bc⟩,proc,up,next,loop⟩]) bm) bc
  refine⟨⟨⟨id,kind,labels,name,pc,x,has,args,bm,bc⟩,proc,up,next,loop⟩::(e1++e2), ?_, ?_⟩
  ·rw[h2,h1];simp
  ·simp[k1,k2]
theorem zN (proc up next loop:Int) (out:List Im) : ∀ l:List Sm,∃ e:List Im,Im.rows proc up next loop out l=out++e∧e.map Im.s=Sm.dm l
 | []=>⟨[],by simp[Im.rows],rfl⟩
 |s::l=>by
  simp only[Im.rows,Sm.dm]
  obtain⟨e1,h1,k1⟩:=aaQ proc up (if l.length=0 then next else(out.length:Int)+1+(s.jA:Int)) loop out s
  obtain⟨e2,h2,k2⟩:=zN proc up next loop (Im.one proc up (if l.length=0 then next else(out.length:Int)+1+(s.jA:Int)) loop out s) l
  refine⟨e1++e2, ?_,by simp[k1,k2]⟩
  rw[h2,h1];simp
end
theorem TE : ∀ (l:List Pc) (n:Nat) (h:Sh),h.lo.length=n→h.hi.length=n→
 ∃ e lo hi,Sh.go n h l = ⟨h.L++e,h.lo++lo,h.hi++hi⟩∧e.map Im.s=(l.map fun f=>Sm.dm f.body).flatten∧lo.length=l.length∧hi.length=l.length∧
  ∀ (i:Nat) (f:Pc),l[i]? = some f→∃ a b e' MW:List Im,lo[i]? = some (((h.L++a).length:Int)+1)∧hi[i]? = some (((h.L++a++b).length:Int)+1)∧b.map Im.s=Sm.dm f.body∧e=a++b++e'
 | [],n,h,hl,hh=>⟨[],[],[],by simp[Sh.go],rfl,rfl,rfl,fun i f h=>by simp at h⟩
 | f::l,n,h,hl,hh=>by
  simp only[Sh.go]
  obtain⟨e1,h1,k1⟩:=zN (n:Int) 0 (-1) 0 h.L f.body
  obtain⟨e2,lo,hi,h2,k2,h3,h4,h5⟩:=TE l (n+1) ⟨Im.rows (n:Int) 0 (-1) 0 h.L f.body,h.lo++ [(h.L.length:Int)+1],h.hi++ [((Im.rows (n:Int) 0 (-1) 0 h.L f.body).length:Int)+1]⟩ (by simp[hl]) (by simp[hh])
  refine⟨e1++e2,((h.L.length:Int)+1)::lo,(((Im.rows (n:Int) 0 (-1) 0 h.L f.body).length:Int)+1)::hi, ?_,by simp[k1,k2],by simp[h3],by simp[h4],fun i g gZ=>?_⟩
  ·rw[h2,h1];simp
  ·cases i with
   |zero=>
    simp only[List.getElem?_cons_zero,Option.some.injEq]at gZ
    subst gZ
    exact⟨[],e1,e2,[],by simp,by rw[h1];simp,k1,by simp⟩
   |succ i=>
    simp only[List.getElem?_cons_succ]at gZ
    obtain⟨a,b,e',MW,g1,g2,g3,g4⟩:=h5 i g gZ
    refine⟨e1++a,b,e',MW, ?_, ?_,g3,by rw[g4];simp⟩
    ·rw[List.getElem?_cons_succ,g1,h1];simp
    ·rw[List.getElem?_cons_succ,g2,h1];simp
theorem nH (p:Pg):p.bh.L.map Im.s=p.pre∧∀ (i:Nat) (f:Pc),p.procs[i]? = some f→∃ a b e:List Im,p.bh.lo[i]? = some ((a.length:Int)+1)∧p.bh.hi[i]? = some (((a++b).length:Int)+1)∧b.map Im.s=Sm.dm f.body∧p.bh.L=a++b++e:=by
 obtain⟨e,lo,hi,h1,h2,h3,h4,h5⟩:=TE p.procs 0 ⟨[],[],[]⟩ rfl rfl
 unfold Pg.bh
 rw[h1]
 refine⟨by simpa[Pg.pre]using h2,fun i f hf=>?_⟩
 obtain⟨a,b,e',_,g1,g2,g3,g4⟩:=h5 i f hf
 exact⟨a,b,e',by simpa using g1,by simpa using g2,g3,by simpa using g4⟩
def Pg.at (p:Pg) (name:aF):Int:=k6 (fun f:Pc=>f.name==name) 0 p.procs
theorem aaR (name:aF) (f:Pc):az Tryz.prog lH ([.agg (cH f)]++ [.ptr 0 0]) ⟨[[.str name]],[]⟩ (.bool (f.name==name)) ⟨[[.str name]],[]⟩:=by
 show az Tryz.prog lH [.agg (cH f), .ptr 0 0] _ _ _
 refine az.go yI rfl fun B Q hB hQ=>?_
 have⟨hC,hE,hM,hY⟩:=bC
 repeat' (first
 |simp only[go_sem,hC,hE,hM,hY]
 |(with_reducible refine aB hQ ?_;exact bd))
theorem Fb {p:Pg} (hs:p.procs.length<4611686018427387904) (name:aF) (s:St):az Tryz.prog iE [.dL (fw p) 0, .str name] s (.int .i64 (p.at name)) s:=by
 refine az.pure ?_ (by simp[D.bH,D.ok,uw]) rfl s
 have hi:=fun {s:St} {o:Nat} (ho:s.ah[o]? = some [.str name])=>BN (vU (l:=p.procs) (f:=lH) (row:= [.str name]) (b:=fun f:Pc=>f.name==name) hs rfl (by with_unfolding_all rfl) (fun x _=>aaR name x)) rfl (wK _) rfl ho
 have gZ:=fun {s:St} {o:Nat} (ho:s.ah[o]? = some [.str name])=>(show az Tryz.prog gj [.slice .shared 5 (p.procs.map cH), .gh 93 [.ptr o 0]] s (.int .i64 (p.at name)) s from hi ho)
 unfold S0
 rw[nY]
 refine az.go AQ rfl fun B Q hB hQ=>?_
 have⟨hC,hE,hM,hY⟩:=bC
 repeat' (first
 |simp only[go_sem,hC,hE,hM,hY]
 |(with_reducible refine CU (gZ (by with_unfolding_all rfl)) ?_)
 |(with_reducible refine aB hQ ?_;exact bd))
theorem TF : ∀ (l:List Pc) (n:Nat) (h:Sh),(Sh.go n h l).L.length≤h.L.length+Pc.br l
 | [],n,h=>by simp[Sh.go]
 |f::l,n,h=>by
  simp only[Sh.go]
  refine Nat.le_trans (TF l _ _) ?_
  have:=gG (n:Int) 0 (-1) 0 h.L f.body
  have:=nG f.body
  simp only[Pc.br,Pc.size];omega
theorem px (p:Pg):p.bh.L.length≤Pc.br p.procs:=by have:=TF p.procs 0 ⟨[],[],[]⟩;simpa[Pg.bh]using this
theorem aeF {p:Pg} {i:Nat} (hs:Pc.br p.procs<1000000000) {a b e:List Im} (h1:p.bh.lo[i]? = some ((a.length:Int)+1)) (h2:p.bh.hi[i]? = some (((a++b).length:Int)+1)) (h4:p.bh.L=a++b++e) (s:St) :
 az Tryz.prog gP [.dL (fw p) 0, .int .i64 (i:Int)] s (.slice .shared 17 (b.map dK)) s:=by
 refine az.pure ?_ (by simp[D.bH,D.ok,uw]) (by simp[D.ok,Tag.ok,Jk]) s
 have hL:p.bh.L.length<1000000000:=Nat.lt_of_le_of_lt (px p) hs
 have l1:(i:Int)<(p.bh.lo.length:Int):=by have:=(List.getElem?_eq_some_iff.1 h1).1;omega
 have l2:(i:Int)<(p.bh.hi.length:Int):=by have:=(List.getElem?_eq_some_iff.1 h2).1;omega
 have Zn:a.length+b.length≤p.bh.L.length:=by rw[h4];simp
 have w1:IntKind.wrap .i64 ((a.length:Int)+1 - 1)=(a.length:Int):=by rw[show(a.length:Int)+1 - 1=(a.length:Int) by omega];exact dP (by omega) (by omega)
 have w2:IntKind.wrap .i64 (((a.length+b.length:Nat):Int)+1 - 1)=((a.length+b.length:Nat):Int):=by rw[show((a.length+b.length:Nat):Int)+1 - 1=((a.length+b.length:Nat):Int) by omega];exact dP (by omega) (by omega)
 have c1:((a.length:Int)≤((a.length+b.length:Nat):Int))=True:=by simp only[eq_iff_iff,iff_true];omega
 have c2:(((a.length+b.length:Nat):Int)≤(p.bh.L.length:Int))=True:=by simp only[eq_iff_iff,iff_true];omega
 have hb:List.drop a.length (List.take (a.length+b.length) (List.map dK p.bh.L))=List.map dK b:=by rw[h4];simp[List.map_append,List.take_append,List.drop_append]
 unfold S0
 rw[nY]
 refine az.go C9 rfl fun B Q hB hQ=>?_
 have⟨hC,hE,hM,hY⟩:=bC
 repeat' (first
 |simp only[go_sem,hC,hE,hM,hY,h1,h2,List.length_append,w1,w2,c1,c2,or_true,true_and,and_self,ite_self,Int.toNat_natCast,hb]
 |(with_reducible first|refine aX fun hc=>?_|refine aY fun hc=>?_|refine aZ (fun hc=>?_) fun hc=>?_)<;>(try simp only[hc,bs,↓reduceIte]at h)<;>try simp only[hc]
 |(with_reducible refine aB hQ ?_;(try cases h);simp only[aQ,aS,bn,bo,go_sem,hC,hE,hM,hY,h1,h2,List.length_append,w1,w2,c1,c2,or_true,true_and,and_self,ite_self,Int.toNat_natCast,hb];try exact bR)
 |(cases h;done))
theorem WQ {p:Pg} {i:Nat} {f:Pc} (hf:p.procs[i]? = some f) (hs:Pc.br p.procs<1000000000) : ∃ it:List Im,it.map Im.s=Sm.dm f.body∧∀ s,az Tryz.prog gP [.dL (fw p) 0, .int .i64 (i:Int)] s (.slice .shared 17 (it.map dK)) s:=by
 obtain⟨a,b,e,h1,h2,h3,h4⟩:=(nH p).2 i f hf
 exact⟨b,h3,aeF hs h1 h2 h4⟩
end Go.Abs
