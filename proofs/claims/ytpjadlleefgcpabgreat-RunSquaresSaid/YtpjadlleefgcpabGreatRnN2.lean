/-
  What is proved here: part 2 of the road to the claim (Codes2, Have2, Codes3, Codes4, Have4, Codes5, Have5, Codes6, Have6, Have3, Frz, MirLex, MirMay, Prs, Lex1, Lex2, RefLex1, Prs2, Ref1, Ref2, Ref3, RefMay1, RefMay2, Flat1, Flat2, Flat3, Sl1, MirFlat2, Sl2).
  No conditions.
-/
import Derived.Test.YtpjadlleefgcpabGreatRnN1
import Derived.Test.YtpjadlleefgcpabGreatProg
import Derived.KernelRfl

set_option linter.unusedSimpArgs false
set_option linter.unusedVariables false
namespace Go.Abs
abbrev QKQ:AC:= .seq (.run [.m 3 aJ,(.o 4 (.build [(.int .i64 0),(.int .i64 0),(.str []),(.slice .full 0 [])] [(0,(1,(.k (.int .i64 1)))),(1,(1,bO))])), .op none none (.store cZ dw 4)]) .ret
abbrev QKR:AC:= .seq (.run [.o 2 (.alloc [(.int .i64 0),(.int .i64 0),(.str []),(.slice .full 0 [])])]) QKQ
abbrev QKU:AC:= .seq (.run [.m 3 aJ,(.o 4 (.build [(.int .i64 0),(.int .i64 0),(.str []),(.slice .full 0 [])] [(0,(1,(.k (.int .i64 2)))),(2,(1,bO))])), .op none none (.store cZ dw 4)]) .ret
abbrev QKV:AC:= .seq (.run [.o 2 (.alloc [(.int .i64 0),(.int .i64 0),(.str []),(.slice .full 0 [])])]) QKU
abbrev QKZ:AC:= .seq (.run [.o 4 (.box a7), .o 5 (.box cZ), .o 6 (.alloc [(.int .i64 0),(.int .i64 0),(.str []),(.slice .full 0 [])])]) (.seq (.run [.m 7 aJ, .o 8 (.load dw true 4), .o 9 (.load bk true 4), .o 10 (.cD [(.int .i64 0),(.int .i64 0),(.str []),(.slice .full 0 [])] 4 2 [(0,bS),(1,cu)]), .o 11 (.build [(.int .i64 0),(.int .i64 0),(.str []),(.slice .full 0 [])] [(0,(1,bT)),(3,(1,bD))]), .op none none (.store bX bU 4)]) .ret)
abbrev QL3:AC:= .seq (.run [(.o 16 (.build [(.int .i64 0),(.int .i64 0)] [(0,(1,(.k (.int .i64 1))))])), .op none none (.store cZ cq 2)]) .ret
abbrev QLF:AC:= .seq (.block 1 (.seq (.run [.o 22 (.cr cT dt 5), .o 23 (.load dI true 5), .o 5 (.alloc [(.str []),(.slice .full 0 []),(.slice .full 0 []),(.slice .full 0 []),(.slice .full 0 [])]), .op none none (.store bk dJ 5)]) (.run [.m 24 bO, .o 25 (.aj bk 0), .o 26 (.load di false 1), .o 27 (.cD [(.str [])] 1 1 [(0,dX)]), .o 28 (.app 1 16 df dY), .m 3 eP]))) (.run [.o 29 (.bin .add dt (.k (.int .i64 1))), .m 20 eK])
abbrev QLJ:AC:= .block 0 (.loop (.seq (.run [.o 21 (.bin .lss dt dh)]) (.seq (.cond dB .skip (.exit 0)) QLF)))
abbrev QLO:AC:= .seq (.run [(.o 53 (.build [(.int .i64 0),(.int .i64 0)] [(0,(1,(.k (.int .i64 5))))])), .op none none (.store cZ jf 2)]) .ret
abbrev QLZ:AC:= .seq (.run [(.o 73 (.build [(.int .i64 0),(.int .i64 0)] [(0,(1,(.k (.int .i64 5))))])), .op none none (.store cZ vL 2)]) .ret
abbrev QM8:AC:= .seq (.run [.o 89 (.aj bZ 0), .o 90 (.aj zC 0), .o 91 (.load BG false 1),(.o 92 (.build [(.int .i64 0),(.int .i64 0)] [(0,(1,(.k (.int .i64 5)))),(1,(1,D1))])), .op none none (.store cZ Gg 2)]) .ret
abbrev QME:AC:= .seq (.block 5 (.seq (.run [.o 80 (.cr vM vN 17), .o 81 (.load BE true 17), .o 12 (.alloc [(.int .i64 0),(.int .i64 0),(.slice .full 0 []),(.str []),(.str []),(.int .i64 0),(.int .i64 0),(.str []),(.slice .full 0 []),(.bool false),(.slice .full 0 []),(.slice .full 0 []),(.slice .full 0 []),(.int .i64 0),(.int .i64 0),(.int .i64 0),(.int .i64 0)]), .op none none (.store bZ BF 17)]) (.seq (.run [.o 82 (.load a7 true 2), .o 83 (.load cu true 5), .m 84 bO, .o 85 (.aj bZ 0), .o 86 (.load DX true 13), .c 87 qB [DU,DV,DW,DY], .o 88 (.un .not DZ)]) (.cond D0 QM8 .skip)))) (.run [.o 93 (.bin .add vN (.k (.int .i64 1))), .m 78 KD])
abbrev QMI:AC:= .block 4 (.loop (.seq (.run [.o 79 (.bin .lss vN xG)]) (.seq (.cond BD .skip (.exit 4)) QME)))
abbrev QMK:AC:= .seq (.seq (.run [.m 66 bD, .c 67 oa [sD], .m 68 sE, .g 69 68 false (.mv bD), .g 70 68 false (.uQ 118 [a7]), .d 71 68 false fZ [ur,sF], .o 72 (.pick rS (.k (.bool true)) xD)]) (.cond vK QLZ .skip)) (.seq (.run [.m 74 bT, .m 75 bS, .c 76 gQ [xE,xF], .o 77 (.len vM), .o 78 (.mv (.k (.int .i64 0)))]) QMI)
abbrev QMP:AC:= .seq (.block 3 (.seq (.run [.m 61 kF, .o 62 (.cr lO kF 5), .o 63 (.load oB true 5), .o 9 (.alloc [(.str []),(.slice .full 0 []),(.slice .full 0 []),(.slice .full 0 []),(.slice .full 0 [])]), .m 8 oA, .op none none (.store cu oD 5)]) (.seq (.run [.o 64 (.load cu true 5), .c 65 s5 [p8], .m 10 rR]) QMK))) (.run [.o 94 (.bin .add kF (.k (.int .i64 1))), .m 59 KE])
abbrev QMT:AC:= .block 2 (.loop (.seq (.run [.o 60 (.bin .lss kF lF)]) (.seq (.cond nn .skip (.exit 2)) QMP)))
abbrev QMX:AC:= .seq (.seq (.run [.o 56 (.aj a7 1), .o 57 (.load k5 false 1), .o 58 (.len lO), .o 59 (.mv (.k (.int .i64 0)))]) QMT) (.seq (.run [.o 95 (.build [(.int .i64 0),(.int .i64 0)] []), .op none none (.store cZ KF 2)]) .ret)
abbrev QMZ:AC:= .seq (.seq (.run [.o 32 (.aj a7 0), .o 33 (.load fa false 1), .c 34 oa [eZ], .m 35 fj, .g 36 35 false (.mv bO), .d 37 35 false oa [fk], .o 38 (.pick fb (.k (.bool true)) fF), .m 39 fQ, .g 40 39 false (.mv bX), .g 41 39 false (.bin .lss gh (.k (.int .i64 0))), .o 42 (.pick fR (.k (.bool true)) ga), .m 43 gU, .g 44 43 false (.aj a7 1), .g 45 43 false (.load iF false 1), .g 46 43 false (.mv bX), .g 47 43 false (.cr jb jc 5), .g 48 43 false (.aj jF 1), .g 49 43 false (.load iA false 1), .g 50 43 false (.len iO), .g 51 43 false (.bin .gtr jG (.k (.int .i64 0))), .o 52 (.pick gV (.k (.bool true)) jd)]) (.cond je QLO .skip)) (.seq (.run [.o 54 (.load a7 true 2), .c 55 kY [jH], .m 7 jI]) QMX)
abbrev QN1:AC:= .seq (.seq (.run [.o 17 (.aj a7 1), .o 18 (.load cU false 1), .o 19 (.len cT), .o 20 (.mv (.k (.int .i64 0)))]) QLJ) (.seq (.run [.m 30 bO,(.c 31 fY [eU,(.k (.str [109,97,105,110]))]), .m 6 eV]) QMZ)
abbrev QN3:AC:= .seq (.seq (.run [.o 13 (.load a7 true 2), .c 14 rI [bV], .o 15 (.un .not bK)]) (.cond cv QL3 .skip)) (.seq (.run [.o 3 (.mv (.k (.slice .full 0 [])))]) QN1)
abbrev QN4:AC:= .seq (.run [.o 1 (.box aJ), .o 2 (.alloc [(.int .i64 0),(.int .i64 0)])]) QN3
abbrev QN8:AC:= .seq (.run [(.o 9 (.build [(.int .i64 0),(.int .i64 0)] [(0,(1,(.k (.int .i64 1))))])), .op none none (.store cZ cu 2)]) .ret
abbrev QNH:AC:= .seq (.run [.o 31 (.aj dw 0), .o 32 (.aj eV 0), .o 33 (.load fa false 1),(.o 34 (.build [(.int .i64 0),(.int .i64 0)] [(0,(1,(.k (.int .i64 6)))),(1,(1,eZ))])), .op none none (.store cZ fj 2)]) .ret
abbrev QNK:AC:= .seq (.run [.o 18 (.cr bK cq 17), .o 19 (.load cT true 17), .o 4 (.alloc [(.int .i64 0),(.int .i64 0),(.slice .full 0 []),(.str []),(.str []),(.int .i64 0),(.int .i64 0),(.str []),(.slice .full 0 []),(.bool false),(.slice .full 0 []),(.slice .full 0 []),(.slice .full 0 []),(.int .i64 0),(.int .i64 0),(.int .i64 0),(.int .i64 0)]), .op none none (.store dw dh 17)]) (.seq (.run [.o 20 (.aj dw 0), .o 21 (.aj dt 1), .o 22 (.load dB false 1), .o 23 (.bin .eql dI (.k (.int .i64 4))), .m 24 dJ, .g 25 24 true (.load a7 true 2), .g 26 24 true (.aj dw 0), .g 27 24 true (.load dX true 13), .d 28 24 true vC [di,dY], .g 29 24 true (.un .not eP), .o 30 (.pick df eK (.k (.bool false)))]) (.cond eU QNH .skip))
abbrev QNO:AC:= .seq (.cond cU .skip (.exit 0)) (.seq (.block 1 QNK) (.run [.o 35 (.bin .add cq (.k (.int .i64 1))), .m 16 fb]))
abbrev QNS:AC:= .seq (.run [.o 10 (.load a7 true 2), .c 11 kY [bD], .o 12 (.bq bU), .o 13 (.aj bZ 2), .o 14 (.load bV false 1), .o 15 (.len bK), .o 16 (.mv (.k (.int .i64 0)))]) (.block 0 (.loop (.seq (.run [.o 17 (.bin .lss cq cv)]) QNO)))
abbrev QNW:AC:= .seq (.seq (.run [.o 5 (.load a7 true 2), .c 6 lS [bk], .o 7 (.uC bX 0 false 1), .o 8 (.bin .neq bT (.k (.int .i64 0)))]) (.cond bS QN8 .skip)) (.seq QNS (.seq (.run [.o 36 (.build [(.int .i64 0),(.int .i64 0)] []), .op none none (.store cZ fk 2)]) .ret))
abbrev QNX:AC:= .seq (.run [.o 1 (.box aJ), .o 2 (.alloc [(.int .i64 0),(.int .i64 0)])]) QNW
abbrev QO2:AC:= .seq (.run [(.o 14 (.build [(.int .i64 0),(.int .i64 0)] [(0,(1,(.k (.int .i64 1))))])), .op none none (.store cZ bK 2)]) .ret
abbrev QOI:AC:= .seq (.run [.o 47 (.aj cu 0), .o 48 (.aj jF 0), .o 49 (.load iA false 1),(.o 50 (.build [(.int .i64 0),(.int .i64 0)] [(0,(1,(.k (.int .i64 7)))),(1,(1,iO))])), .op none none (.store cZ jG 2)]) .ret
abbrev QOL:AC:= .seq (.run [.m 32 bX, .o 33 (.aj cu 0), .o 34 (.aj eZ 2), .o 35 (.load fj false 1), .c 36 qj [fa,fb], .m 31 fk, .o 37 (.ext eV 0), .o 38 (.ext eV 1), .m 6 fF, .m 7 fQ]) (.seq (.run [.m 39 bT, .o 40 (.un .not fR), .m 41 gh, .g 42 41 false (.mv bO), .g 43 41 false (.load cu true 17), .d 44 41 false vD [gU,gV], .g 45 41 false (.un .not iF), .o 46 (.pick ga (.k (.bool true)) jb)]) (.cond jc QOI .skip))
abbrev QOP:AC:= .seq (.block 3 (.seq (.run [.o 29 (.cr di dY 17), .o 30 (.load eK true 17), .o 9 (.alloc [(.int .i64 0),(.int .i64 0),(.slice .full 0 []),(.str []),(.str []),(.int .i64 0),(.int .i64 0),(.str []),(.slice .full 0 []),(.bool false),(.slice .full 0 []),(.slice .full 0 []),(.slice .full 0 []),(.int .i64 0),(.int .i64 0),(.int .i64 0),(.int .i64 0)]), .op none none (.store cu eU 17)]) QOL)) (.run [.o 51 (.bin .add dY (.k (.int .i64 1))), .m 27 jd])
abbrev QOT:AC:= .block 2 (.loop (.seq (.run [.o 28 (.bin .lss dY dX)]) (.seq (.cond eP .skip (.exit 2)) QOP)))
abbrev QOY:AC:= .seq (.run [(.o 61 (.build [(.int .i64 0),(.int .i64 0)] [(0,(1,(.k (.int .i64 7))))])), .op none none (.store cZ oA 2)]) .ret
abbrev QP2:AC:= .seq (.seq (.run [.m 23 bO, .m 24 dw, .c 25 gQ [dJ,df], .o 26 (.len di), .o 27 (.mv (.k (.int .i64 0)))]) QOT) (.seq (.run [.m 53 bX, .o 54 (.aj bk 4), .o 55 (.load jH false 1), .c 56 qj [jf,jI], .m 52 k5, .o 57 (.ext je 0), .o 58 (.ext je 1), .m 7 lF]) (.seq (.run [.m 59 bT, .o 60 (.un .not kF)]) (.cond nn QOY .skip)))
abbrev QP4:AC:= .seq (.run [.o 6 (.mv (.k (.slice .full 0 [])))]) (.seq (.run [.o 7 (.mv (.k (.bool true)))]) QP2)
abbrev QP8:AC:= .seq (.block 1 (.seq (.run [.m 20 cT, .o 21 (.cr cq cT 5), .o 22 (.load dB true 5), .o 5 (.alloc [(.str []),(.slice .full 0 []),(.slice .full 0 []),(.slice .full 0 []),(.slice .full 0 [])]), .m 4 dt, .op none none (.store bk dI 5)]) QP4)) (.run [.o 62 (.bin .add cT (.k (.int .i64 1))), .m 18 oB])
abbrev QPC:AC:= .block 0 (.loop (.seq (.run [.o 19 (.bin .lss cT cU)]) (.seq (.cond dh .skip (.exit 0)) QP8)))
abbrev QPG:AC:= .seq (.seq (.run [.o 15 (.aj a7 1), .o 16 (.load cv false 1), .o 17 (.len cq), .o 18 (.mv (.k (.int .i64 0)))]) QPC) (.seq (.run [.o 63 (.build [(.int .i64 0),(.int .i64 0)] []), .op none none (.store cZ oD 2)]) .ret)
abbrev QPI:AC:= .seq (.run [.o 10 (.load a7 true 2), .c 11 rL [bD], .m 3 bU]) (.seq (.seq (.run [.m 12 bO, .o 13 (.G5 false bZ (.k .ek))]) (.cond bV QO2 .skip)) QPG)
abbrev QPJ:AC:= .seq (.run [.o 1 (.box aJ), .o 2 (.alloc [(.int .i64 0),(.int .i64 0)])]) QPI
abbrev QPN:AC:= .seq (.run [(.o 12 (.build [(.int .i64 0),(.int .i64 0)] [(0,(1,(.k (.int .i64 1))))])), .op none none (.store cZ bZ 2)]) .ret
abbrev QPV:AC:= .par [.m 21 bO, .o 22 (.aj bk 0), .o 23 (.load dI false 1), .o 24 (.load a7 true 2), .o 25 (.aj bk 0), .o 26 (.load di false 1), .c 27 rM [df,dX], .op none none (.zb dB dJ dY)] [(3,0),(4,0),(5,0),(6,0),(0,0),(1,0),(2,1),(7,0)]
abbrev QPZ:AC:= .seq (.block 1 (.seq (.run [.o 19 (.cr cv cU 5), .o 20 (.load dh true 5), .o 5 (.alloc [(.str []),(.slice .full 0 []),(.slice .full 0 []),(.slice .full 0 []),(.slice .full 0 [])]), .op none none (.store bk dt 5)]) QPV)) (.run [.o 28 (.bin .add cU (.k (.int .i64 1))), .m 17 eP])
abbrev QQ3:AC:= .block 0 (.loop (.seq (.run [.o 18 (.bin .lss cU cq)]) (.seq (.cond cT .skip (.exit 0)) QPZ)))
abbrev QQB:AC:= .seq (.run [.o 54 (.aj bT 0), .o 55 (.aj jH 0), .o 56 (.load jI false 1),(.o 57 (.build [(.int .i64 0),(.int .i64 0)] [(0,(1,(.k (.int .i64 8)))),(1,(1,k5))])), .op none none (.store cZ lO 2)]) .ret
abbrev QQE:AC:= .seq (.run [.o 37 (.cr eZ fb 17), .o 38 (.load fF true 17), .o 7 (.alloc [(.int .i64 0),(.int .i64 0),(.slice .full 0 []),(.str []),(.str []),(.int .i64 0),(.int .i64 0),(.str []),(.slice .full 0 []),(.bool false),(.slice .full 0 []),(.slice .full 0 []),(.slice .full 0 []),(.int .i64 0),(.int .i64 0),(.int .i64 0),(.int .i64 0)]), .op none none (.store bT fQ 17)]) (.seq (.run [.o 39 (.aj bT 0), .o 40 (.aj fR 1), .o 41 (.load gh false 1), .o 42 (.bin .eql ga (.k (.int .i64 4))), .m 43 gU, .g 44 43 true (.aj bT 0), .g 45 43 true (.load iF true 13), .g 46 43 true (.mv bO), .g 47 43 true (.aj bT 0), .g 48 43 true (.aj jF 4), .g 49 43 true (.load iA false 1), .g 50 43 true (.wx jc iO (.slice .full 0 [])), .d 51 43 true sA [jb,jG], .g 52 43 true (.un .not jd), .o 53 (.pick gV je (.k (.bool false)))]) (.cond jf QQB .skip))
abbrev QQI:AC:= .seq (.cond fk .skip (.exit 2)) (.seq (.block 3 QQE) (.run [.o 58 (.bin .add fb (.k (.int .i64 1))), .m 35 lF]))
abbrev QQM:AC:= .seq (.run [.o 29 (.load a7 true 2), .c 30 kY [eK], .o 31 (.bq eU), .o 32 (.aj eV 2), .o 33 (.load fa false 1), .o 34 (.len eZ), .o 35 (.mv (.k (.int .i64 0)))]) (.block 2 (.loop (.seq (.run [.o 36 (.bin .lss fb fj)]) QQI)))
abbrev QQQ:AC:= .seq (.seq (.run [.o 14 (.aj a7 1), .o 15 (.load bK false 1), .o 16 (.len cv), .o 17 (.mv (.k (.int .i64 0)))]) QQ3) (.seq QQM (.seq (.run [.o 59 (.build [(.int .i64 0),(.int .i64 0)] []), .op none none (.store cZ kF 2)]) .ret))
abbrev QQS:AC:= .seq (.seq (.run [.o 8 (.load a7 true 2), .c 9 qA [bS], .o 10 (.uC cu 0 false 1), .o 11 (.bin .neq bD (.k (.int .i64 0)))]) (.cond bU QPN .skip)) (.seq (.run [.op (some 13) none .uR, .m 3 bV]) QQQ)
abbrev QQT:AC:= .seq (.run [.o 1 (.box aJ), .o 2 (.alloc [(.int .i64 0),(.int .i64 0)])]) QQS
abbrev QR2:AC:= .cond bV (.seq (.run [.o 2 (.mv (.k (.bool false)))]) .ret) .skip
abbrev QR7:AC:= .seq (.block 1 (.seq (.run [.o 9 (.cr bk bT 1), .o 10 (.load cu false 1), .m 4 bD]) (.seq (.run [.m 11 dw, .c 12 nS [bU], .o 13 (.un .not bZ)]) QR2))) (.run [.o 14 (.bin .add bT (.k (.int .i64 1))), .m 7 bK])
abbrev QRB:AC:= .block 0 (.loop (.seq (.run [.o 8 (.bin .lss bT bX)]) (.seq (.cond bS .skip (.exit 0)) QR7)))
abbrev QRF:AC:= .seq (.seq (.run [.m 5 aJ, .o 6 (.len bk), .o 7 (.mv (.k (.int .i64 0)))]) QRB) (.seq (.run [.o 2 (.mv (.k (.bool true)))]) .ret)
abbrev QRG:AC:= .seq (.run [.o 2 (.mv (.k (.bool false)))]) QRF
abbrev QRL:AC:= .cond cq (.seq (.run [.o 2 (.mv (.k (.bool false)))]) .ret) .skip
abbrev QRP:AC:= .seq (.seq (.run [.m 3 aJ, .o 4 (.nK bO), .o 5 (.bin .lss dw (.k (.int .i64 1))), .m 6 bk, .g 7 6 false (.mv aJ), .g 8 6 false (.nK bT), .g 9 6 false (.bin .gtr bS (.k (.int .i64 8))), .o 10 (.pick bX (.k (.bool true)) cu), .m 11 bD, .g 12 11 false (.mv aJ), .g 13 11 false (.oU bZ (.k (.int .i64 0))), .d 14 11 false pf [bV], .g 15 11 false (.un .not bK), .o 16 (.pick bU (.k (.bool true)) cv)]) QRL) (.seq (.run [.m 17 aJ, .c 18 wM [cU,(.k (.int .i64 0))], .m 19 aJ, .o 20 (.nK dh), .o 21 (.bin .eql cT dt), .m 22 dB, .g 23 22 true (.mv aJ), .d 24 22 true uW [dJ], .g 25 22 true (.un .not df), .o 26 (.pick dI di (.k (.bool false))), .m 2 dX]) .ret)
abbrev QRQ:AC:= .seq (.run [.o 2 (.mv (.k (.bool false)))]) QRP
abbrev QRV:AC:= .cond cv (.seq (.run [.o 6 (.mv (.k (.bool false)))]) .ret) .skip
abbrev QS2:AC:= .par [.m 29 aJ, .o 30 (.bq eK), .o 31 (.aj eU 0), .o 32 (.load eV false 1), .o 33 (.bin .gtr fa (.k (.int .i64 200))), .m 34 eZ, .g 35 34 false (.aj bS 0), .g 36 34 false (.load fb false 1), .g 37 34 false (.mv aJ), .g 38 34 false (.bq fF), .g 39 34 false (.aj fQ 0), .g 40 34 false (.load fR false 1), .g 41 34 false (.bin .neq fk gh), .o 42 (.pick fj (.k (.bool true)) ga), .m 43 gU, .g 44 43 false (.aj bS 2), .g 45 43 false (.load iF false 1), .d 46 43 false nc [jb], .g 47 43 false (.un .not jc), .o 48 (.pick gV (.k (.bool true)) jF), .m 49 iA, .g 50 49 false (.load bS true 13), .d 51 49 false ui [jG], .g 52 49 false (.un .not jd), .o 53 (.pick iO (.k (.bool true)) je)] [(0,0),(1,0),(2,0),(3,0),(4,0),(5,0),(6,0),(7,0),(8,0),(9,0),(10,0),(11,0),(12,0),(13,0),(14,0),(15,0),(16,0),(17,0),(18,0),(19,0),(20,0),(21,0),(22,0),(23,0),(24,0)]
abbrev QS5:AC:= .cond jf (.seq (.run [.o 6 (.mv (.k (.bool false)))]) .ret) .skip
abbrev QSA:AC:= .cond ur (.seq (.run [.o 6 (.mv (.k (.bool false)))]) .ret) .skip
abbrev QSC:AC:= .seq (.seq QS2 QS5) (.seq (.run [.m 54 aJ, .o 55 (.aj bS 11), .o 56 (.load jI false 1), .m 57 cZ, .o 58 (.bin .add lO (.k (.int .i64 1))), .c 59 kD [jH,k5,lF], .o 60 (.un .not kF), .m 61 nn, .g 62 61 false (.mv aJ), .g 63 61 false (.aj bS 12), .g 64 61 false (.load oD false 1), .g 65 61 false (.mv cZ), .g 66 61 false (.bin .add rR (.k (.int .i64 1))), .d 67 61 false kD [oB,p8,sD], .g 68 61 false (.un .not sE), .o 69 (.pick oA (.k (.bool true)) rS)]) QSA)
abbrev QSE:AC:= .seq (.run [.o 20 (.cr cq cT 13), .o 21 (.load dt true 13), .o 8 (.alloc [(.int .i64 0),(.int .i64 0),(.slice .full 0 []),(.str []),(.str []),(.int .i64 0),(.int .i64 0),(.str []),(.slice .full 0 []),(.bool false),(.slice .full 0 []),(.slice .full 0 []),(.slice .full 0 [])]), .op none none (.store bS dB 13)]) (.seq (.run [.m 22 aJ, .o 23 (.bq dI), .o 24 (.aj dJ 0), .o 25 (.load df false 1), .o 26 (.bin .add di (.k (.int .i64 1))), .o 27 (.bq dI), .o 28 (.aj dY 0), .op none none (.store eP dX 1)]) QSC)
abbrev QSI:AC:= .seq (.cond dh .skip (.exit 0)) (.seq (.block 1 QSE) (.run [.o 70 (.bin .add cT (.k (.int .i64 1))), .m 18 sF]))
abbrev QSM:AC:= .seq (.run [.m 16 a7, .o 17 (.len cq), .o 18 (.mv (.k (.int .i64 0)))]) (.block 0 (.loop (.seq (.run [.o 19 (.bin .lss cT cU)]) QSI)))
abbrev QSP:AC:= .seq QSM (.seq (.run [.o 6 (.mv (.k (.bool true)))]) .ret)
abbrev QSQ:AC:= .seq (.seq (.run [.m 9 cZ, .o 10 (.bin .gtr cu (.k (.int .i64 12))), .m 11 bD, .g 12 11 true (.mv a7), .g 13 11 true (.len bZ), .g 14 11 true (.bin .gtr bV (.k (.int .i64 0))), .o 15 (.pick bU bK (.k (.bool false)))]) QRV) QSP
abbrev QSR:AC:= .seq (.run [.o 6 (.mv (.k (.bool false)))]) QSQ
abbrev QSW:AC:= .cond dw (.seq (.run [.o 2 (.mv (.k (.slice .full 0 [])))]) .ret) .skip
abbrev QT1:AC:= .seq (.run [.o 2 (.mv (.k (.slice .full 0 [])))]) (.seq (.seq (.run [.m 3 aJ, .nil (some 4) none false bO]) QSW) (.seq (.run [.o 5 (.cD [(.str []),(.bool false)] 2 0 []), .m 6 aJ, .o 7 (.app 2 24 bk bX), .m 2 bT]) .ret))
abbrev QTE:AC:= .par [.o 26 (.aj bD 2), .o 27 (.load dX false 1), .c 28 fe [dY], .o 29 (.aj bD 5), .o 30 (.load eK true 4), .c 31 my [eU], .o 32 (.aj bU 2), .op none none (.store fa eP 1), .o 33 (.aj bU 5), .op none none (.store eZ eV 4), .o 34 (.aj bU 10), .op none none (.store fj (.k (.slice .full 0 [])) 1)] [(0,0),(1,0),(2,0),(3,0),(4,1),(5,0),(6,0),(7,0),(8,0),(9,0),(10,0),(11,0)]
abbrev QTN:AC:= .block 3 (.seq (.run [.o 40 (.cr fk fQ 6), .o 41 (.load gh true 6), .o 13 (.alloc [(.bool false),(.str []),(.int .i64 0),(.int .i64 0),(.str []),(.slice .full 0 [])]), .op none none (.store bV ga 6)]) (.seq (.run [.o 42 (.aj bV 2), .o 43 (.load gU true 4), .c 44 my [gV], .o 45 (.aj bV 2), .op none none (.store jb iF 4)]) (.run [.o 46 (.aj bU 10), .o 47 (.load jc false 1), .o 48 (.load bV true 6), .o 49 (.cD [(.bool false),(.str []),(.int .i64 0),(.int .i64 0),(.str []),(.slice .full 0 [])] 6 1 [(0,iA)]), .o 50 (.app 6 80 jF iO), .o 51 (.aj bU 10), .op none none (.store jd jG 1)])))
abbrev QTQ:AC:= .seq (.cond fR .skip (.exit 2)) (.seq QTN (.run [.o 52 (.bin .add fQ (.k (.int .i64 1))), .m 38 je]))
abbrev QTU:AC:= .seq (.run [.o 35 (.aj bD 10), .o 36 (.load fb false 1), .o 37 (.len fk), .o 38 (.mv (.k (.int .i64 0)))]) (.block 2 (.loop (.seq (.run [.o 39 (.bin .lss fQ fF)]) QTQ)))
abbrev QU0:AC:= .seq QTU (.seq (.run [.o 54 (.aj bD 11), .o 55 (.load jH false 1), .m 56 a7, .m 57 cZ, .c 58 kQ [jI,k5,lO], .m 53 lF, .o 59 (.ext jf 0), .o 60 (.ext jf 1), .o 61 (.aj bU 11), .op none none (.store oA kF 1), .m 1 nn]) (.seq (.run [.o 63 (.aj bD 12), .o 64 (.load oD false 1), .m 65 a7, .m 66 cZ, .c 67 kQ [p8,rR,sD], .m 62 sE, .o 68 (.ext oB 0), .o 69 (.ext oB 1), .o 70 (.aj bU 12), .op none none (.store sF rS 1), .m 1 ur]) (.run [.m 71 bS, .o 72 (.load bU true 13), .o 73 (.cD [(.int .i64 0),(.int .i64 0),(.slice .full 0 []),(.str []),(.str []),(.int .i64 0),(.int .i64 0),(.str []),(.slice .full 0 []),(.bool false),(.slice .full 0 []),(.slice .full 0 []),(.slice .full 0 [])] 13 1 [(0,vK)]), .o 74 (.app 13 208 xD vL), .m 8 xE])))
abbrev QU3:AC:= .seq (.run [.o 22 (.load bD true 13), .o 11 (.alloc [(.int .i64 0),(.int .i64 0),(.slice .full 0 []),(.str []),(.str []),(.int .i64 0),(.int .i64 0),(.str []),(.slice .full 0 []),(.bool false),(.slice .full 0 []),(.slice .full 0 []),(.slice .full 0 [])]), .op none none (.store bU dI 13)]) (.seq (.seq (.run [.m 23 cZ]) (.cond dJ (.run [.m 24 a7, .o 25 (.aj bU 0), .op none none (.store di df 1)]) .skip)) (.seq QTE QU0))
abbrev QU5:AC:= .seq (.run [.o 18 (.cr bK cq 13), .o 19 (.load cT true 13), .o 10 (.alloc [(.int .i64 0),(.int .i64 0),(.slice .full 0 []),(.str []),(.str []),(.int .i64 0),(.int .i64 0),(.str []),(.slice .full 0 []),(.bool false),(.slice .full 0 []),(.slice .full 0 []),(.slice .full 0 [])]), .op none none (.store bD dh 13)]) (.seq (.run [.m 20 a7, .o 21 (.bin .add dt (.k (.int .i64 1))), .m 1 dB]) QU3)
abbrev QU9:AC:= .seq (.cond cU .skip (.exit 0)) (.seq (.block 1 QU5) (.run [.o 75 (.bin .add cq (.k (.int .i64 1))), .m 16 xF]))
abbrev QUD:AC:= .seq (.run [.m 14 aJ, .o 15 (.len bK), .o 16 (.mv (.k (.int .i64 0)))]) (.block 0 (.loop (.seq (.run [.o 17 (.bin .lss cq cv)]) QU9)))
abbrev QUI:AC:= .seq (.run [.o 6 (.mv (.k (.slice .full 0 []))), .o 7 (.mv (.k (.int .i64 0)))]) (.seq (.run [.o 8 (.mv (.k (.slice .full 0 [])))]) (.seq QUD (.seq (.run [.m 76 bS, .m 77 a7, .m 6 vM, .m 7 xG]) .ret)))
abbrev QUK:AC:= .par [.m 7 a7, .o 8 (.bin .lss bT (.k (.int .i64 1))), .m 9 bS, .g 10 9 false (.aj cZ 3), .g 11 9 false (.load bD false 1), .g 12 9 false (.len bU), .g 13 9 false (.aj cZ 0), .g 14 9 false (.load bV false 1), .d 15 9 false xy [bK], .g 16 9 false (.bin .neq bZ cv), .o 17 (.pick cu (.k (.bool true)) cq)] [(0,0),(1,0),(2,0),(6,0),(7,0),(8,0),(3,0),(4,1),(5,0),(9,0),(10,0)]
abbrev QUN:AC:= .cond cU (.seq (.run [.o 4 (.mv (.k (.bool false)))]) .ret) .skip
abbrev QUW:AC:= .cond eU (.seq (.run [.o 32 (.aj cZ 1), .o 33 (.load fa false 1), .o 34 (.bin .eql eZ (.k (.int .i64 0))), .m 35 fj, .g 36 35 true (.aj cZ 2), .g 37 35 true (.load fk false 1), .d 38 35 true nS [fF], .o 39 (.pick fb fQ (.k (.bool false))), .m 4 fR]) .ret) .skip
abbrev QUY:AC:= .cond dt (.seq (.run [.o 22 (.aj cZ 1), .o 23 (.load dI false 1), .o 24 (.bin .geq dJ (.k (.int .i64 0))), .m 25 df, .g 26 25 true (.aj cZ 2), .g 27 25 true (.load dX false 1), .g 28 25 true (.bin .eql dY (.k (.str []))), .o 29 (.pick di eP (.k (.bool false))), .m 4 eK]) .ret) (.seq (.run [.o 31 (.bin .eql dh (.k (.int .i64 2))), .m 30 eV]) QUW)
abbrev QV0:AC:= .block 0 (.seq (.run [.o 21 (.bin .eql dh (.k (.int .i64 1))), .m 20 dB]) QUY)
abbrev QV5:AC:= .cond jF (.seq (.run [.o 4 (.mv (.k (.bool false)))]) .ret) .skip
abbrev QVE:AC:= .cond kF (.seq (.run [.o 4 (.mv (.k (.bool false)))]) .ret) .skip
abbrev QVG:AC:= .seq (.run [.o 53 (.cr iO jd 4), .o 54 (.load jf true 4), .o 6 (.alloc [(.int .i64 0),(.int .i64 0),(.str []),(.slice .full 0 [])]), .op none none (.store bX jH 4)]) (.seq (.run [.o 55 (.load bX true 4), .m 56 a7, .o 57 (.bin .sub k5 (.k (.int .i64 1))), .c 58 qh [jI,lO], .o 59 (.un .not lF)]) QVE)
abbrev QVK:AC:= .seq (.cond je .skip (.exit 1)) (.seq (.block 2 QVG) (.run [.o 60 (.bin .add jd (.k (.int .i64 1))), .m 51 nn]))
abbrev QVO:AC:= .seq (.run [.o 48 (.aj cZ 3), .o 49 (.load iA false 1), .o 50 (.len iO), .o 51 (.mv (.k (.int .i64 0)))]) (.block 1 (.loop (.seq (.run [.o 52 (.bin .lss jd jG)]) QVK)))
abbrev QVR:AC:= .seq QVO (.seq (.run [.o 4 (.mv (.k (.bool true)))]) .ret)
abbrev QVS:AC:= .seq (.seq (.run [.o 40 (.aj cZ 1), .o 41 (.load gh false 1), .o 42 (.bin .neq ga (.k (.int .i64 0))), .m 43 gU, .g 44 43 false (.aj cZ 2), .g 45 43 false (.load iF false 1), .g 46 43 false (.bin .neq jb (.k (.str []))), .o 47 (.pick gV (.k (.bool true)) jc)]) QV5) QVR
abbrev QVV:AC:= .seq (.run [.o 2 (.box aJ), .o 4 (.mv (.k (.bool false)))]) (.seq (.seq QUK QUN) (.seq (.seq (.run [.o 18 (.aj cZ 0), .o 19 (.load cT false 1)]) QV0) QVS))
abbrev QW7:AC:= .block 1 (.seq (.run [.m 10 bS, .m 5 bD]) (.seq (.run [.m 11 a7, .m 12 aJ, .m 13 bk, .o 14 (.cr bZ bV 1), .o 15 (.load bK false 1), .o 16 (.bin .eql bU cv)]) (.cond cq (.seq (.run [.m 17 bk, .m 4 cU]) .ret) .skip)))
abbrev QWA:AC:= .seq (.cond cu .skip (.exit 0)) (.seq QW7 (.run [.o 18 (.bin .add bS (.k (.int .i64 1))), .m 8 cT]))
abbrev QWE:AC:= .seq (.run [.m 6 aJ, .o 7 (.len bX), .o 8 (.mv (.k (.int .i64 0)))]) (.block 0 (.loop (.seq (.run [.o 9 (.bin .lss bS bT)]) QWA)))
abbrev QWG:AC:= .seq (.run [(.o 4 (.mv (.k (.int .i64 (-1)))))]) .ret
abbrev QWI:AC:= .seq (.run [.o 4 (.mv (.k (.int .i64 0)))]) (.seq QWE QWG)
abbrev QWR:AC:= .cond bU (.seq (.run [.m 13 a7, .o 14 (.bin .eql bV (.k (.int .i64 0))), .c 15 jB [bK], .m 4 cv, .o 5 (.mv (.k (.bool true)))]) .ret) .skip
abbrev QWT:AC:= .cond bT (.seq (.run [.m 9 a7, .o 10 (.bin .sub (.k (.int .i64 0)) cu), .m 4 bD, .o 5 (.mv (.k (.bool true)))]) .ret) (.seq (.run [.o 12 (.bin .eql bX (.k (.int .i64 4))), .m 11 bZ]) QWR)
abbrev QWV:AC:= .block 0 (.seq (.run [.o 8 (.bin .eql bX (.k (.int .i64 3))), .m 7 bS]) QWT)
abbrev QWZ:AC:= .seq (.seq (.run [.m 6 aJ]) QWV) (.seq (.run [.o 4 (.mv (.k (.int .i64 0))), .o 5 (.mv (.k (.bool false)))]) .ret)
abbrev QX0:AC:= .seq (.run [.o 4 (.mv (.k (.int .i64 0))), .o 5 (.mv (.k (.bool false)))]) QWZ
abbrev QX4:AC:= .seq (.run [.o 2 (.mv (.k (.bool false)))]) (.seq (.run [.m 3 aJ, .o 4 (.bin .neq bO (.k (.int .i64 0))), .m 2 dw]) .ret)
abbrev QXJ:AC:= .seq (.run [.o 25 (.bin .eql bS (.k (.int .i64 6))), .m 24 di]) (.cond df .skip (.run [.o 26 (.bin .eql bS (.k (.int .i64 7))), .m 24 dX]))
abbrev QXS:AC:= .cond gU (.seq (.run [.m 44 a7, .o 45 (.bin .neq iF (.k (.int .i64 0))), .m 46 jb, .g 47 46 false (.mv cZ), .g 48 46 false (.bin .neq jF (.k (.int .i64 0))), .o 49 (.pick jc (.k (.bool true)) iA), .c 50 jB [iO], .m 6 jG, .o 7 (.mv (.k (.bool true)))]) .ret) .skip
abbrev QXU:AC:= .cond eZ (.seq (.run [.m 35 a7, .o 36 (.bin .neq fb (.k (.int .i64 0))), .m 37 fk, .g 38 37 true (.mv cZ), .g 39 37 true (.bin .neq fQ (.k (.int .i64 0))), .o 40 (.pick fF fR (.k (.bool false))), .c 41 jB [gh], .m 6 ga, .o 7 (.mv (.k (.bool true)))]) .ret) (.seq (.run [.o 43 (.bin .eql bS (.k (.int .i64 17))), .m 42 gV]) QXS)
abbrev QXW:AC:= .cond df (.seq (.run [.m 27 aJ, .m 28 a7, .m 29 cZ, .c 30 uj [dY,eP,eK], .o 31 (.ext eU 0), .o 32 (.ext eU 1), .m 6 eV, .m 7 fa]) .ret) (.seq (.run [.o 34 (.bin .eql bS (.k (.int .i64 16))), .m 33 fj]) QXU)
abbrev QXY:AC:= .cond dh (.seq (.run [.m 21 a7, .m 22 cZ, .o 23 (.bin .mul dB dI), .m 6 dJ, .o 7 (.mv (.k (.bool true)))]) .ret) (.seq QXJ QXW)
abbrev QY0:AC:= .cond bK (.seq (.run [.m 16 a7, .m 17 cZ, .o 18 (.bin .sub cq cU), .m 6 cT, .o 7 (.mv (.k (.bool true)))]) .ret) (.seq (.run [.o 20 (.bin .eql bS (.k (.int .i64 5))), .m 19 dt]) QXY)
abbrev QY2:AC:= .cond cu (.seq (.run [.m 11 a7, .m 12 cZ, .o 13 (.bin .add bU bZ), .m 6 bV, .o 7 (.mv (.k (.bool true)))]) .ret) (.seq (.run [.o 15 (.bin .eql bS (.k (.int .i64 9))), .m 14 cv]) QY0)
abbrev QY4:AC:= .block 0 (.seq (.run [.o 10 (.bin .eql bS (.k (.int .i64 8))), .m 9 bD]) QY2)
abbrev QY9:AC:= .seq (.run [.o 6 (.mv (.k (.int .i64 0))), .o 7 (.mv (.k (.bool false)))]) (.seq (.seq (.run [.m 8 aJ]) QY4) (.seq (.run [.m 51 aJ, .m 52 a7, .m 53 cZ, .c 54 sB [jd,je,jf], .o 55 (.ext jH 0), .o 56 (.ext jH 1), .m 6 jI, .m 7 k5]) .ret))
open Go.Proofs
theorem KK:Has Tryz.prog rJ 5 [(2,(some (true,4)))] QKR:=⟨Tryz.f56,by kernel_rfl,by kernel_rfl⟩
theorem Ij:Has Tryz.prog lg 5 [(2,(some (true,4)))] QKV:=⟨Tryz.f57,by kernel_rfl,by kernel_rfl⟩
theorem KM:Has Tryz.prog uV 12 [(6,(some (true,4)))] QKZ:=⟨Tryz.f58,by kernel_rfl,by kernel_rfl⟩
theorem wN:Has Tryz.prog lS 96 [(2,(some (true,2)))] QN4:=⟨Tryz.f75,by kernel_rfl,by kernel_rfl⟩
theorem wO:Has Tryz.prog qA 37 [(2,(some (true,2)))] QNX:=⟨Tryz.f76,by kernel_rfl,by kernel_rfl⟩
theorem yu:Has Tryz.prog vA 64 [(2,(some (true,2)))] QPJ:=⟨Tryz.f77,by kernel_rfl,by kernel_rfl⟩
set_option maxRecDepth 20000 in
theorem wP : Has Tryz.prog uh 60 [(2, (some (true, 2)))] QQT := ⟨Tryz.f78, by kernel_rfl, by kernel_rfl⟩
theorem Gj:Has Tryz.prog nc 15 [(2,none)] QRG:=⟨Tryz.f80,by kernel_rfl,by kernel_rfl⟩
theorem np:Has Tryz.prog nS 27 [(2,none)] QRQ:=⟨Tryz.f81,by kernel_rfl,by kernel_rfl⟩
theorem rT:Has Tryz.prog kD 71 [(6,none)] QSR:=⟨Tryz.f82,by kernel_rfl,by kernel_rfl⟩
theorem uu:Has Tryz.prog lE 8 [(2,none)] QT1:=⟨Tryz.f83,by kernel_rfl,by kernel_rfl⟩
theorem EY:Has Tryz.prog kQ 78 [(6,none),(7,none)] QUI:=⟨Tryz.f84,by kernel_rfl,by kernel_rfl⟩
theorem Ax:Has Tryz.prog qh 61 [(4,none)] QVV:=⟨Tryz.f85,by kernel_rfl,by kernel_rfl⟩
theorem wm:Has Tryz.prog fY 19 [(4,none)] QWI:=⟨Tryz.f86,by kernel_rfl,by kernel_rfl⟩
theorem KN:Has Tryz.prog zw 16 [(4,none),(5,none)] QX0:=⟨Tryz.f87,by kernel_rfl,by kernel_rfl⟩
theorem Gk:Has Tryz.prog rK 5 [(2,none)] QX4:=⟨Tryz.f88,by kernel_rfl,by kernel_rfl⟩
theorem KO:Has Tryz.prog zz 57 [(6,none),(7,none)] QY9:=⟨Tryz.f89,by kernel_rfl,by kernel_rfl⟩
abbrev QYM:AC:= .par [.m 37 aJ, .m 38 aJ, .o 39 (.bq fQ), .o 40 (.aj fR 2), .o 41 (.load gh false 1), .o 42 (.load cu true 17), .o 43 (.cD [(.int .i64 0),(.int .i64 0),(.slice .full 0 []),(.str []),(.str []),(.int .i64 0),(.int .i64 0),(.str []),(.slice .full 0 []),(.bool false),(.slice .full 0 []),(.slice .full 0 []),(.slice .full 0 []),(.int .i64 0),(.int .i64 0),(.int .i64 0),(.int .i64 0)] 17 1 [(0,gU)]), .o 44 (.app 17 240 ga gV), .o 45 (.bq fF), .o 46 (.aj jb 2), .op none none (.store jc iF 1)] [(1,0),(2,0),(3,0),(4,0),(5,0),(6,0),(7,0),(0,0),(8,0),(9,0),(10,0)]
abbrev QYN:AC:= .run [.o 47 (.aj bk 13), .o 48 (.load jF false 1), .m 49 bS, .o 50 (.aj cu 15), .o 51 (.load jG false 1), .o 52 (.aj bk 16), .o 53 (.load je false 1), .o 54 (.build [(.int .i64 0),(.int .i64 0),(.slice .full 0 []),(.str []),(.str []),(.int .i64 0),(.int .i64 0),(.str []),(.slice .full 0 []),(.bool false),(.slice .full 0 []),(.slice .full 0 []),(.slice .full 0 []),(.int .i64 0),(.int .i64 0),(.int .i64 0),(.int .i64 0)] [(13,(1,iA)),(14,(1,iO)),(15,(1,jd)),(16,(1,jf))]), .o 10 (.alloc [(.int .i64 0),(.int .i64 0),(.slice .full 0 []),(.str []),(.str []),(.int .i64 0),(.int .i64 0),(.str []),(.slice .full 0 []),(.bool false),(.slice .full 0 []),(.slice .full 0 []),(.slice .full 0 []),(.int .i64 0),(.int .i64 0),(.int .i64 0),(.int .i64 0)]), .op none none (.store bD jH 17)]
abbrev QYV:AC:= .seq (.seq (.run [.o 55 (.aj bT 1), .o 56 (.load jI false 1), .o 57 (.bin .eql k5 (.k (.int .i64 6)))]) (.cond lO (.run [.m 58 bS, .m 59 bS, .o 60 (.aj bD 15), .op none none (.store nn lF 1), .o 61 (.aj bD 16), .op none none (.store oA kF 1)]) .skip)) (.seq (.run [.m 62 aJ, .o 63 (.aj bT 11), .o 64 (.load oD false 1), .o 65 (.load bD true 17), .c 66 kl [oB,p8,rR]]) (.run [.m 67 aJ, .o 68 (.aj bT 12), .o 69 (.load rS false 1), .o 70 (.load bD true 17), .c 71 kl [sE,ur,sF]]))
abbrev QYY:AC:= .seq (.seq (.run [.m 27 bX, .o 28 (.bin .add dY (.k (.int .i64 1))), .m 29 a7, .o 30 (.len eK), .o 31 (.bin .lss eP eU)]) (.cond eV (.run [.m 32 bS, .o 33 (.load bT true 13), .c 34 mz [eZ], .o 35 (.bin .add fa fj), .o 36 (.aj cu 15), .op none none (.store fk fb 1)]) .skip)) (.seq QYM (.seq QYN QYV))
abbrev QZ2:AC:= .seq (.run [.m 15 bV, .o 16 (.cr bU bV 13), .o 17 (.load cq true 13), .o 7 (.alloc [(.int .i64 0),(.int .i64 0),(.slice .full 0 []),(.str []),(.str []),(.int .i64 0),(.int .i64 0),(.str []),(.slice .full 0 []),(.bool false),(.slice .full 0 []),(.slice .full 0 []),(.slice .full 0 [])]), .m 6 cv, .op none none (.store bT cU 13)]) (.seq (.run [.m 18 aJ, .o 19 (.bq cT), .o 20 (.aj dh 2), .o 21 (.load dt false 1), .o 22 (.len dB), .o 23 (.bin .add dI (.k (.int .i64 1))), .m 8 dJ]) (.seq (.run [.o 24 (.load bk true 17), .o 9 (.alloc [(.int .i64 0),(.int .i64 0),(.slice .full 0 []),(.str []),(.str []),(.int .i64 0),(.int .i64 0),(.str []),(.slice .full 0 []),(.bool false),(.slice .full 0 []),(.slice .full 0 []),(.slice .full 0 []),(.int .i64 0),(.int .i64 0),(.int .i64 0),(.int .i64 0)]), .op none none (.store cu df 17)]) (.seq (.run [.o 25 (.load bT true 13), .o 26 (.aj cu 0), .op none none (.store dX di 13)]) QYY)))
abbrev QZ6:AC:= .seq (.cond bK .skip (.exit 0)) (.seq (.block 1 QZ2) (.run [.o 72 (.bin .add bV (.k (.int .i64 1))), .m 13 vK]))
abbrev QZA:AC:= .seq (.run [.m 11 a7, .o 12 (.len bU), .o 13 (.mv (.k (.int .i64 0)))]) (.block 0 (.loop (.seq (.run [.o 14 (.bin .lss bV bZ)]) QZ6)))
abbrev QZB:AC:= .seq (.run [.o 5 (.box cZ)]) QZA
abbrev QZD:AC:= .par [.m 5 aJ, .o 6 (.bq bk), .o 7 (.aj bX 3), .o 8 (.load bT false 1), .m 9 a7, .o 10 (.cr bS cu 1), .o 11 (.load bD false 1), .m 12 aJ, .o 13 (.bq bZ), .o 14 (.aj bV 4), .o 15 (.load bK false 1), .m 16 a7, .o 17 (.cr cv cq 1), .o 18 (.load cU false 1), .o 19 (.bin .lss bU cT)] [(0,0),(1,0),(2,0),(3,0),(4,0),(5,0),(6,0),(7,0),(8,0),(9,0),(10,0),(11,0),(12,0),(13,0),(14,0)]
abbrev QZJ:AC:= .seq (.run [(.o 4 (.mv (.k (.int .i64 (-1)))))]) .ret
abbrev QZK:AC:= .seq (.seq QZD (.cond dh (.seq (.run [.m 20 aJ, .o 21 (.bq dt), .o 22 (.aj dB 3), .o 23 (.load dI false 1), .m 24 a7, .o 25 (.cr dJ df 1), .o 26 (.load di false 1), .m 4 dX]) .ret) .skip)) QZJ
abbrev QZL:AC:= .seq (.run [.o 4 (.mv (.k (.int .i64 0)))]) QZK
abbrev QZX:AC:= .block 1 (.seq (.run [.m 10 bS, .m 5 bD]) (.seq (.run [.m 11 a7, .m 12 aJ, .m 13 bk, .o 14 (.cr bZ bV 5), .o 15 (.load bK true 5),(.jw (some 16) none 11 [cv])]) (.cond cq (.seq (.run [.m 17 bk, .m 4 cU]) .ret) .skip)))
abbrev akR:AC:= .seq (.cond cu .skip (.exit 0)) (.seq QZX (.run [.o 18 (.bin .add bS (.k (.int .i64 1))), .m 8 cT]))
abbrev akS:AC:= .seq (.run [.m 6 aJ, .o 7 (.len bX), .o 8 (.mv (.k (.int .i64 0)))]) (.block 0 (.loop (.seq (.run [.o 9 (.bin .lss bS bT)]) akR)))
abbrev akT:AC:= .seq (.run [(.o 4 (.mv (.k (.int .i64 (-1)))))]) .ret
abbrev akU:AC:= .seq (.run [.o 4 (.mv (.k (.int .i64 0)))]) (.seq akS akT)
abbrev akV:AC:= .seq (.run [.o 2 (.box aJ), .o 3 (.mv (.k (.bool false)))]) (.seq (.run [.o 4 (.aj cZ 0), .o 5 (.load dw false 1), .o 6 (.load a7 false 1), .o 7 (.bin .eql bk bX), .m 3 bT]) .ret)
abbrev akW:AC:= .par [.m 8 bk, .o 9 (.bq bS), .o 10 (.aj cu 2), .o 11 (.load bD false 1), .m 12 bk, .o 13 (.bq bZ), .o 14 (.aj bV 1), .o 15 (.load bK false 1), .m 16 a7, .c 17 fY [cv,cq], .o 18 (.cr bU cU 1), .o 19 (.load cT false 1), .m 4 dh] [(4,0),(5,0),(6,0),(7,0),(8,0),(9,0),(0,0),(1,0),(2,0),(3,1),(10,0),(11,0),(12,0)]
abbrev akX:AC:= .seq (.run [.o 4 (.mv (.k .ek))]) (.seq (.run [.m 6 aJ, .c 7 kU [bX], .m 5 bT]) (.seq akW .ret))
abbrev akY:AC:= .par [.m 30 aJ, .m 31 aJ, .o 32 (.bq eV), .o 33 (.aj fa 5), .o 34 (.load eZ false 1), .m 35 bS, .o 36 (.bq fb), .o 37 (.load fk false 1), .o 38 (.cD [(.int .i64 0)] 1 1 [(0,fF)]), .o 39 (.app 1 8 fj fQ), .o 40 (.bq eU), .o 41 (.aj gh 5), .op none none (.store ga fR 1)] [(1,0),(2,0),(3,0),(4,0),(5,0),(6,0),(7,0),(8,0),(9,0),(0,0),(10,0),(11,0),(12,0)]
abbrev akZ:AC:= .seq (.cond dY .skip (.exit 0)) (.seq (.block 1 (.seq (.run [.o 28 (.cr df dX 1), .o 29 (.load eP false 1), .m 8 eK]) akY)) (.run [.o 42 (.bin .add dX (.k (.int .i64 1))), .m 26 gU]))
abbrev adS:AC:= .seq (.run [.o 27 (.bin .lss dX di)]) akZ
abbrev ak0:AC:= .par [.o 44 (.load bO true 4), .m 45 bX, .o 46 (.bq jb), .o 47 (.aj jc 1), .o 48 (.load jF false 1), .m 49 aJ, .o 50 (.bq iO), .o 51 (.aj jG 5), .o 52 (.load jd false 1), .c 53 wL [iF,iA,je], .m 43 jf, .o 54 (.ext gV 0), .o 55 (.ext gV 1), .m 9 jH, .m 10 jI] [(0,0),(1,0),(2,0),(3,0),(4,0),(5,0),(6,0),(7,0),(8,0),(9,0),(10,0),(11,0),(12,0),(13,0),(14,0)]
abbrev ak1:AC:= .seq (.run [.m 56 bD, .o 57 (.un .not k5)]) (.cond lO (.run [.m 58 aJ, .o 59 (.bq lF), .o 60 (.aj kF 6), .o 61 (.aj nn 0), .op none none (.store oA (.k (.int .i64 4)) 1)]) .skip)
abbrev adT:AC:= .seq ak0 (.seq ak1 (.seq (.run [.m 62 cu, .m 63 bD, .m 4 oB, .m 5 oD]) .ret))
abbrev ak2:AC:= .seq (.seq (.run [.m 21 bX, .o 22 (.bq dB), .o 23 (.aj dI 2), .o 24 (.load dJ false 1), .o 25 (.len df), .o 26 (.mv (.k (.int .i64 0)))]) (.block 0 (.loop adS))) adT
abbrev ak3:AC:= .seq (.run [.m 13 aJ, .m 14 aJ, .o 15 (.bq bK), .o 16 (.aj cv 5), .o 17 (.load cq false 1),(.o 18 (.Et 1 cU none (some (.k (.int .i64 0))))), .o 19 (.bq bV), .o 20 (.aj dh 5), .op none none (.store dt cT 1)]) ak2
abbrev ak4:AC:= .seq (.run [.o 3 (.box a7), .o 4 (.mv (.k (.int .i64 0))), .o 5 (.mv (.k (.bool false)))]) (.seq (.run [.m 11 aJ, .c 12 kU [bU], .m 6 bZ]) ak3)
abbrev ak5:AC:= .seq (.run [.m 6 aJ, .o 7 (.bq bX), .o 8 (.aj bT 3), .o 9 (.load bS false 1), .m 10 a7, .c 11 ng [cu,bD]]) (.cond bU (.run [.m 12 aJ, .m 13 aJ, .o 14 (.bq bV), .o 15 (.aj bK 6), .o 16 (.aj cv 4), .o 17 (.load cq false 1), .m 18 a7, .m 19 cZ, .o 20 (.build [(.int .i64 0),(.slice .full 0 [])] [(0,(1,cT)),(1,(1,dh))]), .o 21 (.cD [(.int .i64 0),(.slice .full 0 [])] 2 1 [(0,dt)]), .o 22 (.app 2 32 cU dB), .o 23 (.bq bZ), .o 24 (.aj dJ 6), .o 25 (.aj df 4), .op none none (.store di dI 1)]) .skip)
abbrev ak6:AC:= .cond dI (.seq (.run [.o 23 (.aj cu 0), .o 24 (.aj dJ 0), .o 25 (.load df false 1), .m 6 di, .o 7 (.mv (.k (.bool true)))]) .ret) .skip
abbrev ak7:AC:= .seq (.block 1 (.seq (.run [.o 16 (.cr bZ bK 17), .o 17 (.load cq true 17), .o 9 (.alloc [(.int .i64 0),(.int .i64 0),(.slice .full 0 []),(.str []),(.str []),(.int .i64 0),(.int .i64 0),(.str []),(.slice .full 0 []),(.bool false),(.slice .full 0 []),(.slice .full 0 []),(.slice .full 0 []),(.int .i64 0),(.int .i64 0),(.int .i64 0),(.int .i64 0)]), .op none none (.store cu cU 17)]) (.seq (.run [.o 18 (.aj cu 0), .o 19 (.aj cT 2), .o 20 (.load dh false 1), .m 21 cZ, .c 22 cB [dt,dB]]) ak6))) (.run [.o 26 (.bin .add bK (.k (.int .i64 1))), .m 14 dX])
abbrev ak8:AC:= .block 0 (.loop (.seq (.run [.o 15 (.bin .lss bK bV)]) (.seq (.cond cv .skip (.exit 0)) ak7)))
abbrev ak9:AC:= .seq (.run [(.o 6 (.mv (.k (.int .i64 (-1))))), .o 7 (.mv (.k (.bool true)))]) .ret
abbrev ala:AC:= .seq (.seq (.run [.m 27 aJ, .o 28 (.bq dY), .o 29 (.aj eP 0), .o 30 (.aj eK 1), .o 31 (.load eU false 1), .m 32 a7, .o 33 (.cr eV fa 5), .o 34 (.aj eZ 4), .o 35 (.load fj false 1), .m 36 cZ, .c 37 cB [fb,fk]]) (.cond fF ak9 .skip)) (.seq (.run [.o 6 (.mv (.k (.int .i64 0))), .o 7 (.mv (.k (.bool false)))]) .ret)
abbrev alb:AC:= .seq (.seq (.run [.m 10 aJ, .m 11 a7, .c 12 gQ [bD,bU], .o 13 (.len bZ), .o 14 (.mv (.k (.int .i64 0)))]) ak8) ala
abbrev alc:AC:= .seq (.run [.o 6 (.mv (.k (.int .i64 0))), .o 7 (.mv (.k (.bool false)))]) alb
abbrev ald:AC:= .cond bT (.seq (.run [.m 8 aJ, .o 9 (.cr bS (.k (.int .i64 0)) 13), .o 10 (.aj cu 0), .o 11 (.load bD false 1), .m 4 bU]) .ret) .skip
abbrev ale:AC:= .seq (.seq (.run [.m 5 aJ, .o 6 (.len bk), .o 7 (.bin .gtr bX (.k (.int .i64 0)))]) ald) (.seq (.run [.m 12 a7, .m 4 bZ]) .ret)
abbrev alf:AC:= .seq (.run [.o 4 (.mv (.k (.int .i64 0)))]) ale
abbrev alg:AC:= .par [.m 3 aJ, .o 4 (.bq bO), .o 5 (.aj dw 4), .o 6 (.load bk false 1), .m 7 aJ, .o 8 (.bq bT), .o 9 (.aj bS 4), .o 10 (.load cu false 1), .o 11 (.len bD), .o 12 (.bin .sub bU (.k (.int .i64 1))), .o 13 (.cr bX bZ 1), .o 14 (.load bV false 1), .m 2 bK] [(0,0),(1,0),(2,0),(3,0),(4,0),(5,0),(6,0),(7,0),(8,0),(9,0),(10,0),(11,0),(12,0)]
abbrev alh:AC:= .seq (.run [.o 2 (.mv (.k .ek))]) (.seq alg .ret)
abbrev ali:AC:= .seq (.run [(.o 13 (.build [(.int .i64 0),(.int .i64 0)] [(0,(1,(.k (.int .i64 4))))])), .o 2 (.mv (.k (.slice .full 0 []))), .op none none (.store bO bV 2)]) .ret
abbrev alj:AC:= .cond cU (.seq (.run [.m 18 dw, .m 19 aJ, .o 20 (.nK dh), .o 21 (.build [(.int .i64 0),(.str []),(.int .i64 0),(.int .i64 0)] [(3,(1,dt))]), .o 22 (.cD [(.int .i64 0),(.str []),(.int .i64 0),(.int .i64 0)] 4 1 [(0,dB)]), .o 23 (.app 4 40 cT dI), .o 24 (.build [(.int .i64 0),(.int .i64 0)] []), .m 2 dJ, .op none none (.store bO df 2)]) .ret) .skip
abbrev alk:AC:= .cond jF (.goto 1) (.seq (.run [.m 51 cu, .c 52 pf [jd], .m 50 je]) (.cond jG (.goto 2) (.seq (.run [.m 54 cu, .c 55 qk [jH], .m 53 jI]) (.cond jf (.goto 3) .skip))))
abbrev alm:AC:= .cond eU (.seq (.run [.m 45 bX, .o 46 (.bin .add jb (.k (.int .i64 1))), .m 6 jc]) (.goto 0)) (.seq (.run [.m 48 cu, .o 49 (.bin .eql iA (.k (.int .u8 35))), .m 47 iO]) alk)
abbrev aln:AC:= .block 0 (.seq (.run [.m 31 cu, .o 32 (.bin .eql eV (.k (.int .u8 32))), .m 33 fa, .g 34 33 false (.mv cu), .g 35 33 false (.bin .eql fj (.k (.int .u8 9))), .o 36 (.pick eZ (.k (.bool true)) fb), .m 37 fk, .g 38 37 false (.mv cu), .g 39 37 false (.bin .eql fQ (.k (.int .u8 10))), .o 40 (.pick fF (.k (.bool true)) fR), .m 41 gh, .g 42 41 false (.mv cu), .g 43 41 false (.bin .eql gU (.k (.int .u8 13))), .o 44 (.pick ga (.k (.bool true)) gV), .m 30 iF]) alm)
abbrev alo:AC:= .seq (.seq (.run [.m 72 bX, .m 73 aJ, .o 74 (.nK vL), .o 75 (.bin .lss vK xE), .m 76 xF, .g 77 76 true (.mv aJ), .g 78 76 true (.mv bX), .g 79 76 true (.oU xG vN), .g 80 76 true (.bin .neq BD (.k (.int .u8 10))), .o 81 (.pick vM BE (.k (.bool false)))]) (.cond BF .skip (.exit 1))) (.block 2 (.run [.m 82 bX, .o 83 (.bin .add DU (.k (.int .i64 1))), .m 6 DV]))
abbrev alp:AC:= .par [.m 87 aJ, .o 88 (.aj bk 3), .o 89 (.load D0 false 1), .m 90 bX, .o 91 (.za DZ (some zC) (some BG)), .o 92 (.aj bk 0), .op none none (.store Gg (.k (.int .i64 1)) 1), .o 93 (.aj bk 1), .op none none (.store KD D1 1)] [(1,0),(2,0),(5,0),(6,0),(0,0),(3,0),(4,0),(7,0),(8,0)]
abbrev alq:AC:= .seq (.run [.o 94 (.aj bk 1), .o 95 (.load KE false 1), .c 96 uW [KF]]) (.cond Qp (.run [.o 97 (.aj bk 0), .op none none (.store Qq (.k (.int .i64 3)) 1)]) .skip)
abbrev Wt:AC:= .seq (.seq (.run [.m 103 bX, .m 104 aJ, .o 105 (.nK IQ), .o 106 (.bin .lss IP IS), .m 107 IT, .g 108 107 true (.mv aJ), .g 109 107 true (.mv bX), .g 110 107 true (.oU IV Qt), .d 111 107 true qk [IW], .o 112 (.pick IU IX (.k (.bool false)))]) (.cond ES .skip (.exit 3))) (.block 4 (.run [.m 113 bX, .o 114 (.bin .add IY (.k (.int .i64 1))), .m 6 IZ]))
abbrev alr:AC:= .par [.m 115 aJ, .o 116 (.aj bk 3), .o 117 (.load I1 false 1), .m 118 bX, .o 119 (.za I0 (some I2) (some I3)), .o 120 (.aj bk 0), .op none none (.store I5 (.k (.int .i64 2)) 1), .o 121 (.aj bk 1), .op none none (.store I6 I4 1), .o 7 (.mv (.k (.int .i64 2)))] [(1,0),(2,0),(5,0),(6,0),(0,0),(3,0),(4,0),(7,0),(8,0),(9,0)]
abbrev als:AC:= .par [.m 148 bT, .o 149 (.aj bk 3), .o 150 (.load QK false 1), .o 151 (.build [(.int .i64 0),(.int .i64 0)] [(0,(1,QJ)),(1,(1,QL))]), .o 2 (.mv (.k (.slice .full 0 []))), .op none none (.store bO QM 2)] [(0,0),(1,0),(2,0),(3,0),(4,0),(5,0)]
abbrev alu:AC:= .seq (.seq (.run [.m 141 dw, .o 142 (.len QE), .o 143 (.bin .eql QF (.k (.int .i64 2000)))]) (.cond Jf (.goto 5) .skip)) (.seq (.run [.m 144 dw, .o 145 (.load bk true 4), .o 146 (.cD [(.int .i64 0),(.str []),(.int .i64 0),(.int .i64 0)] 4 1 [(0,ET)]), .o 147 (.app 4 40 QG QH), .m 4 QI]) (.seq (.goto 0) (.seq (.label 5) (.seq als .ret))))
abbrev alv:AC:= .seq (.label 4) (.seq (.run [.o 7 (.mv (.k (.int .i64 4)))]) alu)
abbrev alw:AC:= .seq (.run [.o 133 (.aj bk 1), .o 134 (.load Qw false 1), .c 135 vE [Qx], .m 132 Qy, .o 136 (.ext Je 0), .o 137 (.ext Je 1), .o 138 (.aj bk 2), .op none none (.store QB Qz 1), .m 8 QA]) (.seq (.run [.o 7 (.mv (.k (.int .i64 4)))]) (.seq (.seq (.run [.m 139 bS, .o 140 (.un .not QC)]) (.cond QD (.goto 5) .skip)) alv))
abbrev alx:AC:= .seq (.seq (.run [.o 122 (.aj bk 1), .o 123 (.load I7 false 1), .o 124 (.nK I8), .o 125 (.bin .gtr I9 (.k (.int .i64 1))), .m 126 Ja, .g 127 126 true (.aj bk 1), .g 128 126 true (.load Jb false 1), .g 129 126 true (.oU zD (.k (.int .i64 0))), .g 130 126 true (.bin .eql Jc (.k (.int .u8 48))), .o 131 (.pick Qu Jd (.k (.bool false)))]) (.cond Qv (.goto 5) .skip)) alw
abbrev Wu:AC:= .seq alr alx
abbrev aly:AC:= .seq (.seq (.run [.m 98 bX, .o 99 (.aj bk 3), .o 100 (.load Qs false 1), .o 101 (.bin .sub Qr IL), .o 102 (.bin .gtr IM (.k (.int .i64 8)))]) (.cond IN (.goto 5) .skip)) (.seq (.goto 4) (.seq (.label 3) (.seq (.block 3 (.loop Wt)) Wu)))
abbrev alz:AC:= .seq alq (.seq (.run [.o 7 (.mv (.k (.int .i64 4)))]) aly)
abbrev alA:AC:= .seq (.label 1) (.seq (.block 1 (.loop alo)) (.seq (.goto 0) (.seq (.label 2) (.seq (.run [.m 84 aJ, .m 85 bX, .c 86 wM [DW,DX], .m 6 DY]) (.seq alp alz)))))
abbrev alB:AC:= .seq (.run [.m 62 aJ, .o 63 (.aj bk 3), .o 64 (.load oD false 1), .m 65 bX, .o 66 (.za oB (some p8) (some rR)), .o 67 (.aj bk 1), .op none none (.store sE sD 1)]) (.seq (.run [.o 7 (.mv (.k (.int .i64 2)))]) (.seq (.seq (.run [.m 68 bX, .o 69 (.aj bk 3), .o 70 (.load ur false 1), .o 71 (.bin .gtr rS sF)]) (.cond xD (.goto 4) .skip)) (.seq (.goto 5) alA)))
abbrev alC:AC:= .seq (.seq (.run [.m 27 aJ, .m 28 bX, .o 29 (.oU dY eP), .m 9 eK]) aln) (.seq (.run [.o 56 (.aj bk 0), .op none none (.store k5 (.k (.int .i64 4)) 1)]) (.seq (.run [.m 57 bX, .m 58 aJ, .m 59 bX, .c 60 zA [lF,kF], .o 61 (.bin .add lO nn), .m 6 oA]) alB))
abbrev vP:AC:= .seq (.seq (.run [.m 14 bX, .m 15 aJ, .o 16 (.nK cv), .o 17 (.bin .geq bK cq)]) alj) (.seq (.run [.m 25 bX, .o 26 (.build [(.int .i64 0),(.str []),(.int .i64 0),(.int .i64 0)] [(3,(1,di))]), .op none none (.store bk dX 4)]) alC)
abbrev alD:AC:= .seq (.seq (.run [.m 10 aJ, .o 11 (.nK bD), .o 12 (.bin .gtr bU (.k (.int .i64 100000)))]) (.cond bZ ali .skip)) (.seq (.label 0) vP)
abbrev alE:AC:= .seq (.run [.o 5 (.alloc [(.int .i64 0),(.str []),(.int .i64 0),(.int .i64 0)])]) (.seq (.run [.o 6 (.mv (.k (.int .i64 0))), .o 7 (.mv (.k (.int .i64 0))), .o 8 (.mv (.k (.bool true)))]) alD)
abbrev qN:AC:= .seq (.run [.o 4 (.mv (.k (.slice .full 0 [])))]) alE
abbrev alG:AC:= .scope qN
abbrev alH:AC:= .seq (.run [.o 2 (.mv (.k (.slice .full 0 []))), .o 3 (.alloc [(.int .i64 0),(.int .i64 0)])]) alG
abbrev alI:AC:= .seq (.seq (.run [.m 4 aJ,(.c 5 dO [dw,(.k (.str [103,108,111,98,97,108]))])]) (.cond bk .skip (.exit 0))) (.block 1 (.run [.m 6 aJ, .o 7 (.aj bO 0), .o 8 (.load bT false 1), .c 9 jC [bX,bS,(.k (.int .i64 16))], .o 10 (.aj bO 0), .op none none (.store bD cu 1)]))
abbrev alJ:AC:= .seq (.run [.o 17 (.aj bO 1), .o 18 (.load cU false 1), .o 19 (.len cT), .o 20 (.bin .eql dh (.k (.int .i64 16)))]) (.cond dt (.seq (.run [.m 21 aJ, .c 22 e9 [dB,(.k (.int .i64 4))]]) (.seq (.run [.o 23 (.load bO true 2), .op none none (.store cZ dJ 2)]) .ret)) .skip)
abbrev alK:AC:= .par [.o 31 (.aj bO 1), .o 32 (.load eV false 1), .m 33 aJ, .c 34 oy [eZ], .o 35 (.cD [(.str []),(.slice .full 0 []),(.slice .full 0 []),(.slice .full 0 []),(.slice .full 0 [])] 5 1 [(0,fj)]), .o 36 (.app 5 112 fa fb), .o 37 (.aj bO 1), .op none none (.store fF fk 1)] [(2,0),(3,0),(0,0),(1,1),(4,0),(5,0),(6,0),(7,0)]
abbrev alL:AC:= .seq alJ (.seq (.run [.m 24 aJ, .o 25 (.bq df), .o 26 (.aj di 1), .o 27 (.load dX false 1), .o 28 (.bin .add dY (.k (.int .i64 1))), .o 29 (.bq df), .o 30 (.aj eK 1), .op none none (.store eU eP 1)]) alK)
abbrev adU:AC:= .seq (.seq (.run [.m 11 aJ, .c 12 c6 [bU], .m 13 bZ, .g 14 13 true (.mv aJ),(.d 15 13 true fA [bK,(.k (.str [112,114,111,99]))]), .o 16 (.pick bV cv (.k (.bool false)))]) (.cond cq .skip (.exit 2))) (.block 3 alL)
abbrev adV:AC:= .seq (.seq (.run [.m 38 aJ, .c 39 c6 [fQ], .m 40 fR, .g 41 40 true (.mv aJ), .d 42 40 true dP [ga], .g 43 40 true (.uC gU 0 false 1), .g 44 40 true (.bin .neq gV (.k (.int .i64 0))), .o 45 (.pick gh iF (.k (.bool false)))]) (.cond jb (.run [.m 46 aJ, .c 47 e9 [jc,(.k (.int .i64 3))]]) .skip)) (.seq (.run [.o 48 (.load bO true 2), .op none none (.store cZ iA 2)]) .ret)
abbrev alM:AC:= .seq (.run [.o 2 (.alloc [(.slice .full 0 []),(.slice .full 0 [])])]) (.seq (.run [.o 3 (.alloc [(.slice .full 0 []),(.slice .full 0 [])])]) (.seq (.block 0 (.loop alI)) (.seq (.block 2 (.loop adU)) adV)))
abbrev alN:AC:= .cond cU (.seq (.run [.o 2 (.mv (.k (.int .i64 2)))]) .ret) .skip
abbrev alO:AC:= .cond bD (.seq (.run [.o 2 (.mv (.k (.int .i64 1)))]) .ret) (.seq (.run [.m 18 aJ, .o 19 (.bin .geq cT (.k (.int .i64 5))), .m 20 dh, .g 21 20 true (.mv aJ), .g 22 20 true (.bin .leq dB (.k (.int .i64 17))), .o 23 (.pick dt dI (.k (.bool false))), .m 17 dJ]) alN)
abbrev alP:AC:= .cond bO (.seq (.run [.o 2 (.mv (.k (.int .i64 0)))]) .ret) (.seq (.run [.m 11 aJ, .o 12 (.bin .eql bU (.k (.int .i64 3))), .m 13 bZ, .g 14 13 false (.mv aJ), .g 15 13 false (.bin .eql bK (.k (.int .i64 4))), .o 16 (.pick bV (.k (.bool true)) cv), .m 10 cq]) alO)
abbrev alQ:AC:= .block 0 (.seq (.run [.m 4 aJ, .o 5 (.bin .eql dw (.k (.int .i64 1))), .m 6 bk, .g 7 6 false (.mv aJ), .g 8 6 false (.bin .eql bT (.k (.int .i64 2))), .o 9 (.pick bX (.k (.bool true)) bS), .m 3 cu]) alP)
abbrev alR:AC:= .seq (.run [(.o 2 (.mv (.k (.int .i64 (-1)))))]) .ret
abbrev alS:AC:= .seq (.run [.o 2 (.mv (.k (.int .i64 0)))]) (.seq alQ alR)
abbrev alT:AC:= .cond cq (.seq (.run [.o 2 (.mv (.k (.bool true)))]) .ret) .skip
abbrev alU:AC:= .block 1 (.seq (.run [.m 9 bT, .o 10 (.cr bk bT 1), .o 11 (.load bD false 1), .m 3 cu, .m 4 bU]) (.seq (.run [.m 12 aJ, .m 13 bO, .o 14 (.Et 1 bZ none (some bV)), .m 15 dw, .c 16 cB [bK,cv]]) alT))
abbrev alV:AC:= .seq (.cond bS .skip (.exit 0)) (.seq alU (.run [.o 17 (.bin .add bT (.k (.int .i64 1))), .m 7 cU]))
abbrev alW:AC:= .seq (.run [.m 5 aJ, .o 6 (.len bk), .o 7 (.mv (.k (.int .i64 0)))]) (.block 0 (.loop (.seq (.run [.o 8 (.bin .lss bT bX)]) alV)))
abbrev alX:AC:= .seq alW (.seq (.run [.o 2 (.mv (.k (.bool false)))]) .ret)
abbrev alY:AC:= .seq (.run [.o 2 (.mv (.k (.bool false)))]) alX
abbrev alZ:AC:= .seq (.run [.o 4 (.mv (.k (.bool false)))]) (.seq (.run [.m 5 aJ, .m 6 a7, .c 7 kZ [bk,bX], .o 8 (.bin .geq bT (.k (.int .i64 0))), .m 4 bS]) .ret)
abbrev al0:AC:= .seq (.run [.o 3 (.mv (.k (.bool false)))]) (.seq (.run [.o 4 (.aj a7 0), .o 5 (.load dw false 1), .m 6 aJ, .c 7 cB [bk,bX], .m 3 bT]) .ret)
abbrev al1:AC:= .seq (.run [.o 4 (.mv (.k (.bool false)))]) (.seq (.run [.m 5 aJ, .m 6 a7, .c 7 fY [bk,bX], .o 8 (.bin .geq bT (.k (.int .i64 0))), .m 4 bS]) .ret)
abbrev al2:AC:= .par [.m 5 aJ, .o 6 (.bq bk), .o 7 (.aj bX 2), .o 8 (.load bT false 1), .m 9 aJ, .o 10 (.bq cu), .o 11 (.aj bD 3), .o 12 (.load bU false 1), .m 13 a7, .o 14 (.cr bZ bV 1), .o 15 (.load bK false 1), .o 16 (.bin .sub cv (.k (.int .i64 1))), .m 17 aJ, .o 18 (.bq cU), .o 19 (.aj cT 4), .o 20 (.load dh false 1), .m 21 a7, .o 22 (.cr dt dB 1), .o 23 (.load dI false 1), .o 24 (.bin .sub dJ (.k (.int .i64 1))), .o 25 (.Et 17 bS (some cq) (some df)), .m 4 di] [(0,0),(1,0),(2,0),(3,0),(4,0),(5,0),(6,0),(7,0),(8,0),(9,0),(10,0),(11,0),(12,0),(13,0),(14,0),(15,0),(16,0),(17,0),(18,0),(19,0),(20,0),(21,0)]
abbrev al3:AC:= .seq (.run [.o 4 (.mv (.k (.slice .full 0 [])))]) (.seq al2 .ret)
abbrev al4:AC:= .cond dI (.seq (.run [.o 8 (.mv (.k (.bool false)))]) .ret) .skip
abbrev al5:AC:= .seq (.run [.o 16 (.cr bZ bK 1), .o 17 (.load cq false 1), .m 10 cU]) (.seq (.run [.o 18 (.load dw true 2), .o 19 (.load bk true 5), .m 20 bD, .c 21 vF [cT,dh,dt], .o 22 (.bin .eql dB (.k (.int .i64 0)))]) al4)
abbrev al6:AC:= .seq (.cond cv .skip (.exit 0)) (.seq (.block 1 al5) (.run [.o 23 (.bin .add bK (.k (.int .i64 1))), .m 14 dJ]))
abbrev al7:AC:= .seq (.run [.o 11 (.load bT true 13), .c 12 rN [bU], .o 13 (.len bZ), .o 14 (.mv (.k (.int .i64 0)))]) (.block 0 (.loop (.seq (.run [.o 15 (.bin .lss bK bV)]) al6)))
abbrev al8:AC:= .seq al7 (.seq (.run [.o 24 (.aj bT 1), .o 25 (.load df false 1), .o 26 (.bin .neq di (.k (.int .i64 4))), .m 27 dX, .g 28 27 false (.aj bT 4), .g 29 27 false (.load eP false 1), .g 30 27 false (.bin .neq eK (.k (.str [109,97,105,110]))), .g 31 27 false (.mv eU), .g 32 31 true (.mv cZ), .g 33 31 true (.aj bT 4), .g 34 31 true (.load eZ false 1), .d 35 31 true cB [fa,fj], .g 36 27 false (.pick eV fb (.k (.bool false))), .o 37 (.pick dY (.k (.bool true)) fk), .m 8 fF]) .ret)
abbrev al9:AC:= .seq (.run [.o 4 (.box aJ), .o 5 (.box a7), .o 7 (.box bO), .o 8 (.mv (.k (.bool false)))]) al8
abbrev ama:AC:= .cond cu (.seq (.run [.o 4 (.mv (.k (.bool false)))]) .ret) .skip
abbrev amb:AC:= .seq (.run [.o 15 (.cr bU bV 5), .o 16 (.load cv true 5), .o 6 (.alloc [(.str []),(.slice .full 0 []),(.slice .full 0 []),(.slice .full 0 []),(.slice .full 0 [])]), .op none none (.store bX cq 5)]) (.seq (.run [.o 17 (.aj bX 0), .o 18 (.load cU false 1), .o 19 (.aj bO 4), .o 20 (.load dh false 1), .o 21 (.bin .eql cT dt)]) (.cond dB (.seq (.run [.o 22 (.aj bX 1), .o 23 (.load dI false 1), .o 24 (.aj bO 10), .o 25 (.load df false 1), .c 26 vG [dJ,di], .m 4 dX]) .ret) .skip))
abbrev amc:AC:= .seq (.cond bK .skip (.exit 0)) (.seq (.block 1 amb) (.run [.o 27 (.bin .add bV (.k (.int .i64 1))), .m 13 dY]))
abbrev amd:AC:= .seq (.run [.o 10 (.aj cZ 1), .o 11 (.load bD false 1), .o 12 (.len bU), .o 13 (.mv (.k (.int .i64 0)))]) (.block 0 (.loop (.seq (.run [.o 14 (.bin .lss bV bZ)]) amc)))
abbrev ame:AC:= .seq amd (.seq (.run [.o 4 (.mv (.k (.bool false)))]) .ret)
abbrev amf:AC:= .seq (.seq (.run [.o 7 (.aj bO 1), .o 8 (.load bT false 1), .o 9 (.bin .neq bS (.k (.int .i64 4)))]) ama) ame
abbrev amg:AC:= .seq (.run [.o 2 (.box aJ), .o 3 (.box a7), .o 4 (.mv (.k (.bool false)))]) amf
abbrev amh:AC:= .seq (.run [.o 3 (.load a7 true 2), .c 4 lS [bO], .o 5 (.uC dw 0 false 1), .o 6 (.bin .neq bk (.k (.int .i64 0)))]) (.cond bX (.seq (.run [.o 2 (.mv (.k .ek))]) .ret) .skip)
abbrev ami:AC:= .seq (.run [.o 1 (.box aJ), .o 2 (.mv (.k .ek))]) (.seq amh (.seq (.run [.o 7 (.load a7 true 2), .c 8 kY [bT], .m 2 bS]) .ret))
abbrev amj:AC:= .cond cq (.seq (.run [.m 17 aJ, .m 4 cU, .o 5 (.mv (.k (.bool false)))]) .ret) .skip
abbrev amk:AC:= .block 1 (.seq (.run [.o 12 (.cr bS bD 1), .o 13 (.load bZ false 1), .m 7 bV]) (.seq (.seq (.run [.m 14 aJ, .m 15 bT, .c 16 cB [bK,cv]]) amj) (.run [.m 18 aJ, .m 19 bT, .o 20 (.cD [(.str [])] 1 1 [(0,dh)]), .o 21 (.app 1 16 cT dt), .m 0 dB])))
abbrev aml:AC:= .seq (.cond bU .skip (.exit 0)) (.seq amk (.run [.o 22 (.bin .add bD (.k (.int .i64 1))), .m 10 dI]))
abbrev amm:AC:= .seq (.run [.m 8 a7, .o 9 (.len bS), .o 10 (.mv (.k (.int .i64 0)))]) (.block 0 (.loop (.seq (.run [.o 11 (.bin .lss bD cu)]) aml)))
abbrev amn:AC:= .seq amm (.seq (.run [.m 23 aJ, .m 4 dJ, .o 5 (.mv (.k (.bool true)))]) .ret)
abbrev amo:AC:= .seq (.run [.o 4 (.mv (.k (.slice .full 0 []))), .o 5 (.mv (.k (.bool false)))]) amn
abbrev amp:AC:= .seq (.run [.o 11 (.bin .eql cu (.k (.int .i64 7))), .m 10 bU]) (.cond bD .skip (.run [.o 12 (.bin .eql cu (.k (.int .i64 8))), .m 10 bZ]))
abbrev amq:AC:= .cond bD (.seq (.run [.o 13 (.aj bO 16), .o 14 (.load bV false 1), .o 15 (.bin .neq bK (.k (.int .i64 0))), .m 4 cv]) .ret) (.seq (.run [.o 17 (.bin .eql cu (.k (.int .i64 10))), .m 16 cU]) (.cond cq (.seq (.run [.m 19 aJ, .o 20 (.aj bO 13), .o 21 (.load dt false 1), .o 22 (.aj bO 0), .o 23 (.aj dI 3), .o 24 (.load dJ false 1), .c 25 oM [dh,dB,df], .m 18 di, .o 26 (.ext cT 0), .o 27 (.ext cT 1), .m 5 dX, .m 6 dY]) (.seq (.run [.m 28 bX, .m 4 eP]) .ret)) .skip))
abbrev amr:AC:= .seq (.seq (.run [.o 7 (.aj bO 0), .o 8 (.aj bT 1), .o 9 (.load bS false 1)]) (.block 0 (.seq amp amq))) (.seq (.run [.o 4 (.mv (.k (.bool true)))]) .ret)
abbrev ams:AC:= .seq (.run [.o 3 (.box a7), .o 4 (.mv (.k (.bool false)))]) amr
abbrev amt:AC:= .cond cq (.seq (.run [.o 4 (.mv (.k (.slice .full 0 [])))]) .ret) .skip
abbrev amu:AC:= .seq (.run [.o 43 (.cr fR ga 1), .o 44 (.load gV false 1), .m 12 iF]) (.seq (.run [.o 45 (.aj cZ 0), .o 46 (.load jb false 1), .m 47 bZ, .c 48 cB [jc,jF]]) (.cond iA (.run [.m 49 bX, .m 50 bZ, .o 51 (.cD [(.str [])] 1 1 [(0,jG)]), .o 52 (.app 1 16 iO jd), .m 6 je]) .skip))
abbrev amv:AC:= .seq (.cond gU .skip (.exit 4)) (.seq (.block 5 amu) (.run [.o 53 (.bin .add ga (.k (.int .i64 1))), .m 41 jf]))
abbrev amw:AC:= .seq (.run [.o 37 (.aj bD 0), .o 38 (.load fF true 13), .c 39 rN [fQ], .o 40 (.len fR), .o 41 (.mv (.k (.int .i64 0)))]) (.block 4 (.loop (.seq (.run [.o 42 (.bin .lss ga gh)]) amv)))
abbrev amx:AC:= .seq (.block 3 (.seq (.run [.o 35 (.cr eV eZ 17), .o 36 (.load fb true 17), .o 10 (.alloc [(.int .i64 0),(.int .i64 0),(.slice .full 0 []),(.str []),(.str []),(.int .i64 0),(.int .i64 0),(.str []),(.slice .full 0 []),(.bool false),(.slice .full 0 []),(.slice .full 0 []),(.slice .full 0 []),(.int .i64 0),(.int .i64 0),(.int .i64 0),(.int .i64 0)]), .op none none (.store bD fk 17)]) amw)) (.run [.o 54 (.bin .add eZ (.k (.int .i64 1))), .m 33 jH])
abbrev amy:AC:= .block 2 (.loop (.seq (.run [.o 34 (.bin .lss eZ fa)]) (.seq (.cond fj .skip (.exit 2)) amx)))
abbrev amz:AC:= .seq (.run [.o 25 (.cr dB dJ 1), .o 26 (.load di false 1), .m 8 dX]) (.seq (.run [.m 27 bk, .m 28 bk, .m 29 bS, .c 30 iE [eP,eK], .c 31 gQ [dY,eU], .o 32 (.len eV), .o 33 (.mv (.k (.int .i64 0)))]) amy)
abbrev amA:AC:= .seq (.cond df .skip (.exit 0)) (.seq (.block 1 amz) (.run [.o 55 (.bin .add dJ (.k (.int .i64 1))), .m 23 jI]))
abbrev amB:AC:= .seq (.run [.m 19 bk, .m 20 a7, .c 21 xA [dh,dt], .o 22 (.len dB), .o 23 (.mv (.k (.int .i64 0)))]) (.block 0 (.loop (.seq (.run [.o 24 (.bin .lss dJ dI)]) amA)))
abbrev amC:AC:= .seq (.run [.o 17 (.load cZ true 2), .c 18 kY [cU], .m 5 cT]) (.seq (.run [.o 6 (.mv (.k (.slice .full 0 [])))]) (.seq amB (.seq (.run [.m 56 bX, .c 57 jD [k5]]) (.seq (.run [.m 58 bX, .c 59 j7 [lF], .m 4 kF]) .ret))))
abbrev amD:AC:= .seq (.run [.o 2 (.box aJ), .o 4 (.mv (.k (.slice .full 0 [])))]) (.seq (.seq (.run [.o 13 (.load cZ true 2), .m 14 a7, .c 15 uk [bV,bK], .o 16 (.un .not cv)]) amt) amC)
abbrev amE:AC:= .cond fj (.seq (.run [.o 4 (.mv (.k (.bool false)))]) .ret) .skip
abbrev amF:AC:= .seq (.seq (.run [.m 18 bk, .o 19 (.aj bT 1), .o 20 (.load dh false 1), .c 21 cB [cT,dt], .m 22 dB, .g 23 22 false (.aj bT 1), .g 24 22 false (.load dJ false 1), .g 25 22 false (.aj cZ 3), .g 26 22 false (.load di false 1), .g 27 22 false (.bin .eql df dX), .o 28 (.pick dI (.k (.bool true)) dY), .m 29 eP, .g 30 29 false (.mv a7), .g 31 29 false (.aj bT 1), .g 32 29 false (.load eV false 1), .d 33 29 false cB [eU,fa], .o 34 (.pick eK (.k (.bool true)) eZ)]) amE) (.run [.m 35 bk, .o 36 (.aj bT 1), .o 37 (.load fk false 1), .o 38 (.cD [(.str [])] 1 1 [(0,fF)]), .o 39 (.app 1 16 fb fQ), .m 5 fR])
abbrev amG:AC:= .block 1 (.seq (.run [.o 13 (.cr cu bU 6), .o 14 (.load bV true 6), .o 7 (.alloc [(.bool false),(.str []),(.int .i64 0),(.int .i64 0),(.str []),(.slice .full 0 [])]), .op none none (.store bT bK 6)]) (.seq (.seq (.run [.o 15 (.aj bT 0), .o 16 (.load cv false 1), .o 17 (.un .not cq)]) (.cond cU (.exit 1) .skip)) amF))
abbrev amH:AC:= .seq (.cond bZ .skip (.exit 0)) (.seq amG (.run [.o 40 (.bin .add bU (.k (.int .i64 1))), .m 11 gh]))
abbrev amI:AC:= .seq (.run [.o 8 (.aj cZ 10), .o 9 (.load bS false 1), .o 10 (.len cu), .o 11 (.mv (.k (.int .i64 0)))]) (.block 0 (.loop (.seq (.run [.o 12 (.bin .lss bU bD)]) amH)))
abbrev amJ:AC:= .seq amI (.seq (.run [.o 4 (.mv (.k (.bool true)))]) .ret)
abbrev amK:AC:= .seq (.run [.o 2 (.box aJ), .o 4 (.mv (.k (.bool false)))]) (.seq (.run [.o 5 (.mv (.k (.slice .full 0 [])))]) amJ)
abbrev amL:AC:= .seq (.run [.o 2 (.mv (.k (.bool false)))]) (.seq (.run [.m 3 aJ, .o 4 (.bin .geq bO (.k (.int .u8 97))), .m 5 dw, .g 6 5 true (.mv aJ), .g 7 5 true (.bin .leq bX (.k (.int .u8 122))), .o 8 (.pick bk bT (.k (.bool false))), .m 2 bS]) .ret)
abbrev amM:AC:= .seq (.seq (.run [.m 5 a7, .m 6 aJ, .o 7 (.nK bX), .o 8 (.bin .lss bk bT), .m 9 bS, .g 10 9 true (.mv aJ), .g 11 9 true (.mv a7), .g 12 9 true (.oU bD bU), .d 13 9 true pf [bZ], .g 14 9 true (.mv bV), .g 15 14 false (.mv aJ), .g 16 14 false (.mv a7), .g 17 14 false (.oU cv cq), .d 18 14 false qk [cU], .g 19 9 true (.pick bK (.k (.bool true)) cT), .o 20 (.pick cu dh (.k (.bool false)))]) (.cond dt .skip (.exit 0))) (.block 1 (.run [.m 21 a7, .o 22 (.bin .add dB (.k (.int .i64 1))), .m 1 dI]))
abbrev amN:AC:= .seq (.run [.o 4 (.mv (.k (.int .i64 0)))]) (.seq (.block 0 (.loop amM)) (.seq (.run [.m 23 a7, .m 4 dJ]) .ret))
abbrev amO:AC:= .seq (.run [.o 16 (.bin .eql bO (.k (.str [114,101,97,100]))), .m 4 cq]) (.cond dw .skip (.run [.o 17 (.bin .eql bO (.k (.str [112,114,105,110,116]))), .m 4 cU]))
abbrev amP:AC:= .cond dw .skip (.seq (.run [.o 15 (.bin .eql bO (.k (.str [103,111,116,111]))), .m 4 cv]) (.cond dw .skip amO))
abbrev amQ:AC:= .cond dw .skip (.seq (.run [.o 14 (.bin .eql bO (.k (.str [114,101,116,117,114,110]))), .m 4 bK]) amP)
abbrev amR:AC:= .cond dw .skip (.seq (.run [.o 13 (.bin .eql bO (.k (.str [99,111,110,116,105,110,117,101]))), .m 4 bV]) amQ)
abbrev amS:AC:= .cond dw .skip (.seq (.run [.o 12 (.bin .eql bO (.k (.str [98,114,101,97,107]))), .m 4 bZ]) amR)
abbrev amT:AC:= .cond dw .skip (.seq (.run [.o 11 (.bin .eql bO (.k (.str [119,104,105,108,101]))), .m 4 bU]) amS)
abbrev amU:AC:= .cond dw .skip (.seq (.run [.o 10 (.bin .eql bO (.k (.str [101,108,115,101]))), .m 4 bD]) amT)
abbrev amV:AC:= .cond dw .skip (.seq (.run [.o 9 (.bin .eql bO (.k (.str [105,102]))), .m 4 cu]) amU)
abbrev amW:AC:= .cond dw .skip (.seq (.run [.o 8 (.bin .eql bO (.k (.str [114,101,102]))), .m 4 bS]) amV)
abbrev amX:AC:= .cond dw .skip (.seq (.run [.o 7 (.bin .eql bO (.k (.str [118,97,114]))), .m 4 bT]) amW)
abbrev amY:AC:= .cond dw .skip (.seq (.run [.o 6 (.bin .eql bO (.k (.str [112,114,111,99]))), .m 4 bX]) amX)
abbrev amZ:AC:= .cond dw (.seq (.run [.o 2 (.mv (.k (.bool true)))]) .ret) .skip
abbrev am0:AC:= .seq (.seq (.run [.o 5 (.bin .eql bO (.k (.str [103,108,111,98,97,108]))), .m 4 bk]) amY) amZ
abbrev am1:AC:= .seq (.seq (.run [.m 3 aJ]) (.block 0 am0)) (.seq (.run [.o 2 (.mv (.k (.bool false)))]) .ret)
abbrev am2:AC:= .seq (.run [.o 2 (.mv (.k (.bool false)))]) am1
abbrev am3:AC:= .par [.o 10 (.aj a7 9), .o 11 (.load bD false 1), .o 3 (.mv (.k (.bool false))), .o 4 (.mv (.k (.bool false))), .o 5 (.mv (.k (.bool false))), .m 6 bU, .o 7 (.mv (.k (.bool false))), .o 8 (.mv (.k (.bool false)))] [(0,0),(1,0),(2,0),(3,0),(4,0),(5,0),(6,0),(7,0)]
abbrev am4:AC:= .seq (.run [.o 20 (.bin .eql cq (.k (.int .i64 2))), .m 19 dt]) (.cond dh .skip (.run [.o 21 (.bin .eql cq (.k (.int .i64 10))), .m 19 dB]))
abbrev am5:AC:= .seq (.run [.o 38 (.bin .eql cq (.k (.int .i64 7))), .m 37 fQ]) (.cond fF .skip (.run [.o 39 (.bin .eql cq (.k (.int .i64 8))), .m 37 fR]))
abbrev am6:AC:= .cond fF .skip (.seq (.run [.o 2 (.mv (.k (.bool false)))]) .ret)
abbrev am7:AC:= .seq (.run [.o 34 (.bin .eql cq (.k (.int .i64 9))), .m 33 fj]) (.cond eZ (.run [.o 35 (.aj a7 9), .o 36 (.load fb false 1), .m 5 fk, .o 6 (.mv (.k (.bool false)))]) (.seq am5 am6))
abbrev am8:AC:= .seq (.run [.o 32 (.bin .eql cq (.k (.int .i64 6))), .m 31 fa]) (.cond eV (.run [.o 5 (.mv (.k (.bool true))), .o 7 (.mv (.k (.bool true)))]) am7)
abbrev am9:AC:= .seq (.run [.o 30 (.bin .eql cq (.k (.int .i64 5))), .m 29 eU]) (.cond eK (.run [.o 5 (.mv (.k (.bool true))), .o 7 (.mv (.k (.bool true))), .o 8 (.mv (.k (.bool true)))]) am8)
abbrev ana:AC:= .seq (.run [.o 25 (.bin .eql cq (.k (.int .i64 4))), .m 24 di]) (.cond df (.run [.o 26 (.aj a7 3), .o 27 (.load dX false 1), .o 28 (.bin .neq dY (.k (.str []))), .m 3 eP, .o 4 (.mv (.k (.bool true)))]) am9)
abbrev anb:AC:= .seq (.run [.o 23 (.bin .eql cq (.k (.int .i64 3))), .m 22 dJ]) (.cond dI (.run [.o 5 (.mv (.k (.bool true)))]) ana)
abbrev anc:AC:= .seq am4 (.cond dh (.run [.o 3 (.mv (.k (.bool true)))]) anb)
abbrev ane:AC:= .seq (.run [.o 18 (.bin .eql cq (.k (.int .i64 1))), .m 17 cT]) (.cond cU (.run [.o 3 (.mv (.k (.bool true))), .o 5 (.mv (.k (.bool true)))]) anc)
abbrev anf:AC:= .run [.m 40 bX, .m 41 gh, .g 42 41 false (.mv bT), .g 43 41 false (.un .not gU), .g 44 41 false (.mv gV), .g 45 44 true (.aj a7 11), .g 46 44 true (.load jb false 1), .g 47 44 true (.len jc), .g 48 44 true (.bin .gtr jF (.k (.int .i64 0))), .g 49 41 false (.pick iF iA (.k (.bool false))), .o 50 (.pick ga (.k (.bool true)) iO), .m 51 jG, .g 52 51 false (.mv bS), .g 53 51 false (.un .not je), .g 54 51 false (.mv jf), .g 55 54 true (.aj a7 12), .g 56 54 true (.load jI false 1), .g 57 54 true (.len k5), .g 58 54 true (.bin .gtr lO (.k (.int .i64 0))), .g 59 51 false (.pick jH lF (.k (.bool false))), .o 60 (.pick jd (.k (.bool true)) kF), .m 61 nn, .g 62 61 false (.mv cu), .g 63 61 false (.un .not oB), .g 64 61 false (.mv oD), .g 65 64 true (.aj a7 10), .g 66 64 true (.load rR false 1), .g 67 64 true (.len sD), .g 68 64 true (.bin .gtr sE (.k (.int .i64 0))), .g 69 61 false (.pick p8 rS (.k (.bool false))), .o 70 (.pick oA (.k (.bool true)) ur)]
abbrev ang:AC:= .cond sF (.seq (.run [.o 2 (.mv (.k (.bool false)))]) .ret) .skip
abbrev anh:AC:= .cond zC (.seq (.run [.o 2 (.mv (.k (.bool false)))]) .ret) .skip
abbrev adW:AC:= .seq (.seq (.run [.o 71 (.aj a7 3), .o 72 (.load xD false 1), .m 73 bO, .c 74 pg [vK,vL], .o 75 (.un .not xE), .m 76 xF, .g 77 76 false (.aj a7 4), .g 78 76 false (.load xG false 1), .g 79 76 false (.mv dw), .d 80 76 false pg [vN,BD], .g 81 76 false (.un .not BE), .o 82 (.pick vM (.k (.bool true)) BF), .m 83 DU, .g 84 83 false (.aj a7 5), .g 85 83 false (.load DW true 4), .g 86 83 false (.mv bk), .d 87 83 false rO [DX,DY], .g 88 83 false (.un .not DZ), .o 89 (.pick DV (.k (.bool true)) D0)]) anh) (.seq (.run [.o 90 (.aj a7 10), .o 91 (.load BG false 1), .c 92 um [D1], .m 2 Gg]) .ret)
abbrev adX:AC:= .seq (.seq anf ang) adW
abbrev Wv:AC:= .seq (.seq (.run [.o 15 (.aj a7 1), .o 16 (.load cv false 1)]) (.block 0 ane)) adX
abbrev adY:AC:= .seq (.run [.o 12 (.aj a7 1), .o 13 (.load bZ false 1), .o 14 (.bin .eql bV (.k (.int .i64 4))), .m 9 bK]) Wv
abbrev adZ:AC:= .seq am3 adY
abbrev ani:AC:= .seq (.run [.o 1 (.box aJ), .o 2 (.mv (.k (.bool false)))]) adZ
abbrev anj:AC:= .par [.o 15 (.aj a7 3), .o 16 (.load cv false 1), .o 17 (.load bk true 4), .c 18 my [cU], .o 19 (.cD [(.int .i64 0),(.int .i64 0),(.str []),(.slice .full 0 [])] 4 1 [(0,cT)]), .o 20 (.app 4 56 cq dh), .o 21 (.aj a7 3), .op none none (.store dB dt 1)] [(2,0),(3,0),(0,0),(1,1),(4,0),(5,0),(6,0),(7,0)]
abbrev ank:AC:= .seq (.block 1 (.seq (.run [.o 13 (.cr cu bU 4), .o 14 (.load bV true 4), .o 5 (.alloc [(.int .i64 0),(.int .i64 0),(.str []),(.slice .full 0 [])]), .op none none (.store bk bK 4)]) anj)) (.run [.o 22 (.bin .add bU (.k (.int .i64 1))), .m 11 dI])
abbrev anl:AC:= .block 0 (.loop (.seq (.run [.o 12 (.bin .lss bU bD)]) (.seq (.cond bZ .skip (.exit 0)) ank)))
abbrev anm:AC:= .seq (.seq (.run [.m 9 bO, .o 10 (.len cu), .o 11 (.mv (.k (.int .i64 0)))]) anl) (.seq (.run [.o 23 (.load a7 true 4), .op none none (.store cZ dJ 4)]) .ret)
abbrev ann:AC:= .seq (.run [.o 6 (.aj a7 3), .o 7 (.load bX false 1), .m 3 bT]) (.seq (.run [.o 8 (.aj a7 3), .op none none (.store bS (.k (.slice .full 0 [])) 1)]) anm)
abbrev ano:AC:= .seq (.run [.o 1 (.box aJ), .o 2 (.alloc [(.int .i64 0),(.int .i64 0),(.str []),(.slice .full 0 [])])]) ann
abbrev anp:AC:= .cond cU (.seq (.run [.o 2 (.mv (.k (.int .i64 2)))]) .ret) .skip
abbrev anq:AC:= .cond bD (.seq (.run [.o 2 (.mv (.k (.int .i64 1)))]) .ret) (.seq (.run [.m 18 aJ, .o 19 (.bin .geq cT (.k (.int .i64 5))), .m 20 dh, .g 21 20 true (.mv aJ), .g 22 20 true (.bin .leq dB (.k (.int .i64 17))), .o 23 (.pick dt dI (.k (.bool false))), .m 17 dJ]) anp)
abbrev anr:AC:= .cond bO (.seq (.run [.o 2 (.mv (.k (.int .i64 0)))]) .ret) (.seq (.run [.m 11 aJ, .o 12 (.bin .eql bU (.k (.int .i64 3))), .m 13 bZ, .g 14 13 false (.mv aJ), .g 15 13 false (.bin .eql bK (.k (.int .i64 4))), .o 16 (.pick bV (.k (.bool true)) cv), .m 10 cq]) anq)
abbrev ans:AC:= .block 0 (.seq (.run [.m 4 aJ, .o 5 (.bin .eql dw (.k (.int .i64 1))), .m 6 bk, .g 7 6 false (.mv aJ), .g 8 6 false (.bin .eql bT (.k (.int .i64 2))), .o 9 (.pick bX (.k (.bool true)) bS), .m 3 cu]) anr)
abbrev ant:AC:= .seq (.run [(.o 2 (.mv (.k (.int .i64 (-1)))))]) .ret
abbrev anu:AC:= .seq (.run [.o 2 (.mv (.k (.int .i64 0)))]) (.seq ans ant)
abbrev anv:AC:= .cond bO (.seq (.run [.o 2 (.mv (.k (.int .i64 1)))]) .ret) .skip
abbrev anw:AC:= .seq (.seq (.run [.m 3 aJ]) anv) (.seq (.run [.o 2 (.mv (.k (.int .i64 0)))]) .ret)
abbrev anx:AC:= .seq (.run [.o 2 (.mv (.k (.int .i64 0)))]) anw
abbrev anz:AC:= .cond cu (.seq (.run [.o 6 (.mv (.k (.int .i64 0))), .o 7 (.mv (.k (.bool false)))]) .ret) .skip
abbrev anA:AC:= .cond bV (.seq (.run [.o 6 (.mv (.k (.int .i64 0))), .o 7 (.mv (.k (.bool true)))]) .ret) .skip
abbrev anB:AC:= .cond cv (.seq (.run [.m 16 a7, .m 6 cq, .o 7 (.mv (.k (.bool true)))]) .ret) .skip
abbrev anC:AC:= .seq (.run [.m 14 a7,(.o 15 (.bin .eql bK (.k (.int .i64 (-9223372036854775808)))))]) anB
abbrev anD:AC:= .seq anC (.seq (.run [.m 17 a7, .o 18 (.bin .sub (.k (.int .i64 0)) cU), .m 6 cT, .o 7 (.mv (.k (.bool true)))]) .ret)
abbrev anE:AC:= .seq (.seq (.run [.m 12 aJ, .o 13 (.bin .eql bZ (.k (.int .i64 7)))]) anA) anD
abbrev anF:AC:= .seq (.run [.m 10 cZ,(.o 11 (.bin .eql bD (.k (.int .i64 (-1)))))]) (.cond bU anE .skip)
abbrev anG:AC:= .cond dt (.seq (.run [.m 21 a7, .m 22 cZ, .o 23 (.bin .rem dB dI), .m 6 dJ, .o 7 (.mv (.k (.bool true)))]) .ret) .skip
abbrev anH:AC:= .seq (.seq (.run [.m 19 aJ, .o 20 (.bin .eql dh (.k (.int .i64 7)))]) anG) (.seq (.run [.m 24 a7, .m 25 cZ, .o 26 (.bin .quo df di), .m 6 dX, .o 7 (.mv (.k (.bool true)))]) .ret)
abbrev anI:AC:= .seq (.seq (.run [.m 8 cZ, .o 9 (.bin .eql bS (.k (.int .i64 0)))]) anz) (.seq anF anH)
abbrev anJ:AC:= .seq (.run [.o 6 (.mv (.k (.int .i64 0))), .o 7 (.mv (.k (.bool false)))]) anI
abbrev anK:AC:= .cond fR (.seq (.run [.m 41 a7, .m 42 cZ, .o 43 (.bin .neq ga gU), .c 44 jB [gV], .m 6 iF, .o 7 (.mv (.k (.bool true)))]) .ret) .skip
abbrev anL:AC:= .cond eZ (.seq (.run [.m 35 a7, .m 36 cZ, .o 37 (.bin .eql fb fk), .c 38 jB [fF], .m 6 fQ, .o 7 (.mv (.k (.bool true)))]) .ret) (.seq (.run [.o 40 (.bin .eql bS (.k (.int .i64 15))), .m 39 gh]) anK)
abbrev anM:AC:= .cond dY (.seq (.run [.m 29 a7, .m 30 cZ, .o 31 (.bin .geq eK eU), .c 32 jB [eV], .m 6 fa, .o 7 (.mv (.k (.bool true)))]) .ret) (.seq (.run [.o 34 (.bin .eql bS (.k (.int .i64 14))), .m 33 fj]) anL)
abbrev anN:AC:= .cond dB (.seq (.run [.m 23 a7, .m 24 cZ, .o 25 (.bin .gtr dJ df), .c 26 jB [di], .m 6 dX, .o 7 (.mv (.k (.bool true)))]) .ret) (.seq (.run [.o 28 (.bin .eql bS (.k (.int .i64 13))), .m 27 eP]) anM)
abbrev anO:AC:= .cond cv (.seq (.run [.m 17 a7, .m 18 cZ, .o 19 (.bin .leq cU cT), .c 20 jB [dh], .m 6 dt, .o 7 (.mv (.k (.bool true)))]) .ret) (.seq (.run [.o 22 (.bin .eql bS (.k (.int .i64 12))), .m 21 dI]) anN)
abbrev anP:AC:= .cond cu (.seq (.run [.m 11 a7, .m 12 cZ, .o 13 (.bin .lss bU bZ), .c 14 jB [bV], .m 6 bK, .o 7 (.mv (.k (.bool true)))]) .ret) (.seq (.run [.o 16 (.bin .eql bS (.k (.int .i64 11))), .m 15 cq]) anO)
abbrev anQ:AC:= .block 0 (.seq (.run [.o 10 (.bin .eql bS (.k (.int .i64 10))), .m 9 bD]) anP)
abbrev anR:AC:= .seq (.seq (.run [.m 8 aJ]) anQ) (.seq (.run [.o 6 (.mv (.k (.int .i64 0))), .o 7 (.mv (.k (.bool false)))]) .ret)
abbrev anS:AC:= .seq (.run [.o 6 (.mv (.k (.int .i64 0))), .o 7 (.mv (.k (.bool false)))]) anR
abbrev anT:AC:= .seq (.block 1 (.seq (.run [.o 13 (.cr cu bU 13), .o 14 (.load bV true 13), .o 5 (.alloc [(.int .i64 0),(.int .i64 0),(.slice .full 0 []),(.str []),(.str []),(.int .i64 0),(.int .i64 0),(.str []),(.slice .full 0 []),(.bool false),(.slice .full 0 []),(.slice .full 0 []),(.slice .full 0 [])]), .op none none (.store bk bK 13)]) (.run [.m 15 bO, .o 16 (.load bk true 13), .c 17 mz [cq], .o 18 (.bin .add cv cU), .m 3 cT]))) (.run [.o 19 (.bin .add bU (.k (.int .i64 1))), .m 11 dh])
abbrev anU:AC:= .block 0 (.loop (.seq (.run [.o 12 (.bin .lss bU bD)]) (.seq (.cond bZ .skip (.exit 0)) anT)))
abbrev anV:AC:= .seq (.block 3 (.seq (.run [.o 25 (.cr dB dJ 13), .o 26 (.load di true 13), .o 7 (.alloc [(.int .i64 0),(.int .i64 0),(.slice .full 0 []),(.str []),(.str []),(.int .i64 0),(.int .i64 0),(.str []),(.slice .full 0 []),(.bool false),(.slice .full 0 []),(.slice .full 0 []),(.slice .full 0 [])]), .op none none (.store bT dX 13)]) (.run [.m 27 bO, .o 28 (.load bT true 13), .c 29 mz [eP], .o 30 (.bin .add dY eK), .m 3 eU]))) (.run [.o 31 (.bin .add dJ (.k (.int .i64 1))), .m 23 eV])
abbrev anW:AC:= .block 2 (.loop (.seq (.run [.o 24 (.bin .lss dJ dI)]) (.seq (.cond df .skip (.exit 2)) anV)))
abbrev anX:AC:= .seq (.seq (.run [.o 20 (.aj a7 12), .o 21 (.load dt false 1), .o 22 (.len dB), .o 23 (.mv (.k (.int .i64 0)))]) anW) (.seq (.run [.m 32 bO, .m 2 fa]) .ret)
abbrev anY:AC:= .seq (.seq (.run [.o 8 (.aj a7 11), .o 9 (.load bS false 1), .o 10 (.len cu), .o 11 (.mv (.k (.int .i64 0)))]) anU) anX
abbrev anZ:AC:= .seq (.run [.o 1 (.box aJ), .o 2 (.mv (.k (.int .i64 0)))]) (.seq (.run [.o 3 (.mv (.k (.int .i64 1)))]) anY)
abbrev an0:AC:= .seq (.run [.o 4 (.mv (.k (.bool false)))]) (.seq (.run [.m 5 aJ, .m 6 a7, .c 7 ph [bk,bX], .o 8 (.bin .geq bT (.k (.int .i64 0))), .m 4 bS]) .ret)
abbrev an1:AC:= .seq (.run [.o 2 (.mv (.k (.bool false)))]) (.seq (.run [.m 3 aJ, .o 4 (.bin .geq bO (.k (.int .u8 48))), .m 5 dw, .g 6 5 true (.mv aJ), .g 7 5 true (.bin .leq bX (.k (.int .u8 57))), .o 8 (.pick bk bT (.k (.bool false))), .m 2 bS]) .ret)
abbrev an2:AC:= .seq (.run [.o 20 (.bin .eql bK (.k (.str [38,38]))), .m 15 dt]) (.cond cv .skip (.run [.o 21 (.bin .eql bK (.k (.str [124,124]))), .m 15 dB]))
abbrev an3:AC:= .cond cv .skip (.seq (.run [.o 19 (.bin .eql bK (.k (.str [62,61]))), .m 15 dh]) (.cond cv .skip an2))
abbrev an4:AC:= .cond cv .skip (.seq (.run [.o 18 (.bin .eql bK (.k (.str [60,61]))), .m 15 cT]) an3)
abbrev an5:AC:= .cond cv .skip (.seq (.run [.o 17 (.bin .eql bK (.k (.str [33,61]))), .m 15 cU]) an4)
abbrev an6:AC:= .cond cv (.seq (.run [.o 4 (.mv (.k (.int .i64 2)))]) .ret) .skip
abbrev an7:AC:= .seq (.seq (.run [.o 16 (.bin .eql bK (.k (.str [61,61]))), .m 15 cq]) an5) an6
abbrev an8:AC:= .cond cu (.seq (.run [.m 10 aJ, .m 11 a7, .m 12 a7, .o 13 (.bin .add bZ (.k (.int .i64 2))), .o 14 (.za bD (some bU) (some bV))]) (.block 0 an7)) .skip
abbrev an9:AC:= .seq (.run [.o 40 (.bin .eql df (.k (.int .u8 47))), .m 25 gh]) (.cond di .skip (.run [.o 41 (.bin .eql df (.k (.int .u8 37))), .m 25 ga]))
abbrev aoa:AC:= .cond di .skip (.seq (.run [.o 39 (.bin .eql df (.k (.int .u8 42))), .m 25 fR]) (.cond di .skip an9))
abbrev aob:AC:= .cond di .skip (.seq (.run [.o 38 (.bin .eql df (.k (.int .u8 45))), .m 25 fQ]) aoa)
abbrev aoc:AC:= .cond di .skip (.seq (.run [.o 37 (.bin .eql df (.k (.int .u8 43))), .m 25 fF]) aob)
abbrev aod:AC:= .cond di .skip (.seq (.run [.o 36 (.bin .eql df (.k (.int .u8 62))), .m 25 fk]) aoc)
abbrev aoe:AC:= .cond di .skip (.seq (.run [.o 35 (.bin .eql df (.k (.int .u8 60))), .m 25 fb]) aod)
abbrev aof:AC:= .cond di .skip (.seq (.run [.o 34 (.bin .eql df (.k (.int .u8 33))), .m 25 fj]) aoe)
abbrev aog:AC:= .cond di .skip (.seq (.run [.o 33 (.bin .eql df (.k (.int .u8 61))), .m 25 eZ]) aof)
abbrev aoh:AC:= .cond di .skip (.seq (.run [.o 32 (.bin .eql df (.k (.int .u8 58))), .m 25 fa]) aog)
abbrev aoi:AC:= .cond di .skip (.seq (.run [.o 31 (.bin .eql df (.k (.int .u8 59))), .m 25 eV]) aoh)
abbrev aoj:AC:= .cond di .skip (.seq (.run [.o 30 (.bin .eql df (.k (.int .u8 44))), .m 25 eU]) aoi)
abbrev aok:AC:= .cond di .skip (.seq (.run [.o 29 (.bin .eql df (.k (.int .u8 125))), .m 25 eK]) aoj)
abbrev aol:AC:= .cond di .skip (.seq (.run [.o 28 (.bin .eql df (.k (.int .u8 123))), .m 25 eP]) aok)
abbrev aom:AC:= .cond di .skip (.seq (.run [.o 27 (.bin .eql df (.k (.int .u8 41))), .m 25 dY]) aol)
abbrev aon:AC:= .cond di (.seq (.run [.o 4 (.mv (.k (.int .i64 1)))]) .ret) .skip
abbrev aoo:AC:= .seq (.seq (.run [.o 26 (.bin .eql df (.k (.int .u8 40))), .m 25 dX]) aom) aon
abbrev aop:AC:= .seq (.seq (.run [.m 22 aJ, .m 23 a7, .o 24 (.oU dI dJ)]) (.block 1 aoo)) (.seq (.run [.o 4 (.mv (.k (.int .i64 0)))]) .ret)
abbrev aoq:AC:= .seq (.seq (.run [.m 5 a7, .o 6 (.bin .add bk (.k (.int .i64 1))), .m 7 aJ, .o 8 (.nK bT), .o 9 (.bin .lss bX bS)]) an8) aop
abbrev aor:AC:= .seq (.run [.o 4 (.mv (.k (.int .i64 0)))]) aoq
abbrev aos:AC:= .cond dI (.seq (.run [.o 2 (.mv (.k (.int .i64 0))), .o 3 (.mv (.k (.bool false)))]) .ret) .skip
abbrev aot:AC:= .seq (.seq (.run [.m 18 dw, .m 19 bX, .o 20 (.bin .sub (.k (.int .i64 9223372036854775807)) dh), .o 21 (.bin .quo dt (.k (.int .i64 10))), .o 22 (.bin .gtr cT dB)]) aos) (.run [.m 23 dw, .o 24 (.bin .mul dJ (.k (.int .i64 10))), .m 25 bX, .o 26 (.bin .add df di), .m 4 dX])
abbrev aou:AC:= .block 1 (.seq (.run [.m 13 aJ, .m 14 bk, .o 15 (.oU bV bK), .o 16 (.bin .sub cv (.k (.int .u8 48))), .o 17 (.conv .i64 cq), .m 6 cU]) aot)
abbrev aov:AC:= .seq (.seq (.run [.m 7 bk, .m 8 aJ, .o 9 (.nK bS), .o 10 (.bin .lss bT cu)]) (.cond bD .skip (.exit 0))) (.seq aou (.run [.m 11 bk, .o 12 (.bin .add bU (.k (.int .i64 1))), .m 5 bZ]))
abbrev aow:AC:= .seq (.seq (.run [.o 5 (.mv (.k (.int .i64 0)))]) (.block 0 (.loop aov))) (.seq (.run [.m 27 dw, .m 2 dY, .o 3 (.mv (.k (.bool true)))]) .ret)
abbrev aox:AC:= .seq (.run [.o 2 (.mv (.k (.int .i64 0))), .o 3 (.mv (.k (.bool false)))]) (.seq (.run [.o 4 (.mv (.k (.int .i64 0)))]) aow)
abbrev aoy:AC:= .cond bV (.seq (.run [.o 4 (.mv (.k (.bool false)))]) .ret) .skip
abbrev aoz:AC:= .seq (.run [.m 14 aJ, .o 15 (.bq bK), .o 16 (.aj cv 1), .o 17 (.load cq false 1), .o 18 (.bin .add cU (.k (.int .i64 1))), .o 19 (.bq bK), .o 20 (.aj dh 1), .op none none (.store dt cT 1)]) (.seq (.run [.o 4 (.mv (.k (.bool true)))]) .ret)
abbrev aoA:AC:= .seq (.seq (.run [.m 5 aJ, .c 6 c6 [bk], .o 7 (.un .not bX), .m 8 bT, .g 9 8 false (.mv aJ), .g 10 8 false (.mv a7), .d 11 8 false fA [cu,bD], .g 12 8 false (.un .not bU), .o 13 (.pick bS (.k (.bool true)) bZ)]) aoy) aoz
abbrev aoB:AC:= .seq (.run [.o 4 (.mv (.k (.bool false)))]) aoA
abbrev aoC:AC:= .cond dt (.seq (.run [.m 21 aJ,(.c 22 dv [dB,(.k (.str [59]))])]) (.seq (.run [.m 23 a7, .m 6 dJ]) .ret)) .skip
abbrev aoD:AC:= .seq (.run [.m 9 a7, .m 10 aJ, .m 11 a7, .o 12 (.len bU), .m 13 cZ, .o 14 (.bin .lss bZ bV), .c 15 eR [bD,bK], .o 16 (.cD [(.str [])] 1 1 [(0,cv)]), .o 17 (.app 1 16 cu cq), .m 1 cU]) (.seq (.run [.m 18 aJ,(.c 19 dO [cT,(.k (.str [44]))]), .o 20 (.un .not dh)]) aoC)
abbrev aoE:AC:= .block 0 (.loop (.seq (.seq (.run [.m 7 aJ, .c 8 c6 [bT]]) (.cond bS .skip (.exit 0))) (.block 1 aoD)))
abbrev aoF:AC:= .seq (.run [.o 6 (.mv (.k (.slice .full 0 [])))]) (.seq aoE (.seq (.run [.m 24 a7, .m 6 df]) .ret))
abbrev aoG:AC:= .seq (.run [.o 2 (.mv (.k (.bool false)))]) (.seq (.run [.m 3 aJ, .o 4 (.bq bO), .o 5 (.aj dw 2), .o 6 (.aj bk 0), .o 7 (.load bX false 1), .o 8 (.bin .eql bT (.k (.int .i64 0))), .m 2 bS]) .ret)
abbrev aoH:AC:= .seq (.run [.m 6 aJ, .c 7 dP [bX], .o 5 (.alloc [(.int .i64 0),(.str []),(.int .i64 0),(.int .i64 0)]), .op none none (.store bk bT 4)]) (.seq (.run [.o 8 (.aj bk 0), .o 9 (.load bS false 1), .o 10 (.bin .eql cu (.k (.int .i64 3))), .m 11 bD, .g 12 11 false (.aj bk 0), .g 13 11 false (.load bZ false 1), .g 14 11 false (.bin .eql bV (.k (.int .i64 4))), .o 15 (.pick bU (.k (.bool true)) bK), .m 16 cv, .g 17 16 true (.aj bk 1), .g 18 16 true (.load cU false 1), .g 19 16 true (.mv a7), .g 20 16 true (.bin .eql cT dh), .o 21 (.pick cq dt (.k (.bool false))), .m 4 dB]) .ret)
abbrev aoI:AC:= .seq (.run [.o 4 (.mv (.k (.bool false)))]) aoH
abbrev aoJ:AC:= .seq (.run [.m 4 aJ, .c 5 c6 [dw]]) (.cond bk (.run [.m 6 aJ, .m 7 a7, .m 8 aJ, .c 9 dP [bS], .o 10 (.uC cu 3 false 1), .o 11 (.build [(.int .i64 0),(.int .i64 0)] [(0,(1,bT)),(1,(1,bD))]), .o 12 (.bq bX), .o 13 (.aj bZ 2), .op none none (.store bV bU 2)]) .skip)
abbrev aoK:AC:= .par [.o 21 (.aj bO 1), .o 22 (.load dB false 1), .m 23 aJ, .o 24 (.aj bO 1), .o 25 (.load df false 1), .o 26 (.len di), .o 27 (.bin .lss dX (.k (.int .i64 8))), .c 28 eR [dJ,dY], .m 29 dw, .o 30 (.build [(.str []),(.bool false)] [(0,(1,eP)),(1,(1,eK))]), .o 31 (.cD [(.str []),(.bool false)] 2 1 [(0,eU)]), .o 32 (.app 2 24 dI eV), .o 33 (.aj bO 1), .op none none (.store eZ fa 1)] [(2,0),(3,0),(4,0),(5,0),(6,0),(7,0),(0,0),(1,1),(8,0),(9,0),(10,0),(11,0),(12,0),(13,0)]
abbrev aoL:AC:= .seq aoK (.seq (.run [.m 34 aJ,(.c 35 dO [fj,(.k (.str [44]))]), .o 36 (.un .not fb)]) (.cond fk (.exit 0) .skip))
abbrev aoM:AC:= .block 1 (.seq (.run [.m 19 aJ,(.c 20 dO [dh,(.k (.str [114,101,102]))]), .m 4 dt]) aoL)
abbrev aoN:AC:= .block 0 (.loop (.seq (.seq (.run [.m 17 aJ, .c 18 c6 [cU]]) (.cond cT .skip (.exit 0))) aoM))
abbrev ad0:AC:= .seq (.seq (.run [.m 41 aJ,(.c 42 dO [ga,(.k (.str [118,97,114]))])]) (.cond gU .skip (.exit 2))) (.block 3 (.run [.m 43 aJ, .o 44 (.aj bO 2), .o 45 (.load iF false 1), .c 46 jC [gV,jb,(.k (.int .i64 16))], .o 47 (.aj bO 2), .op none none (.store jF jc 1)]))
abbrev ad1:AC:= .seq (.run [.m 49 aJ, .c 50 gI [iO,(.k (.int .i64 1)),(.k (.bool true))], .m 48 jG, .o 51 (.ext iA 0), .o 52 (.ext iA 1), .o 53 (.aj bO 3), .op none none (.store jf jd 1), .o 54 (.aj bO 4), .op none none (.store jH je 1)]) (.seq (.run [.o 55 (.load bO true 5), .op none none (.store cZ jI 5)]) .ret)
abbrev aoO:AC:= .seq (.run [.m 37 aJ,(.c 38 dv [fF,(.k (.str [41]))])]) (.seq (.run [.m 39 aJ,(.c 40 dv [fR,(.k (.str [123]))])]) (.seq (.block 2 (.loop ad0)) ad1))
abbrev aoP:AC:= .seq (.seq (.run [.m 10 aJ, .c 11 c6 [bD], .m 12 bU, .g 13 12 true (.mv aJ),(.d 14 12 true fA [bV,(.k (.str [41]))]), .g 15 12 true (.un .not bK), .o 16 (.pick bZ cv (.k (.bool false)))]) (.cond cq aoN .skip)) aoO
abbrev aoQ:AC:= .seq (.run [.m 5 aJ, .c 6 eR [bk,(.k (.bool true))], .o 7 (.build [(.str []),(.slice .full 0 []),(.slice .full 0 []),(.slice .full 0 []),(.slice .full 0 [])] [(0,(1,bX))]), .o 3 (.alloc [(.str []),(.slice .full 0 []),(.slice .full 0 []),(.slice .full 0 []),(.slice .full 0 [])]), .op none none (.store bO bT 5)]) (.seq (.run [.m 8 aJ,(.c 9 dv [bS,(.k (.str [40]))])]) aoP)
abbrev aoR:AC:= .seq (.run [.o 2 (.alloc [(.str []),(.slice .full 0 []),(.slice .full 0 []),(.slice .full 0 []),(.slice .full 0 [])])]) aoQ
abbrev aoS:AC:= .par [.m 3 aJ, .o 4 (.bq bO), .o 5 (.aj dw 0), .o 6 (.load bk false 1), .m 7 aJ, .o 8 (.bq bT), .o 9 (.aj bS 1), .o 10 (.load cu false 1), .o 11 (.cr bX bD 4), .o 12 (.load bU true 4), .op none none (.store cZ bZ 4)] [(0,0),(1,0),(2,0),(3,0),(4,0),(5,0),(6,0),(7,0),(8,0),(9,0),(10,0)]
abbrev aoT:AC:= .seq (.run [.o 2 (.alloc [(.int .i64 0),(.str []),(.int .i64 0),(.int .i64 0)])]) (.seq aoS .ret)
open Go.Proofs
theorem uK:Has Tryz.prog rM 60 [(4,none)] amD:=⟨Tryz.f126,by kernel_rfl,by kernel_rfl⟩
set_option maxRecDepth 20000 in
theorem D3 : Has Tryz.prog sA 41 [(4, none)] amK := ⟨Tryz.f127, by kernel_rfl, by kernel_rfl⟩
theorem Gl:Has Tryz.prog pf 9 [(2,none)] amL:=⟨Tryz.f128,by kernel_rfl,by kernel_rfl⟩
theorem MH:Has Tryz.prog wM 24 [(4,none)] amN:=⟨Tryz.f129,by kernel_rfl,by kernel_rfl⟩
theorem KP:Has Tryz.prog uW 18 [(2,none)] am2:=⟨Tryz.f130,by kernel_rfl,by kernel_rfl⟩
theorem EZ:Has Tryz.prog ui 93 [(2,none)] ani:=⟨Tryz.f131,by kernel_rfl,by kernel_rfl⟩
theorem Ik:Has Tryz.prog my 24 [(2,(some (true,4)))] ano:=⟨Tryz.f132,by kernel_rfl,by kernel_rfl⟩
theorem Il:Has Tryz.prog xy 24 [(2,none)] anu:=⟨Tryz.f133,by kernel_rfl,by kernel_rfl⟩
theorem KQ:Has Tryz.prog jB 4 [(2,none)] anx:=⟨Tryz.f134,by kernel_rfl,by kernel_rfl⟩
theorem wQ:Has Tryz.prog uj 27 [(6,none),(7,none)] anJ:=⟨Tryz.f135,by kernel_rfl,by kernel_rfl⟩
theorem D4:Has Tryz.prog sB 45 [(6,none),(7,none)] anS:=⟨Tryz.f136,by kernel_rfl,by kernel_rfl⟩
theorem Io:Has Tryz.prog mz 33 [(2,none)] anZ:=⟨Tryz.f137,by kernel_rfl,by kernel_rfl⟩
theorem wo:Has Tryz.prog ng 9 [(4,none)] an0:=⟨Tryz.f138,by kernel_rfl,by kernel_rfl⟩
theorem Ip:Has Tryz.prog qk 9 [(2,none)] an1:=⟨Tryz.f139,by kernel_rfl,by kernel_rfl⟩
theorem BI:Has Tryz.prog zA 42 [(4,none)] aor:=⟨Tryz.f140,by kernel_rfl,by kernel_rfl⟩
theorem Gm:Has Tryz.prog vE 28 [(2,none),(3,none)] aox:=⟨Tryz.f141,by kernel_rfl,by kernel_rfl⟩
theorem yv:Has Tryz.prog dO 21 [(4,none)] aoB:=⟨Tryz.f142,by kernel_rfl,by kernel_rfl⟩
theorem xH:Has Tryz.prog jC 25 [(6,none)] aoF:=⟨Tryz.f143,by kernel_rfl,by kernel_rfl⟩
theorem yw:Has Tryz.prog c6 9 [(2,none)] aoG:=⟨Tryz.f144,by kernel_rfl,by kernel_rfl⟩
theorem AQ:Has Tryz.prog fA 22 [(4,none)] aoI:=⟨Tryz.f145,by kernel_rfl,by kernel_rfl⟩
theorem zH:Has Tryz.prog e9 14 [] aoJ:=⟨Tryz.f146,by kernel_rfl,by kernel_rfl⟩
theorem yx:Has Tryz.prog oy 56 [(2,(some (true,5)))] aoR:=⟨Tryz.f147,by kernel_rfl,by kernel_rfl⟩
theorem yy:Has Tryz.prog dP 13 [(2,(some (true,4)))] aoT:=⟨Tryz.f148,by kernel_rfl,by kernel_rfl⟩
abbrev aoU:AC:= .block 1 (.seq (.run [.m 10 bS, .m 5 bD]) (.seq (.run [.m 11 a7, .m 12 aJ, .m 13 bk, .o 14 (.cr bZ bV 1), .o 15 (.load bK false 1),(.jw (some 16) none 11 [cv])]) (.cond cq (.seq (.run [.m 17 bk, .m 4 cU]) .ret) .skip)))
abbrev aoV:AC:= .seq (.cond cu .skip (.exit 0)) (.seq aoU (.run [.o 18 (.bin .add bS (.k (.int .i64 1))), .m 8 cT]))
abbrev aoW:AC:= .seq (.run [.m 6 aJ, .o 7 (.len bX), .o 8 (.mv (.k (.int .i64 0)))]) (.block 0 (.loop (.seq (.run [.o 9 (.bin .lss bS bT)]) aoV)))
abbrev aoX:AC:= .seq (.run [(.o 4 (.mv (.k (.int .i64 (-1)))))]) .ret
abbrev aoY:AC:= .seq (.run [.o 4 (.mv (.k (.int .i64 0)))]) (.seq aoW aoX)
abbrev aoZ:AC:= .seq (.seq (.run [.o 31 (.aj bk 0), .o 32 (.load eV false 1)]) (.cond fa (.run [.m 33 bO, .o 34 (.aj bk 1), .o 35 (.load fj false 1), .o 36 (.cD [(.str [])] 1 1 [(0,fb)]), .o 37 (.app 1 16 eZ fk), .m 3 fF]) .skip)) (.run [.m 38 bO, .o 39 (.aj bk 2), .o 40 (.load fR true 4), .c 41 rP [gh], .o 42 (.app 1 16 fQ ga), .m 3 gU])
abbrev ao0:AC:= .seq (.block 1 (.seq (.run [.o 29 (.cr di dY 6), .o 30 (.load eK true 6), .o 5 (.alloc [(.bool false),(.str []),(.int .i64 0),(.int .i64 0),(.str []),(.slice .full 0 [])]), .op none none (.store bk eU 6)]) aoZ)) (.run [.o 43 (.bin .add dY (.k (.int .i64 1))), .m 27 gV])
abbrev ao1:AC:= .block 0 (.loop (.seq (.run [.o 28 (.bin .lss dY dX)]) (.seq (.cond eP .skip (.exit 0)) ao0)))
abbrev ao2:AC:= .seq (.seq (.run [.o 24 (.aj a7 10), .o 25 (.load df false 1), .o 26 (.len di), .o 27 (.mv (.k (.int .i64 0)))]) ao1) (.seq (.run [.m 44 bO, .m 2 iF]) .ret)
abbrev ao3:AC:= .seq (.seq (.run [.o 6 (.aj a7 1), .o 7 (.load bX false 1), .o 8 (.bin .neq bT (.k (.int .i64 10))), .m 9 bS, .g 10 9 true (.aj a7 3), .g 11 9 true (.load bD false 1), .g 12 9 true (.bin .neq bU (.k (.str []))), .o 13 (.pick cu bZ (.k (.bool false)))]) (.cond bV (.run [.m 14 bO, .o 15 (.aj a7 3), .o 16 (.load cv false 1), .o 17 (.cD [(.str [])] 1 1 [(0,cq)]), .o 18 (.app 1 16 bK cU), .m 3 cT]) .skip)) (.seq (.run [.m 19 bO, .o 20 (.aj a7 5), .o 21 (.load dt true 4), .c 22 rP [dB], .o 23 (.app 1 16 dh dI), .m 3 dJ]) ao2)
abbrev ao4:AC:= .seq (.run [.o 1 (.box aJ), .o 2 (.mv (.k (.slice .full 0 [])))]) (.seq (.run [.o 3 (.mv (.k (.slice .full 0 [])))]) ao3)
abbrev ao5:AC:= .cond dJ (.seq (.run [.o 6 (.mv (.k (.int .i64 3)))]) .ret) .skip
abbrev ao6:AC:= .cond dY (.seq (.run [.o 6 (.mv (.k (.int .i64 2)))]) .ret) .skip
abbrev ao7:AC:= .seq (.seq (.run [.o 16 (.aj bS 0), .o 17 (.load cq false 1), .m 18 cZ, .o 19 (.bin .eql cU cT), .m 20 dh, .g 21 20 true (.aj bS 1), .g 22 20 true (.load dB false 1), .o 23 (.pick dt dI (.k (.bool false)))]) ao5) (.seq (.run [.o 24 (.aj bS 0), .o 25 (.load df false 1), .m 26 cZ, .o 27 (.bin .eql di dX)]) ao6)
abbrev ao8:AC:= .seq (.block 1 (.seq (.run [.o 14 (.cr bD bZ 2), .o 15 (.load bK true 2), .o 8 (.alloc [(.str []),(.bool false)]), .op none none (.store bS cv 2)]) ao7)) (.run [.o 28 (.bin .add bZ (.k (.int .i64 1))), .m 12 eP])
abbrev ao9:AC:= .block 0 (.loop (.seq (.run [.o 13 (.bin .lss bZ bU)]) (.seq (.cond bV .skip (.exit 0)) ao8)))
abbrev apa:AC:= .cond fa (.seq (.run [.o 6 (.mv (.k (.int .i64 4)))]) .ret) .skip
abbrev apb:AC:= .cond fk (.seq (.run [.o 6 (.mv (.k (.int .i64 1)))]) .ret) .skip
abbrev apc:AC:= .seq (.seq (.run [.o 33 (.aj bO 0), .o 34 (.load eZ false 1), .m 35 cZ, .c 36 cB [fj,fb]]) apb) (.seq (.run [.o 6 (.mv (.k (.int .i64 0)))]) .ret)
abbrev apd:AC:= .seq (.seq (.run [.o 9 (.aj dw 1), .o 10 (.load cu false 1), .o 11 (.len bD), .o 12 (.mv (.k (.int .i64 0)))]) ao9) (.seq (.seq (.run [.o 29 (.aj dw 2), .o 30 (.load eK false 1), .m 31 cZ, .c 32 cB [eU,eV]]) apa) apc)
abbrev ape:AC:= .seq (.run [.o 3 (.box aJ), .o 4 (.box a7), .o 6 (.mv (.k (.int .i64 0)))]) apd
abbrev apf:AC:= .cond bU (.seq (.run [.o 4 (.mv (.k (.bool false)))]) .ret) .skip
abbrev apg:AC:= .par [.o 19 (.aj bX 1), .o 20 (.load dh false 1), .m 21 a7, .m 22 bk, .o 23 (.cr dB dI 6), .o 24 (.aj dJ 0), .o 25 (.load df false 1), .o 26 (.Dd true dt di)] [(0,0),(1,0),(2,0),(3,0),(4,0),(5,0),(6,0),(7,0)]
abbrev aph:AC:= .cond dX (.seq (.run [.o 4 (.mv (.k (.bool false)))]) .ret) .skip
abbrev api:AC:= .seq (.block 1 (.seq (.run [.m 16 bK, .o 17 (.cr bZ bK 2), .o 18 (.load cU true 2), .o 6 (.alloc [(.str []),(.bool false)]), .m 5 cq, .op none none (.store bX cT 2)]) (.seq apg aph))) (.run [.o 27 (.bin .add bK (.k (.int .i64 1))), .m 14 dY])
abbrev apj:AC:= .block 0 (.loop (.seq (.run [.o 15 (.bin .lss bK bV)]) (.seq (.cond cv .skip (.exit 0)) api)))
abbrev apk:AC:= .seq (.seq (.run [.m 12 aJ, .o 13 (.len bZ), .o 14 (.mv (.k (.int .i64 0)))]) apj) (.seq (.run [.o 4 (.mv (.k (.bool true)))]) .ret)
abbrev apl:AC:= .seq (.run [.o 4 (.mv (.k (.bool false)))]) (.seq (.seq (.run [.m 7 aJ, .o 8 (.len bT), .m 9 a7, .o 10 (.len cu), .o 11 (.bin .neq bS bD)]) apf) apk)
abbrev apm:AC:= .seq (.run [.o 2 (.box aJ), .o 3 (.box a7), .o 4 (.mv (.k (.bool false)))]) (.seq (.run [.o 5 (.load cZ true 2), .c 6 lS [bk], .o 7 (.uC bX 0 false 1), .o 8 (.bin .eql bT (.k (.int .i64 0))), .m 9 bS, .g 10 9 true (.aj cZ 1), .g 11 9 true (.load bD false 1), .g 12 9 true (.uQ 197 [bO]), .d 13 9 true gR [bU,bZ], .o 14 (.pick cu bV (.k (.bool false))), .m 4 bK]) .ret)
abbrev apn:AC:= .seq (.run [.o 26 (.cr dI df 1), .o 27 (.load dX false 1), .m 8 dY]) (.seq (.run [.m 28 bk, .m 29 bS, .c 30 cB [eP,eK], .o 31 (.un .not eU)]) (.cond eV (.run [.m 32 bk, .m 33 bS, .o 34 (.cD [(.str [])] 1 1 [(0,eZ)]), .o 35 (.app 1 16 fa fj), .m 5 fb]) .skip))
abbrev apo:AC:= .seq (.cond di .skip (.exit 2)) (.seq (.block 3 apn) (.run [.o 36 (.bin .add df (.k (.int .i64 1))), .m 24 fk]))
abbrev apq:AC:= .seq (.run [.m 17 aJ, .m 18 bk, .m 19 bX, .o 20 (.cr cT dh 1), .o 21 (.load dt false 1), .c 22 uq [cU,dB], .o 23 (.len dI), .o 24 (.mv (.k (.int .i64 0)))]) (.block 2 (.loop (.seq (.run [.o 25 (.bin .lss df dJ)]) apo)))
abbrev apr:AC:= .seq (.seq (.run [.m 11 bX, .m 12 bk, .o 13 (.len bZ), .o 14 (.bin .lss bU bV)]) (.cond bK .skip (.exit 0))) (.seq (.block 1 apq) (.run [.m 15 bX, .o 16 (.bin .add cv (.k (.int .i64 1))), .m 6 cq]))
abbrev ad2:AC:= .seq (.run [.m 39 bk, .m 4 fR]) .ret
abbrev aps:AC:= .seq (.seq (.run [.o 6 (.mv (.k (.int .i64 0)))]) (.block 0 (.loop apr))) (.seq (.run [.m 37 bk, .c 38 jD [fF]]) ad2)
abbrev apt:AC:= .seq (.run [.o 4 (.mv (.k (.slice .full 0 [])))]) (.seq (.run [.m 9 a7, .o 10 (.cD [(.str [])] 1 1 [(0,cu)]), .m 5 bD]) aps)
abbrev apu:AC:= .seq (.run [.o 4 (.mv (.k (.bool false)))]) (.seq (.run [.m 5 a7, .m 6 bk, .g 7 6 true (.mv aJ), .d 8 6 true nS [bT], .o 9 (.pick bX bS (.k (.bool false))), .m 10 cu, .g 11 10 false (.mv a7), .g 12 10 false (.un .not bU), .g 13 10 false (.mv bZ), .g 14 13 true (.mv aJ), .g 15 13 true (.bin .eql bK (.k (.str []))), .g 16 10 false (.pick bV cv (.k (.bool false))), .o 17 (.pick bD (.k (.bool true)) cq), .m 4 cU]) .ret)
abbrev apv:AC:= .seq (.run [.o 2 (.box aJ), .o 4 (.mv (.k (.bool false)))]) (.seq (.run [.m 5 a7, .m 6 bk, .g 7 6 true (.load cZ true 4), .d 8 6 true na [bT], .o 9 (.pick bX bS (.k (.bool false))), .m 10 cu, .g 11 10 false (.mv a7), .g 12 10 false (.un .not bU), .g 13 10 false (.mv bZ), .g 14 13 true (.load cZ true 4), .d 15 13 true xB [bK], .g 16 10 false (.pick bV cv (.k (.bool false))), .o 17 (.pick bD (.k (.bool true)) cq), .m 4 cU]) .ret)
abbrev apw:AC:= .cond di (.seq (.run [.o 2 (.mv (.k (.bool false)))]) .ret) .skip
abbrev apx:AC:= .seq (.run [.o 9 (.cr bk bT 6), .o 10 (.load cu true 6), .o 4 (.alloc [(.bool false),(.str []),(.int .i64 0),(.int .i64 0),(.str []),(.slice .full 0 [])]), .op none none (.store dw bD 6)]) (.seq (.run [.o 11 (.aj dw 1), .o 12 (.load bU false 1), .o 13 (.aj dw 0), .o 14 (.load bV false 1), .c 15 pg [bZ,bK], .o 16 (.un .not cv), .m 17 cq, .g 18 17 false (.aj dw 2), .g 19 17 false (.load cT true 4), .g 20 17 false (.aj dw 0), .g 21 17 false (.load dt false 1), .g 22 17 false (.un .not dB), .d 23 17 false rO [dh,dI], .g 24 17 false (.un .not dJ), .o 25 (.pick cU (.k (.bool true)) df)]) apw)
abbrev apy:AC:= .seq (.cond bS .skip (.exit 0)) (.seq (.block 1 apx) (.run [.o 26 (.bin .add bT (.k (.int .i64 1))), .m 7 dX]))
abbrev apz:AC:= .seq (.run [.m 5 aJ, .o 6 (.len bk), .o 7 (.mv (.k (.int .i64 0)))]) (.block 0 (.loop (.seq (.run [.o 8 (.bin .lss bT bX)]) apy)))
abbrev apA:AC:= .seq apz (.seq (.run [.o 2 (.mv (.k (.bool true)))]) .ret)
abbrev apB:AC:= .seq (.run [.o 2 (.mv (.k (.bool false)))]) apA
abbrev apC:AC:= .block 1 (.seq (.run [.m 10 bS, .m 5 bD]) (.seq (.run [.m 11 a7, .m 12 aJ, .m 13 bk, .o 14 (.cr bZ bV 1), .o 15 (.load bK false 1), .o 16 (.bin .eql bU cv)]) (.cond cq (.seq (.run [.m 17 bk, .m 4 cU]) .ret) .skip)))
abbrev apD:AC:= .seq (.cond cu .skip (.exit 0)) (.seq apC (.run [.o 18 (.bin .add bS (.k (.int .i64 1))), .m 8 cT]))
abbrev apE:AC:= .seq (.run [.m 6 aJ, .o 7 (.len bX), .o 8 (.mv (.k (.int .i64 0)))]) (.block 0 (.loop (.seq (.run [.o 9 (.bin .lss bS bT)]) apD)))
abbrev apG:AC:= .seq (.run [(.o 4 (.mv (.k (.int .i64 (-1)))))]) .ret
abbrev apH:AC:= .seq (.run [.o 4 (.mv (.k (.int .i64 0)))]) (.seq apE apG)
abbrev apI:AC:= .seq (.run [.m 16 aJ, .c 17 e9 [cq,(.k (.int .i64 3))]]) (.seq (.run [.o 4 (.mv (.k (.str [])))]) .ret)
abbrev apJ:AC:= .seq (.run [.m 20 aJ, .c 21 e9 [dt,(.k (.int .i64 4))]]) (.seq (.run [.o 4 (.mv (.k (.str [])))]) .ret)
abbrev apK:AC:= .seq (.seq (.run [.m 18 a7, .o 19 (.un .not cT)]) (.cond dh apJ .skip)) (.seq (.run [.m 22 aJ, .o 23 (.bq dI), .o 24 (.aj dJ 1), .o 25 (.load df false 1), .o 26 (.bin .add di (.k (.int .i64 1))), .o 27 (.bq dI), .o 28 (.aj dY 1), .op none none (.store eP dX 1)]) (.seq (.run [.o 29 (.aj bk 1), .o 30 (.load eK false 1), .m 4 eU]) .ret))
abbrev apL:AC:= .seq (.seq (.run [.m 8 aJ, .c 9 c6 [bS], .o 10 (.un .not cu), .m 11 bD, .g 12 11 false (.aj bk 0), .g 13 11 false (.load bZ false 1), .g 14 11 false (.bin .neq bV (.k (.int .i64 1))), .o 15 (.pick bU (.k (.bool true)) bK)]) (.cond cv apI .skip)) apK
abbrev apN:AC:= .seq (.run [.o 4 (.mv (.k (.str [])))]) (.seq (.run [.m 6 aJ, .c 7 dP [bX], .o 5 (.alloc [(.int .i64 0),(.str []),(.int .i64 0),(.int .i64 0)]), .op none none (.store bk bT 4)]) apL)
abbrev apO:AC:= .seq (.run [.m 4 aJ, .m 5 a7, .c 6 dO [dw,bk], .o 7 (.un .not bX)]) (.cond bT (.run [.m 8 aJ, .c 9 e9 [bS,(.k (.int .i64 3))]]) .skip)
abbrev apP:AC:= .cond df (.seq (.run [.m 25 aJ, .o 26 (.bq di), .o 27 (.aj dX 1), .o 28 (.load dY false 1), .o 29 (.bin .add eP (.k (.int .i64 1))), .o 30 (.bq di), .o 31 (.aj eU 1), .op none none (.store eV eK 1)]) (.seq (.run [.m 32 bS, .m 33 cu, .m 6 fa, .m 7 eZ]) .ret)) .skip
abbrev apQ:AC:= .seq (.seq (.run [.m 15 aJ,(.c 16 fA [cv,(.k (.str [125]))]), .m 17 cq, .g 18 17 true (.mv cZ), .g 19 17 true (.mv cT), .g 20 19 false (.mv cu), .g 21 19 false (.len dt), .g 22 19 false (.bin .eql dB (.k (.int .i64 0))), .g 23 17 true (.pick dh (.k (.bool true)) dI), .o 24 (.pick cU dJ (.k (.bool false)))]) apP) (.seq (.run [.m 34 aJ, .m 35 a7, .c 36 oz [fj,fb], .o 10 (.alloc [(.int .i64 0),(.int .i64 0),(.slice .full 0 []),(.str []),(.str []),(.int .i64 0),(.int .i64 0),(.str []),(.slice .full 0 []),(.bool false),(.slice .full 0 []),(.slice .full 0 []),(.slice .full 0 [])]), .op none none (.store bD fk 13)]) (.seq (.run [.m 37 cu, .o 38 (.aj bD 2), .op none none (.store fQ fF 1)]) (.run [.m 39 bS, .o 40 (.load bD true 13), .o 41 (.cD [(.int .i64 0),(.int .i64 0),(.slice .full 0 []),(.str []),(.str []),(.int .i64 0),(.int .i64 0),(.str []),(.slice .full 0 []),(.bool false),(.slice .full 0 []),(.slice .full 0 []),(.slice .full 0 [])] 13 1 [(0,gh)]), .o 42 (.app 13 208 fR ga), .m 8 gU])))
abbrev apR:AC:= .block 0 (.loop (.seq (.seq (.run [.m 11 aJ, .c 12 c6 [bU]]) (.cond bZ .skip (.exit 0))) (.block 1 (.seq (.run [.m 13 aJ, .c 14 nh [bV], .m 9 bK]) apQ))))
abbrev apS:AC:= .seq apR (.seq (.run [.o 6 (.mv (.k (.slice .full 0 []))), .o 7 (.mv (.k (.slice .full 0 [])))]) .ret)
abbrev apT:AC:= .seq (.run [.o 6 (.mv (.k (.slice .full 0 []))), .o 7 (.mv (.k (.slice .full 0 [])))]) (.seq (.run [.o 8 (.mv (.k (.slice .full 0 [])))]) apS)
abbrev apU:AC:= .cond bV (.seq (.run [.o 2 (.mv (.k (.bool false)))]) .ret) .skip
abbrev apV:AC:= .seq (.block 1 (.seq (.run [.o 9 (.cr bk bT 1), .o 10 (.load cu false 1), .m 4 bD]) (.seq (.run [.m 11 dw, .c 12 lh [bU], .o 13 (.un .not bZ)]) apU))) (.run [.o 14 (.bin .add bT (.k (.int .i64 1))), .m 7 bK])
abbrev apW:AC:= .block 0 (.loop (.seq (.run [.o 8 (.bin .lss bT bX)]) (.seq (.cond bS .skip (.exit 0)) apV)))
abbrev apX:AC:= .seq (.seq (.run [.m 5 aJ, .o 6 (.len bk), .o 7 (.mv (.k (.int .i64 0)))]) apW) (.seq (.run [.o 2 (.mv (.k (.bool true)))]) .ret)
abbrev apY:AC:= .seq (.run [.o 2 (.mv (.k (.bool false)))]) apX
abbrev apZ:AC:= .cond cq (.seq (.run [.o 2 (.mv (.k (.bool false)))]) .ret) .skip
abbrev ap0:AC:= .cond fj (.seq (.run [.o 2 (.mv (.k (.bool false)))]) .ret) .skip
abbrev ap1:AC:= .block 1 (.seq (.run [.m 23 aJ, .m 24 bO, .o 25 (.oU dJ df), .c 26 rQ [di], .o 27 (.un .not dX), .m 28 dY, .g 29 28 true (.mv aJ), .g 30 28 true (.mv bO), .g 31 28 true (.oU eK eU), .d 32 28 true vI [eV], .g 33 28 true (.un .not fa), .o 34 (.pick eP eZ (.k (.bool false)))]) ap0)
abbrev ap2:AC:= .seq (.seq (.run [.m 17 bO, .m 18 aJ, .o 19 (.nK cT), .o 20 (.bin .lss cU dh)]) (.cond dt .skip (.exit 0))) (.seq ap1 (.run [.m 21 bO, .o 22 (.bin .add dB (.k (.int .i64 1))), .m 3 dI]))
abbrev ap3:AC:= .seq (.seq (.run [.o 3 (.mv (.k (.int .i64 1)))]) (.block 0 (.loop ap2))) (.seq (.run [.m 35 aJ, .c 36 xC [fb], .o 37 (.un .not fk), .m 2 fF]) .ret)
abbrev ap4:AC:= .seq (.seq (.run [.m 4 aJ, .o 5 (.bin .eql dw (.k (.str []))), .m 6 bk, .g 7 6 false (.mv aJ), .g 8 6 false (.nK bT), .g 9 6 false (.bin .gtr bS (.k (.int .i64 8))), .o 10 (.pick bX (.k (.bool true)) cu), .m 11 bD, .g 12 11 false (.mv aJ), .g 13 11 false (.oU bZ (.k (.int .i64 0))), .d 14 11 false rQ [bV], .g 15 11 false (.un .not bK), .o 16 (.pick bU (.k (.bool true)) cv)]) apZ) ap3
abbrev ap5:AC:= .seq (.run [.o 2 (.mv (.k (.bool false)))]) ap4
abbrev ap6:AC:= .run [.o 8 (.aj a7 1), .o 9 (.load bS false 1), .o 10 (.bin .eql cu (.k (.int .i64 1))), .m 11 bD, .g 12 11 false (.aj a7 1), .g 13 11 false (.load bZ false 1), .g 14 11 false (.bin .eql bV (.k (.int .i64 3))), .o 15 (.pick bU (.k (.bool true)) bK), .m 16 cv, .g 17 16 false (.aj a7 1), .g 18 16 false (.load cU false 1), .g 19 16 false (.bin .eql cT (.k (.int .i64 5))), .o 20 (.pick cq (.k (.bool true)) dh), .m 21 dt, .g 22 21 false (.aj a7 1), .g 23 21 false (.load dI false 1), .g 24 21 false (.bin .eql dJ (.k (.int .i64 6))), .o 25 (.pick dB (.k (.bool true)) df), .m 26 di, .g 27 26 false (.aj a7 1), .g 28 26 false (.load dY false 1), .g 29 26 false (.bin .eql eP (.k (.int .i64 9))), .g 30 26 false (.mv eK), .g 31 30 true (.aj a7 9), .g 32 30 true (.load eV false 1), .g 33 26 false (.pick eU fa (.k (.bool false))), .o 34 (.pick dX (.k (.bool true)) eZ), .m 3 fj]
abbrev ap7:AC:= .run [.o 51 (.aj a7 1), .o 52 (.load jd false 1), .o 53 (.bin .lss je (.k (.int .i64 1))), .m 54 jf, .g 55 54 false (.aj a7 1), .g 56 54 false (.load jI false 1), .g 57 54 false (.bin .gtr k5 (.k (.int .i64 10))), .o 58 (.pick jH (.k (.bool true)) lO), .m 59 lF, .g 60 59 false (.aj a7 2), .g 61 59 false (.load nn false 1), .d 62 59 false vH [oA], .g 63 59 false (.un .not oB), .o 64 (.pick kF (.k (.bool true)) oD), .m 65 p8, .g 66 65 false (.mv bO), .g 67 65 false (.mv sD), .g 68 67 true (.aj a7 5), .g 69 67 true (.load rS true 4), .d 70 67 true pE [ur], .g 71 67 true (.un .not sF), .g 72 65 false (.pick sE xD (.k (.bool false))), .o 73 (.pick rR (.k (.bool true)) vK), .m 74 vL, .g 75 74 false (.mv bO), .g 76 74 false (.un .not xF), .g 77 74 false (.mv vM), .g 78 77 true (.aj a7 5), .g 79 77 true (.load vN true 4), .d 80 77 true s6 [BD], .g 81 77 true (.un .not BE), .g 82 74 false (.pick xG BF (.k (.bool false))), .o 83 (.pick xE (.k (.bool true)) DU), .m 84 DV, .g 85 84 false (.aj a7 9), .g 86 84 false (.load DX false 1), .g 87 84 false (.mv DY), .g 88 87 true (.aj a7 1), .g 89 87 true (.load D0 false 1), .g 90 87 true (.bin .neq zC (.k (.int .i64 9))), .g 91 84 false (.pick DZ BG (.k (.bool false))), .o 92 (.pick DW (.k (.bool true)) D1)]
abbrev ap8:AC:= .cond Gg (.seq (.run [.o 2 (.mv (.k (.bool false)))]) .ret) .skip
abbrev ap9:AC:= .run [.m 93 dw, .m 94 KD, .g 95 94 true (.aj a7 3), .g 96 94 true (.load KF false 1), .d 97 94 true lh [Qp], .g 98 94 true (.un .not Qq), .o 99 (.pick KE Qr (.k (.bool false))), .m 100 Qs, .g 101 100 false (.mv dw), .g 102 100 false (.un .not IM), .g 103 100 false (.mv IN), .g 104 103 true (.aj a7 3), .g 105 103 true (.load IQ false 1), .g 106 103 true (.bin .neq IS (.k (.str []))), .g 107 100 false (.pick IP IT (.k (.bool false))), .g 108 100 false (.mv IU), .g 109 108 true (.mv bk), .g 110 108 true (.mv Qt), .g 111 110 true (.aj a7 3), .g 112 110 true (.load IX false 1), .d 113 110 true lh [ES], .g 114 108 true (.pick IW IY (.k (.bool false))), .g 115 108 true (.un .not IZ), .g 116 100 false (.pick IV I0 (.k (.bool false))), .o 117 (.pick IL (.k (.bool true)) I1)]
abbrev aqa:AC:= .cond I2 (.seq (.run [.o 2 (.mv (.k (.bool false)))]) .ret) .skip
abbrev aqb:AC:= .run [.m 118 bk, .o 119 (.aj a7 4), .o 120 (.load I4 false 1), .o 121 (.bin .neq I5 (.k (.str []))), .o 122 (.Dd true I3 I6), .m 123 I7, .g 124 123 false (.mv bk), .g 125 123 false (.mv I9), .g 126 125 true (.aj a7 4), .g 127 125 true (.load Qu false 1), .d 128 125 true lh [Jb], .g 129 125 true (.un .not zD), .g 130 123 false (.pick Ja Jc (.k (.bool false))), .o 131 (.pick I8 (.k (.bool true)) Jd), .m 132 Qv, .g 133 132 false (.mv bk), .g 134 132 false (.un .not Qw), .g 135 132 false (.mv Qx), .g 136 135 true (.aj a7 10), .g 137 135 true (.load Qz false 1), .g 138 135 true (.len QA), .g 139 135 true (.bin .gtr QB (.k (.int .i64 0))), .g 140 132 false (.pick Qy QC (.k (.bool false))), .o 141 (.pick Je (.k (.bool true)) QD)]
abbrev aqc:AC:= .cond QE (.seq (.run [.o 2 (.mv (.k (.bool false)))]) .ret) .skip
abbrev aqd:AC:= .cond QM (.seq (.run [.o 2 (.mv (.k (.bool false)))]) .ret) .skip
abbrev aqe:AC:= .seq (.block 1 (.seq (.run [.o 147 (.cr Jf ET 6), .o 148 (.load QI true 6), .o 7 (.alloc [(.bool false),(.str []),(.int .i64 0),(.int .i64 0),(.str []),(.slice .full 0 [])]), .op none none (.store bT QJ 6)]) (.seq (.run [.o 149 (.load bT true 6), .c 150 zB [QK], .o 151 (.un .not QL)]) aqd))) (.run [.o 152 (.bin .add ET (.k (.int .i64 1))), .m 145 YQ])
abbrev aqf:AC:= .block 0 (.loop (.seq (.run [.o 146 (.bin .lss ET QG)]) (.seq (.cond QH .skip (.exit 0)) aqe)))
abbrev aqg:AC:= .run [.o 153 (.aj a7 11), .o 154 (.load YR false 1), .o 155 (.len YS), .o 156 (.bin .eql YT (.k (.int .i64 0))), .m 157 YU, .g 158 157 false (.aj a7 1), .g 159 157 false (.load YW false 1), .g 160 157 false (.bin .eql YX (.k (.int .i64 5))), .o 161 (.pick YV (.k (.bool true)) YY), .m 162 YZ, .g 163 162 false (.aj a7 1), .g 164 162 false (.load Y1 false 1), .g 165 162 false (.bin .eql Y2 (.k (.int .i64 6))), .o 166 (.pick Y0 (.k (.bool true)) Y3), .m 167 Y4, .g 168 167 true (.aj a7 12), .g 169 167 true (.load Y6 false 1), .g 170 167 true (.len Y7), .g 171 167 true (.bin .eql Y8 (.k (.int .i64 0))), .g 172 167 true (.mv Y9), .g 173 172 false (.aj a7 1), .g 174 172 false (.load Zb false 1), .g 175 172 false (.bin .eql Zc (.k (.int .i64 5))), .g 176 167 true (.pick Za (.k (.bool true)) Zd), .o 177 (.pick Y5 ahD (.k (.bool false))), .m 2 ahE]
abbrev ad3:AC:= .seq (.seq (.run [.o 142 (.aj a7 10), .o 143 (.load QF false 1), .o 144 (.len Jf), .o 145 (.mv (.k (.int .i64 0)))]) aqf) (.seq aqg .ret)
abbrev ad4:AC:= .seq (.seq aqb aqc) ad3
abbrev ad5:AC:= .seq (.seq ap9 aqa) ad4
abbrev ad6:AC:= .seq (.seq ap7 ap8) ad5
abbrev ad7:AC:= .seq (.run [.o 48 (.aj a7 1), .o 49 (.load iA false 1), .o 50 (.bin .eql iO (.k (.int .i64 4))), .m 5 jG]) ad6
abbrev ad8:AC:= .seq (.run [.o 35 (.aj a7 1), .o 36 (.load fb false 1), .o 37 (.bin .eql fk (.k (.int .i64 1))), .m 38 fF, .g 39 38 false (.aj a7 1), .g 40 38 false (.load fR false 1), .g 41 38 false (.bin .eql gh (.k (.int .i64 2))), .o 42 (.pick fQ (.k (.bool true)) ga), .m 43 gU, .g 44 43 false (.aj a7 1), .g 45 43 false (.load iF false 1), .g 46 43 false (.bin .eql jb (.k (.int .i64 10))), .o 47 (.pick gV (.k (.bool true)) jc), .m 4 jF]) ad7
abbrev ad9:AC:= .seq ap6 ad8
abbrev aqh:AC:= .seq (.run [.o 1 (.box aJ), .o 2 (.mv (.k (.bool false)))]) ad9
abbrev aqi:AC:= .cond bk (.seq (.run [.o 2 (.mv (.k (.slice .full 0 [])))]) .ret) .skip
abbrev aqj:AC:= .seq (.seq (.run [.o 3 (.load a7 true 4), .c 4 na [bO], .o 5 (.un .not dw)]) aqi) (.seq (.run [.o 6 (.load a7 true 4),(.c 7 iR [bX,(.k (.slice .full 0 []))]), .m 2 bT]) .ret)
abbrev aqk:AC:= .seq (.run [.o 1 (.box aJ), .o 2 (.mv (.k (.slice .full 0 [])))]) aqj
abbrev aql:AC:= .seq (.run [.o 4 (.mv (.k (.bool false)))]) (.seq (.run [.m 5 aJ, .m 6 a7, .c 7 gk [bk,bX], .o 8 (.bin .geq bT (.k (.int .i64 0))), .m 4 bS]) .ret)
abbrev aqm:AC:= .seq (.run [.o 2 (.box aJ), .o 3 (.mv (.k (.bool false)))]) (.seq (.run [.o 4 (.aj cZ 0), .o 5 (.load dw false 1), .o 6 (.load a7 false 1), .o 7 (.bin .eql bk bX), .m 3 bT]) .ret)
abbrev aqn:AC:= .seq (.run [.o 16 (.cr bZ bK 17), .o 17 (.load cq true 17), .o 7 (.alloc [(.int .i64 0),(.int .i64 0),(.slice .full 0 []),(.str []),(.str []),(.int .i64 0),(.int .i64 0),(.str []),(.slice .full 0 []),(.bool false),(.slice .full 0 []),(.slice .full 0 []),(.slice .full 0 []),(.int .i64 0),(.int .i64 0),(.int .i64 0),(.int .i64 0)]), .op none none (.store bT cU 17)]) (.seq (.run [.o 18 (.aj bT 0), .o 19 (.aj cT 1), .o 20 (.load dh false 1), .o 21 (.bin .eql dt (.k (.int .i64 4)))]) (.cond dB (.run [.m 22 bk, .o 23 (.aj bT 0), .o 24 (.aj dJ 4), .o 25 (.load df false 1), .o 26 (.cD [(.str [])] 1 1 [(0,di)]), .o 27 (.app 1 16 dI dX), .m 5 dY]) .skip))
abbrev aqo:AC:= .seq (.cond cv .skip (.exit 0)) (.seq (.block 1 aqn) (.run [.o 28 (.bin .add bK (.k (.int .i64 1))), .m 14 eP]))
abbrev aqp:AC:= .seq (.run [.m 8 aJ, .m 9 aJ, .m 10 a7, .c 11 iE [cu,bD], .c 12 gQ [bS,bU], .o 13 (.len bZ), .o 14 (.mv (.k (.int .i64 0)))]) (.block 0 (.loop (.seq (.run [.o 15 (.bin .lss bK bV)]) aqo)))
abbrev aqq:AC:= .seq (.run [.o 4 (.mv (.k (.slice .full 0 [])))]) (.seq (.run [.o 5 (.mv (.k (.slice .full 0 [])))]) (.seq aqp (.seq (.run [.m 29 bk, .c 30 jD [eK]]) (.seq (.run [.m 31 bk, .c 32 j7 [eV], .m 4 fa]) .ret))))
abbrev aqr:AC:= .seq (.run [.o 1 (.box aJ), .o 2 (.mv (.k (.bool false)))]) (.seq (.run [.o 3 (.aj a7 0), .o 4 (.load bO false 1), .o 5 (.bin .eql dw (.k (.int .i64 0))), .m 6 bk, .g 7 6 true (.aj a7 1), .g 8 6 true (.load bT false 1), .g 9 6 true (.bin .eql bS (.k (.int .i64 0))), .o 10 (.pick bX cu (.k (.bool false))), .m 11 bD, .g 12 11 true (.aj a7 2), .g 13 11 true (.load bZ false 1), .g 14 11 true (.bin .eql bV (.k (.str []))), .o 15 (.pick bU bK (.k (.bool false))), .m 16 cv, .g 17 16 true (.aj a7 3), .g 18 16 true (.load cU false 1), .g 19 16 true (.len cT), .g 20 16 true (.bin .eql dh (.k (.int .i64 0))), .o 21 (.pick cq dt (.k (.bool false))), .m 2 dB]) .ret)
abbrev aqs:AC:= .par [.m 4 aJ, .c 5 c6 [dw], .m 6 bk, .g 7 6 true (.mv aJ), .d 8 6 true dP [bT], .g 9 6 true (.uC bS 0 false 1), .g 10 6 true (.bin .eql cu (.k (.int .i64 1))), .o 11 (.pick bX bD (.k (.bool false))), .m 12 bU, .g 13 12 true (.mv aJ), .g 14 12 true (.bq bV), .g 15 12 true (.aj bK 0), .g 16 12 true (.load cv false 1), .g 17 12 true (.mv aJ), .g 18 12 true (.bq cU), .g 19 12 true (.aj cT 1), .g 20 12 true (.load dh false 1), .g 21 12 true (.bin .add dt (.k (.int .i64 1))), .g 22 12 true (.cr cq dB 4), .g 23 12 true (.aj dI 0), .g 24 12 true (.load dJ false 1), .g 25 12 true (.bin .eql df (.k (.int .i64 4))), .o 26 (.pick bZ di (.k (.bool false))), .m 27 dX, .g 28 27 true (.mv aJ), .g 29 27 true (.bq eP), .g 30 27 true (.aj eK 0), .g 31 27 true (.load eU false 1), .g 32 27 true (.mv aJ), .g 33 27 true (.bq fa), .g 34 27 true (.aj eZ 1), .g 35 27 true (.load fj false 1), .g 36 27 true (.bin .add fb (.k (.int .i64 1))), .g 37 27 true (.cr eV fk 4), .g 38 27 true (.aj fF 1), .g 39 27 true (.load fQ false 1), .g 40 27 true (.bin .eql fR (.k (.str [58]))), .o 41 (.pick dY gh (.k (.bool false)))] [(0,0),(1,0),(2,0),(3,0),(4,0),(5,0),(6,0),(7,0),(8,0),(9,0),(10,0),(11,0),(12,0),(13,0),(14,0),(15,0),(16,0),(17,0),(18,0),(19,0),(20,0),(21,0),(22,0),(23,0),(24,0),(25,0),(26,0),(27,0),(28,0),(29,0),(30,0),(31,0),(32,0),(33,0),(34,0),(35,0),(36,0),(37,0)]
abbrev aqt:AC:= .block 1 (.seq (.run [.m 42 bO, .m 43 aJ, .c 44 dP [gV], .o 45 (.uC iF 1 false 1), .o 46 (.cD [(.str [])] 1 1 [(0,jb)]), .o 47 (.app 1 16 gU jc), .m 3 jF]) (.run [.m 48 aJ, .o 49 (.bq iA), .o 50 (.aj iO 1), .o 51 (.load jG false 1), .o 52 (.bin .add jd (.k (.int .i64 2))), .o 53 (.bq iA), .o 54 (.aj jf 1), .op none none (.store jH je 1)]))
abbrev aqu:AC:= .block 0 (.loop (.seq (.seq aqs (.cond ga .skip (.exit 0))) aqt))
abbrev aqv:AC:= .seq (.run [.o 2 (.mv (.k (.slice .full 0 [])))]) (.seq (.run [.o 3 (.mv (.k (.slice .full 0 [])))]) (.seq aqu (.seq (.run [.m 55 bO, .m 2 jI]) .ret)))
abbrev aqw:AC:= .cond bD (.seq (.run [.m 11 aJ, .c 12 e9 [bU,(.k (.int .i64 3))]]) (.seq (.run [.o 13 (.build [(.int .i64 0),(.int .i64 0),(.slice .full 0 []),(.str []),(.str []),(.int .i64 0),(.int .i64 0),(.str []),(.slice .full 0 []),(.bool false),(.slice .full 0 []),(.slice .full 0 []),(.slice .full 0 [])] []), .op none none (.store dw bV 13)]) .ret)) .skip
abbrev aqx:AC:= .cond eK (.seq (.run [.m 30 aJ, .c 31 e9 [eU,(.k (.int .i64 4))]]) (.seq (.run [.o 32 (.build [(.int .i64 0),(.int .i64 0),(.slice .full 0 []),(.str []),(.str []),(.int .i64 0),(.int .i64 0),(.str []),(.slice .full 0 []),(.bool false),(.slice .full 0 []),(.slice .full 0 []),(.slice .full 0 [])] []), .op none none (.store dw fa 13)]) .ret)) .skip
abbrev aqy:AC:= .seq (.run [.m 56 aJ, .c 57 lJ [k5],(.o 58 (.build [(.int .i64 0),(.int .i64 0),(.slice .full 0 []),(.str []),(.str []),(.int .i64 0),(.int .i64 0),(.str []),(.slice .full 0 []),(.bool false),(.slice .full 0 []),(.slice .full 0 []),(.slice .full 0 [])] [(1,(1,(.k (.int .i64 6)))),(5,(4,lO))])), .o 6 (.alloc [(.int .i64 0),(.int .i64 0),(.slice .full 0 []),(.str []),(.str []),(.int .i64 0),(.int .i64 0),(.str []),(.slice .full 0 []),(.bool false),(.slice .full 0 []),(.slice .full 0 []),(.slice .full 0 [])]), .op none none (.store bX lF 13)]) (.seq (.run [.m 59 aJ, .m 60 a7, .c 61 jE [kF,nn], .o 62 (.aj bX 11), .op none none (.store oB oA 1)]) (.seq (.run [.o 63 (.load bX true 13), .op none none (.store dw oD 13)]) .ret))
abbrev aqz:AC:= .cond iO (.seq (.run [.m 51 aJ, .m 52 a7, .c 53 nj [jd,je], .op none none (.store dw jf 13)]) .ret) (.seq (.run [.o 55 (.bin .eql iA (.k (.str [119,104,105,108,101]))), .m 54 jI]) (.cond jH aqy .skip))
abbrev aqA:AC:= .block 0 (.seq (.run [.o 50 (.bin .eql iA (.k (.str [105,102]))), .m 49 jG]) aqz)
abbrev aqB:AC:= .seq (.run [.m 64 aJ, .o 65 (.aj bk 1), .o 66 (.load rR false 1), .c 67 nU [p8,sD], .o 7 (.alloc [(.int .i64 0),(.int .i64 0),(.slice .full 0 []),(.str []),(.str []),(.int .i64 0),(.int .i64 0),(.str []),(.slice .full 0 []),(.bool false),(.slice .full 0 []),(.slice .full 0 []),(.slice .full 0 [])]), .op none none (.store bT sE 13)]) (.seq (.run [.m 68 aJ,(.c 69 dv [rS,(.k (.str [59]))])]) (.seq (.run [.o 70 (.load bT true 13), .op none none (.store dw sF 13)]) .ret))
abbrev aqC:AC:= .seq (.seq (.run [.o 35 (.aj bk 0), .o 36 (.load fb false 1), .o 37 (.bin .eql fk (.k (.int .i64 1)))]) (.cond fF (.seq (.run [.m 38 aJ, .c 39 nT [fQ], .op none none (.store dw fR 13)]) .ret) .skip)) (.seq (.run [.m 40 aJ, .o 41 (.bq gh), .o 42 (.aj ga 1), .o 43 (.load gU false 1), .o 44 (.bin .add gV (.k (.int .i64 1))), .o 45 (.bq gh), .o 46 (.aj jb 1), .op none none (.store jc iF 1)]) (.seq (.seq (.run [.o 47 (.aj bk 1), .o 48 (.load jF false 1)]) aqA) aqB))
abbrev aqD:AC:= .seq (.seq (.run [.m 21 aJ, .o 22 (.bq dB), .o 23 (.aj dI 4), .o 24 (.load dJ false 1), .o 25 (.bin .gtr df (.k (.int .i64 200))), .m 26 di, .g 27 26 false (.mv a7), .g 28 26 false (.bin .gtr dY (.k (.int .i64 12))), .o 29 (.pick dX (.k (.bool true)) eP)]) aqx) (.seq (.run [.m 33 aJ, .c 34 dP [eZ], .o 5 (.alloc [(.int .i64 0),(.str []),(.int .i64 0),(.int .i64 0)]), .op none none (.store bk fj 4)]) aqC)
abbrev aqE:AC:= .seq (.seq (.run [.m 8 aJ, .c 9 ni [bS], .o 10 (.un .not cu)]) aqw) (.seq (.run [.m 14 aJ, .o 15 (.bq bK), .o 16 (.aj cv 4), .o 17 (.load cq false 1), .o 18 (.bin .add cU (.k (.int .i64 1))), .o 19 (.bq bK), .o 20 (.aj dh 4), .op none none (.store dt cT 1)]) aqD)
abbrev aqF:AC:= .seq (.run [.o 4 (.alloc [(.int .i64 0),(.int .i64 0),(.slice .full 0 []),(.str []),(.str []),(.int .i64 0),(.int .i64 0),(.str []),(.slice .full 0 []),(.bool false),(.slice .full 0 []),(.slice .full 0 []),(.slice .full 0 [])])]) aqE
abbrev aqG:AC:= .seq (.run [.o 2 (.mv (.k (.bool false)))]) (.seq (.run [.m 3 aJ, .o 4 (.bin .geq bO (.k (.int .u8 97))), .m 5 dw, .g 6 5 true (.mv aJ), .g 7 5 true (.bin .leq bX (.k (.int .u8 122))), .o 8 (.pick bk bT (.k (.bool false))), .m 2 bS]) .ret)
abbrev aqH:AC:= .seq (.run [.o 2 (.mv (.k (.bool false)))]) (.seq (.run [.m 3 aJ, .o 4 (.bin .geq bO (.k (.int .u8 48))), .m 5 dw, .g 6 5 true (.mv aJ), .g 7 5 true (.bin .leq bX (.k (.int .u8 57))), .o 8 (.pick bk bT (.k (.bool false))), .m 2 bS]) .ret)
abbrev aqI:AC:= .cond bV (.seq (.run [.o 2 (.mv (.k (.bool true)))]) .ret) .skip
abbrev aqJ:AC:= .seq (.block 1 (.seq (.run [.o 9 (.cr bk bT 1), .o 10 (.load cu false 1), .m 4 bD]) (.seq (.run [.m 11 dw, .m 12 aJ, .o 13 (.bin .eql bU bZ)]) aqI))) (.run [.o 14 (.bin .add bT (.k (.int .i64 1))), .m 7 bK])
abbrev aqK:AC:= .block 0 (.loop (.seq (.run [.o 8 (.bin .lss bT bX)]) (.seq (.cond bS .skip (.exit 0)) aqJ)))
abbrev aqL:AC:= .seq (.seq (.run [.c 5 vJ [], .o 6 (.len bk), .o 7 (.mv (.k (.int .i64 0)))]) aqK) (.seq (.run [.o 2 (.mv (.k (.bool false)))]) .ret)
abbrev aqM:AC:= .seq (.run [.o 2 (.mv (.k (.bool false)))]) aqL
abbrev aqN:AC:= .seq (.run [.o 1 (.box aJ), .o 2 (.mv (.k (.bool false)))]) (.seq (.run [.o 3 (.load a7 true 4), .c 4 ql [bO,(.k (.int .i64 20))], .o 5 (.bin .leq dw (.k (.int .i64 20))), .m 6 bk, .g 7 6 true (.load a7 true 4), .d 8 6 true qm [bT], .o 9 (.pick bX bS (.k (.bool false))), .m 2 cu]) .ret)
abbrev aqO:AC:= .seq (.run [.o 1 (.box aJ), .o 2 (.mv (.k (.bool false)))]) (.seq (.run [.o 3 (.aj a7 0), .o 4 (.load bO false 1), .o 5 (.bin .eql dw (.k (.int .i64 0))), .m 6 bk, .g 7 6 true (.aj a7 1), .g 8 6 true (.load bT false 1), .g 9 6 true (.bin .eql bS (.k (.int .i64 0))), .o 10 (.pick bX cu (.k (.bool false))), .m 11 bD, .g 12 11 true (.aj a7 2), .g 13 11 true (.load bZ false 1), .g 14 11 true (.bin .eql bV (.k (.str []))), .o 15 (.pick bU bK (.k (.bool false))), .m 16 cv, .g 17 16 true (.aj a7 3), .g 18 16 true (.load cU false 1), .g 19 16 true (.len cT), .g 20 16 true (.bin .eql dh (.k (.int .i64 0))), .o 21 (.pick cq dt (.k (.bool false))), .m 2 dB]) .ret)
abbrev aqP:AC:= .cond dw (.seq (.run [.o 5 (.aj a7 1), .o 6 (.load bk false 1), .c 7 lh [bX], .m 8 bT, .g 9 8 true (.aj a7 2), .g 10 8 true (.load cu true 4), .d 11 8 true s6 [bD], .o 12 (.pick bS bU (.k (.bool false))), .m 2 bZ]) .ret) .skip
abbrev aqQ:AC:= .seq (.seq (.run [.o 3 (.aj a7 0), .o 4 (.load bO false 1)]) aqP) (.seq (.run [.o 13 (.aj a7 1), .o 14 (.load bV false 1), .o 15 (.bin .eql bK (.k (.str []))), .m 16 cv, .g 17 16 true (.aj a7 2), .g 18 16 true (.load cU true 4), .d 19 16 true pE [cT], .o 20 (.pick cq dh (.k (.bool false))), .m 2 dt]) .ret)
abbrev aqR:AC:= .seq (.run [.o 1 (.box aJ), .o 2 (.mv (.k (.bool false)))]) aqQ
abbrev aqS:AC:= .seq (.block 1 (.seq (.run [.o 27 (.cr dJ di 4), .o 28 (.load dY true 4), .o 6 (.alloc [(.int .i64 0),(.int .i64 0),(.str []),(.slice .full 0 [])]), .op none none (.store bX eP 4)]) (.run [.o 29 (.load bX true 4), .m 30 a7, .c 31 iR [eK,eU], .m 1 eV]))) (.run [.o 32 (.bin .add di (.k (.int .i64 1))), .m 25 fa])
abbrev aqT:AC:= .block 0 (.loop (.seq (.run [.o 26 (.bin .lss di df)]) (.seq (.cond dX .skip (.exit 0)) aqS)))
abbrev aqU:AC:= .seq (.seq (.run [.o 22 (.aj cZ 3), .o 23 (.load dI false 1), .o 24 (.len dJ), .o 25 (.mv (.k (.int .i64 0)))]) aqT) (.seq (.run [.m 33 a7, .m 4 eZ]) .ret)
abbrev aqV:AC:= .seq (.seq (.run [.o 7 (.aj cZ 0), .o 8 (.load bT false 1), .o 9 (.bin .eql bS (.k (.int .i64 2))), .m 10 cu, .g 11 10 true (.mv a7), .g 12 10 true (.aj cZ 2), .g 13 10 true (.load bZ false 1), .d 14 10 true cB [bU,bV], .g 15 10 true (.un .not bK), .o 16 (.pick bD cv (.k (.bool false)))]) (.cond cq (.run [.m 17 a7, .o 18 (.aj cZ 2), .o 19 (.load cT false 1), .o 20 (.cD [(.str [])] 1 1 [(0,dh)]), .o 21 (.app 1 16 cU dt), .m 1 dB]) .skip)) aqU
abbrev aqW:AC:= .seq (.run [.o 2 (.box aJ), .o 4 (.mv (.k (.slice .full 0 [])))]) aqV
open Go.Proofs
theorem tI:Has Tryz.prog kZ 19 [(4,none)] aoY:=⟨Tryz.f170,by kernel_rfl,by kernel_rfl⟩
theorem Gn:Has Tryz.prog rN 45 [(2,none)] ao4:=⟨Tryz.f171,by kernel_rfl,by kernel_rfl⟩
theorem Gp:Has Tryz.prog vF 37 [(6,none)] ape:=⟨Tryz.f172,by kernel_rfl,by kernel_rfl⟩
theorem yz:Has Tryz.prog vG 28 [(4,none)] apl:=⟨Tryz.f173,by kernel_rfl,by kernel_rfl⟩
theorem wR:Has Tryz.prog uk 15 [(4,none)] apm:=⟨Tryz.f174,by kernel_rfl,by kernel_rfl⟩
theorem Iq:Has Tryz.prog xA 40 [(4,none)] apt:=⟨Tryz.f175,by kernel_rfl,by kernel_rfl⟩
theorem Gq:Has Tryz.prog pg 18 [(4,none)] apu:=⟨Tryz.f178,by kernel_rfl,by kernel_rfl⟩
theorem Gr:Has Tryz.prog rO 18 [(4,none)] apv:=⟨Tryz.f179,by kernel_rfl,by kernel_rfl⟩
theorem E0:Has Tryz.prog um 27 [(2,none)] apB:=⟨Tryz.f180,by kernel_rfl,by kernel_rfl⟩
theorem zI:Has Tryz.prog ph 19 [(4,none)] apH:=⟨Tryz.f181,by kernel_rfl,by kernel_rfl⟩
theorem yA:Has Tryz.prog eR 31 [(4,none)] apN:=⟨Tryz.f182,by kernel_rfl,by kernel_rfl⟩
theorem yB:Has Tryz.prog dv 10 [] apO:=⟨Tryz.f183,by kernel_rfl,by kernel_rfl⟩
theorem q5:Has Tryz.prog gI 43 [(6,none),(7,none)] apT:=⟨Tryz.f184,by kernel_rfl,by kernel_rfl⟩
theorem Gs:Has Tryz.prog vH 15 [(2,none)] apY:=⟨Tryz.f185,by kernel_rfl,by kernel_rfl⟩
theorem Ay:Has Tryz.prog lh 38 [(2,none)] ap5:=⟨Tryz.f186,by kernel_rfl,by kernel_rfl⟩
theorem KR:Has Tryz.prog EP 178 [(2,none)] aqh:=⟨Tryz.f187,by kernel_rfl,by kernel_rfl⟩
theorem yC:Has Tryz.prog rP 8 [(2,none)] aqk:=⟨Tryz.f195,by kernel_rfl,by kernel_rfl⟩
theorem qO:Has Tryz.prog gR 9 [(4,none)] aql:=⟨Tryz.f196,by kernel_rfl,by kernel_rfl⟩
theorem C5:Has Tryz.prog oO 8 [(3,none)] aqm:=⟨Tryz.f197,by kernel_rfl,by kernel_rfl⟩
theorem E1:Has Tryz.prog uq 33 [(4,none)] aqq:=⟨Tryz.f198,by kernel_rfl,by kernel_rfl⟩
theorem Ir:Has Tryz.prog xB 22 [(2,none)] aqr:=⟨Tryz.f201,by kernel_rfl,by kernel_rfl⟩
theorem wq:Has Tryz.prog nh 56 [(2,none)] aqv:=⟨Tryz.f202,by kernel_rfl,by kernel_rfl⟩
theorem yD:Has Tryz.prog oz 71 [(4,(some (true,13)))] aqF:=⟨Tryz.f203,by kernel_rfl,by kernel_rfl⟩
theorem Gt:Has Tryz.prog rQ 9 [(2,none)] aqG:=⟨Tryz.f204,by kernel_rfl,by kernel_rfl⟩
theorem Gu:Has Tryz.prog vI 9 [(2,none)] aqH:=⟨Tryz.f205,by kernel_rfl,by kernel_rfl⟩
theorem Is:Has Tryz.prog xC 15 [(2,none)] aqM:=⟨Tryz.f206,by kernel_rfl,by kernel_rfl⟩
theorem D5:Has Tryz.prog pE 10 [(2,none)] aqN:=⟨Tryz.f207,by kernel_rfl,by kernel_rfl⟩
theorem Iu:Has Tryz.prog s6 22 [(2,none)] aqO:=⟨Tryz.f208,by kernel_rfl,by kernel_rfl⟩
theorem KS:Has Tryz.prog zB 21 [(2,none)] aqR:=⟨Tryz.f209,by kernel_rfl,by kernel_rfl⟩
theorem rU:Has Tryz.prog iR 34 [(4,none)] aqW:=⟨Tryz.f213,by kernel_rfl,by kernel_rfl⟩
abbrev aqX:AC:= .cond bS (.seq (.run [.o 2 (.mv (.k (.bool true)))]) .ret) .skip
abbrev aqY:AC:= .cond bU (.seq (.run [.o 2 (.mv (.k (.bool false)))]) .ret) .skip
abbrev aqZ:AC:= .seq (.run [.o 21 (.bin .eql bV (.k (.str [114,101,97,100]))), .m 14 dB]) (.cond bK .skip (.run [.o 22 (.bin .eql bV (.k (.str [112,114,105,110,116]))), .m 14 dI]))
abbrev aq0:AC:= .cond bK .skip (.seq (.run [.o 20 (.bin .eql bV (.k (.str [103,111,116,111]))), .m 14 dt]) (.cond bK .skip aqZ))
abbrev aq1:AC:= .cond bK .skip (.seq (.run [.o 19 (.bin .eql bV (.k (.str [114,101,116,117,114,110]))), .m 14 dh]) aq0)
abbrev aq2:AC:= .cond bK .skip (.seq (.run [.o 18 (.bin .eql bV (.k (.str [99,111,110,116,105,110,117,101]))), .m 14 cT]) aq1)
abbrev aq3:AC:= .cond bK .skip (.seq (.run [.o 17 (.bin .eql bV (.k (.str [98,114,101,97,107]))), .m 14 cU]) aq2)
abbrev aq4:AC:= .cond bK .skip (.seq (.run [.o 16 (.bin .eql bV (.k (.str [119,104,105,108,101]))), .m 14 cq]) aq3)
abbrev aq5:AC:= .cond bK (.seq (.run [.o 2 (.mv (.k (.bool true)))]) .ret) .skip
abbrev aq6:AC:= .seq (.seq (.run [.o 15 (.bin .eql bV (.k (.str [105,102]))), .m 14 cv]) aq4) aq5
abbrev aq7:AC:= .seq (.seq (.run [.o 12 (.aj bO 1), .o 13 (.load bZ false 1)]) (.block 0 aq6)) (.seq (.run [.o 2 (.mv (.k (.bool false)))]) .ret)
abbrev aq8:AC:= .seq (.seq (.run [.o 9 (.aj bO 0), .o 10 (.load cu false 1), .o 11 (.bin .neq bD (.k (.int .i64 3)))]) aqY) aq7
abbrev aq9:AC:= .seq (.seq (.run [.o 6 (.aj bO 0), .o 7 (.load bX false 1), .o 8 (.bin .eql bT (.k (.int .i64 1)))]) aqX) aq8
abbrev ara:AC:= .seq (.run [.o 2 (.mv (.k (.bool false)))]) (.seq (.run [.m 4 aJ, .c 5 dP [dw], .o 3 (.alloc [(.int .i64 0),(.str []),(.int .i64 0),(.int .i64 0)]), .op none none (.store bO bk 4)]) aq9)
abbrev arb:AC:= .cond bS (.seq (.run [.m 9 aJ, .m 10 bO,(.c 11 lK [cu,(.k (.str [])),bD]), .op none none (.store cZ bU 13)]) .ret) .skip
abbrev arc:AC:= .par [.m 14 aJ, .c 15 c6 [bK], .m 16 cv, .g 17 16 true (.mv aJ), .d 18 16 true dP [cU], .g 19 16 true (.uC cT 0 false 1), .g 20 16 true (.bin .eql dh (.k (.int .i64 1))), .o 21 (.pick cq dt (.k (.bool false))), .m 22 dB, .g 23 22 true (.mv aJ), .g 24 22 true (.bq dJ), .g 25 22 true (.aj df 0), .g 26 22 true (.load di false 1), .g 27 22 true (.mv aJ), .g 28 22 true (.bq dY), .g 29 22 true (.aj eP 1), .g 30 22 true (.load eK false 1), .g 31 22 true (.bin .add eU (.k (.int .i64 1))), .g 32 22 true (.cr dX eV 4), .g 33 22 true (.aj fa 0), .g 34 22 true (.load eZ false 1), .g 35 22 true (.bin .eql fj (.k (.int .i64 4))), .o 36 (.pick dI fb (.k (.bool false))), .m 37 fk, .g 38 37 true (.mv aJ), .g 39 37 true (.bq fQ), .g 40 37 true (.aj fR 0), .g 41 37 true (.load gh false 1), .g 42 37 true (.mv aJ), .g 43 37 true (.bq gU), .g 44 37 true (.aj gV 1), .g 45 37 true (.load iF false 1), .g 46 37 true (.bin .add jb (.k (.int .i64 1))), .g 47 37 true (.cr ga jc 4), .g 48 37 true (.aj jF 1), .g 49 37 true (.load iA false 1), .g 50 37 true (.bin .eql iO (.k (.str [40]))), .o 51 (.pick fF jG (.k (.bool false)))] [(0,0),(1,0),(2,0),(3,0),(4,0),(5,0),(6,0),(7,0),(8,0),(9,0),(10,0),(11,0),(12,0),(13,0),(14,0),(15,0),(16,0),(17,0),(18,0),(19,0),(20,0),(21,0),(22,0),(23,0),(24,0),(25,0),(26,0),(27,0),(28,0),(29,0),(30,0),(31,0),(32,0),(33,0),(34,0),(35,0),(36,0),(37,0)]
abbrev ard:AC:= .seq arc (.cond jd (.seq (.run [.m 52 aJ, .m 53 bO, .m 54 aJ, .c 55 eR [jH,(.k (.bool true))], .c 56 lK [je,jf,jI], .op none none (.store cZ k5 13)]) .ret) .skip)
abbrev arf:AC:= .seq (.run [.m 57 bO, .m 58 aJ, .c 59 gv [lF],(.o 60 (.build [(.int .i64 0),(.int .i64 0),(.slice .full 0 []),(.str []),(.str []),(.int .i64 0),(.int .i64 0),(.str []),(.slice .full 0 []),(.bool false),(.slice .full 0 []),(.slice .full 0 []),(.slice .full 0 [])] [(1,(1,(.k (.int .i64 1)))),(3,(1,lO)),(5,(4,kF))])), .o 4 (.alloc [(.int .i64 0),(.int .i64 0),(.slice .full 0 []),(.str []),(.str []),(.int .i64 0),(.int .i64 0),(.str []),(.slice .full 0 []),(.bool false),(.slice .full 0 []),(.slice .full 0 []),(.slice .full 0 [])]), .op none none (.store dw nn 13)]) (.seq (.run [.m 61 aJ,(.c 62 dv [oA,(.k (.str [59]))])]) (.seq (.run [.o 63 (.load dw true 13), .op none none (.store cZ oD 13)]) .ret))
abbrev arh:AC:= .seq (.seq (.run [.m 7 aJ,(.c 8 fA [bT,(.k (.str [40]))])]) arb) (.seq (.run [.m 12 aJ,(.c 13 dv [bZ,(.k (.str [61]))])]) (.seq ard arf))
abbrev ari:AC:= .seq (.run [.o 2 (.alloc [(.int .i64 0),(.int .i64 0),(.slice .full 0 []),(.str []),(.str []),(.int .i64 0),(.int .i64 0),(.str []),(.slice .full 0 []),(.bool false),(.slice .full 0 []),(.slice .full 0 []),(.slice .full 0 [])])]) (.seq (.run [.m 5 aJ, .c 6 eR [bk,(.k (.bool true))], .m 3 bX]) arh)
abbrev arj:AC:= .seq (.seq (.run [.m 13 aJ,(.c 14 dO [bV,(.k (.str [101,108,115,101]))])]) (.cond bK (.run [.m 15 aJ, .m 16 a7, .c 17 jE [cv,cq], .o 18 (.aj bk 12), .op none none (.store cT cU 1)]) .skip)) (.seq (.run [.o 19 (.load bk true 13), .op none none (.store dw dh 13)]) .ret)
abbrev ark:AC:= .seq (.run [.m 6 aJ, .c 7 lJ [bX],(.o 8 (.build [(.int .i64 0),(.int .i64 0),(.slice .full 0 []),(.str []),(.str []),(.int .i64 0),(.int .i64 0),(.str []),(.slice .full 0 []),(.bool false),(.slice .full 0 []),(.slice .full 0 []),(.slice .full 0 [])] [(1,(1,(.k (.int .i64 5)))),(5,(4,bT))])), .o 5 (.alloc [(.int .i64 0),(.int .i64 0),(.slice .full 0 []),(.str []),(.str []),(.int .i64 0),(.int .i64 0),(.str []),(.slice .full 0 []),(.bool false),(.slice .full 0 []),(.slice .full 0 []),(.slice .full 0 [])]), .op none none (.store bk bS 13)]) (.seq (.run [.m 9 aJ, .m 10 a7, .c 11 jE [cu,bD], .o 12 (.aj bk 11), .op none none (.store bZ bU 1)]) arj)
abbrev arl:AC:= .seq (.run [.o 4 (.alloc [(.int .i64 0),(.int .i64 0),(.slice .full 0 []),(.str []),(.str []),(.int .i64 0),(.int .i64 0),(.str []),(.slice .full 0 []),(.bool false),(.slice .full 0 []),(.slice .full 0 []),(.slice .full 0 [])])]) ark
abbrev arn:AC:= .seq (.run [.m 6 aJ, .c 7 gv [bX], .o 3 (.alloc [(.int .i64 0),(.int .i64 0),(.str []),(.slice .full 0 [])]), .op none none (.store bO bT 4)]) (.seq (.run [.m 8 aJ,(.c 9 dv [bS,(.k (.str [41]))])]) (.seq (.run [.o 10 (.load bO true 4), .op none none (.store cZ bD 4)]) .ret))
abbrev aro:AC:= .seq (.run [.o 2 (.alloc [(.int .i64 0),(.int .i64 0),(.str []),(.slice .full 0 [])])]) (.seq (.run [.m 4 aJ,(.c 5 dv [dw,(.k (.str [40]))])]) arn)
abbrev arp:AC:= .seq (.run [.m 7 aJ,(.c 8 dv [bT,(.k (.str [123]))])]) (.seq (.run [.m 10 aJ, .m 11 a7, .o 12 (.bin .add bU (.k (.int .i64 1))), .c 13 gI [bD,bZ,(.k (.bool false))], .m 9 bV, .o 14 (.ext cu 0), .o 15 (.ext cu 1), .m 5 bK, .m 6 cv]) (.seq (.run [.m 16 bk, .m 4 cq]) .ret))
abbrev arq:AC:= .seq (.run [.o 4 (.mv (.k (.slice .full 0 [])))]) arp
abbrev ars:AC:= .seq (.run [.m 16 aJ,(.c 17 fA [cq,(.k (.str [59]))]), .o 18 (.un .not cU)]) (.cond cT (.run [.m 19 aJ, .c 20 gv [dh], .o 21 (.aj bk 9), .op none none (.store dB (.k (.bool true)) 1), .o 22 (.aj bk 5), .op none none (.store dI dt 4)]) .skip)
abbrev art:AC:= .seq (.run [.o 36 (.bin .eql bX (.k (.str [112,114,105,110,116]))), .m 35 fk]) (.cond fb (.run [.m 37 aJ, .c 38 gv [fF], .o 39 (.aj bk 1), .op none none (.store fR (.k (.int .i64 3)) 1), .o 40 (.aj bk 5), .op none none (.store gh fQ 4)]) .skip)
abbrev aru:AC:= .seq (.run [.o 30 (.bin .eql bX (.k (.str [114,101,97,100]))), .m 29 eU]) (.cond eK (.run [.m 31 aJ, .c 32 eR [eV,(.k (.bool true))], .o 33 (.aj bk 1), .op none none (.store eZ (.k (.int .i64 2)) 1), .o 34 (.aj bk 3), .op none none (.store fj fa 1)]) art)
abbrev arv:AC:= .seq (.run [.o 24 (.bin .eql bX (.k (.str [103,111,116,111]))), .m 23 df]) (.cond dJ (.run [.m 25 aJ, .c 26 eR [di,(.k (.bool true))], .o 27 (.aj bk 1), .op none none (.store dY (.k (.int .i64 10)) 1), .o 28 (.aj bk 3), .op none none (.store eP dX 1)]) aru)
abbrev arw:AC:= .cond bV (.seq (.run [.o 15 (.aj bk 1), .op none none (.store cv (.k (.int .i64 9)) 1)]) ars) arv
abbrev arx:AC:= .cond bD (.run [.o 12 (.aj bk 1), .op none none (.store bZ (.k (.int .i64 8)) 1)]) (.seq (.run [.o 14 (.bin .eql bX (.k (.str [114,101,116,117,114,110]))), .m 13 bK]) arw)
abbrev ary:AC:= .cond bT (.run [.o 9 (.aj bk 1), .op none none (.store cu (.k (.int .i64 7)) 1)]) (.seq (.run [.o 11 (.bin .eql bX (.k (.str [99,111,110,116,105,110,117,101]))), .m 10 bU]) arx)
abbrev arz:AC:= .block 0 (.seq (.run [.o 8 (.bin .eql bX (.k (.str [98,114,101,97,107]))), .m 7 bS]) ary)
abbrev arA:AC:= .seq (.run [.o 4 (.alloc [(.int .i64 0),(.int .i64 0),(.slice .full 0 []),(.str []),(.str []),(.int .i64 0),(.int .i64 0),(.str []),(.slice .full 0 []),(.bool false),(.slice .full 0 []),(.slice .full 0 []),(.slice .full 0 [])])]) (.seq (.run [.o 5 (.alloc [(.int .i64 0),(.int .i64 0),(.slice .full 0 []),(.str []),(.str []),(.int .i64 0),(.int .i64 0),(.str []),(.slice .full 0 []),(.bool false),(.slice .full 0 []),(.slice .full 0 []),(.slice .full 0 [])])]) (.seq (.seq (.run [.m 6 a7]) arz) (.seq (.run [.o 41 (.load bk true 13), .op none none (.store dw ga 13)]) .ret)))
abbrev arB:AC:= .seq (.run [(.o 1 (.cD [(.str [])] 1 13 [(0,(.k (.str [103,108,111,98,97,108]))),(1,(.k (.str [112,114,111,99]))),(2,(.k (.str [118,97,114]))),(3,(.k (.str [114,101,102]))),(4,(.k (.str [105,102]))),(5,(.k (.str [101,108,115,101]))),(6,(.k (.str [119,104,105,108,101]))),(7,(.k (.str [98,114,101,97,107]))),(8,(.k (.str [99,111,110,116,105,110,117,101]))),(9,(.k (.str [114,101,116,117,114,110]))),(10,(.k (.str [103,111,116,111]))),(11,(.k (.str [114,101,97,100]))),(12,(.k (.str [112,114,105,110,116])))])), .m 0 a7]) .ret
abbrev arC:AC:= .seq (.run [.o 0 (.mv (.k (.slice .full 0 [])))]) arB
abbrev arD:AC:= .cond cu (.seq (.run [.o 4 (.mv (.k (.int .i64 1)))]) .ret) .skip
abbrev arE:AC:= .block 1 (.seq (.run [.o 22 (.aj cZ 3), .o 23 (.load dI false 1), .m 24 bX, .o 25 (.cr dJ df 4), .o 26 (.load di true 4), .m 27 a7, .o 28 (.bin .sub dY (.k (.int .i64 1))), .c 29 ql [dX,eP], .m 7 eK]) (.seq (.run [.m 30 bT, .m 31 bk, .o 32 (.bin .gtr eU eV)]) (.cond fa (.run [.m 33 bT, .m 5 eZ]) .skip)))
abbrev arG:AC:= .seq (.seq (.run [.m 10 bX, .o 11 (.aj cZ 3), .o 12 (.load bU false 1), .o 13 (.len bZ), .o 14 (.bin .lss bD bV), .m 15 bK, .g 16 15 true (.mv bk), .g 17 15 true (.mv a7), .g 18 15 true (.bin .lss cq cU), .o 19 (.pick cv cT (.k (.bool false)))]) (.cond dh .skip (.exit 0))) (.seq arE (.run [.m 20 bX, .o 21 (.bin .add dt (.k (.int .i64 1))), .m 6 dB]))
abbrev arH:AC:= .seq (.seq (.run [.o 6 (.mv (.k (.int .i64 0)))]) (.block 0 (.loop arG))) (.seq (.run [.m 34 bk, .o 35 (.bin .add fj (.k (.int .i64 1))), .m 4 fb]) .ret)
abbrev arI:AC:= .seq (.seq (.run [.m 8 a7, .o 9 (.bin .eql bS (.k (.int .i64 0)))]) arD) (.seq (.run [.o 5 (.mv (.k (.int .i64 0)))]) arH)
abbrev arJ:AC:= .seq (.run [.o 2 (.box aJ), .o 4 (.mv (.k (.int .i64 0)))]) arI
abbrev arK:AC:= .par [.o 4 (.aj a7 0), .o 5 (.load dw false 1), .c 6 vB [bk], .o 7 (.aj a7 3), .o 8 (.load bT false 1), .o 9 (.len bS), .o 10 (.bin .neq bX cu), .m 11 bD, .g 12 11 false (.aj a7 0), .g 13 11 false (.load bZ false 1), .g 14 11 false (.bin .neq bV (.k (.int .i64 1))), .g 15 11 false (.mv bK), .g 16 15 true (.aj a7 1), .g 17 15 true (.load cq false 1), .g 18 15 true (.bin .neq cU (.k (.int .i64 0))), .g 19 11 false (.pick cv cT (.k (.bool false))), .o 20 (.pick bU (.k (.bool true)) dh), .m 21 dt, .g 22 21 false (.aj a7 1), .g 23 21 false (.load dI false 1), .g 24 21 false (.bin .lss dJ (.k (.int .i64 0))), .o 25 (.pick dB (.k (.bool true)) df), .m 26 di, .g 27 26 false (.aj a7 0), .g 28 26 false (.load dY false 1), .g 29 26 false (.bin .eql eP (.k (.int .i64 2))), .g 30 26 false (.aj a7 2), .g 31 26 false (.load eU false 1), .g 32 26 false (.bin .neq eV (.k (.str []))), .g 33 26 false (.Dd true eK fa), .o 34 (.pick dX (.k (.bool true)) eZ), .m 35 fj, .g 36 35 false (.aj a7 2), .g 37 35 false (.load fk false 1), .g 38 35 false (.bin .neq fF (.k (.str []))), .g 39 35 false (.mv fQ), .g 40 39 true (.aj a7 2), .g 41 39 true (.load gh false 1), .d 42 39 true lh [ga], .g 43 39 true (.un .not gU), .g 44 35 false (.pick fR gV (.k (.bool false))), .o 45 (.pick fb (.k (.bool true)) iF)] [(0,0),(1,0),(2,0),(3,0),(4,1),(5,0),(6,0),(7,0),(8,0),(9,0),(10,0),(11,0),(12,0),(13,0),(14,0),(15,0),(16,0),(17,0),(18,0),(19,0),(20,0),(21,0),(22,0),(23,0),(24,0),(25,0),(26,0),(27,0),(28,0),(29,0),(30,0),(31,0),(32,0),(33,0),(34,0),(35,0),(36,0),(37,0),(38,0),(39,0),(40,0),(41,0)]
abbrev arL:AC:= .cond jb (.seq (.run [.o 2 (.mv (.k (.bool false)))]) .ret) .skip
abbrev arM:AC:= .cond lF (.seq (.run [.o 2 (.mv (.k (.bool false)))]) .ret) .skip
abbrev arN:AC:= .seq (.block 1 (.seq (.run [.m 51 iO, .m 3 jd]) (.seq (.run [.o 52 (.aj a7 3), .o 53 (.load je false 1), .m 54 bO, .o 55 (.cr jf jH 4), .o 56 (.load jI true 4), .c 57 qm [k5], .o 58 (.un .not lO)]) arM))) (.run [.o 59 (.bin .add iO (.k (.int .i64 1))), .m 49 kF])
abbrev arO:AC:= .block 0 (.loop (.seq (.run [.o 50 (.bin .lss iO iA)]) (.seq (.cond jG .skip (.exit 0)) arN)))
abbrev arP:AC:= .seq (.seq (.run [.o 46 (.aj a7 3), .o 47 (.load jc false 1), .o 48 (.len jF), .o 49 (.mv (.k (.int .i64 0)))]) arO) (.seq (.run [.o 2 (.mv (.k (.bool true)))]) .ret)
abbrev arQ:AC:= .seq (.run [.o 1 (.box aJ), .o 2 (.mv (.k (.bool false)))]) (.seq (.seq arK arL) arP)
abbrev arR:AC:= .par [.o 24 (.aj bT 10), .o 25 (.load df false 1), .m 26 aJ, .c 27 eR [dX,(.k (.bool true))],(.o 28 (.build [(.bool false),(.str []),(.int .i64 0),(.int .i64 0),(.str []),(.slice .full 0 [])] [(0,(1,(.k (.bool true)))),(1,(1,dY))])), .o 29 (.cD [(.bool false),(.str []),(.int .i64 0),(.int .i64 0),(.str []),(.slice .full 0 [])] 6 1 [(0,eP)]), .o 30 (.app 6 80 di eK), .o 31 (.aj bT 10), .op none none (.store eV eU 1)] [(2,0),(3,0),(0,0),(1,1),(4,0),(5,0),(6,0),(7,0),(8,0)]
abbrev arS:AC:= .par [.o 32 (.aj bT 10), .o 33 (.load fa false 1), .m 34 aJ, .c 35 gv [fj], .o 36 (.build [(.bool false),(.str []),(.int .i64 0),(.int .i64 0),(.str []),(.slice .full 0 [])] [(2,(4,fb))]), .o 37 (.cD [(.bool false),(.str []),(.int .i64 0),(.int .i64 0),(.str []),(.slice .full 0 [])] 6 1 [(0,fk)]), .o 38 (.app 6 80 eZ fF), .o 39 (.aj bT 10), .op none none (.store fR fQ 1)] [(2,0),(3,0),(0,0),(1,1),(4,0),(5,0),(6,0),(7,0),(8,0)]
abbrev arT:AC:= .seq (.seq (.run [.m 22 aJ,(.c 23 dO [dI,(.k (.str [114,101,102]))])]) (.cond dJ arR arS)) (.seq (.run [.m 40 aJ,(.c 41 dO [gh,(.k (.str [44]))]), .o 42 (.un .not ga)]) (.cond gU (.exit 0) .skip))
abbrev arU:AC:= .block 0 (.loop (.seq (.seq (.run [.m 20 aJ, .c 21 c6 [dt]]) (.cond dB .skip (.exit 0))) (.block 1 arT)))
abbrev arV:AC:= .seq (.run [.m 43 aJ,(.c 44 dv [gV,(.k (.str [41]))])]) (.seq (.run [.m 45 aJ,(.c 46 dv [jb,(.k (.str [59]))])]) (.seq (.run [.o 47 (.load bT true 13), .op none none (.store bX jF 13)]) .ret))
abbrev arW:AC:= .seq (.seq (.run [.m 13 aJ, .c 14 c6 [bV], .m 15 bK, .g 16 15 true (.mv aJ),(.d 17 15 true fA [cq,(.k (.str [41]))]), .g 18 15 true (.un .not cU), .o 19 (.pick cv cT (.k (.bool false)))]) (.cond dh arU .skip)) arV
abbrev arX:AC:= .seq (.run [.m 8 a7, .m 9 cZ,(.o 10 (.build [(.int .i64 0),(.int .i64 0),(.slice .full 0 []),(.str []),(.str []),(.int .i64 0),(.int .i64 0),(.str []),(.slice .full 0 []),(.bool false),(.slice .full 0 []),(.slice .full 0 []),(.slice .full 0 [])] [(1,(1,(.k (.int .i64 4)))),(3,(1,bS)),(4,(1,cu))])), .o 7 (.alloc [(.int .i64 0),(.int .i64 0),(.slice .full 0 []),(.str []),(.str []),(.int .i64 0),(.int .i64 0),(.str []),(.slice .full 0 []),(.bool false),(.slice .full 0 []),(.slice .full 0 []),(.slice .full 0 [])]), .op none none (.store bT bD 13)]) (.seq (.run [.m 11 aJ,(.c 12 dv [bU,(.k (.str [40]))])]) arW)
abbrev arY:AC:= .seq (.run [.o 6 (.alloc [(.int .i64 0),(.int .i64 0),(.slice .full 0 []),(.str []),(.str []),(.int .i64 0),(.int .i64 0),(.str []),(.slice .full 0 []),(.bool false),(.slice .full 0 []),(.slice .full 0 []),(.slice .full 0 [])])]) arX
abbrev arZ:AC:= .cond cq (.run [.m 17 aJ, .m 18 bO,(.o 19 (.build [(.int .i64 0),(.int .i64 0)] [(0,(1,(.k (.int .i64 4)))),(1,(1,cT))])), .o 20 (.bq cU), .o 21 (.aj dt 2), .op none none (.store dB dh 2)]) .skip
abbrev ar1:AC:= .seq (.seq (.run [.m 10 aJ, .c 11 c6 [bD], .m 12 bU, .g 13 12 true (.load dw true 4), .d 14 12 true lT [bV], .g 15 12 true (.bin .gtr bK (.k (.int .i64 20))), .o 16 (.pick bZ cv (.k (.bool false)))]) arZ) (.seq (.run [.o 22 (.load dw true 4), .op none none (.store cZ dI 4)]) .ret)
abbrev ar2:AC:= .seq (.run [.o 2 (.alloc [(.int .i64 0),(.int .i64 0),(.str []),(.slice .full 0 [])])]) (.seq (.run [.m 5 aJ, .c 6 dP [bk], .o 7 (.uC bX 3 false 1), .m 3 bT]) (.seq (.run [.m 8 aJ, .c 9 jm [bS,(.k (.int .i64 1))], .o 4 (.alloc [(.int .i64 0),(.int .i64 0),(.str []),(.slice .full 0 [])]), .op none none (.store dw cu 4)]) ar1))
abbrev ar3:AC:= .seq (.run [.m 27 aJ, .o 28 (.bq dY), .o 29 (.aj eP 1), .o 30 (.load eK false 1), .o 31 (.bin .add eU (.k (.int .i64 1))), .o 32 (.bq dY), .o 33 (.aj fa 1), .op none none (.store eZ eV 1)]) (.seq (.run [.m 34 aJ, .m 35 bT, .o 36 (.bin .add fb (.k (.int .i64 1))), .c 37 jm [fj,fk], .o 8 (.alloc [(.int .i64 0),(.int .i64 0),(.str []),(.slice .full 0 [])]), .op none none (.store bS fF 4)]) (.run [.m 38 bX, .o 39 (.load bk true 4), .o 40 (.load bS true 4), .o 41 (.cD [(.int .i64 0),(.int .i64 0),(.str []),(.slice .full 0 [])] 4 2 [(0,fR),(1,gh)]), .o 42 (.build [(.int .i64 0),(.int .i64 0),(.str []),(.slice .full 0 [])] [(0,(1,fQ)),(3,(1,ga))]), .op none none (.store bk gU 4)]))
abbrev ar4:AC:= .seq (.seq (.run [.m 19 bT, .m 20 a7, .o 21 (.bin .lss dh dt), .m 22 dB, .g 23 22 false (.mv bX), .g 24 22 false (.bin .eql dJ (.k (.int .i64 0))), .o 25 (.pick dI (.k (.bool true)) df)]) (.cond di (.seq (.run [.o 26 (.load bk true 4), .op none none (.store dw dX 4)]) .ret) .skip)) ar3
abbrev ar5:AC:= .loop (.seq (.seq (.run [.m 11 aJ, .c 12 c6 [bU]]) (.cond bZ .skip (.exit 0))) (.block 1 (.seq (.run [.m 14 aJ, .c 15 dP [bK], .c 16 uX [cv], .m 13 cq, .o 17 (.ext bV 0), .o 18 (.ext bV 1), .m 6 cU, .m 7 cT]) ar4)))
abbrev ar6:AC:= .seq (.run [.o 4 (.alloc [(.int .i64 0),(.int .i64 0),(.str []),(.slice .full 0 [])])]) (.seq (.run [.m 9 aJ, .c 10 kE [cu], .o 5 (.alloc [(.int .i64 0),(.int .i64 0),(.str []),(.slice .full 0 [])]), .op none none (.store bk bD 4)]) (.seq (.block 0 ar5) (.seq (.run [.o 43 (.load bk true 4), .op none none (.store dw gV 4)]) .ret)))
abbrev ar7:AC:= .seq (.block 1 (.seq (.run [.o 11 (.cr bT cu 4), .o 12 (.load bU true 4), .o 5 (.alloc [(.int .i64 0),(.int .i64 0),(.str []),(.slice .full 0 [])]), .op none none (.store bk bZ 4)]) (.run [.m 13 bO, .o 14 (.load bk true 4), .c 15 lT [bK], .o 16 (.mm true bV cv), .m 3 cq]))) (.run [.o 17 (.bin .add cu (.k (.int .i64 1))), .m 9 cU])
abbrev ar8:AC:= .block 0 (.loop (.seq (.run [.o 10 (.bin .lss cu bS)]) (.seq (.cond bD .skip (.exit 0)) ar7)))
abbrev ar9:AC:= .seq (.seq (.run [.o 6 (.aj a7 3), .o 7 (.load bX false 1), .o 8 (.len bT), .o 9 (.mv (.k (.int .i64 0)))]) ar8) (.seq (.run [.m 18 bO, .o 19 (.bin .add cT (.k (.int .i64 1))), .m 2 dh]) .ret)
abbrev asa:AC:= .seq (.run [.o 1 (.box aJ), .o 2 (.mv (.k (.int .i64 0)))]) (.seq (.run [.o 3 (.mv (.k (.int .i64 0)))]) ar9)
abbrev asb:AC:= .seq (.run [.m 7 aJ, .c 8 c6 [bT], .o 9 (.un .not bS)]) (.cond cu (.seq (.run [.o 10 (.build [(.int .i64 0),(.int .i64 0),(.str []),(.slice .full 0 [])] []), .op none none (.store cZ bD 4)]) .ret) .skip)
abbrev asc:AC:= .seq (.run [.o 22 (.aj bO 2), .o 23 (.load dI false 1),(.o 24 (.build [(.int .i64 0),(.int .i64 0),(.str []),(.slice .full 0 [])] [(0,(1,(.k (.int .i64 1)))),(1,(1,dJ))])), .op none none (.store cZ df 4)]) .ret
abbrev asd:AC:= .seq (.run [.o 36 (.aj bO 1), .o 37 (.load fk false 1),(.o 38 (.build [(.int .i64 0),(.int .i64 0),(.str []),(.slice .full 0 [])] [(0,(1,(.k (.int .i64 2)))),(2,(1,fF))])), .op none none (.store cZ fQ 4)]) .ret
abbrev ase:AC:= .seq (.run [.m 42 aJ, .c 43 jm [gU,(.k (.int .i64 1))], .o 4 (.alloc [(.int .i64 0),(.int .i64 0),(.str []),(.slice .full 0 [])]), .op none none (.store dw gV 4)]) (.seq (.run [.m 44 aJ,(.c 45 dv [iF,(.k (.str [41]))])]) (.seq (.run [.o 46 (.load dw true 4), .op none none (.store cZ jc 4)]) .ret))
abbrev asf:AC:= .seq (.run [.m 50 aJ, .c 51 kE [jG], .o 52 (.cD [(.int .i64 0),(.int .i64 0),(.str []),(.slice .full 0 [])] 4 1 [(0,jd)]),(.o 53 (.build [(.int .i64 0),(.int .i64 0),(.str []),(.slice .full 0 [])] [(0,(1,(.k (.int .i64 3)))),(3,(1,je))])), .op none none (.store cZ jf 4)]) .ret
abbrev asg:AC:= .seq (.run [.m 57 aJ, .c 58 kE [lO], .o 59 (.cD [(.int .i64 0),(.int .i64 0),(.str []),(.slice .full 0 [])] 4 1 [(0,lF)]),(.o 60 (.build [(.int .i64 0),(.int .i64 0),(.str []),(.slice .full 0 [])] [(0,(1,(.k (.int .i64 4)))),(3,(1,kF))])), .op none none (.store cZ nn 4)]) .ret
abbrev ash:AC:= .cond jF asf (.seq (.run [.m 55 aJ,(.c 56 dO [jI,(.k (.str [33]))]), .m 54 k5]) (.cond jH asg .skip))
abbrev asi:AC:= .cond fR ase (.seq (.run [.m 48 aJ,(.c 49 dO [iA,(.k (.str [45]))]), .m 47 iO]) ash)
abbrev asj:AC:= .cond di (.seq (.run [.m 29 aJ, .o 30 (.bq eK), .o 31 (.aj eU 1), .o 32 (.load eV false 1), .o 33 (.bin .add fa (.k (.int .i64 1))), .o 34 (.bq eK), .o 35 (.aj fj 1), .op none none (.store fb eZ 1)]) asd) (.seq (.run [.m 40 aJ,(.c 41 dO [gh,(.k (.str [40]))]), .m 39 ga]) asi)
abbrev asm:AC:= .cond bU (.seq (.run [.m 15 aJ, .o 16 (.bq cv), .o 17 (.aj cq 1), .o 18 (.load cU false 1), .o 19 (.bin .add cT (.k (.int .i64 1))), .o 20 (.bq cv), .o 21 (.aj dt 1), .op none none (.store dB dh 1)]) asc) (.seq (.run [.o 26 (.aj bO 0), .o 27 (.load dX false 1), .o 28 (.bin .eql dY (.k (.int .i64 1))), .m 25 eP]) asj)
abbrev asn:AC:= .block 0 (.seq (.run [.o 12 (.aj bO 0), .o 13 (.load bZ false 1), .o 14 (.bin .eql bV (.k (.int .i64 2))), .m 11 bK]) asm)
abbrev aso:AC:= .seq asn (.seq (.run [.m 61 aJ, .c 62 e9 [oA,(.k (.int .i64 3))]]) (.seq (.run [.o 63 (.build [(.int .i64 0),(.int .i64 0),(.str []),(.slice .full 0 [])] []), .op none none (.store cZ oD 4)]) .ret))
abbrev asp:AC:= .seq (.run [.o 2 (.alloc [(.int .i64 0),(.int .i64 0),(.str []),(.slice .full 0 [])])]) (.seq (.run [.m 5 aJ, .c 6 dP [bk], .o 3 (.alloc [(.int .i64 0),(.str []),(.int .i64 0),(.int .i64 0)]), .op none none (.store bO bX 4)]) (.seq asb aso))
abbrev asq:AC:= .cond bX (.seq (.run [.o 2 (.mv (.k (.int .i64 0))), .o 3 (.mv (.k (.int .i64 0)))]) .ret) .skip
abbrev asr:AC:= .cond eZ (.seq (.run [.o 2 (.mv (.k (.int .i64 7))), .o 3 (.mv (.k (.int .i64 6)))]) .ret) .skip
abbrev ass:AC:= .cond eV (.seq (.run [.o 2 (.mv (.k (.int .i64 6))), .o 3 (.mv (.k (.int .i64 6)))]) .ret) (.seq (.run [.o 34 (.bin .eql bS (.k (.str [37]))), .m 33 fj]) asr)
abbrev ast:AC:= .cond eK (.seq (.run [.o 2 (.mv (.k (.int .i64 5))), .o 3 (.mv (.k (.int .i64 6)))]) .ret) (.seq (.run [.o 32 (.bin .eql bS (.k (.str [47]))), .m 31 fa]) ass)
abbrev asu:AC:= .cond dY (.seq (.run [.o 2 (.mv (.k (.int .i64 9))), .o 3 (.mv (.k (.int .i64 5)))]) .ret) (.seq (.run [.o 30 (.bin .eql bS (.k (.str [42]))), .m 29 eU]) ast)
abbrev asv:AC:= .cond di (.seq (.run [.o 2 (.mv (.k (.int .i64 8))), .o 3 (.mv (.k (.int .i64 5)))]) .ret) (.seq (.run [.o 28 (.bin .eql bS (.k (.str [45]))), .m 27 eP]) asu)
abbrev asw:AC:= .cond dJ (.seq (.run [.o 2 (.mv (.k (.int .i64 13))), .o 3 (.mv (.k (.int .i64 4)))]) .ret) (.seq (.run [.o 26 (.bin .eql bS (.k (.str [43]))), .m 25 dX]) asv)
abbrev asx:AC:= .cond dB (.seq (.run [.o 2 (.mv (.k (.int .i64 12))), .o 3 (.mv (.k (.int .i64 4)))]) .ret) (.seq (.run [.o 24 (.bin .eql bS (.k (.str [62,61]))), .m 23 df]) asw)
abbrev asy:AC:= .cond dh (.seq (.run [.o 2 (.mv (.k (.int .i64 11))), .o 3 (.mv (.k (.int .i64 4)))]) .ret) (.seq (.run [.o 22 (.bin .eql bS (.k (.str [62]))), .m 21 dI]) asx)
abbrev asz:AC:= .cond cU (.seq (.run [.o 2 (.mv (.k (.int .i64 10))), .o 3 (.mv (.k (.int .i64 4)))]) .ret) (.seq (.run [.o 20 (.bin .eql bS (.k (.str [60,61]))), .m 19 dt]) asy)
abbrev asA:AC:= .cond cv (.seq (.run [.o 2 (.mv (.k (.int .i64 15))), .o 3 (.mv (.k (.int .i64 3)))]) .ret) (.seq (.run [.o 18 (.bin .eql bS (.k (.str [60]))), .m 17 cT]) asz)
abbrev asB:AC:= .cond bV (.seq (.run [.o 2 (.mv (.k (.int .i64 14))), .o 3 (.mv (.k (.int .i64 3)))]) .ret) (.seq (.run [.o 16 (.bin .eql bS (.k (.str [33,61]))), .m 15 cq]) asA)
abbrev asC:AC:= .cond bU (.seq (.run [.o 2 (.mv (.k (.int .i64 16))), .o 3 (.mv (.k (.int .i64 2)))]) .ret) (.seq (.run [.o 14 (.bin .eql bS (.k (.str [61,61]))), .m 13 bK]) asB)
abbrev asD:AC:= .cond cu (.seq (.run [.o 2 (.mv (.k (.int .i64 17))), .o 3 (.mv (.k (.int .i64 1)))]) .ret) (.seq (.run [.o 12 (.bin .eql bS (.k (.str [38,38]))), .m 11 bZ]) asC)
abbrev asE:AC:= .block 0 (.seq (.run [.o 10 (.bin .eql bS (.k (.str [124,124]))), .m 9 bD]) asD)
abbrev asF:AC:= .seq (.seq (.run [.o 7 (.aj a7 1), .o 8 (.load bT false 1)]) asE) (.seq (.run [.o 2 (.mv (.k (.int .i64 0))), .o 3 (.mv (.k (.int .i64 0)))]) .ret)
abbrev asG:AC:= .seq (.seq (.run [.o 4 (.aj a7 0), .o 5 (.load dw false 1), .o 6 (.bin .neq bk (.k (.int .i64 4)))]) asq) asF
abbrev asH:AC:= .seq (.run [.o 1 (.box aJ), .o 2 (.mv (.k (.int .i64 0))), .o 3 (.mv (.k (.int .i64 0)))]) asG
open Go.Proofs
theorem wu:Has Tryz.prog ni 23 [(2,none)] ara:=⟨Tryz.f225,by kernel_rfl,by kernel_rfl⟩
theorem xI:Has Tryz.prog nT 64 [(2,(some (true,13)))] ari:=⟨Tryz.f226,by kernel_rfl,by kernel_rfl⟩
theorem wv:Has Tryz.prog nj 20 [(4,(some (true,13)))] arl:=⟨Tryz.f227,by kernel_rfl,by kernel_rfl⟩
theorem yE:Has Tryz.prog lJ 11 [(2,(some (true,4)))] aro:=⟨Tryz.f228,by kernel_rfl,by kernel_rfl⟩
theorem xJ:Has Tryz.prog jE 17 [(4,none)] arq:=⟨Tryz.f229,by kernel_rfl,by kernel_rfl⟩
theorem xK:Has Tryz.prog nU 42 [(4,(some (true,13)))] arA:=⟨Tryz.f230,by kernel_rfl,by kernel_rfl⟩
theorem Gv:Has Tryz.prog vJ 2 [(0,none)] arC:=⟨Tryz.f231,by kernel_rfl,by kernel_rfl⟩
theorem Az:Has Tryz.prog ql 36 [(4,none)] arJ:=⟨Tryz.f232,by kernel_rfl,by kernel_rfl⟩
theorem Iv:Has Tryz.prog qm 60 [(2,none)] arQ:=⟨Tryz.f233,by kernel_rfl,by kernel_rfl⟩
theorem yF:Has Tryz.prog lK 48 [(6,(some (true,13)))] arY:=⟨Tryz.f242,by kernel_rfl,by kernel_rfl⟩
theorem xL:Has Tryz.prog gv 23 [(2,(some (true,4)))] ar2:=⟨Tryz.f243,by kernel_rfl,by kernel_rfl⟩
theorem zJ:Has Tryz.prog jm 44 [(4,(some (true,4)))] ar6:=⟨Tryz.f245,by kernel_rfl,by kernel_rfl⟩
theorem E2:Has Tryz.prog lT 20 [(2,none)] asa:=⟨Tryz.f246,by kernel_rfl,by kernel_rfl⟩
theorem zK:Has Tryz.prog kE 64 [(2,(some (true,4)))] asp:=⟨Tryz.f247,by kernel_rfl,by kernel_rfl⟩
theorem KT:Has Tryz.prog uX 35 [(2,none),(3,none)] asH:=⟨Tryz.f248,by kernel_rfl,by kernel_rfl⟩
open Go.Proofs
theorem BJ:Has Tryz.prog kl 73 [] QZB:=⟨Tryz.f90,by kernel_rfl,by kernel_rfl⟩
theorem zL:Has Tryz.prog pe 27 [(4,none)] QZL:=⟨Tryz.f91,by kernel_rfl,by kernel_rfl⟩
theorem se:Has Tryz.prog gk 19 [(4,none)] akU:=⟨Tryz.f92,by kernel_rfl,by kernel_rfl⟩
theorem yG:Has Tryz.prog lI 8 [(3,none)] akV:=⟨Tryz.f93,by kernel_rfl,by kernel_rfl⟩
set_option maxRecDepth 20000 in
theorem yH : Has Tryz.prog iL 20 [(4, none)] akX := ⟨Tryz.f94, by kernel_rfl, by kernel_rfl⟩
set_option maxRecDepth 20000 in
theorem yI : Has Tryz.prog kb 64 [(4, none), (5, none)] ak4 := ⟨Tryz.f95, by kernel_rfl, by kernel_rfl⟩
set_option maxRecDepth 20000 in
theorem yJ : Has Tryz.prog eE 26 [] ak5 := ⟨Tryz.f96, by kernel_rfl, by kernel_rfl⟩
theorem C6:Has Tryz.prog oM 38 [(6,none),(7,none)] alc:=⟨Tryz.f97,by kernel_rfl,by kernel_rfl⟩
theorem AA:Has Tryz.prog qi 13 [(4,none)] alf:=⟨Tryz.f98,by kernel_rfl,by kernel_rfl⟩
set_option maxRecDepth 20000 in
theorem AR : Has Tryz.prog kU 15 [(2, none)] alh := ⟨Tryz.f99, by kernel_rfl, by kernel_rfl⟩
theorem MI:Has Tryz.prog By 152 [(2,none),(3,(some (true,2)))] alH:=⟨Tryz.f100,by kernel_rfl,by kernel_rfl⟩
theorem vQ:Has Tryz.prog mw 49 [(2,(some (true,2)))] alM:=⟨Tryz.f101,by kernel_rfl,by kernel_rfl⟩
theorem Gw:Has Tryz.prog vB 24 [(2,none)] alS:=⟨Tryz.f110,by kernel_rfl,by kernel_rfl⟩
theorem E3:Has Tryz.prog oa 18 [(2,none)] alY:=⟨Tryz.f116,by kernel_rfl,by kernel_rfl⟩
theorem rV:Has Tryz.prog fZ 9 [(4,none)] alZ:=⟨Tryz.f117,by kernel_rfl,by kernel_rfl⟩
theorem C7:Has Tryz.prog oN 8 [(3,none)] al0:=⟨Tryz.f118,by kernel_rfl,by kernel_rfl⟩
theorem uv:Has Tryz.prog cB 9 [(4,none)] al1:=⟨Tryz.f119,by kernel_rfl,by kernel_rfl⟩
theorem C8:Has Tryz.prog gQ 26 [(4,none)] al3:=⟨Tryz.f120,by kernel_rfl,by kernel_rfl⟩
theorem E4:Has Tryz.prog qB 38 [(8,none)] al9:=⟨Tryz.f121,by kernel_rfl,by kernel_rfl⟩
theorem yK:Has Tryz.prog vC 28 [(4,none)] amg:=⟨Tryz.f122,by kernel_rfl,by kernel_rfl⟩
theorem yL:Has Tryz.prog rL 9 [(2,none)] ami:=⟨Tryz.f123,by kernel_rfl,by kernel_rfl⟩
theorem Iw:Has Tryz.prog qj 24 [(4,none),(5,none)] amo:=⟨Tryz.f124,by kernel_rfl,by kernel_rfl⟩
theorem pF:Has Tryz.prog vD 29 [(4,none)] ams:=⟨Tryz.f125,by kernel_rfl,by kernel_rfl⟩
theorem az.AZ {P:Program} {f:Nat} {args:List D} {s0 s:St} {o off n m:Nat} {row:List D} (h:az P f args s0 (.ptr o off) s) (ho:s.ah[o]? = some row) (hn:s0.ah.length≤n) (AB:n≤o) (hm:s0.aw.length≤m) :
 az P f args s0 (.dL (D.gw n m row) off) (s.cut n m):=by
 intro M0 w0 fI r0 kM asI ha
 refine(h M0 w0 fI r0 kM asI ha).mono ?_
 rintro en w ⟨M,d,v0,s',rfl,⟨rfl,rfl⟩,e,r,hv⟩
 have x8:=hv.A9
 have rA:v0 = .pointer (some ⟨M.mu o,off,none⟩):=hv.su.1
 have Gx:o<s'.ah.length:=(List.getElem?_eq_some_iff.1 ho).1
 obtain⟨vs,T,hh,eg,⟨hZ,_⟩,jy⟩:=r.obj o row ho
 replace hh:w.heap[M.mu o]? = some (.cells vs T (0,0)):=hh.cells x8
 let M':Map:= {M with G:=fun b q=>if b=M.mu o then vs[q]? else M.G b q}
 have hGo : ∀ q,M.G (M.mu o) q=none:=r.jV o Gx
 have le:Le M s' M' s':=⟨fun b q v hq=>by
  show(if b=M.mu o then vs[q]? else M.G b q)=some v
  by_cases hb:b=M.mu o
  ·subst hb;rw[hGo]at hq;cases hq
  ·rw[if_neg hb];exact hq,Nat.le_refl _,fun _ _=> .refl _,Nat.le_refl _,fun t n' _ e=>⟨n',e,Nat.le_refl _,fun _=>rfl⟩⟩
 have hC : ∀ q,q<(s'.cut n m).ah.length→q<s'.ah.length∧q≠o:=fun q h=>by rw[nP]at h;omega
 have wS:w0.heap.size≤M.mu o:=e.tX o (.inl (by omega)) Gx
 have ec:=e.cut hn hm
 have lec:Le M (s'.cut n m) M' (s'.cut n m):=⟨le.G,Nat.le_refl _,fun _ _=> .refl _,Nat.le_refl _,fun t n' _ e=>⟨n',e,Nat.le_refl _,fun _=>rfl⟩⟩
 have rc:=r.cut n m
 have qf : ∀ b,b≠M.mu o→∀ q,M'.G b q=M.G b q:=fun b hb q=>if_neg hb
 refine⟨M',_,v0,_,rfl,⟨rfl,rfl⟩,⟨ec.le.trans lec,ec.kept,ec.tX,ec.qF,fun b q fi=>?_,ec.size,ec.os,ec.tape,ec.output⟩,⟨fun b q v hq=>?_,fun q ds hq=>?_,fun q hq xi=>?_,rc.inj,fun t n' Sp=>?_,rc.fc,rc.fU⟩, ?_⟩
 ·by_cases hb:b=M.mu o
  ·subst hb;exact .inl wS
  ·rw[qf b hb]at fi;exact ec.sm b q fi
 ·have mC:(if b=M.mu o then vs[q]? else M.G b q)=some v:=hq
  by_cases hb:b=M.mu o
  ·rw [if_pos hb]at mC
   rw[hb,ji hh]
   exact⟨mC,hZ v (Array.mem_of_getElem? mC)⟩
  ·rw [if_neg hb]at mC
   exact r.comm b q v mC
 ·obtain⟨fB,T',h3,h4,h5,h6⟩:=rc.obj q ds hq
  exact⟨fB,T',h3,h4,h5,fun i d v e1 e2=>(h6 i d v e1 e2).mono lec⟩
 ·obtain⟨h3,h4⟩:=hC q hq
  show M'.G (M.mu q) xi=none
  rw[qf _ (fun e=>h4 (r.inj q o h3 Gx e))]
  exact r.jV q h3 xi
 ·rcases rc.tok t n' Sp with h3 | ⟨b,cap,z,fB,T',h3,h4,h5,h6,h7⟩
  ·exact .inl h3
  ·refine .inr ⟨b,cap,z,fB,T',h3,h4,h5,h6,fun xi DO=> ?_,h7.2⟩
   rw[qf _ (fun e=>r.fc t b cap z o (vu ⟨n',Sp⟩) h3 Gx e.symm)]
   exact h7.1 xi DO
 ·rw [rA]
  have:=RD.dL (M:=M') (s:=s'.cut n m) (D.gw n m row) off (M.mu o) 0 (fun i d e1=>?_) (fun i d u e1 eu=>?_)
  ·simpa using this
  ·rw [mV,List.getElem?_map,Option.map_eq_some_iff]at e1
   obtain⟨d0,e1,rfl⟩:=e1
   have hi:=(List.getElem?_eq_some_iff.1 e1).1
   refine⟨vs[i]'(by omega), ?_⟩
   show(if M.mu o=M.mu o then vs[0+i]? else _)=_
   rw[if_pos rfl,Nat.zero_add]
   exact Array.getElem?_eq_getElem _
  ·rw [mV,List.getElem?_map,Option.map_eq_some_iff]at e1
   obtain⟨d0,e1,rfl⟩:=e1
   have E5:(if M.mu o=M.mu o then vs[0+i]? else M.G (M.mu o) (0+i))=some u:=eu
   rw[if_pos rfl,Nat.zero_add]at E5
   exact((jy i d0 u e1 E5).fg n m).mono lec
theorem az.goK {P:Program} {f:FuncId} {res:List (Nat×Option (Bool×Nat))} {body:AC} {args:List D} {s:St} {d:D} {s':St} {nt:Nat} (n m:Nat) (hn:s.ah.length≤n) (hm:s.aw.length≤m) (h0:Has P f nt res body) (hl:Nat.ble args.length nt=true)
 (h : ∀ (B:e7) (Q:Exit→Tm→St→Prop),B.s=s→iz n m res d s'=Q→gD P B nt body Q (mM 0 args) s):az P f args s d s':=by
 obtain⟨fn,hf,hc⟩:=h0
 refine bP.IF (bP.intro (Q:=fun d1 s1=>Wk d1 d∧gx s1.ah s'.ah∧s1.aw=s'.aw) hf hc (Nat.le_of_ble_eq_true hl) fun B hB=>(gE (h B _ hB rfl)).mono fun e tm s1 hr=>?_) fun d1 s1 ⟨h1,h2,h3⟩=>⟨d,s',h1,h2,h3,rfl,rfl⟩
 subst hB
 cases e with
 |normal=>obtain⟨l,h1,h2,h3,h4⟩:=hr;exact⟨l,h1,_,_,hn,hm,h2,h3,h4⟩
 |ret=>obtain⟨l,h1,h2,h3,h4⟩:=hr;exact⟨l,h1,_,_,hn,hm,h2,h3,h4⟩
 |exit id=>exact hr.elim
 |goto l=>exact hr.elim
 |panic ch=>exact hr.elim
 |outgrown=>exact hr.elim
def rW (c:UInt8):Bool:=decide ((c.toNat:Int)≥97) && decide ((c.toNat:Int)≤122)
def pS (c:UInt8):Bool:=decide ((c.toNat:Int)≥48) && decide ((c.toNat:Int)≤57)
def AE (c:UInt8):Bool:=(c.toNat:Int)==32 ||(c.toNat:Int)==9 ||(c.toNat:Int)==10 ||(c.toNat:Int)==13
def lQ:aF→Nat
 | []=>0
 |c::r=>if rW c ||pS c then lQ r+1 else 0
def rX:aF→Nat
 | []=>0
 |c::r=>if pS c then rX r+1 else 0
def qC:aF→Nat
 | []=>0
 |c::r=>if(c.toNat:Int) != 10 then qC r+1 else 0
def isWord (s:aF):Bool:=
 s == [103,108,111,98,97,108] ||s == [112,114,111,99] ||s == [118,97,114] ||s == [114,101,102] ||s == [105,102] ||s == [101,108,115,101] ||s == [119,104,105,108,101] ||s == [98,114,101,97,107] ||s == [99,111,110,116,105,110,117,101] ||s == [114,101,116,117,114,110] ||s == [103,111,116,111] ||s == [114,101,97,100] ||s == [112,114,105,110,116]
def Ze (s:aF):Bool:=s == [61,61] ||s == [33,61] ||s == [60,61] ||s == [62,61] ||s == [38,38] ||s == [124,124]
def Jg (c:UInt8):Bool:=
 (c.toNat:Int)==40 ||(c.toNat:Int)==41 ||(c.toNat:Int)==123 ||(c.toNat:Int)==125 ||(c.toNat:Int)==44 ||(c.toNat:Int)==59 ||(c.toNat:Int)==58 ||(c.toNat:Int)==61 ||
 (c.toNat:Int)==33 ||(c.toNat:Int)==60 ||(c.toNat:Int)==62 ||(c.toNat:Int)==43 ||(c.toNat:Int)==45 ||(c.toNat:Int)==42 ||(c.toNat:Int)==47 ||(c.toNat:Int)==37
def s7:aF→Nat
 | []=>0
 | [c]=>if Jg c then 1 else 0
 |c::d::_=>if Ze [c,d]then 2 else if Jg c then 1 else 0
def bW:Int→aF→Option Int
 |n,[]=>some n
 |n,c::r=>if n > (9223372036854775807 - ((c.toNat:Int) - 48)) / 10 then none else bW (n*10+((c.toNat:Int) - 48)) r
def QN (pos:Nat):aF→fX ⊕ Int
 | []=> .inr 2
 | c::r=>
  if rW c then
   let s:=(c::r).take (lQ (c::r))
   if s.length > 8 then .inr 4 else .inl ⟨if isWord s then 3 else 1,s,0,pos⟩
  else if pS c then
   let s:=(c::r).take (rX (c::r))
   if s.length > 1∧(c.toNat:Int)=48 then .inr 2 else
   match bW 0 s with
   |some n=> .inl ⟨2,s,n,pos⟩
   |none=> .inr 4
  else
   if s7 (c::r)=0 then .inr 2 else .inl ⟨4,(c::r).take (s7 (c::r)),0,pos⟩
def nV:Nat→Nat→aF→List fX→List fX×Int×Int
 | 0,_,_,_=>([],0,0)
 |_+1,pos,[],out=>(out++ [⟨0,[],0,pos⟩],0,0)
 | n+1,pos,c::r,out=>
  if AE c then nV n (pos+1) r out
  else if(c.toNat:Int)==35 then nV n (pos+qC (c::r)) ((c::r).drop (qC (c::r))) out
  else match QN pos (c::r)with
   | .inr e=>([],e,pos)
   | .inl t=>if out.length=2000 then([],4,pos)else nV n (pos+t.text.length) ((c::r).drop t.text.length) (out++ [t])
def pj (text:aF):List fX×Int×Int:=if text.length > 100000 then([],4,0)else nV (text.length+1) 0 text []
def uZ:aF→Bool
 | []=>true
 |c::r=>if !(rW c) && !(pS c)then false else uZ r
def isName:aF→Bool
 | []=>false
 |c::r=>if decide (((r.length+1:Nat):Int) > 8) || !(rW c)then false else if uZ r then !(isWord (c::r))else false
def lG (op:Int):Int:=if op==1 ||op==2 then 0 else if op==3 ||op==4 then 1 else if decide (op≥5) && decide (op≤17)then 2 else -1
mutual
def Ex.form:Ex→Bool
 |⟨op,n,name,kids⟩=>
  if lG op != (kids.length:Int) ||(op != 1 && n != 0) ||decide (n<0) || !((op==2) == !(name == [])) ||(!(name == []) && !(isName name))then false else Ex.pG kids
def Ex.pG:List Ex→Bool
 | []=>true
 |x::l=>if !(Ex.form x)then false else Ex.pG l
end
mutual
def Ex.texts:Ex→Prop
 |⟨_,_,name,kids⟩=>name.length<4611686018427387904∧Ex.yM kids
def Ex.yM:List Ex→Prop
 | []=>True
 |x::l=>x.texts∧Ex.yM l
end
theorem Ex.E6 {x:Ex} : ∀ {l:List Ex},Ex.yM l→x∈l→x.texts
 |y::l,h,m=>by
  rcases List.mem_cons.1 m with rfl|m
  ·exact h.1
  ·exact Ex.E6 h.2 m
theorem Ex.Hs {op n:Int} {name:aF} {kids:List Ex} (h:Ex.texts ⟨op,n,name,kids⟩) {y:Ex} (m:y∈kids):y.texts:=Ex.E6 h.2 m
def Ex.may (x:Ex):Bool:=decide (((min x.depth 21:Nat):Int)≤20) && x.form
def Ex.none (x:Ex):Bool:=x.op==0 && x.n==0 && x.name == [] && (x.kids.length:Int)==0
def eo:List aF→Bool
 | []=>true
 |s::l=>if !(isName s)then false else eo l
def Ar.may (a:Ar):Bool:=if a.ref then isName a.name && a.x.none else a.name == [] && a.x.may
def Ar.fl:List Ar→Bool
 | []=>true
 |a::l=>if !(a.may)then false else Ar.fl l
def Sm.BK (s:Sm):Bool:=s.kind==1 ||s.kind==3 ||s.kind==5 ||s.kind==6 ||(s.kind==9 && s.has)
def Sm.hasName (s:Sm):Bool:=s.kind==1 ||s.kind==2 ||s.kind==10
def Sm.tJ (s:Sm):Bool:=s.kind==4
def Sm.one (s:Sm):Bool:=
 if decide (s.kind<1) ||decide (s.kind > 10) || !(eo s.labels) ||(s.BK && !(s.x.may)) ||(!(s.BK) && !(s.x.none)) ||(s.has && s.kind != 9)then false
 else if(s.hasName && !(isName s.name)) ||(!(s.hasName) && !(s.name == []) && !(s.tJ && isName s.name))then false
 else if !(s.tJ == !(s.proc == [])) ||(s.tJ && !(isName s.proc)) ||(!(s.tJ) && decide ((s.args.length:Int) > 0))then false
 else if !(Ar.fl s.args)then false
 else((s.bm.length:Int)==0 ||s.kind==5 ||s.kind==6) && ((s.bc.length:Int)==0 ||s.kind==5)
structure It where
 s:Sm
 deep:Int
 dD:Int
 bc:Bool
mutual
def kx (deep dD:Int) (bc:Bool) (out:List It):Sm→List It
 |⟨id,kind,labels,name,proc,x,has,args,bm,e⟩=>
  if decide (deep≤12)then fO (deep+1) id true (fO (deep+1) id false (out++ [⟨⟨id,kind,labels,name,proc,x,has,args,bm,e⟩,deep,dD,bc⟩]) bm) e
  else out++ [⟨⟨id,kind,labels,name,proc,x,has,args,bm,e⟩,deep,dD,bc⟩]
def fO (deep dD:Int) (bc:Bool) (out:List It):List Sm→List It
 | []=>out
 |s::l=>if decide ((out.length:Int)≤200)then fO deep dD bc (kx deep dD bc out s) l else out
end
def Pc.flat (f:Pc):List It:=fO 1 0 false [] f.body
def allM (out:List It):List Pc→List It
 | []=>out
 |f::l=>if decide (((out++f.flat).length:Int) > 200)then out++f.flat else allM (out++f.flat) l
def Pg.all (p:Pg):List It:=allM [] p.procs
def Pm.fl:List Pm→Bool
 | []=>true
 |a::l=>if !(isName a.name)then false else Pm.fl l
def Pc.pH:List Pc→Bool
 | []=>true
 |f::l=>
  if !(isName f.name) ||decide ((f.params.length:Int) > 8) ||decide ((f.vars.length:Int) > 16) || !(eo f.vars) || !(eo f.fin)then false
  else if !(Pm.fl f.params)then false else Pc.pH l
def It.fl (n:Nat):List It→Bool
 | []=>true
 |i::l=>if i.s.id != ((n+1:Nat):Int) ||decide (i.deep > 12) || !(i.s.one)then false else It.fl (n+1) l
def Pg.may (p:Pg):Bool:=
 if decide ((p.globals.length:Int) > 16) ||decide ((p.procs.length:Int) > 16) || !(eo p.globals)then false
 else if !(Pc.pH p.procs)then false
 else if decide ((p.all.length:Int) > 200)then false else It.fl 0 p.all
set_option maxRecDepth 8000
open Go.Proofs
@[go_sem] def cJ (r:Rd):List D:= [.slice .shared 4 (r.l.map eN), .int .i64 r.i, .int .i64 r.code, .int .i64 r.Kw, .int .i64 r.n]
theorem fJ (r:Rd):D.bH 0 0 (cJ r)=true:=by simp[cJ,D.bH,D.ok,Tag.ok,Ku]
theorem sG {r:Rd} {t:fX} (h:r.p6=some t):r.i<4611686018427387904:=(Kx h).1
theorem is_lt {r:Rd} {s:aF} {t:Bool} (h:r.is s=some t):r.i<4611686018427387904:=by
 obtain⟨t,h1,h⟩:=Option.bind_eq_some_iff.1 h
 exact sG h1
-- good
theorem aec (l:List fX) (i c f n:Int):az Tryz.prog c6 [.ptr 0 0] ⟨[[.slice .shared 4 (l.map eN), .int .i64 i, .int .i64 c, .int .i64 f, .int .i64 n]],[]⟩ (.bool (c==0)) ⟨[[.slice .shared 4 (l.map eN), .int .i64 i, .int .i64 c, .int .i64 f, .int .i64 n]],[]⟩:=by
 refine az.go yw rfl fun B Q hB hQ=>?_
 have⟨hC,hE,hM,hY⟩:=bC
 repeat' (first
 |simp only[go_sem,hC,hE,hM,hY,mZ]
 |(with_reducible refine aB hQ ?_;exact bg))
theorem kV {l:List fX} {i c f n:Int} {s:St} {o:Nat} (ho:s.ah[o]? = some [.slice .shared 4 (l.map eN), .int .i64 i, .int .i64 c, .int .i64 f, .int .i64 n]):az Tryz.prog c6 [.ptr o 0] s (.bool (c==0)) ⟨s.ah.set o [.slice .shared 4 (l.map eN), .int .i64 i, .int .i64 c, .int .i64 f, .int .i64 n],s.aw⟩:=
 have hk:D.bH 0 0 [.slice .shared 4 (l.map eN), .int .i64 i, .int .i64 c, .int .i64 f, .int .i64 n] = true:=by simp[D.bH,D.ok,Tag.ok,Ku]
 az.kN (aec l i c f n) rfl hk hk rfl ho
theorem aed {r:Rd} {t:fX} (h:r.p6=some t):az Tryz.prog dP [.ptr 0 0] ⟨[cJ r],[]⟩ (.agg (eN t)) ⟨[cJ r],[]⟩:=by
 obtain⟨h2,h,_,_⟩:=Kx h
 refine az.go yy rfl fun B Q hB hQ=>?_
 have⟨hC,hE,hM,hY⟩:=bC
 repeat' (first
 |simp only[go_sem,hC,hE,hM,hY,mZ,h]
 |(with_reducible refine aB hQ ?_;exact bg))
theorem pk {r:Rd} {t:fX} (h:r.p6=some t) {s:St} {o:Nat} (ho:s.ah[o]? = some (cJ r)):az Tryz.prog dP [.ptr o 0] s (.agg (eN t)) ⟨s.ah.set o (cJ r),s.aw⟩:=
 (aed h).kN rfl (fJ r) (fJ r) (IG t) ho
theorem asJ {r:Rd} {text:aF} {b:Bool} (h:r.is text=some b):az Tryz.prog fA [.ptr 0 0, .str text] ⟨[cJ r],[]⟩ (.bool b) ⟨[cJ r],[]⟩:=by
 unfold Rd.is at h
 refine az.go AQ rfl fun B Q hB hQ=>?_
 have⟨hC,hE,hM,hY⟩:=bC
 repeat' (first
 |simp only[go_sem,hC,hE,hM,hY,mZ]
 |(rw[Option.bind_eq_some_iff]at h;obtain⟨_,h1,h⟩:=h;first|(with_reducible refine CU (pk h1 (by with_unfolding_all rfl)) ?_))
 |(with_reducible first|refine aX fun hc=>?_|refine aY fun hc=>?_|refine aZ (fun hc=>?_) fun hc=>?_)<;>(try simp only[hc,bs,↓reduceIte]at h)<;>try simp only[hc]
 |(with_reducible refine aB hQ ?_;(try cases h);simp only[aQ,aR,bn,bo,go_sem,hC,hE,hM,hY,mZ];try exact bR))
theorem BL {r:Rd} {text:aF} {b:Bool} (h:r.is text=some b) {s:St} {o:Nat} (ho:s.ah[o]? = some (cJ r)):az Tryz.prog fA [.ptr o 0, .str text] s (.bool b) ⟨s.ah.set o (cJ r),s.aw⟩:=
 (asJ h).kN rfl (fJ r) (fJ r) rfl ho
theorem ahF {r r':Rd} {c:Int} (h:r.bad c=some r'):az Tryz.prog e9 [.ptr 0 0, .int .i64 c] ⟨[cJ r],[]⟩ (.tuple []) ⟨[cJ r'],[]⟩:=by
 unfold Rd.bad at h
 refine az.go zH rfl fun B Q hB hQ=>?_
 have⟨hC,hE,hM,hY⟩:=bC
 repeat' (first
 |simp only[go_sem,hC,hE,hM,hY,mZ]
 |(rw[Option.bind_eq_some_iff]at h;obtain⟨_,h1,h⟩:=h;first|(with_reducible refine CU (pk h1 (by with_unfolding_all rfl)) ?_))
 |(with_reducible refine CU (kV (by with_unfolding_all rfl)) ?_)
 |(with_reducible first|refine aX fun hc=>?_|refine aY fun hc=>?_|refine aZ (fun hc=>?_) fun hc=>?_)<;>(try simp only[hc,bs,↓reduceIte]at h)<;>try simp only[hc]
 |(with_reducible refine aB hQ ?_;(try cases h);simp only[aQ,aR,bn,bo,go_sem,hC,hE,hM,hY,mZ];try exact bR))
theorem E7 {r r':Rd} {c:Int} (h:r.bad c=some r') {s:St} {o:Nat} (ho:s.ah[o]? = some (cJ r)):az Tryz.prog e9 [.ptr o 0, .int .i64 c] s (.tuple []) ⟨s.ah.set o (cJ r'),s.aw⟩:=
 (ahF h).kN rfl (fJ r) (fJ r') rfl ho
theorem aee {r:Rd} {text:aF} {p:Bool×Rd} (h:r.take text=some p):az Tryz.prog dO [.ptr 0 0, .str text] ⟨[cJ r],[]⟩ (.bool p.1) ⟨[cJ p.2],[]⟩:=by
 unfold Rd.take at h
 refine az.go yv rfl fun B Q hB hQ=>?_
 have⟨hC,hE,hM,hY⟩:=bC
 repeat' (first
 |simp only[go_sem,hC,hE,hM,hY,mZ]
 |(rw[Option.bind_eq_some_iff]at h;obtain⟨_,h1,h⟩:=h;first|(with_reducible refine CU (BL h1 (by with_unfolding_all rfl)) ?_;have hC:=is_lt h1))
 |(with_reducible refine CU (kV (by with_unfolding_all rfl)) ?_)
 |(with_reducible first|refine aX fun hc=>?_|refine aY fun hc=>?_|refine aZ (fun hc=>?_) fun hc=>?_)<;>(try simp only[hc,bs,↓reduceIte]at h)<;>try simp only[hc]
 |(with_reducible refine aB hQ ?_;(try cases h);simp only[aQ,aR,bn,bo,go_sem,hC,hE,hM,hY,mZ];try exact bR))
theorem tK {r:Rd} {text:aF} {p:Bool×Rd} (h:r.take text=some p) {s:St} {o:Nat} (ho:s.ah[o]? = some (cJ r)):az Tryz.prog dO [.ptr o 0, .str text] s (.bool p.1) ⟨s.ah.set o (cJ p.2),s.aw⟩:=
 (aee h).kN rfl (fJ r) (fJ p.2) rfl ho
theorem aef {r r':Rd} {text:aF} (h:r.want text=some r'):az Tryz.prog dv [.ptr 0 0, .str text] ⟨[cJ r],[]⟩ (.tuple []) ⟨[cJ r'],[]⟩:=by
 unfold Rd.want at h
 refine az.go yB rfl fun B Q hB hQ=>?_
 have⟨hC,hE,hM,hY⟩:=bC
 repeat' (first
 |simp only[go_sem,hC,hE,hM,hY,mZ]
 |(rw[Option.bind_eq_some_iff]at h;obtain⟨_,h1,h⟩:=h;first|(with_reducible refine CU (tK h1 (by with_unfolding_all rfl)) ?_))
 |(with_reducible refine CU (E7 h (by with_unfolding_all rfl)) ?_)
 |(with_reducible first|refine aX fun hc=>?_|refine aY fun hc=>?_|refine aZ (fun hc=>?_) fun hc=>?_)<;>(try simp only[hc,bs,↓reduceIte]at h)<;>try simp only[hc]
 |(with_reducible refine aB hQ ?_;(try cases h);simp only[aQ,aR,bn,bo,go_sem,hC,hE,hM,hY,mZ];try exact bR))
theorem qn {r r':Rd} {text:aF} (h:r.want text=some r') {s:St} {o:Nat} (ho:s.ah[o]? = some (cJ r)):az Tryz.prog dv [.ptr o 0, .str text] s (.tuple []) ⟨s.ah.set o (cJ r'),s.aw⟩:=
 (aef h).kN rfl (fJ r) (fJ r') rfl ho
theorem aeg {r:Rd} {room:Bool} {p:aF×Rd} (h:r.name room=some p):az Tryz.prog eR [.ptr 0 0, .bool room] ⟨[cJ r],[]⟩ (.str p.1) ⟨[cJ p.2],[]⟩:=by
 unfold Rd.name at h
 refine az.go yA rfl fun B Q hB hQ=>?_
 have⟨hC,hE,hM,hY⟩:=bC
 repeat' (first
 |simp only[go_sem,hC,hE,hM,hY,mZ]
 |(rw[Option.bind_eq_some_iff]at h;obtain⟨_,h1,h⟩:=h;first|(with_reducible refine CU (pk h1 (by with_unfolding_all rfl)) ?_;have hC:=sG h1)|(with_reducible refine CU (E7 h1 (by with_unfolding_all rfl)) ?_))
 |(with_reducible refine CU (kV (by with_unfolding_all rfl)) ?_)
 |(with_reducible first|refine aX fun hc=>?_|refine aY fun hc=>?_|refine aZ (fun hc=>?_) fun hc=>?_)<;>(try simp only[hc,bs,↓reduceIte]at h)<;>try simp only[hc]
 |(with_reducible refine aB hQ ?_;(try cases h);simp only[aQ,aR,bn,bo,go_sem,hC,hE,hM,hY,mZ];try exact bR))
theorem yN {r:Rd} {room:Bool} {p:aF×Rd} (h:r.name room=some p) {s:St} {o:Nat} (ho:s.ah[o]? = some (cJ r)):az Tryz.prog eR [.ptr o 0, .bool room] s (.str p.1) ⟨s.ah.set o (cJ p.2),s.aw⟩:=
 (aeg h).kN rfl (fJ r) (fJ p.2) rfl ho
set_option maxRecDepth 8000
open Go.Proofs
theorem iG (c:UInt8) (s:St):az Tryz.prog pf [.int .u8 (c.toNat:Int)] s (.bool (rW c)) s:=by
 refine az.pure ?_ rfl rfl s
 generalize h:rW c=b
 unfold rW at h
 unfold S0
 refine az.go Gl rfl fun B Q hB hQ=>?_
 have⟨hC,hE,hM,hY⟩:=bC
 repeat' (first
 |simp only[go_sem,hC,hE,hM,hY]
 |(with_reducible first|refine aX fun hc=>?_|refine aY fun hc=>?_|refine aZ (fun hc=>?_) fun hc=>?_)<;>(try simp only[hc,bs,↓reduceIte]at h)<;>try simp only[hc]
 |(with_reducible refine aB hQ ?_;exact ep))
theorem km (c:UInt8) (s:St):az Tryz.prog qk [.int .u8 (c.toNat:Int)] s (.bool (pS c)) s:=by
 refine az.pure ?_ rfl rfl s
 generalize h:pS c=b
 unfold pS at h
 unfold S0
 refine az.go Ip rfl fun B Q hB hQ=>?_
 have⟨hC,hE,hM,hY⟩:=bC
 repeat' (first
 |simp only[go_sem,hC,hE,hM,hY]
 |(with_reducible first|refine aX fun hc=>?_|refine aY fun hc=>?_|refine aZ (fun hc=>?_) fun hc=>?_)<;>(try simp only[hc,bs,↓reduceIte]at h)<;>try simp only[hc]
 |(with_reducible refine aB hQ ?_;exact ep))
theorem vR (t:aF) (s:St):az Tryz.prog uW [.str t] s (.bool (isWord t)) s:=by
 refine az.pure ?_ rfl rfl s
 generalize h:isWord t=b
 unfold isWord at h
 unfold S0
 refine az.go KP rfl fun B Q hB hQ=>?_
 have⟨hC,hE,hM,hY⟩:=bC
 repeat' (first
 |simp only[go_sem,hC,hE,hM,hY]
 |(with_reducible first|refine aX fun hc=>?_|refine aY fun hc=>?_|refine aZ (fun hc=>?_) fun hc=>?_)<;>(try simp only[hc,bs,↓reduceIte]at h)<;>try simp only[hc]
 |(with_reducible refine aB hQ ?_;exact ep))
theorem Zf {text:aF} {pos:Nat} (hl:text.length<4611686018427387904) (s:St):az Tryz.prog wM [.str text, .int .i64 (pos:Int)] s (.int .i64 ((pos+lQ (text.drop pos):Nat):Int)) s:=by
 refine az.pure ?_ rfl rfl s
 unfold S0
 refine az.go MH rfl fun B Q hB hQ=>?_
 have⟨hC,hE,hM,hY⟩:=bC
 repeat' (first
 |simp only[go_sem,hC,hE,hM,hY]
 |(with_reducible refine aB hQ ?_;exact bg))
 refine dQ 0 0 (bd.ind (ι:=aF×Nat) (fun i=>text.drop i.2=i.1∧i.2+lQ i.1=pos+lQ (text.drop pos)) (fun i=>i.1.length)
  (fun i=> [(0, .str text),(1, .int .i64 (i.2:Int))]) (fun i=>⟨[],[]⟩) ?_ (text.drop pos,pos) ⟨rfl,rfl⟩)
 rintro⟨rest,k⟩ ⟨h1,h2⟩ IH
 dsimp only at h1 h2
 cases rest with
 |nil=>
  have hC:=drop_nil h1
  simp only[lQ,Nat.add_zero]at h2
  rw[← h2]at hQ
  repeat' (first
 |simp only[go_sem,hC,hE,hM,hY]
 |(with_reducible refine aB hQ ?_;exact bg))
 | cons c rest=>
  obtain⟨hE,g2,hC,g4⟩:=drop_cons h1
  have hM:k<4611686018427387904:=by omega
  cases hb:(rW c ||pS c)
  ·simp only [lQ,hb,Bool.false_eq_true, ↓reduceIte,Nat.add_zero]at h2
   rw[← h2]at hQ
   simp only[Bool.or_eq_false_iff]at hb
   repeat' (first
 |simp only[go_sem,hC,hE,hM,hY,hb.1,hb.2]
 |(with_reducible refine CU (iG _ _) ?_)
 |(with_reducible refine CU (km _ _) ?_)
 | (with_reducible refine aB hQ ?_;exact bg))
  ·simp only [lQ,hb, ↓reduceIte]at h2
   cases JY:rW c
   ·rw [JY,Bool.false_or]at hb
    repeat' (first
 |simp only[go_sem,hC,hE,hM,hY,hb,JY]
 |(with_reducible refine CU (iG _ _) ?_)
 |(with_reducible refine CU (km _ _) ?_)
 | (with_reducible refine aB hQ ?_;exact bg))
    refine dQ 0 0 (IH (rest,k+1) ⟨g2,by dsimp only;omega⟩ (Nat.lt_succ_self _))
   ·repeat' (first
 |simp only[go_sem,hC,hE,hM,hY,JY]
 |(with_reducible refine CU (iG _ _) ?_)
 |(with_reducible refine CU (km _ _) ?_)
 | (with_reducible refine aB hQ ?_;exact bg))
    refine dQ 0 0 (IH (rest,k+1) ⟨g2,by dsimp only;omega⟩ (Nat.lt_succ_self _))
theorem zM (text:aF) (a b:Nat):(text.take (a+b)).drop a=(text.drop a).take b:=by rw[List.drop_take];congr 1;omega
set_option maxRecDepth 20000 in
theorem aeh {text : aF} {pos : Nat} {c : UInt8} {r : aF} (hd : text.drop pos = c :: r) (hl : text.length < 4611686018427387904) (s : St) :
   az Tryz.prog zA [.str text, .int .i64 (pos : Int)] s (.int .i64 ((s7 (c :: r) : Nat) : Int)) s := by
 refine az.pure ?_ rfl rfl s
 obtain ⟨hE, g2, g3, g4⟩ := drop_cons hd
 have hM : pos < 4611686018427387904 := by omega
 have hY : 0 < 1 := Nat.zero_lt_one
 generalize h : s7 (c :: r) = k
 unfold S0
 cases r with
 | nil =>
   have hC : decide (((pos + 1 : Nat) : Int) < (text.length : Int)) = false := drop_nil g2
   simp only[s7, Jg]at h
   refine az.go BI rfl fun B Q hB hQ =>?_
   repeat' (first
 |simp only[go_sem, hC, hE, hM, hY]
 |(with_reducible first|refine aX fun hc =>?_|refine aY fun hc =>?_|refine aZ (fun hc =>?_) fun hc =>?_)<;>(try simp only[hc, bs,↓reduceIte]at h)<;>try simp only[hc]
 |(with_reducible refine aB hQ ?_; exact ep)
 |(cases h; done))
 | cons d r =>
   obtain ⟨_, _, hC, _⟩ := drop_cons g2
   have e1 : (text.take (pos + 2)).drop pos = [c, d] := by rw[zM, hd]; rfl
   have e2 : (0 : Int) ≤ (pos : Int) ∧ (pos : Int) ≤ ((pos + 2 : Nat) : Int) ∧ ((pos + 2 : Nat) : Int) ≤ (text.length : Int) := by omega
   simp only[s7, Jg, Ze]at h
   refine az.go BI rfl fun B Q hB hQ =>?_
   repeat' (first
 |simp only[go_sem, hC, hE, hM, hY, e1, e2]
 |(with_reducible first|refine aX fun hc =>?_|refine aY fun hc =>?_|refine aZ (fun hc =>?_) fun hc =>?_)<;>(try simp only[hc, bs,↓reduceIte]at h)<;>try simp only[hc]
 |(with_reducible refine aB hQ ?_; (try cases h); simp only[aQ, aR, bn, bo, go_sem, hC, hE, hM, hY, e1, e2]; try exact bR)
 |(cases h; done))
theorem Tp {c:UInt8} (h:pS c=true):48≤(c.toNat:Int)∧(c.toNat:Int)≤57:=by
 simp only[pS,Bool.and_eq_true,decide_eq_true_eq]at h
 omega
def po (s:aF):Int×Bool:=match bW 0 s with|some n=>(n,true)|none=>(0,false)
theorem Ww {text:aF} (hd : ∀ c∈text,pS c=true) (hl:text.length<4611686018427387904) (s:St) :
 az Tryz.prog vE [.str text] s (.tuple [.int .i64 (po text).1, .bool (po text).2]) s:=by
 refine az.pure ?_ rfl rfl s
 generalize hw:po text=p
 unfold S0
 refine az.go Gm rfl fun B Q hB hQ=>?_
 have⟨hC,hE,hM,hY⟩:=bC
 repeat' (first
 |simp only[go_sem,hC,hE,hM,hY]
 |(with_reducible first|refine aX fun hc=>?_|refine aY fun hc=>?_|refine aZ (fun hc=>?_) fun hc=>?_)<;>(try simp only[hc,bs,↓reduceIte]at h)<;>try simp only[hc]
 |(with_reducible refine aB hQ ?_;exact ep)
 |(cases h;done))
 refine dQ 0 0 (bd.ind (ι:=aF×Nat×Int) (fun i=>text.drop i.2.1=i.1∧0≤i.2.2∧i.2.2≤9223372036854775807∧(match bW i.2.2 i.1 with|some n=>(n,true)|none=>(0,false))=p) (fun i=>i.1.length)
  (fun i=> [(0, .str text),(4, .int .i64 i.2.2),(5, .int .i64 (i.2.1:Int))]) (fun i=>⟨[],[]⟩) ?_ (text,0,0) ⟨rfl,Int.le_refl 0,by dsimp only;omega,hw⟩)
 rintro⟨rest,k,n⟩ ⟨h1,h2,h3,h⟩ IH
 dsimp only at h1 h2 h3 h
 cases rest with
 |nil=>
  have hC:=drop_nil h1
  simp only[bW]at h
  repeat' (first
 |simp only[go_sem,hC,hE,hM,hY]
 |(with_reducible first|refine aX fun hc=>?_|refine aY fun hc=>?_|refine aZ (fun hc=>?_) fun hc=>?_)<;>(try simp only[hc,bs,↓reduceIte]at h)<;>try simp only[hc]
 |(with_reducible refine aB hQ ?_;exact ep)
 |(cases h;done))
 | cons c rest=>
  obtain⟨hE,g2,hC,g4⟩:=drop_cons h1
  have hM:k<4611686018427387904:=by omega
  have hc:=Tp (hd c (List.mem_of_getElem? hE))
  have w1:IntKind.wrap .u8 ((c.toNat:Int) - 48)=(c.toNat:Int) - 48:=by rw[IntKind.wrap_u8];omega
  have w2:IntKind.wrap .i64 ((c.toNat:Int) - 48)=(c.toNat:Int) - 48:=dN (by omega) (by omega)
  have w3:IntKind.wrap .i64 (9223372036854775807 - ((c.toNat:Int) - 48))=9223372036854775807 - ((c.toNat:Int) - 48):=dN (by omega) (by omega)
  have w4:IntKind.wrap .i64 ((9223372036854775807 - ((c.toNat:Int) - 48)).tdiv 10)=(9223372036854775807 - ((c.toNat:Int) - 48)) / 10:=by
   rw[Int.tdiv_eq_ediv_of_nonneg (by omega)];exact dN (by omega) (by omega)
  have t10:((10:Int)=0)=False:=by simp
  simp only[bW]at h
  by_cases hn:n > (9223372036854775807 - ((c.toNat:Int) - 48)) / 10
  ·have mU:decide (n > (9223372036854775807 - ((c.toNat:Int) - 48)) / 10)=true:=by simpa using hn
   rw[if_pos hn]at h
   repeat' (first
 |simp only[go_sem,hC,hE,hM,hY,w1,w2,w3,w4,t10,mU]
 |(with_reducible first|refine aX fun hc=>?_|refine aY fun hc=>?_|refine aZ (fun hc=>?_) fun hc=>?_)<;>(try simp only[hc,bs,↓reduceIte]at h)<;>try simp only[hc]
 |(with_reducible refine aB hQ ?_;(try cases h);simp only[aQ,aR,bn,bo,go_sem,hC,hE,hM,hY,w1,w2,w3,w4,t10,mU];try exact bR)
 | (cases h;done))
  ·have mU:decide (n > (9223372036854775807 - ((c.toNat:Int) - 48)) / 10)=false:=by simpa using hn
   rw[if_neg hn]at h
   have w5:IntKind.wrap .i64 (n*10)=n*10:=dN (by omega) (by omega)
   have w6:IntKind.wrap .i64 (n*10+((c.toNat:Int) - 48))=n*10+((c.toNat:Int) - 48):=dN (by omega) (by omega)
   repeat' (first
 |simp only[go_sem,hC,hE,hM,hY,w1,w2,w3,w4,t10,mU,w5,w6]
 |(with_reducible first|refine aX fun hc=>?_|refine aY fun hc=>?_|refine aZ (fun hc=>?_) fun hc=>?_)<;>(try simp only[hc,bs,↓reduceIte]at h)<;>try simp only[hc]
 |(with_reducible refine aB hQ ?_;(try cases h);simp only[aQ,aR,bn,bo,go_sem,hC,hE,hM,hY,w1,w2,w3,w4,t10,mU,w5,w6];try exact bR)
 | (cases h;done))
   refine dQ 0 0 (IH (rest,k+1,n*10+((c.toNat:Int) - 48)) ⟨g2,by dsimp only;omega,by dsimp only;omega,h⟩ (Nat.lt_succ_self _))
set_option maxRecDepth 8000
open Go.Proofs
theorem Wx {c:UInt8} {r:aF} (h:rW c=true):0<lQ (c::r):=by simp[lQ,h]
theorem KV : ∀ s:aF,lQ s≤s.length
 | []=>Nat.le_refl _
 |c::r=>by simp only[lQ];split<;>simp only[List.length_cons]<;>have:=KV r<;>omega
theorem KW : ∀ s:aF,rX s≤s.length
 | []=>Nat.le_refl _
 |c::r=>by simp only[rX];split<;>simp only[List.length_cons]<;>have:=KW r<;>omega
theorem Ht : ∀ s:aF,qC s≤s.length
 | []=>Nat.le_refl _
 |c::r=>by simp only[qC];split<;>simp only[List.length_cons]<;>have:=Ht r<;>omega
theorem Tq : ∀ s:aF,s7 s≤s.length
 | []=>Nat.le_refl _
 | [c]=>by simp only[s7];split<;>simp
 |c::d::r=>by simp only[s7];(repeat' split)<;>simp
theorem KX : ∀ (s:aF),∀ c∈s.take (rX s),pS c=true
 | [],c,h=>by simp[rX]at h
 | d::r,c,h=>by
  simp only[rX]at h
  split at h
  ·rw [List.take_succ_cons]at h
   rcases List.mem_cons.1 h with rfl|h
   ·assumption
   ·exact KX r c h
  ·simp at h
def p9 (f:Int×Int):List D:= [.int .i64 f.1, .int .i64 f.2]
def oP (text:aF) (out:List fX) (pos:Nat):Tm:= [(0, .str text),(3, .ptr 0 0),(4, .slice (.tok 0) 4 (out.map eN)),(5, .ptr 1 0),(6, .int .i64 (pos:Int))]
def pI (out:List fX):St:=⟨[[.int .i64 0, .int .i64 0],[.junk, .junk, .junk, .junk]],[some out.length]⟩
theorem Tr {c:UInt8} {r:aF} (h:((c.toNat:Int)==35)=true):0<qC (c::r):=by
 have:((c.toNat:Int) != 10)=true:=by simp only[beq_iff_eq]at h;simp[h]
 simp[qC,this]
def s8 (text:aF) (B:e7) (Q:Exit→Tm→St→Prop) (p:List fX×Int×Int) (N:Nat):Prop:=
 ∀ (n pos:Nat) (rest:aF) (out:List fX),text.drop pos=rest→nV n pos rest out=p→rest.length<n→out.length≤2000→pos≤text.length→n<N→
  iZ Tryz.prog B 152 qN (.seq .skip vP) Q (oP text out pos) (pI out)
theorem s8.to {text:aF} {B:e7} {Q:Exit→Tm→St→Prop} {p:List fX×Int×Int} {N:Nat} (hB:B.s=S0) (IH:s8 text B Q p N) {n pos:Nat} {rest:aF} {out:List fX} {tm:Tm} {s:St}
 (h1:text.drop pos=rest) (h:nV n pos rest out=p) (h2:rest.length<n) (h3:out.length≤2000) (h4:pos≤text.length) (h5:n<N)
 (ht:uI tm 2 1 (oP text out pos)) (ho:gx (s.cut 2 1).ah (pI out).ah) (hk:(s.cut 2 1).aw=(pI out).aw) :
 jZ Tryz.prog B 152 qN Q (.goto 0) tm s:=by
 refine zu (l:=0) (r:= .seq .skip vP) rfl (iZ.re _ _ 2 1 (by rw[hB];exact mH rfl) (by rw[hB];exact mH rfl) ht ho ?_)
 have:=IH n pos rest out h1 h h2 h3 h4 h5
 rw[hk]
 exact this
attribute [go_sem] oP pI p9
theorem lex_nil {text:aF} (hl:text.length≤100000) {B:e7} {Q:Exit→Tm→St→Prop} {p:List fX×Int×Int} (hB:B.s=S0)
 (hQ:iz 0 0 [(2,none),(3,some (true,2))] (.tuple [.slice .shared 4 (p.1.map eN), .agg (p9 p.2)]) ⟨[],[]⟩=Q)
 {n pos:Nat} {out:List fX} (ho:out.length≤2000) (hp:pos≤text.length) (IH:s8 text B Q p (n+1))
 (h1:text.drop pos = []) (h:nV (n+1) pos [] out=p):gD Tryz.prog B 152 vP (jZ Tryz.prog B 152 qN Q) (oP text out pos) (pI out):=by
 have⟨hC,hE,hM,hY⟩:=bC
 have fL:(out.length+1)*41≤bu:=by simp only[bu];omega
 have eH:decide ((pos:Int)≥(text.length:Int))=true:=by have:=List.drop_eq_nil_iff.1 h1;simp;omega
 have:pos=text.length:=by have:=List.drop_eq_nil_iff.1 h1;omega
 subst this
 simp only[nV]at h
 repeat' (first
 |simp only[go_sem,hC,hE,hM,hY,eH,fL]
 |(with_reducible first|refine aX fun hc=>?_|refine aY fun hc=>?_|refine aZ (fun hc=>?_) fun hc=>?_)<;>(try simp only[hc,bs,↓reduceIte]at h)<;>try simp only[hc]
 |(with_reducible refine aB hQ ?_;(try cases h);simp only[aQ,aR,bn,bo,go_sem,hC,hE,hM,hY,eH,fL];try exact bR))
theorem Ts {text:aF} (hl:text.length≤100000) {B:e7} {Q:Exit→Tm→St→Prop} {p:List fX×Int×Int} (hB:B.s=S0)
 (hQ:iz 0 0 [(2,none),(3,some (true,2))] (.tuple [.slice .shared 4 (p.1.map eN), .agg (p9 p.2)]) ⟨[],[]⟩=Q)
 {n pos:Nat} {out:List fX} (ho:out.length≤2000) (hp:pos≤text.length) (IH:s8 text B Q p (n+1))
 {c:UInt8} {r:aF} (h1:text.drop pos=c::r) (hb:AE c=true) (hn:(c::r).length<n+1) (h:nV (n+1) pos (c::r) out=p) :
 gD Tryz.prog B 152 vP (jZ Tryz.prog B 152 qN Q) (oP text out pos) (pI out):=by
 have hM:0<1:=Nat.zero_lt_one
 have hY:0<1:=Nat.zero_lt_one
 obtain⟨hE,g2,g3,g4⟩:=drop_cons h1
 have hC:pos<4611686018427387904:=by omega
 have eH:decide ((pos:Int)≥(text.length:Int))=false:=by simp;omega
 simp only[nV,hb,↓reduceIte]at h
 have mU:r.length<n:=by simp only[List.length_cons]at hn;omega
 have e : ∀ x y:Int,(x==y)=false→(x==y)=true→False:=fun x y a b=>by rw[a]at b;cases b
 simp only[AE]at hb
 repeat' (first
 |simp only[go_sem,hC,hE,hM,hY,eH]
 |(refine IH.to hB g2 h mU ho g4 (Nat.lt_succ_self _) ?_ ?_ ?_<;>((try simp only[go_sem,hC,hE,hM,hY]);repeat' (first|exact Ok.out|with_reducible refine eL ?_ ?_|omega|(simp;done)));done)
 |(with_reducible first|refine aX fun hc=>?_|refine aY fun hc=>?_|refine aZ (fun hc=>?_) fun hc=>?_)<;>(try simp only[hc,bs,↓reduceIte]at h)<;>try simp only[hc]
 |(with_reducible refine aB hQ ?_;simp only[aQ,aR,bn,bo,go_sem,hC,hE,hM,hY];repeat' (first|exact Ok.out|with_reducible refine eL ?_ ?_|(simp;done))))
 all_goals (exfalso;simp_all;done)
theorem QO {text:aF} (hl:text.length≤100000) {B:e7} {Q:Exit→Tm→St→Prop} {p:List fX×Int×Int} (hB:B.s=S0)
 (hQ:iz 0 0 [(2,none),(3,some (true,2))] (.tuple [.slice .shared 4 (p.1.map eN), .agg (p9 p.2)]) ⟨[],[]⟩=Q)
 {n pos:Nat} {out:List fX} (ho:out.length≤2000) (hp:pos≤text.length) (IH:s8 text B Q p (n+1))
 {c:UInt8} {r:aF} (h1:text.drop pos=c::r) (hb:AE c=false) (hc:((c.toNat:Int)==35)=true) (hn:(c::r).length<n+1) (h:nV (n+1) pos (c::r) out=p) :
 gD Tryz.prog B 152 vP (jZ Tryz.prog B 152 qN Q) (oP text out pos) (pI out):=by
 have hM:0<1:=Nat.zero_lt_one
 have hY:0<1:=Nat.zero_lt_one
 have ahG:=(drop_cons h1).1
 have hE:=ahG
 have g4:=(drop_cons h1).2.2.2
 have hC:pos<4611686018427387904:=by omega
 have eH:decide ((pos:Int)≥(text.length:Int))=false:=by simp;omega
 simp only[nV,hb,Bool.false_eq_true,↓reduceIte,hc]at h
 simp only[AE,Bool.or_eq_false_iff]at hb
 have hk:=Tr (r:=r) hc
 have cm:=Ht (c::r)
 have tL:(c::r).length=text.length - pos:=by rw[← h1,List.length_drop]
 generalize hL:qC (c::r)=L at h hk cm
 repeat' (first
 |simp only[go_sem,hC,hE,hM,hY,eH,hb.1.1.1,hb.1.1.2,hb.1.2,hb.2,hc]
 |(with_reducible refine ct (l:=1) (by with_unfolding_all rfl) ?_)
 |(with_reducible refine aB hQ ?_;exact bg))
 refine dQ 2 1 (bd.ind (ι:=aF×Nat) (fun i=>text.drop i.2=i.1∧i.2+qC i.1=pos+L) (fun i=>i.1.length)
  (fun i=>oP text out i.2) (fun i=>pI out) ?_ (c::r,pos) ⟨h1,by dsimp only;omega⟩)
 rintro⟨rest,k⟩ ⟨j1,j2⟩ IHl
 dsimp only at j1 j2
 have fin:text.drop (pos+L)=(c::r).drop L:=by rw[← h1,List.drop_drop]
 have hlen:((c::r).drop L).length<n:=by rw[List.length_drop];omega
 cases rest with
 |nil=>
  have eH:=drop_nil j1
  simp only[qC,Nat.add_zero]at j2
  subst j2
  repeat' (first
 |simp only[go_sem,hC,hE,hM,hY,eH]
 |(refine IH.to hB fin h hlen ho (by omega) (Nat.lt_succ_self _) ?_ ?_ ?_<;>((try simp only[go_sem,hC,hE,hM,hY]);repeat' (first|exact Ok.out|with_reducible refine eL ?_ ?_|omega|(simp;done)));done)
 |(with_reducible refine aB hQ ?_;exact bg))
 | cons d rest=>
  obtain⟨hE,g2,eH,g5⟩:=drop_cons j1
  have hC:k<4611686018427387904:=by omega
  cases hd:((d.toNat:Int) != 10)
  ·simp only [qC,hd,Bool.false_eq_true, ↓reduceIte,Nat.add_zero]at j2
   subst j2
   repeat' (first
 |simp only[go_sem,hC,hE,hM,hY,eH,hd]
 |(refine IH.to hB fin h hlen ho (by omega) (Nat.lt_succ_self _) ?_ ?_ ?_<;>((try simp only[go_sem,hC,hE,hM,hY]);repeat' (first|exact Ok.out|with_reducible refine eL ?_ ?_|omega|(simp;done)));done)
 | (with_reducible refine aB hQ ?_;exact bg))
  ·simp only [qC,hd, ↓reduceIte]at j2
   repeat' (first
 |simp only[go_sem,hC,hE,hM,hY,eH,hd]
 | (with_reducible refine aB hQ ?_;exact bg))
   refine dQ 2 1 (IHl (rest,k+1) ⟨g2,by dsimp only;omega⟩ (Nat.lt_succ_self _))
theorem Wy {text:aF} (hl:text.length≤100000) {B:e7} {Q:Exit→Tm→St→Prop} {p:List fX×Int×Int} (hB:B.s=S0)
 (hQ:iz 0 0 [(2,none),(3,some (true,2))] (.tuple [.slice .shared 4 (p.1.map eN), .agg (p9 p.2)]) ⟨[],[]⟩=Q)
 {n pos:Nat} {out:List fX} (ho:out.length≤2000) (hp:pos≤text.length) (IH:s8 text B Q p (n+1))
 {c:UInt8} {r:aF} (h1:text.drop pos=c::r) (hb:AE c=false) (hc:((c.toNat:Int)==35)=false) (hL:rW c=false) (hD:pS c=false) (hn:(c::r).length<n+1) (h:nV (n+1) pos (c::r) out=p) :
 gD Tryz.prog B 152 vP (jZ Tryz.prog B 152 qN Q) (oP text out pos) (pI out):=by
 have hM:0<1:=Nat.zero_lt_one
 have hY:0<1:=Nat.zero_lt_one
 have hE:=(drop_cons h1).1
 have g4:=(drop_cons h1).2.2.2
 have hC:pos<4611686018427387904:=by omega
 have eH:decide ((pos:Int)≥(text.length:Int))=false:=by simp;omega
 have fL:(out.length+1)*41≤bu:=by simp only[bu];omega
 have Jh:=fun s=>aeh h1 (by omega) s
 have cm:=Tq (c::r)
 have tL:(c::r).length=text.length - pos:=by rw[← h1,List.length_drop]
 simp only[nV,hb,Bool.false_eq_true,↓reduceIte,hc,QN,hL,hD]at h
 simp only[AE,Bool.or_eq_false_iff]at hb
 generalize hK:s7 (c::r)=k at h Jh cm
 have e1:IntKind.wrap .i64 ((pos:Int)+(k:Int))=((pos+k:Nat):Int):=by rw[dN]<;>omega
 have e2:(0:Int)≤(pos:Int)∧(pos:Int)≤((pos+k:Nat):Int)∧((pos+k:Nat):Int)≤(text.length:Int):=by omega
 have e3:(text.take (pos+k)).drop pos=(c::r).take k:=by rw[zM,h1]
 by_cases hz:k=0
 ·have od:decide (((pos+k:Nat):Int) > (pos:Int))=false:=by simp;omega
  simp only[hz,↓reduceIte]at h
  repeat' (first
 |simp only[go_sem,hC,hE,hM,hY,eH,hb.1.1.1,hb.1.1.2,hb.1.2,hb.2,hc,hL,hD,e1,e2,e3,od]
 |(with_reducible refine CU (iG _ _) ?_)
 |(with_reducible refine CU (km _ _) ?_)
 |(with_reducible refine CU (Jh _) ?_)
 |(with_reducible refine ct (l:=4) (by with_unfolding_all rfl) ?_)
 |(with_reducible refine ct (l:=5) (by with_unfolding_all rfl) ?_)
 |(with_reducible first|refine aX fun hc=>?_|refine aY fun hc=>?_|refine aZ (fun hc=>?_) fun hc=>?_)<;>(try simp only[hc,bs,↓reduceIte]at h)<;>try simp only[hc]
 |(with_reducible refine aB hQ ?_;(try cases h);simp only[aQ,aR,bn,bo,go_sem,hC,hE,hM,hY,eH,hb.1.1.1,hb.1.1.2,hb.1.2,hb.2,hc,hL,hD,e1,e2,e3,od];try exact bR))
 ·have od:decide (((pos+k:Nat):Int) > (pos:Int))=true:=by simp;omega
  have hlen:((c::r).take k).length=k:=by rw[List.length_take];omega
  have fin:text.drop (pos+k)=(c::r).drop k:=by rw[← h1,List.drop_drop]
  have u2:((c::r).drop k).length<n:=by rw[List.length_drop];omega
  simp only[hz,↓reduceIte,hlen]at h
  by_cases sg:out.length=2000
  ·have kJ:((out.length:Int)==2000)=true:=by simp [sg]
   simp only[sg,↓reduceIte]at h
   repeat' (first
 |simp only[go_sem,hC,hE,hM,hY,eH,hb.1.1.1,hb.1.1.2,hb.1.2,hb.2,hc,hL,hD,e1,e2,e3,od,kJ]
 |(with_reducible refine CU (iG _ _) ?_)
 |(with_reducible refine CU (km _ _) ?_)
 |(with_reducible refine CU (Jh _) ?_)
 |(with_reducible refine ct (l:=4) (by with_unfolding_all rfl) ?_)
 |(with_reducible refine ct (l:=5) (by with_unfolding_all rfl) ?_)
 |(with_reducible first|refine aX fun hc=>?_|refine aY fun hc=>?_|refine aZ (fun hc=>?_) fun hc=>?_)<;>(try simp only[hc,bs,↓reduceIte]at h)<;>try simp only[hc]
 | (with_reducible refine aB hQ ?_;(try cases h);simp only [aQ,aR,bn,bo,go_sem,hC,hE,hM,hY,eH,hb.1.1.1,hb.1.1.2,hb.1.2,hb.2,hc,hL,hD,e1,e2,e3,od,kJ];try exact bR))
  ·have kJ:((out.length:Int)==2000)=false:=by simp;omega
   have Dt : ∀ t:fX,(out++ [t]).length≤2000:=by intro t;simp;omega
   simp only[sg,↓reduceIte]at h
   repeat' (first
 |simp only[go_sem,hC,hE,hM,hY,eH,hb.1.1.1,hb.1.1.2,hb.1.2,hb.2,hc,hL,hD,e1,e2,e3,od,kJ,fL]
 |(with_reducible refine CU (iG _ _) ?_)
 |(with_reducible refine CU (km _ _) ?_)
 |(with_reducible refine CU (Jh _) ?_)
 |(with_reducible refine ct (l:=4) (by with_unfolding_all rfl) ?_)
 |(with_reducible refine ct (l:=5) (by with_unfolding_all rfl) ?_)
 |(refine IH.to hB fin h u2 (Dt _) (by omega) (Nat.lt_succ_self _) ?_ ?_ ?_<;>((try simp only[go_sem,hC,hE,hM,hY]);repeat' (first|exact Ok.out|with_reducible refine eL ?_ ?_|omega|(simp;done)));done)
 |(with_reducible refine aB hQ ?_;exact bg))
theorem Wz {text:aF} (hl:text.length≤100000) {B:e7} {Q:Exit→Tm→St→Prop} {p:List fX×Int×Int} (hB:B.s=S0)
 (hQ:iz 0 0 [(2,none),(3,some (true,2))] (.tuple [.slice .shared 4 (p.1.map eN), .agg (p9 p.2)]) ⟨[],[]⟩=Q)
 {n pos:Nat} {out:List fX} (ho:out.length≤2000) (hp:pos≤text.length) (IH:s8 text B Q p (n+1))
 {c:UInt8} {r:aF} (h1:text.drop pos=c::r) (hb:AE c=false) (hc:((c.toNat:Int)==35)=false) (hL:rW c=true) (hn:(c::r).length<n+1) (h:nV (n+1) pos (c::r) out=p) :
 gD Tryz.prog B 152 vP (jZ Tryz.prog B 152 qN Q) (oP text out pos) (pI out):=by
 have hM:0<1:=Nat.zero_lt_one
 have hY:0<1:=Nat.zero_lt_one
 have hE:=(drop_cons h1).1
 have g4:=(drop_cons h1).2.2.2
 have hC:pos<4611686018427387904:=by omega
 have eH:decide ((pos:Int)≥(text.length:Int))=false:=by simp;omega
 have fL:(out.length+1)*41≤bu:=by simp only[bu];omega
 have dG:=fun s=>Zf (text:=text) (pos:=pos) (by omega) s
 rw[h1]at dG
 have cm:=KV (c::r)
 have rn:=Wx (r:=r) hL
 have tL:(c::r).length=text.length - pos:=by rw[← h1,List.length_drop]
 simp only[nV,hb,Bool.false_eq_true,↓reduceIte,hc,QN,hL]at h
 simp only[AE,Bool.or_eq_false_iff]at hb
 generalize hK:lQ (c::r)=k at h dG cm rn
 have hlen:((c::r).take k).length=k:=by rw[List.length_take];omega
 simp only[hlen]at h
 have e1:IntKind.wrap .i64 (((pos+k:Nat):Int) - (pos:Int))=(k:Int):=by rw[dN]<;>omega
 have e2:(0:Int)≤(pos:Int)∧(pos:Int)≤((pos+k:Nat):Int)∧((pos+k:Nat):Int)≤(text.length:Int):=by omega
 have e3:(text.take (pos+k)).drop pos=(c::r).take k:=by rw[zM,h1]
 by_cases hz:k > 8
 ·have od:decide ((k:Int) > 8)=true:=by simp;omega
  simp only[hz,↓reduceIte]at h
  cases hw:isWord ((c::r).take k)
  ·repeat' (first
 |simp only[go_sem,hC,hE,hM,hY,eH,hb.1.1.1,hb.1.1.2,hb.1.2,hb.2,hc,hL,e1,e2,e3,od,hw]
 |(with_reducible refine CU (iG _ _) ?_)
 |(with_reducible refine CU (dG _) ?_)
 |(with_reducible refine CU (vR _ _) ?_)
 |(with_reducible refine ct (l:=2) (by with_unfolding_all rfl) ?_)
 |(with_reducible refine ct (l:=4) (by with_unfolding_all rfl) ?_)
 |(with_reducible refine ct (l:=5) (by with_unfolding_all rfl) ?_)
 |(with_reducible first|refine aX fun hc=>?_|refine aY fun hc=>?_|refine aZ (fun hc=>?_) fun hc=>?_)<;>(try simp only[hc,bs,↓reduceIte]at h)<;>try simp only[hc]
 |(with_reducible refine aB hQ ?_;(try cases h);simp only[aQ,aR,bn,bo,go_sem,hC,hE,hM,hY,eH,hb.1.1.1,hb.1.1.2,hb.1.2,hb.2,hc,hL,e1,e2,e3,od,hw];try exact bR))
  ·repeat' (first
 |simp only[go_sem,hC,hE,hM,hY,eH,hb.1.1.1,hb.1.1.2,hb.1.2,hb.2,hc,hL,e1,e2,e3,od,hw]
 |(with_reducible refine CU (iG _ _) ?_)
 |(with_reducible refine CU (dG _) ?_)
 |(with_reducible refine CU (vR _ _) ?_)
 |(with_reducible refine ct (l:=2) (by with_unfolding_all rfl) ?_)
 |(with_reducible refine ct (l:=4) (by with_unfolding_all rfl) ?_)
 |(with_reducible refine ct (l:=5) (by with_unfolding_all rfl) ?_)
 |(with_reducible first|refine aX fun hc=>?_|refine aY fun hc=>?_|refine aZ (fun hc=>?_) fun hc=>?_)<;>(try simp only[hc,bs,↓reduceIte]at h)<;>try simp only[hc]
 |(with_reducible refine aB hQ ?_;(try cases h);simp only[aQ,aR,bn,bo,go_sem,hC,hE,hM,hY,eH,hb.1.1.1,hb.1.1.2,hb.1.2,hb.2,hc,hL,e1,e2,e3,od,hw];try exact bR))
 ·have od:decide ((k:Int) > 8)=false:=by simp;omega
  have fin:text.drop (pos+k)=(c::r).drop k:=by rw[← h1,List.drop_drop]
  have u2:((c::r).drop k).length<n:=by rw[List.length_drop];omega
  simp only[hz,↓reduceIte,hlen]at h
  by_cases sg:out.length=2000
  ·have kJ:((out.length:Int)==2000)=true:=by simp [sg]
   simp only[sg,↓reduceIte]at h
   cases hw:isWord ((c::r).take k)
   ·repeat' (first
 |simp only[go_sem,hC,hE,hM,hY,eH,hb.1.1.1,hb.1.1.2,hb.1.2,hb.2,hc,hL,e1,e2,e3,od,kJ,hw]
 |(with_reducible refine CU (iG _ _) ?_)
 |(with_reducible refine CU (dG _) ?_)
 |(with_reducible refine CU (vR _ _) ?_)
 |(with_reducible refine ct (l:=2) (by with_unfolding_all rfl) ?_)
 |(with_reducible refine ct (l:=4) (by with_unfolding_all rfl) ?_)
 |(with_reducible refine ct (l:=5) (by with_unfolding_all rfl) ?_)
 |(with_reducible first|refine aX fun hc=>?_|refine aY fun hc=>?_|refine aZ (fun hc=>?_) fun hc=>?_)<;>(try simp only[hc,bs,↓reduceIte]at h)<;>try simp only[hc]
 | (with_reducible refine aB hQ ?_;(try cases h);simp only [aQ,aR,bn,bo,go_sem,hC,hE,hM,hY,eH,hb.1.1.1,hb.1.1.2,hb.1.2,hb.2,hc,hL,e1,e2,e3,od,kJ,hw];try exact bR))
   ·repeat' (first
 |simp only[go_sem,hC,hE,hM,hY,eH,hb.1.1.1,hb.1.1.2,hb.1.2,hb.2,hc,hL,e1,e2,e3,od,kJ,hw]
 |(with_reducible refine CU (iG _ _) ?_)
 |(with_reducible refine CU (dG _) ?_)
 |(with_reducible refine CU (vR _ _) ?_)
 |(with_reducible refine ct (l:=2) (by with_unfolding_all rfl) ?_)
 |(with_reducible refine ct (l:=4) (by with_unfolding_all rfl) ?_)
 |(with_reducible refine ct (l:=5) (by with_unfolding_all rfl) ?_)
 |(with_reducible first|refine aX fun hc=>?_|refine aY fun hc=>?_|refine aZ (fun hc=>?_) fun hc=>?_)<;>(try simp only[hc,bs,↓reduceIte]at h)<;>try simp only[hc]
 | (with_reducible refine aB hQ ?_;(try cases h);simp only [aQ,aR,bn,bo,go_sem,hC,hE,hM,hY,eH,hb.1.1.1,hb.1.1.2,hb.1.2,hb.2,hc,hL,e1,e2,e3,od,kJ,hw];try exact bR))
  ·have kJ:((out.length:Int)==2000)=false:=by simp;omega
   have Dt : ∀ t:fX,(out++ [t]).length≤2000:=by intro t;simp;omega
   simp only[sg,↓reduceIte]at h
   cases hw:isWord ((c::r).take k)
   ·simp only [hw,Bool.false_eq_true, ↓reduceIte]at h
    repeat' (first
 |simp only[go_sem,hC,hE,hM,hY,eH,hb.1.1.1,hb.1.1.2,hb.1.2,hb.2,hc,hL,e1,e2,e3,od,kJ,fL,hw]
 |(with_reducible refine CU (iG _ _) ?_)
 |(with_reducible refine CU (dG _) ?_)
 |(with_reducible refine CU (vR _ _) ?_)
 |(with_reducible refine ct (l:=2) (by with_unfolding_all rfl) ?_)
 |(with_reducible refine ct (l:=4) (by with_unfolding_all rfl) ?_)
 |(with_reducible refine ct (l:=5) (by with_unfolding_all rfl) ?_)
 |(refine IH.to hB fin h u2 (Dt _) (by omega) (Nat.lt_succ_self _) ?_ ?_ ?_<;>((try simp only[go_sem,hC,hE,hM,hY]);repeat' (first|exact Ok.out|with_reducible refine eL ?_ ?_|omega|(simp;done)));done)
 |(with_reducible first|refine aX fun hc=>?_|refine aY fun hc=>?_|refine aZ (fun hc=>?_) fun hc=>?_)<;>(try simp only[hc,bs,↓reduceIte]at h)<;>try simp only[hc]
 | (with_reducible refine aB hQ ?_;(try cases h);simp only [aQ,aR,bn,bo,go_sem,hC,hE,hM,hY,eH,hb.1.1.1,hb.1.1.2,hb.1.2,hb.2,hc,hL,e1,e2,e3,od,kJ,fL,hw];try exact bR))
   ·simp only [hw, ↓reduceIte]at h
    repeat' (first
 |simp only[go_sem,hC,hE,hM,hY,eH,hb.1.1.1,hb.1.1.2,hb.1.2,hb.2,hc,hL,e1,e2,e3,od,kJ,fL,hw]
 |(with_reducible refine CU (iG _ _) ?_)
 |(with_reducible refine CU (dG _) ?_)
 |(with_reducible refine CU (vR _ _) ?_)
 |(with_reducible refine ct (l:=2) (by with_unfolding_all rfl) ?_)
 |(with_reducible refine ct (l:=4) (by with_unfolding_all rfl) ?_)
 |(with_reducible refine ct (l:=5) (by with_unfolding_all rfl) ?_)
 |(refine IH.to hB fin h u2 (Dt _) (by omega) (Nat.lt_succ_self _) ?_ ?_ ?_<;>((try simp only[go_sem,hC,hE,hM,hY]);repeat' (first|exact Ok.out|with_reducible refine eL ?_ ?_|omega|(simp;done)));done)
 |(with_reducible refine aB hQ ?_;exact bg))
end Go.Abs
namespace Go.Abs
set_option maxRecDepth 8000
open Go.Proofs
theorem KY (c:UInt8) (s:St):az Tryz.prog rQ [.int .u8 (c.toNat:Int)] s (.bool (rW c)) s:=by
 refine az.pure ?_ rfl rfl s
 generalize h:rW c=b
 unfold rW at h
 unfold S0
 refine az.go Gt rfl fun B Q hB hQ=>?_
 have⟨hC,hE,hM,hY⟩:=bC
 repeat' (first
 |simp only[go_sem,hC,hE,hM,hY]
 |(with_reducible first|refine aX fun hc=>?_|refine aY fun hc=>?_|refine aZ (fun hc=>?_) fun hc=>?_)<;>(try simp only[hc,bs,↓reduceIte]at h)<;>try simp only[hc]
 |(with_reducible refine aB hQ ?_;exact ep))
theorem WA (c:UInt8) (s:St):az Tryz.prog vI [.int .u8 (c.toNat:Int)] s (.bool (pS c)) s:=by
 refine az.pure ?_ rfl rfl s
 generalize h:pS c=b
 unfold pS at h
 unfold S0
 refine az.go Gu rfl fun B Q hB hQ=>?_
 have⟨hC,hE,hM,hY⟩:=bC
 repeat' (first
 |simp only[go_sem,hC,hE,hM,hY]
 |(with_reducible first|refine aX fun hc=>?_|refine aY fun hc=>?_|refine aZ (fun hc=>?_) fun hc=>?_)<;>(try simp only[hc,bs,↓reduceIte]at h)<;>try simp only[hc]
 |(with_reducible refine aB hQ ?_;exact ep))
theorem aaG (s:St):az Tryz.prog vJ [] s (.slice .shared 1 [[.str [103,108,111,98,97,108]],[.str [112,114,111,99]],[.str [118,97,114]],[.str [114,101,102]],[.str [105,102]],[.str [101,108,115,101]],[.str [119,104,105,108,101]],[.str [98,114,101,97,107]],[.str [99,111,110,116,105,110,117,101]],[.str [114,101,116,117,114,110]],[.str [103,111,116,111]],[.str [114,101,97,100]],[.str [112,114,105,110,116]]]) s:=by
 refine az.pure ?_ rfl rfl s
 unfold S0
 refine az.go Gv rfl fun B Q hB hQ=>?_
 have⟨hC,hE,hM,hY⟩:=bC
 repeat' (first
 |simp only[go_sem,hC,hE,hM,hY]
 |(with_reducible refine aB hQ ?_;exact bg))
def Cw (s:aF):Bool:=
 [103,108,111,98,97,108] == s || [112,114,111,99] == s || [118,97,114] == s || [114,101,102] == s || [105,102] == s || [101,108,115,101] == s || [119,104,105,108,101] == s || [98,114,101,97,107] == s || [99,111,110,116,105,110,117,101] == s || [114,101,116,117,114,110] == s || [103,111,116,111] == s || [114,101,97,100] == s || [112,114,105,110,116] == s
theorem QP (s:aF):Cw s=isWord s:=by
 have e : ∀ a:aF,(a==s)=(s==a):=fun a=>BEq.comm
 simp only[Cw,isWord,e]
theorem aaH (text:aF) (s:St):az Tryz.prog xC [.str text] s (.bool (isWord text)) s:=by
 refine az.pure ?_ rfl rfl s
 rw[← QP]
 generalize h:Cw text=p
 unfold Cw at h
 unfold S0
 refine az.go Is rfl fun B Q hB hQ=>?_
 have⟨hC,hE,hM,hY⟩:=bC
 repeat' (first
 |simp only[go_sem,hC,hE,hM,hY,Int.cast_ofNat_Int,dN,Int.reduceAdd,Int.reduceLT,Int.reduceNeg,decide_true,decide_false,Int.reduceToNat]
 |(with_reducible refine CU (aaG _) ?_)
 |(with_reducible refine bd.kv ?_)
 |(with_reducible first|refine aX fun hc=>?_|refine aY fun hc=>?_|refine aZ (fun hc=>?_) fun hc=>?_)<;>(try simp only[hc,bs,↓reduceIte]at h)<;>try simp only[hc]
 |(with_reducible refine aB hQ ?_;(try cases h);simp only[aQ,aR,bn,bo,go_sem,hC,hE,hM,hY,Int.cast_ofNat_Int,dN,Int.reduceAdd,Int.reduceLT,Int.reduceNeg,decide_true,decide_false,Int.reduceToNat];try exact bR))
theorem asK {t:fX} {p:Int×Int} (h:rE t=p):az Tryz.prog uX [.agg (eN t)] S0 (.tuple [.int .i64 p.1, .int .i64 p.2]) S0:=by
 unfold rE at h
 unfold S0
 refine az.go KT rfl fun B Q hB hQ=>?_
 have⟨hC,hE,hM,hY⟩:=bC
 repeat' (first
 |simp only[go_sem,hC,hE,hM,hY]
 |(with_reducible first|refine aX fun hc=>?_|refine aY fun hc=>?_|refine aZ (fun hc=>?_) fun hc=>?_)<;>(try simp only[hc,bs,↓reduceIte]at h)<;>try simp only[hc]
 |(with_reducible refine aB hQ ?_;exact ep))
theorem aaI : ∀ n,n<4611686018427387904→∀ x:Ex,x.size≤n→az Tryz.prog lT [.agg (bI x)] S0 (.int .i64 (x.depth:Int)) S0:=by
 intro n
 induction n with
 |zero=>rintro _ ⟨op,m,name,kids⟩ h;simp only[Ex.size]at h;omega
 |succ n ihn=>
 rintro hn ⟨op,m,name,kids⟩ hx
 have hk : ∀ y∈kids,az Tryz.prog lT [.agg (bI y)] S0 (.int .i64 (y.depth:Int)) S0:=fun y hy=>ihn (by omega) y (by simp only[Ex.size]at hx;have:=Ex.dd hy;omega)
 have hlen:kids.length<4611686018427387904:=by simp only[Ex.size]at hx;have:=Ex.ei kids;omega
 have O0:Ex.gP kids<4611686018427387904:=by have:=Ex.Qj _ _ hx;simp only[Ex.depth]at this;omega
 unfold S0
 refine az.go E2 rfl fun B Q hB hQ=>?_
 have⟨hC,hE,hM,hY⟩:=bC
 repeat' (first
 |simp only[go_sem,hC,hE,hM,hY]
 |(with_reducible first|refine aX fun hc=>?_|refine aY fun hc=>?_|refine aZ (fun hc=>?_) fun hc=>?_)<;>(try simp only[hc,bs,↓reduceIte]at h)<;>try simp only[hc]
 |(with_reducible refine aB hQ ?_;exact bg))
 refine dQ 0 0 (bd.ind (ι:=List Ex×Nat×Nat) (fun i=>kids.drop i.2.1=i.1∧max i.2.2 (Ex.gP i.1)=Ex.gP kids) (fun i=>i.1.length)
  (fun i=> [(3, .int .i64 (i.2.2:Int)),(7, .slice .shared 4 (kids.map bI)),(8, .int .i64 (kids.length:Int)),(9, .int .i64 (i.2.1:Int))]) (fun _=>S0) ?_ (kids,0,0) ⟨rfl,by simp⟩)
 rintro⟨rest,k,acc⟩ ⟨h1,h2⟩ IH
 unfold S0
 cases rest with
 |nil=>
  have hC:=drop_nil h1
  simp only[Ex.gP,Nat.max_zero]at h2
  subst h2
  repeat' (first
 |simp only[go_sem,hC,hE,hM,hY,aL O0,Ex.depth]
 |(with_reducible first|refine aX fun hc=>?_|refine aY fun hc=>?_|refine aZ (fun hc=>?_) fun hc=>?_)<;>(try simp only[hc,bs,↓reduceIte]at h)<;>try simp only[hc]
 |(with_reducible refine aB hQ ?_;simp only[aQ,aR,bn,bo,go_sem,hC,hE,hM,hY,aL O0,Ex.depth];try exact bR))
 |cons y rest=>
  obtain⟨g1,g2,hC,g4⟩:=drop_cons h1
  simp only[Ex.gP]at h2
  have hy:=fun s=>(hk y (List.mem_of_getElem? g1)).pure (by simp[D.bH,D.ok,gT]) rfl s
  dsimp only at g1 g2 hC g4 h2
  repeat' (first
 |simp only[go_sem,hC,hE,hM,hY,g1]
 |(with_reducible refine CU (hy _) ?_)
 |(with_reducible refine aB hQ ?_;exact bg))
  refine eM 0 0 ?_ ?_ (IH (rest,k+1,max acc y.depth) ⟨g2,by dsimp only;omega⟩ (by simp))
  ·(simp only[go_sem,hC,hE,hM,hY,mx,aL (show k<4611686018427387904 by omega)];try exact cb)
  ·(simp only[go_sem,hC,hE,hM,hY,mx,aL (show k<4611686018427387904 by omega)];try exact cb)
theorem aaJ {x:Ex} {d:Int} (h:Kv x=some d) (s:St):az Tryz.prog lT [.agg (bI x)] s (.int .i64 d) s:=by
 unfold Kv at h
 split at h
 ·cases h;exact(aaI x.size ‹_› x (Nat.le_refl _)).pure (by simp[D.bH,D.ok,gT]) rfl s
 ·cases h
theorem asL (t:fX) (s:St):az Tryz.prog uX [.agg (eN t)] s (.tuple [.int .i64 (rE t).1, .int .i64 (rE t).2]) s:=(asK rfl).pure rfl rfl s
theorem ahH {c:Prop} [Decidable c] {α:Type} {P:α→Prop} {a b:α} (ha:P a) (hb:P b):P (if c then a else b):=by
 by_cases h:c
 ·rw[if_pos h];exact ha
 ·rw[if_neg h];exact hb
def OpR (p:Int×Int):Prop:=0≤p.2∧p.2≤6
theorem WB (t:fX):OpR (rE t):=by
 unfold rE
 repeat' with_reducible refine ahH (P:=OpR) ?_ ?_
 all_goals exact⟨by decide,by decide⟩
theorem Nh (t:fX):IntKind.wrap .i64 ((rE t).2+1)=(rE t).2+1:=by
 have:0≤(rE t).2∧(rE t).2≤6:=WB t
 rw[dN]<;>omega
abbrev Ji (m:Nat):Prop:=∀ {r:Rd} {p:Ex×Rd},Rd.one m r=some p→∀ {s:St} {o:Nat},s.ah[o]? = some (cJ r)→az Tryz.prog kE [.ptr o 0] s (.agg (bI p.1)) ⟨s.ah.set o (cJ p.2),s.aw⟩
abbrev Jj (m:Nat):Prop:=∀ {k:Int} {r:Rd} {p:Ex×Rd},Rd.two m k r=some p→∀ {s:St} {o:Nat},s.ah[o]? = some (cJ r)→az Tryz.prog jm [.ptr o 0, .int .i64 k] s (.agg (bI p.1)) ⟨s.ah.set o (cJ p.2),s.aw⟩
theorem WC {m:Nat} (Jk:Ji m) (E9:Jj m):Ji (m+1):=by
 intro r p h s o ho
 refine az.kN ?_ rfl (fJ r) (fJ p.2) (by simp[D.ok,gT]) ho
 unfold Rd.one at h
 refine az.go zK rfl fun B Q hB hQ=>?_
 have⟨hC,hE,hM,hY⟩:=bC
 repeat' (first
 |simp only[go_sem,hC,hE,hM,hY]
 |(rw[Option.bind_eq_some_iff]at h;obtain⟨_,h1,h⟩:=h;first|(with_reducible refine CU (pk h1 (by with_unfolding_all rfl)) ?_;have hC:=sG h1)|(with_reducible refine CU (tK h1 (by with_unfolding_all rfl)) ?_)|(with_reducible refine CU (E9 h1 (by with_unfolding_all rfl)) ?_)|(with_reducible refine CU (qn h1 (by with_unfolding_all rfl)) ?_)|(with_reducible refine CU (Jk h1 (by with_unfolding_all rfl)) ?_)|(with_reducible refine CU (E7 h1 (by with_unfolding_all rfl)) ?_))
 |(with_reducible refine CU (kV (by with_unfolding_all rfl)) ?_)
 |(with_reducible first|refine aX fun hc=>?_|refine aY fun hc=>?_|refine aZ (fun hc=>?_) fun hc=>?_)<;>(try simp only[hc,bs,↓reduceIte]at h)<;>try simp only[hc]
 |(with_reducible refine aB hQ ?_;exact ep))
theorem WD {m:Nat} (Jk:Ji m) (E9 : ∀ j<m,Jj j):Jj (m+1):=by
 intro k r p h s o ho
 refine az.kN ?_ rfl (fJ r) (fJ p.2) (by simp[D.ok,gT]) ho
 unfold Rd.two at h
 refine az.go zJ rfl fun B Q hB hQ=>?_
 have⟨hC,hE,hM,hY⟩:=bC
 repeat' (first
 |simp only[go_sem,hC,hE,hM,hY]
 |(rw[Option.bind_eq_some_iff]at h;obtain⟨_,h1,h⟩:=h;first|(with_reducible refine CU (Jk h1 (by with_unfolding_all rfl)) ?_))
 |(with_reducible refine aB hQ ?_;exact bg))
 refine dQ 3 0 (bd.ind (ι:=Nat×Ex×Rd) (fun i=>Rd.Ky i.1 k i.2.1 i.2.2=some p∧i.1≤m) (fun i=>i.1)
  (fun i=> [(0, .ptr 0 0),(1, .int .i64 k),(4, .ptr 1 0),(5, .ptr 2 0)]) (fun i=>⟨[cJ i.2.2,bI qg,bI i.2.1],[]⟩) ?_ (m,_,_) ⟨h,Nat.le_refl _⟩)
 rintro⟨n,x,r⟩ ⟨h,hn⟩ IH
 cases n with
 |zero=>simp only[Rd.Ky]at h;cases h
 |succ n=>
  have ahI:=@E9 n (by omega)
  simp only[Rd.Ky]at h
  repeat' (first
 |simp only[go_sem,hC,hE,hM,hY,Nh]
 |(rw[Option.bind_eq_some_iff]at h;obtain⟨_,h1,h⟩:=h;first|(with_reducible refine CU (pk h1 (by with_unfolding_all rfl)) ?_;have hC:=sG h1)|(with_reducible refine CU (ahI h1 (by with_unfolding_all rfl)) ?_))
 |(with_reducible refine CU (kV (by with_unfolding_all rfl)) ?_)
 |(with_reducible refine CU (asL _ _) ?_)
 |(with_reducible first|refine aX fun hc=>?_|refine aY fun hc=>?_|refine aZ (fun hc=>?_) fun hc=>?_)<;>(try simp only[hc,bs,↓reduceIte]at h)<;>try simp only[hc]
 |(with_reducible refine aB hQ ?_;(try cases h);simp only[aQ,aR,bn,bo,go_sem,hC,hE,hM,hY,Nh];try exact bR))
  refine dQ 3 0 (IH (n,_,_) ⟨h,by dsimp only at hn ⊢;omega⟩ (Nat.lt_succ_self _))
theorem aaK : ∀ n,∀ m<n,Ji m∧Jj m:=by
 intro n
 induction n with
 |zero=>intro m h;exact absurd h (Nat.not_lt_zero _)
 | succ n ih=>
  intro m h
  cases m with
  |zero=>
   refine⟨?_, ?_⟩
   ·intro r p h;simp only[Rd.one]at h;cases h
   ·intro k r p h;simp only[Rd.two]at h;cases h
  |succ m=>
   have hm:=ih m (by omega)
   exact⟨WC hm.1 hm.2,WD hm.1 fun j hj=>(ih j (by omega)).2⟩
theorem E9 {m:Nat} {k:Int} {r:Rd} {p:Ex×Rd} (h:Rd.two m k r=some p) {s:St} {o:Nat} (ho:s.ah[o]? = some (cJ r)) :
 az Tryz.prog jm [.ptr o 0, .int .i64 k] s (.agg (bI p.1)) ⟨s.ah.set o (cJ p.2),s.aw⟩:=(aaK (m+1) m (Nat.lt_succ_self _)).2 h ho
theorem Cx {n:Nat} {r:Rd} {p:Ex×Rd} (h:Rd.whole n r=some p) {s:St} {o:Nat} (ho:s.ah[o]? = some (cJ r)) :
 az Tryz.prog gv [.ptr o 0] s (.agg (bI p.1)) ⟨s.ah.set o (cJ p.2),s.aw⟩:=by
 refine az.kN ?_ rfl (fJ r) (fJ p.2) (by simp[D.ok,gT]) ho
 unfold Rd.whole at h
 refine az.go xL rfl fun B Q hB hQ=>?_
 have⟨hC,hE,hM,hY⟩:=bC
 repeat' (first
 |simp only[go_sem,hC,hE,hM,hY]
 |(rw[Option.bind_eq_some_iff]at h;obtain⟨_,h1,h⟩:=h;first|(with_reducible refine CU (pk h1 (by with_unfolding_all rfl)) ?_)|(with_reducible refine CU (aaJ h1 _) ?_)|(with_reducible refine CU (E9 h1 (by with_unfolding_all rfl)) ?_))
 |(with_reducible refine CU (kV (by with_unfolding_all rfl)) ?_)
 |(with_reducible first|refine aX fun hc=>?_|refine aY fun hc=>?_|refine aZ (fun hc=>?_) fun hc=>?_)<;>(try simp only[hc,bs,↓reduceIte]at h)<;>try simp only[hc]
 |(with_reducible refine aB hQ ?_;exact ep))
@[go_sem] def az3 (z:D) (r:Rd):List D:= [.slice .shared 4 (r.l.map eN), .int .i64 r.i, .int .i64 r.code, .int .i64 r.Kw,z]
class Cell (z:D):Prop where
 ok:D.ok 0 0 z=true
 fg : ∀ n m,D.fg n m z=z
instance (n:Int):Cell (.int .i64 n):=⟨rfl,fun _ _=>rfl⟩
instance:Cell .junk:=⟨rfl,fun _ _=>rfl⟩
theorem aaL (z:D) [h:Cell z] (n m:Nat):D.fg n m z=z:=h.fg n m
attribute [go_sem] aaL
def Rd.isO (text:aF) (r:Rd):Option Bool:=if r.good then r.is text else some false
end Go.Abs
namespace Go.Abs
open Go.Proofs
def aek (s:aF):Int×Int:=
 if [42] == s then(6,5)else if [47] == s then(6,6)else if [37] == s then(6,7)else if [43] == s then(5,8)else if [45] == s then(5,9)
 else if [60] == s then(4,10)else if [60,61] == s then(4,11)else if [62] == s then(4,12)else if [62,61] == s then(4,13)
 else if [61,61] == s then(3,14)else if [33,61] == s then(3,15)else if [38,38] == s then(2,16)else if [124,124] == s then(1,17)else(0,0)
def BZ (p:Int×Int):Prop:=(p.2==0)=(p.1==0)
set_option maxRecDepth 8000
open Go.Proofs
theorem ael : ∀ (gG:Nat),gG<1000000→∀ x:Ex,x.size<4611686018427387904→∀ s:St,az Tryz.prog ql [.agg (bI x), .int .i64 (gG:Int)] s (.int .i64 ((min x.depth (gG+1):Nat):Int)) s:=by
 intro gG
 induction gG with
 |zero=>
  rintro _ ⟨op,m,name,kids⟩ hx s
  refine az.pure ?_ (by simp[D.bH,D.ok,gT]) rfl s
  have hz:((0:Int)==0)=true:=rfl
  have e:min (Ex.depth ⟨op,m,name,kids⟩) (0+1)=1:=by simp only[Ex.depth];omega
  rw[e]
  unfold S0
  refine az.go Az rfl fun B Q hB hQ=>?_
  have⟨hC,hE,hM,hY⟩:=bC
  repeat' (first
 |simp only[go_sem,hC,hE,hM,hY,hz]
 |(with_reducible refine aB hQ ?_;exact bg))
 | succ gG ih=>
  rintro az4 ⟨op,m,name,kids⟩ hx s
  refine az.pure ?_ (by simp[D.bH,D.ok,gT]) rfl s
  have hlen:kids.length<4611686018427387904:=by simp only[Ex.size]at hx;have:=Ex.ei kids;omega
  have hk : ∀ y∈kids,∀ s,az Tryz.prog ql [.agg (bI y), .int .i64 (gG:Int)] s (.int .i64 ((min y.depth (gG+1):Nat):Int)) s:=fun y hy s=>
   ih (by omega) y (by simp only[Ex.size]at hx;have:=Ex.dd hy;omega) s
  have hz:(((gG+1:Nat):Int)==0)=false:=by simp;omega
  have w1:IntKind.wrap .i64 (((gG+1:Nat):Int) - 1)=(gG:Int):=by rw[dN]<;>omega
  unfold S0
  refine az.go Az rfl fun B Q hB hQ=>?_
  have⟨hC,hE,hM,hY⟩:=bC
  repeat' (first
 |simp only[go_sem,hC,hE,hM,hY,hz]
 | (with_reducible refine aB hQ ?_;exact bg))
  refine dQ 1 0 (bd.ind (ι:=List Ex×Nat×Nat) (fun i=>kids.drop i.2.1=i.1∧i.2.2≤gG+1∧min (max i.2.2 (Ex.gP i.1)) (gG+1)=min (Ex.gP kids) (gG+1)) (fun i=>i.1.length)
   (fun i=> [(1, .int .i64 ((gG+1:Nat):Int)),(2, .ptr 0 0),(5, .int .i64 (i.2.2:Int)),(6, .int .i64 (i.2.1:Int))]) (fun i=>⟨[bI ⟨op,m,name,kids⟩],[]⟩) ?_ (kids,0,0) ⟨rfl,Nat.zero_le _,by simp⟩)
  rintro⟨rest,k,d⟩ ⟨h1,h2,h3⟩ IH
  dsimp only at h1 h2 h3
  have hd:min (Ex.depth ⟨op,m,name,kids⟩) (gG+1+1)=min (Ex.gP kids) (gG+1)+1:=by simp only[Ex.depth];omega
  rw[hd, ← h3]at hQ
  have w2:IntKind.wrap .i64 ((d:Int)+1)=((d+1:Nat):Int):=by rw[dN]<;>omega
  by_cases aAw:d<gG+1
  ·have c2:decide ((d:Int)<((gG+1:Nat):Int))=true:=by simp;omega
   cases rest with
   |nil=>
    have hC:=drop_nil h1
    simp only[Ex.gP,Nat.max_zero]at hQ
    have e:min d (gG+1)=d:=by omega
    rw[e]at hQ
    repeat' (first
 |simp only[go_sem,hC,hE,hM,hY,c2,w2]
 | (with_reducible refine aB hQ ?_;exact bg))
   | cons y rest=>
    obtain⟨hE,g2,hC,g4⟩:=drop_cons h1
    have hy:=hk y (List.mem_of_getElem? hE)
    simp only[Ex.gP]at h3
    have cm:k<4611686018427387904:=by omega
    by_cases od:min y.depth (gG+1) > d
    ·have c3:decide (((min y.depth (gG+1):Nat):Int) > (d:Int))=true:=by simp only [decide_eq_true_eq];omega
     repeat' (first
 |simp only[go_sem,hC,hE,hM,hY,c2,w1,c3]
 |(with_reducible refine CU (hy _) ?_)
 | (with_reducible refine aB hQ ?_;exact bg))
     refine eM 1 0 ?_ ?_ (IH (rest,k+1,min y.depth (gG+1)) ⟨g2,by dsimp only;omega,by dsimp only;omega⟩ (Nat.lt_succ_self _))
     ·(simp only[go_sem,hC,hE,hM,hY,aL cm];try exact cb)
     ·(simp only[go_sem,hC,hE,hM,hY,aL cm];try exact cb)
    ·have c3:decide (((min y.depth (gG+1):Nat):Int) > (d:Int))=false:=by simp only [decide_eq_false_iff_not];omega
     repeat' (first
 |simp only[go_sem,hC,hE,hM,hY,c2,w1,c3]
 |(with_reducible refine CU (hy _) ?_)
 | (with_reducible refine aB hQ ?_;exact bg))
     refine eM 1 0 ?_ ?_ (IH (rest,k+1,d) ⟨g2,h2,by dsimp only;omega⟩ (Nat.lt_succ_self _))
     ·(simp only[go_sem,hC,hE,hM,hY,aL cm];try exact cb)
     ·(simp only[go_sem,hC,hE,hM,hY,aL cm];try exact cb)
  ·have c2:decide ((d:Int)<((gG+1:Nat):Int))=false:=by simp;omega
   have e:min (max d (Ex.gP rest)) (gG+1)=d:=by omega
   rw[e]at hQ
   cases rest with
   |nil=>
    have hC:=drop_nil h1
    repeat' (first
 |simp only[go_sem,hC,hE,hM,hY,c2,w2]
 | (with_reducible refine aB hQ ?_;exact bg))
   |cons y rest=>
    obtain⟨hE,g2,hC,g4⟩:=drop_cons h1
    repeat' (first
 |simp only[go_sem,hC,hE,hM,hY,c2,w2]
 |(with_reducible refine aB hQ ?_;exact bg))
theorem yO (text:aF) (hl:text.length<4611686018427387904) (s:St):az Tryz.prog lh [.str text] s (.bool (isName text)) s:=by
 refine az.pure ?_ rfl rfl s
 unfold S0
 cases text with
 |nil=>
  have e:(([] : aF) == [])=true:=rfl
  refine az.go Ay rfl fun B Q hB hQ=>?_
  have⟨hC,hE,hM,hY⟩:=bC
  repeat' (first
 |simp only[go_sem,hC,hE,hM,hY,e,isName]
 |(with_reducible first|refine aX fun hc=>?_|refine aY fun hc=>?_|refine aZ (fun hc=>?_) fun hc=>?_)<;>(try simp only[hc,bs,↓reduceIte]at h)<;>try simp only[hc]
 |(with_reducible refine aB hQ ?_;simp only[aQ,aR,bn,bo,go_sem,hC,hE,hM,hY,e,isName];try exact bR))
 |cons c r=>
  have e:((c::r) == [])=false:=rfl
  generalize h:isName (c::r)=p
  simp only[isName]at h
  refine az.go Ay rfl fun B Q hB hQ=>?_
  have⟨hC,hE,hM,hY⟩:=bC
  repeat' (first
 |simp only[go_sem,hC,hE,hM,hY,e]
 |(with_reducible refine CU (KY _ _) ?_)
 |(with_reducible first|refine aX fun hc=>?_|refine aY fun hc=>?_|refine aZ (fun hc=>?_) fun hc=>?_)<;>(try simp only[hc,bs,↓reduceIte]at h)<;>try simp only[hc]
 | (with_reducible refine aB hQ ?_;(try cases h);simp only [aQ,aR,bn,bo,go_sem,hC,hE,hM,hY,e];try exact bR))
  refine dQ 0 0 (bd.ind (ι:=aF×Nat) (fun i=>(c::r).drop i.2=i.1∧(if uZ i.1 then !(isWord (c::r))else false)=p) (fun i=>i.1.length)
   (fun i=> [(0, .str (c::r)),(3, .int .i64 (i.2:Int))]) (fun i=>⟨[],[]⟩) ?_ (r,1) ⟨rfl,h⟩)
  rintro⟨rest,k⟩ ⟨h1,h⟩ IH
  dsimp only at h1 h
  cases rest with
  |nil=>
   have hC:=drop_nil h1
   simp only[List.length_cons]at hC
   simp only[uZ,↓reduceIte]at h
   repeat' (first
 |simp only[go_sem,hC,hE,hM,hY]
 |(with_reducible refine CU (aaH _ _) ?_)
 |(with_reducible first|refine aX fun hc=>?_|refine aY fun hc=>?_|refine aZ (fun hc=>?_) fun hc=>?_)<;>(try simp only[hc,bs,↓reduceIte]at h)<;>try simp only[hc]
 | (with_reducible refine aB hQ ?_;exact ep))
  |cons d rest=>
   obtain⟨hE,g2,hC,g4⟩:=drop_cons h1
   simp only[List.length_cons]at hC
   have hM:k<4611686018427387904:=by omega
   simp only[uZ]at h
   repeat' (first
 |simp only[go_sem,hC,hE,hM,hY]
 |(with_reducible refine CU (KY _ _) ?_)
 |(with_reducible refine CU (WA _ _) ?_)
 |(with_reducible first|refine aX fun hc=>?_|refine aY fun hc=>?_|refine aZ (fun hc=>?_) fun hc=>?_)<;>(try simp only[hc,bs,↓reduceIte]at h)<;>try simp only[hc]
 |(with_reducible refine aB hQ ?_;(try cases h);simp only[aQ,aR,bn,bo,go_sem,hC,hE,hM,hY];repeat' (first|exact Ok.out|with_reducible refine eL ?_ ?_|(simp;done)))
 | (cases h;done))
   all_goals
    refine dQ 0 0 (IH (rest,k+1) ⟨g2,h⟩ (Nat.lt_succ_self _))
theorem aaM (op:Int) (s:St):az Tryz.prog vB [.int .i64 op] s (.int .i64 (lG op)) s:=by
 refine az.pure ?_ rfl rfl s
 unfold S0
 generalize h:lG op=p
 unfold lG at h
 refine az.go Gw rfl fun B Q hB hQ=>?_
 have⟨hC,hE,hM,hY⟩:=bC
 repeat' (first
 |simp only[go_sem,hC,hE,hM,hY]
 |(with_reducible first|refine aX fun hc=>?_|refine aY fun hc=>?_|refine aZ (fun hc=>?_) fun hc=>?_)<;>(try simp only[hc,bs,↓reduceIte]at h)<;>try simp only[hc]
 |(with_reducible refine aB hQ ?_;exact ep))
theorem WE {l:List aF} (hl:l.length<4611686018427387904) (hs : ∀ t∈l,t.length<4611686018427387904) (s:St):az Tryz.prog vH [.slice .shared 1 (l.map encStr)] s (.bool (eo l)) s:=by
 refine az.pure ?_ (by simp[D.bH,D.ok,eB,Tag.ok]) rfl s
 unfold S0
 generalize h:eo l=p
 refine az.go Gs rfl fun B Q hB hQ=>?_
 have⟨hC,hE,hM,hY⟩:=bC
 repeat' (first
 |simp only[go_sem,hC,hE,hM,hY]
 |(with_reducible first|refine aX fun hc=>?_|refine aY fun hc=>?_|refine aZ (fun hc=>?_) fun hc=>?_)<;>(try simp only[hc,bs,↓reduceIte]at h)<;>try simp only[hc]
 |(with_reducible refine aB hQ ?_;exact ep))
 refine dQ 0 0 (bd.ind (ι:=List aF×Nat) (fun i=>l.drop i.2=i.1∧eo i.1=p) (fun i=>i.1.length)
  (fun i=> [(5, .slice .shared 1 (l.map encStr)),(6, .int .i64 (l.length:Int)),(7, .int .i64 (i.2:Int))]) (fun i=>⟨[],[]⟩) ?_ (l,0) ⟨rfl,h⟩)
 rintro⟨rest,k⟩ ⟨h1,h⟩ IH
 dsimp only at h1 h
 cases rest with
 |nil=>
  have hC:=drop_nil h1
  simp only[eo]at h
  repeat' (first
 |simp only[go_sem,hC,hE,hM,hY]
 |(with_reducible first|refine aX fun hc=>?_|refine aY fun hc=>?_|refine aZ (fun hc=>?_) fun hc=>?_)<;>(try simp only[hc,bs,↓reduceIte]at h)<;>try simp only[hc]
 |(with_reducible refine aB hQ ?_;exact ep))
 |cons t rest=>
  obtain⟨hE,g2,hC,g4⟩:=drop_cons h1
  have hM:k<4611686018427387904:=by omega
  have hn:=yO t (hs t (List.mem_of_getElem? hE))
  simp only[eo]at h
  repeat' (first
 |simp only[go_sem,hC,hE,hM,hY]
 |(with_reducible refine CU (hn _) ?_)
 |(with_reducible first|refine aX fun hc=>?_|refine aY fun hc=>?_|refine aZ (fun hc=>?_) fun hc=>?_)<;>(try simp only[hc,bs,↓reduceIte]at h)<;>try simp only[hc]
 |(with_reducible refine aB hQ ?_;exact ep))
  refine dQ 0 0 (IH (rest,k+1) ⟨g2,h⟩ (Nat.lt_succ_self _))
theorem aem : ∀ (n:Nat) (x:Ex),x.size≤n→x.size<4611686018427387904→x.texts→∀ s:St,az Tryz.prog qm [.agg (bI x)] s (.bool x.form) s:=by
 intro n
 induction n with
 |zero=>rintro⟨op,m,name,kids⟩ h;simp only[Ex.size]at h;omega
 | succ n ih=>
  rintro⟨op,m,name,kids⟩ h hx ht s
  refine az.pure ?_ (by simp[D.bH,D.ok,gT]) rfl s
  have hlen:kids.length<4611686018427387904:=by simp only[Ex.size]at hx;have:=Ex.ei kids;omega
  have hk : ∀ y∈kids,∀ s,az Tryz.prog qm [.agg (bI y)] s (.bool y.form) s:=fun y hy s=>
   ih y (by simp only[Ex.size]at h;have:=Ex.dd hy;omega) (by simp only[Ex.size]at hx;have:=Ex.dd hy;omega) (Ex.Hs ht hy) s
  have hn:=yO name ht.1
  unfold S0
  generalize h:Ex.form ⟨op,m,name,kids⟩=p
  simp only[Ex.form]at h
  refine az.go Iv rfl fun B Q hB hQ=>?_
  have⟨hC,hE,hM,hY⟩:=bC
  repeat' (first
 |simp only[go_sem,hC,hE,hM,hY]
 |(with_reducible refine CU (aaM _ _) ?_)
 |(with_reducible refine CU (hn _) ?_)
 |(with_reducible first|refine aX fun hc=>?_|refine aY fun hc=>?_|refine aZ (fun hc=>?_) fun hc=>?_)<;>(try simp only[hc,bs,↓reduceIte]at h)<;>try simp only[hc]
 | (with_reducible refine aB hQ ?_;(try cases h);simp only [aQ,aR,bn,bo,go_sem,hC,hE,hM,hY];repeat' (first | exact Ok.out | with_reducible refine eL ?_ ?_ | (simp;done))))
  all_goals
   refine dQ 1 0 (bd.ind (ι:=List Ex×Nat) (fun i=>kids.drop i.2=i.1∧Ex.pG i.1=p) (fun i=>i.1.length)
    (fun i=> [(1, .ptr 0 0),(48, .int .i64 (kids.length:Int)),(49, .int .i64 (i.2:Int))]) (fun i=>⟨[bI ⟨op,m,name,kids⟩],[]⟩) ?_ (kids,0) ⟨rfl,h⟩)
   rintro⟨rest,k⟩ ⟨h1,h⟩ IH
   dsimp only at h1 h
   cases rest with
   |nil=>
    have hC:=drop_nil h1
    simp only[Ex.pG]at h
    repeat' (first
 |simp only[go_sem,hC,hE,hM,hY]
 |(with_reducible first|refine aX fun hc=>?_|refine aY fun hc=>?_|refine aZ (fun hc=>?_) fun hc=>?_)<;>(try simp only[hc,bs,↓reduceIte]at h)<;>try simp only[hc]
 |(with_reducible refine aB hQ ?_;exact ep)
 | (cases h;done))
   |cons y rest=>
    obtain⟨hE,g2,hC,g4⟩:=drop_cons h1
    have hy:=hk y (List.mem_of_getElem? hE)
    have hM:k<4611686018427387904:=by omega
    simp only[Ex.pG]at h
    repeat' (first
 |simp only[go_sem,hC,hE,hM,hY]
 |(with_reducible refine CU (hy _) ?_)
 |(with_reducible first|refine aX fun hc=>?_|refine aY fun hc=>?_|refine aZ (fun hc=>?_) fun hc=>?_)<;>(try simp only[hc,bs,↓reduceIte]at h)<;>try simp only[hc]
 | (with_reducible refine aB hQ ?_;exact ep))
    refine dQ 1 0 (IH (rest,k+1) ⟨g2,h⟩ (Nat.lt_succ_self _))
theorem Hu {x:Ex} (hx:x.size<4611686018427387904) (ht:x.texts) (s:St):az Tryz.prog pE [.agg (bI x)] s (.bool x.may) s:=by
 refine az.pure ?_ (by simp[D.bH,D.ok,gT]) rfl s
 have hd:=fun s=>ael 20 (by decide) x hx s
 have c20:((20:Nat):Int)=20:=rfl
 rw[c20]at hd
 have hf:=aem _ x (Nat.le_refl _) hx ht
 unfold S0
 generalize h:Ex.may x=p
 unfold Ex.may at h
 refine az.go D5 rfl fun B Q hB hQ=>?_
 have⟨hC,hE,hM,hY⟩:=bC
 repeat' (first
 |simp only[go_sem,hC,hE,hM,hY]
 |(with_reducible refine CU (hd _) ?_)
 |(with_reducible refine CU (hf _) ?_)
 |(with_reducible first|refine aX fun hc=>?_|refine aY fun hc=>?_|refine aZ (fun hc=>?_) fun hc=>?_)<;>(try simp only[hc,bs,↓reduceIte]at h)<;>try simp only[hc]
 |(with_reducible refine aB hQ ?_;exact ep))
theorem Tt (x:Ex) (s:St):az Tryz.prog s6 [.agg (bI x)] s (.bool x.none) s:=by
 refine az.pure ?_ (by simp[D.bH,D.ok,gT]) rfl s
 unfold S0
 generalize h:Ex.none x=p
 unfold Ex.none at h
 refine az.go Iu rfl fun B Q hB hQ=>?_
 have⟨hC,hE,hM,hY⟩:=bC
 repeat' (first
 |simp only[go_sem,hC,hE,hM,hY]
 |(with_reducible first|refine aX fun hc=>?_|refine aY fun hc=>?_|refine aZ (fun hc=>?_) fun hc=>?_)<;>(try simp only[hc,bs,↓reduceIte]at h)<;>try simp only[hc]
 |(with_reducible refine aB hQ ?_;exact ep))
theorem ahJ {a:Ar} (hx:a.x.size<4611686018427387904) (ht:a.x.texts) (hn:a.name.length<4611686018427387904) (s:St):az Tryz.prog zB [.agg (eC a)] s (.bool a.may) s:=by
 refine az.pure ?_ (by simp[D.bH,D.ok,Kt]) rfl s
 have hm:=Hu hx ht
 have h1:=yO a.name hn
 unfold S0
 generalize h:Ar.may a=p
 simp only[Ar.may]at h
 refine az.go KS rfl fun B Q hB hQ=>?_
 have⟨hC,hE,hM,hY⟩:=bC
 repeat' (first
 |simp only[go_sem,hC,hE,hM,hY]
 |(with_reducible refine CU (hm _) ?_)
 |(with_reducible refine CU (h1 _) ?_)
 |(with_reducible refine CU (Tt _ _) ?_)
 |(with_reducible first|refine aX fun hc=>?_|refine aY fun hc=>?_|refine aZ (fun hc=>?_) fun hc=>?_)<;>(try simp only[hc,bs,↓reduceIte]at h)<;>try simp only[hc]
 |(with_reducible refine aB hQ ?_;exact ep))
structure Sm.nq (s:Sm):Prop where
 Tv : ∀ t∈s.labels,t.length<4611686018427387904
 aen:s.labels.length<4611686018427387904
 name:s.name.length<4611686018427387904
 proc:s.proc.length<4611686018427387904
 x:s.x.size<4611686018427387904
 xt:s.x.texts
 aeo:s.args.length<4611686018427387904
 arg : ∀ a∈s.args,a.x.size<4611686018427387904∧a.x.texts∧a.name.length<4611686018427387904
section
variable {v:Sm} {B:e7} {Q:Exit→Tm→St→Prop} {p:Bool}
theorem ahK (hf:v.nq) (hB:B.s = ⟨[],[]⟩) (hQ:iz 0 0 [(2,none)] (.bool p) ⟨[],[]⟩=Q)
 (h:(if !(Ar.fl v.args)then false else((v.bm.length:Int)==0 ||v.kind==5 ||v.kind==6) && ((v.bc.length:Int)==0 ||v.kind==5))=p) :
 Sem Tryz.prog B 178 ad3 Q [(1, .ptr 0 0)] ⟨[a8 v],[]⟩:=by
 have az5:=hf.aeo
 have WG:=fun a ha s=>ahJ (hf.arg a ha).1 (hf.arg a ha).2.1 (hf.arg a ha).2.2 s
 have⟨hC,hE,hM,hY⟩:=bC
 refine gE ?_
 repeat' (first
 |simp only[go_sem,hC,hE,hM,hY]
 |(with_reducible refine aB hQ ?_;exact bg))
 refine dQ 1 0 (bd.ind (ι:=List Ar×Nat) (fun i=>v.args.drop i.2=i.1∧(if !(Ar.fl i.1)then false else((v.bm.length:Int)==0 ||v.kind==5 ||v.kind==6) && ((v.bc.length:Int)==0 ||v.kind==5))=p) (fun i=>i.1.length)
  (fun i=> [(1, .ptr 0 0),(143, .slice .shared 6 (v.args.map eC)),(144, .int .i64 (v.args.length:Int)),(145, .int .i64 (i.2:Int))]) (fun i=>⟨[a8 v],[]⟩) ?_ (v.args,0) ⟨rfl,h⟩)
 rintro⟨rest,k⟩ ⟨h1,h⟩ IH
 dsimp only at h1 h
 cases rest with
 |nil=>
  have hC:=drop_nil h1
  simp only[Ar.fl,Bool.not_true,Bool.false_eq_true,↓reduceIte]at h
  repeat' (first
 |simp only[go_sem,hC,hE,hM,hY]
 |(with_reducible first|refine aX fun hc=>?_|refine aY fun hc=>?_|refine aZ (fun hc=>?_) fun hc=>?_)<;>(try simp only[hc,bs,↓reduceIte]at h)<;>try simp only[hc]
 | (with_reducible refine aB hQ ?_;(try cases h);simp only [aQ,aR,bn,bo,go_sem,hC,hE,hM,hY];repeat' (first | exact Ok.out | with_reducible refine eL ?_ ?_ | (simp;done))))
  all_goals
   simp only[*]
   exact Ok.out
 |cons a rest=>
  obtain⟨hE,g2,hC,g4⟩:=drop_cons h1
  have ha:=WG a (List.mem_of_getElem? hE)
  have hM:k<4611686018427387904:=by omega
  simp only[Ar.fl]at h
  repeat' (first
 |simp only[go_sem,hC,hE,hM,hY]
 |(with_reducible refine CU (ha _) ?_)
 |(with_reducible first|refine aX fun hc=>?_|refine aY fun hc=>?_|refine aZ (fun hc=>?_) fun hc=>?_)<;>(try simp only[hc,bs,↓reduceIte]at h)<;>try simp only[hc]
 |(with_reducible refine aB hQ ?_;exact ep))
  refine dQ 1 0 (IH (rest,k+1) ⟨g2,h⟩ (Nat.lt_succ_self _))
theorem ahL {cl:Bool} (hf:v.nq) (hB:B.s = ⟨[],[]⟩) (hQ:iz 0 0 [(2,none)] (.bool p) ⟨[],[]⟩=Q)
 (h:(if !(cl == !(v.proc == [])) || (cl && !(isName v.proc)) || (!cl && decide ((v.args.length:Int) > 0))then false
  else if !(Ar.fl v.args)then false else((v.bm.length:Int)==0 ||v.kind==5 ||v.kind==6) && ((v.bc.length:Int)==0 ||v.kind==5))=p) :
 Sem Tryz.prog B 178 ad4 Q [(1, .ptr 0 0),(5, .bool cl)] ⟨[a8 v],[]⟩:=by
 have QQ:=yO v.proc hf.proc
 have⟨hC,hE,hM,hY⟩:=bC
 refine Sem.iN ?_
 repeat' (first
 |simp only[go_sem,hC,hE,hM,hY]
 |(with_reducible refine CU (QQ _) ?_)
 |(with_reducible first|refine aX fun hc=>?_|refine aY fun hc=>?_|refine aZ (fun hc=>?_) fun hc=>?_)<;>(try simp only[hc,bs,↓reduceIte]at h)<;>try simp only[hc]
 |(with_reducible refine aB hQ ?_;(try cases h);simp only[aQ,aR,bn,bo,go_sem,hC,hE,hM,hY];repeat' (first|exact Ok.out|with_reducible refine eL ?_ ?_|(simp;done))))
 all_goals
  refine Sem.re _ _ 1 0 (by rw[hB];exact mH rfl) (by rw[hB];exact mH rfl) ?_ ?_ (ahK hf hB hQ h)
  ·(simp only[go_sem,hC,hE,hM,hY];repeat' (first|exact Ok.out|with_reducible refine eL ?_ ?_))
  ·(simp only[go_sem,hC,hE,hM,hY];repeat' (first|exact Ok.out|with_reducible refine eL ?_ ?_))
theorem ahM {hn cl:Bool} (hf:v.nq) (hB:B.s = ⟨[],[]⟩) (hQ:iz 0 0 [(2,none)] (.bool p) ⟨[],[]⟩=Q)
 (h:(if(hn && !(isName v.name)) || (!hn && !(v.name == []) && !(cl && isName v.name))then false
  else if !(cl == !(v.proc == [])) ||(cl && !(isName v.proc)) ||(!cl && decide ((v.args.length:Int) > 0))then false
  else if !(Ar.fl v.args)then false else((v.bm.length:Int)==0 ||v.kind==5 ||v.kind==6) && ((v.bc.length:Int)==0 ||v.kind==5))=p) :
 Sem Tryz.prog B 178 ad5 Q [(1, .ptr 0 0),(4, .bool hn),(5, .bool cl)] ⟨[a8 v],[]⟩:=by
 have Ol:=yO v.name hf.name
 have⟨hC,hE,hM,hY⟩:=bC
 have k:=@ahL v B Q p cl hf hB hQ
 cases cl
 all_goals
  refine Sem.iN ?_
  repeat' (first
 |simp only[go_sem,hC,hE,hM,hY]
 |(with_reducible refine CU (Ol _) ?_)
 |(with_reducible first|refine aX fun hc=>?_|refine aY fun hc=>?_|refine aZ (fun hc=>?_) fun hc=>?_)<;>(try simp only[hc,bs,↓reduceIte]at h)<;>try simp only[hc]
 |(with_reducible refine aB hQ ?_;(try cases h);simp only[aQ,aR,bn,bo,go_sem,hC,hE,hM,hY];repeat' (first|exact Ok.out|with_reducible refine eL ?_ ?_|(simp;done))))
 all_goals
  refine Sem.re _ _ 1 0 (by rw[hB];exact mH rfl) (by rw[hB];exact mH rfl) ?_ ?_ (k (by simpa only[bs,↓reduceIte]using h))
  ·(simp only[go_sem,hC,hE,hM,hY];repeat' (first|exact Ok.out|with_reducible refine eL ?_ ?_))
  ·(simp only[go_sem,hC,hE,hM,hY];repeat' (first|exact Ok.out|with_reducible refine eL ?_ ?_))
theorem ahN {hx hn cl:Bool} (hf:v.nq) (hB:B.s = ⟨[],[]⟩) (hQ:iz 0 0 [(2,none)] (.bool p) ⟨[],[]⟩=Q)
 (h:(if decide (v.kind<1) || decide (v.kind > 10) || !(eo v.labels) || (hx && !(v.x.may)) || (!hx && !(v.x.none)) || (v.has && v.kind != 9)then false
  else if(hn && !(isName v.name)) ||(!hn && !(v.name == []) && !(cl && isName v.name))then false
  else if !(cl == !(v.proc == [])) ||(cl && !(isName v.proc)) ||(!cl && decide ((v.args.length:Int) > 0))then false
  else if !(Ar.fl v.args)then false else((v.bm.length:Int)==0 ||v.kind==5 ||v.kind==6) && ((v.bc.length:Int)==0 ||v.kind==5))=p) :
 Sem Tryz.prog B 178 ad6 Q [(1, .ptr 0 0),(3, .bool hx),(4, .bool hn),(5, .bool cl)] ⟨[a8 v],[]⟩:=by
 have hns:=fun s=>WE hf.aen hf.Tv s
 have hm:=Hu hf.x hf.xt
 have⟨hC,hE,hM,hY⟩:=bC
 refine Sem.iN ?_
 repeat' (first
 |simp only[go_sem,hC,hE,hM,hY]
 |(with_reducible refine CU (hns _) ?_)
 |(with_reducible refine CU (hm _) ?_)
 |(with_reducible refine CU (Tt _ _) ?_)
 |(with_reducible first|refine aX fun hc=>?_|refine aY fun hc=>?_|refine aZ (fun hc=>?_) fun hc=>?_)<;>(try simp only[hc,bs,↓reduceIte]at h)<;>try simp only[hc]
 |(with_reducible refine aB hQ ?_;(try cases h);simp only[aQ,aR,bn,bo,go_sem,hC,hE,hM,hY];repeat' (first|exact Ok.out|with_reducible refine eL ?_ ?_|(simp;done))))
 all_goals
  refine Sem.re _ _ 1 0 (by rw[hB];exact mH rfl) (by rw[hB];exact mH rfl) ?_ ?_ (ahM hf hB hQ h)
  ·(simp only[go_sem,hC,hE,hM,hY];repeat' (first|exact Ok.out|with_reducible refine eL ?_ ?_))
  ·(simp only[go_sem,hC,hE,hM,hY];repeat' (first|exact Ok.out|with_reducible refine eL ?_ ?_))
theorem ahO {hx hn:Bool} (hf:v.nq) (hB:B.s = ⟨[],[]⟩) (hQ:iz 0 0 [(2,none)] (.bool p) ⟨[],[]⟩=Q) (ex:v.BK=hx) (en:v.hasName=hn) (h:v.one=p) :
 Sem Tryz.prog B 178 ad7 Q [(1, .ptr 0 0),(3, .bool hx),(4, .bool hn)] ⟨[a8 v],[]⟩:=by
 unfold Sm.one at h
 rw[ex,en]at h
 have⟨hC,hE,hM,hY⟩:=bC
 refine Sem.iN ?_
 repeat' (first
 |simp only[go_sem,hC,hE,hM,hY]
 |(with_reducible refine aB hQ ?_;exact bg))
 refine Sem.re _ _ 1 0 (by rw[hB];exact mH rfl) (by rw[hB];exact mH rfl) ?_ ?_ (ahN hf hB hQ h)
 ·(simp only[go_sem,hC,hE,hM,hY,Sm.tJ];repeat' (first|exact Ok.out|with_reducible refine eL ?_ ?_))
 ·(simp only[go_sem,hC,hE,hM,hY,Sm.tJ];repeat' (first|exact Ok.out|with_reducible refine eL ?_ ?_))
theorem ahP {hx:Bool} (hf:v.nq) (hB:B.s = ⟨[],[]⟩) (hQ:iz 0 0 [(2,none)] (.bool p) ⟨[],[]⟩=Q) (ex:v.BK=hx) (hp:v.one=p) :
 Sem Tryz.prog B 178 ad8 Q [(1, .ptr 0 0),(3, .bool hx)] ⟨[a8 v],[]⟩:=by
 generalize h:v.hasName=hn
 have hn:=h
 unfold Sm.hasName at h
 have⟨hC,hE,hM,hY⟩:=bC
 refine Sem.iN ?_
 repeat' (first
 |simp only[go_sem,hC,hE,hM,hY]
 |(with_reducible first|refine aX fun hc=>?_|refine aY fun hc=>?_|refine aZ (fun hc=>?_) fun hc=>?_)<;>(try simp only[hc,bs,↓reduceIte]at h)<;>try simp only[hc]
 |(with_reducible refine aB hQ ?_;simp only[aQ,aR,bn,bo,go_sem,hC,hE,hM,hY];repeat' (first|exact Ok.out|with_reducible refine eL ?_ ?_|(simp;done))))
 all_goals
  refine Sem.re _ _ 1 0 (by rw[hB];exact mH rfl) (by rw[hB];exact mH rfl) ?_ ?_ (ahO hf hB hQ ex hn hp)
  ·(simp only[go_sem,hC,hE,hM,hY,h];repeat' (first|exact Ok.out|with_reducible refine eL ?_ ?_))
  ·(simp only[go_sem,hC,hE,hM,hY,h];repeat' (first|exact Ok.out|with_reducible refine eL ?_ ?_))
theorem ahQ (hf:v.nq) (hB:B.s = ⟨[],[]⟩) (hQ:iz 0 0 [(2,none)] (.bool p) ⟨[],[]⟩=Q) (hp:v.one=p) :
 Sem Tryz.prog B 178 ad9 Q [(1, .ptr 0 0)] ⟨[a8 v],[]⟩:=by
 generalize h:v.BK=hx
 have ex:=h
 unfold Sm.BK at h
 have⟨hC,hE,hM,hY⟩:=bC
 refine Sem.iN ?_
 repeat' (first
 |simp only[go_sem,hC,hE,hM,hY]
 |(with_reducible first|refine aX fun hc=>?_|refine aY fun hc=>?_|refine aZ (fun hc=>?_) fun hc=>?_)<;>(try simp only[hc,bs,↓reduceIte]at h)<;>try simp only[hc]
 |(with_reducible refine aB hQ ?_;simp only[aQ,aR,bn,bo,go_sem,hC,hE,hM,hY];repeat' (first|exact Ok.out|with_reducible refine eL ?_ ?_|(simp;done))))
 all_goals
  refine Sem.re _ _ 1 0 (by rw[hB];exact mH rfl) (by rw[hB];exact mH rfl) ?_ ?_ (ahP hf hB hQ ex hp)
  ·(simp only[go_sem,hC,hE,hM,hY,h];repeat' (first|exact Ok.out|with_reducible refine eL ?_ ?_))
  ·(simp only[go_sem,hC,hE,hM,hY,h];repeat' (first|exact Ok.out|with_reducible refine eL ?_ ?_))
end
theorem az.goS {P:Program} {f:FuncId} {nt:Nat} {res:List (Nat×Option (Bool×Nat))} {body:AC} {args:List D} {s:St} {d:D} {s':St} (h0:Has P f nt res body) (hl:Nat.ble args.length nt=true)
 (h : ∀ (B:e7) (Q:Exit→Tm→St→Prop),B.s=s→iz s.ah.length s.aw.length res d s'=Q→Sem P B nt body Q (mM 0 args) s):az P f args s d s':=by
 obtain⟨fn,hf,hc⟩:=h0
 exact az.intro ⟨fn,hf,hc⟩ (Nat.le_of_ble_eq_true hl) fun B hB=>h B _ hB rfl
theorem Jk {v:Sm} (hf:v.nq) (s:St):az Tryz.prog EP [.agg (a8 v)] s (.bool v.one) s:=by
 refine az.pure ?_ (by simp[D.bH,D.ok,mY]) rfl s
 unfold S0
 refine az.goS KR rfl fun B Q hB hQ=>?_
 have⟨hC,hE,hM,hY⟩:=bC
 refine Sem.iN ?_
 repeat' (first
 |simp only[go_sem,hC,hE,hM,hY]
 |(with_reducible refine aB hQ ?_;exact bg))
 refine Sem.re _ _ 1 0 (by rw[hB];exact mH rfl) (by rw[hB];exact mH rfl) ?_ ?_ (ahQ hf hB hQ rfl)
 ·(simp only[go_sem,hC,hE,hM,hY];repeat' (first|exact Ok.out|with_reducible refine eL ?_ ?_))
 ·(simp only[go_sem,hC,hE,hM,hY];repeat' (first|exact Ok.out|with_reducible refine eL ?_ ?_))
end Go.Abs
namespace Go.Abs
set_option maxRecDepth 8000
open Go.Proofs
def dK (i:Im):List D:= [.int .i64 i.s.id, .int .i64 i.s.kind, .slice .shared 1 (i.s.labels.map encStr), .str i.s.name, .str i.s.proc,
 .int .i64 i.s.x.op, .int .i64 i.s.x.n, .str i.s.x.name, .slice .shared 4 (i.s.x.kids.map bI), .bool i.s.has, .slice .shared 6 (i.s.args.map eC), .slice .shared 13 (i.s.bm.map a8), .slice .shared 13 (i.s.bc.map a8), .int .i64 i.proc, .int .i64 i.up, .int .i64 i.next, .int .i64 i.loop]
def cO (n:Int):List D:= [.int .i64 n]
theorem QR (i:Im):D.bH 0 0 (dK i)=true:=by simp[dK,D.bH,D.ok,Tag.ok,eB,YE,II,oK]
theorem Jl (l:List Im):D.gW 0 0 (l.map dK)=true:=gX QR l
theorem Zg (n m:Nat) (l:List Im):D.kL n m (l.map dK)=l.map dK:=lR QR n m l
theorem ahR (n m:Nat) (i:Im):D.gw n m (dK i)=dK i:=ij n m _ (QR i)
theorem ahS (x:Im):(dK x).length=17:=nd rfl
theorem aaN (x:Im):List.take 17 (dK x)=dK x:=nd rfl
theorem aep (x:Im):List.drop 17 (dK x) = []:=nd rfl
theorem aeq (x:Im):List.take 13 (dK x)=a8 x.s:=by simp only[dK,dR];rfl
theorem WH (x:Im):(dK x)[0]? = some (.int .i64 x.s.id):=nd rfl
theorem WI (x:Im):(dK x)[1]? = some (.int .i64 x.s.kind):=nd rfl
theorem WJ (x:Im):(dK x)[4]? = some (.str x.s.proc):=nd rfl
theorem Tw (x:Im):(dK x)[13]? = some (.int .i64 x.proc):=nd rfl
theorem Tx (x:Im):(dK x)[14]? = some (.int .i64 x.up):=nd rfl
theorem Ty (x:Im):(dK x)[15]? = some (.int .i64 x.next):=nd rfl
theorem Tz (x:Im):(dK x)[16]? = some (.int .i64 x.loop):=nd rfl
theorem QS (s:Sm) (a b c d:Int):dK ⟨s,a,b,c,d⟩ = [.int .i64 s.id, .int .i64 s.kind, .slice .shared 1 (s.labels.map encStr), .str s.name, .str s.proc,
 .int .i64 s.x.op, .int .i64 s.x.n, .str s.x.name, .slice .shared 4 (s.x.kids.map bI), .bool s.has, .slice .shared 6 (s.args.map eC), .slice .shared 13 (s.bm.map a8), .slice .shared 13 (s.bc.map a8), .int .i64 a, .int .i64 b, .int .i64 c, .int .i64 d]:=nd rfl
theorem Zh (n:Int):D.bH 0 0 (cO n)=true:=rfl
theorem kG (l:List Int):D.gW 0 0 (l.map cO)=true:=gX Zh l
theorem TA (n m:Nat) (l:List Int):D.kL n m (l.map cO)=l.map cO:=lR Zh n m l
attribute [go_sem] Zg ahR ahS aaN aep aeq WH WI WJ Tw Tx Ty Tz TA cO
theorem aer : ∀ n,n<1000000000→∀ v:Sm,v.size≤n→az Tryz.prog mz [.agg (a8 v)] S0 (.int .i64 (v.jA:Int)) S0:=by
 intro n
 induction n with
 |zero=>intro _ v h;obtain⟨_,_,_,_,_,_,_,_,_,_⟩:=v;simp only[Sm.size]at h;omega
 |succ n ih=>
 intro hn v hv
 have eg:Sm.br v.bm≤n∧Sm.br v.bc≤n∧v.jA=1+Sm.ja v.bm+Sm.ja v.bc:=by
  obtain⟨_,_,_,_,_,_,_,_,_,_⟩:=v
  simp only[Sm.size]at hv;exact⟨by dsimp only;omega,by dsimp only;omega,rfl⟩
 obtain⟨h1,h2,h3⟩:=eg
 have c1:=nG v.bm
 have c2:=nG v.bc
 have l1:=Sm.ei v.bm
 have l2:=Sm.ei v.bc
 have hk : ∀ y,y∈v.bm∨y∈v.bc→∀ s,az Tryz.prog mz [.agg (a8 y)] s (.int .i64 (y.jA:Int)) s:=fun y hy s=>
  (ih (by omega) y (by rcases hy with hy|hy<;>(have:=Sm.dd hy;omega))).pure (by simp only[D.bH,D.ok,mY];rfl) rfl s
 rw[h3]
 unfold S0
 refine az.go Io rfl fun B Q hB hQ=>?_
 have⟨hC,hE,hM,hY⟩:=bC
 repeat' (first
 |simp only[go_sem,hC,hE,hM,hY]
 |(with_reducible refine aB hQ ?_;exact bg))
 refine dQ 1 0 (bd.ind (ι:=List Sm×Nat×Nat) (fun i=>v.bm.drop i.2.1=i.1∧i.2.2+Sm.ja i.1=1+Sm.ja v.bm) (fun i=>i.1.length)
  (fun i=> [(1, .ptr 0 0),(3, .int .i64 (i.2.2:Int)),(9, .slice .shared 13 (v.bm.map a8)),(10, .int .i64 (v.bm.length:Int)),(11, .int .i64 (i.2.1:Int))]) (fun i=>⟨[a8 v],[]⟩) ?_ (v.bm,0,1) ⟨rfl,rfl⟩)
 rintro⟨rest,k,c⟩ ⟨g1,g2⟩ IH
 dsimp only at g1 g2
 cases rest with
 |cons y rest=>
  obtain⟨hE,g3,hC,g4⟩:=drop_cons g1
  have hy:=hk y (.inl (List.mem_of_getElem? hE))
  simp only[Sm.ja]at g2
  have hcy:=DS y
  have Ha:=Sm.dd (List.mem_of_getElem? hE)
  have w1:IntKind.wrap .i64 ((k:Int)+1)=((k+1:Nat):Int):=by rw[dN]<;>omega
  have w2:IntKind.wrap .i64 ((c:Int)+(y.jA:Int))=((c+y.jA:Nat):Int):=by rw[dN]<;>omega
  repeat' (first
 |simp only[go_sem,hC,hE,hM,hY,w1,w2]
 |(with_reducible refine CU (hy _) ?_)
 |(with_reducible refine aB hQ ?_;exact bg))
  refine dQ 1 0 (IH (rest,k+1,c+y.jA) ⟨g3,by dsimp only;omega⟩ (Nat.lt_succ_self _))
 |nil=>
  have hC:=drop_nil g1
  simp only[Sm.ja,Nat.add_zero]at g2
  subst g2
  repeat' (first
 |simp only[go_sem,hC,hE,hM,hY]
 | (with_reducible refine aB hQ ?_;exact bg))
  refine dQ 1 0 (bd.ind (ι:=List Sm×Nat×Nat) (fun i=>v.bc.drop i.2.1=i.1∧i.2.2+Sm.ja i.1=1+Sm.ja v.bm+Sm.ja v.bc) (fun i=>i.1.length)
   (fun i=> [(1, .ptr 0 0),(3, .int .i64 (i.2.2:Int)),(21, .slice .shared 13 (v.bc.map a8)),(22, .int .i64 (v.bc.length:Int)),(23, .int .i64 (i.2.1:Int))]) (fun i=>⟨[a8 v],[]⟩) ?_ (v.bc,0,1+Sm.ja v.bm) ⟨rfl,rfl⟩)
  rintro⟨rest,k,c⟩ ⟨g1,g2⟩ IH
  dsimp only at g1 g2
  cases rest with
  |cons y rest=>
   obtain⟨hE,g3,hC,g4⟩:=drop_cons g1
   have hy:=hk y (.inr (List.mem_of_getElem? hE))
   simp only[Sm.ja]at g2
   have hcy:=DS y
   have Ha:=Sm.dd (List.mem_of_getElem? hE)
   have w1:IntKind.wrap .i64 ((k:Int)+1)=((k+1:Nat):Int):=by rw[dN]<;>omega
   have w2:IntKind.wrap .i64 ((c:Int)+(y.jA:Int))=((c+y.jA:Nat):Int):=by rw[dN]<;>omega
   repeat' (first
 |simp only[go_sem,hC,hE,hM,hY,w1,w2]
 |(with_reducible refine CU (hy _) ?_)
 | (with_reducible refine aB hQ ?_;exact bg))
   refine dQ 1 0 (IH (rest,k+1,c+y.jA) ⟨g3,by dsimp only;omega⟩ (Nat.lt_succ_self _))
  |nil=>
   have hC:=drop_nil g1
   simp only[Sm.ja,Nat.add_zero]at g2
   subst g2
   repeat' (first
 |simp only[go_sem,hC,hE,hM,hY]
 |(with_reducible refine aB hQ ?_;exact bg))
theorem aes {v:Sm} (h:v.size<1000000000) (s:St):az Tryz.prog mz [.agg (a8 v)] s (.int .i64 (v.jA:Int)) s:=
 (aer v.size h v (Nat.le_refl _)).pure (by simp only[D.bH,D.ok,mY];rfl) rfl s
end Go.Abs
namespace Go.Abs
set_option maxRecDepth 8000
open Go.Proofs
abbrev iS (g ps:D) (L:List Im) (lo hi:List Int):List D:= [g,ps, .slice (.tok 0) 17 (L.map dK), .slice (.tok 1) 1 (lo.map cO), .slice (.tok 2) 1 (hi.map cO)]
abbrev WK (proc up next loop:Int):List D:= [.int .i64 0, .int .i64 0, .slice .full 0 [], .str [], .str [], .int .i64 0, .int .i64 0, .str [], .slice .full 0 [], .bool false, .slice .full 0 [], .slice .full 0 [], .slice .full 0 [], .int .i64 proc, .int .i64 up, .int .i64 next, .int .i64 loop]
theorem az.ahT {P:Program} {f:Nat} {args:List D} {g ps:D} {L L':List Im} {lo hi He ic:List Int} {a b c a' b' c':Option Nat}
 (h:az P f (.ptr 0 0::args) ⟨[iS g ps L lo hi],[a,b,c]⟩ (.tuple []) ⟨[iS g ps L' He ic],[a',b',c']⟩)
 (ha:D.bH 0 0 args=true) (hg:D.ok 0 0 g=true) (hp:D.ok 0 0 ps=true)
 {s:St} {o:Nat} (ho:s.ah[o]? = some (iS g ps L lo hi)) (ht:s.aw = [a,b,c]):az P f (.ptr o 0::args) s (.tuple []) ⟨s.ah.set o (iS g ps L' He ic),[a',b',c']⟩:=by
 have hr : ∀ (L:List Im) (lo hi:List Int),D.eT [o] [0,1,2] (iS g ps L lo hi)=iS g ps L lo hi:=fun L lo hi=>by
  simp[D.eT,D.db,Tag.db,qK _ _ _ hg,qK _ _ _ hp,ig _ _ _ (Jl L),ig _ _ _ (kG lo),ig _ _ _ (kG hi)]
 have hk : ∀ (L:List Im) (lo hi:List Int),D.bH 1 3 (iS g ps L lo hi)=true:=fun L lo hi=>by
  simp[D.bH,D.ok,Tag.ok,F9 (Nat.zero_le 1) (Nat.zero_le 3) _ hg,F9 (Nat.zero_le 1) (Nat.zero_le 3) _ hp,lD (Nat.zero_le 1) (Nat.zero_le 3) _ (Jl L),lD (Nat.zero_le 1) (Nat.zero_le 3) _ (kG lo),lD (Nat.zero_le 1) (Nat.zero_le 3) _ (kG hi)]
 refine bP.frame [o] [0,1,2] h (by simp) (by decide) (by simpa using (List.getElem?_eq_some_iff.1 ho).1) (by rw[ht];simp) rfl (fun i o' ds e1 e2=>?_) rfl (fun i t' e1=>?_)
  (by simp[D.eT,D.db,e8 _ _ _ ha])
  (by simp[D.bH,D.ok,gF (Nat.zero_le 1) (Nat.zero_le 3) _ ha]) ?_
 ·cases i with
  |zero=>simp only[List.getElem?_cons_zero,Option.some.injEq]at e1 e2;subst e1;subst e2;exact⟨by rw[hr];exact ho,hk L lo hi⟩
  |succ i=>simp at e1
 ·rw [ht]
  match i,e1 with
  | 0,e1=>simp at e1;subst e1;rfl
  | 1,e1=>simp at e1;subst e1;rfl
  | 2,e1=>simp at e1;subst e1;rfl
  |i+3,e1=>simp at e1
 ·rintro _ _ ⟨rfl,rfl⟩
  refine⟨by simp[D.back,D.db,D.eT], ?_⟩
  have:=hr L' He ic
  simp[St.back,kB,kj,this,ht]
abbrev Zi (N:Nat):Prop:=∀ (l:List Sm) (proc up next loop:Int) (out:List Im) (g ps:D) (lo hi:List Int) (b c:Option Nat),Sm.br l<N→out.length+Sm.ja l<1000000000→D.ok 0 0 g=true→D.ok 0 0 ps=true→
 ∀ {s:St} {o:Nat},s.ah[o]? = some (iS g ps out lo hi)→s.aw = [some out.length,b,c]→
 az Tryz.prog kl [.ptr o 0, .slice .shared 13 (l.map a8), .agg (WK proc up next loop)] s (.tuple []) ⟨s.ah.set o (iS g ps (Im.rows proc up next loop out l) lo hi),[some (Im.rows proc up next loop out l).length,b,c]⟩
theorem ahU {N:Nat} (ih:Zi N) {l:List Sm} {proc up next loop:Int} {out:List Im} {g ps:D} {lo hi:List Int} {b c:Option Nat} (hs:Sm.br l<N+1) (hc:out.length+Sm.ja l<1000000000) (hg:D.ok 0 0 g=true) (hp:D.ok 0 0 ps=true) (hN:N<1000000000) :
 az Tryz.prog kl [.ptr 0 0, .slice .shared 13 (l.map a8), .agg (WK proc up next loop)] ⟨[iS g ps out lo hi],[some out.length,b,c]⟩ (.tuple []) ⟨[iS g ps (Im.rows proc up next loop out l) lo hi],[some (Im.rows proc up next loop out l).length,b,c]⟩:=by
 obtain⟨R,hR⟩ : ∃ R,R=Im.rows proc up next loop out l:=⟨_,rfl⟩
 have hlR:R.length=out.length+Sm.ja l:=by rw[hR,gH]
 rw[← hR]
 have k1 : ∀ n m,D.fg n m g=g:=fun n m=>Qe n m _ hg
 have k2 : ∀ n m,D.fg n m ps=ps:=fun n m=>Qe n m _ hp
 refine az.go BJ rfl fun B Q hB hQ=>?_
 have⟨hC,hE,hM,hY⟩:=bC
 repeat' (first
 |simp only[go_sem,hC,hE,hM,hY,k1,k2]
 |(with_reducible first|refine aX fun hc=>?_|refine aY fun hc=>?_|refine aZ (fun hc=>?_) fun hc=>?_)<;>(try simp only[hc,bs,↓reduceIte]at h)<;>try simp only[hc]
 |(with_reducible refine aB hQ ?_;simp only[aQ,aR,bn,bo,go_sem,hC,hE,hM,hY,k1,k2];try exact bR))
 refine eM 2 3 ?_ ?_ (bd.ind (ι:=List Sm×Nat×List Im) (fun i=>l.drop i.2.1=i.1∧Im.rows proc up next loop i.2.2 i.1=R∧i.2.2.length+Sm.ja i.1=out.length+Sm.ja l) (fun i=>i.1.length)
  (fun i=> [(0, .ptr 0 0),(1, .slice .shared 13 (l.map a8)),(5, .ptr 1 0),(11, .slice .shared 13 (l.map a8)),(12, .int .i64 (l.length:Int)),(13, .int .i64 (i.2.1:Int))]) (fun i=>⟨[iS g ps i.2.2 lo hi,WK proc up next loop],[some i.2.2.length,b,c]⟩) ?_ (l,0,out) ⟨rfl,hR.symm,rfl⟩)
 ·(simp only[go_sem,hC,hE,hM,hY,k1,k2];try exact cb)
 ·(simp only[go_sem,hC,hE,hM,hY,k1,k2];try exact cb)
 rintro⟨rest,k,cQ⟩ ⟨h1,h2,h3⟩ IH
 dsimp only at h1 h2 h3
 have hlen:l.length<1000000000:=by have:=Sm.ei l;omega
 cases rest with
 |nil=>
  have hC:=drop_nil h1
  simp only[Im.rows]at h2
  subst h2
  repeat' (first
 |simp only[go_sem,hC,hE,hM,hY,k1,k2]
 |(with_reducible first|refine aX fun hc=>?_|refine aY fun hc=>?_|refine aZ (fun hc=>?_) fun hc=>?_)<;>(try simp only[hc,bs,↓reduceIte]at h)<;>try simp only[hc]
 |(with_reducible refine aB hQ ?_;simp only[aQ,aR,bn,bo,go_sem,hC,hE,hM,hY,k1,k2];try exact bR))
 | cons v rest=>
  obtain⟨hE,g2,hC,g4⟩:=drop_cons h1
  have cm:k<4611686018427387904:=by omega
  have hv:=Sm.dd (List.mem_of_getElem? hE)
  have tw:Sm.br v.bm<N∧Sm.br v.bc<N∧v.jA=1+Sm.ja v.bm+Sm.ja v.bc:=by
   obtain⟨_,_,_,_,_,_,_,_,_,_⟩:=v
   simp only[Sm.size]at hv
   exact⟨by dsimp only;omega,by dsimp only;omega,rfl⟩
  obtain⟨EF,JW,hv3⟩:=tw
  simp only[Sm.ja]at h3
  simp only[Im.rows,Im.ady]at h2
  have hM:(cQ.length+1)*241≤bu:=by unfold bu;omega
  have Ni:IntKind.wrap .i64 ((cQ.length:Int)+1)=(cQ.length:Int)+1:=dN (by omega) (by omega)
  have tM:IntKind.wrap .i64 ((k:Int)+1)=((k+1:Nat):Int):=by rw[dN]<;>omega
  have Zj:IntKind.wrap .i64 ((cQ.length:Int)+1+(v.jA:Int))=(cQ.length:Int)+1+(v.jA:Int):=dN (by omega) (by omega)
  have eg:=fun s=>aes (v:=v) (by omega) s
  simp only[dR]at eg
  have Bf:rest.length=l.length - (k+1):=by rw[← g2,List.length_drop]
  by_cases az6:k+1<l.length
  ·have d1:decide (((k+1:Nat):Int)<(l.length:Int))=true:=by simp;omega
   have e1:(rest.length=0)=False:=by simp;intro h;rw[h]at Bf;simp at Bf;omega
   by_cases TB:v.kind=6
   ·have d2:(v.kind==6)=true:=by simp [TB]
    simp only[e1,d2,↓reduceIte,Bool.false_eq_true]at h2
    have f1:=fun {s:St} {o:Nat}=>@ih v.bm proc ((cQ.length:Int)+1) ((cQ.length:Int)+1) ((cQ.length:Int)+1) (cQ++ [⟨v,proc,up,((cQ.length:Int)+1+(v.jA:Int)),loop⟩]) g ps lo hi b c EF (by simp;omega) hg hp s o
    have f2:=fun {s:St} {o:Nat}=>@ih v.bc proc ((cQ.length:Int)+1) ((cQ.length:Int)+1) ((cQ.length:Int)+1) _ g ps lo hi b c JW (by rw[gH proc ((cQ.length:Int)+1) ((cQ.length:Int)+1) ((cQ.length:Int)+1) (cQ++ [⟨v,proc,up,((cQ.length:Int)+1+(v.jA:Int)),loop⟩]) v.bm];simp;omega) hg hp s o
    have hl:(Im.rows proc ((cQ.length:Int)+1) ((cQ.length:Int)+1) ((cQ.length:Int)+1) (Im.rows proc ((cQ.length:Int)+1) ((cQ.length:Int)+1) ((cQ.length:Int)+1) (cQ++ [⟨v,proc,up,((cQ.length:Int)+1+(v.jA:Int)),loop⟩]) v.bm) v.bc).length=cQ.length+v.jA:=by rw[gH,gH];simp;omega
    simp only[iS,List.map_append,List.map_cons,List.map_nil,QS,List.length_append,List.length_cons,List.length_nil]at f1
    repeat' (first
 |simp only[go_sem,hC,hE,hM,hY,k1,k2,Ni,tM,Zj,d1,d2,dR]
 |(with_reducible refine CU (eg _) ?_)
 |(with_reducible refine CU (f1 (by with_unfolding_all rfl) (by with_unfolding_all rfl)) ?_)
 |(with_reducible refine CU (f2 (by with_unfolding_all rfl) (by with_unfolding_all rfl)) ?_)
 | (with_reducible refine aB hQ ?_;exact bg))
    refine eM 2 3 ?_ ?_ (IH (rest,k+1,_) ⟨g2,h2,by dsimp only;rw[hl];omega⟩ (Nat.lt_succ_self _))
    ·(simp only[go_sem,hC,hE,hM,hY,tM,k1,k2];try exact cb)
    ·(simp only[go_sem,hC,hE,hM,hY,tM,k1,k2];try exact cb)
   ·have d2:(v.kind==6)=false:=by simp [TB]
    simp only[e1,d2,↓reduceIte,Bool.false_eq_true]at h2
    have f1:=fun {s:St} {o:Nat}=>@ih v.bm proc ((cQ.length:Int)+1) ((cQ.length:Int)+1+(v.jA:Int)) loop (cQ++ [⟨v,proc,up,((cQ.length:Int)+1+(v.jA:Int)),loop⟩]) g ps lo hi b c EF (by simp;omega) hg hp s o
    have f2:=fun {s:St} {o:Nat}=>@ih v.bc proc ((cQ.length:Int)+1) ((cQ.length:Int)+1+(v.jA:Int)) loop _ g ps lo hi b c JW (by rw[gH proc ((cQ.length:Int)+1) ((cQ.length:Int)+1+(v.jA:Int)) loop (cQ++ [⟨v,proc,up,((cQ.length:Int)+1+(v.jA:Int)),loop⟩]) v.bm];simp;omega) hg hp s o
    have hl:(Im.rows proc ((cQ.length:Int)+1) ((cQ.length:Int)+1+(v.jA:Int)) loop (Im.rows proc ((cQ.length:Int)+1) ((cQ.length:Int)+1+(v.jA:Int)) loop (cQ++ [⟨v,proc,up,((cQ.length:Int)+1+(v.jA:Int)),loop⟩]) v.bm) v.bc).length=cQ.length+v.jA:=by rw[gH,gH];simp;omega
    simp only[iS,List.map_append,List.map_cons,List.map_nil,QS,List.length_append,List.length_cons,List.length_nil]at f1
    repeat' (first
 |simp only[go_sem,hC,hE,hM,hY,k1,k2,Ni,tM,Zj,d1,d2,dR]
 |(with_reducible refine CU (eg _) ?_)
 |(with_reducible refine CU (f1 (by with_unfolding_all rfl) (by with_unfolding_all rfl)) ?_)
 |(with_reducible refine CU (f2 (by with_unfolding_all rfl) (by with_unfolding_all rfl)) ?_)
 | (with_reducible refine aB hQ ?_;exact bg))
    refine eM 2 3 ?_ ?_ (IH (rest,k+1,_) ⟨g2,h2,by dsimp only;rw[hl];omega⟩ (Nat.lt_succ_self _))
    ·(simp only[go_sem,hC,hE,hM,hY,tM,k1,k2];try exact cb)
    ·(simp only[go_sem,hC,hE,hM,hY,tM,k1,k2];try exact cb)
  ·have d1:decide (((k+1:Nat):Int)<(l.length:Int))=false:=by simp;omega
   have e1:(rest.length=0)=True:=by simp only[eq_iff_iff,iff_true];omega
   by_cases TB:v.kind=6
   ·have d2:(v.kind==6)=true:=by simp [TB]
    simp only[e1,d2,↓reduceIte,Bool.false_eq_true]at h2
    have f1:=fun {s:St} {o:Nat}=>@ih v.bm proc ((cQ.length:Int)+1) ((cQ.length:Int)+1) ((cQ.length:Int)+1) (cQ++ [⟨v,proc,up,next,loop⟩]) g ps lo hi b c EF (by simp;omega) hg hp s o
    have f2:=fun {s:St} {o:Nat}=>@ih v.bc proc ((cQ.length:Int)+1) ((cQ.length:Int)+1) ((cQ.length:Int)+1) _ g ps lo hi b c JW (by rw[gH proc ((cQ.length:Int)+1) ((cQ.length:Int)+1) ((cQ.length:Int)+1) (cQ++ [⟨v,proc,up,next,loop⟩]) v.bm];simp;omega) hg hp s o
    have hl:(Im.rows proc ((cQ.length:Int)+1) ((cQ.length:Int)+1) ((cQ.length:Int)+1) (Im.rows proc ((cQ.length:Int)+1) ((cQ.length:Int)+1) ((cQ.length:Int)+1) (cQ++ [⟨v,proc,up,next,loop⟩]) v.bm) v.bc).length=cQ.length+v.jA:=by rw[gH,gH];simp;omega
    simp only[iS,List.map_append,List.map_cons,List.map_nil,QS,List.length_append,List.length_cons,List.length_nil]at f1
    repeat' (first
 |simp only[go_sem,hC,hE,hM,hY,k1,k2,Ni,tM,Zj,d1,d2,dR]
 |(with_reducible refine CU (eg _) ?_)
 |(with_reducible refine CU (f1 (by with_unfolding_all rfl) (by with_unfolding_all rfl)) ?_)
 |(with_reducible refine CU (f2 (by with_unfolding_all rfl) (by with_unfolding_all rfl)) ?_)
 | (with_reducible refine aB hQ ?_;exact bg))
    refine eM 2 3 ?_ ?_ (IH (rest,k+1,_) ⟨g2,h2,by dsimp only;rw[hl];omega⟩ (Nat.lt_succ_self _))
    ·(simp only[go_sem,hC,hE,hM,hY,tM,k1,k2];try exact cb)
    ·(simp only[go_sem,hC,hE,hM,hY,tM,k1,k2];try exact cb)
   ·have d2:(v.kind==6)=false:=by simp [TB]
    simp only[e1,d2,↓reduceIte,Bool.false_eq_true]at h2
    have f1:=fun {s:St} {o:Nat}=>@ih v.bm proc ((cQ.length:Int)+1) next loop (cQ++ [⟨v,proc,up,next,loop⟩]) g ps lo hi b c EF (by simp;omega) hg hp s o
    have f2:=fun {s:St} {o:Nat}=>@ih v.bc proc ((cQ.length:Int)+1) next loop _ g ps lo hi b c JW (by rw[gH proc ((cQ.length:Int)+1) next loop (cQ++ [⟨v,proc,up,next,loop⟩]) v.bm];simp;omega) hg hp s o
    have hl:(Im.rows proc ((cQ.length:Int)+1) next loop (Im.rows proc ((cQ.length:Int)+1) next loop (cQ++ [⟨v,proc,up,next,loop⟩]) v.bm) v.bc).length=cQ.length+v.jA:=by rw[gH,gH];simp;omega
    simp only[iS,List.map_append,List.map_cons,List.map_nil,QS,List.length_append,List.length_cons,List.length_nil]at f1
    repeat' (first
 |simp only[go_sem,hC,hE,hM,hY,k1,k2,Ni,tM,Zj,d1,d2,dR]
 |(with_reducible refine CU (eg _) ?_)
 |(with_reducible refine CU (f1 (by with_unfolding_all rfl) (by with_unfolding_all rfl)) ?_)
 |(with_reducible refine CU (f2 (by with_unfolding_all rfl) (by with_unfolding_all rfl)) ?_)
 | (with_reducible refine aB hQ ?_;exact bg))
    refine eM 2 3 ?_ ?_ (IH (rest,k+1,_) ⟨g2,h2,by dsimp only;rw[hl];omega⟩ (Nat.lt_succ_self _))
    ·(simp only[go_sem,hC,hE,hM,hY,tM,k1,k2];try exact cb)
    ·(simp only[go_sem,hC,hE,hM,hY,tM,k1,k2];try exact cb)
theorem aaO : ∀ N,N<1000000000→Zi N:=by
 intro N
 induction N with
 |zero=>exact fun _ l proc up next loop out g ps lo hi b c h=>absurd h (Nat.not_lt_zero _)
 |succ N ih=>
  intro h l proc up next loop out g ps lo hi b c hs hc hg hp s o ho ht
  exact(ahU (ih (by omega)) hs hc hg hp (by omega)).ahT (by simp[D.bH,D.ok,Tag.ok,oK,D.gW]) hg hp ho ht
def fw (p:Pg):List D:= [.slice .shared 1 (p.globals.map encStr), .slice .shared 5 (p.procs.map cH), .slice .shared 17 (p.bh.L.map dK), .slice .shared 1 (p.bh.lo.map cO), .slice .shared 1 (p.bh.hi.map cO)]
theorem nW (p:Pg):fw p = [.slice .shared 1 (p.globals.map encStr), .slice .shared 5 (p.procs.map cH), .slice .shared 17 (p.bh.L.map dK), .slice .shared 1 (p.bh.lo.map cO), .slice .shared 1 (p.bh.hi.map cO)]:=nd rfl
theorem uw (p:Pg):D.bH 0 0 (fw p)=true:=by simp[fw,D.bH,D.ok,Tag.ok,eB,wJ,Jl,kG]
theorem Fa (p:Pg):cR p = [.slice .shared 1 (p.globals.map encStr), .slice .shared 5 (p.procs.map cH)]:=nd rfl
theorem ahW {p:Pg} (hs:Pc.br p.procs<1000000000):az Tryz.prog kY [.agg (cR p)] S0 (.ptr 1 0) ⟨[cR p,iS (.slice .shared 1 (p.globals.map encStr)) (.slice .shared 5 (p.procs.map cH)) p.bh.L p.bh.lo p.bh.hi],[some p.bh.L.length,some p.bh.lo.length,some p.bh.hi.length]⟩:=by
 have hlen:p.procs.length<1000000000:=by have:=Pc.ei p.procs;omega
 obtain⟨R,hR⟩ : ∃ R,R=p.bh:=⟨_,rfl⟩
 have hR':=hR
 unfold Pg.bh at hR'
 unfold S0
 rw[Fa, ← hR]
 refine az.goK 2 3 (Nat.zero_le _) (Nat.zero_le _) KI rfl fun B Q hB hQ=>?_
 have⟨hC,hE,hM,hY⟩:=bC
 repeat' (first
 |simp only[go_sem,hC,hE,hM,hY,Fa]
 |(with_reducible refine aB hQ ?_;exact bg))
 refine bd.pZ 1 2 17 rfl rfl ?_
 simp only[go_sem,hC,hE,hM,hY]
 refine bd.pZ 1 3 1 rfl rfl ?_
 simp only[go_sem,hC,hE,hM,hY]
 refine bd.pZ 1 4 1 rfl rfl ?_
 simp only[go_sem,hC,hE,hM,hY]
 refine eM 2 3 ?_ ?_ (bd.ind (ι:=List Pc×Nat×Sh×Nat×Nat) (fun i=>p.procs.drop i.2.1=i.1∧Sh.go i.2.1 i.2.2.1 i.1=R∧i.2.2.1.L.length+Pc.br i.1≤Pc.br p.procs∧i.2.2.1.lo.length=i.2.1∧i.2.2.1.hi.length=i.2.1∧i.2.2.2.1=i.2.2.1.lo.length∧i.2.2.2.2=i.2.2.1.hi.length) (fun i=>i.1.length)
  (fun i=> [(1, .ptr 0 0),(3, .ptr 1 0),(10, .slice .shared 5 (p.procs.map cH)),(11, .int .i64 (p.procs.length:Int)),(12, .int .i64 (i.2.1:Int))]) (fun i=>⟨[[.slice .shared 1 (p.globals.map encStr), .slice .shared 5 (p.procs.map cH)],iS (.slice .shared 1 (p.globals.map encStr)) (.slice .shared 5 (p.procs.map cH)) i.2.2.1.L i.2.2.1.lo i.2.2.1.hi],[some i.2.2.1.L.length,some i.2.2.2.1,some i.2.2.2.2]⟩) ?_ (p.procs,0,⟨[],[],[]⟩,0,0) ⟨rfl,hR'.symm,by simp,rfl,rfl,rfl,rfl⟩)
 ·(simp only[go_sem,hC,hE,hM,hY,iS];try exact cb)
 ·(simp only[go_sem,hC,hE,hM,hY,iS];try exact cb)
 rintro⟨rest,k,h,n1,n2⟩ ⟨h1,h2,h3,h4,h5,h6,h7⟩ IH
 dsimp only at h1 h2 h3 h4 h5 h6 h7
 subst h6 h7
 cases rest with
 |nil=>
  have hC:=drop_nil h1
  simp only[Sh.go]at h2
  rw[← h2]at hQ
  repeat' (first
 |simp only[go_sem,hC,hE,hM,hY,iS]
 |(with_reducible refine aB hQ ?_;exact bg))
 |cons f rest=>
  obtain⟨hE,g2,hC,g4⟩:=drop_cons h1
  have cm:k<4611686018427387904:=by omega
  simp only[Pc.br,Pc.size]at h3
  simp only[Sh.go]at h2
  have c1:=nG f.body
  have hM:(h.lo.length+1)*9≤bu:=by unfold bu;omega
  have asO:(h.hi.length+1)*9≤bu:=by unfold bu;omega
  have Ni:IntKind.wrap .i64 ((h.L.length:Int)+1)=(h.L.length:Int)+1:=dN (by omega) (by omega)
  have hl:(Im.rows (k:Int) 0 (-1) 0 h.L f.body).length=h.L.length+Sm.ja f.body:=gH ..
  have tM:IntKind.wrap .i64 (((Im.rows (k:Int) 0 (-1) 0 h.L f.body).length:Int)+1)=((Im.rows (k:Int) 0 (-1) 0 h.L f.body).length:Int)+1:=dN (by omega) (by omega)
  have hr:=fun {s:St} {o:Nat}=>@aaO (Sm.br f.body+1) (by omega) f.body (k:Int) 0 (-1) 0 h.L (.slice .shared 1 (p.globals.map encStr)) (.slice .shared 5 (p.procs.map cH)) (h.lo++ [(h.L.length:Int)+1]) h.hi (some (h.lo.length+1)) (some h.hi.length) (Nat.lt_succ_self _) (by omega) (by simp[D.ok,Tag.ok,eB]) (by simp[D.ok,Tag.ok,wJ]) s o
  simp only[iS,List.map_append,List.map_cons,List.map_nil,cO]at hr
  repeat' (first
 |simp only[go_sem,hC,hE,hM,hY,Ni,tM,asO,iS]
 |(with_reducible refine CU (hr (by with_unfolding_all rfl) (by with_unfolding_all rfl)) ?_)
 |(with_reducible refine aB hQ ?_;exact bg))
  refine eM 2 3 ?_ ?_ (IH (rest,k+1,⟨Im.rows (k:Int) 0 (-1) 0 h.L f.body,h.lo++ [(h.L.length:Int)+1],h.hi++ [((Im.rows (k:Int) 0 (-1) 0 h.L f.body).length:Int)+1]⟩,_,_) ⟨g2,h2,by dsimp only;rw[hl];omega,by simp[h4],by simp[h5],by simp,by simp⟩ (Nat.lt_succ_self _))
  ·(simp only[go_sem,hC,hE,hM,hY,iS,aL cm,List.map_append,List.map_cons,List.map_nil,cO];try exact cb)
  ·(simp only[go_sem,hC,hE,hM,hY,iS,aL cm,List.map_append,List.map_cons,List.map_nil,cO];try exact cb)
theorem Cy {p:Pg} (hs:Pc.br p.procs<1000000000) (s:St):az Tryz.prog kY [.agg (cR p)] s (.dL (fw p) 0) s:=by
 refine az.pure ?_ (by simp only[D.bH,D.ok,jX];rfl) (by simp only[D.ok,uw]) s
 have h:=(ahW hs).AZ (n:=0) (m:=0) rfl (Nat.le_refl _) (Nat.zero_le _) (Nat.le_refl _)
 simpa[D.gw,D.fg,Tag.fg,Ti,YF,Zg,TA,St.cut,fw,S0]using h
def jg (x:aF) (k:Int):List aF→Int
 | []=> -1
 |s::l=>if x==s then k else jg x (k+1) l
def fq (l:List aF) (x:aF):Bool:=decide (jg x 0 l≥0)
def k7 {α:Type} (b:α→Bool) (k:Int):List α→Int
 | []=> -1
 |s::l=>if b s then k else k7 b (k+1) l
theorem Nj (x:aF) : ∀ (l:List aF) (k:Int),0≤k→(jg x k l≥0↔x∈l)
 | [],k,h=>by simp[jg]
 | s::l,k,h=>by
  by_cases e:x=s
  ·simp[jg,e];omega
  ·have e':(x==s)=false:=by simp [e]
   simp only[jg,e',Bool.false_eq_true,if_false,List.mem_cons,e,false_or]
   exact Nj x l (k+1) (by omega)
theorem jh (l:List aF) (x:aF):fq l x=true↔x∈l:=by
 simp only[fq,decide_eq_true_eq];exact Nj x l 0 (Int.le_refl 0)
theorem Gz {α:Type} (b:α→Bool) : ∀ (l:List α) (k:Int),0≤k→(k7 b k l≥0↔l.any b=true)
 | [],k,h=>by simp[k7]
 | s::l,k,h=>by
  by_cases e:b s=true
  ·simp[k7,e];omega
  ·have e':b s=false:=by simpa using e
   simp only[k7,e',Bool.false_eq_true,if_false,List.any_cons,Bool.or_eq_true,false_or]
   exact Gz b l (k+1) (by omega)
theorem Cz {l:List aF} (hl:l.length<4611686018427387904) (x:aF) (s:St):az Tryz.prog fY [.slice .shared 1 (l.map encStr), .str x] s (.int .i64 (jg x 0 l)) s:=by
 refine az.pure ?_ (by simp[D.bH,D.ok,Tag.ok,eB]) rfl s
 generalize h:jg x 0 l=p
 unfold S0
 refine az.go wm rfl fun B Q hB hQ=>?_
 have⟨hC,hE,hM,hY⟩:=bC
 repeat' (first
 |simp only[go_sem,hC,hE,hM,hY]
 |(with_reducible first|refine aX fun hc=>?_|refine aY fun hc=>?_|refine aZ (fun hc=>?_) fun hc=>?_)<;>(try simp only[hc,bs,↓reduceIte]at h)<;>try simp only[hc]
 |(with_reducible refine aB hQ ?_;exact ep))
 refine dQ 0 0 (bd.ind (ι:=List aF×Nat) (fun i=>l.drop i.2=i.1∧jg x (i.2:Int) i.1=p) (fun i=>i.1.length)
  (fun i=> [(0, .slice .shared 1 (l.map encStr)),(1, .str x),(7, .int .i64 (l.length:Int)),(8, .int .i64 (i.2:Int))]) (fun i=>⟨[],[]⟩) ?_ (l,0) ⟨rfl,h⟩)
 rintro⟨rest,k⟩ ⟨h1,h⟩ IH
 dsimp only at h1 h
 cases rest with
 |nil=>
  have hC:=drop_nil h1
  simp only[jg]at h
  repeat' (first
 |simp only[go_sem,hC,hE,hM,hY]
 |(with_reducible first|refine aX fun hc=>?_|refine aY fun hc=>?_|refine aZ (fun hc=>?_) fun hc=>?_)<;>(try simp only[hc,bs,↓reduceIte]at h)<;>try simp only[hc]
 |(with_reducible refine aB hQ ?_;exact ep))
 |cons a rest=>
  obtain⟨hE,g2,hC,g4⟩:=drop_cons h1
  have cm:k<4611686018427387904:=by omega
  simp only[jg]at h
  repeat' (first
 |simp only[go_sem,hC,hE,hM,hY]
 |(with_reducible first|refine aX fun hc=>?_|refine aY fun hc=>?_|refine aZ (fun hc=>?_) fun hc=>?_)<;>(try simp only[hc,bs,↓reduceIte]at h)<;>try simp only[hc]
 |(with_reducible refine aB hQ ?_;exact ep))
  refine eM 0 0 ?_ ?_ (IH (rest,k+1) ⟨g2,h⟩ (Nat.lt_succ_self _))
  ·(simp only[go_sem,hC,hE,hM,hY,aL cm];try exact cb)
  ·(simp only[go_sem,hC,hE,hM,hY,aL cm];try exact cb)
theorem rY {l:List aF} (hl:l.length<4611686018427387904) (x:aF) (s:St):az Tryz.prog cB [.slice .shared 1 (l.map encStr), .str x] s (.bool (fq l x)) s:=by
 refine az.pure ?_ (by simp[D.bH,D.ok,Tag.ok,eB]) rfl s
 have hi:=fun s=>Cz hl x s
 unfold S0
 refine az.go uv rfl fun B Q hB hQ=>?_
 have⟨hC,hE,hM,hY⟩:=bC
 repeat' (first
 |simp only[go_sem,hC,hE,hM,hY,fq]
 |(with_reducible refine CU (hi _) ?_)
 |(with_reducible first|refine aX fun hc=>?_|refine aY fun hc=>?_|refine aZ (fun hc=>?_) fun hc=>?_)<;>(try simp only[hc,bs,↓reduceIte]at h)<;>try simp only[hc]
 |(with_reducible refine aB hQ ?_;simp only[aQ,aR,bn,bo,go_sem,hC,hE,hM,hY,fq];try exact bR))
theorem az.Zk {P:Program} {f:Nat} {d d':D} {r:List D} {s s':St} {x:D} (h:az P f (d'::r) s x s') (hw:Wk d d'):az P f (d::r) s x s':=bP.ou (.cons hw (ju.refl r)) h
theorem jJ {l:List aF} (hl:l.length<4611686018427387904) (x:aF) (g:Tag) (s:St):az Tryz.prog cB [.slice g 1 (l.map encStr), .str x] s (.bool (fq l x)) s:=
 (rY hl x s).Zk (Wk.shared _ _ _)
theorem KZ (x:aF) (z:Nat) (g:Tag) (s:St):az Tryz.prog cB [.slice g z [], .str x] s (.bool false) s:=
 (rY (l:= []) (by simp) x s).Zk (Wk.nil _ _ _)
theorem BM {l:List aF} (hl:l.length<4611686018427387904) {f:Nat} {row:List D} {b:aF→Bool} (uL:D.bH 0 0 row=true) (he:enters Tryz.prog f=true)
 (hb : ∀ x∈l,az Tryz.prog f ([.str x]++ [.ptr 0 0]) ⟨[row],[]⟩ (.bool (b x)) ⟨[row],[]⟩) :
 az Tryz.prog kZ [.slice .shared 1 (l.map encStr), .gi f [.ptr 0 0]] ⟨[row],[]⟩ (.int .i64 (k7 b 0 l)) ⟨[row],[]⟩:=by
 generalize h:k7 b 0 l=p
 have k1 : ∀ n m,D.gw n m row=row:=fun n m=>ij n m _ uL
 refine az.go tI rfl fun B Q hB hQ=>?_
 have⟨hC,hE,hM,hY⟩:=bC
 repeat' (first
 |simp only[go_sem,hC,hE,hM,hY,k1]
 |(with_reducible first|refine aX fun hc=>?_|refine aY fun hc=>?_|refine aZ (fun hc=>?_) fun hc=>?_)<;>(try simp only[hc,bs,↓reduceIte]at h)<;>try simp only[hc]
 |(with_reducible refine aB hQ ?_;(try cases h);simp only[aQ,aR,bn,bo,go_sem,hC,hE,hM,hY,k1];try exact bR))
 refine eM 1 0 ?_ ?_ (bd.ind (ι:=List aF×Nat) (fun i=>l.drop i.2=i.1∧k7 b (i.2:Int) i.1=p) (fun i=>i.1.length)
  (fun i=> [(0, .slice .shared 1 (l.map encStr)),(1, .gi f [.ptr 0 0]),(7, .int .i64 (l.length:Int)),(8, .int .i64 (i.2:Int))]) (fun i=>⟨[row],[]⟩) ?_ (l,0) ⟨rfl,h⟩)
 ·(simp only[go_sem,hC,hE,hM,hY,k1];try exact cb)
 ·(simp only[go_sem,hC,hE,hM,hY,k1];try exact cb)
 rintro⟨rest,k⟩ ⟨h1,h⟩ IH
 dsimp only at h1 h
 cases rest with
 |nil=>
  have hC:=drop_nil h1
  simp only[k7]at h
  repeat' (first
 |simp only[go_sem,hC,hE,hM,hY,k1]
 |(with_reducible first|refine aX fun hc=>?_|refine aY fun hc=>?_|refine aZ (fun hc=>?_) fun hc=>?_)<;>(try simp only[hc,bs,↓reduceIte]at h)<;>try simp only[hc]
 |(with_reducible refine aB hQ ?_;(try cases h);simp only[aQ,aR,bn,bo,go_sem,hC,hE,hM,hY,k1];try exact bR))
 |cons a rest=>
  obtain⟨hE,g2,hC,g4⟩:=drop_cons h1
  have cm:k<4611686018427387904:=by omega
  have hba:=hb a (List.mem_of_getElem? hE)
  simp only[k7]at h
  repeat' (first
 |simp only[go_sem,hC,hE,hM,hY,k1]
 |(with_reducible refine CV.use (he) (hba) ?_)
 |(with_reducible first|refine aX fun hc=>?_|refine aY fun hc=>?_|refine aZ (fun hc=>?_) fun hc=>?_)<;>(try simp only[hc,bs,↓reduceIte]at h)<;>try simp only[hc]
 |(with_reducible refine aB hQ ?_;(try cases h);simp only[aQ,aR,bn,bo,go_sem,hC,hE,hM,hY,k1];try exact bR))
  refine eM 1 0 ?_ ?_ (IH (rest,k+1) ⟨g2,h⟩ (Nat.lt_succ_self _))
  ·(simp only[go_sem,hC,hE,hM,hY,k1,aL cm];try exact cb)
  ·(simp only[go_sem,hC,hE,hM,hY,k1,aL cm];try exact cb)
theorem BN {P:Program} {g f:Nat} {row:List D} {rows:List (List D)} {z:Nat} {d:D} (h:az P g [.slice .shared z rows, .gi f [.ptr 0 0]] ⟨[row],[]⟩ d ⟨[row],[]⟩) (uL:D.bH 0 0 row=true) (hw:D.gW 0 0 rows=true) (hd:D.ok 0 0 d=true) {s:St} {o:Nat} (ho:s.ah[o]? = some row) :
 az P g [.slice .shared z rows, .gi f [.ptr o 0]] s d s:=by
 refine bP.frame [o] [] h (by simp) List.nodup_nil (by simpa using (List.getElem?_eq_some_iff.1 ho).1) (by simp) rfl (fun i o' ds e1 e2=>?_) rfl (by simp) (by simp[D.eT,D.db,Tag.db,ig _ _ _ hw])
  (by simp[D.bH,D.ok,Tag.ok,lD (Nat.zero_le 1) (Nat.le_refl 0) _ hw]) ?_
 ·cases i with
  |zero=>simp at e1 e2;subst e1;subst e2;exact⟨by rw[e8 _ _ _ uL];exact ho,gF (Nat.zero_le 1) (Nat.le_refl 0) _ uL⟩
  |succ i=>simp at e1
 ·rintro _ _ ⟨rfl,rfl⟩
  refine⟨qK _ _ _ hd, ?_⟩
  have:s.ah.set o row=s.ah:=by
   apply List.ext_getElem?
   intro i
   rw[List.getElem?_set]
   split
   ·rename_i e;subst e;rw [ho];split
    ·rfl
    ·rename_i hh;exact absurd (List.getElem?_eq_some_iff.1 ho).1 hh
   ·rfl
  simp[St.back,kB,e8 _ _ _ uL,this]
theorem yP {l:List aF} (hl:l.length<4611686018427387904) {f:Nat} {row:List D} {b:aF→Bool} (uL:D.bH 0 0 row=true) (he:enters Tryz.prog f=true)
 (hb : ∀ x∈l,az Tryz.prog f ([.str x]++ [.ptr 0 0]) ⟨[row],[]⟩ (.bool (b x)) ⟨[row],[]⟩) :
 az Tryz.prog fZ [.slice .shared 1 (l.map encStr), .gi f [.ptr 0 0]] ⟨[row],[]⟩ (.bool (l.any b)) ⟨[row],[]⟩:=by
 have k1 : ∀ n m,D.gw n m row=row:=fun n m=>ij n m _ uL
 have hi:=BM hl uL he hb
 have e:decide (k7 b 0 l≥0)=l.any b:=by
  have:=Gz b l 0 (Int.le_refl 0)
  cases hh:l.any b<;>simp_all
 refine az.go rV rfl fun B Q hB hQ=>?_
 have⟨hC,hE,hM,hY⟩:=bC
 repeat' (first
 |simp only[go_sem,hC,hE,hM,hY,k1,e]
 |(with_reducible refine CU (hi) ?_)
 |(with_reducible first|refine aX fun hc=>?_|refine aY fun hc=>?_|refine aZ (fun hc=>?_) fun hc=>?_)<;>(try simp only[hc,bs,↓reduceIte]at h)<;>try simp only[hc]
 |(with_reducible refine aB hQ ?_;simp only[aQ,aR,bn,bo,go_sem,hC,hE,hM,hY,k1,e];try exact bR))
theorem yQ {l:List aF} (hl:l.length<4611686018427387904) {f:Nat} {row:List D} {b:aF→Bool} (uL:D.bH 0 0 row=true) (he:enters Tryz.prog f=true)
 (hb : ∀ x∈l,az Tryz.prog f ([.str x]++ [.ptr 0 0]) ⟨[row],[]⟩ (.bool (b x)) ⟨[row],[]⟩) {s:St} {o:Nat} (ho:s.ah[o]? = some row) :
 az Tryz.prog fZ [.slice .shared 1 (l.map encStr), .gi f [.ptr o 0]] s (.bool (l.any b)) s:=
 BN (yP hl uL he hb) uL (eB l) rfl ho
theorem vS {l:List Pc} (hl:l.length<4611686018427387904) {f:Nat} {row:List D} {b:Pc→Bool} (uL:D.bH 0 0 row=true) (he:enters Tryz.prog f=true)
 (hb : ∀ x∈l,az Tryz.prog f ([.agg (cH x)]++ [.ptr 0 0]) ⟨[row],[]⟩ (.bool (b x)) ⟨[row],[]⟩) :
 az Tryz.prog gk [.slice .shared 5 (l.map cH), .gi f [.ptr 0 0]] ⟨[row],[]⟩ (.int .i64 (k7 b 0 l)) ⟨[row],[]⟩:=by
 generalize h:k7 b 0 l=p
 have k1 : ∀ n m,D.gw n m row=row:=fun n m=>ij n m _ uL
 refine az.go se rfl fun B Q hB hQ=>?_
 have⟨hC,hE,hM,hY⟩:=bC
 repeat' (first
 |simp only[go_sem,hC,hE,hM,hY,k1]
 |(with_reducible first|refine aX fun hc=>?_|refine aY fun hc=>?_|refine aZ (fun hc=>?_) fun hc=>?_)<;>(try simp only[hc,bs,↓reduceIte]at h)<;>try simp only[hc]
 |(with_reducible refine aB hQ ?_;(try cases h);simp only[aQ,aR,bn,bo,go_sem,hC,hE,hM,hY,k1];try exact bR))
 refine eM 1 0 ?_ ?_ (bd.ind (ι:=List Pc×Nat) (fun i=>l.drop i.2=i.1∧k7 b (i.2:Int) i.1=p) (fun i=>i.1.length)
  (fun i=> [(0, .slice .shared 5 (l.map cH)),(1, .gi f [.ptr 0 0]),(7, .int .i64 (l.length:Int)),(8, .int .i64 (i.2:Int))]) (fun i=>⟨[row],[]⟩) ?_ (l,0) ⟨rfl,h⟩)
 ·(simp only[go_sem,hC,hE,hM,hY,k1];try exact cb)
 ·(simp only[go_sem,hC,hE,hM,hY,k1];try exact cb)
 rintro⟨rest,k⟩ ⟨h1,h⟩ IH
 dsimp only at h1 h
 cases rest with
 |nil=>
  have hC:=drop_nil h1
  simp only[k7]at h
  repeat' (first
 |simp only[go_sem,hC,hE,hM,hY,k1]
 |(with_reducible first|refine aX fun hc=>?_|refine aY fun hc=>?_|refine aZ (fun hc=>?_) fun hc=>?_)<;>(try simp only[hc,bs,↓reduceIte]at h)<;>try simp only[hc]
 |(with_reducible refine aB hQ ?_;(try cases h);simp only[aQ,aR,bn,bo,go_sem,hC,hE,hM,hY,k1];try exact bR))
 |cons a rest=>
  obtain⟨hE,g2,hC,g4⟩:=drop_cons h1
  have cm:k<4611686018427387904:=by omega
  have hba:=hb a (List.mem_of_getElem? hE)
  simp only[k7]at h
  repeat' (first
 |simp only[go_sem,hC,hE,hM,hY,k1]
 |(with_reducible refine CV.use (he) (hba) ?_)
 |(with_reducible first|refine aX fun hc=>?_|refine aY fun hc=>?_|refine aZ (fun hc=>?_) fun hc=>?_)<;>(try simp only[hc,bs,↓reduceIte]at h)<;>try simp only[hc]
 |(with_reducible refine aB hQ ?_;(try cases h);simp only[aQ,aR,bn,bo,go_sem,hC,hE,hM,hY,k1];try exact bR))
  refine eM 1 0 ?_ ?_ (IH (rest,k+1) ⟨g2,h⟩ (Nat.lt_succ_self _))
  ·(simp only[go_sem,hC,hE,hM,hY,k1,aL cm];try exact cb)
  ·(simp only[go_sem,hC,hE,hM,hY,k1,aL cm];try exact cb)
theorem AT {l:List Pc} (hl:l.length<4611686018427387904) {f:Nat} {row:List D} {b:Pc→Bool} (uL:D.bH 0 0 row=true) (he:enters Tryz.prog f=true)
 (hb : ∀ x∈l,az Tryz.prog f ([.agg (cH x)]++ [.ptr 0 0]) ⟨[row],[]⟩ (.bool (b x)) ⟨[row],[]⟩) :
 az Tryz.prog gR [.slice .shared 5 (l.map cH), .gi f [.ptr 0 0]] ⟨[row],[]⟩ (.bool (l.any b)) ⟨[row],[]⟩:=by
 have k1 : ∀ n m,D.gw n m row=row:=fun n m=>ij n m _ uL
 have hi:=vS hl uL he hb
 have e:decide (k7 b 0 l≥0)=l.any b:=by
  have:=Gz b l 0 (Int.le_refl 0)
  cases hh:l.any b<;>simp_all
 refine az.go qO rfl fun B Q hB hQ=>?_
 have⟨hC,hE,hM,hY⟩:=bC
 repeat' (first
 |simp only[go_sem,hC,hE,hM,hY,k1,e]
 |(with_reducible refine CU (hi) ?_)
 |(with_reducible first|refine aX fun hc=>?_|refine aY fun hc=>?_|refine aZ (fun hc=>?_) fun hc=>?_)<;>(try simp only[hc,bs,↓reduceIte]at h)<;>try simp only[hc]
 |(with_reducible refine aB hQ ?_;simp only[aQ,aR,bn,bo,go_sem,hC,hE,hM,hY,k1,e];try exact bR))
mutual
def Sm.pre:Sm→List Sm
 |⟨id,kind,labels,name,pc,x,has,args,bm,bc⟩=>⟨id,kind,labels,name,pc,x,has,args,bm,bc⟩::(Sm.dm bm++Sm.dm bc)
def Sm.dm:List Sm→List Sm
 | []=> []
 |s::l=>s.pre++Sm.dm l
end
def Pg.pre (p:Pg):List Sm:=(p.procs.map fun f=>Sm.dm f.body).flatten
theorem Sm.qo (s:Sm):s.pre=s::(Sm.dm s.bm++Sm.dm s.bc):=by cases s;simp only[Sm.pre]
mutual
theorem aaP (proc up next loop:Int) (out:List Im) : ∀ s:Sm,∃ e:List Im,Im.one proc up next loop out s=out++e∧e.map Im.s=s.pre
 |⟨id,kind,labels,name,pc,x,has,args,bm,bc⟩=>by
  simp only[Im.one,Sm.pre]
  obtain⟨e1,h1,k1⟩:=zN proc ((out.length:Int)+1) (if kind==6 then(out.length:Int)+1 else next) (if kind==6 then(out.length:Int)+1 else loop) (out++ [⟨⟨id,kind,labels,name,pc,x,has,args,bm,bc⟩,proc,up,next,loop⟩]) bm
  obtain⟨e2,h2,k2⟩:=zN proc ((out.length:Int)+1) (if kind==6 then(out.length:Int)+1 else next) (if kind==6 then(out.length:Int)+1 else loop) (Im.rows proc ((out.length:Int)+1) (if kind==6 then(out.length:Int)+1 else next) (if kind==6 then(out.length:Int)+1 else loop) (out++ [⟨⟨id,kind,labels,name,pc,x,has,args,bm,bc⟩,proc,up,next,loop⟩]) bm) bc
  refine⟨⟨⟨id,kind,labels,name,pc,x,has,args,bm,bc⟩,proc,up,next,loop⟩::(e1++e2), ?_, ?_⟩
  ·rw[h2,h1];simp
  ·simp[k1,k2]
theorem zN (proc up next loop:Int) (out:List Im) : ∀ l:List Sm,∃ e:List Im,Im.rows proc up next loop out l=out++e∧e.map Im.s=Sm.dm l
 | []=>⟨[],by simp[Im.rows],rfl⟩
 |s::l=>by
  simp only[Im.rows,Sm.dm]
  obtain⟨e1,h1,k1⟩:=aaP proc up (if l.length=0 then next else(out.length:Int)+1+(s.jA:Int)) loop out s
  obtain⟨e2,h2,k2⟩:=zN proc up next loop (Im.one proc up (if l.length=0 then next else(out.length:Int)+1+(s.jA:Int)) loop out s) l
  refine⟨e1++e2, ?_,by simp[k1,k2]⟩
  rw[h2,h1];simp
end
theorem TC : ∀ (l:List Pc) (n:Nat) (h:Sh),h.lo.length=n→h.hi.length=n→
 ∃ e lo hi,Sh.go n h l = ⟨h.L++e,h.lo++lo,h.hi++hi⟩∧e.map Im.s=(l.map fun f=>Sm.dm f.body).flatten∧lo.length=l.length∧hi.length=l.length∧
  ∀ (i:Nat) (f:Pc),l[i]? = some f→∃ a b e' MX:List Im,lo[i]? = some (((h.L++a).length:Int)+1)∧hi[i]? = some (((h.L++a++b).length:Int)+1)∧b.map Im.s=Sm.dm f.body∧e=a++b++e'
 | [],n,h,hl,hh=>⟨[],[],[],by simp[Sh.go],rfl,rfl,rfl,fun i f h=>by simp at h⟩
 | f::l,n,h,hl,hh=>by
  simp only[Sh.go]
  obtain⟨e1,h1,k1⟩:=zN (n:Int) 0 (-1) 0 h.L f.body
  obtain⟨e2,lo,hi,h2,k2,h3,h4,h5⟩:=TC l (n+1) ⟨Im.rows (n:Int) 0 (-1) 0 h.L f.body,h.lo++ [(h.L.length:Int)+1],h.hi++ [((Im.rows (n:Int) 0 (-1) 0 h.L f.body).length:Int)+1]⟩ (by simp[hl]) (by simp[hh])
  refine⟨e1++e2,((h.L.length:Int)+1)::lo,(((Im.rows (n:Int) 0 (-1) 0 h.L f.body).length:Int)+1)::hi, ?_,by simp[k1,k2],by simp[h3],by simp[h4],fun i g ic=>?_⟩
  ·rw[h2,h1];simp
  ·cases i with
   |zero=>
    simp only[List.getElem?_cons_zero,Option.some.injEq]at ic
    subst ic
    exact⟨[],e1,e2,[],by simp,by rw[h1];simp,k1,by simp⟩
   |succ i=>
    simp only[List.getElem?_cons_succ]at ic
    obtain⟨a,b,e',MX,g1,g2,g3,g4⟩:=h5 i g ic
    refine⟨e1++a,b,e',MX, ?_, ?_,g3,by rw[g4];simp⟩
    ·rw[List.getElem?_cons_succ,g1,h1];simp
    ·rw[List.getElem?_cons_succ,g2,h1];simp
theorem nH (p:Pg):p.bh.L.map Im.s=p.pre∧∀ (i:Nat) (f:Pc),p.procs[i]? = some f→∃ a b e:List Im,p.bh.lo[i]? = some ((a.length:Int)+1)∧p.bh.hi[i]? = some (((a++b).length:Int)+1)∧b.map Im.s=Sm.dm f.body∧p.bh.L=a++b++e:=by
 obtain⟨e,lo,hi,h1,h2,h3,h4,h5⟩:=TC p.procs 0 ⟨[],[],[]⟩ rfl rfl
 unfold Pg.bh
 rw[h1]
 refine⟨by simpa[Pg.pre]using h2,fun i f hf=>?_⟩
 obtain⟨a,b,e',_,g1,g2,g3,g4⟩:=h5 i f hf
 exact⟨a,b,e',by simpa using g1,by simpa using g2,g3,by simpa using g4⟩
def Pg.at (p:Pg) (name:aF):Int:=k7 (fun f:Pc=>f.name==name) 0 p.procs
theorem aaQ (name:aF) (f:Pc):az Tryz.prog lI ([.agg (cH f)]++ [.ptr 0 0]) ⟨[[.str name]],[]⟩ (.bool (f.name==name)) ⟨[[.str name]],[]⟩:=by
 show az Tryz.prog lI [.agg (cH f), .ptr 0 0] _ _ _
 refine az.go yG rfl fun B Q hB hQ=>?_
 have⟨hC,hE,hM,hY⟩:=bC
 repeat' (first
 |simp only[go_sem,hC,hE,hM,hY]
 |(with_reducible refine aB hQ ?_;exact bg))
theorem Fb {p:Pg} (hs:p.procs.length<4611686018427387904) (name:aF) (s:St):az Tryz.prog iE [.dL (fw p) 0, .str name] s (.int .i64 (p.at name)) s:=by
 refine az.pure ?_ (by simp[D.bH,D.ok,uw]) rfl s
 have hi:=fun {s:St} {o:Nat} (ho:s.ah[o]? = some [.str name])=>BN (vS (l:=p.procs) (f:=lI) (row:= [.str name]) (b:=fun f:Pc=>f.name==name) hs rfl (by with_unfolding_all rfl) (fun x _=>aaQ name x)) rfl (wJ _) rfl ho
 have ic:=fun {s:St} {o:Nat} (ho:s.ah[o]? = some [.str name])=>(show az Tryz.prog gk [.slice .shared 5 (p.procs.map cH), .gi 93 [.ptr o 0]] s (.int .i64 (p.at name)) s from hi ho)
 unfold S0
 rw[nW]
 refine az.go AP rfl fun B Q hB hQ=>?_
 have⟨hC,hE,hM,hY⟩:=bC
 repeat' (first
 |simp only[go_sem,hC,hE,hM,hY]
 |(with_reducible refine CU (ic (by with_unfolding_all rfl)) ?_)
 |(with_reducible refine aB hQ ?_;exact bg))
theorem TD : ∀ (l:List Pc) (n:Nat) (h:Sh),(Sh.go n h l).L.length≤h.L.length+Pc.br l
 | [],n,h=>by simp[Sh.go]
 |f::l,n,h=>by
  simp only[Sh.go]
  refine Nat.le_trans (TD l _ _) ?_
  have:=gH (n:Int) 0 (-1) 0 h.L f.body
  have:=nG f.body
  simp only[Pc.br,Pc.size];omega
theorem pw (p:Pg):p.bh.L.length≤Pc.br p.procs:=by have:=TD p.procs 0 ⟨[],[],[]⟩;simpa[Pg.bh]using this
theorem aeu {p:Pg} {i:Nat} (hs:Pc.br p.procs<1000000000) {a b e:List Im} (h1:p.bh.lo[i]? = some ((a.length:Int)+1)) (h2:p.bh.hi[i]? = some (((a++b).length:Int)+1)) (h4:p.bh.L=a++b++e) (s:St) :
 az Tryz.prog gQ [.dL (fw p) 0, .int .i64 (i:Int)] s (.slice .shared 17 (b.map dK)) s:=by
 refine az.pure ?_ (by simp[D.bH,D.ok,uw]) (by simp[D.ok,Tag.ok,Jl]) s
 have hL:p.bh.L.length<1000000000:=Nat.lt_of_le_of_lt (pw p) hs
 have l1:(i:Int)<(p.bh.lo.length:Int):=by have:=(List.getElem?_eq_some_iff.1 h1).1;omega
 have l2:(i:Int)<(p.bh.hi.length:Int):=by have:=(List.getElem?_eq_some_iff.1 h2).1;omega
 have Zl:a.length+b.length≤p.bh.L.length:=by rw[h4];simp
 have w1:IntKind.wrap .i64 ((a.length:Int)+1 - 1)=(a.length:Int):=by rw[show(a.length:Int)+1 - 1=(a.length:Int) by omega];exact dN (by omega) (by omega)
 have w2:IntKind.wrap .i64 (((a.length+b.length:Nat):Int)+1 - 1)=((a.length+b.length:Nat):Int):=by rw[show((a.length+b.length:Nat):Int)+1 - 1=((a.length+b.length:Nat):Int) by omega];exact dN (by omega) (by omega)
 have c1:((a.length:Int)≤((a.length+b.length:Nat):Int))=True:=by simp only[eq_iff_iff,iff_true];omega
 have c2:(((a.length+b.length:Nat):Int)≤(p.bh.L.length:Int))=True:=by simp only[eq_iff_iff,iff_true];omega
 have hb:List.drop a.length (List.take (a.length+b.length) (List.map dK p.bh.L))=List.map dK b:=by rw[h4];simp[List.map_append,List.take_append,List.drop_append]
 unfold S0
 rw[nW]
 refine az.go C8 rfl fun B Q hB hQ=>?_
 have⟨hC,hE,hM,hY⟩:=bC
 repeat' (first
 |simp only[go_sem,hC,hE,hM,hY,h1,h2,List.length_append,w1,w2,c1,c2,or_true,true_and,and_self,ite_self,Int.toNat_natCast,hb]
 |(with_reducible first|refine aX fun hc=>?_|refine aY fun hc=>?_|refine aZ (fun hc=>?_) fun hc=>?_)<;>(try simp only[hc,bs,↓reduceIte]at h)<;>try simp only[hc]
 |(with_reducible refine aB hQ ?_;(try cases h);simp only[aQ,aR,bn,bo,go_sem,hC,hE,hM,hY,h1,h2,List.length_append,w1,w2,c1,c2,or_true,true_and,and_self,ite_self,Int.toNat_natCast,hb];try exact bR)
 |(cases h;done))
theorem WL {p:Pg} {i:Nat} {f:Pc} (hf:p.procs[i]? = some f) (hs:Pc.br p.procs<1000000000) : ∃ it:List Im,it.map Im.s=Sm.dm f.body∧∀ s,az Tryz.prog gQ [.dL (fw p) 0, .int .i64 (i:Int)] s (.slice .shared 17 (it.map dK)) s:=by
 obtain⟨a,b,e,h1,h2,h3,h4⟩:=(nH p).2 i f hf
 exact⟨b,h3,aeu hs h1 h2 h4⟩
end Go.Abs
