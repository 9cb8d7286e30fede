/-
  What is proved here: part 2 of the road to the claim (Codes2, Have2, Codes3, Codes4, Have4, Codes5, Have5, Codes6, Have6, Have3, Frz, MirLex, MirMay, Prs, Lex1, Lex2, RefLex1, Prs2, Ref1, Ref2, Ref3, RefMay1, RefMay2, Flat1, Flat2, Flat3, Sl1, MirFlat2, Sl2).
  No conditions.
-/
import Derived.Test.YtpjadlleefgcpabGreatRnO1
import Derived.Test.YtpjadlleefgcpabGreatProg
import Derived.KernelRfl

set_option linter.unusedSimpArgs false
set_option linter.unusedVariables false
namespace Go.Abs
abbrev QJW:AC:= .seq (.run [.m 3 aJ,(.o 4 (.build [(.int .i64 0),(.int .i64 0),(.str []),(.slice .full 0 [])] [(0,(1,(.k (.int .i64 1)))),(1,(1,bM))])), .op none none (.store cY dE 4)]) .ret
abbrev QJX:AC:= .seq (.run [.o 2 (.alloc [(.int .i64 0),(.int .i64 0),(.str []),(.slice .full 0 [])])]) QJW
abbrev QK0:AC:= .seq (.run [.m 3 aJ,(.o 4 (.build [(.int .i64 0),(.int .i64 0),(.str []),(.slice .full 0 [])] [(0,(1,(.k (.int .i64 2)))),(2,(1,bM))])), .op none none (.store cY dE 4)]) .ret
abbrev QK1:AC:= .seq (.run [.o 2 (.alloc [(.int .i64 0),(.int .i64 0),(.str []),(.slice .full 0 [])])]) QK0
abbrev QK5:AC:= .seq (.run [.o 4 (.box a8), .o 5 (.box cY), .o 6 (.alloc [(.int .i64 0),(.int .i64 0),(.str []),(.slice .full 0 [])])]) (.seq (.run [.m 7 aJ, .o 8 (.load dE true 4), .o 9 (.load bl true 4), .o 10 (.cf [(.int .i64 0),(.int .i64 0),(.str []),(.slice .full 0 [])] 4 2 [(0,bW),(1,cy)]), .o 11 (.build [(.int .i64 0),(.int .i64 0),(.str []),(.slice .full 0 [])] [(0,(1,bX)),(3,(1,bD))]), .op none none (.store bY bV 4)]) .ret)
abbrev QK9:AC:= .seq (.run [(.o 16 (.build [(.int .i64 0),(.int .i64 0)] [(0,(1,(.k (.int .i64 1))))])), .op none none (.store cY ct 2)]) .ret
abbrev QKL:AC:= .seq (.block 1 (.seq (.run [.o 22 (.cr cU dw 5), .o 23 (.load dM true 5), .o 5 (.alloc [(.str []),(.slice .full 0 []),(.slice .full 0 []),(.slice .full 0 []),(.slice .full 0 [])]), .op none none (.store bl dH 5)]) (.run [.m 24 bM, .o 25 (.aj bl 0), .o 26 (.load dm false 1), .o 27 (.cf [(.str [])] 1 1 [(0,dZ)]), .o 28 (.app 1 16 di eg), .m 3 eR]))) (.run [.o 29 (.bin .add dw (.k (.int .i64 1))), .m 20 eN])
abbrev QKP:AC:= .block 0 (.loop (.seq (.run [.o 21 (.bin .lss dw dh)]) (.seq (.cond dD .skip (.exit 0)) QKL)))
abbrev QKU:AC:= .seq (.run [(.o 53 (.build [(.int .i64 0),(.int .i64 0)] [(0,(1,(.k (.int .i64 5))))])), .op none none (.store cY iT 2)]) .ret
abbrev QL5:AC:= .seq (.run [(.o 73 (.build [(.int .i64 0),(.int .i64 0)] [(0,(1,(.k (.int .i64 5))))])), .op none none (.store cY um 2)]) .ret
abbrev QLE:AC:= .seq (.run [.o 89 (.aj cb 0), .o 90 (.aj xG 0), .o 91 (.load zC false 1),(.o 92 (.build [(.int .i64 0),(.int .i64 0)] [(0,(1,(.k (.int .i64 5)))),(1,(1,BH))])), .op none none (.store cY DW 2)]) .ret
abbrev QLK:AC:= .seq (.block 5 (.seq (.run [.o 80 (.cr uq ur 17), .o 81 (.load zA true 17), .o 12 (.alloc [(.int .i64 0),(.int .i64 0),(.slice .full 0 []),(.str []),(.str []),(.int .i64 0),(.int .i64 0),(.str []),(.slice .full 0 []),(.bool false),(.slice .full 0 []),(.slice .full 0 []),(.slice .full 0 []),(.int .i64 0),(.int .i64 0),(.int .i64 0),(.int .i64 0)]), .op none none (.store cb zB 17)]) (.seq (.run [.o 82 (.load a8 true 2), .o 83 (.load cy true 5), .m 84 bM, .o 85 (.aj cb 0), .o 86 (.load BD true 13), .c 87 qC [Bz,BA,BB,BE], .o 88 (.un .not BF)]) (.cond BG QLE .skip)))) (.run [.o 93 (.bin .add ur (.k (.int .i64 1))), .m 78 Gq])
abbrev QLO:AC:= .block 4 (.loop (.seq (.run [.o 79 (.bin .lss ur vO)]) (.seq (.cond zz .skip (.exit 4)) QLK)))
abbrev QLQ:AC:= .seq (.seq (.run [.m 66 bD, .c 67 ou [rQ], .m 68 rR, .g 69 68 false (.mv bD), .g 70 68 false (.uQ 118 [a8]), .d 71 68 false gd [sC,rS], .o 72 (.pick qP (.k (.bool true)) vL)]) (.cond uk QL5 .skip)) (.seq (.run [.m 74 bX, .m 75 bW, .c 76 gT [vM,vN], .o 77 (.len uq), .o 78 (.mv (.k (.int .i64 0)))]) QLO)
abbrev QLV:AC:= .seq (.block 3 (.seq (.run [.m 61 kK, .o 62 (.cr lS kK 5), .o 63 (.load n8 true 5), .o 9 (.alloc [(.str []),(.slice .full 0 []),(.slice .full 0 []),(.slice .full 0 []),(.slice .full 0 [])]), .m 8 n7, .op none none (.store cy n9 5)]) (.seq (.run [.o 64 (.load cy true 5), .c 65 sY [px], .m 10 qO]) QLQ))) (.run [.o 94 (.bin .add kK (.k (.int .i64 1))), .m 59 Gr])
abbrev QLZ:AC:= .block 2 (.loop (.seq (.run [.o 60 (.bin .lss kK lJ)]) (.seq (.cond nz .skip (.exit 2)) QLV)))
abbrev QM3:AC:= .seq (.seq (.run [.o 56 (.aj a8 1), .o 57 (.load k9 false 1), .o 58 (.len lS), .o 59 (.mv (.k (.int .i64 0)))]) QLZ) (.seq (.run [.o 95 (.build [(.int .i64 0),(.int .i64 0)] []), .op none none (.store cY Gs 2)]) .ret)
abbrev QM5:AC:= .seq (.seq (.run [.o 32 (.aj a8 0), .o 33 (.load fe false 1), .c 34 ou [eZ], .m 35 fm, .g 36 35 false (.mv bM), .d 37 35 false ou [fp], .o 38 (.pick ff (.k (.bool true)) fI), .m 39 fV, .g 40 39 false (.mv bY), .g 41 39 false (.bin .lss gk (.k (.int .i64 0))), .o 42 (.pick fO (.k (.bool true)) gf), .m 43 gX, .g 44 43 false (.aj a8 1), .g 45 43 false (.load iJ false 1), .g 46 43 false (.mv bY), .g 47 43 false (.cr jg jh 5), .g 48 43 false (.aj jJ 1), .g 49 43 false (.load iE false 1), .g 50 43 false (.len iK), .g 51 43 false (.bin .gtr jK (.k (.int .i64 0))), .o 52 (.pick gL (.k (.bool true)) ji)]) (.cond jj QKU .skip)) (.seq (.run [.o 54 (.load a8 true 2), .c 55 k7 [jL], .m 7 jM]) QM3)
abbrev QM7:AC:= .seq (.seq (.run [.o 17 (.aj a8 1), .o 18 (.load cZ false 1), .o 19 (.len cU), .o 20 (.mv (.k (.int .i64 0)))]) QKP) (.seq (.run [.m 30 bM,(.c 31 gb [eX,(.k (.str [109,97,105,110]))]), .m 6 eY]) QM5)
abbrev QM9:AC:= .seq (.seq (.run [.o 13 (.load a8 true 2), .c 14 rH [bT], .o 15 (.un .not bN)]) (.cond cz QK9 .skip)) (.seq (.run [.o 3 (.mv (.k (.slice .full 0 [])))]) QM7)
abbrev QMA:AC:= .seq (.run [.o 1 (.box aJ), .o 2 (.alloc [(.int .i64 0),(.int .i64 0)])]) QM9
abbrev QME:AC:= .seq (.run [(.o 9 (.build [(.int .i64 0),(.int .i64 0)] [(0,(1,(.k (.int .i64 1))))])), .op none none (.store cY cy 2)]) .ret
abbrev QMN:AC:= .seq (.run [.o 31 (.aj dE 0), .o 32 (.aj eY 0), .o 33 (.load fe false 1),(.o 34 (.build [(.int .i64 0),(.int .i64 0)] [(0,(1,(.k (.int .i64 6)))),(1,(1,eZ))])), .op none none (.store cY fm 2)]) .ret
abbrev QMQ:AC:= .seq (.run [.o 18 (.cr bN ct 17), .o 19 (.load cU true 17), .o 4 (.alloc [(.int .i64 0),(.int .i64 0),(.slice .full 0 []),(.str []),(.str []),(.int .i64 0),(.int .i64 0),(.str []),(.slice .full 0 []),(.bool false),(.slice .full 0 []),(.slice .full 0 []),(.slice .full 0 []),(.int .i64 0),(.int .i64 0),(.int .i64 0),(.int .i64 0)]), .op none none (.store dE dh 17)]) (.seq (.run [.o 20 (.aj dE 0), .o 21 (.aj dw 1), .o 22 (.load dD false 1), .o 23 (.bin .eql dM (.k (.int .i64 4))), .m 24 dH, .g 25 24 true (.load a8 true 2), .g 26 24 true (.aj dE 0), .g 27 24 true (.load dZ true 13), .d 28 24 true vD [dm,eg], .g 29 24 true (.un .not eR), .o 30 (.pick di eN (.k (.bool false)))]) (.cond eX QMN .skip))
abbrev QMU:AC:= .seq (.cond cZ .skip (.exit 0)) (.seq (.block 1 QMQ) (.run [.o 35 (.bin .add ct (.k (.int .i64 1))), .m 16 ff]))
abbrev QMY:AC:= .seq (.run [.o 10 (.load a8 true 2), .c 11 k7 [bD], .o 12 (.br bV), .o 13 (.aj cb 2), .o 14 (.load bT false 1), .o 15 (.len bN), .o 16 (.mv (.k (.int .i64 0)))]) (.block 0 (.loop (.seq (.run [.o 17 (.bin .lss ct cz)]) QMU)))
abbrev QN2:AC:= .seq (.seq (.run [.o 5 (.load a8 true 2), .c 6 lW [bl], .o 7 (.uC bY 0 false 1), .o 8 (.bin .neq bX (.k (.int .i64 0)))]) (.cond bW QME .skip)) (.seq QMY (.seq (.run [.o 36 (.build [(.int .i64 0),(.int .i64 0)] []), .op none none (.store cY fp 2)]) .ret))
abbrev QN3:AC:= .seq (.run [.o 1 (.box aJ), .o 2 (.alloc [(.int .i64 0),(.int .i64 0)])]) QN2
abbrev QN8:AC:= .seq (.run [(.o 14 (.build [(.int .i64 0),(.int .i64 0)] [(0,(1,(.k (.int .i64 1))))])), .op none none (.store cY bN 2)]) .ret
abbrev QNO:AC:= .seq (.run [.o 47 (.aj cy 0), .o 48 (.aj jJ 0), .o 49 (.load iE false 1),(.o 50 (.build [(.int .i64 0),(.int .i64 0)] [(0,(1,(.k (.int .i64 7)))),(1,(1,iK))])), .op none none (.store cY jK 2)]) .ret
abbrev QNR:AC:= .seq (.run [.m 32 bY, .o 33 (.aj cy 0), .o 34 (.aj eZ 2), .o 35 (.load fm false 1), .c 36 ql [fe,ff], .m 31 fp, .o 37 (.ext eY 0), .o 38 (.ext eY 1), .m 6 fI, .m 7 fV]) (.seq (.run [.m 39 bX, .o 40 (.un .not fO), .m 41 gk, .g 42 41 false (.mv bM), .g 43 41 false (.load cy true 17), .d 44 41 false vE [gX,gL], .g 45 41 false (.un .not iJ), .o 46 (.pick gf (.k (.bool true)) jg)]) (.cond jh QNO .skip))
abbrev QNV:AC:= .seq (.block 3 (.seq (.run [.o 29 (.cr dm eg 17), .o 30 (.load eN true 17), .o 9 (.alloc [(.int .i64 0),(.int .i64 0),(.slice .full 0 []),(.str []),(.str []),(.int .i64 0),(.int .i64 0),(.str []),(.slice .full 0 []),(.bool false),(.slice .full 0 []),(.slice .full 0 []),(.slice .full 0 []),(.int .i64 0),(.int .i64 0),(.int .i64 0),(.int .i64 0)]), .op none none (.store cy eX 17)]) QNR)) (.run [.o 51 (.bin .add eg (.k (.int .i64 1))), .m 27 ji])
abbrev QNZ:AC:= .block 2 (.loop (.seq (.run [.o 28 (.bin .lss eg dZ)]) (.seq (.cond eR .skip (.exit 2)) QNV)))
abbrev QO4:AC:= .seq (.run [(.o 61 (.build [(.int .i64 0),(.int .i64 0)] [(0,(1,(.k (.int .i64 7))))])), .op none none (.store cY n7 2)]) .ret
abbrev QO8:AC:= .seq (.seq (.run [.m 23 bM, .m 24 dE, .c 25 gT [dH,di], .o 26 (.len dm), .o 27 (.mv (.k (.int .i64 0)))]) QNZ) (.seq (.run [.m 53 bY, .o 54 (.aj bl 4), .o 55 (.load jL false 1), .c 56 ql [iT,jM], .m 52 k9, .o 57 (.ext jj 0), .o 58 (.ext jj 1), .m 7 lJ]) (.seq (.run [.m 59 bX, .o 60 (.un .not kK)]) (.cond nz QO4 .skip)))
abbrev QOA:AC:= .seq (.run [.o 6 (.mv (.k (.slice .full 0 [])))]) (.seq (.run [.o 7 (.mv (.k (.bool true)))]) QO8)
abbrev QOE:AC:= .seq (.block 1 (.seq (.run [.m 20 cU, .o 21 (.cr ct cU 5), .o 22 (.load dD true 5), .o 5 (.alloc [(.str []),(.slice .full 0 []),(.slice .full 0 []),(.slice .full 0 []),(.slice .full 0 [])]), .m 4 dw, .op none none (.store bl dM 5)]) QOA)) (.run [.o 62 (.bin .add cU (.k (.int .i64 1))), .m 18 n8])
abbrev QOI:AC:= .block 0 (.loop (.seq (.run [.o 19 (.bin .lss cU cZ)]) (.seq (.cond dh .skip (.exit 0)) QOE)))
abbrev QOM:AC:= .seq (.seq (.run [.o 15 (.aj a8 1), .o 16 (.load cz false 1), .o 17 (.len ct), .o 18 (.mv (.k (.int .i64 0)))]) QOI) (.seq (.run [.o 63 (.build [(.int .i64 0),(.int .i64 0)] []), .op none none (.store cY n9 2)]) .ret)
abbrev QOO:AC:= .seq (.run [.o 10 (.load a8 true 2), .c 11 rK [bD], .m 3 bV]) (.seq (.seq (.run [.m 12 bM, .o 13 (.He false cb (.k .ew))]) (.cond bT QN8 .skip)) QOM)
abbrev QOP:AC:= .seq (.run [.o 1 (.box aJ), .o 2 (.alloc [(.int .i64 0),(.int .i64 0)])]) QOO
abbrev QOT:AC:= .seq (.run [(.o 12 (.build [(.int .i64 0),(.int .i64 0)] [(0,(1,(.k (.int .i64 1))))])), .op none none (.store cY cb 2)]) .ret
abbrev QP1:AC:= .par [.m 21 bM, .o 22 (.aj bl 0), .o 23 (.load dM false 1), .o 24 (.load a8 true 2), .o 25 (.aj bl 0), .o 26 (.load dm false 1), .c 27 rL [di,dZ], .op none none (.y9 dD dH eg)] [(3,0),(4,0),(5,0),(6,0),(0,0),(1,0),(2,1),(7,0)]
abbrev QP5:AC:= .seq (.block 1 (.seq (.run [.o 19 (.cr cz cZ 5), .o 20 (.load dh true 5), .o 5 (.alloc [(.str []),(.slice .full 0 []),(.slice .full 0 []),(.slice .full 0 []),(.slice .full 0 [])]), .op none none (.store bl dw 5)]) QP1)) (.run [.o 28 (.bin .add cZ (.k (.int .i64 1))), .m 17 eR])
abbrev QP9:AC:= .block 0 (.loop (.seq (.run [.o 18 (.bin .lss cZ ct)]) (.seq (.cond cU .skip (.exit 0)) QP5)))
abbrev QPH:AC:= .seq (.run [.o 54 (.aj bX 0), .o 55 (.aj jL 0), .o 56 (.load jM false 1),(.o 57 (.build [(.int .i64 0),(.int .i64 0)] [(0,(1,(.k (.int .i64 8)))),(1,(1,k9))])), .op none none (.store cY lS 2)]) .ret
abbrev QPK:AC:= .seq (.run [.o 37 (.cr eZ ff 17), .o 38 (.load fI true 17), .o 7 (.alloc [(.int .i64 0),(.int .i64 0),(.slice .full 0 []),(.str []),(.str []),(.int .i64 0),(.int .i64 0),(.str []),(.slice .full 0 []),(.bool false),(.slice .full 0 []),(.slice .full 0 []),(.slice .full 0 []),(.int .i64 0),(.int .i64 0),(.int .i64 0),(.int .i64 0)]), .op none none (.store bX fV 17)]) (.seq (.run [.o 39 (.aj bX 0), .o 40 (.aj fO 1), .o 41 (.load gk false 1), .o 42 (.bin .eql gf (.k (.int .i64 4))), .m 43 gX, .g 44 43 true (.aj bX 0), .g 45 43 true (.load iJ true 13), .g 46 43 true (.mv bM), .g 47 43 true (.aj bX 0), .g 48 43 true (.aj jJ 4), .g 49 43 true (.load iE false 1), .g 50 43 true (.wz jh iK (.slice .full 0 [])), .d 51 43 true sy [jg,jK], .g 52 43 true (.un .not ji), .o 53 (.pick gL jj (.k (.bool false)))]) (.cond iT QPH .skip))
abbrev QPO:AC:= .seq (.cond fp .skip (.exit 2)) (.seq (.block 3 QPK) (.run [.o 58 (.bin .add ff (.k (.int .i64 1))), .m 35 lJ]))
abbrev QPS:AC:= .seq (.run [.o 29 (.load a8 true 2), .c 30 k7 [eN], .o 31 (.br eX), .o 32 (.aj eY 2), .o 33 (.load fe false 1), .o 34 (.len eZ), .o 35 (.mv (.k (.int .i64 0)))]) (.block 2 (.loop (.seq (.run [.o 36 (.bin .lss ff fm)]) QPO)))
abbrev QPW:AC:= .seq (.seq (.run [.o 14 (.aj a8 1), .o 15 (.load bN false 1), .o 16 (.len cz), .o 17 (.mv (.k (.int .i64 0)))]) QP9) (.seq QPS (.seq (.run [.o 59 (.build [(.int .i64 0),(.int .i64 0)] []), .op none none (.store cY kK 2)]) .ret))
abbrev QPY:AC:= .seq (.seq (.run [.o 8 (.load a8 true 2), .c 9 qB [bW], .o 10 (.uC cy 0 false 1), .o 11 (.bin .neq bD (.k (.int .i64 0)))]) (.cond bV QOT .skip)) (.seq (.run [.op (some 13) none .uR, .m 3 bT]) QPW)
abbrev QPZ:AC:= .seq (.run [.o 1 (.box aJ), .o 2 (.alloc [(.int .i64 0),(.int .i64 0)])]) QPY
abbrev QQ8:AC:= .cond bT (.seq (.run [.o 2 (.mv (.k (.bool false)))]) .ret) .skip
abbrev QQD:AC:= .seq (.block 1 (.seq (.run [.o 9 (.cr bl bX 1), .o 10 (.load cy false 1), .m 4 bD]) (.seq (.run [.m 11 dE, .c 12 nY [bV], .o 13 (.un .not cb)]) QQ8))) (.run [.o 14 (.bin .add bX (.k (.int .i64 1))), .m 7 bN])
abbrev QQH:AC:= .block 0 (.loop (.seq (.run [.o 8 (.bin .lss bX bY)]) (.seq (.cond bW .skip (.exit 0)) QQD)))
abbrev QQL:AC:= .seq (.seq (.run [.m 5 aJ, .o 6 (.len bl), .o 7 (.mv (.k (.int .i64 0)))]) QQH) (.seq (.run [.o 2 (.mv (.k (.bool true)))]) .ret)
abbrev QQM:AC:= .seq (.run [.o 2 (.mv (.k (.bool false)))]) QQL
abbrev QQR:AC:= .cond ct (.seq (.run [.o 2 (.mv (.k (.bool false)))]) .ret) .skip
abbrev QQV:AC:= .seq (.seq (.run [.m 3 aJ, .o 4 (.nR bM), .o 5 (.bin .lss dE (.k (.int .i64 1))), .m 6 bl, .g 7 6 false (.mv aJ), .g 8 6 false (.nR bX), .g 9 6 false (.bin .gtr bW (.k (.int .i64 8))), .o 10 (.pick bY (.k (.bool true)) cy), .m 11 bD, .g 12 11 false (.mv aJ), .g 13 11 false (.oY cb (.k (.int .i64 0))), .d 14 11 false pk [bT], .g 15 11 false (.un .not bN), .o 16 (.pick bV (.k (.bool true)) cz)]) QQR) (.seq (.run [.m 17 aJ, .c 18 wP [cZ,(.k (.int .i64 0))], .m 19 aJ, .o 20 (.nR dh), .o 21 (.bin .eql cU dw), .m 22 dD, .g 23 22 true (.mv aJ), .d 24 22 true uX [dH], .g 25 22 true (.un .not di), .o 26 (.pick dM dm (.k (.bool false))), .m 2 dZ]) .ret)
abbrev QQW:AC:= .seq (.run [.o 2 (.mv (.k (.bool false)))]) QQV
abbrev QR1:AC:= .cond cz (.seq (.run [.o 6 (.mv (.k (.bool false)))]) .ret) .skip
abbrev QR8:AC:= .par [.m 29 aJ, .o 30 (.br eN), .o 31 (.aj eX 0), .o 32 (.load eY false 1), .o 33 (.bin .gtr fe (.k (.int .i64 200))), .m 34 eZ, .g 35 34 false (.aj bW 0), .g 36 34 false (.load ff false 1), .g 37 34 false (.mv aJ), .g 38 34 false (.br fI), .g 39 34 false (.aj fV 0), .g 40 34 false (.load fO false 1), .g 41 34 false (.bin .neq fp gk), .o 42 (.pick fm (.k (.bool true)) gf), .m 43 gX, .g 44 43 false (.aj bW 2), .g 45 43 false (.load iJ false 1), .d 46 43 false nq [jg], .g 47 43 false (.un .not jh), .o 48 (.pick gL (.k (.bool true)) jJ), .m 49 iE, .g 50 49 false (.load bW true 13), .d 51 49 false uf [jK], .g 52 49 false (.un .not ji), .o 53 (.pick iK (.k (.bool true)) jj)] [(0,0),(1,0),(2,0),(3,0),(4,0),(5,0),(6,0),(7,0),(8,0),(9,0),(10,0),(11,0),(12,0),(13,0),(14,0),(15,0),(16,0),(17,0),(18,0),(19,0),(20,0),(21,0),(22,0),(23,0),(24,0)]
abbrev QRB:AC:= .cond iT (.seq (.run [.o 6 (.mv (.k (.bool false)))]) .ret) .skip
abbrev QRG:AC:= .cond sC (.seq (.run [.o 6 (.mv (.k (.bool false)))]) .ret) .skip
abbrev QRI:AC:= .seq (.seq QR8 QRB) (.seq (.run [.m 54 aJ, .o 55 (.aj bW 11), .o 56 (.load jM false 1), .m 57 cY, .o 58 (.bin .add lS (.k (.int .i64 1))), .c 59 kI [jL,k9,lJ], .o 60 (.un .not kK), .m 61 nz, .g 62 61 false (.mv aJ), .g 63 61 false (.aj bW 12), .g 64 61 false (.load n9 false 1), .g 65 61 false (.mv cY), .g 66 61 false (.bin .add qO (.k (.int .i64 1))), .d 67 61 false kI [n8,px,rQ], .g 68 61 false (.un .not rR), .o 69 (.pick n7 (.k (.bool true)) qP)]) QRG)
abbrev QRK:AC:= .seq (.run [.o 20 (.cr ct cU 13), .o 21 (.load dw true 13), .o 8 (.alloc [(.int .i64 0),(.int .i64 0),(.slice .full 0 []),(.str []),(.str []),(.int .i64 0),(.int .i64 0),(.str []),(.slice .full 0 []),(.bool false),(.slice .full 0 []),(.slice .full 0 []),(.slice .full 0 [])]), .op none none (.store bW dD 13)]) (.seq (.run [.m 22 aJ, .o 23 (.br dM), .o 24 (.aj dH 0), .o 25 (.load di false 1), .o 26 (.bin .add dm (.k (.int .i64 1))), .o 27 (.br dM), .o 28 (.aj eg 0), .op none none (.store eR dZ 1)]) QRI)
abbrev QRO:AC:= .seq (.cond dh .skip (.exit 0)) (.seq (.block 1 QRK) (.run [.o 70 (.bin .add cU (.k (.int .i64 1))), .m 18 rS]))
abbrev QRS:AC:= .seq (.run [.m 16 a8, .o 17 (.len ct), .o 18 (.mv (.k (.int .i64 0)))]) (.block 0 (.loop (.seq (.run [.o 19 (.bin .lss cU cZ)]) QRO)))
abbrev QRV:AC:= .seq QRS (.seq (.run [.o 6 (.mv (.k (.bool true)))]) .ret)
abbrev QRW:AC:= .seq (.seq (.run [.m 9 cY, .o 10 (.bin .gtr cy (.k (.int .i64 12))), .m 11 bD, .g 12 11 true (.mv a8), .g 13 11 true (.len cb), .g 14 11 true (.bin .gtr bT (.k (.int .i64 0))), .o 15 (.pick bV bN (.k (.bool false)))]) QR1) QRV
abbrev QRX:AC:= .seq (.run [.o 6 (.mv (.k (.bool false)))]) QRW
abbrev QS2:AC:= .cond dE (.seq (.run [.o 2 (.mv (.k (.slice .full 0 [])))]) .ret) .skip
abbrev QS7:AC:= .seq (.run [.o 2 (.mv (.k (.slice .full 0 [])))]) (.seq (.seq (.run [.m 3 aJ, .nil (some 4) none false bM]) QS2) (.seq (.run [.o 5 (.cf [(.str []),(.bool false)] 2 0 []), .m 6 aJ, .o 7 (.app 2 24 bl bY), .m 2 bX]) .ret))
abbrev QSK:AC:= .par [.o 26 (.aj bD 2), .o 27 (.load dZ false 1), .c 28 fi [eg], .o 29 (.aj bD 5), .o 30 (.load eN true 4), .c 31 mE [eX], .o 32 (.aj bV 2), .op none none (.store fe eR 1), .o 33 (.aj bV 5), .op none none (.store eZ eY 4), .o 34 (.aj bV 10), .op none none (.store fm (.k (.slice .full 0 [])) 1)] [(0,0),(1,0),(2,0),(3,0),(4,1),(5,0),(6,0),(7,0),(8,0),(9,0),(10,0),(11,0)]
abbrev QST:AC:= .block 3 (.seq (.run [.o 40 (.cr fp fV 6), .o 41 (.load gk true 6), .o 13 (.alloc [(.bool false),(.str []),(.int .i64 0),(.int .i64 0),(.str []),(.slice .full 0 [])]), .op none none (.store bT gf 6)]) (.seq (.run [.o 42 (.aj bT 2), .o 43 (.load gX true 4), .c 44 mE [gL], .o 45 (.aj bT 2), .op none none (.store jg iJ 4)]) (.run [.o 46 (.aj bV 10), .o 47 (.load jh false 1), .o 48 (.load bT true 6), .o 49 (.cf [(.bool false),(.str []),(.int .i64 0),(.int .i64 0),(.str []),(.slice .full 0 [])] 6 1 [(0,iE)]), .o 50 (.app 6 80 jJ iK), .o 51 (.aj bV 10), .op none none (.store ji jK 1)])))
abbrev QSW:AC:= .seq (.cond fO .skip (.exit 2)) (.seq QST (.run [.o 52 (.bin .add fV (.k (.int .i64 1))), .m 38 jj]))
abbrev QT0:AC:= .seq (.run [.o 35 (.aj bD 10), .o 36 (.load ff false 1), .o 37 (.len fp), .o 38 (.mv (.k (.int .i64 0)))]) (.block 2 (.loop (.seq (.run [.o 39 (.bin .lss fV fI)]) QSW)))
abbrev QT6:AC:= .seq QT0 (.seq (.run [.o 54 (.aj bD 11), .o 55 (.load jL false 1), .m 56 a8, .m 57 cY, .c 58 kT [jM,k9,lS], .m 53 lJ, .o 59 (.ext iT 0), .o 60 (.ext iT 1), .o 61 (.aj bV 11), .op none none (.store n7 kK 1), .m 1 nz]) (.seq (.run [.o 63 (.aj bD 12), .o 64 (.load n9 false 1), .m 65 a8, .m 66 cY, .c 67 kT [px,qO,rQ], .m 62 rR, .o 68 (.ext n8 0), .o 69 (.ext n8 1), .o 70 (.aj bV 12), .op none none (.store rS qP 1), .m 1 sC]) (.run [.m 71 bW, .o 72 (.load bV true 13), .o 73 (.cf [(.int .i64 0),(.int .i64 0),(.slice .full 0 []),(.str []),(.str []),(.int .i64 0),(.int .i64 0),(.str []),(.slice .full 0 []),(.bool false),(.slice .full 0 []),(.slice .full 0 []),(.slice .full 0 [])] 13 1 [(0,uk)]), .o 74 (.app 13 208 vL um), .m 8 vM])))
abbrev QT9:AC:= .seq (.run [.o 22 (.load bD true 13), .o 11 (.alloc [(.int .i64 0),(.int .i64 0),(.slice .full 0 []),(.str []),(.str []),(.int .i64 0),(.int .i64 0),(.str []),(.slice .full 0 []),(.bool false),(.slice .full 0 []),(.slice .full 0 []),(.slice .full 0 [])]), .op none none (.store bV dM 13)]) (.seq (.seq (.run [.m 23 cY]) (.cond dH (.run [.m 24 a8, .o 25 (.aj bV 0), .op none none (.store dm di 1)]) .skip)) (.seq QSK QT6))
abbrev QTB:AC:= .seq (.run [.o 18 (.cr bN ct 13), .o 19 (.load cU true 13), .o 10 (.alloc [(.int .i64 0),(.int .i64 0),(.slice .full 0 []),(.str []),(.str []),(.int .i64 0),(.int .i64 0),(.str []),(.slice .full 0 []),(.bool false),(.slice .full 0 []),(.slice .full 0 []),(.slice .full 0 [])]), .op none none (.store bD dh 13)]) (.seq (.run [.m 20 a8, .o 21 (.bin .add dw (.k (.int .i64 1))), .m 1 dD]) QT9)
abbrev QTF:AC:= .seq (.cond cZ .skip (.exit 0)) (.seq (.block 1 QTB) (.run [.o 75 (.bin .add ct (.k (.int .i64 1))), .m 16 vN]))
abbrev QTJ:AC:= .seq (.run [.m 14 aJ, .o 15 (.len bN), .o 16 (.mv (.k (.int .i64 0)))]) (.block 0 (.loop (.seq (.run [.o 17 (.bin .lss ct cz)]) QTF)))
abbrev QTO:AC:= .seq (.run [.o 6 (.mv (.k (.slice .full 0 []))), .o 7 (.mv (.k (.int .i64 0)))]) (.seq (.run [.o 8 (.mv (.k (.slice .full 0 [])))]) (.seq QTJ (.seq (.run [.m 76 bW, .m 77 a8, .m 6 uq, .m 7 vO]) .ret)))
abbrev QTQ:AC:= .par [.m 7 a8, .o 8 (.bin .lss bX (.k (.int .i64 1))), .m 9 bW, .g 10 9 false (.aj cY 3), .g 11 9 false (.load bD false 1), .g 12 9 false (.len bV), .g 13 9 false (.aj cY 0), .g 14 9 false (.load bT false 1), .d 15 9 false xC [bN], .g 16 9 false (.bin .neq cb cz), .o 17 (.pick cy (.k (.bool true)) ct)] [(0,0),(1,0),(2,0),(6,0),(7,0),(8,0),(3,0),(4,1),(5,0),(9,0),(10,0)]
abbrev QTT:AC:= .cond cZ (.seq (.run [.o 4 (.mv (.k (.bool false)))]) .ret) .skip
abbrev QU2:AC:= .cond eX (.seq (.run [.o 32 (.aj cY 1), .o 33 (.load fe false 1), .o 34 (.bin .eql eZ (.k (.int .i64 0))), .m 35 fm, .g 36 35 true (.aj cY 2), .g 37 35 true (.load fp false 1), .d 38 35 true nY [fI], .o 39 (.pick ff fV (.k (.bool false))), .m 4 fO]) .ret) .skip
abbrev QU4:AC:= .cond dw (.seq (.run [.o 22 (.aj cY 1), .o 23 (.load dM false 1), .o 24 (.bin .geq dH (.k (.int .i64 0))), .m 25 di, .g 26 25 true (.aj cY 2), .g 27 25 true (.load dZ false 1), .g 28 25 true (.bin .eql eg (.k (.str []))), .o 29 (.pick dm eR (.k (.bool false))), .m 4 eN]) .ret) (.seq (.run [.o 31 (.bin .eql dh (.k (.int .i64 2))), .m 30 eY]) QU2)
abbrev QU6:AC:= .block 0 (.seq (.run [.o 21 (.bin .eql dh (.k (.int .i64 1))), .m 20 dD]) QU4)
abbrev QUB:AC:= .cond jJ (.seq (.run [.o 4 (.mv (.k (.bool false)))]) .ret) .skip
abbrev QUK:AC:= .cond kK (.seq (.run [.o 4 (.mv (.k (.bool false)))]) .ret) .skip
abbrev QUM:AC:= .seq (.run [.o 53 (.cr iK ji 4), .o 54 (.load iT true 4), .o 6 (.alloc [(.int .i64 0),(.int .i64 0),(.str []),(.slice .full 0 [])]), .op none none (.store bY jL 4)]) (.seq (.run [.o 55 (.load bY true 4), .m 56 a8, .o 57 (.bin .sub k9 (.k (.int .i64 1))), .c 58 qj [jM,lS], .o 59 (.un .not lJ)]) QUK)
abbrev QUQ:AC:= .seq (.cond jj .skip (.exit 1)) (.seq (.block 2 QUM) (.run [.o 60 (.bin .add ji (.k (.int .i64 1))), .m 51 nz]))
abbrev QUU:AC:= .seq (.run [.o 48 (.aj cY 3), .o 49 (.load iE false 1), .o 50 (.len iK), .o 51 (.mv (.k (.int .i64 0)))]) (.block 1 (.loop (.seq (.run [.o 52 (.bin .lss ji jK)]) QUQ)))
abbrev QUX:AC:= .seq QUU (.seq (.run [.o 4 (.mv (.k (.bool true)))]) .ret)
abbrev QUY:AC:= .seq (.seq (.run [.o 40 (.aj cY 1), .o 41 (.load gk false 1), .o 42 (.bin .neq gf (.k (.int .i64 0))), .m 43 gX, .g 44 43 false (.aj cY 2), .g 45 43 false (.load iJ false 1), .g 46 43 false (.bin .neq jg (.k (.str []))), .o 47 (.pick gL (.k (.bool true)) jh)]) QUB) QUX
abbrev QV1:AC:= .seq (.run [.o 2 (.box aJ), .o 4 (.mv (.k (.bool false)))]) (.seq (.seq QTQ QTT) (.seq (.seq (.run [.o 18 (.aj cY 0), .o 19 (.load cU false 1)]) QU6) QUY))
abbrev QVD:AC:= .block 1 (.seq (.run [.m 10 bW, .m 5 bD]) (.seq (.run [.m 11 a8, .m 12 aJ, .m 13 bl, .o 14 (.cr cb bT 1), .o 15 (.load bN false 1), .o 16 (.bin .eql bV cz)]) (.cond ct (.seq (.run [.m 17 bl, .m 4 cZ]) .ret) .skip)))
abbrev QVG:AC:= .seq (.cond cy .skip (.exit 0)) (.seq QVD (.run [.o 18 (.bin .add bW (.k (.int .i64 1))), .m 8 cU]))
abbrev QVK:AC:= .seq (.run [.m 6 aJ, .o 7 (.len bY), .o 8 (.mv (.k (.int .i64 0)))]) (.block 0 (.loop (.seq (.run [.o 9 (.bin .lss bW bX)]) QVG)))
abbrev QVM:AC:= .seq (.run [(.o 4 (.mv (.k (.int .i64 (-1)))))]) .ret
abbrev QVO:AC:= .seq (.run [.o 4 (.mv (.k (.int .i64 0)))]) (.seq QVK QVM)
abbrev QVX:AC:= .cond bV (.seq (.run [.m 13 a8, .o 14 (.bin .eql bT (.k (.int .i64 0))), .c 15 jF [bN], .m 4 cz, .o 5 (.mv (.k (.bool true)))]) .ret) .skip
abbrev QVZ:AC:= .cond bX (.seq (.run [.m 9 a8, .o 10 (.bin .sub (.k (.int .i64 0)) cy), .m 4 bD, .o 5 (.mv (.k (.bool true)))]) .ret) (.seq (.run [.o 12 (.bin .eql bY (.k (.int .i64 4))), .m 11 cb]) QVX)
abbrev QW1:AC:= .block 0 (.seq (.run [.o 8 (.bin .eql bY (.k (.int .i64 3))), .m 7 bW]) QVZ)
abbrev QW5:AC:= .seq (.seq (.run [.m 6 aJ]) QW1) (.seq (.run [.o 4 (.mv (.k (.int .i64 0))), .o 5 (.mv (.k (.bool false)))]) .ret)
abbrev QW6:AC:= .seq (.run [.o 4 (.mv (.k (.int .i64 0))), .o 5 (.mv (.k (.bool false)))]) QW5
abbrev QWA:AC:= .seq (.run [.o 2 (.mv (.k (.bool false)))]) (.seq (.run [.m 3 aJ, .o 4 (.bin .neq bM (.k (.int .i64 0))), .m 2 dE]) .ret)
abbrev QWP:AC:= .seq (.run [.o 25 (.bin .eql bW (.k (.int .i64 6))), .m 24 dm]) (.cond di .skip (.run [.o 26 (.bin .eql bW (.k (.int .i64 7))), .m 24 dZ]))
abbrev QWY:AC:= .cond gX (.seq (.run [.m 44 a8, .o 45 (.bin .neq iJ (.k (.int .i64 0))), .m 46 jg, .g 47 46 false (.mv cY), .g 48 46 false (.bin .neq jJ (.k (.int .i64 0))), .o 49 (.pick jh (.k (.bool true)) iE), .c 50 jF [iK], .m 6 jK, .o 7 (.mv (.k (.bool true)))]) .ret) .skip
abbrev QX0:AC:= .cond eZ (.seq (.run [.m 35 a8, .o 36 (.bin .neq ff (.k (.int .i64 0))), .m 37 fp, .g 38 37 true (.mv cY), .g 39 37 true (.bin .neq fV (.k (.int .i64 0))), .o 40 (.pick fI fO (.k (.bool false))), .c 41 jF [gk], .m 6 gf, .o 7 (.mv (.k (.bool true)))]) .ret) (.seq (.run [.o 43 (.bin .eql bW (.k (.int .i64 17))), .m 42 gL]) QWY)
abbrev QX2:AC:= .cond di (.seq (.run [.m 27 aJ, .m 28 a8, .m 29 cY, .c 30 ug [eg,eR,eN], .o 31 (.ext eX 0), .o 32 (.ext eX 1), .m 6 eY, .m 7 fe]) .ret) (.seq (.run [.o 34 (.bin .eql bW (.k (.int .i64 16))), .m 33 fm]) QX0)
abbrev QX4:AC:= .cond dh (.seq (.run [.m 21 a8, .m 22 cY, .o 23 (.bin .mul dD dM), .m 6 dH, .o 7 (.mv (.k (.bool true)))]) .ret) (.seq QWP QX2)
abbrev QX6:AC:= .cond bN (.seq (.run [.m 16 a8, .m 17 cY, .o 18 (.bin .sub ct cZ), .m 6 cU, .o 7 (.mv (.k (.bool true)))]) .ret) (.seq (.run [.o 20 (.bin .eql bW (.k (.int .i64 5))), .m 19 dw]) QX4)
abbrev QX8:AC:= .cond cy (.seq (.run [.m 11 a8, .m 12 cY, .o 13 (.bin .add bV cb), .m 6 bT, .o 7 (.mv (.k (.bool true)))]) .ret) (.seq (.run [.o 15 (.bin .eql bW (.k (.int .i64 9))), .m 14 cz]) QX6)
abbrev QXA:AC:= .block 0 (.seq (.run [.o 10 (.bin .eql bW (.k (.int .i64 8))), .m 9 bD]) QX8)
abbrev QXF:AC:= .seq (.run [.o 6 (.mv (.k (.int .i64 0))), .o 7 (.mv (.k (.bool false)))]) (.seq (.seq (.run [.m 8 aJ]) QXA) (.seq (.run [.m 51 aJ, .m 52 a8, .m 53 cY, .c 54 sA [ji,jj,iT], .o 55 (.ext jL 0), .o 56 (.ext jL 1), .m 6 jM, .m 7 k9]) .ret))
open Go.Proofs
theorem KK:Has Tryz.prog rI 5 [(2,(some (true,4)))] QJX:=⟨Tryz.f56,by kernel_rfl,by kernel_rfl⟩
theorem Iw:Has Tryz.prog ll 5 [(2,(some (true,4)))] QK1:=⟨Tryz.f57,by kernel_rfl,by kernel_rfl⟩
theorem KM:Has Tryz.prog uW 12 [(6,(some (true,4)))] QK5:=⟨Tryz.f58,by kernel_rfl,by kernel_rfl⟩
theorem wQ:Has Tryz.prog lW 96 [(2,(some (true,2)))] QMA:=⟨Tryz.f75,by kernel_rfl,by kernel_rfl⟩
theorem wR:Has Tryz.prog qB 37 [(2,(some (true,2)))] QN3:=⟨Tryz.f76,by kernel_rfl,by kernel_rfl⟩
theorem yr:Has Tryz.prog vB 64 [(2,(some (true,2)))] QOP:=⟨Tryz.f77,by kernel_rfl,by kernel_rfl⟩
set_option maxRecDepth 20000 in
theorem wS : Has Tryz.prog ud 60 [(2, (some (true, 2)))] QPZ := ⟨Tryz.f78, by kernel_rfl, by kernel_rfl⟩
theorem Gv:Has Tryz.prog nq 15 [(2,none)] QQM:=⟨Tryz.f80,by kernel_rfl,by kernel_rfl⟩
theorem nA:Has Tryz.prog nY 27 [(2,none)] QQW:=⟨Tryz.f81,by kernel_rfl,by kernel_rfl⟩
theorem rT:Has Tryz.prog kI 71 [(6,none)] QRX:=⟨Tryz.f82,by kernel_rfl,by kernel_rfl⟩
theorem uu:Has Tryz.prog lI 8 [(2,none)] QS7:=⟨Tryz.f83,by kernel_rfl,by kernel_rfl⟩
theorem E8:Has Tryz.prog kT 78 [(6,none),(7,none)] QTO:=⟨Tryz.f84,by kernel_rfl,by kernel_rfl⟩
theorem Av:Has Tryz.prog qj 61 [(4,none)] QV1:=⟨Tryz.f85,by kernel_rfl,by kernel_rfl⟩
theorem wq:Has Tryz.prog gb 19 [(4,none)] QVO:=⟨Tryz.f86,by kernel_rfl,by kernel_rfl⟩
theorem KN:Has Tryz.prog zt 16 [(4,none),(5,none)] QW6:=⟨Tryz.f87,by kernel_rfl,by kernel_rfl⟩
theorem Gw:Has Tryz.prog rJ 5 [(2,none)] QWA:=⟨Tryz.f88,by kernel_rfl,by kernel_rfl⟩
theorem KO:Has Tryz.prog zu 57 [(6,none),(7,none)] QXF:=⟨Tryz.f89,by kernel_rfl,by kernel_rfl⟩
abbrev QXS:AC:= .par [.m 37 aJ, .m 38 aJ, .o 39 (.br fV), .o 40 (.aj fO 2), .o 41 (.load gk false 1), .o 42 (.load cy true 17), .o 43 (.cf [(.int .i64 0),(.int .i64 0),(.slice .full 0 []),(.str []),(.str []),(.int .i64 0),(.int .i64 0),(.str []),(.slice .full 0 []),(.bool false),(.slice .full 0 []),(.slice .full 0 []),(.slice .full 0 []),(.int .i64 0),(.int .i64 0),(.int .i64 0),(.int .i64 0)] 17 1 [(0,gX)]), .o 44 (.app 17 240 gf gL), .o 45 (.br fI), .o 46 (.aj jg 2), .op none none (.store jh iJ 1)] [(1,0),(2,0),(3,0),(4,0),(5,0),(6,0),(7,0),(0,0),(8,0),(9,0),(10,0)]
abbrev QXT:AC:= .run [.o 47 (.aj bl 13), .o 48 (.load jJ false 1), .m 49 bW, .o 50 (.aj cy 15), .o 51 (.load jK false 1), .o 52 (.aj bl 16), .o 53 (.load jj false 1), .o 54 (.build [(.int .i64 0),(.int .i64 0),(.slice .full 0 []),(.str []),(.str []),(.int .i64 0),(.int .i64 0),(.str []),(.slice .full 0 []),(.bool false),(.slice .full 0 []),(.slice .full 0 []),(.slice .full 0 []),(.int .i64 0),(.int .i64 0),(.int .i64 0),(.int .i64 0)] [(13,(1,iE)),(14,(1,iK)),(15,(1,ji)),(16,(1,iT))]), .o 10 (.alloc [(.int .i64 0),(.int .i64 0),(.slice .full 0 []),(.str []),(.str []),(.int .i64 0),(.int .i64 0),(.str []),(.slice .full 0 []),(.bool false),(.slice .full 0 []),(.slice .full 0 []),(.slice .full 0 []),(.int .i64 0),(.int .i64 0),(.int .i64 0),(.int .i64 0)]), .op none none (.store bD jL 17)]
abbrev QY1:AC:= .seq (.seq (.run [.o 55 (.aj bX 1), .o 56 (.load jM false 1), .o 57 (.bin .eql k9 (.k (.int .i64 6)))]) (.cond lS (.run [.m 58 bW, .m 59 bW, .o 60 (.aj bD 15), .op none none (.store nz lJ 1), .o 61 (.aj bD 16), .op none none (.store n7 kK 1)]) .skip)) (.seq (.run [.m 62 aJ, .o 63 (.aj bX 11), .o 64 (.load n9 false 1), .o 65 (.load bD true 17), .c 66 kq [n8,px,qO]]) (.run [.m 67 aJ, .o 68 (.aj bX 12), .o 69 (.load qP false 1), .o 70 (.load bD true 17), .c 71 kq [rR,sC,rS]]))
abbrev QY4:AC:= .seq (.seq (.run [.m 27 bY, .o 28 (.bin .add eg (.k (.int .i64 1))), .m 29 a8, .o 30 (.len eN), .o 31 (.bin .lss eR eX)]) (.cond eY (.run [.m 32 bW, .o 33 (.load bX true 13), .c 34 mF [eZ], .o 35 (.bin .add fe fm), .o 36 (.aj cy 15), .op none none (.store fp ff 1)]) .skip)) (.seq QXS (.seq QXT QY1))
abbrev QY8:AC:= .seq (.run [.m 15 bT, .o 16 (.cr bV bT 13), .o 17 (.load ct true 13), .o 7 (.alloc [(.int .i64 0),(.int .i64 0),(.slice .full 0 []),(.str []),(.str []),(.int .i64 0),(.int .i64 0),(.str []),(.slice .full 0 []),(.bool false),(.slice .full 0 []),(.slice .full 0 []),(.slice .full 0 [])]), .m 6 cz, .op none none (.store bX cZ 13)]) (.seq (.run [.m 18 aJ, .o 19 (.br cU), .o 20 (.aj dh 2), .o 21 (.load dw false 1), .o 22 (.len dD), .o 23 (.bin .add dM (.k (.int .i64 1))), .m 8 dH]) (.seq (.run [.o 24 (.load bl true 17), .o 9 (.alloc [(.int .i64 0),(.int .i64 0),(.slice .full 0 []),(.str []),(.str []),(.int .i64 0),(.int .i64 0),(.str []),(.slice .full 0 []),(.bool false),(.slice .full 0 []),(.slice .full 0 []),(.slice .full 0 []),(.int .i64 0),(.int .i64 0),(.int .i64 0),(.int .i64 0)]), .op none none (.store cy di 17)]) (.seq (.run [.o 25 (.load bX true 13), .o 26 (.aj cy 0), .op none none (.store dZ dm 13)]) QY4)))
abbrev QYC:AC:= .seq (.cond bN .skip (.exit 0)) (.seq (.block 1 QY8) (.run [.o 72 (.bin .add bT (.k (.int .i64 1))), .m 13 uk]))
abbrev QYG:AC:= .seq (.run [.m 11 a8, .o 12 (.len bV), .o 13 (.mv (.k (.int .i64 0)))]) (.block 0 (.loop (.seq (.run [.o 14 (.bin .lss bT cb)]) QYC)))
abbrev QYH:AC:= .seq (.run [.o 5 (.box cY)]) QYG
abbrev QYJ:AC:= .par [.m 5 aJ, .o 6 (.br bl), .o 7 (.aj bY 3), .o 8 (.load bX false 1), .m 9 a8, .o 10 (.cr bW cy 1), .o 11 (.load bD false 1), .m 12 aJ, .o 13 (.br cb), .o 14 (.aj bT 4), .o 15 (.load bN false 1), .m 16 a8, .o 17 (.cr cz ct 1), .o 18 (.load cZ false 1), .o 19 (.bin .lss bV cU)] [(0,0),(1,0),(2,0),(3,0),(4,0),(5,0),(6,0),(7,0),(8,0),(9,0),(10,0),(11,0),(12,0),(13,0),(14,0)]
abbrev QYP:AC:= .seq (.run [(.o 4 (.mv (.k (.int .i64 (-1)))))]) .ret
abbrev QYQ:AC:= .seq (.seq QYJ (.cond dh (.seq (.run [.m 20 aJ, .o 21 (.br dw), .o 22 (.aj dD 3), .o 23 (.load dM false 1), .m 24 a8, .o 25 (.cr dH di 1), .o 26 (.load dm false 1), .m 4 dZ]) .ret) .skip)) QYP
abbrev QYR:AC:= .seq (.run [.o 4 (.mv (.k (.int .i64 0)))]) QYQ
abbrev QZ3:AC:= .block 1 (.seq (.run [.m 10 bW, .m 5 bD]) (.seq (.run [.m 11 a8, .m 12 aJ, .m 13 bl, .o 14 (.cr cb bT 5), .o 15 (.load bN true 5),(.jA (some 16) none 11 [cz])]) (.cond ct (.seq (.run [.m 17 bl, .m 4 cZ]) .ret) .skip)))
abbrev QZ6:AC:= .seq (.cond cy .skip (.exit 0)) (.seq QZ3 (.run [.o 18 (.bin .add bW (.k (.int .i64 1))), .m 8 cU]))
abbrev QZA:AC:= .seq (.run [.m 6 aJ, .o 7 (.len bY), .o 8 (.mv (.k (.int .i64 0)))]) (.block 0 (.loop (.seq (.run [.o 9 (.bin .lss bW bX)]) QZ6)))
abbrev QZC:AC:= .seq (.run [(.o 4 (.mv (.k (.int .i64 (-1)))))]) .ret
abbrev QZE:AC:= .seq (.run [.o 4 (.mv (.k (.int .i64 0)))]) (.seq QZA QZC)
abbrev QZI:AC:= .seq (.run [.o 2 (.box aJ), .o 3 (.mv (.k (.bool false)))]) (.seq (.run [.o 4 (.aj cY 0), .o 5 (.load dE false 1), .o 6 (.load a8 false 1), .o 7 (.bin .eql bl bY), .m 3 bX]) .ret)
abbrev QZL:AC:= .par [.m 8 bl, .o 9 (.br bW), .o 10 (.aj cy 2), .o 11 (.load bD false 1), .m 12 bl, .o 13 (.br cb), .o 14 (.aj bT 1), .o 15 (.load bN false 1), .m 16 a8, .c 17 gb [cz,ct], .o 18 (.cr bV cZ 1), .o 19 (.load cU false 1), .m 4 dh] [(4,0),(5,0),(6,0),(7,0),(8,0),(9,0),(0,0),(1,0),(2,0),(3,1),(10,0),(11,0),(12,0)]
abbrev QZO:AC:= .seq (.run [.o 4 (.mv (.k .ew))]) (.seq (.run [.m 6 aJ, .c 7 kX [bY], .m 5 bX]) (.seq QZL .ret))
abbrev QZW:AC:= .par [.m 30 aJ, .m 31 aJ, .o 32 (.br eY), .o 33 (.aj fe 5), .o 34 (.load eZ false 1), .m 35 bW, .o 36 (.br ff), .o 37 (.load fp false 1), .o 38 (.cf [(.int .i64 0)] 1 1 [(0,fI)]), .o 39 (.app 1 8 fm fV), .o 40 (.br eX), .o 41 (.aj gk 5), .op none none (.store gf fO 1)] [(1,0),(2,0),(3,0),(4,0),(5,0),(6,0),(7,0),(8,0),(9,0),(0,0),(10,0),(11,0),(12,0)]
abbrev akU:AC:= .seq (.cond eg .skip (.exit 0)) (.seq (.block 1 (.seq (.run [.o 28 (.cr di dZ 1), .o 29 (.load eR false 1), .m 8 eN]) QZW)) (.run [.o 42 (.bin .add dZ (.k (.int .i64 1))), .m 26 gX]))
abbrev ad0:AC:= .seq (.run [.o 27 (.bin .lss dZ dm)]) akU
abbrev akV:AC:= .par [.o 44 (.load bM true 4), .m 45 bY, .o 46 (.br jg), .o 47 (.aj jh 1), .o 48 (.load jJ false 1), .m 49 aJ, .o 50 (.br iK), .o 51 (.aj jK 5), .o 52 (.load ji false 1), .c 53 wO [iJ,iE,jj], .m 43 iT, .o 54 (.ext gL 0), .o 55 (.ext gL 1), .m 9 jL, .m 10 jM] [(0,0),(1,0),(2,0),(3,0),(4,0),(5,0),(6,0),(7,0),(8,0),(9,0),(10,0),(11,0),(12,0),(13,0),(14,0)]
abbrev akW:AC:= .seq (.run [.m 56 bD, .o 57 (.un .not k9)]) (.cond lS (.run [.m 58 aJ, .o 59 (.br lJ), .o 60 (.aj kK 6), .o 61 (.aj nz 0), .op none none (.store n7 (.k (.int .i64 4)) 1)]) .skip)
abbrev ad1:AC:= .seq akV (.seq akW (.seq (.run [.m 62 cy, .m 63 bD, .m 4 n8, .m 5 n9]) .ret))
abbrev akX:AC:= .seq (.seq (.run [.m 21 bY, .o 22 (.br dD), .o 23 (.aj dM 2), .o 24 (.load dH false 1), .o 25 (.len di), .o 26 (.mv (.k (.int .i64 0)))]) (.block 0 (.loop ad0))) ad1
abbrev akY:AC:= .seq (.run [.m 13 aJ, .m 14 aJ, .o 15 (.br bN), .o 16 (.aj cz 5), .o 17 (.load ct false 1),(.o 18 (.En 1 cZ none (some (.k (.int .i64 0))))), .o 19 (.br bT), .o 20 (.aj dh 5), .op none none (.store dw cU 1)]) akX
abbrev akZ:AC:= .seq (.run [.o 3 (.box a8), .o 4 (.mv (.k (.int .i64 0))), .o 5 (.mv (.k (.bool false)))]) (.seq (.run [.m 11 aJ, .c 12 kX [bV], .m 6 cb]) akY)
abbrev ak0:AC:= .seq (.run [.m 6 aJ, .o 7 (.br bY), .o 8 (.aj bX 3), .o 9 (.load bW false 1), .m 10 a8, .c 11 nr [cy,bD]]) (.cond bV (.run [.m 12 aJ, .m 13 aJ, .o 14 (.br bT), .o 15 (.aj bN 6), .o 16 (.aj cz 4), .o 17 (.load ct false 1), .m 18 a8, .m 19 cY, .o 20 (.build [(.int .i64 0),(.slice .full 0 [])] [(0,(1,cU)),(1,(1,dh))]), .o 21 (.cf [(.int .i64 0),(.slice .full 0 [])] 2 1 [(0,dw)]), .o 22 (.app 2 32 cZ dD), .o 23 (.br cb), .o 24 (.aj dH 6), .o 25 (.aj di 4), .op none none (.store dm dM 1)]) .skip)
abbrev ak1:AC:= .cond dM (.seq (.run [.o 23 (.aj cy 0), .o 24 (.aj dH 0), .o 25 (.load di false 1), .m 6 dm, .o 7 (.mv (.k (.bool true)))]) .ret) .skip
abbrev ak2:AC:= .seq (.block 1 (.seq (.run [.o 16 (.cr cb bN 17), .o 17 (.load ct true 17), .o 9 (.alloc [(.int .i64 0),(.int .i64 0),(.slice .full 0 []),(.str []),(.str []),(.int .i64 0),(.int .i64 0),(.str []),(.slice .full 0 []),(.bool false),(.slice .full 0 []),(.slice .full 0 []),(.slice .full 0 []),(.int .i64 0),(.int .i64 0),(.int .i64 0),(.int .i64 0)]), .op none none (.store cy cZ 17)]) (.seq (.run [.o 18 (.aj cy 0), .o 19 (.aj cU 2), .o 20 (.load dh false 1), .m 21 cY, .c 22 cD [dw,dD]]) ak1))) (.run [.o 26 (.bin .add bN (.k (.int .i64 1))), .m 14 dZ])
abbrev ak3:AC:= .block 0 (.loop (.seq (.run [.o 15 (.bin .lss bN bT)]) (.seq (.cond cz .skip (.exit 0)) ak2)))
abbrev ak4:AC:= .seq (.run [(.o 6 (.mv (.k (.int .i64 (-1))))), .o 7 (.mv (.k (.bool true)))]) .ret
abbrev ak5:AC:= .seq (.seq (.run [.m 27 aJ, .o 28 (.br eg), .o 29 (.aj eR 0), .o 30 (.aj eN 1), .o 31 (.load eX false 1), .m 32 a8, .o 33 (.cr eY fe 5), .o 34 (.aj eZ 4), .o 35 (.load fm false 1), .m 36 cY, .c 37 cD [ff,fp]]) (.cond fI ak4 .skip)) (.seq (.run [.o 6 (.mv (.k (.int .i64 0))), .o 7 (.mv (.k (.bool false)))]) .ret)
abbrev ak6:AC:= .seq (.seq (.run [.m 10 aJ, .m 11 a8, .c 12 gT [bD,bV], .o 13 (.len cb), .o 14 (.mv (.k (.int .i64 0)))]) ak3) ak5
abbrev ak7:AC:= .seq (.run [.o 6 (.mv (.k (.int .i64 0))), .o 7 (.mv (.k (.bool false)))]) ak6
abbrev ak8:AC:= .cond bX (.seq (.run [.m 8 aJ, .o 9 (.cr bW (.k (.int .i64 0)) 13), .o 10 (.aj cy 0), .o 11 (.load bD false 1), .m 4 bV]) .ret) .skip
abbrev ak9:AC:= .seq (.seq (.run [.m 5 aJ, .o 6 (.len bl), .o 7 (.bin .gtr bY (.k (.int .i64 0)))]) ak8) (.seq (.run [.m 12 a8, .m 4 cb]) .ret)
abbrev ala:AC:= .seq (.run [.o 4 (.mv (.k (.int .i64 0)))]) ak9
abbrev alb:AC:= .par [.m 3 aJ, .o 4 (.br bM), .o 5 (.aj dE 4), .o 6 (.load bl false 1), .m 7 aJ, .o 8 (.br bX), .o 9 (.aj bW 4), .o 10 (.load cy false 1), .o 11 (.len bD), .o 12 (.bin .sub bV (.k (.int .i64 1))), .o 13 (.cr bY cb 1), .o 14 (.load bT false 1), .m 2 bN] [(0,0),(1,0),(2,0),(3,0),(4,0),(5,0),(6,0),(7,0),(8,0),(9,0),(10,0),(11,0),(12,0)]
abbrev alc:AC:= .seq (.run [.o 2 (.mv (.k .ew))]) (.seq alb .ret)
abbrev ald:AC:= .seq (.run [(.o 13 (.build [(.int .i64 0),(.int .i64 0)] [(0,(1,(.k (.int .i64 4))))])), .o 2 (.mv (.k (.slice .full 0 []))), .op none none (.store bM bT 2)]) .ret
abbrev ale:AC:= .cond cZ (.seq (.run [.m 18 dE, .m 19 aJ, .o 20 (.nR dh), .o 21 (.build [(.int .i64 0),(.str []),(.int .i64 0),(.int .i64 0)] [(3,(1,dw))]), .o 22 (.cf [(.int .i64 0),(.str []),(.int .i64 0),(.int .i64 0)] 4 1 [(0,dD)]), .o 23 (.app 4 40 cU dM), .o 24 (.build [(.int .i64 0),(.int .i64 0)] []), .m 2 dH, .op none none (.store bM di 2)]) .ret) .skip
abbrev alf:AC:= .cond jJ (.goto 1) (.seq (.run [.m 51 cy, .c 52 pk [ji], .m 50 jj]) (.cond jK (.goto 2) (.seq (.run [.m 54 cy, .c 55 qm [jL], .m 53 jM]) (.cond iT (.goto 3) .skip))))
abbrev alg:AC:= .cond eX (.seq (.run [.m 45 bY, .o 46 (.bin .add jg (.k (.int .i64 1))), .m 6 jh]) (.goto 0)) (.seq (.run [.m 48 cy, .o 49 (.bin .eql iE (.k (.int .u8 35))), .m 47 iK]) alf)
abbrev alh:AC:= .block 0 (.seq (.run [.m 31 cy, .o 32 (.bin .eql eY (.k (.int .u8 32))), .m 33 fe, .g 34 33 false (.mv cy), .g 35 33 false (.bin .eql fm (.k (.int .u8 9))), .o 36 (.pick eZ (.k (.bool true)) ff), .m 37 fp, .g 38 37 false (.mv cy), .g 39 37 false (.bin .eql fV (.k (.int .u8 10))), .o 40 (.pick fI (.k (.bool true)) fO), .m 41 gk, .g 42 41 false (.mv cy), .g 43 41 false (.bin .eql gX (.k (.int .u8 13))), .o 44 (.pick gf (.k (.bool true)) gL), .m 30 iJ]) alg)
abbrev ali:AC:= .seq (.seq (.run [.m 72 bY, .m 73 aJ, .o 74 (.nR um), .o 75 (.bin .lss uk vM), .m 76 vN, .g 77 76 true (.mv aJ), .g 78 76 true (.mv bY), .g 79 76 true (.oY vO ur), .g 80 76 true (.bin .neq zz (.k (.int .u8 10))), .o 81 (.pick uq zA (.k (.bool false)))]) (.cond zB .skip (.exit 1))) (.block 2 (.run [.m 82 bY, .o 83 (.bin .add Bz (.k (.int .i64 1))), .m 6 BA]))
abbrev alj:AC:= .par [.m 87 aJ, .o 88 (.aj bl 3), .o 89 (.load BG false 1), .m 90 bY, .o 91 (.y8 BF (some xG) (some zC)), .o 92 (.aj bl 0), .op none none (.store DW (.k (.int .i64 1)) 1), .o 93 (.aj bl 1), .op none none (.store Gq BH 1)] [(1,0),(2,0),(5,0),(6,0),(0,0),(3,0),(4,0),(7,0),(8,0)]
abbrev alk:AC:= .seq (.run [.o 94 (.aj bl 1), .o 95 (.load Gr false 1), .c 96 uX [Gs]]) (.cond KB (.run [.o 97 (.aj bl 0), .op none none (.store KD (.k (.int .i64 3)) 1)]) .skip)
abbrev Wy:AC:= .seq (.seq (.run [.m 103 bY, .m 104 aJ, .o 105 (.nR ES), .o 106 (.bin .lss ER ET), .m 107 EU, .g 108 107 true (.mv aJ), .g 109 107 true (.mv bY), .g 110 107 true (.oY EW IW), .d 111 107 true qm [EX], .o 112 (.pick EV EY (.k (.bool false)))]) (.cond Cw .skip (.exit 3))) (.block 4 (.run [.m 113 bY, .o 114 (.bin .add EZ (.k (.int .i64 1))), .m 6 E0]))
abbrev alm:AC:= .par [.m 115 aJ, .o 116 (.aj bl 3), .o 117 (.load E2 false 1), .m 118 bY, .o 119 (.y8 E1 (some IX) (some IY)), .o 120 (.aj bl 0), .op none none (.store I0 (.k (.int .i64 2)) 1), .o 121 (.aj bl 1), .op none none (.store I1 IZ 1), .o 7 (.mv (.k (.int .i64 2)))] [(1,0),(2,0),(5,0),(6,0),(0,0),(3,0),(4,0),(7,0),(8,0),(9,0)]
abbrev aln:AC:= .par [.m 148 bX, .o 149 (.aj bl 3), .o 150 (.load QL false 1), .o 151 (.build [(.int .i64 0),(.int .i64 0)] [(0,(1,QK)),(1,(1,QM))]), .o 2 (.mv (.k (.slice .full 0 []))), .op none none (.store bM QN 2)] [(0,0),(1,0),(2,0),(3,0),(4,0),(5,0)]
abbrev alo:AC:= .seq (.seq (.run [.m 141 dE, .o 142 (.len QF), .o 143 (.bin .eql QG (.k (.int .i64 2000)))]) (.cond Ja (.goto 5) .skip)) (.seq (.run [.m 144 dE, .o 145 (.load bl true 4), .o 146 (.cf [(.int .i64 0),(.str []),(.int .i64 0),(.int .i64 0)] 4 1 [(0,E3)]), .o 147 (.app 4 40 QH QI), .m 4 QJ]) (.seq (.goto 0) (.seq (.label 5) (.seq aln .ret))))
abbrev alp:AC:= .seq (.label 4) (.seq (.run [.o 7 (.mv (.k (.int .i64 4)))]) alo)
abbrev alq:AC:= .seq (.run [.o 133 (.aj bl 1), .o 134 (.load Qx false 1), .c 135 vF [Qy], .m 132 Qz, .o 136 (.ext I9 0), .o 137 (.ext I9 1), .o 138 (.aj bl 2), .op none none (.store QC QA 1), .m 8 QB]) (.seq (.run [.o 7 (.mv (.k (.int .i64 4)))]) (.seq (.seq (.run [.m 139 bW, .o 140 (.un .not QD)]) (.cond QE (.goto 5) .skip)) alp))
abbrev alr:AC:= .seq (.seq (.run [.o 122 (.aj bl 1), .o 123 (.load I2 false 1), .o 124 (.nR I3), .o 125 (.bin .gtr I4 (.k (.int .i64 1))), .m 126 I5, .g 127 126 true (.aj bl 1), .g 128 126 true (.load I6 false 1), .g 129 126 true (.oY zD (.k (.int .i64 0))), .g 130 126 true (.bin .eql I7 (.k (.int .u8 48))), .o 131 (.pick Qv I8 (.k (.bool false)))]) (.cond Qw (.goto 5) .skip)) alq
abbrev Wz:AC:= .seq alm alr
abbrev als:AC:= .seq (.seq (.run [.m 98 bY, .o 99 (.aj bl 3), .o 100 (.load KF false 1), .o 101 (.bin .sub KE EN), .o 102 (.bin .gtr EO (.k (.int .i64 8)))]) (.cond EP (.goto 5) .skip)) (.seq (.goto 4) (.seq (.label 3) (.seq (.block 3 (.loop Wy)) Wz)))
abbrev alu:AC:= .seq alk (.seq (.run [.o 7 (.mv (.k (.int .i64 4)))]) als)
abbrev alv:AC:= .seq (.label 1) (.seq (.block 1 (.loop ali)) (.seq (.goto 0) (.seq (.label 2) (.seq (.run [.m 84 aJ, .m 85 bY, .c 86 wP [BB,BD], .m 6 BE]) (.seq alj alu)))))
abbrev alw:AC:= .seq (.run [.m 62 aJ, .o 63 (.aj bl 3), .o 64 (.load n9 false 1), .m 65 bY, .o 66 (.y8 n8 (some px) (some qO)), .o 67 (.aj bl 1), .op none none (.store rR rQ 1)]) (.seq (.run [.o 7 (.mv (.k (.int .i64 2)))]) (.seq (.seq (.run [.m 68 bY, .o 69 (.aj bl 3), .o 70 (.load sC false 1), .o 71 (.bin .gtr qP rS)]) (.cond vL (.goto 4) .skip)) (.seq (.goto 5) alv)))
abbrev alx:AC:= .seq (.seq (.run [.m 27 aJ, .m 28 bY, .o 29 (.oY eg eR), .m 9 eN]) alh) (.seq (.run [.o 56 (.aj bl 0), .op none none (.store k9 (.k (.int .i64 4)) 1)]) (.seq (.run [.m 57 bY, .m 58 aJ, .m 59 bY, .c 60 zv [lJ,kK], .o 61 (.bin .add lS nz), .m 6 n7]) alw))
abbrev vQ:AC:= .seq (.seq (.run [.m 14 bY, .m 15 aJ, .o 16 (.nR cz), .o 17 (.bin .geq bN ct)]) ale) (.seq (.run [.m 25 bY, .o 26 (.build [(.int .i64 0),(.str []),(.int .i64 0),(.int .i64 0)] [(3,(1,dm))]), .op none none (.store bl dZ 4)]) alx)
abbrev aly:AC:= .seq (.seq (.run [.m 10 aJ, .o 11 (.nR bD), .o 12 (.bin .gtr bV (.k (.int .i64 100000)))]) (.cond cb ald .skip)) (.seq (.label 0) vQ)
abbrev alz:AC:= .seq (.run [.o 5 (.alloc [(.int .i64 0),(.str []),(.int .i64 0),(.int .i64 0)])]) (.seq (.run [.o 6 (.mv (.k (.int .i64 0))), .o 7 (.mv (.k (.int .i64 0))), .o 8 (.mv (.k (.bool true)))]) aly)
abbrev qQ:AC:= .seq (.run [.o 4 (.mv (.k (.slice .full 0 [])))]) alz
abbrev alA:AC:= .scope qQ
abbrev alB:AC:= .seq (.run [.o 2 (.mv (.k (.slice .full 0 []))), .o 3 (.alloc [(.int .i64 0),(.int .i64 0)])]) alA
abbrev alC:AC:= .seq (.seq (.run [.m 4 aJ,(.c 5 dQ [dE,(.k (.str [103,108,111,98,97,108]))])]) (.cond bl .skip (.exit 0))) (.block 1 (.run [.m 6 aJ, .o 7 (.aj bM 0), .o 8 (.load bX false 1), .c 9 jG [bY,bW,(.k (.int .i64 16))], .o 10 (.aj bM 0), .op none none (.store bD cy 1)]))
abbrev alD:AC:= .seq (.run [.o 17 (.aj bM 1), .o 18 (.load cZ false 1), .o 19 (.len cU), .o 20 (.bin .eql dh (.k (.int .i64 16)))]) (.cond dw (.seq (.run [.m 21 aJ, .c 22 fc [dD,(.k (.int .i64 4))]]) (.seq (.run [.o 23 (.load bM true 2), .op none none (.store cY dH 2)]) .ret)) .skip)
abbrev alE:AC:= .par [.o 31 (.aj bM 1), .o 32 (.load eY false 1), .m 33 aJ, .c 34 oJ [eZ], .o 35 (.cf [(.str []),(.slice .full 0 []),(.slice .full 0 []),(.slice .full 0 []),(.slice .full 0 [])] 5 1 [(0,fm)]), .o 36 (.app 5 112 fe ff), .o 37 (.aj bM 1), .op none none (.store fI fp 1)] [(2,0),(3,0),(0,0),(1,1),(4,0),(5,0),(6,0),(7,0)]
abbrev alG:AC:= .seq alD (.seq (.run [.m 24 aJ, .o 25 (.br di), .o 26 (.aj dm 1), .o 27 (.load dZ false 1), .o 28 (.bin .add eg (.k (.int .i64 1))), .o 29 (.br di), .o 30 (.aj eN 1), .op none none (.store eX eR 1)]) alE)
abbrev ad2:AC:= .seq (.seq (.run [.m 11 aJ, .c 12 db [bV], .m 13 cb, .g 14 13 true (.mv aJ),(.d 15 13 true fC [bN,(.k (.str [112,114,111,99]))]), .o 16 (.pick bT cz (.k (.bool false)))]) (.cond ct .skip (.exit 2))) (.block 3 alG)
abbrev ad3:AC:= .seq (.seq (.run [.m 38 aJ, .c 39 db [fV], .m 40 fO, .g 41 40 true (.mv aJ), .d 42 40 true dR [gf], .g 43 40 true (.uC gX 0 false 1), .g 44 40 true (.bin .neq gL (.k (.int .i64 0))), .o 45 (.pick gk iJ (.k (.bool false)))]) (.cond jg (.run [.m 46 aJ, .c 47 fc [jh,(.k (.int .i64 3))]]) .skip)) (.seq (.run [.o 48 (.load bM true 2), .op none none (.store cY iE 2)]) .ret)
abbrev alH:AC:= .seq (.run [.o 2 (.alloc [(.slice .full 0 []),(.slice .full 0 [])])]) (.seq (.run [.o 3 (.alloc [(.slice .full 0 []),(.slice .full 0 [])])]) (.seq (.block 0 (.loop alC)) (.seq (.block 2 (.loop ad2)) ad3)))
abbrev alI:AC:= .cond cZ (.seq (.run [.o 2 (.mv (.k (.int .i64 2)))]) .ret) .skip
abbrev alJ:AC:= .cond bD (.seq (.run [.o 2 (.mv (.k (.int .i64 1)))]) .ret) (.seq (.run [.m 18 aJ, .o 19 (.bin .geq cU (.k (.int .i64 5))), .m 20 dh, .g 21 20 true (.mv aJ), .g 22 20 true (.bin .leq dD (.k (.int .i64 17))), .o 23 (.pick dw dM (.k (.bool false))), .m 17 dH]) alI)
abbrev alK:AC:= .cond bM (.seq (.run [.o 2 (.mv (.k (.int .i64 0)))]) .ret) (.seq (.run [.m 11 aJ, .o 12 (.bin .eql bV (.k (.int .i64 3))), .m 13 cb, .g 14 13 false (.mv aJ), .g 15 13 false (.bin .eql bN (.k (.int .i64 4))), .o 16 (.pick bT (.k (.bool true)) cz), .m 10 ct]) alJ)
abbrev alL:AC:= .block 0 (.seq (.run [.m 4 aJ, .o 5 (.bin .eql dE (.k (.int .i64 1))), .m 6 bl, .g 7 6 false (.mv aJ), .g 8 6 false (.bin .eql bX (.k (.int .i64 2))), .o 9 (.pick bY (.k (.bool true)) bW), .m 3 cy]) alK)
abbrev alM:AC:= .seq (.run [(.o 2 (.mv (.k (.int .i64 (-1)))))]) .ret
abbrev alN:AC:= .seq (.run [.o 2 (.mv (.k (.int .i64 0)))]) (.seq alL alM)
abbrev alO:AC:= .cond ct (.seq (.run [.o 2 (.mv (.k (.bool true)))]) .ret) .skip
abbrev alP:AC:= .block 1 (.seq (.run [.m 9 bX, .o 10 (.cr bl bX 1), .o 11 (.load bD false 1), .m 3 cy, .m 4 bV]) (.seq (.run [.m 12 aJ, .m 13 bM, .o 14 (.En 1 cb none (some bT)), .m 15 dE, .c 16 cD [bN,cz]]) alO))
abbrev alQ:AC:= .seq (.cond bW .skip (.exit 0)) (.seq alP (.run [.o 17 (.bin .add bX (.k (.int .i64 1))), .m 7 cZ]))
abbrev alR:AC:= .seq (.run [.m 5 aJ, .o 6 (.len bl), .o 7 (.mv (.k (.int .i64 0)))]) (.block 0 (.loop (.seq (.run [.o 8 (.bin .lss bX bY)]) alQ)))
abbrev alS:AC:= .seq alR (.seq (.run [.o 2 (.mv (.k (.bool false)))]) .ret)
abbrev alT:AC:= .seq (.run [.o 2 (.mv (.k (.bool false)))]) alS
abbrev alU:AC:= .seq (.run [.o 4 (.mv (.k (.bool false)))]) (.seq (.run [.m 5 aJ, .m 6 a8, .c 7 k8 [bl,bY], .o 8 (.bin .geq bX (.k (.int .i64 0))), .m 4 bW]) .ret)
abbrev alV:AC:= .seq (.run [.o 3 (.mv (.k (.bool false)))]) (.seq (.run [.o 4 (.aj a8 0), .o 5 (.load dE false 1), .m 6 aJ, .c 7 cD [bl,bY], .m 3 bX]) .ret)
abbrev alW:AC:= .seq (.run [.o 4 (.mv (.k (.bool false)))]) (.seq (.run [.m 5 aJ, .m 6 a8, .c 7 gb [bl,bY], .o 8 (.bin .geq bX (.k (.int .i64 0))), .m 4 bW]) .ret)
abbrev alX:AC:= .par [.m 5 aJ, .o 6 (.br bl), .o 7 (.aj bY 2), .o 8 (.load bX false 1), .m 9 aJ, .o 10 (.br cy), .o 11 (.aj bD 3), .o 12 (.load bV false 1), .m 13 a8, .o 14 (.cr cb bT 1), .o 15 (.load bN false 1), .o 16 (.bin .sub cz (.k (.int .i64 1))), .m 17 aJ, .o 18 (.br cZ), .o 19 (.aj cU 4), .o 20 (.load dh false 1), .m 21 a8, .o 22 (.cr dw dD 1), .o 23 (.load dM false 1), .o 24 (.bin .sub dH (.k (.int .i64 1))), .o 25 (.En 17 bW (some ct) (some di)), .m 4 dm] [(0,0),(1,0),(2,0),(3,0),(4,0),(5,0),(6,0),(7,0),(8,0),(9,0),(10,0),(11,0),(12,0),(13,0),(14,0),(15,0),(16,0),(17,0),(18,0),(19,0),(20,0),(21,0)]
abbrev alY:AC:= .seq (.run [.o 4 (.mv (.k (.slice .full 0 [])))]) (.seq alX .ret)
abbrev alZ:AC:= .cond dM (.seq (.run [.o 8 (.mv (.k (.bool false)))]) .ret) .skip
abbrev al0:AC:= .seq (.run [.o 16 (.cr cb bN 1), .o 17 (.load ct false 1), .m 10 cZ]) (.seq (.run [.o 18 (.load dE true 2), .o 19 (.load bl true 5), .m 20 bD, .c 21 vG [cU,dh,dw], .o 22 (.bin .eql dD (.k (.int .i64 0)))]) alZ)
abbrev al1:AC:= .seq (.cond cz .skip (.exit 0)) (.seq (.block 1 al0) (.run [.o 23 (.bin .add bN (.k (.int .i64 1))), .m 14 dH]))
abbrev al2:AC:= .seq (.run [.o 11 (.load bX true 13), .c 12 rM [bV], .o 13 (.len cb), .o 14 (.mv (.k (.int .i64 0)))]) (.block 0 (.loop (.seq (.run [.o 15 (.bin .lss bN bT)]) al1)))
abbrev al3:AC:= .seq al2 (.seq (.run [.o 24 (.aj bX 1), .o 25 (.load di false 1), .o 26 (.bin .neq dm (.k (.int .i64 4))), .m 27 dZ, .g 28 27 false (.aj bX 4), .g 29 27 false (.load eR false 1), .g 30 27 false (.bin .neq eN (.k (.str [109,97,105,110]))), .g 31 27 false (.mv eX), .g 32 31 true (.mv cY), .g 33 31 true (.aj bX 4), .g 34 31 true (.load eZ false 1), .d 35 31 true cD [fe,fm], .g 36 27 false (.pick eY ff (.k (.bool false))), .o 37 (.pick eg (.k (.bool true)) fp), .m 8 fI]) .ret)
abbrev al4:AC:= .seq (.run [.o 4 (.box aJ), .o 5 (.box a8), .o 7 (.box bM), .o 8 (.mv (.k (.bool false)))]) al3
abbrev al5:AC:= .cond cy (.seq (.run [.o 4 (.mv (.k (.bool false)))]) .ret) .skip
abbrev al6:AC:= .seq (.run [.o 15 (.cr bV bT 5), .o 16 (.load cz true 5), .o 6 (.alloc [(.str []),(.slice .full 0 []),(.slice .full 0 []),(.slice .full 0 []),(.slice .full 0 [])]), .op none none (.store bY ct 5)]) (.seq (.run [.o 17 (.aj bY 0), .o 18 (.load cZ false 1), .o 19 (.aj bM 4), .o 20 (.load dh false 1), .o 21 (.bin .eql cU dw)]) (.cond dD (.seq (.run [.o 22 (.aj bY 1), .o 23 (.load dM false 1), .o 24 (.aj bM 10), .o 25 (.load di false 1), .c 26 vH [dH,dm], .m 4 dZ]) .ret) .skip))
abbrev al7:AC:= .seq (.cond bN .skip (.exit 0)) (.seq (.block 1 al6) (.run [.o 27 (.bin .add bT (.k (.int .i64 1))), .m 13 eg]))
abbrev al8:AC:= .seq (.run [.o 10 (.aj cY 1), .o 11 (.load bD false 1), .o 12 (.len bV), .o 13 (.mv (.k (.int .i64 0)))]) (.block 0 (.loop (.seq (.run [.o 14 (.bin .lss bT cb)]) al7)))
abbrev al9:AC:= .seq al8 (.seq (.run [.o 4 (.mv (.k (.bool false)))]) .ret)
abbrev ama:AC:= .seq (.seq (.run [.o 7 (.aj bM 1), .o 8 (.load bX false 1), .o 9 (.bin .neq bW (.k (.int .i64 4)))]) al5) al9
abbrev amb:AC:= .seq (.run [.o 2 (.box aJ), .o 3 (.box a8), .o 4 (.mv (.k (.bool false)))]) ama
abbrev amc:AC:= .seq (.run [.o 3 (.load a8 true 2), .c 4 lW [bM], .o 5 (.uC dE 0 false 1), .o 6 (.bin .neq bl (.k (.int .i64 0)))]) (.cond bY (.seq (.run [.o 2 (.mv (.k .ew))]) .ret) .skip)
abbrev amd:AC:= .seq (.run [.o 1 (.box aJ), .o 2 (.mv (.k .ew))]) (.seq amc (.seq (.run [.o 7 (.load a8 true 2), .c 8 k7 [bX], .m 2 bW]) .ret))
abbrev ame:AC:= .cond ct (.seq (.run [.m 17 aJ, .m 4 cZ, .o 5 (.mv (.k (.bool false)))]) .ret) .skip
abbrev amf:AC:= .block 1 (.seq (.run [.o 12 (.cr bW bD 1), .o 13 (.load cb false 1), .m 7 bT]) (.seq (.seq (.run [.m 14 aJ, .m 15 bX, .c 16 cD [bN,cz]]) ame) (.run [.m 18 aJ, .m 19 bX, .o 20 (.cf [(.str [])] 1 1 [(0,dh)]), .o 21 (.app 1 16 cU dw), .m 0 dD])))
abbrev amg:AC:= .seq (.cond bV .skip (.exit 0)) (.seq amf (.run [.o 22 (.bin .add bD (.k (.int .i64 1))), .m 10 dM]))
abbrev amh:AC:= .seq (.run [.m 8 a8, .o 9 (.len bW), .o 10 (.mv (.k (.int .i64 0)))]) (.block 0 (.loop (.seq (.run [.o 11 (.bin .lss bD cy)]) amg)))
abbrev ami:AC:= .seq amh (.seq (.run [.m 23 aJ, .m 4 dH, .o 5 (.mv (.k (.bool true)))]) .ret)
abbrev amj:AC:= .seq (.run [.o 4 (.mv (.k (.slice .full 0 []))), .o 5 (.mv (.k (.bool false)))]) ami
abbrev amk:AC:= .seq (.run [.o 11 (.bin .eql cy (.k (.int .i64 7))), .m 10 bV]) (.cond bD .skip (.run [.o 12 (.bin .eql cy (.k (.int .i64 8))), .m 10 cb]))
abbrev aml:AC:= .cond bD (.seq (.run [.o 13 (.aj bM 16), .o 14 (.load bT false 1), .o 15 (.bin .neq bN (.k (.int .i64 0))), .m 4 cz]) .ret) (.seq (.run [.o 17 (.bin .eql cy (.k (.int .i64 10))), .m 16 cZ]) (.cond ct (.seq (.run [.m 19 aJ, .o 20 (.aj bM 13), .o 21 (.load dw false 1), .o 22 (.aj bM 0), .o 23 (.aj dM 3), .o 24 (.load dH false 1), .c 25 oR [dh,dD,di], .m 18 dm, .o 26 (.ext cU 0), .o 27 (.ext cU 1), .m 5 dZ, .m 6 eg]) (.seq (.run [.m 28 bY, .m 4 eR]) .ret)) .skip))
abbrev amm:AC:= .seq (.seq (.run [.o 7 (.aj bM 0), .o 8 (.aj bX 1), .o 9 (.load bW false 1)]) (.block 0 (.seq amk aml))) (.seq (.run [.o 4 (.mv (.k (.bool true)))]) .ret)
abbrev amn:AC:= .seq (.run [.o 3 (.box a8), .o 4 (.mv (.k (.bool false)))]) amm
abbrev amo:AC:= .cond ct (.seq (.run [.o 4 (.mv (.k (.slice .full 0 [])))]) .ret) .skip
abbrev amp:AC:= .seq (.run [.o 43 (.cr fO gf 1), .o 44 (.load gL false 1), .m 12 iJ]) (.seq (.run [.o 45 (.aj cY 0), .o 46 (.load jg false 1), .m 47 cb, .c 48 cD [jh,jJ]]) (.cond iE (.run [.m 49 bY, .m 50 cb, .o 51 (.cf [(.str [])] 1 1 [(0,jK)]), .o 52 (.app 1 16 iK ji), .m 6 jj]) .skip))
abbrev amq:AC:= .seq (.cond gX .skip (.exit 4)) (.seq (.block 5 amp) (.run [.o 53 (.bin .add gf (.k (.int .i64 1))), .m 41 iT]))
abbrev amr:AC:= .seq (.run [.o 37 (.aj bD 0), .o 38 (.load fI true 13), .c 39 rM [fV], .o 40 (.len fO), .o 41 (.mv (.k (.int .i64 0)))]) (.block 4 (.loop (.seq (.run [.o 42 (.bin .lss gf gk)]) amq)))
abbrev ams:AC:= .seq (.block 3 (.seq (.run [.o 35 (.cr eY eZ 17), .o 36 (.load ff true 17), .o 10 (.alloc [(.int .i64 0),(.int .i64 0),(.slice .full 0 []),(.str []),(.str []),(.int .i64 0),(.int .i64 0),(.str []),(.slice .full 0 []),(.bool false),(.slice .full 0 []),(.slice .full 0 []),(.slice .full 0 []),(.int .i64 0),(.int .i64 0),(.int .i64 0),(.int .i64 0)]), .op none none (.store bD fp 17)]) amr)) (.run [.o 54 (.bin .add eZ (.k (.int .i64 1))), .m 33 jL])
abbrev amt:AC:= .block 2 (.loop (.seq (.run [.o 34 (.bin .lss eZ fe)]) (.seq (.cond fm .skip (.exit 2)) ams)))
abbrev amu:AC:= .seq (.run [.o 25 (.cr dD dH 1), .o 26 (.load dm false 1), .m 8 dZ]) (.seq (.run [.m 27 bl, .m 28 bl, .m 29 bW, .c 30 iI [eR,eN], .c 31 gT [eg,eX], .o 32 (.len eY), .o 33 (.mv (.k (.int .i64 0)))]) amt)
abbrev amv:AC:= .seq (.cond di .skip (.exit 0)) (.seq (.block 1 amu) (.run [.o 55 (.bin .add dH (.k (.int .i64 1))), .m 23 jM]))
abbrev amw:AC:= .seq (.run [.m 19 bl, .m 20 a8, .c 21 xD [dh,dw], .o 22 (.len dD), .o 23 (.mv (.k (.int .i64 0)))]) (.block 0 (.loop (.seq (.run [.o 24 (.bin .lss dH dM)]) amv)))
abbrev amx:AC:= .seq (.run [.o 17 (.load cY true 2), .c 18 k7 [cZ], .m 5 cU]) (.seq (.run [.o 6 (.mv (.k (.slice .full 0 [])))]) (.seq amw (.seq (.run [.m 56 bY, .c 57 jH [k9]]) (.seq (.run [.m 58 bY, .c 59 ke [lJ], .m 4 kK]) .ret))))
abbrev amy:AC:= .seq (.run [.o 2 (.box aJ), .o 4 (.mv (.k (.slice .full 0 [])))]) (.seq (.seq (.run [.o 13 (.load cY true 2), .m 14 a8, .c 15 uh [bT,bN], .o 16 (.un .not cz)]) amo) amx)
abbrev amz:AC:= .cond fm (.seq (.run [.o 4 (.mv (.k (.bool false)))]) .ret) .skip
abbrev amA:AC:= .seq (.seq (.run [.m 18 bl, .o 19 (.aj bX 1), .o 20 (.load dh false 1), .c 21 cD [cU,dw], .m 22 dD, .g 23 22 false (.aj bX 1), .g 24 22 false (.load dH false 1), .g 25 22 false (.aj cY 3), .g 26 22 false (.load dm false 1), .g 27 22 false (.bin .eql di dZ), .o 28 (.pick dM (.k (.bool true)) eg), .m 29 eR, .g 30 29 false (.mv a8), .g 31 29 false (.aj bX 1), .g 32 29 false (.load eY false 1), .d 33 29 false cD [eX,fe], .o 34 (.pick eN (.k (.bool true)) eZ)]) amz) (.run [.m 35 bl, .o 36 (.aj bX 1), .o 37 (.load fp false 1), .o 38 (.cf [(.str [])] 1 1 [(0,fI)]), .o 39 (.app 1 16 ff fV), .m 5 fO])
abbrev amB:AC:= .block 1 (.seq (.run [.o 13 (.cr cy bV 6), .o 14 (.load bT true 6), .o 7 (.alloc [(.bool false),(.str []),(.int .i64 0),(.int .i64 0),(.str []),(.slice .full 0 [])]), .op none none (.store bX bN 6)]) (.seq (.seq (.run [.o 15 (.aj bX 0), .o 16 (.load cz false 1), .o 17 (.un .not ct)]) (.cond cZ (.exit 1) .skip)) amA))
abbrev amC:AC:= .seq (.cond cb .skip (.exit 0)) (.seq amB (.run [.o 40 (.bin .add bV (.k (.int .i64 1))), .m 11 gk]))
abbrev amD:AC:= .seq (.run [.o 8 (.aj cY 10), .o 9 (.load bW false 1), .o 10 (.len cy), .o 11 (.mv (.k (.int .i64 0)))]) (.block 0 (.loop (.seq (.run [.o 12 (.bin .lss bV bD)]) amC)))
abbrev amE:AC:= .seq amD (.seq (.run [.o 4 (.mv (.k (.bool true)))]) .ret)
abbrev amF:AC:= .seq (.run [.o 2 (.box aJ), .o 4 (.mv (.k (.bool false)))]) (.seq (.run [.o 5 (.mv (.k (.slice .full 0 [])))]) amE)
abbrev amG:AC:= .seq (.run [.o 2 (.mv (.k (.bool false)))]) (.seq (.run [.m 3 aJ, .o 4 (.bin .geq bM (.k (.int .u8 97))), .m 5 dE, .g 6 5 true (.mv aJ), .g 7 5 true (.bin .leq bY (.k (.int .u8 122))), .o 8 (.pick bl bX (.k (.bool false))), .m 2 bW]) .ret)
abbrev amH:AC:= .seq (.seq (.run [.m 5 a8, .m 6 aJ, .o 7 (.nR bY), .o 8 (.bin .lss bl bX), .m 9 bW, .g 10 9 true (.mv aJ), .g 11 9 true (.mv a8), .g 12 9 true (.oY bD bV), .d 13 9 true pk [cb], .g 14 9 true (.mv bT), .g 15 14 false (.mv aJ), .g 16 14 false (.mv a8), .g 17 14 false (.oY cz ct), .d 18 14 false qm [cZ], .g 19 9 true (.pick bN (.k (.bool true)) cU), .o 20 (.pick cy dh (.k (.bool false)))]) (.cond dw .skip (.exit 0))) (.block 1 (.run [.m 21 a8, .o 22 (.bin .add dD (.k (.int .i64 1))), .m 1 dM]))
abbrev amI:AC:= .seq (.run [.o 4 (.mv (.k (.int .i64 0)))]) (.seq (.block 0 (.loop amH)) (.seq (.run [.m 23 a8, .m 4 dH]) .ret))
abbrev amJ:AC:= .seq (.run [.o 16 (.bin .eql bM (.k (.str [114,101,97,100]))), .m 4 ct]) (.cond dE .skip (.run [.o 17 (.bin .eql bM (.k (.str [112,114,105,110,116]))), .m 4 cZ]))
abbrev amK:AC:= .cond dE .skip (.seq (.run [.o 15 (.bin .eql bM (.k (.str [103,111,116,111]))), .m 4 cz]) (.cond dE .skip amJ))
abbrev amL:AC:= .cond dE .skip (.seq (.run [.o 14 (.bin .eql bM (.k (.str [114,101,116,117,114,110]))), .m 4 bN]) amK)
abbrev amM:AC:= .cond dE .skip (.seq (.run [.o 13 (.bin .eql bM (.k (.str [99,111,110,116,105,110,117,101]))), .m 4 bT]) amL)
abbrev amN:AC:= .cond dE .skip (.seq (.run [.o 12 (.bin .eql bM (.k (.str [98,114,101,97,107]))), .m 4 cb]) amM)
abbrev amO:AC:= .cond dE .skip (.seq (.run [.o 11 (.bin .eql bM (.k (.str [119,104,105,108,101]))), .m 4 bV]) amN)
abbrev amP:AC:= .cond dE .skip (.seq (.run [.o 10 (.bin .eql bM (.k (.str [101,108,115,101]))), .m 4 bD]) amO)
abbrev amQ:AC:= .cond dE .skip (.seq (.run [.o 9 (.bin .eql bM (.k (.str [105,102]))), .m 4 cy]) amP)
abbrev amR:AC:= .cond dE .skip (.seq (.run [.o 8 (.bin .eql bM (.k (.str [114,101,102]))), .m 4 bW]) amQ)
abbrev amS:AC:= .cond dE .skip (.seq (.run [.o 7 (.bin .eql bM (.k (.str [118,97,114]))), .m 4 bX]) amR)
abbrev amT:AC:= .cond dE .skip (.seq (.run [.o 6 (.bin .eql bM (.k (.str [112,114,111,99]))), .m 4 bY]) amS)
abbrev amU:AC:= .cond dE (.seq (.run [.o 2 (.mv (.k (.bool true)))]) .ret) .skip
abbrev amV:AC:= .seq (.seq (.run [.o 5 (.bin .eql bM (.k (.str [103,108,111,98,97,108]))), .m 4 bl]) amT) amU
abbrev amW:AC:= .seq (.seq (.run [.m 3 aJ]) (.block 0 amV)) (.seq (.run [.o 2 (.mv (.k (.bool false)))]) .ret)
abbrev amX:AC:= .seq (.run [.o 2 (.mv (.k (.bool false)))]) amW
abbrev amY:AC:= .par [.o 10 (.aj a8 9), .o 11 (.load bD false 1), .o 3 (.mv (.k (.bool false))), .o 4 (.mv (.k (.bool false))), .o 5 (.mv (.k (.bool false))), .m 6 bV, .o 7 (.mv (.k (.bool false))), .o 8 (.mv (.k (.bool false)))] [(0,0),(1,0),(2,0),(3,0),(4,0),(5,0),(6,0),(7,0)]
abbrev amZ:AC:= .seq (.run [.o 20 (.bin .eql ct (.k (.int .i64 2))), .m 19 dw]) (.cond dh .skip (.run [.o 21 (.bin .eql ct (.k (.int .i64 10))), .m 19 dD]))
abbrev am0:AC:= .seq (.run [.o 38 (.bin .eql ct (.k (.int .i64 7))), .m 37 fV]) (.cond fI .skip (.run [.o 39 (.bin .eql ct (.k (.int .i64 8))), .m 37 fO]))
abbrev am1:AC:= .cond fI .skip (.seq (.run [.o 2 (.mv (.k (.bool false)))]) .ret)
abbrev am2:AC:= .seq (.run [.o 34 (.bin .eql ct (.k (.int .i64 9))), .m 33 fm]) (.cond eZ (.run [.o 35 (.aj a8 9), .o 36 (.load ff false 1), .m 5 fp, .o 6 (.mv (.k (.bool false)))]) (.seq am0 am1))
abbrev am3:AC:= .seq (.run [.o 32 (.bin .eql ct (.k (.int .i64 6))), .m 31 fe]) (.cond eY (.run [.o 5 (.mv (.k (.bool true))), .o 7 (.mv (.k (.bool true)))]) am2)
abbrev am4:AC:= .seq (.run [.o 30 (.bin .eql ct (.k (.int .i64 5))), .m 29 eX]) (.cond eN (.run [.o 5 (.mv (.k (.bool true))), .o 7 (.mv (.k (.bool true))), .o 8 (.mv (.k (.bool true)))]) am3)
abbrev am5:AC:= .seq (.run [.o 25 (.bin .eql ct (.k (.int .i64 4))), .m 24 dm]) (.cond di (.run [.o 26 (.aj a8 3), .o 27 (.load dZ false 1), .o 28 (.bin .neq eg (.k (.str []))), .m 3 eR, .o 4 (.mv (.k (.bool true)))]) am4)
abbrev am6:AC:= .seq (.run [.o 23 (.bin .eql ct (.k (.int .i64 3))), .m 22 dH]) (.cond dM (.run [.o 5 (.mv (.k (.bool true)))]) am5)
abbrev am7:AC:= .seq amZ (.cond dh (.run [.o 3 (.mv (.k (.bool true)))]) am6)
abbrev am8:AC:= .seq (.run [.o 18 (.bin .eql ct (.k (.int .i64 1))), .m 17 cU]) (.cond cZ (.run [.o 3 (.mv (.k (.bool true))), .o 5 (.mv (.k (.bool true)))]) am7)
abbrev am9:AC:= .run [.m 40 bY, .m 41 gk, .g 42 41 false (.mv bX), .g 43 41 false (.un .not gX), .g 44 41 false (.mv gL), .g 45 44 true (.aj a8 11), .g 46 44 true (.load jg false 1), .g 47 44 true (.len jh), .g 48 44 true (.bin .gtr jJ (.k (.int .i64 0))), .g 49 41 false (.pick iJ iE (.k (.bool false))), .o 50 (.pick gf (.k (.bool true)) iK), .m 51 jK, .g 52 51 false (.mv bW), .g 53 51 false (.un .not jj), .g 54 51 false (.mv iT), .g 55 54 true (.aj a8 12), .g 56 54 true (.load jM false 1), .g 57 54 true (.len k9), .g 58 54 true (.bin .gtr lS (.k (.int .i64 0))), .g 59 51 false (.pick jL lJ (.k (.bool false))), .o 60 (.pick ji (.k (.bool true)) kK), .m 61 nz, .g 62 61 false (.mv cy), .g 63 61 false (.un .not n8), .g 64 61 false (.mv n9), .g 65 64 true (.aj a8 10), .g 66 64 true (.load qO false 1), .g 67 64 true (.len rQ), .g 68 64 true (.bin .gtr rR (.k (.int .i64 0))), .g 69 61 false (.pick px qP (.k (.bool false))), .o 70 (.pick n7 (.k (.bool true)) sC)]
abbrev ana:AC:= .cond rS (.seq (.run [.o 2 (.mv (.k (.bool false)))]) .ret) .skip
abbrev anb:AC:= .cond xG (.seq (.run [.o 2 (.mv (.k (.bool false)))]) .ret) .skip
abbrev ad4:AC:= .seq (.seq (.run [.o 71 (.aj a8 3), .o 72 (.load vL false 1), .m 73 bM, .c 74 po [uk,um], .o 75 (.un .not vM), .m 76 vN, .g 77 76 false (.aj a8 4), .g 78 76 false (.load vO false 1), .g 79 76 false (.mv dE), .d 80 76 false po [ur,zz], .g 81 76 false (.un .not zA), .o 82 (.pick uq (.k (.bool true)) zB), .m 83 Bz, .g 84 83 false (.aj a8 5), .g 85 83 false (.load BB true 4), .g 86 83 false (.mv bl), .d 87 83 false rN [BD,BE], .g 88 83 false (.un .not BF), .o 89 (.pick BA (.k (.bool true)) BG)]) anb) (.seq (.run [.o 90 (.aj a8 10), .o 91 (.load zC false 1), .c 92 ui [BH], .m 2 DW]) .ret)
abbrev ad5:AC:= .seq (.seq am9 ana) ad4
abbrev WA:AC:= .seq (.seq (.run [.o 15 (.aj a8 1), .o 16 (.load cz false 1)]) (.block 0 am8)) ad5
abbrev ad6:AC:= .seq (.run [.o 12 (.aj a8 1), .o 13 (.load cb false 1), .o 14 (.bin .eql bT (.k (.int .i64 4))), .m 9 bN]) WA
abbrev ad7:AC:= .seq amY ad6
abbrev anc:AC:= .seq (.run [.o 1 (.box aJ), .o 2 (.mv (.k (.bool false)))]) ad7
abbrev ane:AC:= .par [.o 15 (.aj a8 3), .o 16 (.load cz false 1), .o 17 (.load bl true 4), .c 18 mE [cZ], .o 19 (.cf [(.int .i64 0),(.int .i64 0),(.str []),(.slice .full 0 [])] 4 1 [(0,cU)]), .o 20 (.app 4 56 ct dh), .o 21 (.aj a8 3), .op none none (.store dD dw 1)] [(2,0),(3,0),(0,0),(1,1),(4,0),(5,0),(6,0),(7,0)]
abbrev anf:AC:= .seq (.block 1 (.seq (.run [.o 13 (.cr cy bV 4), .o 14 (.load bT true 4), .o 5 (.alloc [(.int .i64 0),(.int .i64 0),(.str []),(.slice .full 0 [])]), .op none none (.store bl bN 4)]) ane)) (.run [.o 22 (.bin .add bV (.k (.int .i64 1))), .m 11 dM])
abbrev ang:AC:= .block 0 (.loop (.seq (.run [.o 12 (.bin .lss bV bD)]) (.seq (.cond cb .skip (.exit 0)) anf)))
abbrev anh:AC:= .seq (.seq (.run [.m 9 bM, .o 10 (.len cy), .o 11 (.mv (.k (.int .i64 0)))]) ang) (.seq (.run [.o 23 (.load a8 true 4), .op none none (.store cY dH 4)]) .ret)
abbrev ani:AC:= .seq (.run [.o 6 (.aj a8 3), .o 7 (.load bY false 1), .m 3 bX]) (.seq (.run [.o 8 (.aj a8 3), .op none none (.store bW (.k (.slice .full 0 [])) 1)]) anh)
abbrev anj:AC:= .seq (.run [.o 1 (.box aJ), .o 2 (.alloc [(.int .i64 0),(.int .i64 0),(.str []),(.slice .full 0 [])])]) ani
abbrev ank:AC:= .cond cZ (.seq (.run [.o 2 (.mv (.k (.int .i64 2)))]) .ret) .skip
abbrev anl:AC:= .cond bD (.seq (.run [.o 2 (.mv (.k (.int .i64 1)))]) .ret) (.seq (.run [.m 18 aJ, .o 19 (.bin .geq cU (.k (.int .i64 5))), .m 20 dh, .g 21 20 true (.mv aJ), .g 22 20 true (.bin .leq dD (.k (.int .i64 17))), .o 23 (.pick dw dM (.k (.bool false))), .m 17 dH]) ank)
abbrev anm:AC:= .cond bM (.seq (.run [.o 2 (.mv (.k (.int .i64 0)))]) .ret) (.seq (.run [.m 11 aJ, .o 12 (.bin .eql bV (.k (.int .i64 3))), .m 13 cb, .g 14 13 false (.mv aJ), .g 15 13 false (.bin .eql bN (.k (.int .i64 4))), .o 16 (.pick bT (.k (.bool true)) cz), .m 10 ct]) anl)
abbrev ann:AC:= .block 0 (.seq (.run [.m 4 aJ, .o 5 (.bin .eql dE (.k (.int .i64 1))), .m 6 bl, .g 7 6 false (.mv aJ), .g 8 6 false (.bin .eql bX (.k (.int .i64 2))), .o 9 (.pick bY (.k (.bool true)) bW), .m 3 cy]) anm)
abbrev ano:AC:= .seq (.run [(.o 2 (.mv (.k (.int .i64 (-1)))))]) .ret
abbrev anp:AC:= .seq (.run [.o 2 (.mv (.k (.int .i64 0)))]) (.seq ann ano)
abbrev anq:AC:= .cond bM (.seq (.run [.o 2 (.mv (.k (.int .i64 1)))]) .ret) .skip
abbrev anr:AC:= .seq (.seq (.run [.m 3 aJ]) anq) (.seq (.run [.o 2 (.mv (.k (.int .i64 0)))]) .ret)
abbrev ans:AC:= .seq (.run [.o 2 (.mv (.k (.int .i64 0)))]) anr
abbrev ant:AC:= .cond cy (.seq (.run [.o 6 (.mv (.k (.int .i64 0))), .o 7 (.mv (.k (.bool false)))]) .ret) .skip
abbrev anu:AC:= .cond bT (.seq (.run [.o 6 (.mv (.k (.int .i64 0))), .o 7 (.mv (.k (.bool true)))]) .ret) .skip
abbrev anv:AC:= .cond cz (.seq (.run [.m 16 a8, .m 6 ct, .o 7 (.mv (.k (.bool true)))]) .ret) .skip
abbrev anw:AC:= .seq (.run [.m 14 a8,(.o 15 (.bin .eql bN (.k (.int .i64 (-9223372036854775808)))))]) anv
abbrev anx:AC:= .seq anw (.seq (.run [.m 17 a8, .o 18 (.bin .sub (.k (.int .i64 0)) cZ), .m 6 cU, .o 7 (.mv (.k (.bool true)))]) .ret)
abbrev anz:AC:= .seq (.seq (.run [.m 12 aJ, .o 13 (.bin .eql cb (.k (.int .i64 7)))]) anu) anx
abbrev anA:AC:= .seq (.run [.m 10 cY,(.o 11 (.bin .eql bD (.k (.int .i64 (-1)))))]) (.cond bV anz .skip)
abbrev anB:AC:= .cond dw (.seq (.run [.m 21 a8, .m 22 cY, .o 23 (.bin .rem dD dM), .m 6 dH, .o 7 (.mv (.k (.bool true)))]) .ret) .skip
abbrev anC:AC:= .seq (.seq (.run [.m 19 aJ, .o 20 (.bin .eql dh (.k (.int .i64 7)))]) anB) (.seq (.run [.m 24 a8, .m 25 cY, .o 26 (.bin .quo di dm), .m 6 dZ, .o 7 (.mv (.k (.bool true)))]) .ret)
abbrev anD:AC:= .seq (.seq (.run [.m 8 cY, .o 9 (.bin .eql bW (.k (.int .i64 0)))]) ant) (.seq anA anC)
abbrev anE:AC:= .seq (.run [.o 6 (.mv (.k (.int .i64 0))), .o 7 (.mv (.k (.bool false)))]) anD
abbrev anF:AC:= .cond fO (.seq (.run [.m 41 a8, .m 42 cY, .o 43 (.bin .neq gf gX), .c 44 jF [gL], .m 6 iJ, .o 7 (.mv (.k (.bool true)))]) .ret) .skip
abbrev anG:AC:= .cond eZ (.seq (.run [.m 35 a8, .m 36 cY, .o 37 (.bin .eql ff fp), .c 38 jF [fI], .m 6 fV, .o 7 (.mv (.k (.bool true)))]) .ret) (.seq (.run [.o 40 (.bin .eql bW (.k (.int .i64 15))), .m 39 gk]) anF)
abbrev anH:AC:= .cond eg (.seq (.run [.m 29 a8, .m 30 cY, .o 31 (.bin .geq eN eX), .c 32 jF [eY], .m 6 fe, .o 7 (.mv (.k (.bool true)))]) .ret) (.seq (.run [.o 34 (.bin .eql bW (.k (.int .i64 14))), .m 33 fm]) anG)
abbrev anI:AC:= .cond dD (.seq (.run [.m 23 a8, .m 24 cY, .o 25 (.bin .gtr dH di), .c 26 jF [dm], .m 6 dZ, .o 7 (.mv (.k (.bool true)))]) .ret) (.seq (.run [.o 28 (.bin .eql bW (.k (.int .i64 13))), .m 27 eR]) anH)
abbrev anJ:AC:= .cond cz (.seq (.run [.m 17 a8, .m 18 cY, .o 19 (.bin .leq cZ cU), .c 20 jF [dh], .m 6 dw, .o 7 (.mv (.k (.bool true)))]) .ret) (.seq (.run [.o 22 (.bin .eql bW (.k (.int .i64 12))), .m 21 dM]) anI)
abbrev anK:AC:= .cond cy (.seq (.run [.m 11 a8, .m 12 cY, .o 13 (.bin .lss bV cb), .c 14 jF [bT], .m 6 bN, .o 7 (.mv (.k (.bool true)))]) .ret) (.seq (.run [.o 16 (.bin .eql bW (.k (.int .i64 11))), .m 15 ct]) anJ)
abbrev anL:AC:= .block 0 (.seq (.run [.o 10 (.bin .eql bW (.k (.int .i64 10))), .m 9 bD]) anK)
abbrev anM:AC:= .seq (.seq (.run [.m 8 aJ]) anL) (.seq (.run [.o 6 (.mv (.k (.int .i64 0))), .o 7 (.mv (.k (.bool false)))]) .ret)
abbrev anN:AC:= .seq (.run [.o 6 (.mv (.k (.int .i64 0))), .o 7 (.mv (.k (.bool false)))]) anM
abbrev anO:AC:= .seq (.block 1 (.seq (.run [.o 13 (.cr cy bV 13), .o 14 (.load bT true 13), .o 5 (.alloc [(.int .i64 0),(.int .i64 0),(.slice .full 0 []),(.str []),(.str []),(.int .i64 0),(.int .i64 0),(.str []),(.slice .full 0 []),(.bool false),(.slice .full 0 []),(.slice .full 0 []),(.slice .full 0 [])]), .op none none (.store bl bN 13)]) (.run [.m 15 bM, .o 16 (.load bl true 13), .c 17 mF [ct], .o 18 (.bin .add cz cZ), .m 3 cU]))) (.run [.o 19 (.bin .add bV (.k (.int .i64 1))), .m 11 dh])
abbrev anP:AC:= .block 0 (.loop (.seq (.run [.o 12 (.bin .lss bV bD)]) (.seq (.cond cb .skip (.exit 0)) anO)))
abbrev anQ:AC:= .seq (.block 3 (.seq (.run [.o 25 (.cr dD dH 13), .o 26 (.load dm true 13), .o 7 (.alloc [(.int .i64 0),(.int .i64 0),(.slice .full 0 []),(.str []),(.str []),(.int .i64 0),(.int .i64 0),(.str []),(.slice .full 0 []),(.bool false),(.slice .full 0 []),(.slice .full 0 []),(.slice .full 0 [])]), .op none none (.store bX dZ 13)]) (.run [.m 27 bM, .o 28 (.load bX true 13), .c 29 mF [eR], .o 30 (.bin .add eg eN), .m 3 eX]))) (.run [.o 31 (.bin .add dH (.k (.int .i64 1))), .m 23 eY])
abbrev anR:AC:= .block 2 (.loop (.seq (.run [.o 24 (.bin .lss dH dM)]) (.seq (.cond di .skip (.exit 2)) anQ)))
abbrev anS:AC:= .seq (.seq (.run [.o 20 (.aj a8 12), .o 21 (.load dw false 1), .o 22 (.len dD), .o 23 (.mv (.k (.int .i64 0)))]) anR) (.seq (.run [.m 32 bM, .m 2 fe]) .ret)
abbrev anT:AC:= .seq (.seq (.run [.o 8 (.aj a8 11), .o 9 (.load bW false 1), .o 10 (.len cy), .o 11 (.mv (.k (.int .i64 0)))]) anP) anS
abbrev anU:AC:= .seq (.run [.o 1 (.box aJ), .o 2 (.mv (.k (.int .i64 0)))]) (.seq (.run [.o 3 (.mv (.k (.int .i64 1)))]) anT)
abbrev anV:AC:= .seq (.run [.o 4 (.mv (.k (.bool false)))]) (.seq (.run [.m 5 aJ, .m 6 a8, .c 7 pw [bl,bY], .o 8 (.bin .geq bX (.k (.int .i64 0))), .m 4 bW]) .ret)
abbrev anW:AC:= .seq (.run [.o 2 (.mv (.k (.bool false)))]) (.seq (.run [.m 3 aJ, .o 4 (.bin .geq bM (.k (.int .u8 48))), .m 5 dE, .g 6 5 true (.mv aJ), .g 7 5 true (.bin .leq bY (.k (.int .u8 57))), .o 8 (.pick bl bX (.k (.bool false))), .m 2 bW]) .ret)
abbrev anX:AC:= .seq (.run [.o 20 (.bin .eql bN (.k (.str [38,38]))), .m 15 dw]) (.cond cz .skip (.run [.o 21 (.bin .eql bN (.k (.str [124,124]))), .m 15 dD]))
abbrev anY:AC:= .cond cz .skip (.seq (.run [.o 19 (.bin .eql bN (.k (.str [62,61]))), .m 15 dh]) (.cond cz .skip anX))
abbrev anZ:AC:= .cond cz .skip (.seq (.run [.o 18 (.bin .eql bN (.k (.str [60,61]))), .m 15 cU]) anY)
abbrev an0:AC:= .cond cz .skip (.seq (.run [.o 17 (.bin .eql bN (.k (.str [33,61]))), .m 15 cZ]) anZ)
abbrev an1:AC:= .cond cz (.seq (.run [.o 4 (.mv (.k (.int .i64 2)))]) .ret) .skip
abbrev an2:AC:= .seq (.seq (.run [.o 16 (.bin .eql bN (.k (.str [61,61]))), .m 15 ct]) an0) an1
abbrev an3:AC:= .cond cy (.seq (.run [.m 10 aJ, .m 11 a8, .m 12 a8, .o 13 (.bin .add cb (.k (.int .i64 2))), .o 14 (.y8 bD (some bV) (some bT))]) (.block 0 an2)) .skip
abbrev an4:AC:= .seq (.run [.o 40 (.bin .eql di (.k (.int .u8 47))), .m 25 gk]) (.cond dm .skip (.run [.o 41 (.bin .eql di (.k (.int .u8 37))), .m 25 gf]))
abbrev an5:AC:= .cond dm .skip (.seq (.run [.o 39 (.bin .eql di (.k (.int .u8 42))), .m 25 fO]) (.cond dm .skip an4))
abbrev an6:AC:= .cond dm .skip (.seq (.run [.o 38 (.bin .eql di (.k (.int .u8 45))), .m 25 fV]) an5)
abbrev an7:AC:= .cond dm .skip (.seq (.run [.o 37 (.bin .eql di (.k (.int .u8 43))), .m 25 fI]) an6)
abbrev an8:AC:= .cond dm .skip (.seq (.run [.o 36 (.bin .eql di (.k (.int .u8 62))), .m 25 fp]) an7)
abbrev an9:AC:= .cond dm .skip (.seq (.run [.o 35 (.bin .eql di (.k (.int .u8 60))), .m 25 ff]) an8)
abbrev aoa:AC:= .cond dm .skip (.seq (.run [.o 34 (.bin .eql di (.k (.int .u8 33))), .m 25 fm]) an9)
abbrev aob:AC:= .cond dm .skip (.seq (.run [.o 33 (.bin .eql di (.k (.int .u8 61))), .m 25 eZ]) aoa)
abbrev aoc:AC:= .cond dm .skip (.seq (.run [.o 32 (.bin .eql di (.k (.int .u8 58))), .m 25 fe]) aob)
abbrev aod:AC:= .cond dm .skip (.seq (.run [.o 31 (.bin .eql di (.k (.int .u8 59))), .m 25 eY]) aoc)
abbrev aoe:AC:= .cond dm .skip (.seq (.run [.o 30 (.bin .eql di (.k (.int .u8 44))), .m 25 eX]) aod)
abbrev aof:AC:= .cond dm .skip (.seq (.run [.o 29 (.bin .eql di (.k (.int .u8 125))), .m 25 eN]) aoe)
abbrev aog:AC:= .cond dm .skip (.seq (.run [.o 28 (.bin .eql di (.k (.int .u8 123))), .m 25 eR]) aof)
abbrev aoh:AC:= .cond dm .skip (.seq (.run [.o 27 (.bin .eql di (.k (.int .u8 41))), .m 25 eg]) aog)
abbrev aoi:AC:= .cond dm (.seq (.run [.o 4 (.mv (.k (.int .i64 1)))]) .ret) .skip
abbrev aoj:AC:= .seq (.seq (.run [.o 26 (.bin .eql di (.k (.int .u8 40))), .m 25 dZ]) aoh) aoi
abbrev aok:AC:= .seq (.seq (.run [.m 22 aJ, .m 23 a8, .o 24 (.oY dM dH)]) (.block 1 aoj)) (.seq (.run [.o 4 (.mv (.k (.int .i64 0)))]) .ret)
abbrev aol:AC:= .seq (.seq (.run [.m 5 a8, .o 6 (.bin .add bl (.k (.int .i64 1))), .m 7 aJ, .o 8 (.nR bX), .o 9 (.bin .lss bY bW)]) an3) aok
abbrev aom:AC:= .seq (.run [.o 4 (.mv (.k (.int .i64 0)))]) aol
abbrev aon:AC:= .cond dM (.seq (.run [.o 2 (.mv (.k (.int .i64 0))), .o 3 (.mv (.k (.bool false)))]) .ret) .skip
abbrev aoo:AC:= .seq (.seq (.run [.m 18 dE, .m 19 bY, .o 20 (.bin .sub (.k (.int .i64 9223372036854775807)) dh), .o 21 (.bin .quo dw (.k (.int .i64 10))), .o 22 (.bin .gtr cU dD)]) aon) (.run [.m 23 dE, .o 24 (.bin .mul dH (.k (.int .i64 10))), .m 25 bY, .o 26 (.bin .add di dm), .m 4 dZ])
abbrev aop:AC:= .block 1 (.seq (.run [.m 13 aJ, .m 14 bl, .o 15 (.oY bT bN), .o 16 (.bin .sub cz (.k (.int .u8 48))), .o 17 (.conv .i64 ct), .m 6 cZ]) aoo)
abbrev aoq:AC:= .seq (.seq (.run [.m 7 bl, .m 8 aJ, .o 9 (.nR bW), .o 10 (.bin .lss bX cy)]) (.cond bD .skip (.exit 0))) (.seq aop (.run [.m 11 bl, .o 12 (.bin .add bV (.k (.int .i64 1))), .m 5 cb]))
abbrev aor:AC:= .seq (.seq (.run [.o 5 (.mv (.k (.int .i64 0)))]) (.block 0 (.loop aoq))) (.seq (.run [.m 27 dE, .m 2 eg, .o 3 (.mv (.k (.bool true)))]) .ret)
abbrev aos:AC:= .seq (.run [.o 2 (.mv (.k (.int .i64 0))), .o 3 (.mv (.k (.bool false)))]) (.seq (.run [.o 4 (.mv (.k (.int .i64 0)))]) aor)
abbrev aot:AC:= .cond bT (.seq (.run [.o 4 (.mv (.k (.bool false)))]) .ret) .skip
abbrev aou:AC:= .seq (.run [.m 14 aJ, .o 15 (.br bN), .o 16 (.aj cz 1), .o 17 (.load ct false 1), .o 18 (.bin .add cZ (.k (.int .i64 1))), .o 19 (.br bN), .o 20 (.aj dh 1), .op none none (.store dw cU 1)]) (.seq (.run [.o 4 (.mv (.k (.bool true)))]) .ret)
abbrev aov:AC:= .seq (.seq (.run [.m 5 aJ, .c 6 db [bl], .o 7 (.un .not bY), .m 8 bX, .g 9 8 false (.mv aJ), .g 10 8 false (.mv a8), .d 11 8 false fC [cy,bD], .g 12 8 false (.un .not bV), .o 13 (.pick bW (.k (.bool true)) cb)]) aot) aou
abbrev aow:AC:= .seq (.run [.o 4 (.mv (.k (.bool false)))]) aov
abbrev aox:AC:= .cond dw (.seq (.run [.m 21 aJ,(.c 22 dA [dD,(.k (.str [59]))])]) (.seq (.run [.m 23 a8, .m 6 dH]) .ret)) .skip
abbrev aoy:AC:= .seq (.run [.m 9 a8, .m 10 aJ, .m 11 a8, .o 12 (.len bV), .m 13 cY, .o 14 (.bin .lss cb bT), .c 15 eT [bD,bN], .o 16 (.cf [(.str [])] 1 1 [(0,cz)]), .o 17 (.app 1 16 cy ct), .m 1 cZ]) (.seq (.run [.m 18 aJ,(.c 19 dQ [cU,(.k (.str [44]))]), .o 20 (.un .not dh)]) aox)
abbrev aoz:AC:= .block 0 (.loop (.seq (.seq (.run [.m 7 aJ, .c 8 db [bX]]) (.cond bW .skip (.exit 0))) (.block 1 aoy)))
abbrev aoA:AC:= .seq (.run [.o 6 (.mv (.k (.slice .full 0 [])))]) (.seq aoz (.seq (.run [.m 24 a8, .m 6 di]) .ret))
abbrev aoB:AC:= .seq (.run [.o 2 (.mv (.k (.bool false)))]) (.seq (.run [.m 3 aJ, .o 4 (.br bM), .o 5 (.aj dE 2), .o 6 (.aj bl 0), .o 7 (.load bY false 1), .o 8 (.bin .eql bX (.k (.int .i64 0))), .m 2 bW]) .ret)
abbrev aoC:AC:= .seq (.run [.m 6 aJ, .c 7 dR [bY], .o 5 (.alloc [(.int .i64 0),(.str []),(.int .i64 0),(.int .i64 0)]), .op none none (.store bl bX 4)]) (.seq (.run [.o 8 (.aj bl 0), .o 9 (.load bW false 1), .o 10 (.bin .eql cy (.k (.int .i64 3))), .m 11 bD, .g 12 11 false (.aj bl 0), .g 13 11 false (.load cb false 1), .g 14 11 false (.bin .eql bT (.k (.int .i64 4))), .o 15 (.pick bV (.k (.bool true)) bN), .m 16 cz, .g 17 16 true (.aj bl 1), .g 18 16 true (.load cZ false 1), .g 19 16 true (.mv a8), .g 20 16 true (.bin .eql cU dh), .o 21 (.pick ct dw (.k (.bool false))), .m 4 dD]) .ret)
abbrev aoD:AC:= .seq (.run [.o 4 (.mv (.k (.bool false)))]) aoC
abbrev aoE:AC:= .seq (.run [.m 4 aJ, .c 5 db [dE]]) (.cond bl (.run [.m 6 aJ, .m 7 a8, .m 8 aJ, .c 9 dR [bW], .o 10 (.uC cy 3 false 1), .o 11 (.build [(.int .i64 0),(.int .i64 0)] [(0,(1,bX)),(1,(1,bD))]), .o 12 (.br bY), .o 13 (.aj cb 2), .op none none (.store bT bV 2)]) .skip)
abbrev aoF:AC:= .par [.o 21 (.aj bM 1), .o 22 (.load dD false 1), .m 23 aJ, .o 24 (.aj bM 1), .o 25 (.load di false 1), .o 26 (.len dm), .o 27 (.bin .lss dZ (.k (.int .i64 8))), .c 28 eT [dH,eg], .m 29 dE, .o 30 (.build [(.str []),(.bool false)] [(0,(1,eR)),(1,(1,eN))]), .o 31 (.cf [(.str []),(.bool false)] 2 1 [(0,eX)]), .o 32 (.app 2 24 dM eY), .o 33 (.aj bM 1), .op none none (.store eZ fe 1)] [(2,0),(3,0),(4,0),(5,0),(6,0),(7,0),(0,0),(1,1),(8,0),(9,0),(10,0),(11,0),(12,0),(13,0)]
abbrev aoG:AC:= .seq aoF (.seq (.run [.m 34 aJ,(.c 35 dQ [fm,(.k (.str [44]))]), .o 36 (.un .not ff)]) (.cond fp (.exit 0) .skip))
abbrev aoH:AC:= .block 1 (.seq (.run [.m 19 aJ,(.c 20 dQ [dh,(.k (.str [114,101,102]))]), .m 4 dw]) aoG)
abbrev aoI:AC:= .block 0 (.loop (.seq (.seq (.run [.m 17 aJ, .c 18 db [cZ]]) (.cond cU .skip (.exit 0))) aoH))
abbrev ad8:AC:= .seq (.seq (.run [.m 41 aJ,(.c 42 dQ [gf,(.k (.str [118,97,114]))])]) (.cond gX .skip (.exit 2))) (.block 3 (.run [.m 43 aJ, .o 44 (.aj bM 2), .o 45 (.load iJ false 1), .c 46 jG [gL,jg,(.k (.int .i64 16))], .o 47 (.aj bM 2), .op none none (.store jJ jh 1)]))
abbrev ad9:AC:= .seq (.run [.m 49 aJ, .c 50 gK [iK,(.k (.int .i64 1)),(.k (.bool true))], .m 48 jK, .o 51 (.ext iE 0), .o 52 (.ext iE 1), .o 53 (.aj bM 3), .op none none (.store iT ji 1), .o 54 (.aj bM 4), .op none none (.store jL jj 1)]) (.seq (.run [.o 55 (.load bM true 5), .op none none (.store cY jM 5)]) .ret)
abbrev aoJ:AC:= .seq (.run [.m 37 aJ,(.c 38 dA [fI,(.k (.str [41]))])]) (.seq (.run [.m 39 aJ,(.c 40 dA [fO,(.k (.str [123]))])]) (.seq (.block 2 (.loop ad8)) ad9))
abbrev aoK:AC:= .seq (.seq (.run [.m 10 aJ, .c 11 db [bD], .m 12 bV, .g 13 12 true (.mv aJ),(.d 14 12 true fC [bT,(.k (.str [41]))]), .g 15 12 true (.un .not bN), .o 16 (.pick cb cz (.k (.bool false)))]) (.cond ct aoI .skip)) aoJ
abbrev aoL:AC:= .seq (.run [.m 5 aJ, .c 6 eT [bl,(.k (.bool true))], .o 7 (.build [(.str []),(.slice .full 0 []),(.slice .full 0 []),(.slice .full 0 []),(.slice .full 0 [])] [(0,(1,bY))]), .o 3 (.alloc [(.str []),(.slice .full 0 []),(.slice .full 0 []),(.slice .full 0 []),(.slice .full 0 [])]), .op none none (.store bM bX 5)]) (.seq (.run [.m 8 aJ,(.c 9 dA [bW,(.k (.str [40]))])]) aoK)
abbrev aoM:AC:= .seq (.run [.o 2 (.alloc [(.str []),(.slice .full 0 []),(.slice .full 0 []),(.slice .full 0 []),(.slice .full 0 [])])]) aoL
abbrev aoN:AC:= .par [.m 3 aJ, .o 4 (.br bM), .o 5 (.aj dE 0), .o 6 (.load bl false 1), .m 7 aJ, .o 8 (.br bX), .o 9 (.aj bW 1), .o 10 (.load cy false 1), .o 11 (.cr bY bD 4), .o 12 (.load bV true 4), .op none none (.store cY cb 4)] [(0,0),(1,0),(2,0),(3,0),(4,0),(5,0),(6,0),(7,0),(8,0),(9,0),(10,0)]
abbrev aoO:AC:= .seq (.run [.o 2 (.alloc [(.int .i64 0),(.str []),(.int .i64 0),(.int .i64 0)])]) (.seq aoN .ret)
open Go.Proofs
theorem uK:Has Tryz.prog rL 60 [(4,none)] amy:=⟨Tryz.f126,by kernel_rfl,by kernel_rfl⟩
set_option maxRecDepth 20000 in
theorem DY : Has Tryz.prog sy 41 [(4, none)] amF := ⟨Tryz.f127, by kernel_rfl, by kernel_rfl⟩
theorem Gx:Has Tryz.prog pk 9 [(2,none)] amG:=⟨Tryz.f128,by kernel_rfl,by kernel_rfl⟩
theorem MI:Has Tryz.prog wP 24 [(4,none)] amI:=⟨Tryz.f129,by kernel_rfl,by kernel_rfl⟩
theorem KP:Has Tryz.prog uX 18 [(2,none)] amX:=⟨Tryz.f130,by kernel_rfl,by kernel_rfl⟩
theorem E9:Has Tryz.prog uf 93 [(2,none)] anc:=⟨Tryz.f131,by kernel_rfl,by kernel_rfl⟩
theorem Ix:Has Tryz.prog mE 24 [(2,(some (true,4)))] anj:=⟨Tryz.f132,by kernel_rfl,by kernel_rfl⟩
theorem Iy:Has Tryz.prog xC 24 [(2,none)] anp:=⟨Tryz.f133,by kernel_rfl,by kernel_rfl⟩
theorem KQ:Has Tryz.prog jF 4 [(2,none)] ans:=⟨Tryz.f134,by kernel_rfl,by kernel_rfl⟩
theorem wT:Has Tryz.prog ug 27 [(6,none),(7,none)] anE:=⟨Tryz.f135,by kernel_rfl,by kernel_rfl⟩
theorem DZ:Has Tryz.prog sA 45 [(6,none),(7,none)] anN:=⟨Tryz.f136,by kernel_rfl,by kernel_rfl⟩
theorem Iz:Has Tryz.prog mF 33 [(2,none)] anU:=⟨Tryz.f137,by kernel_rfl,by kernel_rfl⟩
theorem wu:Has Tryz.prog nr 9 [(4,none)] anV:=⟨Tryz.f138,by kernel_rfl,by kernel_rfl⟩
theorem IA:Has Tryz.prog qm 9 [(2,none)] anW:=⟨Tryz.f139,by kernel_rfl,by kernel_rfl⟩
theorem BI:Has Tryz.prog zv 42 [(4,none)] aom:=⟨Tryz.f140,by kernel_rfl,by kernel_rfl⟩
theorem Gy:Has Tryz.prog vF 28 [(2,none),(3,none)] aos:=⟨Tryz.f141,by kernel_rfl,by kernel_rfl⟩
theorem yu:Has Tryz.prog dQ 21 [(4,none)] aow:=⟨Tryz.f142,by kernel_rfl,by kernel_rfl⟩
theorem xH:Has Tryz.prog jG 25 [(6,none)] aoA:=⟨Tryz.f143,by kernel_rfl,by kernel_rfl⟩
theorem yv:Has Tryz.prog db 9 [(2,none)] aoB:=⟨Tryz.f144,by kernel_rfl,by kernel_rfl⟩
theorem AN:Has Tryz.prog fC 22 [(4,none)] aoD:=⟨Tryz.f145,by kernel_rfl,by kernel_rfl⟩
theorem zG:Has Tryz.prog fc 14 [] aoE:=⟨Tryz.f146,by kernel_rfl,by kernel_rfl⟩
theorem yw:Has Tryz.prog oJ 56 [(2,(some (true,5)))] aoM:=⟨Tryz.f147,by kernel_rfl,by kernel_rfl⟩
theorem yx:Has Tryz.prog dR 13 [(2,(some (true,4)))] aoO:=⟨Tryz.f148,by kernel_rfl,by kernel_rfl⟩
abbrev aoP:AC:= .block 1 (.seq (.run [.m 10 bW, .m 5 bD]) (.seq (.run [.m 11 a8, .m 12 aJ, .m 13 bl, .o 14 (.cr cb bT 1), .o 15 (.load bN false 1),(.jA (some 16) none 11 [cz])]) (.cond ct (.seq (.run [.m 17 bl, .m 4 cZ]) .ret) .skip)))
abbrev aoQ:AC:= .seq (.cond cy .skip (.exit 0)) (.seq aoP (.run [.o 18 (.bin .add bW (.k (.int .i64 1))), .m 8 cU]))
abbrev aoR:AC:= .seq (.run [.m 6 aJ, .o 7 (.len bY), .o 8 (.mv (.k (.int .i64 0)))]) (.block 0 (.loop (.seq (.run [.o 9 (.bin .lss bW bX)]) aoQ)))
abbrev aoS:AC:= .seq (.run [(.o 4 (.mv (.k (.int .i64 (-1)))))]) .ret
abbrev aoT:AC:= .seq (.run [.o 4 (.mv (.k (.int .i64 0)))]) (.seq aoR aoS)
abbrev aoU:AC:= .seq (.seq (.run [.o 31 (.aj bl 0), .o 32 (.load eY false 1)]) (.cond fe (.run [.m 33 bM, .o 34 (.aj bl 1), .o 35 (.load fm false 1), .o 36 (.cf [(.str [])] 1 1 [(0,ff)]), .o 37 (.app 1 16 eZ fp), .m 3 fI]) .skip)) (.run [.m 38 bM, .o 39 (.aj bl 2), .o 40 (.load fO true 4), .c 41 rO [gk], .o 42 (.app 1 16 fV gf), .m 3 gX])
abbrev aoV:AC:= .seq (.block 1 (.seq (.run [.o 29 (.cr dm eg 6), .o 30 (.load eN true 6), .o 5 (.alloc [(.bool false),(.str []),(.int .i64 0),(.int .i64 0),(.str []),(.slice .full 0 [])]), .op none none (.store bl eX 6)]) aoU)) (.run [.o 43 (.bin .add eg (.k (.int .i64 1))), .m 27 gL])
abbrev aoW:AC:= .block 0 (.loop (.seq (.run [.o 28 (.bin .lss eg dZ)]) (.seq (.cond eR .skip (.exit 0)) aoV)))
abbrev aoX:AC:= .seq (.seq (.run [.o 24 (.aj a8 10), .o 25 (.load di false 1), .o 26 (.len dm), .o 27 (.mv (.k (.int .i64 0)))]) aoW) (.seq (.run [.m 44 bM, .m 2 iJ]) .ret)
abbrev aoY:AC:= .seq (.seq (.run [.o 6 (.aj a8 1), .o 7 (.load bY false 1), .o 8 (.bin .neq bX (.k (.int .i64 10))), .m 9 bW, .g 10 9 true (.aj a8 3), .g 11 9 true (.load bD false 1), .g 12 9 true (.bin .neq bV (.k (.str []))), .o 13 (.pick cy cb (.k (.bool false)))]) (.cond bT (.run [.m 14 bM, .o 15 (.aj a8 3), .o 16 (.load cz false 1), .o 17 (.cf [(.str [])] 1 1 [(0,ct)]), .o 18 (.app 1 16 bN cZ), .m 3 cU]) .skip)) (.seq (.run [.m 19 bM, .o 20 (.aj a8 5), .o 21 (.load dw true 4), .c 22 rO [dD], .o 23 (.app 1 16 dh dM), .m 3 dH]) aoX)
abbrev aoZ:AC:= .seq (.run [.o 1 (.box aJ), .o 2 (.mv (.k (.slice .full 0 [])))]) (.seq (.run [.o 3 (.mv (.k (.slice .full 0 [])))]) aoY)
abbrev ao0:AC:= .cond dH (.seq (.run [.o 6 (.mv (.k (.int .i64 3)))]) .ret) .skip
abbrev ao1:AC:= .cond eg (.seq (.run [.o 6 (.mv (.k (.int .i64 2)))]) .ret) .skip
abbrev ao2:AC:= .seq (.seq (.run [.o 16 (.aj bW 0), .o 17 (.load ct false 1), .m 18 cY, .o 19 (.bin .eql cZ cU), .m 20 dh, .g 21 20 true (.aj bW 1), .g 22 20 true (.load dD false 1), .o 23 (.pick dw dM (.k (.bool false)))]) ao0) (.seq (.run [.o 24 (.aj bW 0), .o 25 (.load di false 1), .m 26 cY, .o 27 (.bin .eql dm dZ)]) ao1)
abbrev ao3:AC:= .seq (.block 1 (.seq (.run [.o 14 (.cr bD cb 2), .o 15 (.load bN true 2), .o 8 (.alloc [(.str []),(.bool false)]), .op none none (.store bW cz 2)]) ao2)) (.run [.o 28 (.bin .add cb (.k (.int .i64 1))), .m 12 eR])
abbrev ao4:AC:= .block 0 (.loop (.seq (.run [.o 13 (.bin .lss cb bV)]) (.seq (.cond bT .skip (.exit 0)) ao3)))
abbrev ao5:AC:= .cond fe (.seq (.run [.o 6 (.mv (.k (.int .i64 4)))]) .ret) .skip
abbrev ao6:AC:= .cond fp (.seq (.run [.o 6 (.mv (.k (.int .i64 1)))]) .ret) .skip
abbrev ao7:AC:= .seq (.seq (.run [.o 33 (.aj bM 0), .o 34 (.load eZ false 1), .m 35 cY, .c 36 cD [fm,ff]]) ao6) (.seq (.run [.o 6 (.mv (.k (.int .i64 0)))]) .ret)
abbrev ao8:AC:= .seq (.seq (.run [.o 9 (.aj dE 1), .o 10 (.load cy false 1), .o 11 (.len bD), .o 12 (.mv (.k (.int .i64 0)))]) ao4) (.seq (.seq (.run [.o 29 (.aj dE 2), .o 30 (.load eN false 1), .m 31 cY, .c 32 cD [eX,eY]]) ao5) ao7)
abbrev ao9:AC:= .seq (.run [.o 3 (.box aJ), .o 4 (.box a8), .o 6 (.mv (.k (.int .i64 0)))]) ao8
abbrev apa:AC:= .cond bV (.seq (.run [.o 4 (.mv (.k (.bool false)))]) .ret) .skip
abbrev apb:AC:= .par [.o 19 (.aj bY 1), .o 20 (.load dh false 1), .m 21 a8, .m 22 bl, .o 23 (.cr dD dM 6), .o 24 (.aj dH 0), .o 25 (.load di false 1), .o 26 (.Dg true dw dm)] [(0,0),(1,0),(2,0),(3,0),(4,0),(5,0),(6,0),(7,0)]
abbrev apc:AC:= .cond dZ (.seq (.run [.o 4 (.mv (.k (.bool false)))]) .ret) .skip
abbrev apd:AC:= .seq (.block 1 (.seq (.run [.m 16 bN, .o 17 (.cr cb bN 2), .o 18 (.load cZ true 2), .o 6 (.alloc [(.str []),(.bool false)]), .m 5 ct, .op none none (.store bY cU 2)]) (.seq apb apc))) (.run [.o 27 (.bin .add bN (.k (.int .i64 1))), .m 14 eg])
abbrev ape:AC:= .block 0 (.loop (.seq (.run [.o 15 (.bin .lss bN bT)]) (.seq (.cond cz .skip (.exit 0)) apd)))
abbrev apf:AC:= .seq (.seq (.run [.m 12 aJ, .o 13 (.len cb), .o 14 (.mv (.k (.int .i64 0)))]) ape) (.seq (.run [.o 4 (.mv (.k (.bool true)))]) .ret)
abbrev apg:AC:= .seq (.run [.o 4 (.mv (.k (.bool false)))]) (.seq (.seq (.run [.m 7 aJ, .o 8 (.len bX), .m 9 a8, .o 10 (.len cy), .o 11 (.bin .neq bW bD)]) apa) apf)
abbrev aph:AC:= .seq (.run [.o 2 (.box aJ), .o 3 (.box a8), .o 4 (.mv (.k (.bool false)))]) (.seq (.run [.o 5 (.load cY true 2), .c 6 lW [bl], .o 7 (.uC bY 0 false 1), .o 8 (.bin .eql bX (.k (.int .i64 0))), .m 9 bW, .g 10 9 true (.aj cY 1), .g 11 9 true (.load bD false 1), .g 12 9 true (.uQ 197 [bM]), .d 13 9 true gU [bV,cb], .o 14 (.pick cy bT (.k (.bool false))), .m 4 bN]) .ret)
abbrev api:AC:= .seq (.run [.o 26 (.cr dM di 1), .o 27 (.load dZ false 1), .m 8 eg]) (.seq (.run [.m 28 bl, .m 29 bW, .c 30 cD [eR,eN], .o 31 (.un .not eX)]) (.cond eY (.run [.m 32 bl, .m 33 bW, .o 34 (.cf [(.str [])] 1 1 [(0,eZ)]), .o 35 (.app 1 16 fe fm), .m 5 ff]) .skip))
abbrev apj:AC:= .seq (.cond dm .skip (.exit 2)) (.seq (.block 3 api) (.run [.o 36 (.bin .add di (.k (.int .i64 1))), .m 24 fp]))
abbrev apk:AC:= .seq (.run [.m 17 aJ, .m 18 bl, .m 19 bY, .o 20 (.cr cU dh 1), .o 21 (.load dw false 1), .c 22 uj [cZ,dD], .o 23 (.len dM), .o 24 (.mv (.k (.int .i64 0)))]) (.block 2 (.loop (.seq (.run [.o 25 (.bin .lss di dH)]) apj)))
abbrev apl:AC:= .seq (.seq (.run [.m 11 bY, .m 12 bl, .o 13 (.len cb), .o 14 (.bin .lss bV bT)]) (.cond bN .skip (.exit 0))) (.seq (.block 1 apk) (.run [.m 15 bY, .o 16 (.bin .add cz (.k (.int .i64 1))), .m 6 ct]))
abbrev aea:AC:= .seq (.run [.m 39 bl, .m 4 fO]) .ret
abbrev apm:AC:= .seq (.seq (.run [.o 6 (.mv (.k (.int .i64 0)))]) (.block 0 (.loop apl))) (.seq (.run [.m 37 bl, .c 38 jH [fI]]) aea)
abbrev apn:AC:= .seq (.run [.o 4 (.mv (.k (.slice .full 0 [])))]) (.seq (.run [.m 9 a8, .o 10 (.cf [(.str [])] 1 1 [(0,cy)]), .m 5 bD]) apm)
abbrev apo:AC:= .seq (.run [.o 4 (.mv (.k (.bool false)))]) (.seq (.run [.m 5 a8, .m 6 bl, .g 7 6 true (.mv aJ), .d 8 6 true nY [bX], .o 9 (.pick bY bW (.k (.bool false))), .m 10 cy, .g 11 10 false (.mv a8), .g 12 10 false (.un .not bV), .g 13 10 false (.mv cb), .g 14 13 true (.mv aJ), .g 15 13 true (.bin .eql bN (.k (.str []))), .g 16 10 false (.pick bT cz (.k (.bool false))), .o 17 (.pick bD (.k (.bool true)) ct), .m 4 cZ]) .ret)
abbrev apq:AC:= .seq (.run [.o 2 (.box aJ), .o 4 (.mv (.k (.bool false)))]) (.seq (.run [.m 5 a8, .m 6 bl, .g 7 6 true (.load cY true 4), .d 8 6 true np [bX], .o 9 (.pick bY bW (.k (.bool false))), .m 10 cy, .g 11 10 false (.mv a8), .g 12 10 false (.un .not bV), .g 13 10 false (.mv cb), .g 14 13 true (.load cY true 4), .d 15 13 true xE [bN], .g 16 10 false (.pick bT cz (.k (.bool false))), .o 17 (.pick bD (.k (.bool true)) ct), .m 4 cZ]) .ret)
abbrev apr:AC:= .cond dm (.seq (.run [.o 2 (.mv (.k (.bool false)))]) .ret) .skip
abbrev aps:AC:= .seq (.run [.o 9 (.cr bl bX 6), .o 10 (.load cy true 6), .o 4 (.alloc [(.bool false),(.str []),(.int .i64 0),(.int .i64 0),(.str []),(.slice .full 0 [])]), .op none none (.store dE bD 6)]) (.seq (.run [.o 11 (.aj dE 1), .o 12 (.load bV false 1), .o 13 (.aj dE 0), .o 14 (.load bT false 1), .c 15 po [cb,bN], .o 16 (.un .not cz), .m 17 ct, .g 18 17 false (.aj dE 2), .g 19 17 false (.load cU true 4), .g 20 17 false (.aj dE 0), .g 21 17 false (.load dw false 1), .g 22 17 false (.un .not dD), .d 23 17 false rN [dh,dM], .g 24 17 false (.un .not dH), .o 25 (.pick cZ (.k (.bool true)) di)]) apr)
abbrev apt:AC:= .seq (.cond bW .skip (.exit 0)) (.seq (.block 1 aps) (.run [.o 26 (.bin .add bX (.k (.int .i64 1))), .m 7 dZ]))
abbrev apu:AC:= .seq (.run [.m 5 aJ, .o 6 (.len bl), .o 7 (.mv (.k (.int .i64 0)))]) (.block 0 (.loop (.seq (.run [.o 8 (.bin .lss bX bY)]) apt)))
abbrev apv:AC:= .seq apu (.seq (.run [.o 2 (.mv (.k (.bool true)))]) .ret)
abbrev apw:AC:= .seq (.run [.o 2 (.mv (.k (.bool false)))]) apv
abbrev apx:AC:= .block 1 (.seq (.run [.m 10 bW, .m 5 bD]) (.seq (.run [.m 11 a8, .m 12 aJ, .m 13 bl, .o 14 (.cr cb bT 1), .o 15 (.load bN false 1), .o 16 (.bin .eql bV cz)]) (.cond ct (.seq (.run [.m 17 bl, .m 4 cZ]) .ret) .skip)))
abbrev apy:AC:= .seq (.cond cy .skip (.exit 0)) (.seq apx (.run [.o 18 (.bin .add bW (.k (.int .i64 1))), .m 8 cU]))
abbrev apz:AC:= .seq (.run [.m 6 aJ, .o 7 (.len bY), .o 8 (.mv (.k (.int .i64 0)))]) (.block 0 (.loop (.seq (.run [.o 9 (.bin .lss bW bX)]) apy)))
abbrev apA:AC:= .seq (.run [(.o 4 (.mv (.k (.int .i64 (-1)))))]) .ret
abbrev apB:AC:= .seq (.run [.o 4 (.mv (.k (.int .i64 0)))]) (.seq apz apA)
abbrev apC:AC:= .seq (.run [.m 16 aJ, .c 17 fc [ct,(.k (.int .i64 3))]]) (.seq (.run [.o 4 (.mv (.k (.str [])))]) .ret)
abbrev apD:AC:= .seq (.run [.m 20 aJ, .c 21 fc [dw,(.k (.int .i64 4))]]) (.seq (.run [.o 4 (.mv (.k (.str [])))]) .ret)
abbrev apE:AC:= .seq (.seq (.run [.m 18 a8, .o 19 (.un .not cU)]) (.cond dh apD .skip)) (.seq (.run [.m 22 aJ, .o 23 (.br dM), .o 24 (.aj dH 1), .o 25 (.load di false 1), .o 26 (.bin .add dm (.k (.int .i64 1))), .o 27 (.br dM), .o 28 (.aj eg 1), .op none none (.store eR dZ 1)]) (.seq (.run [.o 29 (.aj bl 1), .o 30 (.load eN false 1), .m 4 eX]) .ret))
abbrev apG:AC:= .seq (.seq (.run [.m 8 aJ, .c 9 db [bW], .o 10 (.un .not cy), .m 11 bD, .g 12 11 false (.aj bl 0), .g 13 11 false (.load cb false 1), .g 14 11 false (.bin .neq bT (.k (.int .i64 1))), .o 15 (.pick bV (.k (.bool true)) bN)]) (.cond cz apC .skip)) apE
abbrev apH:AC:= .seq (.run [.o 4 (.mv (.k (.str [])))]) (.seq (.run [.m 6 aJ, .c 7 dR [bY], .o 5 (.alloc [(.int .i64 0),(.str []),(.int .i64 0),(.int .i64 0)]), .op none none (.store bl bX 4)]) apG)
abbrev apI:AC:= .seq (.run [.m 4 aJ, .m 5 a8, .c 6 dQ [dE,bl], .o 7 (.un .not bY)]) (.cond bX (.run [.m 8 aJ, .c 9 fc [bW,(.k (.int .i64 3))]]) .skip)
abbrev apJ:AC:= .cond di (.seq (.run [.m 25 aJ, .o 26 (.br dm), .o 27 (.aj dZ 1), .o 28 (.load eg false 1), .o 29 (.bin .add eR (.k (.int .i64 1))), .o 30 (.br dm), .o 31 (.aj eX 1), .op none none (.store eY eN 1)]) (.seq (.run [.m 32 bW, .m 33 cy, .m 6 fe, .m 7 eZ]) .ret)) .skip
abbrev apK:AC:= .seq (.seq (.run [.m 15 aJ,(.c 16 fC [cz,(.k (.str [125]))]), .m 17 ct, .g 18 17 true (.mv cY), .g 19 17 true (.mv cU), .g 20 19 false (.mv cy), .g 21 19 false (.len dw), .g 22 19 false (.bin .eql dD (.k (.int .i64 0))), .g 23 17 true (.pick dh (.k (.bool true)) dM), .o 24 (.pick cZ dH (.k (.bool false)))]) apJ) (.seq (.run [.m 34 aJ, .m 35 a8, .c 36 oK [fm,ff], .o 10 (.alloc [(.int .i64 0),(.int .i64 0),(.slice .full 0 []),(.str []),(.str []),(.int .i64 0),(.int .i64 0),(.str []),(.slice .full 0 []),(.bool false),(.slice .full 0 []),(.slice .full 0 []),(.slice .full 0 [])]), .op none none (.store bD fp 13)]) (.seq (.run [.m 37 cy, .o 38 (.aj bD 2), .op none none (.store fV fI 1)]) (.run [.m 39 bW, .o 40 (.load bD true 13), .o 41 (.cf [(.int .i64 0),(.int .i64 0),(.slice .full 0 []),(.str []),(.str []),(.int .i64 0),(.int .i64 0),(.str []),(.slice .full 0 []),(.bool false),(.slice .full 0 []),(.slice .full 0 []),(.slice .full 0 [])] 13 1 [(0,gk)]), .o 42 (.app 13 208 fO gf), .m 8 gX])))
abbrev apL:AC:= .block 0 (.loop (.seq (.seq (.run [.m 11 aJ, .c 12 db [bV]]) (.cond cb .skip (.exit 0))) (.block 1 (.seq (.run [.m 13 aJ, .c 14 nu [bT], .m 9 bN]) apK))))
abbrev apN:AC:= .seq apL (.seq (.run [.o 6 (.mv (.k (.slice .full 0 []))), .o 7 (.mv (.k (.slice .full 0 [])))]) .ret)
abbrev apO:AC:= .seq (.run [.o 6 (.mv (.k (.slice .full 0 []))), .o 7 (.mv (.k (.slice .full 0 [])))]) (.seq (.run [.o 8 (.mv (.k (.slice .full 0 [])))]) apN)
abbrev apP:AC:= .cond bT (.seq (.run [.o 2 (.mv (.k (.bool false)))]) .ret) .skip
abbrev apQ:AC:= .seq (.block 1 (.seq (.run [.o 9 (.cr bl bX 1), .o 10 (.load cy false 1), .m 4 bD]) (.seq (.run [.m 11 dE, .c 12 ln [bV], .o 13 (.un .not cb)]) apP))) (.run [.o 14 (.bin .add bX (.k (.int .i64 1))), .m 7 bN])
abbrev apR:AC:= .block 0 (.loop (.seq (.run [.o 8 (.bin .lss bX bY)]) (.seq (.cond bW .skip (.exit 0)) apQ)))
abbrev apS:AC:= .seq (.seq (.run [.m 5 aJ, .o 6 (.len bl), .o 7 (.mv (.k (.int .i64 0)))]) apR) (.seq (.run [.o 2 (.mv (.k (.bool true)))]) .ret)
abbrev apT:AC:= .seq (.run [.o 2 (.mv (.k (.bool false)))]) apS
abbrev apU:AC:= .cond ct (.seq (.run [.o 2 (.mv (.k (.bool false)))]) .ret) .skip
abbrev apV:AC:= .cond fm (.seq (.run [.o 2 (.mv (.k (.bool false)))]) .ret) .skip
abbrev apW:AC:= .block 1 (.seq (.run [.m 23 aJ, .m 24 bM, .o 25 (.oY dH di), .c 26 rP [dm], .o 27 (.un .not dZ), .m 28 eg, .g 29 28 true (.mv aJ), .g 30 28 true (.mv bM), .g 31 28 true (.oY eN eX), .d 32 28 true vJ [eY], .g 33 28 true (.un .not fe), .o 34 (.pick eR eZ (.k (.bool false)))]) apV)
abbrev apX:AC:= .seq (.seq (.run [.m 17 bM, .m 18 aJ, .o 19 (.nR cU), .o 20 (.bin .lss cZ dh)]) (.cond dw .skip (.exit 0))) (.seq apW (.run [.m 21 bM, .o 22 (.bin .add dD (.k (.int .i64 1))), .m 3 dM]))
abbrev apY:AC:= .seq (.seq (.run [.o 3 (.mv (.k (.int .i64 1)))]) (.block 0 (.loop apX))) (.seq (.run [.m 35 aJ, .c 36 xF [ff], .o 37 (.un .not fp), .m 2 fI]) .ret)
abbrev apZ:AC:= .seq (.seq (.run [.m 4 aJ, .o 5 (.bin .eql dE (.k (.str []))), .m 6 bl, .g 7 6 false (.mv aJ), .g 8 6 false (.nR bX), .g 9 6 false (.bin .gtr bW (.k (.int .i64 8))), .o 10 (.pick bY (.k (.bool true)) cy), .m 11 bD, .g 12 11 false (.mv aJ), .g 13 11 false (.oY cb (.k (.int .i64 0))), .d 14 11 false rP [bT], .g 15 11 false (.un .not bN), .o 16 (.pick bV (.k (.bool true)) cz)]) apU) apY
abbrev ap0:AC:= .seq (.run [.o 2 (.mv (.k (.bool false)))]) apZ
abbrev ap1:AC:= .run [.o 8 (.aj a8 1), .o 9 (.load bW false 1), .o 10 (.bin .eql cy (.k (.int .i64 1))), .m 11 bD, .g 12 11 false (.aj a8 1), .g 13 11 false (.load cb false 1), .g 14 11 false (.bin .eql bT (.k (.int .i64 3))), .o 15 (.pick bV (.k (.bool true)) bN), .m 16 cz, .g 17 16 false (.aj a8 1), .g 18 16 false (.load cZ false 1), .g 19 16 false (.bin .eql cU (.k (.int .i64 5))), .o 20 (.pick ct (.k (.bool true)) dh), .m 21 dw, .g 22 21 false (.aj a8 1), .g 23 21 false (.load dM false 1), .g 24 21 false (.bin .eql dH (.k (.int .i64 6))), .o 25 (.pick dD (.k (.bool true)) di), .m 26 dm, .g 27 26 false (.aj a8 1), .g 28 26 false (.load eg false 1), .g 29 26 false (.bin .eql eR (.k (.int .i64 9))), .g 30 26 false (.mv eN), .g 31 30 true (.aj a8 9), .g 32 30 true (.load eY false 1), .g 33 26 false (.pick eX fe (.k (.bool false))), .o 34 (.pick dZ (.k (.bool true)) eZ), .m 3 fm]
abbrev ap2:AC:= .run [.o 51 (.aj a8 1), .o 52 (.load ji false 1), .o 53 (.bin .lss jj (.k (.int .i64 1))), .m 54 iT, .g 55 54 false (.aj a8 1), .g 56 54 false (.load jM false 1), .g 57 54 false (.bin .gtr k9 (.k (.int .i64 10))), .o 58 (.pick jL (.k (.bool true)) lS), .m 59 lJ, .g 60 59 false (.aj a8 2), .g 61 59 false (.load nz false 1), .d 62 59 false vI [n7], .g 63 59 false (.un .not n8), .o 64 (.pick kK (.k (.bool true)) n9), .m 65 px, .g 66 65 false (.mv bM), .g 67 65 false (.mv rQ), .g 68 67 true (.aj a8 5), .g 69 67 true (.load qP true 4), .d 70 67 true pJ [sC], .g 71 67 true (.un .not rS), .g 72 65 false (.pick rR vL (.k (.bool false))), .o 73 (.pick qO (.k (.bool true)) uk), .m 74 um, .g 75 74 false (.mv bM), .g 76 74 false (.un .not vN), .g 77 74 false (.mv uq), .g 78 77 true (.aj a8 5), .g 79 77 true (.load ur true 4), .d 80 77 true sZ [zz], .g 81 77 true (.un .not zA), .g 82 74 false (.pick vO zB (.k (.bool false))), .o 83 (.pick vM (.k (.bool true)) Bz), .m 84 BA, .g 85 84 false (.aj a8 9), .g 86 84 false (.load BD false 1), .g 87 84 false (.mv BE), .g 88 87 true (.aj a8 1), .g 89 87 true (.load BG false 1), .g 90 87 true (.bin .neq xG (.k (.int .i64 9))), .g 91 84 false (.pick BF zC (.k (.bool false))), .o 92 (.pick BB (.k (.bool true)) BH)]
abbrev ap3:AC:= .cond DW (.seq (.run [.o 2 (.mv (.k (.bool false)))]) .ret) .skip
abbrev ap4:AC:= .run [.m 93 dE, .m 94 Gq, .g 95 94 true (.aj a8 3), .g 96 94 true (.load Gs false 1), .d 97 94 true ln [KB], .g 98 94 true (.un .not KD), .o 99 (.pick Gr KE (.k (.bool false))), .m 100 KF, .g 101 100 false (.mv dE), .g 102 100 false (.un .not EO), .g 103 100 false (.mv EP), .g 104 103 true (.aj a8 3), .g 105 103 true (.load ES false 1), .g 106 103 true (.bin .neq ET (.k (.str []))), .g 107 100 false (.pick ER EU (.k (.bool false))), .g 108 100 false (.mv EV), .g 109 108 true (.mv bl), .g 110 108 true (.mv IW), .g 111 110 true (.aj a8 3), .g 112 110 true (.load EY false 1), .d 113 110 true ln [Cw], .g 114 108 true (.pick EX EZ (.k (.bool false))), .g 115 108 true (.un .not E0), .g 116 100 false (.pick EW E1 (.k (.bool false))), .o 117 (.pick EN (.k (.bool true)) E2)]
abbrev ap5:AC:= .cond IX (.seq (.run [.o 2 (.mv (.k (.bool false)))]) .ret) .skip
abbrev ap6:AC:= .run [.m 118 bl, .o 119 (.aj a8 4), .o 120 (.load IZ false 1), .o 121 (.bin .neq I0 (.k (.str []))), .o 122 (.Dg true IY I1), .m 123 I2, .g 124 123 false (.mv bl), .g 125 123 false (.mv I4), .g 126 125 true (.aj a8 4), .g 127 125 true (.load Qv false 1), .d 128 125 true ln [I6], .g 129 125 true (.un .not zD), .g 130 123 false (.pick I5 I7 (.k (.bool false))), .o 131 (.pick I3 (.k (.bool true)) I8), .m 132 Qw, .g 133 132 false (.mv bl), .g 134 132 false (.un .not Qx), .g 135 132 false (.mv Qy), .g 136 135 true (.aj a8 10), .g 137 135 true (.load QA false 1), .g 138 135 true (.len QB), .g 139 135 true (.bin .gtr QC (.k (.int .i64 0))), .g 140 132 false (.pick Qz QD (.k (.bool false))), .o 141 (.pick I9 (.k (.bool true)) QE)]
abbrev ap7:AC:= .cond QF (.seq (.run [.o 2 (.mv (.k (.bool false)))]) .ret) .skip
abbrev ap8:AC:= .cond QN (.seq (.run [.o 2 (.mv (.k (.bool false)))]) .ret) .skip
abbrev ap9:AC:= .seq (.block 1 (.seq (.run [.o 147 (.cr Ja E3 6), .o 148 (.load QJ true 6), .o 7 (.alloc [(.bool false),(.str []),(.int .i64 0),(.int .i64 0),(.str []),(.slice .full 0 [])]), .op none none (.store bX QK 6)]) (.seq (.run [.o 149 (.load bX true 6), .c 150 zw [QL], .o 151 (.un .not QM)]) ap8))) (.run [.o 152 (.bin .add E3 (.k (.int .i64 1))), .m 145 YZ])
abbrev aqa:AC:= .block 0 (.loop (.seq (.run [.o 146 (.bin .lss E3 QH)]) (.seq (.cond QI .skip (.exit 0)) ap9)))
abbrev aqb:AC:= .run [.o 153 (.aj a8 11), .o 154 (.load Y0 false 1), .o 155 (.len Y1), .o 156 (.bin .eql Y2 (.k (.int .i64 0))), .m 157 Y3, .g 158 157 false (.aj a8 1), .g 159 157 false (.load Y5 false 1), .g 160 157 false (.bin .eql Y6 (.k (.int .i64 5))), .o 161 (.pick Y4 (.k (.bool true)) Y7), .m 162 Y8, .g 163 162 false (.aj a8 1), .g 164 162 false (.load Za false 1), .g 165 162 false (.bin .eql Zb (.k (.int .i64 6))), .o 166 (.pick Y9 (.k (.bool true)) Zc), .m 167 Zd, .g 168 167 true (.aj a8 12), .g 169 167 true (.load Zf false 1), .g 170 167 true (.len Zg), .g 171 167 true (.bin .eql Zh (.k (.int .i64 0))), .g 172 167 true (.mv Zi), .g 173 172 false (.aj a8 1), .g 174 172 false (.load Zk false 1), .g 175 172 false (.bin .eql Zl (.k (.int .i64 5))), .g 176 167 true (.pick Zj (.k (.bool true)) Zm), .o 177 (.pick Ze ahH (.k (.bool false))), .m 2 ahI]
abbrev aeb:AC:= .seq (.seq (.run [.o 142 (.aj a8 10), .o 143 (.load QG false 1), .o 144 (.len Ja), .o 145 (.mv (.k (.int .i64 0)))]) aqa) (.seq aqb .ret)
abbrev aec:AC:= .seq (.seq ap6 ap7) aeb
abbrev aed:AC:= .seq (.seq ap4 ap5) aec
abbrev aee:AC:= .seq (.seq ap2 ap3) aed
abbrev aef:AC:= .seq (.run [.o 48 (.aj a8 1), .o 49 (.load iE false 1), .o 50 (.bin .eql iK (.k (.int .i64 4))), .m 5 jK]) aee
abbrev aeg:AC:= .seq (.run [.o 35 (.aj a8 1), .o 36 (.load ff false 1), .o 37 (.bin .eql fp (.k (.int .i64 1))), .m 38 fI, .g 39 38 false (.aj a8 1), .g 40 38 false (.load fO false 1), .g 41 38 false (.bin .eql gk (.k (.int .i64 2))), .o 42 (.pick fV (.k (.bool true)) gf), .m 43 gX, .g 44 43 false (.aj a8 1), .g 45 43 false (.load iJ false 1), .g 46 43 false (.bin .eql jg (.k (.int .i64 10))), .o 47 (.pick gL (.k (.bool true)) jh), .m 4 jJ]) aef
abbrev aeh:AC:= .seq ap1 aeg
abbrev aqc:AC:= .seq (.run [.o 1 (.box aJ), .o 2 (.mv (.k (.bool false)))]) aeh
abbrev aqd:AC:= .cond bl (.seq (.run [.o 2 (.mv (.k (.slice .full 0 [])))]) .ret) .skip
abbrev aqe:AC:= .seq (.seq (.run [.o 3 (.load a8 true 4), .c 4 np [bM], .o 5 (.un .not dE)]) aqd) (.seq (.run [.o 6 (.load a8 true 4),(.c 7 iW [bY,(.k (.slice .full 0 []))]), .m 2 bX]) .ret)
abbrev aqf:AC:= .seq (.run [.o 1 (.box aJ), .o 2 (.mv (.k (.slice .full 0 [])))]) aqe
abbrev aqg:AC:= .seq (.run [.o 4 (.mv (.k (.bool false)))]) (.seq (.run [.m 5 aJ, .m 6 a8, .c 7 gu [bl,bY], .o 8 (.bin .geq bX (.k (.int .i64 0))), .m 4 bW]) .ret)
abbrev aqh:AC:= .seq (.run [.o 2 (.box aJ), .o 3 (.mv (.k (.bool false)))]) (.seq (.run [.o 4 (.aj cY 0), .o 5 (.load dE false 1), .o 6 (.load a8 false 1), .o 7 (.bin .eql bl bY), .m 3 bX]) .ret)
abbrev aqi:AC:= .seq (.run [.o 16 (.cr cb bN 17), .o 17 (.load ct true 17), .o 7 (.alloc [(.int .i64 0),(.int .i64 0),(.slice .full 0 []),(.str []),(.str []),(.int .i64 0),(.int .i64 0),(.str []),(.slice .full 0 []),(.bool false),(.slice .full 0 []),(.slice .full 0 []),(.slice .full 0 []),(.int .i64 0),(.int .i64 0),(.int .i64 0),(.int .i64 0)]), .op none none (.store bX cZ 17)]) (.seq (.run [.o 18 (.aj bX 0), .o 19 (.aj cU 1), .o 20 (.load dh false 1), .o 21 (.bin .eql dw (.k (.int .i64 4)))]) (.cond dD (.run [.m 22 bl, .o 23 (.aj bX 0), .o 24 (.aj dH 4), .o 25 (.load di false 1), .o 26 (.cf [(.str [])] 1 1 [(0,dm)]), .o 27 (.app 1 16 dM dZ), .m 5 eg]) .skip))
abbrev aqj:AC:= .seq (.cond cz .skip (.exit 0)) (.seq (.block 1 aqi) (.run [.o 28 (.bin .add bN (.k (.int .i64 1))), .m 14 eR]))
abbrev aqk:AC:= .seq (.run [.m 8 aJ, .m 9 aJ, .m 10 a8, .c 11 iI [cy,bD], .c 12 gT [bW,bV], .o 13 (.len cb), .o 14 (.mv (.k (.int .i64 0)))]) (.block 0 (.loop (.seq (.run [.o 15 (.bin .lss bN bT)]) aqj)))
abbrev aql:AC:= .seq (.run [.o 4 (.mv (.k (.slice .full 0 [])))]) (.seq (.run [.o 5 (.mv (.k (.slice .full 0 [])))]) (.seq aqk (.seq (.run [.m 29 bl, .c 30 jH [eN]]) (.seq (.run [.m 31 bl, .c 32 ke [eY], .m 4 fe]) .ret))))
abbrev aqm:AC:= .seq (.run [.o 1 (.box aJ), .o 2 (.mv (.k (.bool false)))]) (.seq (.run [.o 3 (.aj a8 0), .o 4 (.load bM false 1), .o 5 (.bin .eql dE (.k (.int .i64 0))), .m 6 bl, .g 7 6 true (.aj a8 1), .g 8 6 true (.load bX false 1), .g 9 6 true (.bin .eql bW (.k (.int .i64 0))), .o 10 (.pick bY cy (.k (.bool false))), .m 11 bD, .g 12 11 true (.aj a8 2), .g 13 11 true (.load cb false 1), .g 14 11 true (.bin .eql bT (.k (.str []))), .o 15 (.pick bV bN (.k (.bool false))), .m 16 cz, .g 17 16 true (.aj a8 3), .g 18 16 true (.load cZ false 1), .g 19 16 true (.len cU), .g 20 16 true (.bin .eql dh (.k (.int .i64 0))), .o 21 (.pick ct dw (.k (.bool false))), .m 2 dD]) .ret)
abbrev aqn:AC:= .par [.m 4 aJ, .c 5 db [dE], .m 6 bl, .g 7 6 true (.mv aJ), .d 8 6 true dR [bX], .g 9 6 true (.uC bW 0 false 1), .g 10 6 true (.bin .eql cy (.k (.int .i64 1))), .o 11 (.pick bY bD (.k (.bool false))), .m 12 bV, .g 13 12 true (.mv aJ), .g 14 12 true (.br bT), .g 15 12 true (.aj bN 0), .g 16 12 true (.load cz false 1), .g 17 12 true (.mv aJ), .g 18 12 true (.br cZ), .g 19 12 true (.aj cU 1), .g 20 12 true (.load dh false 1), .g 21 12 true (.bin .add dw (.k (.int .i64 1))), .g 22 12 true (.cr ct dD 4), .g 23 12 true (.aj dM 0), .g 24 12 true (.load dH false 1), .g 25 12 true (.bin .eql di (.k (.int .i64 4))), .o 26 (.pick cb dm (.k (.bool false))), .m 27 dZ, .g 28 27 true (.mv aJ), .g 29 27 true (.br eR), .g 30 27 true (.aj eN 0), .g 31 27 true (.load eX false 1), .g 32 27 true (.mv aJ), .g 33 27 true (.br fe), .g 34 27 true (.aj eZ 1), .g 35 27 true (.load fm false 1), .g 36 27 true (.bin .add ff (.k (.int .i64 1))), .g 37 27 true (.cr eY fp 4), .g 38 27 true (.aj fI 1), .g 39 27 true (.load fV false 1), .g 40 27 true (.bin .eql fO (.k (.str [58]))), .o 41 (.pick eg gk (.k (.bool false)))] [(0,0),(1,0),(2,0),(3,0),(4,0),(5,0),(6,0),(7,0),(8,0),(9,0),(10,0),(11,0),(12,0),(13,0),(14,0),(15,0),(16,0),(17,0),(18,0),(19,0),(20,0),(21,0),(22,0),(23,0),(24,0),(25,0),(26,0),(27,0),(28,0),(29,0),(30,0),(31,0),(32,0),(33,0),(34,0),(35,0),(36,0),(37,0)]
abbrev aqo:AC:= .block 1 (.seq (.run [.m 42 bM, .m 43 aJ, .c 44 dR [gL], .o 45 (.uC iJ 1 false 1), .o 46 (.cf [(.str [])] 1 1 [(0,jg)]), .o 47 (.app 1 16 gX jh), .m 3 jJ]) (.run [.m 48 aJ, .o 49 (.br iE), .o 50 (.aj iK 1), .o 51 (.load jK false 1), .o 52 (.bin .add ji (.k (.int .i64 2))), .o 53 (.br iE), .o 54 (.aj iT 1), .op none none (.store jL jj 1)]))
abbrev aqp:AC:= .block 0 (.loop (.seq (.seq aqn (.cond gf .skip (.exit 0))) aqo))
abbrev aqq:AC:= .seq (.run [.o 2 (.mv (.k (.slice .full 0 [])))]) (.seq (.run [.o 3 (.mv (.k (.slice .full 0 [])))]) (.seq aqp (.seq (.run [.m 55 bM, .m 2 jM]) .ret)))
abbrev aqr:AC:= .cond bD (.seq (.run [.m 11 aJ, .c 12 fc [bV,(.k (.int .i64 3))]]) (.seq (.run [.o 13 (.build [(.int .i64 0),(.int .i64 0),(.slice .full 0 []),(.str []),(.str []),(.int .i64 0),(.int .i64 0),(.str []),(.slice .full 0 []),(.bool false),(.slice .full 0 []),(.slice .full 0 []),(.slice .full 0 [])] []), .op none none (.store dE bT 13)]) .ret)) .skip
abbrev aqs:AC:= .cond eN (.seq (.run [.m 30 aJ, .c 31 fc [eX,(.k (.int .i64 4))]]) (.seq (.run [.o 32 (.build [(.int .i64 0),(.int .i64 0),(.slice .full 0 []),(.str []),(.str []),(.int .i64 0),(.int .i64 0),(.str []),(.slice .full 0 []),(.bool false),(.slice .full 0 []),(.slice .full 0 []),(.slice .full 0 [])] []), .op none none (.store dE fe 13)]) .ret)) .skip
abbrev aqt:AC:= .seq (.run [.m 56 aJ, .c 57 lN [k9],(.o 58 (.build [(.int .i64 0),(.int .i64 0),(.slice .full 0 []),(.str []),(.str []),(.int .i64 0),(.int .i64 0),(.str []),(.slice .full 0 []),(.bool false),(.slice .full 0 []),(.slice .full 0 []),(.slice .full 0 [])] [(1,(1,(.k (.int .i64 6)))),(5,(4,lS))])), .o 6 (.alloc [(.int .i64 0),(.int .i64 0),(.slice .full 0 []),(.str []),(.str []),(.int .i64 0),(.int .i64 0),(.str []),(.slice .full 0 []),(.bool false),(.slice .full 0 []),(.slice .full 0 []),(.slice .full 0 [])]), .op none none (.store bY lJ 13)]) (.seq (.run [.m 59 aJ, .m 60 a8, .c 61 jI [kK,nz], .o 62 (.aj bY 11), .op none none (.store n8 n7 1)]) (.seq (.run [.o 63 (.load bY true 13), .op none none (.store dE n9 13)]) .ret))
abbrev aqu:AC:= .cond iK (.seq (.run [.m 51 aJ, .m 52 a8, .c 53 ny [ji,jj], .op none none (.store dE iT 13)]) .ret) (.seq (.run [.o 55 (.bin .eql iE (.k (.str [119,104,105,108,101]))), .m 54 jM]) (.cond jL aqt .skip))
abbrev aqv:AC:= .block 0 (.seq (.run [.o 50 (.bin .eql iE (.k (.str [105,102]))), .m 49 jK]) aqu)
abbrev aqw:AC:= .seq (.run [.m 64 aJ, .o 65 (.aj bl 1), .o 66 (.load qO false 1), .c 67 n6 [px,rQ], .o 7 (.alloc [(.int .i64 0),(.int .i64 0),(.slice .full 0 []),(.str []),(.str []),(.int .i64 0),(.int .i64 0),(.str []),(.slice .full 0 []),(.bool false),(.slice .full 0 []),(.slice .full 0 []),(.slice .full 0 [])]), .op none none (.store bX rR 13)]) (.seq (.run [.m 68 aJ,(.c 69 dA [qP,(.k (.str [59]))])]) (.seq (.run [.o 70 (.load bX true 13), .op none none (.store dE rS 13)]) .ret))
abbrev aqx:AC:= .seq (.seq (.run [.o 35 (.aj bl 0), .o 36 (.load ff false 1), .o 37 (.bin .eql fp (.k (.int .i64 1)))]) (.cond fI (.seq (.run [.m 38 aJ, .c 39 nZ [fV], .op none none (.store dE fO 13)]) .ret) .skip)) (.seq (.run [.m 40 aJ, .o 41 (.br gk), .o 42 (.aj gf 1), .o 43 (.load gX false 1), .o 44 (.bin .add gL (.k (.int .i64 1))), .o 45 (.br gk), .o 46 (.aj jg 1), .op none none (.store jh iJ 1)]) (.seq (.seq (.run [.o 47 (.aj bl 1), .o 48 (.load jJ false 1)]) aqv) aqw))
abbrev aqy:AC:= .seq (.seq (.run [.m 21 aJ, .o 22 (.br dD), .o 23 (.aj dM 4), .o 24 (.load dH false 1), .o 25 (.bin .gtr di (.k (.int .i64 200))), .m 26 dm, .g 27 26 false (.mv a8), .g 28 26 false (.bin .gtr eg (.k (.int .i64 12))), .o 29 (.pick dZ (.k (.bool true)) eR)]) aqs) (.seq (.run [.m 33 aJ, .c 34 dR [eZ], .o 5 (.alloc [(.int .i64 0),(.str []),(.int .i64 0),(.int .i64 0)]), .op none none (.store bl fm 4)]) aqx)
abbrev aqz:AC:= .seq (.seq (.run [.m 8 aJ, .c 9 nw [bW], .o 10 (.un .not cy)]) aqr) (.seq (.run [.m 14 aJ, .o 15 (.br bN), .o 16 (.aj cz 4), .o 17 (.load ct false 1), .o 18 (.bin .add cZ (.k (.int .i64 1))), .o 19 (.br bN), .o 20 (.aj dh 4), .op none none (.store dw cU 1)]) aqy)
abbrev aqA:AC:= .seq (.run [.o 4 (.alloc [(.int .i64 0),(.int .i64 0),(.slice .full 0 []),(.str []),(.str []),(.int .i64 0),(.int .i64 0),(.str []),(.slice .full 0 []),(.bool false),(.slice .full 0 []),(.slice .full 0 []),(.slice .full 0 [])])]) aqz
abbrev aqB:AC:= .seq (.run [.o 2 (.mv (.k (.bool false)))]) (.seq (.run [.m 3 aJ, .o 4 (.bin .geq bM (.k (.int .u8 97))), .m 5 dE, .g 6 5 true (.mv aJ), .g 7 5 true (.bin .leq bY (.k (.int .u8 122))), .o 8 (.pick bl bX (.k (.bool false))), .m 2 bW]) .ret)
abbrev aqC:AC:= .seq (.run [.o 2 (.mv (.k (.bool false)))]) (.seq (.run [.m 3 aJ, .o 4 (.bin .geq bM (.k (.int .u8 48))), .m 5 dE, .g 6 5 true (.mv aJ), .g 7 5 true (.bin .leq bY (.k (.int .u8 57))), .o 8 (.pick bl bX (.k (.bool false))), .m 2 bW]) .ret)
abbrev aqD:AC:= .cond bT (.seq (.run [.o 2 (.mv (.k (.bool true)))]) .ret) .skip
abbrev aqE:AC:= .seq (.block 1 (.seq (.run [.o 9 (.cr bl bX 1), .o 10 (.load cy false 1), .m 4 bD]) (.seq (.run [.m 11 dE, .m 12 aJ, .o 13 (.bin .eql bV cb)]) aqD))) (.run [.o 14 (.bin .add bX (.k (.int .i64 1))), .m 7 bN])
abbrev aqF:AC:= .block 0 (.loop (.seq (.run [.o 8 (.bin .lss bX bY)]) (.seq (.cond bW .skip (.exit 0)) aqE)))
abbrev aqG:AC:= .seq (.seq (.run [.c 5 vK [], .o 6 (.len bl), .o 7 (.mv (.k (.int .i64 0)))]) aqF) (.seq (.run [.o 2 (.mv (.k (.bool false)))]) .ret)
abbrev aqH:AC:= .seq (.run [.o 2 (.mv (.k (.bool false)))]) aqG
abbrev aqI:AC:= .seq (.run [.o 1 (.box aJ), .o 2 (.mv (.k (.bool false)))]) (.seq (.run [.o 3 (.load a8 true 4), .c 4 qn [bM,(.k (.int .i64 20))], .o 5 (.bin .leq dE (.k (.int .i64 20))), .m 6 bl, .g 7 6 true (.load a8 true 4), .d 8 6 true qo [bX], .o 9 (.pick bY bW (.k (.bool false))), .m 2 cy]) .ret)
abbrev aqJ:AC:= .seq (.run [.o 1 (.box aJ), .o 2 (.mv (.k (.bool false)))]) (.seq (.run [.o 3 (.aj a8 0), .o 4 (.load bM false 1), .o 5 (.bin .eql dE (.k (.int .i64 0))), .m 6 bl, .g 7 6 true (.aj a8 1), .g 8 6 true (.load bX false 1), .g 9 6 true (.bin .eql bW (.k (.int .i64 0))), .o 10 (.pick bY cy (.k (.bool false))), .m 11 bD, .g 12 11 true (.aj a8 2), .g 13 11 true (.load cb false 1), .g 14 11 true (.bin .eql bT (.k (.str []))), .o 15 (.pick bV bN (.k (.bool false))), .m 16 cz, .g 17 16 true (.aj a8 3), .g 18 16 true (.load cZ false 1), .g 19 16 true (.len cU), .g 20 16 true (.bin .eql dh (.k (.int .i64 0))), .o 21 (.pick ct dw (.k (.bool false))), .m 2 dD]) .ret)
abbrev aqK:AC:= .cond dE (.seq (.run [.o 5 (.aj a8 1), .o 6 (.load bl false 1), .c 7 ln [bY], .m 8 bX, .g 9 8 true (.aj a8 2), .g 10 8 true (.load cy true 4), .d 11 8 true sZ [bD], .o 12 (.pick bW bV (.k (.bool false))), .m 2 cb]) .ret) .skip
abbrev aqL:AC:= .seq (.seq (.run [.o 3 (.aj a8 0), .o 4 (.load bM false 1)]) aqK) (.seq (.run [.o 13 (.aj a8 1), .o 14 (.load bT false 1), .o 15 (.bin .eql bN (.k (.str []))), .m 16 cz, .g 17 16 true (.aj a8 2), .g 18 16 true (.load cZ true 4), .d 19 16 true pJ [cU], .o 20 (.pick ct dh (.k (.bool false))), .m 2 dw]) .ret)
abbrev aqM:AC:= .seq (.run [.o 1 (.box aJ), .o 2 (.mv (.k (.bool false)))]) aqL
abbrev aqN:AC:= .seq (.block 1 (.seq (.run [.o 27 (.cr dH dm 4), .o 28 (.load eg true 4), .o 6 (.alloc [(.int .i64 0),(.int .i64 0),(.str []),(.slice .full 0 [])]), .op none none (.store bY eR 4)]) (.run [.o 29 (.load bY true 4), .m 30 a8, .c 31 iW [eN,eX], .m 1 eY]))) (.run [.o 32 (.bin .add dm (.k (.int .i64 1))), .m 25 fe])
abbrev aqO:AC:= .block 0 (.loop (.seq (.run [.o 26 (.bin .lss dm di)]) (.seq (.cond dZ .skip (.exit 0)) aqN)))
abbrev aqP:AC:= .seq (.seq (.run [.o 22 (.aj cY 3), .o 23 (.load dM false 1), .o 24 (.len dH), .o 25 (.mv (.k (.int .i64 0)))]) aqO) (.seq (.run [.m 33 a8, .m 4 eZ]) .ret)
abbrev aqQ:AC:= .seq (.seq (.run [.o 7 (.aj cY 0), .o 8 (.load bX false 1), .o 9 (.bin .eql bW (.k (.int .i64 2))), .m 10 cy, .g 11 10 true (.mv a8), .g 12 10 true (.aj cY 2), .g 13 10 true (.load cb false 1), .d 14 10 true cD [bV,bT], .g 15 10 true (.un .not bN), .o 16 (.pick bD cz (.k (.bool false)))]) (.cond ct (.run [.m 17 a8, .o 18 (.aj cY 2), .o 19 (.load cU false 1), .o 20 (.cf [(.str [])] 1 1 [(0,dh)]), .o 21 (.app 1 16 cZ dw), .m 1 dD]) .skip)) aqP
abbrev aqR:AC:= .seq (.run [.o 2 (.box aJ), .o 4 (.mv (.k (.slice .full 0 [])))]) aqQ
open Go.Proofs
theorem tF:Has Tryz.prog k8 19 [(4,none)] aoT:=⟨Tryz.f170,by kernel_rfl,by kernel_rfl⟩
theorem Gz:Has Tryz.prog rM 45 [(2,none)] aoZ:=⟨Tryz.f171,by kernel_rfl,by kernel_rfl⟩
theorem GC:Has Tryz.prog vG 37 [(6,none)] ao9:=⟨Tryz.f172,by kernel_rfl,by kernel_rfl⟩
theorem yy:Has Tryz.prog vH 28 [(4,none)] apg:=⟨Tryz.f173,by kernel_rfl,by kernel_rfl⟩
theorem wU:Has Tryz.prog uh 15 [(4,none)] aph:=⟨Tryz.f174,by kernel_rfl,by kernel_rfl⟩
theorem IB:Has Tryz.prog xD 40 [(4,none)] apn:=⟨Tryz.f175,by kernel_rfl,by kernel_rfl⟩
theorem GD:Has Tryz.prog po 18 [(4,none)] apo:=⟨Tryz.f178,by kernel_rfl,by kernel_rfl⟩
theorem GF:Has Tryz.prog rN 18 [(4,none)] apq:=⟨Tryz.f179,by kernel_rfl,by kernel_rfl⟩
theorem Fa:Has Tryz.prog ui 27 [(2,none)] apw:=⟨Tryz.f180,by kernel_rfl,by kernel_rfl⟩
theorem zH:Has Tryz.prog pw 19 [(4,none)] apB:=⟨Tryz.f181,by kernel_rfl,by kernel_rfl⟩
theorem yz:Has Tryz.prog eT 31 [(4,none)] apH:=⟨Tryz.f182,by kernel_rfl,by kernel_rfl⟩
theorem yA:Has Tryz.prog dA 10 [] apI:=⟨Tryz.f183,by kernel_rfl,by kernel_rfl⟩
theorem q6:Has Tryz.prog gK 43 [(6,none),(7,none)] apO:=⟨Tryz.f184,by kernel_rfl,by kernel_rfl⟩
theorem GG:Has Tryz.prog vI 15 [(2,none)] apT:=⟨Tryz.f185,by kernel_rfl,by kernel_rfl⟩
theorem Aw:Has Tryz.prog ln 38 [(2,none)] ap0:=⟨Tryz.f186,by kernel_rfl,by kernel_rfl⟩
theorem KR:Has Tryz.prog EL 178 [(2,none)] aqc:=⟨Tryz.f187,by kernel_rfl,by kernel_rfl⟩
theorem yB:Has Tryz.prog rO 8 [(2,none)] aqf:=⟨Tryz.f195,by kernel_rfl,by kernel_rfl⟩
theorem qR:Has Tryz.prog gU 9 [(4,none)] aqg:=⟨Tryz.f196,by kernel_rfl,by kernel_rfl⟩
theorem C8:Has Tryz.prog oU 8 [(3,none)] aqh:=⟨Tryz.f197,by kernel_rfl,by kernel_rfl⟩
theorem Fb:Has Tryz.prog uj 33 [(4,none)] aql:=⟨Tryz.f198,by kernel_rfl,by kernel_rfl⟩
theorem IC:Has Tryz.prog xE 22 [(2,none)] aqm:=⟨Tryz.f201,by kernel_rfl,by kernel_rfl⟩
theorem wv:Has Tryz.prog nu 56 [(2,none)] aqq:=⟨Tryz.f202,by kernel_rfl,by kernel_rfl⟩
theorem yC:Has Tryz.prog oK 71 [(4,(some (true,13)))] aqA:=⟨Tryz.f203,by kernel_rfl,by kernel_rfl⟩
theorem GH:Has Tryz.prog rP 9 [(2,none)] aqB:=⟨Tryz.f204,by kernel_rfl,by kernel_rfl⟩
theorem GK:Has Tryz.prog vJ 9 [(2,none)] aqC:=⟨Tryz.f205,by kernel_rfl,by kernel_rfl⟩
theorem ID:Has Tryz.prog xF 15 [(2,none)] aqH:=⟨Tryz.f206,by kernel_rfl,by kernel_rfl⟩
theorem D0:Has Tryz.prog pJ 10 [(2,none)] aqI:=⟨Tryz.f207,by kernel_rfl,by kernel_rfl⟩
theorem IE:Has Tryz.prog sZ 22 [(2,none)] aqJ:=⟨Tryz.f208,by kernel_rfl,by kernel_rfl⟩
theorem KS:Has Tryz.prog zw 21 [(2,none)] aqM:=⟨Tryz.f209,by kernel_rfl,by kernel_rfl⟩
theorem rU:Has Tryz.prog iW 34 [(4,none)] aqR:=⟨Tryz.f213,by kernel_rfl,by kernel_rfl⟩
abbrev aqS:AC:= .cond bW (.seq (.run [.o 2 (.mv (.k (.bool true)))]) .ret) .skip
abbrev aqT:AC:= .cond bV (.seq (.run [.o 2 (.mv (.k (.bool false)))]) .ret) .skip
abbrev aqU:AC:= .seq (.run [.o 21 (.bin .eql bT (.k (.str [114,101,97,100]))), .m 14 dD]) (.cond bN .skip (.run [.o 22 (.bin .eql bT (.k (.str [112,114,105,110,116]))), .m 14 dM]))
abbrev aqV:AC:= .cond bN .skip (.seq (.run [.o 20 (.bin .eql bT (.k (.str [103,111,116,111]))), .m 14 dw]) (.cond bN .skip aqU))
abbrev aqW:AC:= .cond bN .skip (.seq (.run [.o 19 (.bin .eql bT (.k (.str [114,101,116,117,114,110]))), .m 14 dh]) aqV)
abbrev aqX:AC:= .cond bN .skip (.seq (.run [.o 18 (.bin .eql bT (.k (.str [99,111,110,116,105,110,117,101]))), .m 14 cU]) aqW)
abbrev aqY:AC:= .cond bN .skip (.seq (.run [.o 17 (.bin .eql bT (.k (.str [98,114,101,97,107]))), .m 14 cZ]) aqX)
abbrev aqZ:AC:= .cond bN .skip (.seq (.run [.o 16 (.bin .eql bT (.k (.str [119,104,105,108,101]))), .m 14 ct]) aqY)
abbrev aq0:AC:= .cond bN (.seq (.run [.o 2 (.mv (.k (.bool true)))]) .ret) .skip
abbrev aq1:AC:= .seq (.seq (.run [.o 15 (.bin .eql bT (.k (.str [105,102]))), .m 14 cz]) aqZ) aq0
abbrev aq2:AC:= .seq (.seq (.run [.o 12 (.aj bM 1), .o 13 (.load cb false 1)]) (.block 0 aq1)) (.seq (.run [.o 2 (.mv (.k (.bool false)))]) .ret)
abbrev aq3:AC:= .seq (.seq (.run [.o 9 (.aj bM 0), .o 10 (.load cy false 1), .o 11 (.bin .neq bD (.k (.int .i64 3)))]) aqT) aq2
abbrev aq4:AC:= .seq (.seq (.run [.o 6 (.aj bM 0), .o 7 (.load bY false 1), .o 8 (.bin .eql bX (.k (.int .i64 1)))]) aqS) aq3
abbrev aq5:AC:= .seq (.run [.o 2 (.mv (.k (.bool false)))]) (.seq (.run [.m 4 aJ, .c 5 dR [dE], .o 3 (.alloc [(.int .i64 0),(.str []),(.int .i64 0),(.int .i64 0)]), .op none none (.store bM bl 4)]) aq4)
abbrev aq6:AC:= .cond bW (.seq (.run [.m 9 aJ, .m 10 bM,(.c 11 lO [cy,(.k (.str [])),bD]), .op none none (.store cY bV 13)]) .ret) .skip
abbrev aq7:AC:= .par [.m 14 aJ, .c 15 db [bN], .m 16 cz, .g 17 16 true (.mv aJ), .d 18 16 true dR [cZ], .g 19 16 true (.uC cU 0 false 1), .g 20 16 true (.bin .eql dh (.k (.int .i64 1))), .o 21 (.pick ct dw (.k (.bool false))), .m 22 dD, .g 23 22 true (.mv aJ), .g 24 22 true (.br dH), .g 25 22 true (.aj di 0), .g 26 22 true (.load dm false 1), .g 27 22 true (.mv aJ), .g 28 22 true (.br eg), .g 29 22 true (.aj eR 1), .g 30 22 true (.load eN false 1), .g 31 22 true (.bin .add eX (.k (.int .i64 1))), .g 32 22 true (.cr dZ eY 4), .g 33 22 true (.aj fe 0), .g 34 22 true (.load eZ false 1), .g 35 22 true (.bin .eql fm (.k (.int .i64 4))), .o 36 (.pick dM ff (.k (.bool false))), .m 37 fp, .g 38 37 true (.mv aJ), .g 39 37 true (.br fV), .g 40 37 true (.aj fO 0), .g 41 37 true (.load gk false 1), .g 42 37 true (.mv aJ), .g 43 37 true (.br gX), .g 44 37 true (.aj gL 1), .g 45 37 true (.load iJ false 1), .g 46 37 true (.bin .add jg (.k (.int .i64 1))), .g 47 37 true (.cr gf jh 4), .g 48 37 true (.aj jJ 1), .g 49 37 true (.load iE false 1), .g 50 37 true (.bin .eql iK (.k (.str [40]))), .o 51 (.pick fI jK (.k (.bool false)))] [(0,0),(1,0),(2,0),(3,0),(4,0),(5,0),(6,0),(7,0),(8,0),(9,0),(10,0),(11,0),(12,0),(13,0),(14,0),(15,0),(16,0),(17,0),(18,0),(19,0),(20,0),(21,0),(22,0),(23,0),(24,0),(25,0),(26,0),(27,0),(28,0),(29,0),(30,0),(31,0),(32,0),(33,0),(34,0),(35,0),(36,0),(37,0)]
abbrev aq8:AC:= .seq aq7 (.cond ji (.seq (.run [.m 52 aJ, .m 53 bM, .m 54 aJ, .c 55 eT [jL,(.k (.bool true))], .c 56 lO [jj,iT,jM], .op none none (.store cY k9 13)]) .ret) .skip)
abbrev aq9:AC:= .seq (.run [.m 57 bM, .m 58 aJ, .c 59 gy [lJ],(.o 60 (.build [(.int .i64 0),(.int .i64 0),(.slice .full 0 []),(.str []),(.str []),(.int .i64 0),(.int .i64 0),(.str []),(.slice .full 0 []),(.bool false),(.slice .full 0 []),(.slice .full 0 []),(.slice .full 0 [])] [(1,(1,(.k (.int .i64 1)))),(3,(1,lS)),(5,(4,kK))])), .o 4 (.alloc [(.int .i64 0),(.int .i64 0),(.slice .full 0 []),(.str []),(.str []),(.int .i64 0),(.int .i64 0),(.str []),(.slice .full 0 []),(.bool false),(.slice .full 0 []),(.slice .full 0 []),(.slice .full 0 [])]), .op none none (.store dE nz 13)]) (.seq (.run [.m 61 aJ,(.c 62 dA [n7,(.k (.str [59]))])]) (.seq (.run [.o 63 (.load dE true 13), .op none none (.store cY n9 13)]) .ret))
abbrev ara:AC:= .seq (.seq (.run [.m 7 aJ,(.c 8 fC [bX,(.k (.str [40]))])]) aq6) (.seq (.run [.m 12 aJ,(.c 13 dA [cb,(.k (.str [61]))])]) (.seq aq8 aq9))
abbrev arb:AC:= .seq (.run [.o 2 (.alloc [(.int .i64 0),(.int .i64 0),(.slice .full 0 []),(.str []),(.str []),(.int .i64 0),(.int .i64 0),(.str []),(.slice .full 0 []),(.bool false),(.slice .full 0 []),(.slice .full 0 []),(.slice .full 0 [])])]) (.seq (.run [.m 5 aJ, .c 6 eT [bl,(.k (.bool true))], .m 3 bY]) ara)
abbrev arc:AC:= .seq (.seq (.run [.m 13 aJ,(.c 14 dQ [bT,(.k (.str [101,108,115,101]))])]) (.cond bN (.run [.m 15 aJ, .m 16 a8, .c 17 jI [cz,ct], .o 18 (.aj bl 12), .op none none (.store cU cZ 1)]) .skip)) (.seq (.run [.o 19 (.load bl true 13), .op none none (.store dE dh 13)]) .ret)
abbrev ard:AC:= .seq (.run [.m 6 aJ, .c 7 lN [bY],(.o 8 (.build [(.int .i64 0),(.int .i64 0),(.slice .full 0 []),(.str []),(.str []),(.int .i64 0),(.int .i64 0),(.str []),(.slice .full 0 []),(.bool false),(.slice .full 0 []),(.slice .full 0 []),(.slice .full 0 [])] [(1,(1,(.k (.int .i64 5)))),(5,(4,bX))])), .o 5 (.alloc [(.int .i64 0),(.int .i64 0),(.slice .full 0 []),(.str []),(.str []),(.int .i64 0),(.int .i64 0),(.str []),(.slice .full 0 []),(.bool false),(.slice .full 0 []),(.slice .full 0 []),(.slice .full 0 [])]), .op none none (.store bl bW 13)]) (.seq (.run [.m 9 aJ, .m 10 a8, .c 11 jI [cy,bD], .o 12 (.aj bl 11), .op none none (.store cb bV 1)]) arc)
abbrev arf:AC:= .seq (.run [.o 4 (.alloc [(.int .i64 0),(.int .i64 0),(.slice .full 0 []),(.str []),(.str []),(.int .i64 0),(.int .i64 0),(.str []),(.slice .full 0 []),(.bool false),(.slice .full 0 []),(.slice .full 0 []),(.slice .full 0 [])])]) ard
abbrev arh:AC:= .seq (.run [.m 6 aJ, .c 7 gy [bY], .o 3 (.alloc [(.int .i64 0),(.int .i64 0),(.str []),(.slice .full 0 [])]), .op none none (.store bM bX 4)]) (.seq (.run [.m 8 aJ,(.c 9 dA [bW,(.k (.str [41]))])]) (.seq (.run [.o 10 (.load bM true 4), .op none none (.store cY bD 4)]) .ret))
abbrev ari:AC:= .seq (.run [.o 2 (.alloc [(.int .i64 0),(.int .i64 0),(.str []),(.slice .full 0 [])])]) (.seq (.run [.m 4 aJ,(.c 5 dA [dE,(.k (.str [40]))])]) arh)
abbrev arj:AC:= .seq (.run [.m 7 aJ,(.c 8 dA [bX,(.k (.str [123]))])]) (.seq (.run [.m 10 aJ, .m 11 a8, .o 12 (.bin .add bV (.k (.int .i64 1))), .c 13 gK [bD,cb,(.k (.bool false))], .m 9 bT, .o 14 (.ext cy 0), .o 15 (.ext cy 1), .m 5 bN, .m 6 cz]) (.seq (.run [.m 16 bl, .m 4 ct]) .ret))
abbrev ark:AC:= .seq (.run [.o 4 (.mv (.k (.slice .full 0 [])))]) arj
abbrev arl:AC:= .seq (.run [.m 16 aJ,(.c 17 fC [ct,(.k (.str [59]))]), .o 18 (.un .not cZ)]) (.cond cU (.run [.m 19 aJ, .c 20 gy [dh], .o 21 (.aj bl 9), .op none none (.store dD (.k (.bool true)) 1), .o 22 (.aj bl 5), .op none none (.store dM dw 4)]) .skip)
abbrev arn:AC:= .seq (.run [.o 36 (.bin .eql bY (.k (.str [112,114,105,110,116]))), .m 35 fp]) (.cond ff (.run [.m 37 aJ, .c 38 gy [fI], .o 39 (.aj bl 1), .op none none (.store fO (.k (.int .i64 3)) 1), .o 40 (.aj bl 5), .op none none (.store gk fV 4)]) .skip)
abbrev aro:AC:= .seq (.run [.o 30 (.bin .eql bY (.k (.str [114,101,97,100]))), .m 29 eX]) (.cond eN (.run [.m 31 aJ, .c 32 eT [eY,(.k (.bool true))], .o 33 (.aj bl 1), .op none none (.store eZ (.k (.int .i64 2)) 1), .o 34 (.aj bl 3), .op none none (.store fm fe 1)]) arn)
abbrev arp:AC:= .seq (.run [.o 24 (.bin .eql bY (.k (.str [103,111,116,111]))), .m 23 di]) (.cond dH (.run [.m 25 aJ, .c 26 eT [dm,(.k (.bool true))], .o 27 (.aj bl 1), .op none none (.store eg (.k (.int .i64 10)) 1), .o 28 (.aj bl 3), .op none none (.store eR dZ 1)]) aro)
abbrev arq:AC:= .cond bT (.seq (.run [.o 15 (.aj bl 1), .op none none (.store cz (.k (.int .i64 9)) 1)]) arl) arp
abbrev ars:AC:= .cond bD (.run [.o 12 (.aj bl 1), .op none none (.store cb (.k (.int .i64 8)) 1)]) (.seq (.run [.o 14 (.bin .eql bY (.k (.str [114,101,116,117,114,110]))), .m 13 bN]) arq)
abbrev art:AC:= .cond bX (.run [.o 9 (.aj bl 1), .op none none (.store cy (.k (.int .i64 7)) 1)]) (.seq (.run [.o 11 (.bin .eql bY (.k (.str [99,111,110,116,105,110,117,101]))), .m 10 bV]) ars)
abbrev aru:AC:= .block 0 (.seq (.run [.o 8 (.bin .eql bY (.k (.str [98,114,101,97,107]))), .m 7 bW]) art)
abbrev arv:AC:= .seq (.run [.o 4 (.alloc [(.int .i64 0),(.int .i64 0),(.slice .full 0 []),(.str []),(.str []),(.int .i64 0),(.int .i64 0),(.str []),(.slice .full 0 []),(.bool false),(.slice .full 0 []),(.slice .full 0 []),(.slice .full 0 [])])]) (.seq (.run [.o 5 (.alloc [(.int .i64 0),(.int .i64 0),(.slice .full 0 []),(.str []),(.str []),(.int .i64 0),(.int .i64 0),(.str []),(.slice .full 0 []),(.bool false),(.slice .full 0 []),(.slice .full 0 []),(.slice .full 0 [])])]) (.seq (.seq (.run [.m 6 a8]) aru) (.seq (.run [.o 41 (.load bl true 13), .op none none (.store dE gf 13)]) .ret)))
abbrev arw:AC:= .seq (.run [(.o 1 (.cf [(.str [])] 1 13 [(0,(.k (.str [103,108,111,98,97,108]))),(1,(.k (.str [112,114,111,99]))),(2,(.k (.str [118,97,114]))),(3,(.k (.str [114,101,102]))),(4,(.k (.str [105,102]))),(5,(.k (.str [101,108,115,101]))),(6,(.k (.str [119,104,105,108,101]))),(7,(.k (.str [98,114,101,97,107]))),(8,(.k (.str [99,111,110,116,105,110,117,101]))),(9,(.k (.str [114,101,116,117,114,110]))),(10,(.k (.str [103,111,116,111]))),(11,(.k (.str [114,101,97,100]))),(12,(.k (.str [112,114,105,110,116])))])), .m 0 a8]) .ret
abbrev arx:AC:= .seq (.run [.o 0 (.mv (.k (.slice .full 0 [])))]) arw
abbrev ary:AC:= .cond cy (.seq (.run [.o 4 (.mv (.k (.int .i64 1)))]) .ret) .skip
abbrev arz:AC:= .block 1 (.seq (.run [.o 22 (.aj cY 3), .o 23 (.load dM false 1), .m 24 bY, .o 25 (.cr dH di 4), .o 26 (.load dm true 4), .m 27 a8, .o 28 (.bin .sub eg (.k (.int .i64 1))), .c 29 qn [dZ,eR], .m 7 eN]) (.seq (.run [.m 30 bX, .m 31 bl, .o 32 (.bin .gtr eX eY)]) (.cond fe (.run [.m 33 bX, .m 5 eZ]) .skip)))
abbrev arA:AC:= .seq (.seq (.run [.m 10 bY, .o 11 (.aj cY 3), .o 12 (.load bV false 1), .o 13 (.len cb), .o 14 (.bin .lss bD bT), .m 15 bN, .g 16 15 true (.mv bl), .g 17 15 true (.mv a8), .g 18 15 true (.bin .lss ct cZ), .o 19 (.pick cz cU (.k (.bool false)))]) (.cond dh .skip (.exit 0))) (.seq arz (.run [.m 20 bY, .o 21 (.bin .add dw (.k (.int .i64 1))), .m 6 dD]))
abbrev arB:AC:= .seq (.seq (.run [.o 6 (.mv (.k (.int .i64 0)))]) (.block 0 (.loop arA))) (.seq (.run [.m 34 bl, .o 35 (.bin .add fm (.k (.int .i64 1))), .m 4 ff]) .ret)
abbrev arC:AC:= .seq (.seq (.run [.m 8 a8, .o 9 (.bin .eql bW (.k (.int .i64 0)))]) ary) (.seq (.run [.o 5 (.mv (.k (.int .i64 0)))]) arB)
abbrev arD:AC:= .seq (.run [.o 2 (.box aJ), .o 4 (.mv (.k (.int .i64 0)))]) arC
abbrev arE:AC:= .par [.o 4 (.aj a8 0), .o 5 (.load dE false 1), .c 6 vC [bl], .o 7 (.aj a8 3), .o 8 (.load bX false 1), .o 9 (.len bW), .o 10 (.bin .neq bY cy), .m 11 bD, .g 12 11 false (.aj a8 0), .g 13 11 false (.load cb false 1), .g 14 11 false (.bin .neq bT (.k (.int .i64 1))), .g 15 11 false (.mv bN), .g 16 15 true (.aj a8 1), .g 17 15 true (.load ct false 1), .g 18 15 true (.bin .neq cZ (.k (.int .i64 0))), .g 19 11 false (.pick cz cU (.k (.bool false))), .o 20 (.pick bV (.k (.bool true)) dh), .m 21 dw, .g 22 21 false (.aj a8 1), .g 23 21 false (.load dM false 1), .g 24 21 false (.bin .lss dH (.k (.int .i64 0))), .o 25 (.pick dD (.k (.bool true)) di), .m 26 dm, .g 27 26 false (.aj a8 0), .g 28 26 false (.load eg false 1), .g 29 26 false (.bin .eql eR (.k (.int .i64 2))), .g 30 26 false (.aj a8 2), .g 31 26 false (.load eX false 1), .g 32 26 false (.bin .neq eY (.k (.str []))), .g 33 26 false (.Dg true eN fe), .o 34 (.pick dZ (.k (.bool true)) eZ), .m 35 fm, .g 36 35 false (.aj a8 2), .g 37 35 false (.load fp false 1), .g 38 35 false (.bin .neq fI (.k (.str []))), .g 39 35 false (.mv fV), .g 40 39 true (.aj a8 2), .g 41 39 true (.load gk false 1), .d 42 39 true ln [gf], .g 43 39 true (.un .not gX), .g 44 35 false (.pick fO gL (.k (.bool false))), .o 45 (.pick ff (.k (.bool true)) iJ)] [(0,0),(1,0),(2,0),(3,0),(4,1),(5,0),(6,0),(7,0),(8,0),(9,0),(10,0),(11,0),(12,0),(13,0),(14,0),(15,0),(16,0),(17,0),(18,0),(19,0),(20,0),(21,0),(22,0),(23,0),(24,0),(25,0),(26,0),(27,0),(28,0),(29,0),(30,0),(31,0),(32,0),(33,0),(34,0),(35,0),(36,0),(37,0),(38,0),(39,0),(40,0),(41,0)]
abbrev arG:AC:= .cond jg (.seq (.run [.o 2 (.mv (.k (.bool false)))]) .ret) .skip
abbrev arH:AC:= .cond lJ (.seq (.run [.o 2 (.mv (.k (.bool false)))]) .ret) .skip
abbrev arI:AC:= .seq (.block 1 (.seq (.run [.m 51 iK, .m 3 ji]) (.seq (.run [.o 52 (.aj a8 3), .o 53 (.load jj false 1), .m 54 bM, .o 55 (.cr iT jL 4), .o 56 (.load jM true 4), .c 57 qo [k9], .o 58 (.un .not lS)]) arH))) (.run [.o 59 (.bin .add iK (.k (.int .i64 1))), .m 49 kK])
abbrev arJ:AC:= .block 0 (.loop (.seq (.run [.o 50 (.bin .lss iK iE)]) (.seq (.cond jK .skip (.exit 0)) arI)))
abbrev arK:AC:= .seq (.seq (.run [.o 46 (.aj a8 3), .o 47 (.load jh false 1), .o 48 (.len jJ), .o 49 (.mv (.k (.int .i64 0)))]) arJ) (.seq (.run [.o 2 (.mv (.k (.bool true)))]) .ret)
abbrev arL:AC:= .seq (.run [.o 1 (.box aJ), .o 2 (.mv (.k (.bool false)))]) (.seq (.seq arE arG) arK)
abbrev arM:AC:= .par [.o 24 (.aj bX 10), .o 25 (.load di false 1), .m 26 aJ, .c 27 eT [dZ,(.k (.bool true))],(.o 28 (.build [(.bool false),(.str []),(.int .i64 0),(.int .i64 0),(.str []),(.slice .full 0 [])] [(0,(1,(.k (.bool true)))),(1,(1,eg))])), .o 29 (.cf [(.bool false),(.str []),(.int .i64 0),(.int .i64 0),(.str []),(.slice .full 0 [])] 6 1 [(0,eR)]), .o 30 (.app 6 80 dm eN), .o 31 (.aj bX 10), .op none none (.store eY eX 1)] [(2,0),(3,0),(0,0),(1,1),(4,0),(5,0),(6,0),(7,0),(8,0)]
abbrev arN:AC:= .par [.o 32 (.aj bX 10), .o 33 (.load fe false 1), .m 34 aJ, .c 35 gy [fm], .o 36 (.build [(.bool false),(.str []),(.int .i64 0),(.int .i64 0),(.str []),(.slice .full 0 [])] [(2,(4,ff))]), .o 37 (.cf [(.bool false),(.str []),(.int .i64 0),(.int .i64 0),(.str []),(.slice .full 0 [])] 6 1 [(0,fp)]), .o 38 (.app 6 80 eZ fI), .o 39 (.aj bX 10), .op none none (.store fO fV 1)] [(2,0),(3,0),(0,0),(1,1),(4,0),(5,0),(6,0),(7,0),(8,0)]
abbrev arO:AC:= .seq (.seq (.run [.m 22 aJ,(.c 23 dQ [dM,(.k (.str [114,101,102]))])]) (.cond dH arM arN)) (.seq (.run [.m 40 aJ,(.c 41 dQ [gk,(.k (.str [44]))]), .o 42 (.un .not gf)]) (.cond gX (.exit 0) .skip))
abbrev arP:AC:= .block 0 (.loop (.seq (.seq (.run [.m 20 aJ, .c 21 db [dw]]) (.cond dD .skip (.exit 0))) (.block 1 arO)))
abbrev arQ:AC:= .seq (.run [.m 43 aJ,(.c 44 dA [gL,(.k (.str [41]))])]) (.seq (.run [.m 45 aJ,(.c 46 dA [jg,(.k (.str [59]))])]) (.seq (.run [.o 47 (.load bX true 13), .op none none (.store bY jJ 13)]) .ret))
abbrev arR:AC:= .seq (.seq (.run [.m 13 aJ, .c 14 db [bT], .m 15 bN, .g 16 15 true (.mv aJ),(.d 17 15 true fC [ct,(.k (.str [41]))]), .g 18 15 true (.un .not cZ), .o 19 (.pick cz cU (.k (.bool false)))]) (.cond dh arP .skip)) arQ
abbrev arS:AC:= .seq (.run [.m 8 a8, .m 9 cY,(.o 10 (.build [(.int .i64 0),(.int .i64 0),(.slice .full 0 []),(.str []),(.str []),(.int .i64 0),(.int .i64 0),(.str []),(.slice .full 0 []),(.bool false),(.slice .full 0 []),(.slice .full 0 []),(.slice .full 0 [])] [(1,(1,(.k (.int .i64 4)))),(3,(1,bW)),(4,(1,cy))])), .o 7 (.alloc [(.int .i64 0),(.int .i64 0),(.slice .full 0 []),(.str []),(.str []),(.int .i64 0),(.int .i64 0),(.str []),(.slice .full 0 []),(.bool false),(.slice .full 0 []),(.slice .full 0 []),(.slice .full 0 [])]), .op none none (.store bX bD 13)]) (.seq (.run [.m 11 aJ,(.c 12 dA [bV,(.k (.str [40]))])]) arR)
abbrev arT:AC:= .seq (.run [.o 6 (.alloc [(.int .i64 0),(.int .i64 0),(.slice .full 0 []),(.str []),(.str []),(.int .i64 0),(.int .i64 0),(.str []),(.slice .full 0 []),(.bool false),(.slice .full 0 []),(.slice .full 0 []),(.slice .full 0 [])])]) arS
abbrev arU:AC:= .cond ct (.run [.m 17 aJ, .m 18 bM,(.o 19 (.build [(.int .i64 0),(.int .i64 0)] [(0,(1,(.k (.int .i64 4)))),(1,(1,cU))])), .o 20 (.br cZ), .o 21 (.aj dw 2), .op none none (.store dD dh 2)]) .skip
abbrev arV:AC:= .seq (.seq (.run [.m 10 aJ, .c 11 db [bD], .m 12 bV, .g 13 12 true (.load dE true 4), .d 14 12 true lX [bT], .g 15 12 true (.bin .gtr bN (.k (.int .i64 20))), .o 16 (.pick cb cz (.k (.bool false)))]) arU) (.seq (.run [.o 22 (.load dE true 4), .op none none (.store cY dM 4)]) .ret)
abbrev arW:AC:= .seq (.run [.o 2 (.alloc [(.int .i64 0),(.int .i64 0),(.str []),(.slice .full 0 [])])]) (.seq (.run [.m 5 aJ, .c 6 dR [bl], .o 7 (.uC bY 3 false 1), .m 3 bX]) (.seq (.run [.m 8 aJ, .c 9 jr [bW,(.k (.int .i64 1))], .o 4 (.alloc [(.int .i64 0),(.int .i64 0),(.str []),(.slice .full 0 [])]), .op none none (.store dE cy 4)]) arV))
abbrev arX:AC:= .seq (.run [.m 27 aJ, .o 28 (.br eg), .o 29 (.aj eR 1), .o 30 (.load eN false 1), .o 31 (.bin .add eX (.k (.int .i64 1))), .o 32 (.br eg), .o 33 (.aj fe 1), .op none none (.store eZ eY 1)]) (.seq (.run [.m 34 aJ, .m 35 bX, .o 36 (.bin .add ff (.k (.int .i64 1))), .c 37 jr [fm,fp], .o 8 (.alloc [(.int .i64 0),(.int .i64 0),(.str []),(.slice .full 0 [])]), .op none none (.store bW fI 4)]) (.run [.m 38 bY, .o 39 (.load bl true 4), .o 40 (.load bW true 4), .o 41 (.cf [(.int .i64 0),(.int .i64 0),(.str []),(.slice .full 0 [])] 4 2 [(0,fO),(1,gk)]), .o 42 (.build [(.int .i64 0),(.int .i64 0),(.str []),(.slice .full 0 [])] [(0,(1,fV)),(3,(1,gf))]), .op none none (.store bl gX 4)]))
abbrev arY:AC:= .seq (.seq (.run [.m 19 bX, .m 20 a8, .o 21 (.bin .lss dh dw), .m 22 dD, .g 23 22 false (.mv bY), .g 24 22 false (.bin .eql dH (.k (.int .i64 0))), .o 25 (.pick dM (.k (.bool true)) di)]) (.cond dm (.seq (.run [.o 26 (.load bl true 4), .op none none (.store dE dZ 4)]) .ret) .skip)) arX
abbrev arZ:AC:= .loop (.seq (.seq (.run [.m 11 aJ, .c 12 db [bV]]) (.cond cb .skip (.exit 0))) (.block 1 (.seq (.run [.m 14 aJ, .c 15 dR [bN], .c 16 uY [cz], .m 13 ct, .o 17 (.ext bT 0), .o 18 (.ext bT 1), .m 6 cZ, .m 7 cU]) arY)))
abbrev ar1:AC:= .seq (.run [.o 4 (.alloc [(.int .i64 0),(.int .i64 0),(.str []),(.slice .full 0 [])])]) (.seq (.run [.m 9 aJ, .c 10 kJ [cy], .o 5 (.alloc [(.int .i64 0),(.int .i64 0),(.str []),(.slice .full 0 [])]), .op none none (.store bl bD 4)]) (.seq (.block 0 arZ) (.seq (.run [.o 43 (.load bl true 4), .op none none (.store dE gL 4)]) .ret)))
abbrev ar2:AC:= .seq (.block 1 (.seq (.run [.o 11 (.cr bX cy 4), .o 12 (.load bV true 4), .o 5 (.alloc [(.int .i64 0),(.int .i64 0),(.str []),(.slice .full 0 [])]), .op none none (.store bl cb 4)]) (.run [.m 13 bM, .o 14 (.load bl true 4), .c 15 lX [bN], .o 16 (.mm true bT cz), .m 3 ct]))) (.run [.o 17 (.bin .add cy (.k (.int .i64 1))), .m 9 cZ])
abbrev ar3:AC:= .block 0 (.loop (.seq (.run [.o 10 (.bin .lss cy bW)]) (.seq (.cond bD .skip (.exit 0)) ar2)))
abbrev ar4:AC:= .seq (.seq (.run [.o 6 (.aj a8 3), .o 7 (.load bY false 1), .o 8 (.len bX), .o 9 (.mv (.k (.int .i64 0)))]) ar3) (.seq (.run [.m 18 bM, .o 19 (.bin .add cU (.k (.int .i64 1))), .m 2 dh]) .ret)
abbrev ar5:AC:= .seq (.run [.o 1 (.box aJ), .o 2 (.mv (.k (.int .i64 0)))]) (.seq (.run [.o 3 (.mv (.k (.int .i64 0)))]) ar4)
abbrev ar6:AC:= .seq (.run [.m 7 aJ, .c 8 db [bX], .o 9 (.un .not bW)]) (.cond cy (.seq (.run [.o 10 (.build [(.int .i64 0),(.int .i64 0),(.str []),(.slice .full 0 [])] []), .op none none (.store cY bD 4)]) .ret) .skip)
abbrev ar7:AC:= .seq (.run [.o 22 (.aj bM 2), .o 23 (.load dM false 1),(.o 24 (.build [(.int .i64 0),(.int .i64 0),(.str []),(.slice .full 0 [])] [(0,(1,(.k (.int .i64 1)))),(1,(1,dH))])), .op none none (.store cY di 4)]) .ret
abbrev ar8:AC:= .seq (.run [.o 36 (.aj bM 1), .o 37 (.load fp false 1),(.o 38 (.build [(.int .i64 0),(.int .i64 0),(.str []),(.slice .full 0 [])] [(0,(1,(.k (.int .i64 2)))),(2,(1,fI))])), .op none none (.store cY fV 4)]) .ret
abbrev ar9:AC:= .seq (.run [.m 42 aJ, .c 43 jr [gX,(.k (.int .i64 1))], .o 4 (.alloc [(.int .i64 0),(.int .i64 0),(.str []),(.slice .full 0 [])]), .op none none (.store dE gL 4)]) (.seq (.run [.m 44 aJ,(.c 45 dA [iJ,(.k (.str [41]))])]) (.seq (.run [.o 46 (.load dE true 4), .op none none (.store cY jh 4)]) .ret))
abbrev asa:AC:= .seq (.run [.m 50 aJ, .c 51 kJ [jK], .o 52 (.cf [(.int .i64 0),(.int .i64 0),(.str []),(.slice .full 0 [])] 4 1 [(0,ji)]),(.o 53 (.build [(.int .i64 0),(.int .i64 0),(.str []),(.slice .full 0 [])] [(0,(1,(.k (.int .i64 3)))),(3,(1,jj))])), .op none none (.store cY iT 4)]) .ret
abbrev asb:AC:= .seq (.run [.m 57 aJ, .c 58 kJ [lS], .o 59 (.cf [(.int .i64 0),(.int .i64 0),(.str []),(.slice .full 0 [])] 4 1 [(0,lJ)]),(.o 60 (.build [(.int .i64 0),(.int .i64 0),(.str []),(.slice .full 0 [])] [(0,(1,(.k (.int .i64 4)))),(3,(1,kK))])), .op none none (.store cY nz 4)]) .ret
abbrev asc:AC:= .cond jJ asa (.seq (.run [.m 55 aJ,(.c 56 dQ [jM,(.k (.str [33]))]), .m 54 k9]) (.cond jL asb .skip))
abbrev asd:AC:= .cond fO ar9 (.seq (.run [.m 48 aJ,(.c 49 dQ [iE,(.k (.str [45]))]), .m 47 iK]) asc)
abbrev ase:AC:= .cond dm (.seq (.run [.m 29 aJ, .o 30 (.br eN), .o 31 (.aj eX 1), .o 32 (.load eY false 1), .o 33 (.bin .add fe (.k (.int .i64 1))), .o 34 (.br eN), .o 35 (.aj fm 1), .op none none (.store ff eZ 1)]) ar8) (.seq (.run [.m 40 aJ,(.c 41 dQ [gk,(.k (.str [40]))]), .m 39 gf]) asd)
abbrev asf:AC:= .cond bV (.seq (.run [.m 15 aJ, .o 16 (.br cz), .o 17 (.aj ct 1), .o 18 (.load cZ false 1), .o 19 (.bin .add cU (.k (.int .i64 1))), .o 20 (.br cz), .o 21 (.aj dw 1), .op none none (.store dD dh 1)]) ar7) (.seq (.run [.o 26 (.aj bM 0), .o 27 (.load dZ false 1), .o 28 (.bin .eql eg (.k (.int .i64 1))), .m 25 eR]) ase)
abbrev asg:AC:= .block 0 (.seq (.run [.o 12 (.aj bM 0), .o 13 (.load cb false 1), .o 14 (.bin .eql bT (.k (.int .i64 2))), .m 11 bN]) asf)
abbrev ash:AC:= .seq asg (.seq (.run [.m 61 aJ, .c 62 fc [n7,(.k (.int .i64 3))]]) (.seq (.run [.o 63 (.build [(.int .i64 0),(.int .i64 0),(.str []),(.slice .full 0 [])] []), .op none none (.store cY n9 4)]) .ret))
abbrev asi:AC:= .seq (.run [.o 2 (.alloc [(.int .i64 0),(.int .i64 0),(.str []),(.slice .full 0 [])])]) (.seq (.run [.m 5 aJ, .c 6 dR [bl], .o 3 (.alloc [(.int .i64 0),(.str []),(.int .i64 0),(.int .i64 0)]), .op none none (.store bM bY 4)]) (.seq ar6 ash))
abbrev asj:AC:= .cond bY (.seq (.run [.o 2 (.mv (.k (.int .i64 0))), .o 3 (.mv (.k (.int .i64 0)))]) .ret) .skip
abbrev asm:AC:= .cond eZ (.seq (.run [.o 2 (.mv (.k (.int .i64 7))), .o 3 (.mv (.k (.int .i64 6)))]) .ret) .skip
abbrev asn:AC:= .cond eY (.seq (.run [.o 2 (.mv (.k (.int .i64 6))), .o 3 (.mv (.k (.int .i64 6)))]) .ret) (.seq (.run [.o 34 (.bin .eql bW (.k (.str [37]))), .m 33 fm]) asm)
abbrev aso:AC:= .cond eN (.seq (.run [.o 2 (.mv (.k (.int .i64 5))), .o 3 (.mv (.k (.int .i64 6)))]) .ret) (.seq (.run [.o 32 (.bin .eql bW (.k (.str [47]))), .m 31 fe]) asn)
abbrev asp:AC:= .cond eg (.seq (.run [.o 2 (.mv (.k (.int .i64 9))), .o 3 (.mv (.k (.int .i64 5)))]) .ret) (.seq (.run [.o 30 (.bin .eql bW (.k (.str [42]))), .m 29 eX]) aso)
abbrev asq:AC:= .cond dm (.seq (.run [.o 2 (.mv (.k (.int .i64 8))), .o 3 (.mv (.k (.int .i64 5)))]) .ret) (.seq (.run [.o 28 (.bin .eql bW (.k (.str [45]))), .m 27 eR]) asp)
abbrev asr:AC:= .cond dH (.seq (.run [.o 2 (.mv (.k (.int .i64 13))), .o 3 (.mv (.k (.int .i64 4)))]) .ret) (.seq (.run [.o 26 (.bin .eql bW (.k (.str [43]))), .m 25 dZ]) asq)
abbrev ass:AC:= .cond dD (.seq (.run [.o 2 (.mv (.k (.int .i64 12))), .o 3 (.mv (.k (.int .i64 4)))]) .ret) (.seq (.run [.o 24 (.bin .eql bW (.k (.str [62,61]))), .m 23 di]) asr)
abbrev ast:AC:= .cond dh (.seq (.run [.o 2 (.mv (.k (.int .i64 11))), .o 3 (.mv (.k (.int .i64 4)))]) .ret) (.seq (.run [.o 22 (.bin .eql bW (.k (.str [62]))), .m 21 dM]) ass)
abbrev asu:AC:= .cond cZ (.seq (.run [.o 2 (.mv (.k (.int .i64 10))), .o 3 (.mv (.k (.int .i64 4)))]) .ret) (.seq (.run [.o 20 (.bin .eql bW (.k (.str [60,61]))), .m 19 dw]) ast)
abbrev asv:AC:= .cond cz (.seq (.run [.o 2 (.mv (.k (.int .i64 15))), .o 3 (.mv (.k (.int .i64 3)))]) .ret) (.seq (.run [.o 18 (.bin .eql bW (.k (.str [60]))), .m 17 cU]) asu)
abbrev asw:AC:= .cond bT (.seq (.run [.o 2 (.mv (.k (.int .i64 14))), .o 3 (.mv (.k (.int .i64 3)))]) .ret) (.seq (.run [.o 16 (.bin .eql bW (.k (.str [33,61]))), .m 15 ct]) asv)
abbrev asx:AC:= .cond bV (.seq (.run [.o 2 (.mv (.k (.int .i64 16))), .o 3 (.mv (.k (.int .i64 2)))]) .ret) (.seq (.run [.o 14 (.bin .eql bW (.k (.str [61,61]))), .m 13 bN]) asw)
abbrev asy:AC:= .cond cy (.seq (.run [.o 2 (.mv (.k (.int .i64 17))), .o 3 (.mv (.k (.int .i64 1)))]) .ret) (.seq (.run [.o 12 (.bin .eql bW (.k (.str [38,38]))), .m 11 cb]) asx)
abbrev asz:AC:= .block 0 (.seq (.run [.o 10 (.bin .eql bW (.k (.str [124,124]))), .m 9 bD]) asy)
abbrev asA:AC:= .seq (.seq (.run [.o 7 (.aj a8 1), .o 8 (.load bX false 1)]) asz) (.seq (.run [.o 2 (.mv (.k (.int .i64 0))), .o 3 (.mv (.k (.int .i64 0)))]) .ret)
abbrev asB:AC:= .seq (.seq (.run [.o 4 (.aj a8 0), .o 5 (.load dE false 1), .o 6 (.bin .neq bl (.k (.int .i64 4)))]) asj) asA
abbrev asC:AC:= .seq (.run [.o 1 (.box aJ), .o 2 (.mv (.k (.int .i64 0))), .o 3 (.mv (.k (.int .i64 0)))]) asB
open Go.Proofs
theorem wx:Has Tryz.prog nw 23 [(2,none)] aq5:=⟨Tryz.f225,by kernel_rfl,by kernel_rfl⟩
theorem xI:Has Tryz.prog nZ 64 [(2,(some (true,13)))] arb:=⟨Tryz.f226,by kernel_rfl,by kernel_rfl⟩
theorem wy:Has Tryz.prog ny 20 [(4,(some (true,13)))] arf:=⟨Tryz.f227,by kernel_rfl,by kernel_rfl⟩
theorem yD:Has Tryz.prog lN 11 [(2,(some (true,4)))] ari:=⟨Tryz.f228,by kernel_rfl,by kernel_rfl⟩
theorem xJ:Has Tryz.prog jI 17 [(4,none)] ark:=⟨Tryz.f229,by kernel_rfl,by kernel_rfl⟩
theorem xK:Has Tryz.prog n6 42 [(4,(some (true,13)))] arv:=⟨Tryz.f230,by kernel_rfl,by kernel_rfl⟩
theorem GM:Has Tryz.prog vK 2 [(0,none)] arx:=⟨Tryz.f231,by kernel_rfl,by kernel_rfl⟩
theorem Ax:Has Tryz.prog qn 36 [(4,none)] arD:=⟨Tryz.f232,by kernel_rfl,by kernel_rfl⟩
theorem IF:Has Tryz.prog qo 60 [(2,none)] arL:=⟨Tryz.f233,by kernel_rfl,by kernel_rfl⟩
theorem yE:Has Tryz.prog lO 48 [(6,(some (true,13)))] arT:=⟨Tryz.f242,by kernel_rfl,by kernel_rfl⟩
theorem xL:Has Tryz.prog gy 23 [(2,(some (true,4)))] arW:=⟨Tryz.f243,by kernel_rfl,by kernel_rfl⟩
theorem zI:Has Tryz.prog jr 44 [(4,(some (true,4)))] ar1:=⟨Tryz.f245,by kernel_rfl,by kernel_rfl⟩
theorem Fc:Has Tryz.prog lX 20 [(2,none)] ar5:=⟨Tryz.f246,by kernel_rfl,by kernel_rfl⟩
theorem zJ:Has Tryz.prog kJ 64 [(2,(some (true,4)))] asi:=⟨Tryz.f247,by kernel_rfl,by kernel_rfl⟩
theorem KT:Has Tryz.prog uY 35 [(2,none),(3,none)] asC:=⟨Tryz.f248,by kernel_rfl,by kernel_rfl⟩
open Go.Proofs
theorem BJ:Has Tryz.prog kq 73 [] QYH:=⟨Tryz.f90,by kernel_rfl,by kernel_rfl⟩
theorem zK:Has Tryz.prog pj 27 [(4,none)] QYR:=⟨Tryz.f91,by kernel_rfl,by kernel_rfl⟩
theorem sb:Has Tryz.prog gu 19 [(4,none)] QZE:=⟨Tryz.f92,by kernel_rfl,by kernel_rfl⟩
theorem yF:Has Tryz.prog lM 8 [(3,none)] QZI:=⟨Tryz.f93,by kernel_rfl,by kernel_rfl⟩
set_option maxRecDepth 20000 in
theorem yG : Has Tryz.prog iQ 20 [(4, none)] QZO := ⟨Tryz.f94, by kernel_rfl, by kernel_rfl⟩
set_option maxRecDepth 20000 in
theorem yH : Has Tryz.prog ki 64 [(4, none), (5, none)] akZ := ⟨Tryz.f95, by kernel_rfl, by kernel_rfl⟩
set_option maxRecDepth 20000 in
theorem yI : Has Tryz.prog eI 26 [] ak0 := ⟨Tryz.f96, by kernel_rfl, by kernel_rfl⟩
theorem C9:Has Tryz.prog oR 38 [(6,none),(7,none)] ak7:=⟨Tryz.f97,by kernel_rfl,by kernel_rfl⟩
theorem Ay:Has Tryz.prog qk 13 [(4,none)] ala:=⟨Tryz.f98,by kernel_rfl,by kernel_rfl⟩
set_option maxRecDepth 20000 in
theorem AP : Has Tryz.prog kX 15 [(2, none)] alc := ⟨Tryz.f99, by kernel_rfl, by kernel_rfl⟩
theorem MJ:Has Tryz.prog Bv 152 [(2,none),(3,(some (true,2)))] alB:=⟨Tryz.f100,by kernel_rfl,by kernel_rfl⟩
theorem vR:Has Tryz.prog mD 49 [(2,(some (true,2)))] alH:=⟨Tryz.f101,by kernel_rfl,by kernel_rfl⟩
theorem GN:Has Tryz.prog vC 24 [(2,none)] alN:=⟨Tryz.f110,by kernel_rfl,by kernel_rfl⟩
theorem Fe:Has Tryz.prog ou 18 [(2,none)] alT:=⟨Tryz.f116,by kernel_rfl,by kernel_rfl⟩
theorem rV:Has Tryz.prog gd 9 [(4,none)] alU:=⟨Tryz.f117,by kernel_rfl,by kernel_rfl⟩
theorem Da:Has Tryz.prog oT 8 [(3,none)] alV:=⟨Tryz.f118,by kernel_rfl,by kernel_rfl⟩
theorem uv:Has Tryz.prog cD 9 [(4,none)] alW:=⟨Tryz.f119,by kernel_rfl,by kernel_rfl⟩
theorem Db:Has Tryz.prog gT 26 [(4,none)] alY:=⟨Tryz.f120,by kernel_rfl,by kernel_rfl⟩
theorem Ff:Has Tryz.prog qC 38 [(8,none)] al4:=⟨Tryz.f121,by kernel_rfl,by kernel_rfl⟩
theorem yJ:Has Tryz.prog vD 28 [(4,none)] amb:=⟨Tryz.f122,by kernel_rfl,by kernel_rfl⟩
theorem yK:Has Tryz.prog rK 9 [(2,none)] amd:=⟨Tryz.f123,by kernel_rfl,by kernel_rfl⟩
theorem IG:Has Tryz.prog ql 24 [(4,none),(5,none)] amj:=⟨Tryz.f124,by kernel_rfl,by kernel_rfl⟩
theorem pK:Has Tryz.prog vE 29 [(4,none)] amn:=⟨Tryz.f125,by kernel_rfl,by kernel_rfl⟩
theorem az.AW {P:Program} {f:Nat} {args:List D} {s0 s:St} {o off n m:Nat} {row:List D} (h:az P f args s0 (.ptr o off) s) (ho:s.ah[o]? = some row) (hn:s0.ah.length≤n) (Az:n≤o) (hm:s0.aw.length≤m) :
 az P f args s0 (.dO (D.gA n m row) off) (s.cut n m):=by
 intro M0 w0 fL r0 kQ asD ha
 refine(h M0 w0 fL r0 kQ asD ha).mono ?_
 rintro en w ⟨M,d,v0,s',rfl,⟨rfl,rfl⟩,e,r,hv⟩
 have x7:=hv.A6
 have sx:v0 = .pointer (some ⟨M.mu o,off,none⟩):=hv.sq.1
 have GO:o<s'.ah.length:=(List.getElem?_eq_some_iff.1 ho).1
 obtain⟨vs,T,hh,ej,⟨ic,_⟩,jC⟩:=r.obj o row ho
 replace hh:w.heap[M.mu o]? = some (.cells vs T (0,0)):=hh.cells x7
 let M':Map:= {M with G:=fun b q=>if b=M.mu o then vs[q]? else M.G b q}
 have hGo : ∀ q,M.G (M.mu o) q=none:=r.jZ o GO
 have le:Le M s' M' s':=⟨fun b q v hq=>by
  show(if b=M.mu o then vs[q]? else M.G b q)=some v
  by_cases hb:b=M.mu o
  ·subst hb;rw[hGo]at hq;cases hq
  ·rw[if_neg hb];exact hq,Nat.le_refl _,fun _ _=> .refl _,Nat.le_refl _,fun t n' _ e=>⟨n',e,Nat.le_refl _,fun _=>rfl⟩⟩
 have hC : ∀ q,q<(s'.cut n m).ah.length→q<s'.ah.length∧q≠o:=fun q h=>by rw[nV]at h;omega
 have wV:w0.heap.size≤M.mu o:=e.tU o (.inl (by omega)) GO
 have ec:=e.cut hn hm
 have lec:Le M (s'.cut n m) M' (s'.cut n m):=⟨le.G,Nat.le_refl _,fun _ _=> .refl _,Nat.le_refl _,fun t n' _ e=>⟨n',e,Nat.le_refl _,fun _=>rfl⟩⟩
 have rc:=r.cut n m
 have qh : ∀ b,b≠M.mu o→∀ q,M'.G b q=M.G b q:=fun b hb q=>if_neg hb
 refine⟨M',_,v0,_,rfl,⟨rfl,rfl⟩,⟨ec.le.trans lec,ec.kept,ec.tU,ec.qG,fun b q fl=>?_,ec.size,ec.os,ec.tape,ec.output⟩,⟨fun b q v hq=>?_,fun q ds hq=>?_,fun q hq xl=>?_,rc.inj,fun t n' Sp=>?_,rc.fh,rc.fX⟩, ?_⟩
 ·by_cases hb:b=M.mu o
  ·subst hb;exact .inl wV
  ·rw[qh b hb]at fl;exact ec.sj b q fl
 ·have mJ:(if b=M.mu o then vs[q]? else M.G b q)=some v:=hq
  by_cases hb:b=M.mu o
  ·rw [if_pos hb]at mJ
   rw[hb,jm hh]
   exact⟨mJ,ic v (Array.mem_of_getElem? mJ)⟩
  ·rw [if_neg hb]at mJ
   exact r.comm b q v mJ
 ·obtain⟨fD,T',h3,h4,h5,h6⟩:=rc.obj q ds hq
  exact⟨fD,T',h3,h4,h5,fun i d v e1 e2=>(h6 i d v e1 e2).mono lec⟩
 ·obtain⟨h3,h4⟩:=hC q hq
  show M'.G (M.mu q) xl=none
  rw[qh _ (fun e=>h4 (r.inj q o h3 GO e))]
  exact r.jZ q h3 xl
 ·rcases rc.tok t n' Sp with h3 | ⟨b,cap,z,fD,T',h3,h4,h5,h6,h7⟩
  ·exact .inl h3
  ·refine .inr ⟨b,cap,z,fD,T',h3,h4,h5,h6,fun xl DQ=> ?_,h7.2⟩
   rw[qh _ (fun e=>r.fh t b cap z o (vv ⟨n',Sp⟩) h3 GO e.symm)]
   exact h7.1 xl DQ
 ·rw [sx]
  have:=RD.dO (M:=M') (s:=s'.cut n m) (D.gA n m row) off (M.mu o) 0 (fun i d e1=>?_) (fun i d u e1 eu=>?_)
  ·simpa using this
  ·rw [ng,List.getElem?_map,Option.map_eq_some_iff]at e1
   obtain⟨d0,e1,rfl⟩:=e1
   have hi:=(List.getElem?_eq_some_iff.1 e1).1
   refine⟨vs[i]'(by omega), ?_⟩
   show(if M.mu o=M.mu o then vs[0+i]? else _)=_
   rw[if_pos rfl,Nat.zero_add]
   exact Array.getElem?_eq_getElem _
  ·rw [ng,List.getElem?_map,Option.map_eq_some_iff]at e1
   obtain⟨d0,e1,rfl⟩:=e1
   have Fg:(if M.mu o=M.mu o then vs[0+i]? else M.G (M.mu o) (0+i))=some u:=eu
   rw[if_pos rfl,Nat.zero_add]at Fg
   exact((jC i d0 u e1 Fg).fg n m).mono lec
theorem az.goK {P:Program} {f:FuncId} {res:List (Nat×Option (Bool×Nat))} {body:AC} {args:List D} {s:St} {d:D} {s':St} {nt:Nat} (n m:Nat) (hn:s.ah.length≤n) (hm:s.aw.length≤m) (h0:Has P f nt res body) (hl:Nat.ble args.length nt=true)
 (h : ∀ (B:fa) (Q:Exit→Tm→St→Prop),B.s=s→iC n m res d s'=Q→gF P B nt body Q (mS 0 args) s):az P f args s d s':=by
 obtain⟨fn,hf,hc⟩:=h0
 refine bL.IQ (bL.intro (Q:=fun d1 s1=>Wk d1 d∧gB s1.ah s'.ah∧s1.aw=s'.aw) hf hc (Nat.le_of_ble_eq_true hl) fun B hB=>(gG (h B _ hB rfl)).mono fun e tm s1 hr=>?_) fun d1 s1 ⟨h1,h2,h3⟩=>⟨d,s',h1,h2,h3,rfl,rfl⟩
 subst hB
 cases e with
 |normal=>obtain⟨l,h1,h2,h3,h4⟩:=hr;exact⟨l,h1,_,_,hn,hm,h2,h3,h4⟩
 |ret=>obtain⟨l,h1,h2,h3,h4⟩:=hr;exact⟨l,h1,_,_,hn,hm,h2,h3,h4⟩
 |exit id=>exact hr.elim
 |goto l=>exact hr.elim
 |panic ch=>exact hr.elim
 |outgrown=>exact hr.elim
def rW (c:UInt8):Bool:=decide ((c.toNat:Int)≥97) && decide ((c.toNat:Int)≤122)
def pX (c:UInt8):Bool:=decide ((c.toNat:Int)≥48) && decide ((c.toNat:Int)≤57)
def AA (c:UInt8):Bool:=(c.toNat:Int)==32 ||(c.toNat:Int)==9 ||(c.toNat:Int)==10 ||(c.toNat:Int)==13
def lU:aF→Nat
 | []=>0
 |c::r=>if rW c ||pX c then lU r+1 else 0
def rX:aF→Nat
 | []=>0
 |c::r=>if pX c then rX r+1 else 0
def qD:aF→Nat
 | []=>0
 |c::r=>if(c.toNat:Int) != 10 then qD r+1 else 0
def isWord (s:aF):Bool:=
 s == [103,108,111,98,97,108] ||s == [112,114,111,99] ||s == [118,97,114] ||s == [114,101,102] ||s == [105,102] ||s == [101,108,115,101] ||s == [119,104,105,108,101] ||s == [98,114,101,97,107] ||s == [99,111,110,116,105,110,117,101] ||s == [114,101,116,117,114,110] ||s == [103,111,116,111] ||s == [114,101,97,100] ||s == [112,114,105,110,116]
def Zn (s:aF):Bool:=s == [61,61] ||s == [33,61] ||s == [60,61] ||s == [62,61] ||s == [38,38] ||s == [124,124]
def Jb (c:UInt8):Bool:=
 (c.toNat:Int)==40 ||(c.toNat:Int)==41 ||(c.toNat:Int)==123 ||(c.toNat:Int)==125 ||(c.toNat:Int)==44 ||(c.toNat:Int)==59 ||(c.toNat:Int)==58 ||(c.toNat:Int)==61 ||
 (c.toNat:Int)==33 ||(c.toNat:Int)==60 ||(c.toNat:Int)==62 ||(c.toNat:Int)==43 ||(c.toNat:Int)==45 ||(c.toNat:Int)==42 ||(c.toNat:Int)==47 ||(c.toNat:Int)==37
def s5:aF→Nat
 | []=>0
 | [c]=>if Jb c then 1 else 0
 |c::d::_=>if Zn [c,d]then 2 else if Jb c then 1 else 0
def bU:Int→aF→Option Int
 |n,[]=>some n
 |n,c::r=>if n > (9223372036854775807 - ((c.toNat:Int) - 48)) / 10 then none else bU (n*10+((c.toNat:Int) - 48)) r
def QO (pos:Nat):aF→ga ⊕ Int
 | []=> .inr 2
 | c::r=>
  if rW c then
   let s:=(c::r).take (lU (c::r))
   if s.length > 8 then .inr 4 else .inl ⟨if isWord s then 3 else 1,s,0,pos⟩
  else if pX c then
   let s:=(c::r).take (rX (c::r))
   if s.length > 1∧(c.toNat:Int)=48 then .inr 2 else
   match bU 0 s with
   |some n=> .inl ⟨2,s,n,pos⟩
   |none=> .inr 4
  else
   if s5 (c::r)=0 then .inr 2 else .inl ⟨4,(c::r).take (s5 (c::r)),0,pos⟩
def oa:Nat→Nat→aF→List ga→List ga×Int×Int
 | 0,_,_,_=>([],0,0)
 |_+1,pos,[],out=>(out++ [⟨0,[],0,pos⟩],0,0)
 | n+1,pos,c::r,out=>
  if AA c then oa n (pos+1) r out
  else if(c.toNat:Int)==35 then oa n (pos+qD (c::r)) ((c::r).drop (qD (c::r))) out
  else match QO pos (c::r)with
   | .inr e=>([],e,pos)
   | .inl t=>if out.length=2000 then([],4,pos)else oa n (pos+t.text.length) ((c::r).drop t.text.length) (out++ [t])
def py (text:aF):List ga×Int×Int:=if text.length > 100000 then([],4,0)else oa (text.length+1) 0 text []
def u2:aF→Bool
 | []=>true
 |c::r=>if !(rW c) && !(pX c)then false else u2 r
def isName:aF→Bool
 | []=>false
 |c::r=>if decide (((r.length+1:Nat):Int) > 8) || !(rW c)then false else if u2 r then !(isWord (c::r))else false
def lK (op:Int):Int:=if op==1 ||op==2 then 0 else if op==3 ||op==4 then 1 else if decide (op≥5) && decide (op≤17)then 2 else -1
mutual
def Ex.form:Ex→Bool
 |⟨op,n,name,kids⟩=>
  if lK op != (kids.length:Int) ||(op != 1 && n != 0) ||decide (n<0) || !((op==2) == !(name == [])) ||(!(name == []) && !(isName name))then false else Ex.pL kids
def Ex.pL:List Ex→Bool
 | []=>true
 |x::l=>if !(Ex.form x)then false else Ex.pL l
end
mutual
def Ex.texts:Ex→Prop
 |⟨_,_,name,kids⟩=>name.length<4611686018427387904∧Ex.yL kids
def Ex.yL:List Ex→Prop
 | []=>True
 |x::l=>x.texts∧Ex.yL l
end
theorem Ex.Fh {x:Ex} : ∀ {l:List Ex},Ex.yL l→x∈l→x.texts
 |y::l,h,m=>by
  rcases List.mem_cons.1 m with rfl|m
  ·exact h.1
  ·exact Ex.Fh h.2 m
theorem Ex.HC {op n:Int} {name:aF} {kids:List Ex} (h:Ex.texts ⟨op,n,name,kids⟩) {y:Ex} (m:y∈kids):y.texts:=Ex.Fh h.2 m
def Ex.may (x:Ex):Bool:=decide (((min x.depth 21:Nat):Int)≤20) && x.form
def Ex.none (x:Ex):Bool:=x.op==0 && x.n==0 && x.name == [] && (x.kids.length:Int)==0
def ey:List aF→Bool
 | []=>true
 |s::l=>if !(isName s)then false else ey l
def Ar.may (a:Ar):Bool:=if a.ref then isName a.name && a.x.none else a.name == [] && a.x.may
def Ar.fq:List Ar→Bool
 | []=>true
 |a::l=>if !(a.may)then false else Ar.fq l
def Sm.BK (s:Sm):Bool:=s.kind==1 ||s.kind==3 ||s.kind==5 ||s.kind==6 ||(s.kind==9 && s.has)
def Sm.hasName (s:Sm):Bool:=s.kind==1 ||s.kind==2 ||s.kind==10
def Sm.tG (s:Sm):Bool:=s.kind==4
def Sm.one (s:Sm):Bool:=
 if decide (s.kind<1) ||decide (s.kind > 10) || !(ey s.labels) ||(s.BK && !(s.x.may)) ||(!(s.BK) && !(s.x.none)) ||(s.has && s.kind != 9)then false
 else if(s.hasName && !(isName s.name)) ||(!(s.hasName) && !(s.name == []) && !(s.tG && isName s.name))then false
 else if !(s.tG == !(s.proc == [])) ||(s.tG && !(isName s.proc)) ||(!(s.tG) && decide ((s.args.length:Int) > 0))then false
 else if !(Ar.fq s.args)then false
 else((s.bm.length:Int)==0 ||s.kind==5 ||s.kind==6) && ((s.bd.length:Int)==0 ||s.kind==5)
structure It where
 s:Sm
 deep:Int
 dG:Int
 bd:Bool
mutual
def kC (deep dG:Int) (bd:Bool) (out:List It):Sm→List It
 |⟨id,kind,labels,name,proc,x,has,args,bm,e⟩=>
  if decide (deep≤12)then fS (deep+1) id true (fS (deep+1) id false (out++ [⟨⟨id,kind,labels,name,proc,x,has,args,bm,e⟩,deep,dG,bd⟩]) bm) e
  else out++ [⟨⟨id,kind,labels,name,proc,x,has,args,bm,e⟩,deep,dG,bd⟩]
def fS (deep dG:Int) (bd:Bool) (out:List It):List Sm→List It
 | []=>out
 |s::l=>if decide ((out.length:Int)≤200)then fS deep dG bd (kC deep dG bd out s) l else out
end
def Pc.flat (f:Pc):List It:=fS 1 0 false [] f.body
def allM (out:List It):List Pc→List It
 | []=>out
 |f::l=>if decide (((out++f.flat).length:Int) > 200)then out++f.flat else allM (out++f.flat) l
def Pg.all (p:Pg):List It:=allM [] p.procs
def Pm.fq:List Pm→Bool
 | []=>true
 |a::l=>if !(isName a.name)then false else Pm.fq l
def Pc.pM:List Pc→Bool
 | []=>true
 |f::l=>
  if !(isName f.name) ||decide ((f.params.length:Int) > 8) ||decide ((f.vars.length:Int) > 16) || !(ey f.vars) || !(ey f.fin)then false
  else if !(Pm.fq f.params)then false else Pc.pM l
def It.fq (n:Nat):List It→Bool
 | []=>true
 |i::l=>if i.s.id != ((n+1:Nat):Int) ||decide (i.deep > 12) || !(i.s.one)then false else It.fq (n+1) l
def Pg.may (p:Pg):Bool:=
 if decide ((p.globals.length:Int) > 16) ||decide ((p.procs.length:Int) > 16) || !(ey p.globals)then false
 else if !(Pc.pM p.procs)then false
 else if decide ((p.all.length:Int) > 200)then false else It.fq 0 p.all
set_option maxRecDepth 8000
open Go.Proofs
@[go_sem] def cL (r:Rd):List D:= [.slice .shared 4 (r.l.map eQ), .int .i64 r.i, .int .i64 r.code, .int .i64 r.Kv, .int .i64 r.n]
theorem fM (r:Rd):D.bI 0 0 (cL r)=true:=by simp[cL,D.bI,D.ok,Tag.ok,Kt]
theorem sD {r:Rd} {t:ga} (h:r.p9=some t):r.i<4611686018427387904:=(Kw h).1
theorem is_lt {r:Rd} {s:aF} {t:Bool} (h:r.is s=some t):r.i<4611686018427387904:=by
 obtain⟨t,h1,h⟩:=Option.bind_eq_some_iff.1 h
 exact sD h1
-- good
theorem aek (l:List ga) (i c f n:Int):az Tryz.prog db [.ptr 0 0] ⟨[[.slice .shared 4 (l.map eQ), .int .i64 i, .int .i64 c, .int .i64 f, .int .i64 n]],[]⟩ (.bool (c==0)) ⟨[[.slice .shared 4 (l.map eQ), .int .i64 i, .int .i64 c, .int .i64 f, .int .i64 n]],[]⟩:=by
 refine az.go yv rfl fun B Q hB hQ=>?_
 have⟨hC,hE,hM,hY⟩:=bE
 repeat' (first
 |simp only[go_sem,hC,hE,hM,hY,nn]
 |(with_reducible refine aB hQ ?_;exact bj))
theorem kY {l:List ga} {i c f n:Int} {s:St} {o:Nat} (ho:s.ah[o]? = some [.slice .shared 4 (l.map eQ), .int .i64 i, .int .i64 c, .int .i64 f, .int .i64 n]):az Tryz.prog db [.ptr o 0] s (.bool (c==0)) ⟨s.ah.set o [.slice .shared 4 (l.map eQ), .int .i64 i, .int .i64 c, .int .i64 f, .int .i64 n],s.aw⟩:=
 have hk:D.bI 0 0 [.slice .shared 4 (l.map eQ), .int .i64 i, .int .i64 c, .int .i64 f, .int .i64 n] = true:=by simp[D.bI,D.ok,Tag.ok,Kt]
 az.kR (aek l i c f n) rfl hk hk rfl ho
theorem ael {r:Rd} {t:ga} (h:r.p9=some t):az Tryz.prog dR [.ptr 0 0] ⟨[cL r],[]⟩ (.agg (eQ t)) ⟨[cL r],[]⟩:=by
 obtain⟨h2,h,_,_⟩:=Kw h
 refine az.go yx rfl fun B Q hB hQ=>?_
 have⟨hC,hE,hM,hY⟩:=bE
 repeat' (first
 |simp only[go_sem,hC,hE,hM,hY,nn,h]
 |(with_reducible refine aB hQ ?_;exact bj))
theorem pz {r:Rd} {t:ga} (h:r.p9=some t) {s:St} {o:Nat} (ho:s.ah[o]? = some (cL r)):az Tryz.prog dR [.ptr o 0] s (.agg (eQ t)) ⟨s.ah.set o (cL r),s.aw⟩:=
 (ael h).kR rfl (fM r) (fM r) (IS t) ho
theorem asE {r:Rd} {text:aF} {b:Bool} (h:r.is text=some b):az Tryz.prog fC [.ptr 0 0, .str text] ⟨[cL r],[]⟩ (.bool b) ⟨[cL r],[]⟩:=by
 unfold Rd.is at h
 refine az.go AN rfl fun B Q hB hQ=>?_
 have⟨hC,hE,hM,hY⟩:=bE
 repeat' (first
 |simp only[go_sem,hC,hE,hM,hY,nn]
 |(rw[Option.bind_eq_some_iff]at h;obtain⟨_,h1,h⟩:=h;first|(with_reducible refine CU (pz h1 (by with_unfolding_all rfl)) ?_))
 |(with_reducible first|refine aX fun hc=>?_|refine aY fun hc=>?_|refine aZ (fun hc=>?_) fun hc=>?_)<;>(try simp only[hc,bs,↓reduceIte]at h)<;>try simp only[hc]
 |(with_reducible refine aB hQ ?_;(try cases h);simp only[aR,aS,bo,bp,go_sem,hC,hE,hM,hY,nn];try exact bS))
theorem BL {r:Rd} {text:aF} {b:Bool} (h:r.is text=some b) {s:St} {o:Nat} (ho:s.ah[o]? = some (cL r)):az Tryz.prog fC [.ptr o 0, .str text] s (.bool b) ⟨s.ah.set o (cL r),s.aw⟩:=
 (asE h).kR rfl (fM r) (fM r) rfl ho
theorem ahJ {r r':Rd} {c:Int} (h:r.bad c=some r'):az Tryz.prog fc [.ptr 0 0, .int .i64 c] ⟨[cL r],[]⟩ (.tuple []) ⟨[cL r'],[]⟩:=by
 unfold Rd.bad at h
 refine az.go zG rfl fun B Q hB hQ=>?_
 have⟨hC,hE,hM,hY⟩:=bE
 repeat' (first
 |simp only[go_sem,hC,hE,hM,hY,nn]
 |(rw[Option.bind_eq_some_iff]at h;obtain⟨_,h1,h⟩:=h;first|(with_reducible refine CU (pz h1 (by with_unfolding_all rfl)) ?_))
 |(with_reducible refine CU (kY (by with_unfolding_all rfl)) ?_)
 |(with_reducible first|refine aX fun hc=>?_|refine aY fun hc=>?_|refine aZ (fun hc=>?_) fun hc=>?_)<;>(try simp only[hc,bs,↓reduceIte]at h)<;>try simp only[hc]
 |(with_reducible refine aB hQ ?_;(try cases h);simp only[aR,aS,bo,bp,go_sem,hC,hE,hM,hY,nn];try exact bS))
theorem Fi {r r':Rd} {c:Int} (h:r.bad c=some r') {s:St} {o:Nat} (ho:s.ah[o]? = some (cL r)):az Tryz.prog fc [.ptr o 0, .int .i64 c] s (.tuple []) ⟨s.ah.set o (cL r'),s.aw⟩:=
 (ahJ h).kR rfl (fM r) (fM r') rfl ho
theorem aem {r:Rd} {text:aF} {p:Bool×Rd} (h:r.take text=some p):az Tryz.prog dQ [.ptr 0 0, .str text] ⟨[cL r],[]⟩ (.bool p.1) ⟨[cL p.2],[]⟩:=by
 unfold Rd.take at h
 refine az.go yu rfl fun B Q hB hQ=>?_
 have⟨hC,hE,hM,hY⟩:=bE
 repeat' (first
 |simp only[go_sem,hC,hE,hM,hY,nn]
 |(rw[Option.bind_eq_some_iff]at h;obtain⟨_,h1,h⟩:=h;first|(with_reducible refine CU (BL h1 (by with_unfolding_all rfl)) ?_;have hC:=is_lt h1))
 |(with_reducible refine CU (kY (by with_unfolding_all rfl)) ?_)
 |(with_reducible first|refine aX fun hc=>?_|refine aY fun hc=>?_|refine aZ (fun hc=>?_) fun hc=>?_)<;>(try simp only[hc,bs,↓reduceIte]at h)<;>try simp only[hc]
 |(with_reducible refine aB hQ ?_;(try cases h);simp only[aR,aS,bo,bp,go_sem,hC,hE,hM,hY,nn];try exact bS))
theorem tH {r:Rd} {text:aF} {p:Bool×Rd} (h:r.take text=some p) {s:St} {o:Nat} (ho:s.ah[o]? = some (cL r)):az Tryz.prog dQ [.ptr o 0, .str text] s (.bool p.1) ⟨s.ah.set o (cL p.2),s.aw⟩:=
 (aem h).kR rfl (fM r) (fM p.2) rfl ho
theorem aen {r r':Rd} {text:aF} (h:r.want text=some r'):az Tryz.prog dA [.ptr 0 0, .str text] ⟨[cL r],[]⟩ (.tuple []) ⟨[cL r'],[]⟩:=by
 unfold Rd.want at h
 refine az.go yA rfl fun B Q hB hQ=>?_
 have⟨hC,hE,hM,hY⟩:=bE
 repeat' (first
 |simp only[go_sem,hC,hE,hM,hY,nn]
 |(rw[Option.bind_eq_some_iff]at h;obtain⟨_,h1,h⟩:=h;first|(with_reducible refine CU (tH h1 (by with_unfolding_all rfl)) ?_))
 |(with_reducible refine CU (Fi h (by with_unfolding_all rfl)) ?_)
 |(with_reducible first|refine aX fun hc=>?_|refine aY fun hc=>?_|refine aZ (fun hc=>?_) fun hc=>?_)<;>(try simp only[hc,bs,↓reduceIte]at h)<;>try simp only[hc]
 |(with_reducible refine aB hQ ?_;(try cases h);simp only[aR,aS,bo,bp,go_sem,hC,hE,hM,hY,nn];try exact bS))
theorem qp {r r':Rd} {text:aF} (h:r.want text=some r') {s:St} {o:Nat} (ho:s.ah[o]? = some (cL r)):az Tryz.prog dA [.ptr o 0, .str text] s (.tuple []) ⟨s.ah.set o (cL r'),s.aw⟩:=
 (aen h).kR rfl (fM r) (fM r') rfl ho
theorem aeo {r:Rd} {room:Bool} {p:aF×Rd} (h:r.name room=some p):az Tryz.prog eT [.ptr 0 0, .bool room] ⟨[cL r],[]⟩ (.str p.1) ⟨[cL p.2],[]⟩:=by
 unfold Rd.name at h
 refine az.go yz rfl fun B Q hB hQ=>?_
 have⟨hC,hE,hM,hY⟩:=bE
 repeat' (first
 |simp only[go_sem,hC,hE,hM,hY,nn]
 |(rw[Option.bind_eq_some_iff]at h;obtain⟨_,h1,h⟩:=h;first|(with_reducible refine CU (pz h1 (by with_unfolding_all rfl)) ?_;have hC:=sD h1)|(with_reducible refine CU (Fi h1 (by with_unfolding_all rfl)) ?_))
 |(with_reducible refine CU (kY (by with_unfolding_all rfl)) ?_)
 |(with_reducible first|refine aX fun hc=>?_|refine aY fun hc=>?_|refine aZ (fun hc=>?_) fun hc=>?_)<;>(try simp only[hc,bs,↓reduceIte]at h)<;>try simp only[hc]
 |(with_reducible refine aB hQ ?_;(try cases h);simp only[aR,aS,bo,bp,go_sem,hC,hE,hM,hY,nn];try exact bS))
theorem yM {r:Rd} {room:Bool} {p:aF×Rd} (h:r.name room=some p) {s:St} {o:Nat} (ho:s.ah[o]? = some (cL r)):az Tryz.prog eT [.ptr o 0, .bool room] s (.str p.1) ⟨s.ah.set o (cL p.2),s.aw⟩:=
 (aeo h).kR rfl (fM r) (fM p.2) rfl ho
set_option maxRecDepth 8000
open Go.Proofs
theorem iL (c:UInt8) (s:St):az Tryz.prog pk [.int .u8 (c.toNat:Int)] s (.bool (rW c)) s:=by
 refine az.pure ?_ rfl rfl s
 generalize h:rW c=b
 unfold rW at h
 unfold S0
 refine az.go Gx rfl fun B Q hB hQ=>?_
 have⟨hC,hE,hM,hY⟩:=bE
 repeat' (first
 |simp only[go_sem,hC,hE,hM,hY]
 |(with_reducible first|refine aX fun hc=>?_|refine aY fun hc=>?_|refine aZ (fun hc=>?_) fun hc=>?_)<;>(try simp only[hc,bs,↓reduceIte]at h)<;>try simp only[hc]
 |(with_reducible refine aB hQ ?_;exact eA))
theorem kr (c:UInt8) (s:St):az Tryz.prog qm [.int .u8 (c.toNat:Int)] s (.bool (pX c)) s:=by
 refine az.pure ?_ rfl rfl s
 generalize h:pX c=b
 unfold pX at h
 unfold S0
 refine az.go IA rfl fun B Q hB hQ=>?_
 have⟨hC,hE,hM,hY⟩:=bE
 repeat' (first
 |simp only[go_sem,hC,hE,hM,hY]
 |(with_reducible first|refine aX fun hc=>?_|refine aY fun hc=>?_|refine aZ (fun hc=>?_) fun hc=>?_)<;>(try simp only[hc,bs,↓reduceIte]at h)<;>try simp only[hc]
 |(with_reducible refine aB hQ ?_;exact eA))
theorem vS (t:aF) (s:St):az Tryz.prog uX [.str t] s (.bool (isWord t)) s:=by
 refine az.pure ?_ rfl rfl s
 generalize h:isWord t=b
 unfold isWord at h
 unfold S0
 refine az.go KP rfl fun B Q hB hQ=>?_
 have⟨hC,hE,hM,hY⟩:=bE
 repeat' (first
 |simp only[go_sem,hC,hE,hM,hY]
 |(with_reducible first|refine aX fun hc=>?_|refine aY fun hc=>?_|refine aZ (fun hc=>?_) fun hc=>?_)<;>(try simp only[hc,bs,↓reduceIte]at h)<;>try simp only[hc]
 |(with_reducible refine aB hQ ?_;exact eA))
theorem Zo {text:aF} {pos:Nat} (hl:text.length<4611686018427387904) (s:St):az Tryz.prog wP [.str text, .int .i64 (pos:Int)] s (.int .i64 ((pos+lU (text.drop pos):Nat):Int)) s:=by
 refine az.pure ?_ rfl rfl s
 unfold S0
 refine az.go MI rfl fun B Q hB hQ=>?_
 have⟨hC,hE,hM,hY⟩:=bE
 repeat' (first
 |simp only[go_sem,hC,hE,hM,hY]
 |(with_reducible refine aB hQ ?_;exact bj))
 refine dS 0 0 (bg.ind (ι:=aF×Nat) (fun i=>text.drop i.2=i.1∧i.2+lU i.1=pos+lU (text.drop pos)) (fun i=>i.1.length)
  (fun i=> [(0, .str text),(1, .int .i64 (i.2:Int))]) (fun i=>⟨[],[]⟩) ?_ (text.drop pos,pos) ⟨rfl,rfl⟩)
 rintro⟨rest,k⟩ ⟨h1,h2⟩ IH
 dsimp only at h1 h2
 cases rest with
 |nil=>
  have hC:=drop_nil h1
  simp only[lU,Nat.add_zero]at h2
  rw[← h2]at hQ
  repeat' (first
 |simp only[go_sem,hC,hE,hM,hY]
 |(with_reducible refine aB hQ ?_;exact bj))
 | cons c rest=>
  obtain⟨hE,g2,hC,g4⟩:=drop_cons h1
  have hM:k<4611686018427387904:=by omega
  cases hb:(rW c ||pX c)
  ·simp only [lU,hb,Bool.false_eq_true, ↓reduceIte,Nat.add_zero]at h2
   rw[← h2]at hQ
   simp only[Bool.or_eq_false_iff]at hb
   repeat' (first
 |simp only[go_sem,hC,hE,hM,hY,hb.1,hb.2]
 |(with_reducible refine CU (iL _ _) ?_)
 |(with_reducible refine CU (kr _ _) ?_)
 | (with_reducible refine aB hQ ?_;exact bj))
  ·simp only [lU,hb, ↓reduceIte]at h2
   cases JX:rW c
   ·rw [JX,Bool.false_or]at hb
    repeat' (first
 |simp only[go_sem,hC,hE,hM,hY,hb,JX]
 |(with_reducible refine CU (iL _ _) ?_)
 |(with_reducible refine CU (kr _ _) ?_)
 | (with_reducible refine aB hQ ?_;exact bj))
    refine dS 0 0 (IH (rest,k+1) ⟨g2,by dsimp only;omega⟩ (Nat.lt_succ_self _))
   ·repeat' (first
 |simp only[go_sem,hC,hE,hM,hY,JX]
 |(with_reducible refine CU (iL _ _) ?_)
 |(with_reducible refine CU (kr _ _) ?_)
 | (with_reducible refine aB hQ ?_;exact bj))
    refine dS 0 0 (IH (rest,k+1) ⟨g2,by dsimp only;omega⟩ (Nat.lt_succ_self _))
theorem zL (text:aF) (a b:Nat):(text.take (a+b)).drop a=(text.drop a).take b:=by rw[List.drop_take];congr 1;omega
set_option maxRecDepth 20000 in
theorem aep {text : aF} {pos : Nat} {c : UInt8} {r : aF} (hd : text.drop pos = c :: r) (hl : text.length < 4611686018427387904) (s : St) :
   az Tryz.prog zv [.str text, .int .i64 (pos : Int)] s (.int .i64 ((s5 (c :: r) : Nat) : Int)) s := by
 refine az.pure ?_ rfl rfl s
 obtain ⟨hE, g2, g3, g4⟩ := drop_cons hd
 have hM : pos < 4611686018427387904 := by omega
 have hY : 0 < 1 := Nat.zero_lt_one
 generalize h : s5 (c :: r) = k
 unfold S0
 cases r with
 | nil =>
   have hC : decide (((pos + 1 : Nat) : Int) < (text.length : Int)) = false := drop_nil g2
   simp only[s5, Jb]at h
   refine az.go BI rfl fun B Q hB hQ =>?_
   repeat' (first
 |simp only[go_sem, hC, hE, hM, hY]
 |(with_reducible first|refine aX fun hc =>?_|refine aY fun hc =>?_|refine aZ (fun hc =>?_) fun hc =>?_)<;>(try simp only[hc, bs,↓reduceIte]at h)<;>try simp only[hc]
 |(with_reducible refine aB hQ ?_; exact eA)
 |(cases h; done))
 | cons d r =>
   obtain ⟨_, _, hC, _⟩ := drop_cons g2
   have e1 : (text.take (pos + 2)).drop pos = [c, d] := by rw[zL, hd]; rfl
   have e2 : (0 : Int) ≤ (pos : Int) ∧ (pos : Int) ≤ ((pos + 2 : Nat) : Int) ∧ ((pos + 2 : Nat) : Int) ≤ (text.length : Int) := by omega
   simp only[s5, Jb, Zn]at h
   refine az.go BI rfl fun B Q hB hQ =>?_
   repeat' (first
 |simp only[go_sem, hC, hE, hM, hY, e1, e2]
 |(with_reducible first|refine aX fun hc =>?_|refine aY fun hc =>?_|refine aZ (fun hc =>?_) fun hc =>?_)<;>(try simp only[hc, bs,↓reduceIte]at h)<;>try simp only[hc]
 |(with_reducible refine aB hQ ?_; (try cases h); simp only[aR, aS, bo, bp, go_sem, hC, hE, hM, hY, e1, e2]; try exact bS)
 |(cases h; done))
theorem Tq {c:UInt8} (h:pX c=true):48≤(c.toNat:Int)∧(c.toNat:Int)≤57:=by
 simp only[pX,Bool.and_eq_true,decide_eq_true_eq]at h
 omega
def pA (s:aF):Int×Bool:=match bU 0 s with|some n=>(n,true)|none=>(0,false)
theorem WB {text:aF} (hd : ∀ c∈text,pX c=true) (hl:text.length<4611686018427387904) (s:St) :
 az Tryz.prog vF [.str text] s (.tuple [.int .i64 (pA text).1, .bool (pA text).2]) s:=by
 refine az.pure ?_ rfl rfl s
 generalize hw:pA text=p
 unfold S0
 refine az.go Gy rfl fun B Q hB hQ=>?_
 have⟨hC,hE,hM,hY⟩:=bE
 repeat' (first
 |simp only[go_sem,hC,hE,hM,hY]
 |(with_reducible first|refine aX fun hc=>?_|refine aY fun hc=>?_|refine aZ (fun hc=>?_) fun hc=>?_)<;>(try simp only[hc,bs,↓reduceIte]at h)<;>try simp only[hc]
 |(with_reducible refine aB hQ ?_;exact eA)
 |(cases h;done))
 refine dS 0 0 (bg.ind (ι:=aF×Nat×Int) (fun i=>text.drop i.2.1=i.1∧0≤i.2.2∧i.2.2≤9223372036854775807∧(match bU i.2.2 i.1 with|some n=>(n,true)|none=>(0,false))=p) (fun i=>i.1.length)
  (fun i=> [(0, .str text),(4, .int .i64 i.2.2),(5, .int .i64 (i.2.1:Int))]) (fun i=>⟨[],[]⟩) ?_ (text,0,0) ⟨rfl,Int.le_refl 0,by dsimp only;omega,hw⟩)
 rintro⟨rest,k,n⟩ ⟨h1,h2,h3,h⟩ IH
 dsimp only at h1 h2 h3 h
 cases rest with
 |nil=>
  have hC:=drop_nil h1
  simp only[bU]at h
  repeat' (first
 |simp only[go_sem,hC,hE,hM,hY]
 |(with_reducible first|refine aX fun hc=>?_|refine aY fun hc=>?_|refine aZ (fun hc=>?_) fun hc=>?_)<;>(try simp only[hc,bs,↓reduceIte]at h)<;>try simp only[hc]
 |(with_reducible refine aB hQ ?_;exact eA)
 |(cases h;done))
 | cons c rest=>
  obtain⟨hE,g2,hC,g4⟩:=drop_cons h1
  have hM:k<4611686018427387904:=by omega
  have hc:=Tq (hd c (List.mem_of_getElem? hE))
  have w1:IntKind.wrap .u8 ((c.toNat:Int) - 48)=(c.toNat:Int) - 48:=by rw[IntKind.wrap_u8];omega
  have w2:IntKind.wrap .i64 ((c.toNat:Int) - 48)=(c.toNat:Int) - 48:=er (by omega) (by omega)
  have w3:IntKind.wrap .i64 (9223372036854775807 - ((c.toNat:Int) - 48))=9223372036854775807 - ((c.toNat:Int) - 48):=er (by omega) (by omega)
  have w4:IntKind.wrap .i64 ((9223372036854775807 - ((c.toNat:Int) - 48)).tdiv 10)=(9223372036854775807 - ((c.toNat:Int) - 48)) / 10:=by
   rw[Int.tdiv_eq_ediv_of_nonneg (by omega)];exact er (by omega) (by omega)
  have t10:((10:Int)=0)=False:=by simp
  simp only[bU]at h
  by_cases hn:n > (9223372036854775807 - ((c.toNat:Int) - 48)) / 10
  ·have nc:decide (n > (9223372036854775807 - ((c.toNat:Int) - 48)) / 10)=true:=by simpa using hn
   rw[if_pos hn]at h
   repeat' (first
 |simp only[go_sem,hC,hE,hM,hY,w1,w2,w3,w4,t10,nc]
 |(with_reducible first|refine aX fun hc=>?_|refine aY fun hc=>?_|refine aZ (fun hc=>?_) fun hc=>?_)<;>(try simp only[hc,bs,↓reduceIte]at h)<;>try simp only[hc]
 |(with_reducible refine aB hQ ?_;(try cases h);simp only[aR,aS,bo,bp,go_sem,hC,hE,hM,hY,w1,w2,w3,w4,t10,nc];try exact bS)
 | (cases h;done))
  ·have nc:decide (n > (9223372036854775807 - ((c.toNat:Int) - 48)) / 10)=false:=by simpa using hn
   rw[if_neg hn]at h
   have w5:IntKind.wrap .i64 (n*10)=n*10:=er (by omega) (by omega)
   have w6:IntKind.wrap .i64 (n*10+((c.toNat:Int) - 48))=n*10+((c.toNat:Int) - 48):=er (by omega) (by omega)
   repeat' (first
 |simp only[go_sem,hC,hE,hM,hY,w1,w2,w3,w4,t10,nc,w5,w6]
 |(with_reducible first|refine aX fun hc=>?_|refine aY fun hc=>?_|refine aZ (fun hc=>?_) fun hc=>?_)<;>(try simp only[hc,bs,↓reduceIte]at h)<;>try simp only[hc]
 |(with_reducible refine aB hQ ?_;(try cases h);simp only[aR,aS,bo,bp,go_sem,hC,hE,hM,hY,w1,w2,w3,w4,t10,nc,w5,w6];try exact bS)
 | (cases h;done))
   refine dS 0 0 (IH (rest,k+1,n*10+((c.toNat:Int) - 48)) ⟨g2,by dsimp only;omega,by dsimp only;omega,h⟩ (Nat.lt_succ_self _))
set_option maxRecDepth 8000
open Go.Proofs
theorem WC {c:UInt8} {r:aF} (h:rW c=true):0<lU (c::r):=by simp[lU,h]
theorem KV : ∀ s:aF,lU s≤s.length
 | []=>Nat.le_refl _
 |c::r=>by simp only[lU];split<;>simp only[List.length_cons]<;>have:=KV r<;>omega
theorem KW : ∀ s:aF,rX s≤s.length
 | []=>Nat.le_refl _
 |c::r=>by simp only[rX];split<;>simp only[List.length_cons]<;>have:=KW r<;>omega
theorem HD : ∀ s:aF,qD s≤s.length
 | []=>Nat.le_refl _
 |c::r=>by simp only[qD];split<;>simp only[List.length_cons]<;>have:=HD r<;>omega
theorem Tr : ∀ s:aF,s5 s≤s.length
 | []=>Nat.le_refl _
 | [c]=>by simp only[s5];split<;>simp
 |c::d::r=>by simp only[s5];(repeat' split)<;>simp
theorem KX : ∀ (s:aF),∀ c∈s.take (rX s),pX c=true
 | [],c,h=>by simp[rX]at h
 | d::r,c,h=>by
  simp only[rX]at h
  split at h
  ·rw [List.take_succ_cons]at h
   rcases List.mem_cons.1 h with rfl|h
   ·assumption
   ·exact KX r c h
  ·simp at h
def qb (f:Int×Int):List D:= [.int .i64 f.1, .int .i64 f.2]
def oV (text:aF) (out:List ga) (pos:Nat):Tm:= [(0, .str text),(3, .ptr 0 0),(4, .slice (.tok 0) 4 (out.map eQ)),(5, .ptr 1 0),(6, .int .i64 (pos:Int))]
def pN (out:List ga):St:=⟨[[.int .i64 0, .int .i64 0],[.junk, .junk, .junk, .junk]],[some out.length]⟩
theorem Ts {c:UInt8} {r:aF} (h:((c.toNat:Int)==35)=true):0<qD (c::r):=by
 have:((c.toNat:Int) != 10)=true:=by simp only[beq_iff_eq]at h;simp[h]
 simp[qD,this]
def s6 (text:aF) (B:fa) (Q:Exit→Tm→St→Prop) (p:List ga×Int×Int) (N:Nat):Prop:=
 ∀ (n pos:Nat) (rest:aF) (out:List ga),text.drop pos=rest→oa n pos rest out=p→rest.length<n→out.length≤2000→pos≤text.length→n<N→
  je Tryz.prog B 152 qQ (.seq .skip vQ) Q (oV text out pos) (pN out)
theorem s6.to {text:aF} {B:fa} {Q:Exit→Tm→St→Prop} {p:List ga×Int×Int} {N:Nat} (hB:B.s=S0) (IH:s6 text B Q p N) {n pos:Nat} {rest:aF} {out:List ga} {tm:Tm} {s:St}
 (h1:text.drop pos=rest) (h:oa n pos rest out=p) (h2:rest.length<n) (h3:out.length≤2000) (h4:pos≤text.length) (h5:n<N)
 (ht:uI tm 2 1 (oV text out pos)) (ho:gB (s.cut 2 1).ah (pN out).ah) (hk:(s.cut 2 1).aw=(pN out).aw) :
 kd Tryz.prog B 152 qQ Q (.goto 0) tm s:=by
 refine zr (l:=0) (r:= .seq .skip vQ) rfl (je.re _ _ 2 1 (by rw[hB];exact mN rfl) (by rw[hB];exact mN rfl) ht ho ?_)
 have:=IH n pos rest out h1 h h2 h3 h4 h5
 rw[hk]
 exact this
attribute [go_sem] oV pN qb
theorem lex_nil {text:aF} (hl:text.length≤100000) {B:fa} {Q:Exit→Tm→St→Prop} {p:List ga×Int×Int} (hB:B.s=S0)
 (hQ:iC 0 0 [(2,none),(3,some (true,2))] (.tuple [.slice .shared 4 (p.1.map eQ), .agg (qb p.2)]) ⟨[],[]⟩=Q)
 {n pos:Nat} {out:List ga} (ho:out.length≤2000) (hp:pos≤text.length) (IH:s6 text B Q p (n+1))
 (h1:text.drop pos = []) (h:oa (n+1) pos [] out=p):gF Tryz.prog B 152 vQ (kd Tryz.prog B 152 qQ Q) (oV text out pos) (pN out):=by
 have⟨hC,hE,hM,hY⟩:=bE
 have fP:(out.length+1)*41≤bA:=by simp only[bA];omega
 have eL:decide ((pos:Int)≥(text.length:Int))=true:=by have:=List.drop_eq_nil_iff.1 h1;simp;omega
 have:pos=text.length:=by have:=List.drop_eq_nil_iff.1 h1;omega
 subst this
 simp only[oa]at h
 repeat' (first
 |simp only[go_sem,hC,hE,hM,hY,eL,fP]
 |(with_reducible first|refine aX fun hc=>?_|refine aY fun hc=>?_|refine aZ (fun hc=>?_) fun hc=>?_)<;>(try simp only[hc,bs,↓reduceIte]at h)<;>try simp only[hc]
 |(with_reducible refine aB hQ ?_;(try cases h);simp only[aR,aS,bo,bp,go_sem,hC,hE,hM,hY,eL,fP];try exact bS))
theorem Tt {text:aF} (hl:text.length≤100000) {B:fa} {Q:Exit→Tm→St→Prop} {p:List ga×Int×Int} (hB:B.s=S0)
 (hQ:iC 0 0 [(2,none),(3,some (true,2))] (.tuple [.slice .shared 4 (p.1.map eQ), .agg (qb p.2)]) ⟨[],[]⟩=Q)
 {n pos:Nat} {out:List ga} (ho:out.length≤2000) (hp:pos≤text.length) (IH:s6 text B Q p (n+1))
 {c:UInt8} {r:aF} (h1:text.drop pos=c::r) (hb:AA c=true) (hn:(c::r).length<n+1) (h:oa (n+1) pos (c::r) out=p) :
 gF Tryz.prog B 152 vQ (kd Tryz.prog B 152 qQ Q) (oV text out pos) (pN out):=by
 have hM:0<1:=Nat.zero_lt_one
 have hY:0<1:=Nat.zero_lt_one
 obtain⟨hE,g2,g3,g4⟩:=drop_cons h1
 have hC:pos<4611686018427387904:=by omega
 have eL:decide ((pos:Int)≥(text.length:Int))=false:=by simp;omega
 simp only[oa,hb,↓reduceIte]at h
 have nc:r.length<n:=by simp only[List.length_cons]at hn;omega
 have e : ∀ x y:Int,(x==y)=false→(x==y)=true→False:=fun x y a b=>by rw[a]at b;cases b
 simp only[AA]at hb
 repeat' (first
 |simp only[go_sem,hC,hE,hM,hY,eL]
 |(refine IH.to hB g2 h nc ho g4 (Nat.lt_succ_self _) ?_ ?_ ?_<;>((try simp only[go_sem,hC,hE,hM,hY]);repeat' (first|exact Ok.out|with_reducible refine eP ?_ ?_|omega|(simp;done)));done)
 |(with_reducible first|refine aX fun hc=>?_|refine aY fun hc=>?_|refine aZ (fun hc=>?_) fun hc=>?_)<;>(try simp only[hc,bs,↓reduceIte]at h)<;>try simp only[hc]
 |(with_reducible refine aB hQ ?_;simp only[aR,aS,bo,bp,go_sem,hC,hE,hM,hY];repeat' (first|exact Ok.out|with_reducible refine eP ?_ ?_|(simp;done))))
 all_goals (exfalso;simp_all;done)
theorem QR {text:aF} (hl:text.length≤100000) {B:fa} {Q:Exit→Tm→St→Prop} {p:List ga×Int×Int} (hB:B.s=S0)
 (hQ:iC 0 0 [(2,none),(3,some (true,2))] (.tuple [.slice .shared 4 (p.1.map eQ), .agg (qb p.2)]) ⟨[],[]⟩=Q)
 {n pos:Nat} {out:List ga} (ho:out.length≤2000) (hp:pos≤text.length) (IH:s6 text B Q p (n+1))
 {c:UInt8} {r:aF} (h1:text.drop pos=c::r) (hb:AA c=false) (hc:((c.toNat:Int)==35)=true) (hn:(c::r).length<n+1) (h:oa (n+1) pos (c::r) out=p) :
 gF Tryz.prog B 152 vQ (kd Tryz.prog B 152 qQ Q) (oV text out pos) (pN out):=by
 have hM:0<1:=Nat.zero_lt_one
 have hY:0<1:=Nat.zero_lt_one
 have ahK:=(drop_cons h1).1
 have hE:=ahK
 have g4:=(drop_cons h1).2.2.2
 have hC:pos<4611686018427387904:=by omega
 have eL:decide ((pos:Int)≥(text.length:Int))=false:=by simp;omega
 simp only[oa,hb,Bool.false_eq_true,↓reduceIte,hc]at h
 simp only[AA,Bool.or_eq_false_iff]at hb
 have hk:=Ts (r:=r) hc
 have cp:=HD (c::r)
 have tI:(c::r).length=text.length - pos:=by rw[← h1,List.length_drop]
 generalize hL:qD (c::r)=L at h hk cp
 repeat' (first
 |simp only[go_sem,hC,hE,hM,hY,eL,hb.1.1.1,hb.1.1.2,hb.1.2,hb.2,hc]
 |(with_reducible refine cv (l:=1) (by with_unfolding_all rfl) ?_)
 |(with_reducible refine aB hQ ?_;exact bj))
 refine dS 2 1 (bg.ind (ι:=aF×Nat) (fun i=>text.drop i.2=i.1∧i.2+qD i.1=pos+L) (fun i=>i.1.length)
  (fun i=>oV text out i.2) (fun i=>pN out) ?_ (c::r,pos) ⟨h1,by dsimp only;omega⟩)
 rintro⟨rest,k⟩ ⟨j1,j2⟩ IHl
 dsimp only at j1 j2
 have fin:text.drop (pos+L)=(c::r).drop L:=by rw[← h1,List.drop_drop]
 have hlen:((c::r).drop L).length<n:=by rw[List.length_drop];omega
 cases rest with
 |nil=>
  have eL:=drop_nil j1
  simp only[qD,Nat.add_zero]at j2
  subst j2
  repeat' (first
 |simp only[go_sem,hC,hE,hM,hY,eL]
 |(refine IH.to hB fin h hlen ho (by omega) (Nat.lt_succ_self _) ?_ ?_ ?_<;>((try simp only[go_sem,hC,hE,hM,hY]);repeat' (first|exact Ok.out|with_reducible refine eP ?_ ?_|omega|(simp;done)));done)
 |(with_reducible refine aB hQ ?_;exact bj))
 | cons d rest=>
  obtain⟨hE,g2,eL,g5⟩:=drop_cons j1
  have hC:k<4611686018427387904:=by omega
  cases hd:((d.toNat:Int) != 10)
  ·simp only [qD,hd,Bool.false_eq_true, ↓reduceIte,Nat.add_zero]at j2
   subst j2
   repeat' (first
 |simp only[go_sem,hC,hE,hM,hY,eL,hd]
 |(refine IH.to hB fin h hlen ho (by omega) (Nat.lt_succ_self _) ?_ ?_ ?_<;>((try simp only[go_sem,hC,hE,hM,hY]);repeat' (first|exact Ok.out|with_reducible refine eP ?_ ?_|omega|(simp;done)));done)
 | (with_reducible refine aB hQ ?_;exact bj))
  ·simp only [qD,hd, ↓reduceIte]at j2
   repeat' (first
 |simp only[go_sem,hC,hE,hM,hY,eL,hd]
 | (with_reducible refine aB hQ ?_;exact bj))
   refine dS 2 1 (IHl (rest,k+1) ⟨g2,by dsimp only;omega⟩ (Nat.lt_succ_self _))
theorem WD {text:aF} (hl:text.length≤100000) {B:fa} {Q:Exit→Tm→St→Prop} {p:List ga×Int×Int} (hB:B.s=S0)
 (hQ:iC 0 0 [(2,none),(3,some (true,2))] (.tuple [.slice .shared 4 (p.1.map eQ), .agg (qb p.2)]) ⟨[],[]⟩=Q)
 {n pos:Nat} {out:List ga} (ho:out.length≤2000) (hp:pos≤text.length) (IH:s6 text B Q p (n+1))
 {c:UInt8} {r:aF} (h1:text.drop pos=c::r) (hb:AA c=false) (hc:((c.toNat:Int)==35)=false) (hL:rW c=false) (hD:pX c=false) (hn:(c::r).length<n+1) (h:oa (n+1) pos (c::r) out=p) :
 gF Tryz.prog B 152 vQ (kd Tryz.prog B 152 qQ Q) (oV text out pos) (pN out):=by
 have hM:0<1:=Nat.zero_lt_one
 have hY:0<1:=Nat.zero_lt_one
 have hE:=(drop_cons h1).1
 have g4:=(drop_cons h1).2.2.2
 have hC:pos<4611686018427387904:=by omega
 have eL:decide ((pos:Int)≥(text.length:Int))=false:=by simp;omega
 have fP:(out.length+1)*41≤bA:=by simp only[bA];omega
 have Jc:=fun s=>aep h1 (by omega) s
 have cp:=Tr (c::r)
 have tI:(c::r).length=text.length - pos:=by rw[← h1,List.length_drop]
 simp only[oa,hb,Bool.false_eq_true,↓reduceIte,hc,QO,hL,hD]at h
 simp only[AA,Bool.or_eq_false_iff]at hb
 generalize hK:s5 (c::r)=k at h Jc cp
 have e1:IntKind.wrap .i64 ((pos:Int)+(k:Int))=((pos+k:Nat):Int):=by rw[er]<;>omega
 have e2:(0:Int)≤(pos:Int)∧(pos:Int)≤((pos+k:Nat):Int)∧((pos+k:Nat):Int)≤(text.length:Int):=by omega
 have e3:(text.take (pos+k)).drop pos=(c::r).take k:=by rw[zL,h1]
 by_cases hz:k=0
 ·have ow:decide (((pos+k:Nat):Int) > (pos:Int))=false:=by simp;omega
  simp only[hz,↓reduceIte]at h
  repeat' (first
 |simp only[go_sem,hC,hE,hM,hY,eL,hb.1.1.1,hb.1.1.2,hb.1.2,hb.2,hc,hL,hD,e1,e2,e3,ow]
 |(with_reducible refine CU (iL _ _) ?_)
 |(with_reducible refine CU (kr _ _) ?_)
 |(with_reducible refine CU (Jc _) ?_)
 |(with_reducible refine cv (l:=4) (by with_unfolding_all rfl) ?_)
 |(with_reducible refine cv (l:=5) (by with_unfolding_all rfl) ?_)
 |(with_reducible first|refine aX fun hc=>?_|refine aY fun hc=>?_|refine aZ (fun hc=>?_) fun hc=>?_)<;>(try simp only[hc,bs,↓reduceIte]at h)<;>try simp only[hc]
 |(with_reducible refine aB hQ ?_;(try cases h);simp only[aR,aS,bo,bp,go_sem,hC,hE,hM,hY,eL,hb.1.1.1,hb.1.1.2,hb.1.2,hb.2,hc,hL,hD,e1,e2,e3,ow];try exact bS))
 ·have ow:decide (((pos+k:Nat):Int) > (pos:Int))=true:=by simp;omega
  have hlen:((c::r).take k).length=k:=by rw[List.length_take];omega
  have fin:text.drop (pos+k)=(c::r).drop k:=by rw[← h1,List.drop_drop]
  have u3:((c::r).drop k).length<n:=by rw[List.length_drop];omega
  simp only[hz,↓reduceIte,hlen]at h
  by_cases se:out.length=2000
  ·have kN:((out.length:Int)==2000)=true:=by simp [se]
   simp only[se,↓reduceIte]at h
   repeat' (first
 |simp only[go_sem,hC,hE,hM,hY,eL,hb.1.1.1,hb.1.1.2,hb.1.2,hb.2,hc,hL,hD,e1,e2,e3,ow,kN]
 |(with_reducible refine CU (iL _ _) ?_)
 |(with_reducible refine CU (kr _ _) ?_)
 |(with_reducible refine CU (Jc _) ?_)
 |(with_reducible refine cv (l:=4) (by with_unfolding_all rfl) ?_)
 |(with_reducible refine cv (l:=5) (by with_unfolding_all rfl) ?_)
 |(with_reducible first|refine aX fun hc=>?_|refine aY fun hc=>?_|refine aZ (fun hc=>?_) fun hc=>?_)<;>(try simp only[hc,bs,↓reduceIte]at h)<;>try simp only[hc]
 | (with_reducible refine aB hQ ?_;(try cases h);simp only [aR,aS,bo,bp,go_sem,hC,hE,hM,hY,eL,hb.1.1.1,hb.1.1.2,hb.1.2,hb.2,hc,hL,hD,e1,e2,e3,ow,kN];try exact bS))
  ·have kN:((out.length:Int)==2000)=false:=by simp;omega
   have Dv : ∀ t:ga,(out++ [t]).length≤2000:=by intro t;simp;omega
   simp only[se,↓reduceIte]at h
   repeat' (first
 |simp only[go_sem,hC,hE,hM,hY,eL,hb.1.1.1,hb.1.1.2,hb.1.2,hb.2,hc,hL,hD,e1,e2,e3,ow,kN,fP]
 |(with_reducible refine CU (iL _ _) ?_)
 |(with_reducible refine CU (kr _ _) ?_)
 |(with_reducible refine CU (Jc _) ?_)
 |(with_reducible refine cv (l:=4) (by with_unfolding_all rfl) ?_)
 |(with_reducible refine cv (l:=5) (by with_unfolding_all rfl) ?_)
 |(refine IH.to hB fin h u3 (Dv _) (by omega) (Nat.lt_succ_self _) ?_ ?_ ?_<;>((try simp only[go_sem,hC,hE,hM,hY]);repeat' (first|exact Ok.out|with_reducible refine eP ?_ ?_|omega|(simp;done)));done)
 |(with_reducible refine aB hQ ?_;exact bj))
theorem WE {text:aF} (hl:text.length≤100000) {B:fa} {Q:Exit→Tm→St→Prop} {p:List ga×Int×Int} (hB:B.s=S0)
 (hQ:iC 0 0 [(2,none),(3,some (true,2))] (.tuple [.slice .shared 4 (p.1.map eQ), .agg (qb p.2)]) ⟨[],[]⟩=Q)
 {n pos:Nat} {out:List ga} (ho:out.length≤2000) (hp:pos≤text.length) (IH:s6 text B Q p (n+1))
 {c:UInt8} {r:aF} (h1:text.drop pos=c::r) (hb:AA c=false) (hc:((c.toNat:Int)==35)=false) (hL:rW c=true) (hn:(c::r).length<n+1) (h:oa (n+1) pos (c::r) out=p) :
 gF Tryz.prog B 152 vQ (kd Tryz.prog B 152 qQ Q) (oV text out pos) (pN out):=by
 have hM:0<1:=Nat.zero_lt_one
 have hY:0<1:=Nat.zero_lt_one
 have hE:=(drop_cons h1).1
 have g4:=(drop_cons h1).2.2.2
 have hC:pos<4611686018427387904:=by omega
 have eL:decide ((pos:Int)≥(text.length:Int))=false:=by simp;omega
 have fP:(out.length+1)*41≤bA:=by simp only[bA];omega
 have dK:=fun s=>Zo (text:=text) (pos:=pos) (by omega) s
 rw[h1]at dK
 have cp:=KV (c::r)
 have rn:=WC (r:=r) hL
 have tI:(c::r).length=text.length - pos:=by rw[← h1,List.length_drop]
 simp only[oa,hb,Bool.false_eq_true,↓reduceIte,hc,QO,hL]at h
 simp only[AA,Bool.or_eq_false_iff]at hb
 generalize hK:lU (c::r)=k at h dK cp rn
 have hlen:((c::r).take k).length=k:=by rw[List.length_take];omega
 simp only[hlen]at h
 have e1:IntKind.wrap .i64 (((pos+k:Nat):Int) - (pos:Int))=(k:Int):=by rw[er]<;>omega
 have e2:(0:Int)≤(pos:Int)∧(pos:Int)≤((pos+k:Nat):Int)∧((pos+k:Nat):Int)≤(text.length:Int):=by omega
 have e3:(text.take (pos+k)).drop pos=(c::r).take k:=by rw[zL,h1]
 by_cases hz:k > 8
 ·have ow:decide ((k:Int) > 8)=true:=by simp;omega
  simp only[hz,↓reduceIte]at h
  cases hw:isWord ((c::r).take k)
  ·repeat' (first
 |simp only[go_sem,hC,hE,hM,hY,eL,hb.1.1.1,hb.1.1.2,hb.1.2,hb.2,hc,hL,e1,e2,e3,ow,hw]
 |(with_reducible refine CU (iL _ _) ?_)
 |(with_reducible refine CU (dK _) ?_)
 |(with_reducible refine CU (vS _ _) ?_)
 |(with_reducible refine cv (l:=2) (by with_unfolding_all rfl) ?_)
 |(with_reducible refine cv (l:=4) (by with_unfolding_all rfl) ?_)
 |(with_reducible refine cv (l:=5) (by with_unfolding_all rfl) ?_)
 |(with_reducible first|refine aX fun hc=>?_|refine aY fun hc=>?_|refine aZ (fun hc=>?_) fun hc=>?_)<;>(try simp only[hc,bs,↓reduceIte]at h)<;>try simp only[hc]
 |(with_reducible refine aB hQ ?_;(try cases h);simp only[aR,aS,bo,bp,go_sem,hC,hE,hM,hY,eL,hb.1.1.1,hb.1.1.2,hb.1.2,hb.2,hc,hL,e1,e2,e3,ow,hw];try exact bS))
  ·repeat' (first
 |simp only[go_sem,hC,hE,hM,hY,eL,hb.1.1.1,hb.1.1.2,hb.1.2,hb.2,hc,hL,e1,e2,e3,ow,hw]
 |(with_reducible refine CU (iL _ _) ?_)
 |(with_reducible refine CU (dK _) ?_)
 |(with_reducible refine CU (vS _ _) ?_)
 |(with_reducible refine cv (l:=2) (by with_unfolding_all rfl) ?_)
 |(with_reducible refine cv (l:=4) (by with_unfolding_all rfl) ?_)
 |(with_reducible refine cv (l:=5) (by with_unfolding_all rfl) ?_)
 |(with_reducible first|refine aX fun hc=>?_|refine aY fun hc=>?_|refine aZ (fun hc=>?_) fun hc=>?_)<;>(try simp only[hc,bs,↓reduceIte]at h)<;>try simp only[hc]
 |(with_reducible refine aB hQ ?_;(try cases h);simp only[aR,aS,bo,bp,go_sem,hC,hE,hM,hY,eL,hb.1.1.1,hb.1.1.2,hb.1.2,hb.2,hc,hL,e1,e2,e3,ow,hw];try exact bS))
 ·have ow:decide ((k:Int) > 8)=false:=by simp;omega
  have fin:text.drop (pos+k)=(c::r).drop k:=by rw[← h1,List.drop_drop]
  have u3:((c::r).drop k).length<n:=by rw[List.length_drop];omega
  simp only[hz,↓reduceIte,hlen]at h
  by_cases se:out.length=2000
  ·have kN:((out.length:Int)==2000)=true:=by simp [se]
   simp only[se,↓reduceIte]at h
   cases hw:isWord ((c::r).take k)
   ·repeat' (first
 |simp only[go_sem,hC,hE,hM,hY,eL,hb.1.1.1,hb.1.1.2,hb.1.2,hb.2,hc,hL,e1,e2,e3,ow,kN,hw]
 |(with_reducible refine CU (iL _ _) ?_)
 |(with_reducible refine CU (dK _) ?_)
 |(with_reducible refine CU (vS _ _) ?_)
 |(with_reducible refine cv (l:=2) (by with_unfolding_all rfl) ?_)
 |(with_reducible refine cv (l:=4) (by with_unfolding_all rfl) ?_)
 |(with_reducible refine cv (l:=5) (by with_unfolding_all rfl) ?_)
 |(with_reducible first|refine aX fun hc=>?_|refine aY fun hc=>?_|refine aZ (fun hc=>?_) fun hc=>?_)<;>(try simp only[hc,bs,↓reduceIte]at h)<;>try simp only[hc]
 | (with_reducible refine aB hQ ?_;(try cases h);simp only [aR,aS,bo,bp,go_sem,hC,hE,hM,hY,eL,hb.1.1.1,hb.1.1.2,hb.1.2,hb.2,hc,hL,e1,e2,e3,ow,kN,hw];try exact bS))
   ·repeat' (first
 |simp only[go_sem,hC,hE,hM,hY,eL,hb.1.1.1,hb.1.1.2,hb.1.2,hb.2,hc,hL,e1,e2,e3,ow,kN,hw]
 |(with_reducible refine CU (iL _ _) ?_)
 |(with_reducible refine CU (dK _) ?_)
 |(with_reducible refine CU (vS _ _) ?_)
 |(with_reducible refine cv (l:=2) (by with_unfolding_all rfl) ?_)
 |(with_reducible refine cv (l:=4) (by with_unfolding_all rfl) ?_)
 |(with_reducible refine cv (l:=5) (by with_unfolding_all rfl) ?_)
 |(with_reducible first|refine aX fun hc=>?_|refine aY fun hc=>?_|refine aZ (fun hc=>?_) fun hc=>?_)<;>(try simp only[hc,bs,↓reduceIte]at h)<;>try simp only[hc]
 | (with_reducible refine aB hQ ?_;(try cases h);simp only [aR,aS,bo,bp,go_sem,hC,hE,hM,hY,eL,hb.1.1.1,hb.1.1.2,hb.1.2,hb.2,hc,hL,e1,e2,e3,ow,kN,hw];try exact bS))
  ·have kN:((out.length:Int)==2000)=false:=by simp;omega
   have Dv : ∀ t:ga,(out++ [t]).length≤2000:=by intro t;simp;omega
   simp only[se,↓reduceIte]at h
   cases hw:isWord ((c::r).take k)
   ·simp only [hw,Bool.false_eq_true, ↓reduceIte]at h
    repeat' (first
 |simp only[go_sem,hC,hE,hM,hY,eL,hb.1.1.1,hb.1.1.2,hb.1.2,hb.2,hc,hL,e1,e2,e3,ow,kN,fP,hw]
 |(with_reducible refine CU (iL _ _) ?_)
 |(with_reducible refine CU (dK _) ?_)
 |(with_reducible refine CU (vS _ _) ?_)
 |(with_reducible refine cv (l:=2) (by with_unfolding_all rfl) ?_)
 |(with_reducible refine cv (l:=4) (by with_unfolding_all rfl) ?_)
 |(with_reducible refine cv (l:=5) (by with_unfolding_all rfl) ?_)
 |(refine IH.to hB fin h u3 (Dv _) (by omega) (Nat.lt_succ_self _) ?_ ?_ ?_<;>((try simp only[go_sem,hC,hE,hM,hY]);repeat' (first|exact Ok.out|with_reducible refine eP ?_ ?_|omega|(simp;done)));done)
 |(with_reducible first|refine aX fun hc=>?_|refine aY fun hc=>?_|refine aZ (fun hc=>?_) fun hc=>?_)<;>(try simp only[hc,bs,↓reduceIte]at h)<;>try simp only[hc]
 | (with_reducible refine aB hQ ?_;(try cases h);simp only [aR,aS,bo,bp,go_sem,hC,hE,hM,hY,eL,hb.1.1.1,hb.1.1.2,hb.1.2,hb.2,hc,hL,e1,e2,e3,ow,kN,fP,hw];try exact bS))
   ·simp only [hw, ↓reduceIte]at h
    repeat' (first
 |simp only[go_sem,hC,hE,hM,hY,eL,hb.1.1.1,hb.1.1.2,hb.1.2,hb.2,hc,hL,e1,e2,e3,ow,kN,fP,hw]
 |(with_reducible refine CU (iL _ _) ?_)
 |(with_reducible refine CU (dK _) ?_)
 |(with_reducible refine CU (vS _ _) ?_)
 |(with_reducible refine cv (l:=2) (by with_unfolding_all rfl) ?_)
 |(with_reducible refine cv (l:=4) (by with_unfolding_all rfl) ?_)
 |(with_reducible refine cv (l:=5) (by with_unfolding_all rfl) ?_)
 |(refine IH.to hB fin h u3 (Dv _) (by omega) (Nat.lt_succ_self _) ?_ ?_ ?_<;>((try simp only[go_sem,hC,hE,hM,hY]);repeat' (first|exact Ok.out|with_reducible refine eP ?_ ?_|omega|(simp;done)));done)
 |(with_reducible refine aB hQ ?_;exact bj))
end Go.Abs
namespace Go.Abs
set_option maxRecDepth 8000
open Go.Proofs
theorem KY (c:UInt8) (s:St):az Tryz.prog rP [.int .u8 (c.toNat:Int)] s (.bool (rW c)) s:=by
 refine az.pure ?_ rfl rfl s
 generalize h:rW c=b
 unfold rW at h
 unfold S0
 refine az.go GH rfl fun B Q hB hQ=>?_
 have⟨hC,hE,hM,hY⟩:=bE
 repeat' (first
 |simp only[go_sem,hC,hE,hM,hY]
 |(with_reducible first|refine aX fun hc=>?_|refine aY fun hc=>?_|refine aZ (fun hc=>?_) fun hc=>?_)<;>(try simp only[hc,bs,↓reduceIte]at h)<;>try simp only[hc]
 |(with_reducible refine aB hQ ?_;exact eA))
theorem WG (c:UInt8) (s:St):az Tryz.prog vJ [.int .u8 (c.toNat:Int)] s (.bool (pX c)) s:=by
 refine az.pure ?_ rfl rfl s
 generalize h:pX c=b
 unfold pX at h
 unfold S0
 refine az.go GK rfl fun B Q hB hQ=>?_
 have⟨hC,hE,hM,hY⟩:=bE
 repeat' (first
 |simp only[go_sem,hC,hE,hM,hY]
 |(with_reducible first|refine aX fun hc=>?_|refine aY fun hc=>?_|refine aZ (fun hc=>?_) fun hc=>?_)<;>(try simp only[hc,bs,↓reduceIte]at h)<;>try simp only[hc]
 |(with_reducible refine aB hQ ?_;exact eA))
theorem aaR (s:St):az Tryz.prog vK [] s (.slice .shared 1 [[.str [103,108,111,98,97,108]],[.str [112,114,111,99]],[.str [118,97,114]],[.str [114,101,102]],[.str [105,102]],[.str [101,108,115,101]],[.str [119,104,105,108,101]],[.str [98,114,101,97,107]],[.str [99,111,110,116,105,110,117,101]],[.str [114,101,116,117,114,110]],[.str [103,111,116,111]],[.str [114,101,97,100]],[.str [112,114,105,110,116]]]) s:=by
 refine az.pure ?_ rfl rfl s
 unfold S0
 refine az.go GM rfl fun B Q hB hQ=>?_
 have⟨hC,hE,hM,hY⟩:=bE
 repeat' (first
 |simp only[go_sem,hC,hE,hM,hY]
 |(with_reducible refine aB hQ ?_;exact bj))
def Cx (s:aF):Bool:=
 [103,108,111,98,97,108] == s || [112,114,111,99] == s || [118,97,114] == s || [114,101,102] == s || [105,102] == s || [101,108,115,101] == s || [119,104,105,108,101] == s || [98,114,101,97,107] == s || [99,111,110,116,105,110,117,101] == s || [114,101,116,117,114,110] == s || [103,111,116,111] == s || [114,101,97,100] == s || [112,114,105,110,116] == s
theorem QS (s:aF):Cx s=isWord s:=by
 have e : ∀ a:aF,(a==s)=(s==a):=fun a=>BEq.comm
 simp only[Cx,isWord,e]
theorem aaS (text:aF) (s:St):az Tryz.prog xF [.str text] s (.bool (isWord text)) s:=by
 refine az.pure ?_ rfl rfl s
 rw[← QS]
 generalize h:Cx text=p
 unfold Cx at h
 unfold S0
 refine az.go ID rfl fun B Q hB hQ=>?_
 have⟨hC,hE,hM,hY⟩:=bE
 repeat' (first
 |simp only[go_sem,hC,hE,hM,hY,Int.cast_ofNat_Int,er,Int.reduceAdd,Int.reduceLT,Int.reduceNeg,decide_true,decide_false,Int.reduceToNat]
 |(with_reducible refine CU (aaR _) ?_)
 |(with_reducible refine bg.kB ?_)
 |(with_reducible first|refine aX fun hc=>?_|refine aY fun hc=>?_|refine aZ (fun hc=>?_) fun hc=>?_)<;>(try simp only[hc,bs,↓reduceIte]at h)<;>try simp only[hc]
 |(with_reducible refine aB hQ ?_;(try cases h);simp only[aR,aS,bo,bp,go_sem,hC,hE,hM,hY,Int.cast_ofNat_Int,er,Int.reduceAdd,Int.reduceLT,Int.reduceNeg,decide_true,decide_false,Int.reduceToNat];try exact bS))
theorem asF {t:ga} {p:Int×Int} (h:rE t=p):az Tryz.prog uY [.agg (eQ t)] S0 (.tuple [.int .i64 p.1, .int .i64 p.2]) S0:=by
 unfold rE at h
 unfold S0
 refine az.go KT rfl fun B Q hB hQ=>?_
 have⟨hC,hE,hM,hY⟩:=bE
 repeat' (first
 |simp only[go_sem,hC,hE,hM,hY]
 |(with_reducible first|refine aX fun hc=>?_|refine aY fun hc=>?_|refine aZ (fun hc=>?_) fun hc=>?_)<;>(try simp only[hc,bs,↓reduceIte]at h)<;>try simp only[hc]
 |(with_reducible refine aB hQ ?_;exact eA))
theorem aaT : ∀ n,n<4611686018427387904→∀ x:Ex,x.size≤n→az Tryz.prog lX [.agg (bJ x)] S0 (.int .i64 (x.depth:Int)) S0:=by
 intro n
 induction n with
 |zero=>rintro _ ⟨op,m,name,kids⟩ h;simp only[Ex.size]at h;omega
 |succ n ihn=>
 rintro hn ⟨op,m,name,kids⟩ hx
 have hk : ∀ y∈kids,az Tryz.prog lX [.agg (bJ y)] S0 (.int .i64 (y.depth:Int)) S0:=fun y hy=>ihn (by omega) y (by simp only[Ex.size]at hx;have:=Ex.dg hy;omega)
 have hlen:kids.length<4611686018427387904:=by simp only[Ex.size]at hx;have:=Ex.eo kids;omega
 have O3:Ex.gS kids<4611686018427387904:=by have:=Ex.Qp _ _ hx;simp only[Ex.depth]at this;omega
 unfold S0
 refine az.go Fc rfl fun B Q hB hQ=>?_
 have⟨hC,hE,hM,hY⟩:=bE
 repeat' (first
 |simp only[go_sem,hC,hE,hM,hY]
 |(with_reducible first|refine aX fun hc=>?_|refine aY fun hc=>?_|refine aZ (fun hc=>?_) fun hc=>?_)<;>(try simp only[hc,bs,↓reduceIte]at h)<;>try simp only[hc]
 |(with_reducible refine aB hQ ?_;exact bj))
 refine dS 0 0 (bg.ind (ι:=List Ex×Nat×Nat) (fun i=>kids.drop i.2.1=i.1∧max i.2.2 (Ex.gS i.1)=Ex.gS kids) (fun i=>i.1.length)
  (fun i=> [(3, .int .i64 (i.2.2:Int)),(7, .slice .shared 4 (kids.map bJ)),(8, .int .i64 (kids.length:Int)),(9, .int .i64 (i.2.1:Int))]) (fun _=>S0) ?_ (kids,0,0) ⟨rfl,by simp⟩)
 rintro⟨rest,k,acc⟩ ⟨h1,h2⟩ IH
 unfold S0
 cases rest with
 |nil=>
  have hC:=drop_nil h1
  simp only[Ex.gS,Nat.max_zero]at h2
  subst h2
  repeat' (first
 |simp only[go_sem,hC,hE,hM,hY,aL O3,Ex.depth]
 |(with_reducible first|refine aX fun hc=>?_|refine aY fun hc=>?_|refine aZ (fun hc=>?_) fun hc=>?_)<;>(try simp only[hc,bs,↓reduceIte]at h)<;>try simp only[hc]
 |(with_reducible refine aB hQ ?_;simp only[aR,aS,bo,bp,go_sem,hC,hE,hM,hY,aL O3,Ex.depth];try exact bS))
 |cons y rest=>
  obtain⟨g1,g2,hC,g4⟩:=drop_cons h1
  simp only[Ex.gS]at h2
  have hy:=fun s=>(hk y (List.mem_of_getElem? g1)).pure (by simp[D.bI,D.ok,gW]) rfl s
  dsimp only at g1 g2 hC g4 h2
  repeat' (first
 |simp only[go_sem,hC,hE,hM,hY,g1]
 |(with_reducible refine CU (hy _) ?_)
 |(with_reducible refine aB hQ ?_;exact bj))
  refine eV 0 0 ?_ ?_ (IH (rest,k+1,max acc y.depth) ⟨g2,by dsimp only;omega⟩ (by simp))
  ·(simp only[go_sem,hC,hE,hM,hY,mx,aL (show k<4611686018427387904 by omega)];try exact cu)
  ·(simp only[go_sem,hC,hE,hM,hY,mx,aL (show k<4611686018427387904 by omega)];try exact cu)
theorem aaU {x:Ex} {d:Int} (h:Ku x=some d) (s:St):az Tryz.prog lX [.agg (bJ x)] s (.int .i64 d) s:=by
 unfold Ku at h
 split at h
 ·cases h;exact(aaT x.size ‹_› x (Nat.le_refl _)).pure (by simp[D.bI,D.ok,gW]) rfl s
 ·cases h
theorem asG (t:ga) (s:St):az Tryz.prog uY [.agg (eQ t)] s (.tuple [.int .i64 (rE t).1, .int .i64 (rE t).2]) s:=(asF rfl).pure rfl rfl s
theorem ahL {c:Prop} [Decidable c] {α:Type} {P:α→Prop} {a b:α} (ha:P a) (hb:P b):P (if c then a else b):=by
 by_cases h:c
 ·rw[if_pos h];exact ha
 ·rw[if_neg h];exact hb
def OpR (p:Int×Int):Prop:=0≤p.2∧p.2≤6
theorem WH (t:ga):OpR (rE t):=by
 unfold rE
 repeat' with_reducible refine ahL (P:=OpR) ?_ ?_
 all_goals exact⟨by decide,by decide⟩
theorem Nk (t:ga):IntKind.wrap .i64 ((rE t).2+1)=(rE t).2+1:=by
 have:0≤(rE t).2∧(rE t).2≤6:=WH t
 rw[er]<;>omega
abbrev Jd (m:Nat):Prop:=∀ {r:Rd} {p:Ex×Rd},Rd.one m r=some p→∀ {s:St} {o:Nat},s.ah[o]? = some (cL r)→az Tryz.prog kJ [.ptr o 0] s (.agg (bJ p.1)) ⟨s.ah.set o (cL p.2),s.aw⟩
abbrev Je (m:Nat):Prop:=∀ {k:Int} {r:Rd} {p:Ex×Rd},Rd.two m k r=some p→∀ {s:St} {o:Nat},s.ah[o]? = some (cL r)→az Tryz.prog jr [.ptr o 0, .int .i64 k] s (.agg (bJ p.1)) ⟨s.ah.set o (cL p.2),s.aw⟩
theorem WI {m:Nat} (Jf:Jd m) (Fj:Je m):Jd (m+1):=by
 intro r p h s o ho
 refine az.kR ?_ rfl (fM r) (fM p.2) (by simp[D.ok,gW]) ho
 unfold Rd.one at h
 refine az.go zJ rfl fun B Q hB hQ=>?_
 have⟨hC,hE,hM,hY⟩:=bE
 repeat' (first
 |simp only[go_sem,hC,hE,hM,hY]
 |(rw[Option.bind_eq_some_iff]at h;obtain⟨_,h1,h⟩:=h;first|(with_reducible refine CU (pz h1 (by with_unfolding_all rfl)) ?_;have hC:=sD h1)|(with_reducible refine CU (tH h1 (by with_unfolding_all rfl)) ?_)|(with_reducible refine CU (Fj h1 (by with_unfolding_all rfl)) ?_)|(with_reducible refine CU (qp h1 (by with_unfolding_all rfl)) ?_)|(with_reducible refine CU (Jf h1 (by with_unfolding_all rfl)) ?_)|(with_reducible refine CU (Fi h1 (by with_unfolding_all rfl)) ?_))
 |(with_reducible refine CU (kY (by with_unfolding_all rfl)) ?_)
 |(with_reducible first|refine aX fun hc=>?_|refine aY fun hc=>?_|refine aZ (fun hc=>?_) fun hc=>?_)<;>(try simp only[hc,bs,↓reduceIte]at h)<;>try simp only[hc]
 |(with_reducible refine aB hQ ?_;exact eA))
theorem WJ {m:Nat} (Jf:Jd m) (Fj : ∀ j<m,Je j):Je (m+1):=by
 intro k r p h s o ho
 refine az.kR ?_ rfl (fM r) (fM p.2) (by simp[D.ok,gW]) ho
 unfold Rd.two at h
 refine az.go zI rfl fun B Q hB hQ=>?_
 have⟨hC,hE,hM,hY⟩:=bE
 repeat' (first
 |simp only[go_sem,hC,hE,hM,hY]
 |(rw[Option.bind_eq_some_iff]at h;obtain⟨_,h1,h⟩:=h;first|(with_reducible refine CU (Jf h1 (by with_unfolding_all rfl)) ?_))
 |(with_reducible refine aB hQ ?_;exact bj))
 refine dS 3 0 (bg.ind (ι:=Nat×Ex×Rd) (fun i=>Rd.Kx i.1 k i.2.1 i.2.2=some p∧i.1≤m) (fun i=>i.1)
  (fun i=> [(0, .ptr 0 0),(1, .int .i64 k),(4, .ptr 1 0),(5, .ptr 2 0)]) (fun i=>⟨[cL i.2.2,bJ qi,bJ i.2.1],[]⟩) ?_ (m,_,_) ⟨h,Nat.le_refl _⟩)
 rintro⟨n,x,r⟩ ⟨h,hn⟩ IH
 cases n with
 |zero=>simp only[Rd.Kx]at h;cases h
 |succ n=>
  have ahM:=@Fj n (by omega)
  simp only[Rd.Kx]at h
  repeat' (first
 |simp only[go_sem,hC,hE,hM,hY,Nk]
 |(rw[Option.bind_eq_some_iff]at h;obtain⟨_,h1,h⟩:=h;first|(with_reducible refine CU (pz h1 (by with_unfolding_all rfl)) ?_;have hC:=sD h1)|(with_reducible refine CU (ahM h1 (by with_unfolding_all rfl)) ?_))
 |(with_reducible refine CU (kY (by with_unfolding_all rfl)) ?_)
 |(with_reducible refine CU (asG _ _) ?_)
 |(with_reducible first|refine aX fun hc=>?_|refine aY fun hc=>?_|refine aZ (fun hc=>?_) fun hc=>?_)<;>(try simp only[hc,bs,↓reduceIte]at h)<;>try simp only[hc]
 |(with_reducible refine aB hQ ?_;(try cases h);simp only[aR,aS,bo,bp,go_sem,hC,hE,hM,hY,Nk];try exact bS))
  refine dS 3 0 (IH (n,_,_) ⟨h,by dsimp only at hn ⊢;omega⟩ (Nat.lt_succ_self _))
theorem aaV : ∀ n,∀ m<n,Jd m∧Je m:=by
 intro n
 induction n with
 |zero=>intro m h;exact absurd h (Nat.not_lt_zero _)
 | succ n ih=>
  intro m h
  cases m with
  |zero=>
   refine⟨?_, ?_⟩
   ·intro r p h;simp only[Rd.one]at h;cases h
   ·intro k r p h;simp only[Rd.two]at h;cases h
  |succ m=>
   have hm:=ih m (by omega)
   exact⟨WI hm.1 hm.2,WJ hm.1 fun j hj=>(ih j (by omega)).2⟩
theorem Fj {m:Nat} {k:Int} {r:Rd} {p:Ex×Rd} (h:Rd.two m k r=some p) {s:St} {o:Nat} (ho:s.ah[o]? = some (cL r)) :
 az Tryz.prog jr [.ptr o 0, .int .i64 k] s (.agg (bJ p.1)) ⟨s.ah.set o (cL p.2),s.aw⟩:=(aaV (m+1) m (Nat.lt_succ_self _)).2 h ho
theorem Cy {n:Nat} {r:Rd} {p:Ex×Rd} (h:Rd.whole n r=some p) {s:St} {o:Nat} (ho:s.ah[o]? = some (cL r)) :
 az Tryz.prog gy [.ptr o 0] s (.agg (bJ p.1)) ⟨s.ah.set o (cL p.2),s.aw⟩:=by
 refine az.kR ?_ rfl (fM r) (fM p.2) (by simp[D.ok,gW]) ho
 unfold Rd.whole at h
 refine az.go xL rfl fun B Q hB hQ=>?_
 have⟨hC,hE,hM,hY⟩:=bE
 repeat' (first
 |simp only[go_sem,hC,hE,hM,hY]
 |(rw[Option.bind_eq_some_iff]at h;obtain⟨_,h1,h⟩:=h;first|(with_reducible refine CU (pz h1 (by with_unfolding_all rfl)) ?_)|(with_reducible refine CU (aaU h1 _) ?_)|(with_reducible refine CU (Fj h1 (by with_unfolding_all rfl)) ?_))
 |(with_reducible refine CU (kY (by with_unfolding_all rfl)) ?_)
 |(with_reducible first|refine aX fun hc=>?_|refine aY fun hc=>?_|refine aZ (fun hc=>?_) fun hc=>?_)<;>(try simp only[hc,bs,↓reduceIte]at h)<;>try simp only[hc]
 |(with_reducible refine aB hQ ?_;exact eA))
@[go_sem] def az3 (z:D) (r:Rd):List D:= [.slice .shared 4 (r.l.map eQ), .int .i64 r.i, .int .i64 r.code, .int .i64 r.Kv,z]
class Cell (z:D):Prop where
 ok:D.ok 0 0 z=true
 fg : ∀ n m,D.fg n m z=z
instance (n:Int):Cell (.int .i64 n):=⟨rfl,fun _ _=>rfl⟩
instance:Cell .junk:=⟨rfl,fun _ _=>rfl⟩
theorem aaW (z:D) [h:Cell z] (n m:Nat):D.fg n m z=z:=h.fg n m
attribute [go_sem] aaW
def Rd.isO (text:aF) (r:Rd):Option Bool:=if r.good then r.is text else some false
end Go.Abs
namespace Go.Abs
open Go.Proofs
def aes (s:aF):Int×Int:=
 if [42] == s then(6,5)else if [47] == s then(6,6)else if [37] == s then(6,7)else if [43] == s then(5,8)else if [45] == s then(5,9)
 else if [60] == s then(4,10)else if [60,61] == s then(4,11)else if [62] == s then(4,12)else if [62,61] == s then(4,13)
 else if [61,61] == s then(3,14)else if [33,61] == s then(3,15)else if [38,38] == s then(2,16)else if [124,124] == s then(1,17)else(0,0)
def BZ (p:Int×Int):Prop:=(p.2==0)=(p.1==0)
set_option maxRecDepth 8000
open Go.Proofs
theorem aet : ∀ (gI:Nat),gI<1000000→∀ x:Ex,x.size<4611686018427387904→∀ s:St,az Tryz.prog qn [.agg (bJ x), .int .i64 (gI:Int)] s (.int .i64 ((min x.depth (gI+1):Nat):Int)) s:=by
 intro gI
 induction gI with
 |zero=>
  rintro _ ⟨op,m,name,kids⟩ hx s
  refine az.pure ?_ (by simp[D.bI,D.ok,gW]) rfl s
  have hz:((0:Int)==0)=true:=rfl
  have e:min (Ex.depth ⟨op,m,name,kids⟩) (0+1)=1:=by simp only[Ex.depth];omega
  rw[e]
  unfold S0
  refine az.go Ax rfl fun B Q hB hQ=>?_
  have⟨hC,hE,hM,hY⟩:=bE
  repeat' (first
 |simp only[go_sem,hC,hE,hM,hY,hz]
 |(with_reducible refine aB hQ ?_;exact bj))
 | succ gI ih=>
  rintro az4 ⟨op,m,name,kids⟩ hx s
  refine az.pure ?_ (by simp[D.bI,D.ok,gW]) rfl s
  have hlen:kids.length<4611686018427387904:=by simp only[Ex.size]at hx;have:=Ex.eo kids;omega
  have hk : ∀ y∈kids,∀ s,az Tryz.prog qn [.agg (bJ y), .int .i64 (gI:Int)] s (.int .i64 ((min y.depth (gI+1):Nat):Int)) s:=fun y hy s=>
   ih (by omega) y (by simp only[Ex.size]at hx;have:=Ex.dg hy;omega) s
  have hz:(((gI+1:Nat):Int)==0)=false:=by simp;omega
  have w1:IntKind.wrap .i64 (((gI+1:Nat):Int) - 1)=(gI:Int):=by rw[er]<;>omega
  unfold S0
  refine az.go Ax rfl fun B Q hB hQ=>?_
  have⟨hC,hE,hM,hY⟩:=bE
  repeat' (first
 |simp only[go_sem,hC,hE,hM,hY,hz]
 | (with_reducible refine aB hQ ?_;exact bj))
  refine dS 1 0 (bg.ind (ι:=List Ex×Nat×Nat) (fun i=>kids.drop i.2.1=i.1∧i.2.2≤gI+1∧min (max i.2.2 (Ex.gS i.1)) (gI+1)=min (Ex.gS kids) (gI+1)) (fun i=>i.1.length)
   (fun i=> [(1, .int .i64 ((gI+1:Nat):Int)),(2, .ptr 0 0),(5, .int .i64 (i.2.2:Int)),(6, .int .i64 (i.2.1:Int))]) (fun i=>⟨[bJ ⟨op,m,name,kids⟩],[]⟩) ?_ (kids,0,0) ⟨rfl,Nat.zero_le _,by simp⟩)
  rintro⟨rest,k,d⟩ ⟨h1,h2,h3⟩ IH
  dsimp only at h1 h2 h3
  have hd:min (Ex.depth ⟨op,m,name,kids⟩) (gI+1+1)=min (Ex.gS kids) (gI+1)+1:=by simp only[Ex.depth];omega
  rw[hd, ← h3]at hQ
  have w2:IntKind.wrap .i64 ((d:Int)+1)=((d+1:Nat):Int):=by rw[er]<;>omega
  by_cases aAo:d<gI+1
  ·have c2:decide ((d:Int)<((gI+1:Nat):Int))=true:=by simp;omega
   cases rest with
   |nil=>
    have hC:=drop_nil h1
    simp only[Ex.gS,Nat.max_zero]at hQ
    have e:min d (gI+1)=d:=by omega
    rw[e]at hQ
    repeat' (first
 |simp only[go_sem,hC,hE,hM,hY,c2,w2]
 | (with_reducible refine aB hQ ?_;exact bj))
   | cons y rest=>
    obtain⟨hE,g2,hC,g4⟩:=drop_cons h1
    have hy:=hk y (List.mem_of_getElem? hE)
    simp only[Ex.gS]at h3
    have cp:k<4611686018427387904:=by omega
    by_cases ow:min y.depth (gI+1) > d
    ·have c3:decide (((min y.depth (gI+1):Nat):Int) > (d:Int))=true:=by simp only [decide_eq_true_eq];omega
     repeat' (first
 |simp only[go_sem,hC,hE,hM,hY,c2,w1,c3]
 |(with_reducible refine CU (hy _) ?_)
 | (with_reducible refine aB hQ ?_;exact bj))
     refine eV 1 0 ?_ ?_ (IH (rest,k+1,min y.depth (gI+1)) ⟨g2,by dsimp only;omega,by dsimp only;omega⟩ (Nat.lt_succ_self _))
     ·(simp only[go_sem,hC,hE,hM,hY,aL cp];try exact cu)
     ·(simp only[go_sem,hC,hE,hM,hY,aL cp];try exact cu)
    ·have c3:decide (((min y.depth (gI+1):Nat):Int) > (d:Int))=false:=by simp only [decide_eq_false_iff_not];omega
     repeat' (first
 |simp only[go_sem,hC,hE,hM,hY,c2,w1,c3]
 |(with_reducible refine CU (hy _) ?_)
 | (with_reducible refine aB hQ ?_;exact bj))
     refine eV 1 0 ?_ ?_ (IH (rest,k+1,d) ⟨g2,h2,by dsimp only;omega⟩ (Nat.lt_succ_self _))
     ·(simp only[go_sem,hC,hE,hM,hY,aL cp];try exact cu)
     ·(simp only[go_sem,hC,hE,hM,hY,aL cp];try exact cu)
  ·have c2:decide ((d:Int)<((gI+1:Nat):Int))=false:=by simp;omega
   have e:min (max d (Ex.gS rest)) (gI+1)=d:=by omega
   rw[e]at hQ
   cases rest with
   |nil=>
    have hC:=drop_nil h1
    repeat' (first
 |simp only[go_sem,hC,hE,hM,hY,c2,w2]
 | (with_reducible refine aB hQ ?_;exact bj))
   |cons y rest=>
    obtain⟨hE,g2,hC,g4⟩:=drop_cons h1
    repeat' (first
 |simp only[go_sem,hC,hE,hM,hY,c2,w2]
 |(with_reducible refine aB hQ ?_;exact bj))
theorem yN (text:aF) (hl:text.length<4611686018427387904) (s:St):az Tryz.prog ln [.str text] s (.bool (isName text)) s:=by
 refine az.pure ?_ rfl rfl s
 unfold S0
 cases text with
 |nil=>
  have e:(([] : aF) == [])=true:=rfl
  refine az.go Aw rfl fun B Q hB hQ=>?_
  have⟨hC,hE,hM,hY⟩:=bE
  repeat' (first
 |simp only[go_sem,hC,hE,hM,hY,e,isName]
 |(with_reducible first|refine aX fun hc=>?_|refine aY fun hc=>?_|refine aZ (fun hc=>?_) fun hc=>?_)<;>(try simp only[hc,bs,↓reduceIte]at h)<;>try simp only[hc]
 |(with_reducible refine aB hQ ?_;simp only[aR,aS,bo,bp,go_sem,hC,hE,hM,hY,e,isName];try exact bS))
 |cons c r=>
  have e:((c::r) == [])=false:=rfl
  generalize h:isName (c::r)=p
  simp only[isName]at h
  refine az.go Aw rfl fun B Q hB hQ=>?_
  have⟨hC,hE,hM,hY⟩:=bE
  repeat' (first
 |simp only[go_sem,hC,hE,hM,hY,e]
 |(with_reducible refine CU (KY _ _) ?_)
 |(with_reducible first|refine aX fun hc=>?_|refine aY fun hc=>?_|refine aZ (fun hc=>?_) fun hc=>?_)<;>(try simp only[hc,bs,↓reduceIte]at h)<;>try simp only[hc]
 | (with_reducible refine aB hQ ?_;(try cases h);simp only [aR,aS,bo,bp,go_sem,hC,hE,hM,hY,e];try exact bS))
  refine dS 0 0 (bg.ind (ι:=aF×Nat) (fun i=>(c::r).drop i.2=i.1∧(if u2 i.1 then !(isWord (c::r))else false)=p) (fun i=>i.1.length)
   (fun i=> [(0, .str (c::r)),(3, .int .i64 (i.2:Int))]) (fun i=>⟨[],[]⟩) ?_ (r,1) ⟨rfl,h⟩)
  rintro⟨rest,k⟩ ⟨h1,h⟩ IH
  dsimp only at h1 h
  cases rest with
  |nil=>
   have hC:=drop_nil h1
   simp only[List.length_cons]at hC
   simp only[u2,↓reduceIte]at h
   repeat' (first
 |simp only[go_sem,hC,hE,hM,hY]
 |(with_reducible refine CU (aaS _ _) ?_)
 |(with_reducible first|refine aX fun hc=>?_|refine aY fun hc=>?_|refine aZ (fun hc=>?_) fun hc=>?_)<;>(try simp only[hc,bs,↓reduceIte]at h)<;>try simp only[hc]
 | (with_reducible refine aB hQ ?_;exact eA))
  |cons d rest=>
   obtain⟨hE,g2,hC,g4⟩:=drop_cons h1
   simp only[List.length_cons]at hC
   have hM:k<4611686018427387904:=by omega
   simp only[u2]at h
   repeat' (first
 |simp only[go_sem,hC,hE,hM,hY]
 |(with_reducible refine CU (KY _ _) ?_)
 |(with_reducible refine CU (WG _ _) ?_)
 |(with_reducible first|refine aX fun hc=>?_|refine aY fun hc=>?_|refine aZ (fun hc=>?_) fun hc=>?_)<;>(try simp only[hc,bs,↓reduceIte]at h)<;>try simp only[hc]
 |(with_reducible refine aB hQ ?_;(try cases h);simp only[aR,aS,bo,bp,go_sem,hC,hE,hM,hY];repeat' (first|exact Ok.out|with_reducible refine eP ?_ ?_|(simp;done)))
 | (cases h;done))
   all_goals
    refine dS 0 0 (IH (rest,k+1) ⟨g2,h⟩ (Nat.lt_succ_self _))
theorem aaX (op:Int) (s:St):az Tryz.prog vC [.int .i64 op] s (.int .i64 (lK op)) s:=by
 refine az.pure ?_ rfl rfl s
 unfold S0
 generalize h:lK op=p
 unfold lK at h
 refine az.go GN rfl fun B Q hB hQ=>?_
 have⟨hC,hE,hM,hY⟩:=bE
 repeat' (first
 |simp only[go_sem,hC,hE,hM,hY]
 |(with_reducible first|refine aX fun hc=>?_|refine aY fun hc=>?_|refine aZ (fun hc=>?_) fun hc=>?_)<;>(try simp only[hc,bs,↓reduceIte]at h)<;>try simp only[hc]
 |(with_reducible refine aB hQ ?_;exact eA))
theorem WK {l:List aF} (hl:l.length<4611686018427387904) (hs : ∀ t∈l,t.length<4611686018427387904) (s:St):az Tryz.prog vI [.slice .shared 1 (l.map encStr)] s (.bool (ey l)) s:=by
 refine az.pure ?_ (by simp[D.bI,D.ok,eF,Tag.ok]) rfl s
 unfold S0
 generalize h:ey l=p
 refine az.go GG rfl fun B Q hB hQ=>?_
 have⟨hC,hE,hM,hY⟩:=bE
 repeat' (first
 |simp only[go_sem,hC,hE,hM,hY]
 |(with_reducible first|refine aX fun hc=>?_|refine aY fun hc=>?_|refine aZ (fun hc=>?_) fun hc=>?_)<;>(try simp only[hc,bs,↓reduceIte]at h)<;>try simp only[hc]
 |(with_reducible refine aB hQ ?_;exact eA))
 refine dS 0 0 (bg.ind (ι:=List aF×Nat) (fun i=>l.drop i.2=i.1∧ey i.1=p) (fun i=>i.1.length)
  (fun i=> [(5, .slice .shared 1 (l.map encStr)),(6, .int .i64 (l.length:Int)),(7, .int .i64 (i.2:Int))]) (fun i=>⟨[],[]⟩) ?_ (l,0) ⟨rfl,h⟩)
 rintro⟨rest,k⟩ ⟨h1,h⟩ IH
 dsimp only at h1 h
 cases rest with
 |nil=>
  have hC:=drop_nil h1
  simp only[ey]at h
  repeat' (first
 |simp only[go_sem,hC,hE,hM,hY]
 |(with_reducible first|refine aX fun hc=>?_|refine aY fun hc=>?_|refine aZ (fun hc=>?_) fun hc=>?_)<;>(try simp only[hc,bs,↓reduceIte]at h)<;>try simp only[hc]
 |(with_reducible refine aB hQ ?_;exact eA))
 |cons t rest=>
  obtain⟨hE,g2,hC,g4⟩:=drop_cons h1
  have hM:k<4611686018427387904:=by omega
  have hn:=yN t (hs t (List.mem_of_getElem? hE))
  simp only[ey]at h
  repeat' (first
 |simp only[go_sem,hC,hE,hM,hY]
 |(with_reducible refine CU (hn _) ?_)
 |(with_reducible first|refine aX fun hc=>?_|refine aY fun hc=>?_|refine aZ (fun hc=>?_) fun hc=>?_)<;>(try simp only[hc,bs,↓reduceIte]at h)<;>try simp only[hc]
 |(with_reducible refine aB hQ ?_;exact eA))
  refine dS 0 0 (IH (rest,k+1) ⟨g2,h⟩ (Nat.lt_succ_self _))
theorem aeu : ∀ (n:Nat) (x:Ex),x.size≤n→x.size<4611686018427387904→x.texts→∀ s:St,az Tryz.prog qo [.agg (bJ x)] s (.bool x.form) s:=by
 intro n
 induction n with
 |zero=>rintro⟨op,m,name,kids⟩ h;simp only[Ex.size]at h;omega
 | succ n ih=>
  rintro⟨op,m,name,kids⟩ h hx ht s
  refine az.pure ?_ (by simp[D.bI,D.ok,gW]) rfl s
  have hlen:kids.length<4611686018427387904:=by simp only[Ex.size]at hx;have:=Ex.eo kids;omega
  have hk : ∀ y∈kids,∀ s,az Tryz.prog qo [.agg (bJ y)] s (.bool y.form) s:=fun y hy s=>
   ih y (by simp only[Ex.size]at h;have:=Ex.dg hy;omega) (by simp only[Ex.size]at hx;have:=Ex.dg hy;omega) (Ex.HC ht hy) s
  have hn:=yN name ht.1
  unfold S0
  generalize h:Ex.form ⟨op,m,name,kids⟩=p
  simp only[Ex.form]at h
  refine az.go IF rfl fun B Q hB hQ=>?_
  have⟨hC,hE,hM,hY⟩:=bE
  repeat' (first
 |simp only[go_sem,hC,hE,hM,hY]
 |(with_reducible refine CU (aaX _ _) ?_)
 |(with_reducible refine CU (hn _) ?_)
 |(with_reducible first|refine aX fun hc=>?_|refine aY fun hc=>?_|refine aZ (fun hc=>?_) fun hc=>?_)<;>(try simp only[hc,bs,↓reduceIte]at h)<;>try simp only[hc]
 | (with_reducible refine aB hQ ?_;(try cases h);simp only [aR,aS,bo,bp,go_sem,hC,hE,hM,hY];repeat' (first | exact Ok.out | with_reducible refine eP ?_ ?_ | (simp;done))))
  all_goals
   refine dS 1 0 (bg.ind (ι:=List Ex×Nat) (fun i=>kids.drop i.2=i.1∧Ex.pL i.1=p) (fun i=>i.1.length)
    (fun i=> [(1, .ptr 0 0),(48, .int .i64 (kids.length:Int)),(49, .int .i64 (i.2:Int))]) (fun i=>⟨[bJ ⟨op,m,name,kids⟩],[]⟩) ?_ (kids,0) ⟨rfl,h⟩)
   rintro⟨rest,k⟩ ⟨h1,h⟩ IH
   dsimp only at h1 h
   cases rest with
   |nil=>
    have hC:=drop_nil h1
    simp only[Ex.pL]at h
    repeat' (first
 |simp only[go_sem,hC,hE,hM,hY]
 |(with_reducible first|refine aX fun hc=>?_|refine aY fun hc=>?_|refine aZ (fun hc=>?_) fun hc=>?_)<;>(try simp only[hc,bs,↓reduceIte]at h)<;>try simp only[hc]
 |(with_reducible refine aB hQ ?_;exact eA)
 | (cases h;done))
   |cons y rest=>
    obtain⟨hE,g2,hC,g4⟩:=drop_cons h1
    have hy:=hk y (List.mem_of_getElem? hE)
    have hM:k<4611686018427387904:=by omega
    simp only[Ex.pL]at h
    repeat' (first
 |simp only[go_sem,hC,hE,hM,hY]
 |(with_reducible refine CU (hy _) ?_)
 |(with_reducible first|refine aX fun hc=>?_|refine aY fun hc=>?_|refine aZ (fun hc=>?_) fun hc=>?_)<;>(try simp only[hc,bs,↓reduceIte]at h)<;>try simp only[hc]
 | (with_reducible refine aB hQ ?_;exact eA))
    refine dS 1 0 (IH (rest,k+1) ⟨g2,h⟩ (Nat.lt_succ_self _))
theorem HE {x:Ex} (hx:x.size<4611686018427387904) (ht:x.texts) (s:St):az Tryz.prog pJ [.agg (bJ x)] s (.bool x.may) s:=by
 refine az.pure ?_ (by simp[D.bI,D.ok,gW]) rfl s
 have hd:=fun s=>aet 20 (by decide) x hx s
 have c20:((20:Nat):Int)=20:=rfl
 rw[c20]at hd
 have hf:=aeu _ x (Nat.le_refl _) hx ht
 unfold S0
 generalize h:Ex.may x=p
 unfold Ex.may at h
 refine az.go D0 rfl fun B Q hB hQ=>?_
 have⟨hC,hE,hM,hY⟩:=bE
 repeat' (first
 |simp only[go_sem,hC,hE,hM,hY]
 |(with_reducible refine CU (hd _) ?_)
 |(with_reducible refine CU (hf _) ?_)
 |(with_reducible first|refine aX fun hc=>?_|refine aY fun hc=>?_|refine aZ (fun hc=>?_) fun hc=>?_)<;>(try simp only[hc,bs,↓reduceIte]at h)<;>try simp only[hc]
 |(with_reducible refine aB hQ ?_;exact eA))
theorem Tv (x:Ex) (s:St):az Tryz.prog sZ [.agg (bJ x)] s (.bool x.none) s:=by
 refine az.pure ?_ (by simp[D.bI,D.ok,gW]) rfl s
 unfold S0
 generalize h:Ex.none x=p
 unfold Ex.none at h
 refine az.go IE rfl fun B Q hB hQ=>?_
 have⟨hC,hE,hM,hY⟩:=bE
 repeat' (first
 |simp only[go_sem,hC,hE,hM,hY]
 |(with_reducible first|refine aX fun hc=>?_|refine aY fun hc=>?_|refine aZ (fun hc=>?_) fun hc=>?_)<;>(try simp only[hc,bs,↓reduceIte]at h)<;>try simp only[hc]
 |(with_reducible refine aB hQ ?_;exact eA))
theorem ahN {a:Ar} (hx:a.x.size<4611686018427387904) (ht:a.x.texts) (hn:a.name.length<4611686018427387904) (s:St):az Tryz.prog zw [.agg (eG a)] s (.bool a.may) s:=by
 refine az.pure ?_ (by simp[D.bI,D.ok,Ks]) rfl s
 have hm:=HE hx ht
 have h1:=yN a.name hn
 unfold S0
 generalize h:Ar.may a=p
 simp only[Ar.may]at h
 refine az.go KS rfl fun B Q hB hQ=>?_
 have⟨hC,hE,hM,hY⟩:=bE
 repeat' (first
 |simp only[go_sem,hC,hE,hM,hY]
 |(with_reducible refine CU (hm _) ?_)
 |(with_reducible refine CU (h1 _) ?_)
 |(with_reducible refine CU (Tv _ _) ?_)
 |(with_reducible first|refine aX fun hc=>?_|refine aY fun hc=>?_|refine aZ (fun hc=>?_) fun hc=>?_)<;>(try simp only[hc,bs,↓reduceIte]at h)<;>try simp only[hc]
 |(with_reducible refine aB hQ ?_;exact eA))
structure Sm.nB (s:Sm):Prop where
 Tw : ∀ t∈s.labels,t.length<4611686018427387904
 aev:s.labels.length<4611686018427387904
 name:s.name.length<4611686018427387904
 proc:s.proc.length<4611686018427387904
 x:s.x.size<4611686018427387904
 xt:s.x.texts
 aew:s.args.length<4611686018427387904
 arg : ∀ a∈s.args,a.x.size<4611686018427387904∧a.x.texts∧a.name.length<4611686018427387904
section
variable {v:Sm} {B:fa} {Q:Exit→Tm→St→Prop} {p:Bool}
theorem ahO (hf:v.nB) (hB:B.s = ⟨[],[]⟩) (hQ:iC 0 0 [(2,none)] (.bool p) ⟨[],[]⟩=Q)
 (h:(if !(Ar.fq v.args)then false else((v.bm.length:Int)==0 ||v.kind==5 ||v.kind==6) && ((v.bd.length:Int)==0 ||v.kind==5))=p) :
 Sem Tryz.prog B 178 aeb Q [(1, .ptr 0 0)] ⟨[bb v],[]⟩:=by
 have az5:=hf.aew
 have WL:=fun a ha s=>ahN (hf.arg a ha).1 (hf.arg a ha).2.1 (hf.arg a ha).2.2 s
 have⟨hC,hE,hM,hY⟩:=bE
 refine gG ?_
 repeat' (first
 |simp only[go_sem,hC,hE,hM,hY]
 |(with_reducible refine aB hQ ?_;exact bj))
 refine dS 1 0 (bg.ind (ι:=List Ar×Nat) (fun i=>v.args.drop i.2=i.1∧(if !(Ar.fq i.1)then false else((v.bm.length:Int)==0 ||v.kind==5 ||v.kind==6) && ((v.bd.length:Int)==0 ||v.kind==5))=p) (fun i=>i.1.length)
  (fun i=> [(1, .ptr 0 0),(143, .slice .shared 6 (v.args.map eG)),(144, .int .i64 (v.args.length:Int)),(145, .int .i64 (i.2:Int))]) (fun i=>⟨[bb v],[]⟩) ?_ (v.args,0) ⟨rfl,h⟩)
 rintro⟨rest,k⟩ ⟨h1,h⟩ IH
 dsimp only at h1 h
 cases rest with
 |nil=>
  have hC:=drop_nil h1
  simp only[Ar.fq,Bool.not_true,Bool.false_eq_true,↓reduceIte]at h
  repeat' (first
 |simp only[go_sem,hC,hE,hM,hY]
 |(with_reducible first|refine aX fun hc=>?_|refine aY fun hc=>?_|refine aZ (fun hc=>?_) fun hc=>?_)<;>(try simp only[hc,bs,↓reduceIte]at h)<;>try simp only[hc]
 | (with_reducible refine aB hQ ?_;(try cases h);simp only [aR,aS,bo,bp,go_sem,hC,hE,hM,hY];repeat' (first | exact Ok.out | with_reducible refine eP ?_ ?_ | (simp;done))))
  all_goals
   simp only[*]
   exact Ok.out
 |cons a rest=>
  obtain⟨hE,g2,hC,g4⟩:=drop_cons h1
  have ha:=WL a (List.mem_of_getElem? hE)
  have hM:k<4611686018427387904:=by omega
  simp only[Ar.fq]at h
  repeat' (first
 |simp only[go_sem,hC,hE,hM,hY]
 |(with_reducible refine CU (ha _) ?_)
 |(with_reducible first|refine aX fun hc=>?_|refine aY fun hc=>?_|refine aZ (fun hc=>?_) fun hc=>?_)<;>(try simp only[hc,bs,↓reduceIte]at h)<;>try simp only[hc]
 |(with_reducible refine aB hQ ?_;exact eA))
  refine dS 1 0 (IH (rest,k+1) ⟨g2,h⟩ (Nat.lt_succ_self _))
theorem ahP {cl:Bool} (hf:v.nB) (hB:B.s = ⟨[],[]⟩) (hQ:iC 0 0 [(2,none)] (.bool p) ⟨[],[]⟩=Q)
 (h:(if !(cl == !(v.proc == [])) || (cl && !(isName v.proc)) || (!cl && decide ((v.args.length:Int) > 0))then false
  else if !(Ar.fq v.args)then false else((v.bm.length:Int)==0 ||v.kind==5 ||v.kind==6) && ((v.bd.length:Int)==0 ||v.kind==5))=p) :
 Sem Tryz.prog B 178 aec Q [(1, .ptr 0 0),(5, .bool cl)] ⟨[bb v],[]⟩:=by
 have QT:=yN v.proc hf.proc
 have⟨hC,hE,hM,hY⟩:=bE
 refine Sem.iS ?_
 repeat' (first
 |simp only[go_sem,hC,hE,hM,hY]
 |(with_reducible refine CU (QT _) ?_)
 |(with_reducible first|refine aX fun hc=>?_|refine aY fun hc=>?_|refine aZ (fun hc=>?_) fun hc=>?_)<;>(try simp only[hc,bs,↓reduceIte]at h)<;>try simp only[hc]
 |(with_reducible refine aB hQ ?_;(try cases h);simp only[aR,aS,bo,bp,go_sem,hC,hE,hM,hY];repeat' (first|exact Ok.out|with_reducible refine eP ?_ ?_|(simp;done))))
 all_goals
  refine Sem.re _ _ 1 0 (by rw[hB];exact mN rfl) (by rw[hB];exact mN rfl) ?_ ?_ (ahO hf hB hQ h)
  ·(simp only[go_sem,hC,hE,hM,hY];repeat' (first|exact Ok.out|with_reducible refine eP ?_ ?_))
  ·(simp only[go_sem,hC,hE,hM,hY];repeat' (first|exact Ok.out|with_reducible refine eP ?_ ?_))
theorem ahQ {hn cl:Bool} (hf:v.nB) (hB:B.s = ⟨[],[]⟩) (hQ:iC 0 0 [(2,none)] (.bool p) ⟨[],[]⟩=Q)
 (h:(if(hn && !(isName v.name)) || (!hn && !(v.name == []) && !(cl && isName v.name))then false
  else if !(cl == !(v.proc == [])) ||(cl && !(isName v.proc)) ||(!cl && decide ((v.args.length:Int) > 0))then false
  else if !(Ar.fq v.args)then false else((v.bm.length:Int)==0 ||v.kind==5 ||v.kind==6) && ((v.bd.length:Int)==0 ||v.kind==5))=p) :
 Sem Tryz.prog B 178 aed Q [(1, .ptr 0 0),(4, .bool hn),(5, .bool cl)] ⟨[bb v],[]⟩:=by
 have Oo:=yN v.name hf.name
 have⟨hC,hE,hM,hY⟩:=bE
 have k:=@ahP v B Q p cl hf hB hQ
 cases cl
 all_goals
  refine Sem.iS ?_
  repeat' (first
 |simp only[go_sem,hC,hE,hM,hY]
 |(with_reducible refine CU (Oo _) ?_)
 |(with_reducible first|refine aX fun hc=>?_|refine aY fun hc=>?_|refine aZ (fun hc=>?_) fun hc=>?_)<;>(try simp only[hc,bs,↓reduceIte]at h)<;>try simp only[hc]
 |(with_reducible refine aB hQ ?_;(try cases h);simp only[aR,aS,bo,bp,go_sem,hC,hE,hM,hY];repeat' (first|exact Ok.out|with_reducible refine eP ?_ ?_|(simp;done))))
 all_goals
  refine Sem.re _ _ 1 0 (by rw[hB];exact mN rfl) (by rw[hB];exact mN rfl) ?_ ?_ (k (by simpa only[bs,↓reduceIte]using h))
  ·(simp only[go_sem,hC,hE,hM,hY];repeat' (first|exact Ok.out|with_reducible refine eP ?_ ?_))
  ·(simp only[go_sem,hC,hE,hM,hY];repeat' (first|exact Ok.out|with_reducible refine eP ?_ ?_))
theorem ahR {hx hn cl:Bool} (hf:v.nB) (hB:B.s = ⟨[],[]⟩) (hQ:iC 0 0 [(2,none)] (.bool p) ⟨[],[]⟩=Q)
 (h:(if decide (v.kind<1) || decide (v.kind > 10) || !(ey v.labels) || (hx && !(v.x.may)) || (!hx && !(v.x.none)) || (v.has && v.kind != 9)then false
  else if(hn && !(isName v.name)) ||(!hn && !(v.name == []) && !(cl && isName v.name))then false
  else if !(cl == !(v.proc == [])) ||(cl && !(isName v.proc)) ||(!cl && decide ((v.args.length:Int) > 0))then false
  else if !(Ar.fq v.args)then false else((v.bm.length:Int)==0 ||v.kind==5 ||v.kind==6) && ((v.bd.length:Int)==0 ||v.kind==5))=p) :
 Sem Tryz.prog B 178 aee Q [(1, .ptr 0 0),(3, .bool hx),(4, .bool hn),(5, .bool cl)] ⟨[bb v],[]⟩:=by
 have hns:=fun s=>WK hf.aev hf.Tw s
 have hm:=HE hf.x hf.xt
 have⟨hC,hE,hM,hY⟩:=bE
 refine Sem.iS ?_
 repeat' (first
 |simp only[go_sem,hC,hE,hM,hY]
 |(with_reducible refine CU (hns _) ?_)
 |(with_reducible refine CU (hm _) ?_)
 |(with_reducible refine CU (Tv _ _) ?_)
 |(with_reducible first|refine aX fun hc=>?_|refine aY fun hc=>?_|refine aZ (fun hc=>?_) fun hc=>?_)<;>(try simp only[hc,bs,↓reduceIte]at h)<;>try simp only[hc]
 |(with_reducible refine aB hQ ?_;(try cases h);simp only[aR,aS,bo,bp,go_sem,hC,hE,hM,hY];repeat' (first|exact Ok.out|with_reducible refine eP ?_ ?_|(simp;done))))
 all_goals
  refine Sem.re _ _ 1 0 (by rw[hB];exact mN rfl) (by rw[hB];exact mN rfl) ?_ ?_ (ahQ hf hB hQ h)
  ·(simp only[go_sem,hC,hE,hM,hY];repeat' (first|exact Ok.out|with_reducible refine eP ?_ ?_))
  ·(simp only[go_sem,hC,hE,hM,hY];repeat' (first|exact Ok.out|with_reducible refine eP ?_ ?_))
theorem ahS {hx hn:Bool} (hf:v.nB) (hB:B.s = ⟨[],[]⟩) (hQ:iC 0 0 [(2,none)] (.bool p) ⟨[],[]⟩=Q) (ex:v.BK=hx) (en:v.hasName=hn) (h:v.one=p) :
 Sem Tryz.prog B 178 aef Q [(1, .ptr 0 0),(3, .bool hx),(4, .bool hn)] ⟨[bb v],[]⟩:=by
 unfold Sm.one at h
 rw[ex,en]at h
 have⟨hC,hE,hM,hY⟩:=bE
 refine Sem.iS ?_
 repeat' (first
 |simp only[go_sem,hC,hE,hM,hY]
 |(with_reducible refine aB hQ ?_;exact bj))
 refine Sem.re _ _ 1 0 (by rw[hB];exact mN rfl) (by rw[hB];exact mN rfl) ?_ ?_ (ahR hf hB hQ h)
 ·(simp only[go_sem,hC,hE,hM,hY,Sm.tG];repeat' (first|exact Ok.out|with_reducible refine eP ?_ ?_))
 ·(simp only[go_sem,hC,hE,hM,hY,Sm.tG];repeat' (first|exact Ok.out|with_reducible refine eP ?_ ?_))
theorem ahT {hx:Bool} (hf:v.nB) (hB:B.s = ⟨[],[]⟩) (hQ:iC 0 0 [(2,none)] (.bool p) ⟨[],[]⟩=Q) (ex:v.BK=hx) (hp:v.one=p) :
 Sem Tryz.prog B 178 aeg Q [(1, .ptr 0 0),(3, .bool hx)] ⟨[bb v],[]⟩:=by
 generalize h:v.hasName=hn
 have hn:=h
 unfold Sm.hasName at h
 have⟨hC,hE,hM,hY⟩:=bE
 refine Sem.iS ?_
 repeat' (first
 |simp only[go_sem,hC,hE,hM,hY]
 |(with_reducible first|refine aX fun hc=>?_|refine aY fun hc=>?_|refine aZ (fun hc=>?_) fun hc=>?_)<;>(try simp only[hc,bs,↓reduceIte]at h)<;>try simp only[hc]
 |(with_reducible refine aB hQ ?_;simp only[aR,aS,bo,bp,go_sem,hC,hE,hM,hY];repeat' (first|exact Ok.out|with_reducible refine eP ?_ ?_|(simp;done))))
 all_goals
  refine Sem.re _ _ 1 0 (by rw[hB];exact mN rfl) (by rw[hB];exact mN rfl) ?_ ?_ (ahS hf hB hQ ex hn hp)
  ·(simp only[go_sem,hC,hE,hM,hY,h];repeat' (first|exact Ok.out|with_reducible refine eP ?_ ?_))
  ·(simp only[go_sem,hC,hE,hM,hY,h];repeat' (first|exact Ok.out|with_reducible refine eP ?_ ?_))
theorem ahU (hf:v.nB) (hB:B.s = ⟨[],[]⟩) (hQ:iC 0 0 [(2,none)] (.bool p) ⟨[],[]⟩=Q) (hp:v.one=p) :
 Sem Tryz.prog B 178 aeh Q [(1, .ptr 0 0)] ⟨[bb v],[]⟩:=by
 generalize h:v.BK=hx
 have ex:=h
 unfold Sm.BK at h
 have⟨hC,hE,hM,hY⟩:=bE
 refine Sem.iS ?_
 repeat' (first
 |simp only[go_sem,hC,hE,hM,hY]
 |(with_reducible first|refine aX fun hc=>?_|refine aY fun hc=>?_|refine aZ (fun hc=>?_) fun hc=>?_)<;>(try simp only[hc,bs,↓reduceIte]at h)<;>try simp only[hc]
 |(with_reducible refine aB hQ ?_;simp only[aR,aS,bo,bp,go_sem,hC,hE,hM,hY];repeat' (first|exact Ok.out|with_reducible refine eP ?_ ?_|(simp;done))))
 all_goals
  refine Sem.re _ _ 1 0 (by rw[hB];exact mN rfl) (by rw[hB];exact mN rfl) ?_ ?_ (ahT hf hB hQ ex hp)
  ·(simp only[go_sem,hC,hE,hM,hY,h];repeat' (first|exact Ok.out|with_reducible refine eP ?_ ?_))
  ·(simp only[go_sem,hC,hE,hM,hY,h];repeat' (first|exact Ok.out|with_reducible refine eP ?_ ?_))
end
theorem az.goS {P:Program} {f:FuncId} {nt:Nat} {res:List (Nat×Option (Bool×Nat))} {body:AC} {args:List D} {s:St} {d:D} {s':St} (h0:Has P f nt res body) (hl:Nat.ble args.length nt=true)
 (h : ∀ (B:fa) (Q:Exit→Tm→St→Prop),B.s=s→iC s.ah.length s.aw.length res d s'=Q→Sem P B nt body Q (mS 0 args) s):az P f args s d s':=by
 obtain⟨fn,hf,hc⟩:=h0
 exact az.intro ⟨fn,hf,hc⟩ (Nat.le_of_ble_eq_true hl) fun B hB=>h B _ hB rfl
theorem Jf {v:Sm} (hf:v.nB) (s:St):az Tryz.prog EL [.agg (bb v)] s (.bool v.one) s:=by
 refine az.pure ?_ (by simp[D.bI,D.ok,nj]) rfl s
 unfold S0
 refine az.goS KR rfl fun B Q hB hQ=>?_
 have⟨hC,hE,hM,hY⟩:=bE
 refine Sem.iS ?_
 repeat' (first
 |simp only[go_sem,hC,hE,hM,hY]
 |(with_reducible refine aB hQ ?_;exact bj))
 refine Sem.re _ _ 1 0 (by rw[hB];exact mN rfl) (by rw[hB];exact mN rfl) ?_ ?_ (ahU hf hB hQ rfl)
 ·(simp only[go_sem,hC,hE,hM,hY];repeat' (first|exact Ok.out|with_reducible refine eP ?_ ?_))
 ·(simp only[go_sem,hC,hE,hM,hY];repeat' (first|exact Ok.out|with_reducible refine eP ?_ ?_))
end Go.Abs
namespace Go.Abs
set_option maxRecDepth 8000
open Go.Proofs
def dN (i:Im):List D:= [.int .i64 i.s.id, .int .i64 i.s.kind, .slice .shared 1 (i.s.labels.map encStr), .str i.s.name, .str i.s.proc,
 .int .i64 i.s.x.op, .int .i64 i.s.x.n, .str i.s.x.name, .slice .shared 4 (i.s.x.kids.map bJ), .bool i.s.has, .slice .shared 6 (i.s.args.map eG), .slice .shared 13 (i.s.bm.map bb), .slice .shared 13 (i.s.bd.map bb), .int .i64 i.proc, .int .i64 i.up, .int .i64 i.next, .int .i64 i.loop]
def cT (n:Int):List D:= [.int .i64 n]
theorem QU (i:Im):D.bI 0 0 (dN i)=true:=by simp[dN,D.bI,D.ok,Tag.ok,eF,YO,IT,oQ]
theorem Jg (l:List Im):D.gY 0 0 (l.map dN)=true:=gZ QU l
theorem Zp (n m:Nat) (l:List Im):D.kP n m (l.map dN)=l.map dN:=lV QU n m l
theorem ahV (n m:Nat) (i:Im):D.gA n m (dN i)=dN i:=il n m _ (QU i)
theorem ahW (x:Im):(dN x).length=17:=nd rfl
theorem aaY (x:Im):List.take 17 (dN x)=dN x:=nd rfl
theorem aex (x:Im):List.drop 17 (dN x) = []:=nd rfl
theorem aey (x:Im):List.take 13 (dN x)=bb x.s:=by simp only[dN,dT];rfl
theorem WM (x:Im):(dN x)[0]? = some (.int .i64 x.s.id):=nd rfl
theorem WN (x:Im):(dN x)[1]? = some (.int .i64 x.s.kind):=nd rfl
theorem WO (x:Im):(dN x)[4]? = some (.str x.s.proc):=nd rfl
theorem Tx (x:Im):(dN x)[13]? = some (.int .i64 x.proc):=nd rfl
theorem Ty (x:Im):(dN x)[14]? = some (.int .i64 x.up):=nd rfl
theorem Tz (x:Im):(dN x)[15]? = some (.int .i64 x.next):=nd rfl
theorem TA (x:Im):(dN x)[16]? = some (.int .i64 x.loop):=nd rfl
theorem QV (s:Sm) (a b c d:Int):dN ⟨s,a,b,c,d⟩ = [.int .i64 s.id, .int .i64 s.kind, .slice .shared 1 (s.labels.map encStr), .str s.name, .str s.proc,
 .int .i64 s.x.op, .int .i64 s.x.n, .str s.x.name, .slice .shared 4 (s.x.kids.map bJ), .bool s.has, .slice .shared 6 (s.args.map eG), .slice .shared 13 (s.bm.map bb), .slice .shared 13 (s.bd.map bb), .int .i64 a, .int .i64 b, .int .i64 c, .int .i64 d]:=nd rfl
theorem Zq (n:Int):D.bI 0 0 (cT n)=true:=rfl
theorem kL (l:List Int):D.gY 0 0 (l.map cT)=true:=gZ Zq l
theorem TB (n m:Nat) (l:List Int):D.kP n m (l.map cT)=l.map cT:=lV Zq n m l
attribute [go_sem] Zp ahV ahW aaY aex aey WM WN WO Tx Ty Tz TA TB cT
theorem aez : ∀ n,n<1000000000→∀ v:Sm,v.size≤n→az Tryz.prog mF [.agg (bb v)] S0 (.int .i64 (v.jE:Int)) S0:=by
 intro n
 induction n with
 |zero=>intro _ v h;obtain⟨_,_,_,_,_,_,_,_,_,_⟩:=v;simp only[Sm.size]at h;omega
 |succ n ih=>
 intro hn v hv
 have ej:Sm.bt v.bm≤n∧Sm.bt v.bd≤n∧v.jE=1+Sm.jf v.bm+Sm.jf v.bd:=by
  obtain⟨_,_,_,_,_,_,_,_,_,_⟩:=v
  simp only[Sm.size]at hv;exact⟨by dsimp only;omega,by dsimp only;omega,rfl⟩
 obtain⟨h1,h2,h3⟩:=ej
 have c1:=nN v.bm
 have c2:=nN v.bd
 have l1:=Sm.eo v.bm
 have l2:=Sm.eo v.bd
 have hk : ∀ y,y∈v.bm∨y∈v.bd→∀ s,az Tryz.prog mF [.agg (bb y)] s (.int .i64 (y.jE:Int)) s:=fun y hy s=>
  (ih (by omega) y (by rcases hy with hy|hy<;>(have:=Sm.dg hy;omega))).pure (by simp only[D.bI,D.ok,nj];rfl) rfl s
 rw[h3]
 unfold S0
 refine az.go Iz rfl fun B Q hB hQ=>?_
 have⟨hC,hE,hM,hY⟩:=bE
 repeat' (first
 |simp only[go_sem,hC,hE,hM,hY]
 |(with_reducible refine aB hQ ?_;exact bj))
 refine dS 1 0 (bg.ind (ι:=List Sm×Nat×Nat) (fun i=>v.bm.drop i.2.1=i.1∧i.2.2+Sm.jf i.1=1+Sm.jf v.bm) (fun i=>i.1.length)
  (fun i=> [(1, .ptr 0 0),(3, .int .i64 (i.2.2:Int)),(9, .slice .shared 13 (v.bm.map bb)),(10, .int .i64 (v.bm.length:Int)),(11, .int .i64 (i.2.1:Int))]) (fun i=>⟨[bb v],[]⟩) ?_ (v.bm,0,1) ⟨rfl,rfl⟩)
 rintro⟨rest,k,c⟩ ⟨g1,g2⟩ IH
 dsimp only at g1 g2
 cases rest with
 |cons y rest=>
  obtain⟨hE,g3,hC,g4⟩:=drop_cons g1
  have hy:=hk y (.inl (List.mem_of_getElem? hE))
  simp only[Sm.jf]at g2
  have hcy:=DU y
  have Hj:=Sm.dg (List.mem_of_getElem? hE)
  have w1:IntKind.wrap .i64 ((k:Int)+1)=((k+1:Nat):Int):=by rw[er]<;>omega
  have w2:IntKind.wrap .i64 ((c:Int)+(y.jE:Int))=((c+y.jE:Nat):Int):=by rw[er]<;>omega
  repeat' (first
 |simp only[go_sem,hC,hE,hM,hY,w1,w2]
 |(with_reducible refine CU (hy _) ?_)
 |(with_reducible refine aB hQ ?_;exact bj))
  refine dS 1 0 (IH (rest,k+1,c+y.jE) ⟨g3,by dsimp only;omega⟩ (Nat.lt_succ_self _))
 |nil=>
  have hC:=drop_nil g1
  simp only[Sm.jf,Nat.add_zero]at g2
  subst g2
  repeat' (first
 |simp only[go_sem,hC,hE,hM,hY]
 | (with_reducible refine aB hQ ?_;exact bj))
  refine dS 1 0 (bg.ind (ι:=List Sm×Nat×Nat) (fun i=>v.bd.drop i.2.1=i.1∧i.2.2+Sm.jf i.1=1+Sm.jf v.bm+Sm.jf v.bd) (fun i=>i.1.length)
   (fun i=> [(1, .ptr 0 0),(3, .int .i64 (i.2.2:Int)),(21, .slice .shared 13 (v.bd.map bb)),(22, .int .i64 (v.bd.length:Int)),(23, .int .i64 (i.2.1:Int))]) (fun i=>⟨[bb v],[]⟩) ?_ (v.bd,0,1+Sm.jf v.bm) ⟨rfl,rfl⟩)
  rintro⟨rest,k,c⟩ ⟨g1,g2⟩ IH
  dsimp only at g1 g2
  cases rest with
  |cons y rest=>
   obtain⟨hE,g3,hC,g4⟩:=drop_cons g1
   have hy:=hk y (.inr (List.mem_of_getElem? hE))
   simp only[Sm.jf]at g2
   have hcy:=DU y
   have Hj:=Sm.dg (List.mem_of_getElem? hE)
   have w1:IntKind.wrap .i64 ((k:Int)+1)=((k+1:Nat):Int):=by rw[er]<;>omega
   have w2:IntKind.wrap .i64 ((c:Int)+(y.jE:Int))=((c+y.jE:Nat):Int):=by rw[er]<;>omega
   repeat' (first
 |simp only[go_sem,hC,hE,hM,hY,w1,w2]
 |(with_reducible refine CU (hy _) ?_)
 | (with_reducible refine aB hQ ?_;exact bj))
   refine dS 1 0 (IH (rest,k+1,c+y.jE) ⟨g3,by dsimp only;omega⟩ (Nat.lt_succ_self _))
  |nil=>
   have hC:=drop_nil g1
   simp only[Sm.jf,Nat.add_zero]at g2
   subst g2
   repeat' (first
 |simp only[go_sem,hC,hE,hM,hY]
 |(with_reducible refine aB hQ ?_;exact bj))
theorem aeA {v:Sm} (h:v.size<1000000000) (s:St):az Tryz.prog mF [.agg (bb v)] s (.int .i64 (v.jE:Int)) s:=
 (aez v.size h v (Nat.le_refl _)).pure (by simp only[D.bI,D.ok,nj];rfl) rfl s
end Go.Abs
namespace Go.Abs
set_option maxRecDepth 8000
open Go.Proofs
abbrev iX (g ps:D) (L:List Im) (lo hi:List Int):List D:= [g,ps, .slice (.tok 0) 17 (L.map dN), .slice (.tok 1) 1 (lo.map cT), .slice (.tok 2) 1 (hi.map cT)]
abbrev WQ (proc up next loop:Int):List D:= [.int .i64 0, .int .i64 0, .slice .full 0 [], .str [], .str [], .int .i64 0, .int .i64 0, .str [], .slice .full 0 [], .bool false, .slice .full 0 [], .slice .full 0 [], .slice .full 0 [], .int .i64 proc, .int .i64 up, .int .i64 next, .int .i64 loop]
theorem az.ahX {P:Program} {f:Nat} {args:List D} {g ps:D} {L L':List Im} {lo hi Ho ig:List Int} {a b c a' b' c':Option Nat}
 (h:az P f (.ptr 0 0::args) ⟨[iX g ps L lo hi],[a,b,c]⟩ (.tuple []) ⟨[iX g ps L' Ho ig],[a',b',c']⟩)
 (ha:D.bI 0 0 args=true) (hg:D.ok 0 0 g=true) (hp:D.ok 0 0 ps=true)
 {s:St} {o:Nat} (ho:s.ah[o]? = some (iX g ps L lo hi)) (ht:s.aw = [a,b,c]):az P f (.ptr o 0::args) s (.tuple []) ⟨s.ah.set o (iX g ps L' Ho ig),[a',b',c']⟩:=by
 have hr : ∀ (L:List Im) (lo hi:List Int),D.eW [o] [0,1,2] (iX g ps L lo hi)=iX g ps L lo hi:=fun L lo hi=>by
  simp[D.eW,D.de,Tag.de,qL _ _ _ hg,qL _ _ _ hp,ik _ _ _ (Jg L),ik _ _ _ (kL lo),ik _ _ _ (kL hi)]
 have hk : ∀ (L:List Im) (lo hi:List Int),D.bI 1 3 (iX g ps L lo hi)=true:=fun L lo hi=>by
  simp[D.bI,D.ok,Tag.ok,Gi (Nat.zero_le 1) (Nat.zero_le 3) _ hg,Gi (Nat.zero_le 1) (Nat.zero_le 3) _ hp,lG (Nat.zero_le 1) (Nat.zero_le 3) _ (Jg L),lG (Nat.zero_le 1) (Nat.zero_le 3) _ (kL lo),lG (Nat.zero_le 1) (Nat.zero_le 3) _ (kL hi)]
 refine bL.frame [o] [0,1,2] h (by simp) (by decide) (by simpa using (List.getElem?_eq_some_iff.1 ho).1) (by rw[ht];simp) rfl (fun i o' ds e1 e2=>?_) rfl (fun i t' e1=>?_)
  (by simp[D.eW,D.de,fb _ _ _ ha])
  (by simp[D.bI,D.ok,gH (Nat.zero_le 1) (Nat.zero_le 3) _ ha]) ?_
 ·cases i with
  |zero=>simp only[List.getElem?_cons_zero,Option.some.injEq]at e1 e2;subst e1;subst e2;exact⟨by rw[hr];exact ho,hk L lo hi⟩
  |succ i=>simp at e1
 ·rw [ht]
  match i,e1 with
  | 0,e1=>simp at e1;subst e1;rfl
  | 1,e1=>simp at e1;subst e1;rfl
  | 2,e1=>simp at e1;subst e1;rfl
  |i+3,e1=>simp at e1
 ·rintro _ _ ⟨rfl,rfl⟩
  refine⟨by simp[D.back,D.de,D.eW], ?_⟩
  have:=hr L' Ho ig
  simp[St.back,kG,ko,this,ht]
abbrev Zr (N:Nat):Prop:=∀ (l:List Sm) (proc up next loop:Int) (out:List Im) (g ps:D) (lo hi:List Int) (b c:Option Nat),Sm.bt l<N→out.length+Sm.jf l<1000000000→D.ok 0 0 g=true→D.ok 0 0 ps=true→
 ∀ {s:St} {o:Nat},s.ah[o]? = some (iX g ps out lo hi)→s.aw = [some out.length,b,c]→
 az Tryz.prog kq [.ptr o 0, .slice .shared 13 (l.map bb), .agg (WQ proc up next loop)] s (.tuple []) ⟨s.ah.set o (iX g ps (Im.rows proc up next loop out l) lo hi),[some (Im.rows proc up next loop out l).length,b,c]⟩
theorem ahY {N:Nat} (ih:Zr N) {l:List Sm} {proc up next loop:Int} {out:List Im} {g ps:D} {lo hi:List Int} {b c:Option Nat} (hs:Sm.bt l<N+1) (hc:out.length+Sm.jf l<1000000000) (hg:D.ok 0 0 g=true) (hp:D.ok 0 0 ps=true) (hN:N<1000000000) :
 az Tryz.prog kq [.ptr 0 0, .slice .shared 13 (l.map bb), .agg (WQ proc up next loop)] ⟨[iX g ps out lo hi],[some out.length,b,c]⟩ (.tuple []) ⟨[iX g ps (Im.rows proc up next loop out l) lo hi],[some (Im.rows proc up next loop out l).length,b,c]⟩:=by
 obtain⟨R,hR⟩ : ∃ R,R=Im.rows proc up next loop out l:=⟨_,rfl⟩
 have hlR:R.length=out.length+Sm.jf l:=by rw[hR,gJ]
 rw[← hR]
 have k1 : ∀ n m,D.fg n m g=g:=fun n m=>Qk n m _ hg
 have k2 : ∀ n m,D.fg n m ps=ps:=fun n m=>Qk n m _ hp
 refine az.go BJ rfl fun B Q hB hQ=>?_
 have⟨hC,hE,hM,hY⟩:=bE
 repeat' (first
 |simp only[go_sem,hC,hE,hM,hY,k1,k2]
 |(with_reducible first|refine aX fun hc=>?_|refine aY fun hc=>?_|refine aZ (fun hc=>?_) fun hc=>?_)<;>(try simp only[hc,bs,↓reduceIte]at h)<;>try simp only[hc]
 |(with_reducible refine aB hQ ?_;simp only[aR,aS,bo,bp,go_sem,hC,hE,hM,hY,k1,k2];try exact bS))
 refine eV 2 3 ?_ ?_ (bg.ind (ι:=List Sm×Nat×List Im) (fun i=>l.drop i.2.1=i.1∧Im.rows proc up next loop i.2.2 i.1=R∧i.2.2.length+Sm.jf i.1=out.length+Sm.jf l) (fun i=>i.1.length)
  (fun i=> [(0, .ptr 0 0),(1, .slice .shared 13 (l.map bb)),(5, .ptr 1 0),(11, .slice .shared 13 (l.map bb)),(12, .int .i64 (l.length:Int)),(13, .int .i64 (i.2.1:Int))]) (fun i=>⟨[iX g ps i.2.2 lo hi,WQ proc up next loop],[some i.2.2.length,b,c]⟩) ?_ (l,0,out) ⟨rfl,hR.symm,rfl⟩)
 ·(simp only[go_sem,hC,hE,hM,hY,k1,k2];try exact cu)
 ·(simp only[go_sem,hC,hE,hM,hY,k1,k2];try exact cu)
 rintro⟨rest,k,cR⟩ ⟨h1,h2,h3⟩ IH
 dsimp only at h1 h2 h3
 have hlen:l.length<1000000000:=by have:=Sm.eo l;omega
 cases rest with
 |nil=>
  have hC:=drop_nil h1
  simp only[Im.rows]at h2
  subst h2
  repeat' (first
 |simp only[go_sem,hC,hE,hM,hY,k1,k2]
 |(with_reducible first|refine aX fun hc=>?_|refine aY fun hc=>?_|refine aZ (fun hc=>?_) fun hc=>?_)<;>(try simp only[hc,bs,↓reduceIte]at h)<;>try simp only[hc]
 |(with_reducible refine aB hQ ?_;simp only[aR,aS,bo,bp,go_sem,hC,hE,hM,hY,k1,k2];try exact bS))
 | cons v rest=>
  obtain⟨hE,g2,hC,g4⟩:=drop_cons h1
  have cp:k<4611686018427387904:=by omega
  have hv:=Sm.dg (List.mem_of_getElem? hE)
  have tv:Sm.bt v.bm<N∧Sm.bt v.bd<N∧v.jE=1+Sm.jf v.bm+Sm.jf v.bd:=by
   obtain⟨_,_,_,_,_,_,_,_,_,_⟩:=v
   simp only[Sm.size]at hv
   exact⟨by dsimp only;omega,by dsimp only;omega,rfl⟩
  obtain⟨EB,JV,hv3⟩:=tv
  simp only[Sm.jf]at h3
  simp only[Im.rows,Im.adG]at h2
  have hM:(cR.length+1)*241≤bA:=by unfold bA;omega
  have Nl:IntKind.wrap .i64 ((cR.length:Int)+1)=(cR.length:Int)+1:=er (by omega) (by omega)
  have tJ:IntKind.wrap .i64 ((k:Int)+1)=((k+1:Nat):Int):=by rw[er]<;>omega
  have Zs:IntKind.wrap .i64 ((cR.length:Int)+1+(v.jE:Int))=(cR.length:Int)+1+(v.jE:Int):=er (by omega) (by omega)
  have ej:=fun s=>aeA (v:=v) (by omega) s
  simp only[dT]at ej
  have Bc:rest.length=l.length - (k+1):=by rw[← g2,List.length_drop]
  by_cases az6:k+1<l.length
  ·have d1:decide (((k+1:Nat):Int)<(l.length:Int))=true:=by simp;omega
   have e1:(rest.length=0)=False:=by simp;intro h;rw[h]at Bc;simp at Bc;omega
   by_cases TC:v.kind=6
   ·have d2:(v.kind==6)=true:=by simp [TC]
    simp only[e1,d2,↓reduceIte,Bool.false_eq_true]at h2
    have f1:=fun {s:St} {o:Nat}=>@ih v.bm proc ((cR.length:Int)+1) ((cR.length:Int)+1) ((cR.length:Int)+1) (cR++ [⟨v,proc,up,((cR.length:Int)+1+(v.jE:Int)),loop⟩]) g ps lo hi b c EB (by simp;omega) hg hp s o
    have f2:=fun {s:St} {o:Nat}=>@ih v.bd proc ((cR.length:Int)+1) ((cR.length:Int)+1) ((cR.length:Int)+1) _ g ps lo hi b c JV (by rw[gJ proc ((cR.length:Int)+1) ((cR.length:Int)+1) ((cR.length:Int)+1) (cR++ [⟨v,proc,up,((cR.length:Int)+1+(v.jE:Int)),loop⟩]) v.bm];simp;omega) hg hp s o
    have hl:(Im.rows proc ((cR.length:Int)+1) ((cR.length:Int)+1) ((cR.length:Int)+1) (Im.rows proc ((cR.length:Int)+1) ((cR.length:Int)+1) ((cR.length:Int)+1) (cR++ [⟨v,proc,up,((cR.length:Int)+1+(v.jE:Int)),loop⟩]) v.bm) v.bd).length=cR.length+v.jE:=by rw[gJ,gJ];simp;omega
    simp only[iX,List.map_append,List.map_cons,List.map_nil,QV,List.length_append,List.length_cons,List.length_nil]at f1
    repeat' (first
 |simp only[go_sem,hC,hE,hM,hY,k1,k2,Nl,tJ,Zs,d1,d2,dT]
 |(with_reducible refine CU (ej _) ?_)
 |(with_reducible refine CU (f1 (by with_unfolding_all rfl) (by with_unfolding_all rfl)) ?_)
 |(with_reducible refine CU (f2 (by with_unfolding_all rfl) (by with_unfolding_all rfl)) ?_)
 | (with_reducible refine aB hQ ?_;exact bj))
    refine eV 2 3 ?_ ?_ (IH (rest,k+1,_) ⟨g2,h2,by dsimp only;rw[hl];omega⟩ (Nat.lt_succ_self _))
    ·(simp only[go_sem,hC,hE,hM,hY,tJ,k1,k2];try exact cu)
    ·(simp only[go_sem,hC,hE,hM,hY,tJ,k1,k2];try exact cu)
   ·have d2:(v.kind==6)=false:=by simp [TC]
    simp only[e1,d2,↓reduceIte,Bool.false_eq_true]at h2
    have f1:=fun {s:St} {o:Nat}=>@ih v.bm proc ((cR.length:Int)+1) ((cR.length:Int)+1+(v.jE:Int)) loop (cR++ [⟨v,proc,up,((cR.length:Int)+1+(v.jE:Int)),loop⟩]) g ps lo hi b c EB (by simp;omega) hg hp s o
    have f2:=fun {s:St} {o:Nat}=>@ih v.bd proc ((cR.length:Int)+1) ((cR.length:Int)+1+(v.jE:Int)) loop _ g ps lo hi b c JV (by rw[gJ proc ((cR.length:Int)+1) ((cR.length:Int)+1+(v.jE:Int)) loop (cR++ [⟨v,proc,up,((cR.length:Int)+1+(v.jE:Int)),loop⟩]) v.bm];simp;omega) hg hp s o
    have hl:(Im.rows proc ((cR.length:Int)+1) ((cR.length:Int)+1+(v.jE:Int)) loop (Im.rows proc ((cR.length:Int)+1) ((cR.length:Int)+1+(v.jE:Int)) loop (cR++ [⟨v,proc,up,((cR.length:Int)+1+(v.jE:Int)),loop⟩]) v.bm) v.bd).length=cR.length+v.jE:=by rw[gJ,gJ];simp;omega
    simp only[iX,List.map_append,List.map_cons,List.map_nil,QV,List.length_append,List.length_cons,List.length_nil]at f1
    repeat' (first
 |simp only[go_sem,hC,hE,hM,hY,k1,k2,Nl,tJ,Zs,d1,d2,dT]
 |(with_reducible refine CU (ej _) ?_)
 |(with_reducible refine CU (f1 (by with_unfolding_all rfl) (by with_unfolding_all rfl)) ?_)
 |(with_reducible refine CU (f2 (by with_unfolding_all rfl) (by with_unfolding_all rfl)) ?_)
 | (with_reducible refine aB hQ ?_;exact bj))
    refine eV 2 3 ?_ ?_ (IH (rest,k+1,_) ⟨g2,h2,by dsimp only;rw[hl];omega⟩ (Nat.lt_succ_self _))
    ·(simp only[go_sem,hC,hE,hM,hY,tJ,k1,k2];try exact cu)
    ·(simp only[go_sem,hC,hE,hM,hY,tJ,k1,k2];try exact cu)
  ·have d1:decide (((k+1:Nat):Int)<(l.length:Int))=false:=by simp;omega
   have e1:(rest.length=0)=True:=by simp only[eq_iff_iff,iff_true];omega
   by_cases TC:v.kind=6
   ·have d2:(v.kind==6)=true:=by simp [TC]
    simp only[e1,d2,↓reduceIte,Bool.false_eq_true]at h2
    have f1:=fun {s:St} {o:Nat}=>@ih v.bm proc ((cR.length:Int)+1) ((cR.length:Int)+1) ((cR.length:Int)+1) (cR++ [⟨v,proc,up,next,loop⟩]) g ps lo hi b c EB (by simp;omega) hg hp s o
    have f2:=fun {s:St} {o:Nat}=>@ih v.bd proc ((cR.length:Int)+1) ((cR.length:Int)+1) ((cR.length:Int)+1) _ g ps lo hi b c JV (by rw[gJ proc ((cR.length:Int)+1) ((cR.length:Int)+1) ((cR.length:Int)+1) (cR++ [⟨v,proc,up,next,loop⟩]) v.bm];simp;omega) hg hp s o
    have hl:(Im.rows proc ((cR.length:Int)+1) ((cR.length:Int)+1) ((cR.length:Int)+1) (Im.rows proc ((cR.length:Int)+1) ((cR.length:Int)+1) ((cR.length:Int)+1) (cR++ [⟨v,proc,up,next,loop⟩]) v.bm) v.bd).length=cR.length+v.jE:=by rw[gJ,gJ];simp;omega
    simp only[iX,List.map_append,List.map_cons,List.map_nil,QV,List.length_append,List.length_cons,List.length_nil]at f1
    repeat' (first
 |simp only[go_sem,hC,hE,hM,hY,k1,k2,Nl,tJ,Zs,d1,d2,dT]
 |(with_reducible refine CU (ej _) ?_)
 |(with_reducible refine CU (f1 (by with_unfolding_all rfl) (by with_unfolding_all rfl)) ?_)
 |(with_reducible refine CU (f2 (by with_unfolding_all rfl) (by with_unfolding_all rfl)) ?_)
 | (with_reducible refine aB hQ ?_;exact bj))
    refine eV 2 3 ?_ ?_ (IH (rest,k+1,_) ⟨g2,h2,by dsimp only;rw[hl];omega⟩ (Nat.lt_succ_self _))
    ·(simp only[go_sem,hC,hE,hM,hY,tJ,k1,k2];try exact cu)
    ·(simp only[go_sem,hC,hE,hM,hY,tJ,k1,k2];try exact cu)
   ·have d2:(v.kind==6)=false:=by simp [TC]
    simp only[e1,d2,↓reduceIte,Bool.false_eq_true]at h2
    have f1:=fun {s:St} {o:Nat}=>@ih v.bm proc ((cR.length:Int)+1) next loop (cR++ [⟨v,proc,up,next,loop⟩]) g ps lo hi b c EB (by simp;omega) hg hp s o
    have f2:=fun {s:St} {o:Nat}=>@ih v.bd proc ((cR.length:Int)+1) next loop _ g ps lo hi b c JV (by rw[gJ proc ((cR.length:Int)+1) next loop (cR++ [⟨v,proc,up,next,loop⟩]) v.bm];simp;omega) hg hp s o
    have hl:(Im.rows proc ((cR.length:Int)+1) next loop (Im.rows proc ((cR.length:Int)+1) next loop (cR++ [⟨v,proc,up,next,loop⟩]) v.bm) v.bd).length=cR.length+v.jE:=by rw[gJ,gJ];simp;omega
    simp only[iX,List.map_append,List.map_cons,List.map_nil,QV,List.length_append,List.length_cons,List.length_nil]at f1
    repeat' (first
 |simp only[go_sem,hC,hE,hM,hY,k1,k2,Nl,tJ,Zs,d1,d2,dT]
 |(with_reducible refine CU (ej _) ?_)
 |(with_reducible refine CU (f1 (by with_unfolding_all rfl) (by with_unfolding_all rfl)) ?_)
 |(with_reducible refine CU (f2 (by with_unfolding_all rfl) (by with_unfolding_all rfl)) ?_)
 | (with_reducible refine aB hQ ?_;exact bj))
    refine eV 2 3 ?_ ?_ (IH (rest,k+1,_) ⟨g2,h2,by dsimp only;rw[hl];omega⟩ (Nat.lt_succ_self _))
    ·(simp only[go_sem,hC,hE,hM,hY,tJ,k1,k2];try exact cu)
    ·(simp only[go_sem,hC,hE,hM,hY,tJ,k1,k2];try exact cu)
theorem aaZ : ∀ N,N<1000000000→Zr N:=by
 intro N
 induction N with
 |zero=>exact fun _ l proc up next loop out g ps lo hi b c h=>absurd h (Nat.not_lt_zero _)
 |succ N ih=>
  intro h l proc up next loop out g ps lo hi b c hs hc hg hp s o ho ht
  exact(ahY (ih (by omega)) hs hc hg hp (by omega)).ahX (by simp[D.bI,D.ok,Tag.ok,oQ,D.gY]) hg hp ho ht
def fA (p:Pg):List D:= [.slice .shared 1 (p.globals.map encStr), .slice .shared 5 (p.procs.map cJ), .slice .shared 17 (p.bh.L.map dN), .slice .shared 1 (p.bh.lo.map cT), .slice .shared 1 (p.bh.hi.map cT)]
theorem oc (p:Pg):fA p = [.slice .shared 1 (p.globals.map encStr), .slice .shared 5 (p.procs.map cJ), .slice .shared 17 (p.bh.L.map dN), .slice .shared 1 (p.bh.lo.map cT), .slice .shared 1 (p.bh.hi.map cT)]:=nd rfl
theorem uw (p:Pg):D.bI 0 0 (fA p)=true:=by simp[fA,D.bI,D.ok,Tag.ok,eF,wL,Jg,kL]
theorem Fk (p:Pg):cO p = [.slice .shared 1 (p.globals.map encStr), .slice .shared 5 (p.procs.map cJ)]:=nd rfl
theorem ah0 {p:Pg} (hs:Pc.bt p.procs<1000000000):az Tryz.prog k7 [.agg (cO p)] S0 (.ptr 1 0) ⟨[cO p,iX (.slice .shared 1 (p.globals.map encStr)) (.slice .shared 5 (p.procs.map cJ)) p.bh.L p.bh.lo p.bh.hi],[some p.bh.L.length,some p.bh.lo.length,some p.bh.hi.length]⟩:=by
 have hlen:p.procs.length<1000000000:=by have:=Pc.eo p.procs;omega
 obtain⟨R,hR⟩ : ∃ R,R=p.bh:=⟨_,rfl⟩
 have hR':=hR
 unfold Pg.bh at hR'
 unfold S0
 rw[Fk, ← hR]
 refine az.goK 2 3 (Nat.zero_le _) (Nat.zero_le _) KI rfl fun B Q hB hQ=>?_
 have⟨hC,hE,hM,hY⟩:=bE
 repeat' (first
 |simp only[go_sem,hC,hE,hM,hY,Fk]
 |(with_reducible refine aB hQ ?_;exact bj))
 refine bg.qM 1 2 17 rfl rfl ?_
 simp only[go_sem,hC,hE,hM,hY]
 refine bg.qM 1 3 1 rfl rfl ?_
 simp only[go_sem,hC,hE,hM,hY]
 refine bg.qM 1 4 1 rfl rfl ?_
 simp only[go_sem,hC,hE,hM,hY]
 refine eV 2 3 ?_ ?_ (bg.ind (ι:=List Pc×Nat×Sh×Nat×Nat) (fun i=>p.procs.drop i.2.1=i.1∧Sh.go i.2.1 i.2.2.1 i.1=R∧i.2.2.1.L.length+Pc.bt i.1≤Pc.bt p.procs∧i.2.2.1.lo.length=i.2.1∧i.2.2.1.hi.length=i.2.1∧i.2.2.2.1=i.2.2.1.lo.length∧i.2.2.2.2=i.2.2.1.hi.length) (fun i=>i.1.length)
  (fun i=> [(1, .ptr 0 0),(3, .ptr 1 0),(10, .slice .shared 5 (p.procs.map cJ)),(11, .int .i64 (p.procs.length:Int)),(12, .int .i64 (i.2.1:Int))]) (fun i=>⟨[[.slice .shared 1 (p.globals.map encStr), .slice .shared 5 (p.procs.map cJ)],iX (.slice .shared 1 (p.globals.map encStr)) (.slice .shared 5 (p.procs.map cJ)) i.2.2.1.L i.2.2.1.lo i.2.2.1.hi],[some i.2.2.1.L.length,some i.2.2.2.1,some i.2.2.2.2]⟩) ?_ (p.procs,0,⟨[],[],[]⟩,0,0) ⟨rfl,hR'.symm,by simp,rfl,rfl,rfl,rfl⟩)
 ·(simp only[go_sem,hC,hE,hM,hY,iX];try exact cu)
 ·(simp only[go_sem,hC,hE,hM,hY,iX];try exact cu)
 rintro⟨rest,k,h,n1,n2⟩ ⟨h1,h2,h3,h4,h5,h6,h7⟩ IH
 dsimp only at h1 h2 h3 h4 h5 h6 h7
 subst h6 h7
 cases rest with
 |nil=>
  have hC:=drop_nil h1
  simp only[Sh.go]at h2
  rw[← h2]at hQ
  repeat' (first
 |simp only[go_sem,hC,hE,hM,hY,iX]
 |(with_reducible refine aB hQ ?_;exact bj))
 |cons f rest=>
  obtain⟨hE,g2,hC,g4⟩:=drop_cons h1
  have cp:k<4611686018427387904:=by omega
  simp only[Pc.bt,Pc.size]at h3
  simp only[Sh.go]at h2
  have c1:=nN f.body
  have hM:(h.lo.length+1)*9≤bA:=by unfold bA;omega
  have asJ:(h.hi.length+1)*9≤bA:=by unfold bA;omega
  have Nl:IntKind.wrap .i64 ((h.L.length:Int)+1)=(h.L.length:Int)+1:=er (by omega) (by omega)
  have hl:(Im.rows (k:Int) 0 (-1) 0 h.L f.body).length=h.L.length+Sm.jf f.body:=gJ ..
  have tJ:IntKind.wrap .i64 (((Im.rows (k:Int) 0 (-1) 0 h.L f.body).length:Int)+1)=((Im.rows (k:Int) 0 (-1) 0 h.L f.body).length:Int)+1:=er (by omega) (by omega)
  have hr:=fun {s:St} {o:Nat}=>@aaZ (Sm.bt f.body+1) (by omega) f.body (k:Int) 0 (-1) 0 h.L (.slice .shared 1 (p.globals.map encStr)) (.slice .shared 5 (p.procs.map cJ)) (h.lo++ [(h.L.length:Int)+1]) h.hi (some (h.lo.length+1)) (some h.hi.length) (Nat.lt_succ_self _) (by omega) (by simp[D.ok,Tag.ok,eF]) (by simp[D.ok,Tag.ok,wL]) s o
  simp only[iX,List.map_append,List.map_cons,List.map_nil,cT]at hr
  repeat' (first
 |simp only[go_sem,hC,hE,hM,hY,Nl,tJ,asJ,iX]
 |(with_reducible refine CU (hr (by with_unfolding_all rfl) (by with_unfolding_all rfl)) ?_)
 |(with_reducible refine aB hQ ?_;exact bj))
  refine eV 2 3 ?_ ?_ (IH (rest,k+1,⟨Im.rows (k:Int) 0 (-1) 0 h.L f.body,h.lo++ [(h.L.length:Int)+1],h.hi++ [((Im.rows (k:Int) 0 (-1) 0 h.L f.body).length:Int)+1]⟩,_,_) ⟨g2,h2,by dsimp only;rw[hl];omega,by simp[h4],by simp[h5],by simp,by simp⟩ (Nat.lt_succ_self _))
  ·(simp only[go_sem,hC,hE,hM,hY,iX,aL cp,List.map_append,List.map_cons,List.map_nil,cT];try exact cu)
  ·(simp only[go_sem,hC,hE,hM,hY,iX,aL cp,List.map_append,List.map_cons,List.map_nil,cT];try exact cu)
theorem Cz {p:Pg} (hs:Pc.bt p.procs<1000000000) (s:St):az Tryz.prog k7 [.agg (cO p)] s (.dO (fA p) 0) s:=by
 refine az.pure ?_ (by simp only[D.bI,D.ok,j8];rfl) (by simp only[D.ok,uw]) s
 have h:=(ah0 hs).AW (n:=0) (m:=0) rfl (Nat.le_refl _) (Nat.zero_le _) (Nat.le_refl _)
 simpa[D.gA,D.fg,Tag.fg,Ti,YP,Zp,TB,St.cut,fA,S0]using h
def jk (x:aF) (k:Int):List aF→Int
 | []=> -1
 |s::l=>if x==s then k else jk x (k+1) l
def fw (l:List aF) (x:aF):Bool:=decide (jk x 0 l≥0)
def lb {α:Type} (b:α→Bool) (k:Int):List α→Int
 | []=> -1
 |s::l=>if b s then k else lb b (k+1) l
theorem Nn (x:aF) : ∀ (l:List aF) (k:Int),0≤k→(jk x k l≥0↔x∈l)
 | [],k,h=>by simp[jk]
 | s::l,k,h=>by
  by_cases e:x=s
  ·simp[jk,e];omega
  ·have e':(x==s)=false:=by simp [e]
   simp only[jk,e',Bool.false_eq_true,if_false,List.mem_cons,e,false_or]
   exact Nn x l (k+1) (by omega)
theorem jl (l:List aF) (x:aF):fw l x=true↔x∈l:=by
 simp only[fw,decide_eq_true_eq];exact Nn x l 0 (Int.le_refl 0)
theorem GR {α:Type} (b:α→Bool) : ∀ (l:List α) (k:Int),0≤k→(lb b k l≥0↔l.any b=true)
 | [],k,h=>by simp[lb]
 | s::l,k,h=>by
  by_cases e:b s=true
  ·simp[lb,e];omega
  ·have e':b s=false:=by simpa using e
   simp only[lb,e',Bool.false_eq_true,if_false,List.any_cons,Bool.or_eq_true,false_or]
   exact GR b l (k+1) (by omega)
theorem CA {l:List aF} (hl:l.length<4611686018427387904) (x:aF) (s:St):az Tryz.prog gb [.slice .shared 1 (l.map encStr), .str x] s (.int .i64 (jk x 0 l)) s:=by
 refine az.pure ?_ (by simp[D.bI,D.ok,Tag.ok,eF]) rfl s
 generalize h:jk x 0 l=p
 unfold S0
 refine az.go wq rfl fun B Q hB hQ=>?_
 have⟨hC,hE,hM,hY⟩:=bE
 repeat' (first
 |simp only[go_sem,hC,hE,hM,hY]
 |(with_reducible first|refine aX fun hc=>?_|refine aY fun hc=>?_|refine aZ (fun hc=>?_) fun hc=>?_)<;>(try simp only[hc,bs,↓reduceIte]at h)<;>try simp only[hc]
 |(with_reducible refine aB hQ ?_;exact eA))
 refine dS 0 0 (bg.ind (ι:=List aF×Nat) (fun i=>l.drop i.2=i.1∧jk x (i.2:Int) i.1=p) (fun i=>i.1.length)
  (fun i=> [(0, .slice .shared 1 (l.map encStr)),(1, .str x),(7, .int .i64 (l.length:Int)),(8, .int .i64 (i.2:Int))]) (fun i=>⟨[],[]⟩) ?_ (l,0) ⟨rfl,h⟩)
 rintro⟨rest,k⟩ ⟨h1,h⟩ IH
 dsimp only at h1 h
 cases rest with
 |nil=>
  have hC:=drop_nil h1
  simp only[jk]at h
  repeat' (first
 |simp only[go_sem,hC,hE,hM,hY]
 |(with_reducible first|refine aX fun hc=>?_|refine aY fun hc=>?_|refine aZ (fun hc=>?_) fun hc=>?_)<;>(try simp only[hc,bs,↓reduceIte]at h)<;>try simp only[hc]
 |(with_reducible refine aB hQ ?_;exact eA))
 |cons a rest=>
  obtain⟨hE,g2,hC,g4⟩:=drop_cons h1
  have cp:k<4611686018427387904:=by omega
  simp only[jk]at h
  repeat' (first
 |simp only[go_sem,hC,hE,hM,hY]
 |(with_reducible first|refine aX fun hc=>?_|refine aY fun hc=>?_|refine aZ (fun hc=>?_) fun hc=>?_)<;>(try simp only[hc,bs,↓reduceIte]at h)<;>try simp only[hc]
 |(with_reducible refine aB hQ ?_;exact eA))
  refine eV 0 0 ?_ ?_ (IH (rest,k+1) ⟨g2,h⟩ (Nat.lt_succ_self _))
  ·(simp only[go_sem,hC,hE,hM,hY,aL cp];try exact cu)
  ·(simp only[go_sem,hC,hE,hM,hY,aL cp];try exact cu)
theorem rY {l:List aF} (hl:l.length<4611686018427387904) (x:aF) (s:St):az Tryz.prog cD [.slice .shared 1 (l.map encStr), .str x] s (.bool (fw l x)) s:=by
 refine az.pure ?_ (by simp[D.bI,D.ok,Tag.ok,eF]) rfl s
 have hi:=fun s=>CA hl x s
 unfold S0
 refine az.go uv rfl fun B Q hB hQ=>?_
 have⟨hC,hE,hM,hY⟩:=bE
 repeat' (first
 |simp only[go_sem,hC,hE,hM,hY,fw]
 |(with_reducible refine CU (hi _) ?_)
 |(with_reducible first|refine aX fun hc=>?_|refine aY fun hc=>?_|refine aZ (fun hc=>?_) fun hc=>?_)<;>(try simp only[hc,bs,↓reduceIte]at h)<;>try simp only[hc]
 |(with_reducible refine aB hQ ?_;simp only[aR,aS,bo,bp,go_sem,hC,hE,hM,hY,fw];try exact bS))
theorem az.Zt {P:Program} {f:Nat} {d d':D} {r:List D} {s s':St} {x:D} (h:az P f (d'::r) s x s') (hw:Wk d d'):az P f (d::r) s x s':=bL.mA (.cons hw (jz.refl r)) h
theorem jN {l:List aF} (hl:l.length<4611686018427387904) (x:aF) (g:Tag) (s:St):az Tryz.prog cD [.slice g 1 (l.map encStr), .str x] s (.bool (fw l x)) s:=
 (rY hl x s).Zt (Wk.shared _ _ _)
theorem KZ (x:aF) (z:Nat) (g:Tag) (s:St):az Tryz.prog cD [.slice g z [], .str x] s (.bool false) s:=
 (rY (l:= []) (by simp) x s).Zt (Wk.nil _ _ _)
theorem BM {l:List aF} (hl:l.length<4611686018427387904) {f:Nat} {row:List D} {b:aF→Bool} (uL:D.bI 0 0 row=true) (he:enters Tryz.prog f=true)
 (hb : ∀ x∈l,az Tryz.prog f ([.str x]++ [.ptr 0 0]) ⟨[row],[]⟩ (.bool (b x)) ⟨[row],[]⟩) :
 az Tryz.prog k8 [.slice .shared 1 (l.map encStr), .gn f [.ptr 0 0]] ⟨[row],[]⟩ (.int .i64 (lb b 0 l)) ⟨[row],[]⟩:=by
 generalize h:lb b 0 l=p
 have k1 : ∀ n m,D.gA n m row=row:=fun n m=>il n m _ uL
 refine az.go tF rfl fun B Q hB hQ=>?_
 have⟨hC,hE,hM,hY⟩:=bE
 repeat' (first
 |simp only[go_sem,hC,hE,hM,hY,k1]
 |(with_reducible first|refine aX fun hc=>?_|refine aY fun hc=>?_|refine aZ (fun hc=>?_) fun hc=>?_)<;>(try simp only[hc,bs,↓reduceIte]at h)<;>try simp only[hc]
 |(with_reducible refine aB hQ ?_;(try cases h);simp only[aR,aS,bo,bp,go_sem,hC,hE,hM,hY,k1];try exact bS))
 refine eV 1 0 ?_ ?_ (bg.ind (ι:=List aF×Nat) (fun i=>l.drop i.2=i.1∧lb b (i.2:Int) i.1=p) (fun i=>i.1.length)
  (fun i=> [(0, .slice .shared 1 (l.map encStr)),(1, .gn f [.ptr 0 0]),(7, .int .i64 (l.length:Int)),(8, .int .i64 (i.2:Int))]) (fun i=>⟨[row],[]⟩) ?_ (l,0) ⟨rfl,h⟩)
 ·(simp only[go_sem,hC,hE,hM,hY,k1];try exact cu)
 ·(simp only[go_sem,hC,hE,hM,hY,k1];try exact cu)
 rintro⟨rest,k⟩ ⟨h1,h⟩ IH
 dsimp only at h1 h
 cases rest with
 |nil=>
  have hC:=drop_nil h1
  simp only[lb]at h
  repeat' (first
 |simp only[go_sem,hC,hE,hM,hY,k1]
 |(with_reducible first|refine aX fun hc=>?_|refine aY fun hc=>?_|refine aZ (fun hc=>?_) fun hc=>?_)<;>(try simp only[hc,bs,↓reduceIte]at h)<;>try simp only[hc]
 |(with_reducible refine aB hQ ?_;(try cases h);simp only[aR,aS,bo,bp,go_sem,hC,hE,hM,hY,k1];try exact bS))
 |cons a rest=>
  obtain⟨hE,g2,hC,g4⟩:=drop_cons h1
  have cp:k<4611686018427387904:=by omega
  have hba:=hb a (List.mem_of_getElem? hE)
  simp only[lb]at h
  repeat' (first
 |simp only[go_sem,hC,hE,hM,hY,k1]
 |(with_reducible refine CV.use (he) (hba) ?_)
 |(with_reducible first|refine aX fun hc=>?_|refine aY fun hc=>?_|refine aZ (fun hc=>?_) fun hc=>?_)<;>(try simp only[hc,bs,↓reduceIte]at h)<;>try simp only[hc]
 |(with_reducible refine aB hQ ?_;(try cases h);simp only[aR,aS,bo,bp,go_sem,hC,hE,hM,hY,k1];try exact bS))
  refine eV 1 0 ?_ ?_ (IH (rest,k+1) ⟨g2,h⟩ (Nat.lt_succ_self _))
  ·(simp only[go_sem,hC,hE,hM,hY,k1,aL cp];try exact cu)
  ·(simp only[go_sem,hC,hE,hM,hY,k1,aL cp];try exact cu)
theorem BN {P:Program} {g f:Nat} {row:List D} {rows:List (List D)} {z:Nat} {d:D} (h:az P g [.slice .shared z rows, .gn f [.ptr 0 0]] ⟨[row],[]⟩ d ⟨[row],[]⟩) (uL:D.bI 0 0 row=true) (hw:D.gY 0 0 rows=true) (hd:D.ok 0 0 d=true) {s:St} {o:Nat} (ho:s.ah[o]? = some row) :
 az P g [.slice .shared z rows, .gn f [.ptr o 0]] s d s:=by
 refine bL.frame [o] [] h (by simp) List.nodup_nil (by simpa using (List.getElem?_eq_some_iff.1 ho).1) (by simp) rfl (fun i o' ds e1 e2=>?_) rfl (by simp) (by simp[D.eW,D.de,Tag.de,ik _ _ _ hw])
  (by simp[D.bI,D.ok,Tag.ok,lG (Nat.zero_le 1) (Nat.le_refl 0) _ hw]) ?_
 ·cases i with
  |zero=>simp at e1 e2;subst e1;subst e2;exact⟨by rw[fb _ _ _ uL];exact ho,gH (Nat.zero_le 1) (Nat.le_refl 0) _ uL⟩
  |succ i=>simp at e1
 ·rintro _ _ ⟨rfl,rfl⟩
  refine⟨qL _ _ _ hd, ?_⟩
  have:s.ah.set o row=s.ah:=by
   apply List.ext_getElem?
   intro i
   rw[List.getElem?_set]
   split
   ·rename_i e;subst e;rw [ho];split
    ·rfl
    ·rename_i hh;exact absurd (List.getElem?_eq_some_iff.1 ho).1 hh
   ·rfl
  simp[St.back,kG,fb _ _ _ uL,this]
theorem yO {l:List aF} (hl:l.length<4611686018427387904) {f:Nat} {row:List D} {b:aF→Bool} (uL:D.bI 0 0 row=true) (he:enters Tryz.prog f=true)
 (hb : ∀ x∈l,az Tryz.prog f ([.str x]++ [.ptr 0 0]) ⟨[row],[]⟩ (.bool (b x)) ⟨[row],[]⟩) :
 az Tryz.prog gd [.slice .shared 1 (l.map encStr), .gn f [.ptr 0 0]] ⟨[row],[]⟩ (.bool (l.any b)) ⟨[row],[]⟩:=by
 have k1 : ∀ n m,D.gA n m row=row:=fun n m=>il n m _ uL
 have hi:=BM hl uL he hb
 have e:decide (lb b 0 l≥0)=l.any b:=by
  have:=GR b l 0 (Int.le_refl 0)
  cases hh:l.any b<;>simp_all
 refine az.go rV rfl fun B Q hB hQ=>?_
 have⟨hC,hE,hM,hY⟩:=bE
 repeat' (first
 |simp only[go_sem,hC,hE,hM,hY,k1,e]
 |(with_reducible refine CU (hi) ?_)
 |(with_reducible first|refine aX fun hc=>?_|refine aY fun hc=>?_|refine aZ (fun hc=>?_) fun hc=>?_)<;>(try simp only[hc,bs,↓reduceIte]at h)<;>try simp only[hc]
 |(with_reducible refine aB hQ ?_;simp only[aR,aS,bo,bp,go_sem,hC,hE,hM,hY,k1,e];try exact bS))
theorem yP {l:List aF} (hl:l.length<4611686018427387904) {f:Nat} {row:List D} {b:aF→Bool} (uL:D.bI 0 0 row=true) (he:enters Tryz.prog f=true)
 (hb : ∀ x∈l,az Tryz.prog f ([.str x]++ [.ptr 0 0]) ⟨[row],[]⟩ (.bool (b x)) ⟨[row],[]⟩) {s:St} {o:Nat} (ho:s.ah[o]? = some row) :
 az Tryz.prog gd [.slice .shared 1 (l.map encStr), .gn f [.ptr o 0]] s (.bool (l.any b)) s:=
 BN (yO hl uL he hb) uL (eF l) rfl ho
theorem vT {l:List Pc} (hl:l.length<4611686018427387904) {f:Nat} {row:List D} {b:Pc→Bool} (uL:D.bI 0 0 row=true) (he:enters Tryz.prog f=true)
 (hb : ∀ x∈l,az Tryz.prog f ([.agg (cJ x)]++ [.ptr 0 0]) ⟨[row],[]⟩ (.bool (b x)) ⟨[row],[]⟩) :
 az Tryz.prog gu [.slice .shared 5 (l.map cJ), .gn f [.ptr 0 0]] ⟨[row],[]⟩ (.int .i64 (lb b 0 l)) ⟨[row],[]⟩:=by
 generalize h:lb b 0 l=p
 have k1 : ∀ n m,D.gA n m row=row:=fun n m=>il n m _ uL
 refine az.go sb rfl fun B Q hB hQ=>?_
 have⟨hC,hE,hM,hY⟩:=bE
 repeat' (first
 |simp only[go_sem,hC,hE,hM,hY,k1]
 |(with_reducible first|refine aX fun hc=>?_|refine aY fun hc=>?_|refine aZ (fun hc=>?_) fun hc=>?_)<;>(try simp only[hc,bs,↓reduceIte]at h)<;>try simp only[hc]
 |(with_reducible refine aB hQ ?_;(try cases h);simp only[aR,aS,bo,bp,go_sem,hC,hE,hM,hY,k1];try exact bS))
 refine eV 1 0 ?_ ?_ (bg.ind (ι:=List Pc×Nat) (fun i=>l.drop i.2=i.1∧lb b (i.2:Int) i.1=p) (fun i=>i.1.length)
  (fun i=> [(0, .slice .shared 5 (l.map cJ)),(1, .gn f [.ptr 0 0]),(7, .int .i64 (l.length:Int)),(8, .int .i64 (i.2:Int))]) (fun i=>⟨[row],[]⟩) ?_ (l,0) ⟨rfl,h⟩)
 ·(simp only[go_sem,hC,hE,hM,hY,k1];try exact cu)
 ·(simp only[go_sem,hC,hE,hM,hY,k1];try exact cu)
 rintro⟨rest,k⟩ ⟨h1,h⟩ IH
 dsimp only at h1 h
 cases rest with
 |nil=>
  have hC:=drop_nil h1
  simp only[lb]at h
  repeat' (first
 |simp only[go_sem,hC,hE,hM,hY,k1]
 |(with_reducible first|refine aX fun hc=>?_|refine aY fun hc=>?_|refine aZ (fun hc=>?_) fun hc=>?_)<;>(try simp only[hc,bs,↓reduceIte]at h)<;>try simp only[hc]
 |(with_reducible refine aB hQ ?_;(try cases h);simp only[aR,aS,bo,bp,go_sem,hC,hE,hM,hY,k1];try exact bS))
 |cons a rest=>
  obtain⟨hE,g2,hC,g4⟩:=drop_cons h1
  have cp:k<4611686018427387904:=by omega
  have hba:=hb a (List.mem_of_getElem? hE)
  simp only[lb]at h
  repeat' (first
 |simp only[go_sem,hC,hE,hM,hY,k1]
 |(with_reducible refine CV.use (he) (hba) ?_)
 |(with_reducible first|refine aX fun hc=>?_|refine aY fun hc=>?_|refine aZ (fun hc=>?_) fun hc=>?_)<;>(try simp only[hc,bs,↓reduceIte]at h)<;>try simp only[hc]
 |(with_reducible refine aB hQ ?_;(try cases h);simp only[aR,aS,bo,bp,go_sem,hC,hE,hM,hY,k1];try exact bS))
  refine eV 1 0 ?_ ?_ (IH (rest,k+1) ⟨g2,h⟩ (Nat.lt_succ_self _))
  ·(simp only[go_sem,hC,hE,hM,hY,k1,aL cp];try exact cu)
  ·(simp only[go_sem,hC,hE,hM,hY,k1,aL cp];try exact cu)
theorem AQ {l:List Pc} (hl:l.length<4611686018427387904) {f:Nat} {row:List D} {b:Pc→Bool} (uL:D.bI 0 0 row=true) (he:enters Tryz.prog f=true)
 (hb : ∀ x∈l,az Tryz.prog f ([.agg (cJ x)]++ [.ptr 0 0]) ⟨[row],[]⟩ (.bool (b x)) ⟨[row],[]⟩) :
 az Tryz.prog gU [.slice .shared 5 (l.map cJ), .gn f [.ptr 0 0]] ⟨[row],[]⟩ (.bool (l.any b)) ⟨[row],[]⟩:=by
 have k1 : ∀ n m,D.gA n m row=row:=fun n m=>il n m _ uL
 have hi:=vT hl uL he hb
 have e:decide (lb b 0 l≥0)=l.any b:=by
  have:=GR b l 0 (Int.le_refl 0)
  cases hh:l.any b<;>simp_all
 refine az.go qR rfl fun B Q hB hQ=>?_
 have⟨hC,hE,hM,hY⟩:=bE
 repeat' (first
 |simp only[go_sem,hC,hE,hM,hY,k1,e]
 |(with_reducible refine CU (hi) ?_)
 |(with_reducible first|refine aX fun hc=>?_|refine aY fun hc=>?_|refine aZ (fun hc=>?_) fun hc=>?_)<;>(try simp only[hc,bs,↓reduceIte]at h)<;>try simp only[hc]
 |(with_reducible refine aB hQ ?_;simp only[aR,aS,bo,bp,go_sem,hC,hE,hM,hY,k1,e];try exact bS))
mutual
def Sm.pre:Sm→List Sm
 |⟨id,kind,labels,name,pc,x,has,args,bm,bd⟩=>⟨id,kind,labels,name,pc,x,has,args,bm,bd⟩::(Sm.dr bm++Sm.dr bd)
def Sm.dr:List Sm→List Sm
 | []=> []
 |s::l=>s.pre++Sm.dr l
end
def Pg.pre (p:Pg):List Sm:=(p.procs.map fun f=>Sm.dr f.body).flatten
theorem Sm.qq (s:Sm):s.pre=s::(Sm.dr s.bm++Sm.dr s.bd):=by cases s;simp only[Sm.pre]
mutual
theorem aa0 (proc up next loop:Int) (out:List Im) : ∀ s:Sm,∃ e:List Im,Im.one proc up next loop out s=out++e∧e.map Im.s=s.pre
 |⟨id,kind,labels,name,pc,x,has,args,bm,bd⟩=>by
  simp only[Im.one,Sm.pre]
  obtain⟨e1,h1,k1⟩:=zM proc ((out.length:Int)+1) (if kind==6 then(out.length:Int)+1 else next) (if kind==6 then(out.length:Int)+1 else loop) (out++ [⟨⟨id,kind,labels,name,pc,x,has,args,bm,bd⟩,proc,up,next,loop⟩]) bm
  obtain⟨e2,h2,k2⟩:=zM proc ((out.length:Int)+1) (if kind==6 then(out.length:Int)+1 else next) (if kind==6 then(out.length:Int)+1 else loop) (Im.rows proc ((out.length:Int)+1) (if kind==6 then(out.length:Int)+1 else next) (if kind==6 then(out.length:Int)+1 else loop) (out++ [⟨⟨id,kind,labels,name,pc,x,has,args,bm,bd⟩,proc,up,next,loop⟩]) bm) bd
  refine⟨⟨⟨id,kind,labels,name,pc,x,has,args,bm,bd⟩,proc,up,next,loop⟩::(e1++e2), ?_, ?_⟩
  ·rw[h2,h1];simp
  ·simp[k1,k2]
theorem zM (proc up next loop:Int) (out:List Im) : ∀ l:List Sm,∃ e:List Im,Im.rows proc up next loop out l=out++e∧e.map Im.s=Sm.dr l
 | []=>⟨[],by simp[Im.rows],rfl⟩
 |s::l=>by
  simp only[Im.rows,Sm.dr]
  obtain⟨e1,h1,k1⟩:=aa0 proc up (if l.length=0 then next else(out.length:Int)+1+(s.jE:Int)) loop out s
  obtain⟨e2,h2,k2⟩:=zM proc up next loop (Im.one proc up (if l.length=0 then next else(out.length:Int)+1+(s.jE:Int)) loop out s) l
  refine⟨e1++e2, ?_,by simp[k1,k2]⟩
  rw[h2,h1];simp
end
theorem TD : ∀ (l:List Pc) (n:Nat) (h:Sh),h.lo.length=n→h.hi.length=n→
 ∃ e lo hi,Sh.go n h l = ⟨h.L++e,h.lo++lo,h.hi++hi⟩∧e.map Im.s=(l.map fun f=>Sm.dr f.body).flatten∧lo.length=l.length∧hi.length=l.length∧
  ∀ (i:Nat) (f:Pc),l[i]? = some f→∃ a b e' M3:List Im,lo[i]? = some (((h.L++a).length:Int)+1)∧hi[i]? = some (((h.L++a++b).length:Int)+1)∧b.map Im.s=Sm.dr f.body∧e=a++b++e'
 | [],n,h,hl,hh=>⟨[],[],[],by simp[Sh.go],rfl,rfl,rfl,fun i f h=>by simp at h⟩
 | f::l,n,h,hl,hh=>by
  simp only[Sh.go]
  obtain⟨e1,h1,k1⟩:=zM (n:Int) 0 (-1) 0 h.L f.body
  obtain⟨e2,lo,hi,h2,k2,h3,h4,h5⟩:=TD l (n+1) ⟨Im.rows (n:Int) 0 (-1) 0 h.L f.body,h.lo++ [(h.L.length:Int)+1],h.hi++ [((Im.rows (n:Int) 0 (-1) 0 h.L f.body).length:Int)+1]⟩ (by simp[hl]) (by simp[hh])
  refine⟨e1++e2,((h.L.length:Int)+1)::lo,(((Im.rows (n:Int) 0 (-1) 0 h.L f.body).length:Int)+1)::hi, ?_,by simp[k1,k2],by simp[h3],by simp[h4],fun i g ig=>?_⟩
  ·rw[h2,h1];simp
  ·cases i with
   |zero=>
    simp only[List.getElem?_cons_zero,Option.some.injEq]at ig
    subst ig
    exact⟨[],e1,e2,[],by simp,by rw[h1];simp,k1,by simp⟩
   |succ i=>
    simp only[List.getElem?_cons_succ]at ig
    obtain⟨a,b,e',M3,g1,g2,g3,g4⟩:=h5 i g ig
    refine⟨e1++a,b,e',M3, ?_, ?_,g3,by rw[g4];simp⟩
    ·rw[List.getElem?_cons_succ,g1,h1];simp
    ·rw[List.getElem?_cons_succ,g2,h1];simp
theorem nO (p:Pg):p.bh.L.map Im.s=p.pre∧∀ (i:Nat) (f:Pc),p.procs[i]? = some f→∃ a b e:List Im,p.bh.lo[i]? = some ((a.length:Int)+1)∧p.bh.hi[i]? = some (((a++b).length:Int)+1)∧b.map Im.s=Sm.dr f.body∧p.bh.L=a++b++e:=by
 obtain⟨e,lo,hi,h1,h2,h3,h4,h5⟩:=TD p.procs 0 ⟨[],[],[]⟩ rfl rfl
 unfold Pg.bh
 rw[h1]
 refine⟨by simpa[Pg.pre]using h2,fun i f hf=>?_⟩
 obtain⟨a,b,e',_,g1,g2,g3,g4⟩:=h5 i f hf
 exact⟨a,b,e',by simpa using g1,by simpa using g2,g3,by simpa using g4⟩
def Pg.at (p:Pg) (name:aF):Int:=lb (fun f:Pc=>f.name==name) 0 p.procs
theorem aa1 (name:aF) (f:Pc):az Tryz.prog lM ([.agg (cJ f)]++ [.ptr 0 0]) ⟨[[.str name]],[]⟩ (.bool (f.name==name)) ⟨[[.str name]],[]⟩:=by
 show az Tryz.prog lM [.agg (cJ f), .ptr 0 0] _ _ _
 refine az.go yF rfl fun B Q hB hQ=>?_
 have⟨hC,hE,hM,hY⟩:=bE
 repeat' (first
 |simp only[go_sem,hC,hE,hM,hY]
 |(with_reducible refine aB hQ ?_;exact bj))
theorem Fl {p:Pg} (hs:p.procs.length<4611686018427387904) (name:aF) (s:St):az Tryz.prog iI [.dO (fA p) 0, .str name] s (.int .i64 (p.at name)) s:=by
 refine az.pure ?_ (by simp[D.bI,D.ok,uw]) rfl s
 have hi:=fun {s:St} {o:Nat} (ho:s.ah[o]? = some [.str name])=>BN (vT (l:=p.procs) (f:=lM) (row:= [.str name]) (b:=fun f:Pc=>f.name==name) hs rfl (by with_unfolding_all rfl) (fun x _=>aa1 name x)) rfl (wL _) rfl ho
 have ig:=fun {s:St} {o:Nat} (ho:s.ah[o]? = some [.str name])=>(show az Tryz.prog gu [.slice .shared 5 (p.procs.map cJ), .gn 93 [.ptr o 0]] s (.int .i64 (p.at name)) s from hi ho)
 unfold S0
 rw[oc]
 refine az.go AL rfl fun B Q hB hQ=>?_
 have⟨hC,hE,hM,hY⟩:=bE
 repeat' (first
 |simp only[go_sem,hC,hE,hM,hY]
 |(with_reducible refine CU (ig (by with_unfolding_all rfl)) ?_)
 |(with_reducible refine aB hQ ?_;exact bj))
theorem TE : ∀ (l:List Pc) (n:Nat) (h:Sh),(Sh.go n h l).L.length≤h.L.length+Pc.bt l
 | [],n,h=>by simp[Sh.go]
 |f::l,n,h=>by
  simp only[Sh.go]
  refine Nat.le_trans (TE l _ _) ?_
  have:=gJ (n:Int) 0 (-1) 0 h.L f.body
  have:=nN f.body
  simp only[Pc.bt,Pc.size];omega
theorem pB (p:Pg):p.bh.L.length≤Pc.bt p.procs:=by have:=TE p.procs 0 ⟨[],[],[]⟩;simpa[Pg.bh]using this
theorem aeC {p:Pg} {i:Nat} (hs:Pc.bt p.procs<1000000000) {a b e:List Im} (h1:p.bh.lo[i]? = some ((a.length:Int)+1)) (h2:p.bh.hi[i]? = some (((a++b).length:Int)+1)) (h4:p.bh.L=a++b++e) (s:St) :
 az Tryz.prog gT [.dO (fA p) 0, .int .i64 (i:Int)] s (.slice .shared 17 (b.map dN)) s:=by
 refine az.pure ?_ (by simp[D.bI,D.ok,uw]) (by simp[D.ok,Tag.ok,Jg]) s
 have hL:p.bh.L.length<1000000000:=Nat.lt_of_le_of_lt (pB p) hs
 have l1:(i:Int)<(p.bh.lo.length:Int):=by have:=(List.getElem?_eq_some_iff.1 h1).1;omega
 have l2:(i:Int)<(p.bh.hi.length:Int):=by have:=(List.getElem?_eq_some_iff.1 h2).1;omega
 have Zu:a.length+b.length≤p.bh.L.length:=by rw[h4];simp
 have w1:IntKind.wrap .i64 ((a.length:Int)+1 - 1)=(a.length:Int):=by rw[show(a.length:Int)+1 - 1=(a.length:Int) by omega];exact er (by omega) (by omega)
 have w2:IntKind.wrap .i64 (((a.length+b.length:Nat):Int)+1 - 1)=((a.length+b.length:Nat):Int):=by rw[show((a.length+b.length:Nat):Int)+1 - 1=((a.length+b.length:Nat):Int) by omega];exact er (by omega) (by omega)
 have c1:((a.length:Int)≤((a.length+b.length:Nat):Int))=True:=by simp only[eq_iff_iff,iff_true];omega
 have c2:(((a.length+b.length:Nat):Int)≤(p.bh.L.length:Int))=True:=by simp only[eq_iff_iff,iff_true];omega
 have hb:List.drop a.length (List.take (a.length+b.length) (List.map dN p.bh.L))=List.map dN b:=by rw[h4];simp[List.map_append,List.take_append,List.drop_append]
 unfold S0
 rw[oc]
 refine az.go Db rfl fun B Q hB hQ=>?_
 have⟨hC,hE,hM,hY⟩:=bE
 repeat' (first
 |simp only[go_sem,hC,hE,hM,hY,h1,h2,List.length_append,w1,w2,c1,c2,or_true,true_and,and_self,ite_self,Int.toNat_natCast,hb]
 |(with_reducible first|refine aX fun hc=>?_|refine aY fun hc=>?_|refine aZ (fun hc=>?_) fun hc=>?_)<;>(try simp only[hc,bs,↓reduceIte]at h)<;>try simp only[hc]
 |(with_reducible refine aB hQ ?_;(try cases h);simp only[aR,aS,bo,bp,go_sem,hC,hE,hM,hY,h1,h2,List.length_append,w1,w2,c1,c2,or_true,true_and,and_self,ite_self,Int.toNat_natCast,hb];try exact bS)
 |(cases h;done))
theorem WR {p:Pg} {i:Nat} {f:Pc} (hf:p.procs[i]? = some f) (hs:Pc.bt p.procs<1000000000) : ∃ it:List Im,it.map Im.s=Sm.dr f.body∧∀ s,az Tryz.prog gT [.dO (fA p) 0, .int .i64 (i:Int)] s (.slice .shared 17 (it.map dN)) s:=by
 obtain⟨a,b,e,h1,h2,h3,h4⟩:=(nO p).2 i f hf
 exact⟨b,h3,aeC hs h1 h2 h4⟩
end Go.Abs
