/-
  What is proved here: part 2 of the road to the claim (Codes1, Have1, Codes2, Have2, Codes3, Codes4, Have4, Codes5, Have5, Have3, Frz, MirLex, MirMay, Prs, Lex1, Lex2, RefLex1, Prs2, Ref1, Ref2, Ref3, RefMay1, RefMay2, Flat1, Flat2).
  No conditions.
-/
import Derived.Test.YtiopamakecmpkaaGreatCkV1
import Derived.Test.YtiopamakecmpkaaGreatProg
import Derived.KernelRfl

set_option linter.unusedSimpArgs false
set_option linter.unusedVariables false
namespace Go.Abs
abbrev QHS:AC:= .run [.o 0 (.mv (.k (.str [103,108,111,98,97,108,32,103,59,10,112,114,111,99,32,109,97,105,110,40,41,32,123,10,32,118,97,114,32,118,59,10,32,118,32,61,32,50,59,10,32,103,32,61,32,112,40,51,44,32,114,101,102,32,118,41,59,10,32,112,114,105,110,116,32,118,59,10,32,112,114,105,110,116,32,103,59,10,125,10,112,114,111,99,32,112,40,120,44,32,114,101,102,32,121,41,32,123,10,32,121,32,61,32,121,32,43,32,120,59,10,32,105,102,32,40,121,32,62,32,57,41,32,123,10,32,32,103,111,116,111,32,101,59,10,32,125,10,32,114,101,116,117,114,110,32,121,59,10,101,58,32,125,10])))]
abbrev QHU:AC:= .seq (.run [.o 0 (.mv (.k (.str [])))]) (.seq QHS .ret)
abbrev QHW:AC:= .run [(.o 3 (.c9 [(.str [])] 1 1 [(0,(.k (.str [118])))])), .c 4 sV [(.k (.int .i64 2))],(.o 5 (.build [(.int .i64 0),(.int .i64 0),(.slice .full 0 []),(.str []),(.str []),(.int .i64 0),(.int .i64 0),(.str []),(.slice .full 0 []),(.bool false),(.slice .full 0 []),(.slice .full 0 []),(.slice .full 0 [])] [(0,(1,(.k (.int .i64 1)))),(1,(1,(.k (.int .i64 1)))),(3,(1,(.k (.str [118])))),(5,(4,cT))])), .c 6 sV [(.k (.int .i64 3))], .o 7 (.build [(.bool false),(.str []),(.int .i64 0),(.int .i64 0),(.str []),(.slice .full 0 [])] [(2,(4,bH))]),(.o 8 (.build [(.bool false),(.str []),(.int .i64 0),(.int .i64 0),(.str []),(.slice .full 0 [])] [(0,(1,(.k (.bool true)))),(1,(1,(.k (.str [118]))))])), .o 9 (.c9 [(.bool false),(.str []),(.int .i64 0),(.int .i64 0),(.str []),(.slice .full 0 [])] 6 2 [(0,bF),(1,bX)]),(.o 10 (.build [(.int .i64 0),(.int .i64 0),(.slice .full 0 []),(.str []),(.str []),(.int .i64 0),(.int .i64 0),(.str []),(.slice .full 0 []),(.bool false),(.slice .full 0 []),(.slice .full 0 []),(.slice .full 0 [])] [(0,(1,(.k (.int .i64 2)))),(1,(1,(.k (.int .i64 4)))),(3,(1,(.k (.str [103])))),(4,(1,(.k (.str [112])))),(10,(1,cw))])),(.c 11 mq [(.k (.str [118]))]),(.o 12 (.build [(.int .i64 0),(.int .i64 0),(.slice .full 0 []),(.str []),(.str []),(.int .i64 0),(.int .i64 0),(.str []),(.slice .full 0 []),(.bool false),(.slice .full 0 []),(.slice .full 0 []),(.slice .full 0 [])] [(0,(1,(.k (.int .i64 3)))),(1,(1,(.k (.int .i64 3)))),(5,(4,bO))])),(.c 13 mq [(.k (.str [103]))]),(.o 14 (.build [(.int .i64 0),(.int .i64 0),(.slice .full 0 []),(.str []),(.str []),(.int .i64 0),(.int .i64 0),(.str []),(.slice .full 0 []),(.bool false),(.slice .full 0 []),(.slice .full 0 []),(.slice .full 0 [])] [(0,(1,(.k (.int .i64 4)))),(1,(1,(.k (.int .i64 3)))),(5,(4,bP))])), .o 15 (.c9 [(.int .i64 0),(.int .i64 0),(.slice .full 0 []),(.str []),(.str []),(.int .i64 0),(.int .i64 0),(.str []),(.slice .full 0 []),(.bool false),(.slice .full 0 []),(.slice .full 0 []),(.slice .full 0 [])] 13 4 [(0,bd),(1,bI),(2,bV),(3,bL)]),(.o 16 (.build [(.str []),(.slice .full 0 []),(.slice .full 0 []),(.slice .full 0 []),(.slice .full 0 [])] [(0,(1,(.k (.str [109,97,105,110])))),(2,(1,bD)),(3,(1,ct))])), .o 1 (.alloc [(.str []),(.slice .full 0 []),(.slice .full 0 []),(.slice .full 0 []),(.slice .full 0 [])]), .op none none (.store bb cb 5)]
abbrev QHX:AC:= .run [(.o 17 (.build [(.str []),(.bool false)] [(0,(1,(.k (.str [120]))))])),(.o 18 (.build [(.str []),(.bool false)] [(0,(1,(.k (.str [121])))),(1,(1,(.k (.bool true))))])), .o 19 (.c9 [(.str []),(.bool false)] 2 2 [(0,cQ),(1,cO)]),(.o 20 (.c9 [(.str [])] 1 1 [(0,(.k (.str [101])))])),(.c 21 mq [(.k (.str [121]))]),(.c 22 mq [(.k (.str [120]))]), .c 23 wI [(.k (.int .i64 8)),dj,dm],(.o 24 (.build [(.int .i64 0),(.int .i64 0),(.slice .full 0 []),(.str []),(.str []),(.int .i64 0),(.int .i64 0),(.str []),(.slice .full 0 []),(.bool false),(.slice .full 0 []),(.slice .full 0 []),(.slice .full 0 [])] [(0,(1,(.k (.int .i64 5)))),(1,(1,(.k (.int .i64 1)))),(3,(1,(.k (.str [121])))),(5,(4,dD))])),(.c 25 mq [(.k (.str [121]))]), .c 26 sV [(.k (.int .i64 9))], .c 27 wI [(.k (.int .i64 12)),di,ez],(.o 28 (.build [(.int .i64 0),(.int .i64 0),(.slice .full 0 []),(.str []),(.str []),(.int .i64 0),(.int .i64 0),(.str []),(.slice .full 0 []),(.bool false),(.slice .full 0 []),(.slice .full 0 []),(.slice .full 0 [])] [(0,(1,(.k (.int .i64 7)))),(1,(1,(.k (.int .i64 10)))),(3,(1,(.k (.str [101]))))])), .o 29 (.c9 [(.int .i64 0),(.int .i64 0),(.slice .full 0 []),(.str []),(.str []),(.int .i64 0),(.int .i64 0),(.str []),(.slice .full 0 []),(.bool false),(.slice .full 0 []),(.slice .full 0 []),(.slice .full 0 [])] 13 1 [(0,eZ)]),(.o 30 (.build [(.int .i64 0),(.int .i64 0),(.slice .full 0 []),(.str []),(.str []),(.int .i64 0),(.int .i64 0),(.str []),(.slice .full 0 []),(.bool false),(.slice .full 0 []),(.slice .full 0 []),(.slice .full 0 [])] [(0,(1,(.k (.int .i64 6)))),(1,(1,(.k (.int .i64 5)))),(5,(4,ek)),(11,(1,fa))])),(.c 31 mq [(.k (.str [121]))]),(.o 32 (.build [(.int .i64 0),(.int .i64 0),(.slice .full 0 []),(.str []),(.str []),(.int .i64 0),(.int .i64 0),(.str []),(.slice .full 0 []),(.bool false),(.slice .full 0 []),(.slice .full 0 []),(.slice .full 0 [])] [(0,(1,(.k (.int .i64 8)))),(1,(1,(.k (.int .i64 9)))),(9,(1,(.k (.bool true)))),(5,(4,fe))])), .o 33 (.c9 [(.int .i64 0),(.int .i64 0),(.slice .full 0 []),(.str []),(.str []),(.int .i64 0),(.int .i64 0),(.str []),(.slice .full 0 []),(.bool false),(.slice .full 0 []),(.slice .full 0 []),(.slice .full 0 [])] 13 3 [(0,dd),(1,fk),(2,fv)]),(.o 34 (.build [(.str []),(.slice .full 0 []),(.slice .full 0 []),(.slice .full 0 []),(.slice .full 0 [])] [(0,(1,(.k (.str [112])))),(1,(1,cV)),(4,(1,dc)),(3,(1,fp))])), .o 2 (.alloc [(.str []),(.slice .full 0 []),(.slice .full 0 []),(.slice .full 0 []),(.slice .full 0 [])]), .op none none (.store df fA 5)]
abbrev QHZ:AC:= .seq (.run [(.o 35 (.c9 [(.str [])] 1 1 [(0,(.k (.str [103])))])), .o 36 (.load bb true 5), .o 37 (.load df true 5), .o 38 (.c9 [(.str []),(.slice .full 0 []),(.slice .full 0 []),(.slice .full 0 []),(.slice .full 0 [])] 5 2 [(0,fI),(1,fQ)]), .o 39 (.build [(.slice .full 0 []),(.slice .full 0 [])] [(0,(1,fz)),(1,(1,gx))]), .op none none (.store aV gh 2)]) .ret
abbrev QI2:AC:= .seq (.run [.o 0 (.alloc [(.slice .full 0 []),(.slice .full 0 [])])]) (.seq QHW (.seq QHX QHZ))
abbrev QIC:AC:= .seq (.seq (.run [.m 6 bd, .m 7 aV, .o 8 (.len bF), .o 9 (.bin .lss bH bX), .m 10 cw, .g 11 10 true (.mv bb), .g 12 10 true (.bin .leq bO (.k (.int .i64 20000))), .o 13 (.pick bI bV (.k (.bool false)))]) (.cond bP .skip (.exit 0))) (.seq (.block 1 (.run [.m 16 aV, .m 17 bd, .o 18 (.bE cb cQ 1), .o 19 (.load cO false 1), .m 20 bb, .c 21 gY [cV,dc], .m 1 dj])) (.run [.m 14 bd, .o 15 (.bin .add bL (.k (.int .i64 1))), .m 5 ct]))
abbrev QII:AC:= .seq (.seq (.run [.o 5 (.mv (.k (.int .i64 0)))]) (.block 0 (.loop QIC))) (.seq (.run [.m 22 bb, .m 4 dm]) .ret)
abbrev QIJ:AC:= .seq (.run [.o 4 (.mv (.k (.int .i64 0)))]) QII
abbrev QIO:AC:= .cond bP (.seq (.run [.o 4 (.mv (.k (.int .i64 20001)))]) .ret) .skip
abbrev QIS:AC:= .seq (.seq (.run [.m 5 bb, .o 6 (.bin .gtr bd (.k (.int .i64 20000))), .m 7 bH, .g 8 7 false (.mv aV), .g 9 7 false (.nk bX), .g 10 7 false (.mv bb), .g 11 7 false (.bin .sub (.k (.int .i64 20000)) bI), .g 12 7 false (.bin .geq cw bO), .o 13 (.pick bF (.k (.bool true)) bV)]) QIO) (.seq (.run [.m 14 bb, .o 15 (.bin .add bL (.k (.int .i64 1))), .m 16 aV, .o 17 (.nk cb), .o 18 (.bin .add ct cQ), .m 4 cO]) .ret)
abbrev QIT:AC:= .seq (.run [.o 4 (.mv (.k (.int .i64 0)))]) QIS
abbrev QJ0:AC:= .par [.o 22 (.ah bH 4), .o 23 (.load dm false 1), .o 24 (.ah bH 3), .o 25 (.load dd false 1), .o 26 (.ah bH 2), .o 27 (.load ez false 1), .o 28 (.ah bH 5), .o 29 (.load eZ true 4), .m 30 bb, .c 31 kU [fa,fk], .c 32 kx [ek,fe], .c 33 gY [di,fv], .c 34 gY [dD,fp], .m 1 fA] [(6,0),(7,0),(8,0),(9,0),(4,0),(5,1),(10,0),(2,0),(3,2),(11,0),(0,0),(1,3),(12,0),(13,0)]
abbrev QJ5:AC:= .par [.o 46 (.ah bH 10), .o 47 (.load jh false 1), .m 48 bF, .o 49 (.bE jz iS 6), .o 50 (.ah iX 1), .o 51 (.load jQ false 1), .o 52 (.ah bH 10), .o 53 (.load jA false 1), .m 54 bF, .o 55 (.bE jR kb 6), .o 56 (.ah kp 2), .o 57 (.load lz true 4), .m 58 bb, .c 59 kU [lO,lA], .c 60 gY [ji,kq], .m 1 nq] [(6,0),(7,0),(8,0),(9,0),(10,0),(11,0),(12,0),(13,0),(0,0),(1,1),(2,0),(3,0),(4,0),(5,1),(14,0),(15,0)]
abbrev QJ9:AC:= .seq (.seq (.run [.m 35 bF, .o 36 (.ah bH 10), .o 37 (.load fI false 1), .o 38 (.len fQ), .o 39 (.bin .lss fz gx), .m 40 gh, .g 41 40 true (.mv bb), .g 42 40 true (.bin .leq gk (.k (.int .i64 20000))), .o 43 (.pick gK ie (.k (.bool false)))]) (.cond iy .skip (.exit 2))) (.seq (.block 3 QJ5) (.run [.m 44 bF, .o 45 (.bin .add iR (.k (.int .i64 1))), .m 7 jg]))
abbrev QJD:AC:= .par [.o 61 (.ah bH 12), .o 62 (.load nY false 1), .o 63 (.ah bH 11), .o 64 (.load nZ false 1), .m 65 bb, .c 66 lX [pS,rX], .c 67 lX [oC,s6], .m 1 qw] [(2,0),(3,0),(4,0),(5,0),(0,0),(1,1),(6,0),(7,0)]
abbrev QJE:AC:= .seq (.seq (.run [.o 7 (.mv (.k (.int .i64 0)))]) (.block 2 (.loop QJ9))) QJD
abbrev QJJ:AC:= .seq (.block 1 (.seq (.run [.m 18 aV, .m 19 bd, .o 20 (.bE cO cV 13), .o 21 (.load dc true 13), .o 6 (.alloc [(.int .i64 0),(.int .i64 0),(.slice .full 0 []),(.str []),(.str []),(.int .i64 0),(.int .i64 0),(.str []),(.slice .full 0 []),(.bool false),(.slice .full 0 []),(.slice .full 0 []),(.slice .full 0 [])]), .op none none (.store bH dj 13)]) (.seq QJ0 QJE))) (.run [.m 16 bd, .o 17 (.bin .add cb (.k (.int .i64 1))), .m 5 cQ])
abbrev QJK:AC:= .seq (.seq (.run [.m 8 bd, .m 9 aV, .o 10 (.len cw), .o 11 (.bin .lss bX bI), .m 12 bO, .g 13 12 true (.mv bb), .g 14 12 true (.bin .leq bP (.k (.int .i64 20000))), .o 15 (.pick bV bL (.k (.bool false)))]) (.cond ct .skip (.exit 0))) QJJ
abbrev QJQ:AC:= .seq (.seq (.run [.o 5 (.mv (.k (.int .i64 0)))]) (.block 0 (.loop QJK))) (.seq (.run [.m 68 bb, .m 4 ra]) .ret)
abbrev QJR:AC:= .seq (.run [.o 4 (.mv (.k (.int .i64 0)))]) QJQ
abbrev QJW:AC:= .cond bI (.seq (.run [.o 4 (.mv (.k (.bool false)))]) .ret) .skip
abbrev QK2:AC:= .par [.m 16 aV, .m 17 bd, .o 18 (.bE cb cQ 1), .o 19 (.load cO false 1), .m 20 bb, .m 21 bd, .o 22 (.bE dc dj 1), .o 23 (.load dm false 1), .o 24 (.bin .neq cV dD)] [(0,0),(1,0),(2,0),(3,0),(4,0),(5,0),(6,0),(7,0),(8,0)]
abbrev QK5:AC:= .cond dd (.seq (.run [.o 4 (.mv (.k (.bool false)))]) .ret) .skip
abbrev QKB:AC:= .seq (.cond bL .skip (.exit 0)) (.seq (.block 1 (.seq (.run [.m 15 bP, .m 5 ct]) (.seq QK2 QK5))) (.run [.o 25 (.bin .add bP (.k (.int .i64 1))), .m 13 di]))
abbrev QKF:AC:= .seq (.run [.m 11 aV, .o 12 (.len bO), .o 13 (.mv (.k (.int .i64 0)))]) (.block 0 (.loop (.seq (.run [.o 14 (.bin .lss bP bV)]) QKB)))
abbrev QKI:AC:= .seq QKF (.seq (.run [.o 4 (.mv (.k (.bool true)))]) .ret)
abbrev QKK:AC:= .seq (.run [.o 4 (.mv (.k (.bool false)))]) (.seq (.seq (.run [.m 6 aV, .o 7 (.len bH), .m 8 bb, .o 9 (.len bX), .o 10 (.bin .neq bF cw)]) QJW) QKI)
abbrev QKP:AC:= .cond bI (.seq (.run [.o 4 (.mv (.k (.bool false)))]) .ret) .skip
abbrev QKV:AC:= .par [.m 16 aV, .m 17 bd, .o 18 (.bE cb cQ 13), .o 19 (.load cO true 13), .m 20 bb, .m 21 bd, .o 22 (.bE dc dj 13), .o 23 (.load dm true 13), .c 24 sW [cV,dD], .o 25 (.un .not dd)] [(0,0),(1,0),(2,0),(3,0),(4,0),(5,0),(6,0),(7,0),(8,0),(9,0)]
abbrev QKY:AC:= .cond di (.seq (.run [.o 4 (.mv (.k (.bool false)))]) .ret) .skip
abbrev QL4:AC:= .seq (.cond bL .skip (.exit 0)) (.seq (.block 1 (.seq (.run [.m 15 bP, .m 5 ct]) (.seq QKV QKY))) (.run [.o 26 (.bin .add bP (.k (.int .i64 1))), .m 13 ez]))
abbrev QL8:AC:= .seq (.run [.m 11 aV, .o 12 (.len bO), .o 13 (.mv (.k (.int .i64 0)))]) (.block 0 (.loop (.seq (.run [.o 14 (.bin .lss bP bV)]) QL4)))
abbrev QLB:AC:= .seq QL8 (.seq (.run [.o 4 (.mv (.k (.bool true)))]) .ret)
abbrev QLD:AC:= .seq (.run [.o 4 (.mv (.k (.bool false)))]) (.seq (.seq (.run [.m 6 aV, .o 7 (.len bH), .m 8 bb, .o 9 (.len bX), .o 10 (.bin .neq bF cw)]) QKP) QLB)
abbrev QLM:AC:= .cond bP (.seq (.run [.o 2 (.mv (.k (.bool false)))]) .ret) .skip
abbrev QLR:AC:= .seq (.block 1 (.seq (.run [.o 9 (.bE bd bF 1), .o 10 (.load cw false 1), .m 4 bI]) (.seq (.run [.m 11 cT, .c 12 o7 [bO], .o 13 (.un .not bV)]) QLM))) (.run [.o 14 (.bin .add bF (.k (.int .i64 1))), .m 7 bL])
abbrev QLV:AC:= .block 0 (.loop (.seq (.run [.o 8 (.bin .lss bF bH)]) (.seq (.cond bX .skip (.exit 0)) QLR)))
abbrev QLZ:AC:= .seq (.seq (.run [.m 5 aV, .o 6 (.len bd), .o 7 (.mv (.k (.int .i64 0)))]) QLV) (.seq (.run [.o 2 (.mv (.k (.bool true)))]) .ret)
abbrev QM0:AC:= .seq (.run [.o 2 (.mv (.k (.bool false)))]) QLZ
abbrev QM5:AC:= .cond ct (.seq (.run [.o 6 (.mv (.k (.bool false)))]) .ret) .skip
abbrev QMC:AC:= .par [.m 29 aV, .o 30 (.dN fa), .o 31 (.ah fk 0), .o 32 (.load fe false 1), .o 33 (.bin .gtr fv (.k (.int .i64 200))), .m 34 fp, .g 35 34 false (.ah bX 0), .g 36 34 false (.load fz false 1), .g 37 34 false (.mv aV), .g 38 34 false (.dN fQ), .g 39 34 false (.ah gx 0), .g 40 34 false (.load gh false 1), .g 41 34 false (.bin .neq fI gK), .o 42 (.pick fA (.k (.bool true)) gk), .m 43 ie, .g 44 43 false (.ah bX 2), .g 45 43 false (.load iR false 1), .d 46 43 false ox [jg], .g 47 43 false (.un .not jh), .o 48 (.pick iy (.k (.bool true)) jz), .m 49 iS, .g 50 49 false (.load bX true 13), .d 51 49 false vO [jQ], .g 52 49 false (.un .not ji), .o 53 (.pick iX (.k (.bool true)) jA)] [(0,0),(1,0),(2,0),(3,0),(4,0),(5,0),(6,0),(7,0),(8,0),(9,0),(10,0),(11,0),(12,0),(13,0),(14,0),(15,0),(16,0),(17,0),(18,0),(19,0),(20,0),(21,0),(22,0),(23,0),(24,0)]
abbrev QMF:AC:= .cond jR (.seq (.run [.o 6 (.mv (.k (.bool false)))]) .ret) .skip
abbrev QMK:AC:= .cond tY (.seq (.run [.o 6 (.mv (.k (.bool false)))]) .ret) .skip
abbrev QMM:AC:= .seq (.seq QMC QMF) (.seq (.run [.m 54 aV, .o 55 (.ah bX 11), .o 56 (.load kp false 1), .m 57 df, .o 58 (.bin .add lO (.k (.int .i64 1))), .c 59 lq [kb,lz,lA], .o 60 (.un .not kq), .m 61 nq, .g 62 61 false (.mv aV), .g 63 61 false (.ah bX 12), .g 64 61 false (.load nZ false 1), .g 65 61 false (.mv df), .g 66 61 false (.bin .add rX (.k (.int .i64 1))), .d 67 61 false lq [oC,pS,s6], .g 68 61 false (.un .not qw), .o 69 (.pick nY (.k (.bool true)) ra)]) QMK)
abbrev QMO:AC:= .seq (.run [.o 20 (.bE cb cO 13), .o 21 (.load dc true 13), .o 8 (.alloc [(.int .i64 0),(.int .i64 0),(.slice .full 0 []),(.str []),(.str []),(.int .i64 0),(.int .i64 0),(.str []),(.slice .full 0 []),(.bool false),(.slice .full 0 []),(.slice .full 0 []),(.slice .full 0 [])]), .op none none (.store bX dj 13)]) (.seq (.run [.m 22 aV, .o 23 (.dN dm), .o 24 (.ah dD 0), .o 25 (.load dd false 1), .o 26 (.bin .add di (.k (.int .i64 1))), .o 27 (.dN dm), .o 28 (.ah ek 0), .op none none (.store eZ ez 1)]) QMM)
abbrev QMS:AC:= .seq (.cond cV .skip (.exit 0)) (.seq (.block 1 QMO) (.run [.o 70 (.bin .add cO (.k (.int .i64 1))), .m 18 rh]))
abbrev QMW:AC:= .seq (.run [.m 16 bb, .o 17 (.len cb), .o 18 (.mv (.k (.int .i64 0)))]) (.block 0 (.loop (.seq (.run [.o 19 (.bin .lss cO cQ)]) QMS)))
abbrev QMZ:AC:= .seq QMW (.seq (.run [.o 6 (.mv (.k (.bool true)))]) .ret)
abbrev QN0:AC:= .seq (.seq (.run [.m 9 df, .o 10 (.bin .gtr cw (.k (.int .i64 12))), .m 11 bI, .g 12 11 true (.mv bb), .g 13 11 true (.len bV), .g 14 11 true (.bin .gtr bP (.k (.int .i64 0))), .o 15 (.pick bO bL (.k (.bool false)))]) QM5) QMZ
abbrev QN1:AC:= .seq (.run [.o 6 (.mv (.k (.bool false)))]) QN0
abbrev QND:AC:= .block 1 (.seq (.run [.m 10 bX, .m 5 bI]) (.seq (.run [.m 11 bb, .m 12 aV, .m 13 bd, .o 14 (.bE bV bP 1), .o 15 (.load bL false 1), .o 16 (.bin .eql bO ct)]) (.cond cb (.seq (.run [.m 17 bd, .m 4 cQ]) .ret) .skip)))
abbrev QNG:AC:= .seq (.cond cw .skip (.exit 0)) (.seq QND (.run [.o 18 (.bin .add bX (.k (.int .i64 1))), .m 8 cO]))
abbrev QNK:AC:= .seq (.run [.m 6 aV, .o 7 (.len bH), .o 8 (.mv (.k (.int .i64 0)))]) (.block 0 (.loop (.seq (.run [.o 9 (.bin .lss bX bF)]) QNG)))
abbrev QNM:AC:= .seq (.run [(.o 4 (.mv (.k (.int .i64 (-1)))))]) .ret
abbrev QNO:AC:= .seq (.run [.o 4 (.mv (.k (.int .i64 0)))]) (.seq QNK QNM)
abbrev QNX:AC:= .cond cb (.seq (.run [.o 2 (.mv (.k (.bool true)))]) .ret) .skip
abbrev QO0:AC:= .block 1 (.seq (.run [.m 9 bF, .o 10 (.bE bd bF 1), .o 11 (.load bI false 1), .m 3 cw, .m 4 bO]) (.seq (.run [.m 12 aV, .m 13 bD, .o 14 (.KZ 1 bV none (some bP)), .m 15 cT, .c 16 cM [bL,ct]]) QNX))
abbrev QO3:AC:= .seq (.cond bX .skip (.exit 0)) (.seq QO0 (.run [.o 17 (.bin .add bF (.k (.int .i64 1))), .m 7 cQ]))
abbrev QO7:AC:= .seq (.run [.m 5 aV, .o 6 (.len bd), .o 7 (.mv (.k (.int .i64 0)))]) (.block 0 (.loop (.seq (.run [.o 8 (.bin .lss bF bH)]) QO3)))
abbrev QOA:AC:= .seq QO7 (.seq (.run [.o 2 (.mv (.k (.bool false)))]) .ret)
abbrev QOB:AC:= .seq (.run [.o 2 (.mv (.k (.bool false)))]) QOA
abbrev QOI:AC:= .par [.m 17 bD, .m 18 bD, .o 19 (.dN cO), .o 20 (.ah cV 3), .o 21 (.load dc false 1), .m 22 bD, .o 23 (.dN dm), .o 24 (.ah dD 2), .o 25 (.load dd false 1), .o 26 (.len di), .o 27 (.bin .add ez (.k (.int .i64 1))), .o 28 (.c9 [(.int .i64 0)] 1 1 [(0,ek)]), .o 29 (.app 1 8 dj eZ), .o 30 (.dN cQ), .o 31 (.ah fk 3), .op none none (.store fe fa 1)] [(1,0),(2,0),(3,0),(4,0),(5,0),(6,0),(7,0),(8,0),(9,0),(10,0),(11,0),(12,0),(0,0),(13,0),(14,0),(15,0)]
abbrev QOK:AC:= .par [.m 38 bD, .m 39 bD, .o 40 (.dN gh), .o 41 (.ah gK 4), .o 42 (.load gk false 1), .m 43 bD, .o 44 (.dN iy), .o 45 (.ah iR 2), .o 46 (.load jg false 1), .o 47 (.len jh), .o 48 (.bin .add jz (.k (.int .i64 1))), .o 49 (.c9 [(.int .i64 0)] 1 1 [(0,iS)]), .o 50 (.app 1 8 ie iX), .o 51 (.dN gx), .o 52 (.ah ji 4), .op none none (.store jA jQ 1)] [(1,0),(2,0),(3,0),(4,0),(5,0),(6,0),(7,0),(8,0),(9,0),(10,0),(11,0),(12,0),(0,0),(13,0),(14,0),(15,0)]
abbrev QOL:AC:= .seq (.run [.m 32 bD, .o 33 (.ah bd 3), .o 34 (.load fp false 1), .m 35 cT,(.o 36 (.build [(.int .i64 0),(.int .i64 0),(.slice .full 0 []),(.str []),(.str []),(.int .i64 0),(.int .i64 0),(.str []),(.slice .full 0 []),(.bool false),(.slice .full 0 []),(.slice .full 0 []),(.slice .full 0 []),(.int .i64 0),(.int .i64 0),(.int .i64 0),(.int .i64 0)] [(13,(1,fz)),(15,(1,(.k (.int .i64 (-1)))))])), .c 37 kV [fv,fA,fI]]) QOK
abbrev QOQ:AC:= .seq (.block 1 (.seq (.run [.m 14 bV, .o 15 (.bE bI bV 5), .o 16 (.load ct true 5), .o 5 (.alloc [(.str []),(.slice .full 0 []),(.slice .full 0 []),(.slice .full 0 []),(.slice .full 0 [])]), .m 4 bL, .op none none (.store bd cb 5)]) (.seq QOI QOL))) (.run [.o 53 (.bin .add bV (.k (.int .i64 1))), .m 12 jR])
abbrev QOU:AC:= .block 0 (.loop (.seq (.run [.o 13 (.bin .lss bV bO)]) (.seq (.cond bP .skip (.exit 0)) QOQ)))
abbrev QOY:AC:= .seq (.seq (.run [.o 9 (.ah bb 1), .o 10 (.load cw false 1), .o 11 (.len bI), .o 12 (.mv (.k (.int .i64 0)))]) QOU) (.seq (.run [.m 54 bD, .m 2 kb]) .ret)
abbrev QP0:AC:= .seq (.run [.o 1 (.box aV), .o 2 (.mv (.k .fS))]) (.seq (.run [.o 6 (.load bb true 2), .o 7 (.build [(.slice .full 0 []),(.slice .full 0 []),(.slice .full 0 []),(.slice .full 0 []),(.slice .full 0 [])] [(0,(2,bH))]), .o 8 (.box bF), .m 3 bX]) QOY)
abbrev QPB:AC:= .seq (.block 1 (.seq (.run [.o 11 (.bE bF cw 2), .o 12 (.load bO true 2), .o 5 (.alloc [(.str []),(.bool false)]), .op none none (.store bd bV 2)]) (.run [.m 13 bD, .o 14 (.ah bd 0), .o 15 (.load bL false 1), .o 16 (.c9 [(.str [])] 1 1 [(0,ct)]), .o 17 (.app 1 16 bP cb), .m 3 cQ]))) (.run [.o 18 (.bin .add cw (.k (.int .i64 1))), .m 9 cO])
abbrev QPF:AC:= .block 0 (.loop (.seq (.run [.o 10 (.bin .lss cw bX)]) (.seq (.cond bI .skip (.exit 0)) QPB)))
abbrev QPJ:AC:= .seq (.seq (.run [.o 6 (.ah bb 1), .o 7 (.load bH false 1), .o 8 (.len bF), .o 9 (.mv (.k (.int .i64 0)))]) QPF) (.seq (.run [.m 19 bD, .o 20 (.ah bb 2), .o 21 (.load dc false 1), .o 22 (.app 1 16 cV dj), .m 2 dm]) .ret)
abbrev QPL:AC:= .seq (.run [.o 1 (.box aV), .o 2 (.mv (.k (.slice .full 0 [])))]) (.seq (.run [.o 3 (.mv (.k (.slice .full 0 [])))]) QPJ)
abbrev QPP:AC:= .seq (.run [.o 4 (.mv (.k (.bool false)))]) (.seq (.run [.m 5 aV, .m 6 bb, .c 7 mb [bd,bH], .o 8 (.bin .geq bF (.k (.int .i64 0))), .m 4 bX]) .ret)
abbrev QPT:AC:= .seq (.run [.o 3 (.mv (.k (.bool false)))]) (.seq (.run [.o 4 (.ah bb 0), .o 5 (.load cT false 1), .m 6 aV, .c 7 cM [bd,bH], .m 3 bF]) .ret)
abbrev QPX:AC:= .seq (.run [.o 4 (.mv (.k (.bool false)))]) (.seq (.run [.m 5 aV, .m 6 bb, .c 7 jZ [bd,bH], .o 8 (.bin .geq bF (.k (.int .i64 0))), .m 4 bX]) .ret)
abbrev QPZ:AC:= .par [.m 5 aV, .o 6 (.dN bd), .o 7 (.ah bH 2), .o 8 (.load bF false 1), .m 9 aV, .o 10 (.dN cw), .o 11 (.ah bI 3), .o 12 (.load bO false 1), .m 13 bb, .o 14 (.bE bV bP 1), .o 15 (.load bL false 1), .o 16 (.bin .sub ct (.k (.int .i64 1))), .m 17 aV, .o 18 (.dN cQ), .o 19 (.ah cO 4), .o 20 (.load cV false 1), .m 21 bb, .o 22 (.bE dc dj 1), .o 23 (.load dm false 1), .o 24 (.bin .sub dD (.k (.int .i64 1))), .o 25 (.KZ 17 bX (some cb) (some dd)), .m 4 di] [(0,0),(1,0),(2,0),(3,0),(4,0),(5,0),(6,0),(7,0),(8,0),(9,0),(10,0),(11,0),(12,0),(13,0),(14,0),(15,0),(16,0),(17,0),(18,0),(19,0),(20,0),(21,0)]
abbrev QQ1:AC:= .seq (.run [.o 4 (.mv (.k (.slice .full 0 [])))]) (.seq QPZ .ret)
abbrev QQA:AC:= .cond dm (.seq (.run [.o 8 (.mv (.k (.bool false)))]) .ret) .skip
abbrev QQC:AC:= .seq (.run [.o 16 (.bE bV bL 1), .o 17 (.load cb false 1), .m 10 cQ]) (.seq (.run [.o 18 (.load cT true 2), .o 19 (.load bd true 5), .m 20 bI, .c 21 xx [cO,cV,dc], .o 22 (.bin .eql dj (.k (.int .i64 0)))]) QQA)
abbrev QQG:AC:= .seq (.cond ct .skip (.exit 0)) (.seq (.block 1 QQC) (.run [.o 23 (.bin .add bL (.k (.int .i64 1))), .m 14 dD]))
abbrev QQK:AC:= .seq (.run [.o 11 (.load bF true 13), .c 12 sX [bO], .o 13 (.len bV), .o 14 (.mv (.k (.int .i64 0)))]) (.block 0 (.loop (.seq (.run [.o 15 (.bin .lss bL bP)]) QQG)))
abbrev QQN:AC:= .seq QQK (.seq (.run [.o 24 (.ah bF 1), .o 25 (.load dd false 1), .o 26 (.bin .neq di (.k (.int .i64 4))), .m 27 ez, .g 28 27 false (.ah bF 4), .g 29 27 false (.load eZ false 1), .g 30 27 false (.bin .neq fa (.k (.str [109,97,105,110]))), .g 31 27 false (.mv fk), .g 32 31 true (.mv df), .g 33 31 true (.ah bF 4), .g 34 31 true (.load fp false 1), .d 35 31 true cM [fv,fA], .g 36 27 false (.pick fe fz (.k (.bool false))), .o 37 (.pick ek (.k (.bool true)) fI), .m 8 fQ]) .ret)
abbrev QQO:AC:= .seq (.run [.o 4 (.box aV), .o 5 (.box bb), .o 7 (.box bD), .o 8 (.mv (.k (.bool false)))]) QQN
abbrev QQT:AC:= .cond cw (.seq (.run [.o 4 (.mv (.k (.bool false)))]) .ret) .skip
abbrev QR4:AC:= .seq (.run [.o 15 (.bE bO bP 5), .o 16 (.load ct true 5), .o 6 (.alloc [(.str []),(.slice .full 0 []),(.slice .full 0 []),(.slice .full 0 []),(.slice .full 0 [])]), .op none none (.store bH cb 5)]) (.seq (.run [.o 17 (.ah bH 0), .o 18 (.load cQ false 1), .o 19 (.ah bD 4), .o 20 (.load cV false 1), .o 21 (.bin .eql cO dc)]) (.cond dj (.seq (.run [.o 22 (.ah bH 1), .o 23 (.load dm false 1), .o 24 (.ah bD 10), .o 25 (.load dd false 1), .c 26 xy [dD,di], .m 4 ez]) .ret) .skip))
abbrev QR8:AC:= .seq (.cond bL .skip (.exit 0)) (.seq (.block 1 QR4) (.run [.o 27 (.bin .add bP (.k (.int .i64 1))), .m 13 ek]))
abbrev QRC:AC:= .seq (.run [.o 10 (.ah df 1), .o 11 (.load bI false 1), .o 12 (.len bO), .o 13 (.mv (.k (.int .i64 0)))]) (.block 0 (.loop (.seq (.run [.o 14 (.bin .lss bP bV)]) QR8)))
abbrev QRF:AC:= .seq QRC (.seq (.run [.o 4 (.mv (.k (.bool false)))]) .ret)
abbrev QRG:AC:= .seq (.seq (.run [.o 7 (.ah bD 1), .o 8 (.load bF false 1), .o 9 (.bin .neq bX (.k (.int .i64 4)))]) QQT) QRF
abbrev QRH:AC:= .seq (.run [.o 2 (.box aV), .o 3 (.box bb), .o 4 (.mv (.k (.bool false)))]) QRG
abbrev QRN:AC:= .seq (.run [.o 3 (.load bb true 2), .c 4 nr [bD], .o 5 (.uV cT 0 false 1), .o 6 (.bin .neq bd (.k (.int .i64 0)))]) (.cond bH (.seq (.run [.o 2 (.mv (.k .fS))]) .ret) .skip)
abbrev QRR:AC:= .seq (.run [.o 1 (.box aV), .o 2 (.mv (.k .fS))]) (.seq QRN (.seq (.run [.o 7 (.load bb true 2), .c 8 nH [bF], .m 2 bX]) .ret))
abbrev QS0:AC:= .cond cb (.seq (.run [.m 17 aV, .m 4 cQ, .o 5 (.mv (.k (.bool false)))]) .ret) .skip
abbrev QS5:AC:= .block 1 (.seq (.run [.o 12 (.bE bX bI 1), .o 13 (.load bV false 1), .m 7 bP]) (.seq (.seq (.run [.m 14 aV, .m 15 bF, .c 16 cM [bL,ct]]) QS0) (.run [.m 18 aV, .m 19 bF, .o 20 (.c9 [(.str [])] 1 1 [(0,cV)]), .o 21 (.app 1 16 cO dc), .m 0 dj])))
abbrev QS8:AC:= .seq (.cond bO .skip (.exit 0)) (.seq QS5 (.run [.o 22 (.bin .add bI (.k (.int .i64 1))), .m 10 dm]))
abbrev QSC:AC:= .seq (.run [.m 8 bb, .o 9 (.len bX), .o 10 (.mv (.k (.int .i64 0)))]) (.block 0 (.loop (.seq (.run [.o 11 (.bin .lss bI cw)]) QS8)))
abbrev QSF:AC:= .seq QSC (.seq (.run [.m 23 aV, .m 4 dD, .o 5 (.mv (.k (.bool true)))]) .ret)
abbrev QSG:AC:= .seq (.run [.o 4 (.mv (.k (.slice .full 0 []))), .o 5 (.mv (.k (.bool false)))]) QSF
abbrev QSM:AC:= .seq (.run [.o 11 (.bin .eql cw (.k (.int .i64 7))), .m 10 bO]) (.cond bI .skip (.run [.o 12 (.bin .eql cw (.k (.int .i64 8))), .m 10 bV]))
abbrev QSW:AC:= .cond bI (.seq (.run [.o 13 (.ah bD 16), .o 14 (.load bP false 1), .o 15 (.bin .neq bL (.k (.int .i64 0))), .m 4 ct]) .ret) (.seq (.run [.o 17 (.bin .eql cw (.k (.int .i64 10))), .m 16 cQ]) (.cond cb (.seq (.run [.m 19 aV, .o 20 (.ah bD 13), .o 21 (.load dc false 1), .o 22 (.ah bD 0), .o 23 (.ah dm 3), .o 24 (.load dD false 1), .c 25 sY [cV,dj,dd], .m 18 di, .o 26 (.ext cO 0), .o 27 (.ext cO 1), .m 5 ez, .m 6 ek]) (.seq (.run [.m 28 bH, .m 4 eZ]) .ret)) .skip))
abbrev QT2:AC:= .seq (.seq (.run [.o 7 (.ah bD 0), .o 8 (.ah bF 1), .o 9 (.load bX false 1)]) (.block 0 (.seq QSM QSW))) (.seq (.run [.o 4 (.mv (.k (.bool true)))]) .ret)
abbrev QT3:AC:= .seq (.run [.o 3 (.box bb), .o 4 (.mv (.k (.bool false)))]) QT2
abbrev QT8:AC:= .cond cb (.seq (.run [.o 4 (.mv (.k (.slice .full 0 [])))]) .ret) .skip
abbrev QTS:AC:= .seq (.run [.o 43 (.bE gh gk 1), .o 44 (.load iy false 1), .m 12 iR]) (.seq (.run [.o 45 (.ah df 0), .o 46 (.load jg false 1), .m 47 bV, .c 48 cM [jh,jz]]) (.cond iS (.run [.m 49 bH, .m 50 bV, .o 51 (.c9 [(.str [])] 1 1 [(0,jQ)]), .o 52 (.app 1 16 iX ji), .m 6 jA]) .skip))
abbrev QTW:AC:= .seq (.cond ie .skip (.exit 4)) (.seq (.block 5 QTS) (.run [.o 53 (.bin .add gk (.k (.int .i64 1))), .m 41 jR]))
abbrev QU0:AC:= .seq (.run [.o 37 (.ah bI 0), .o 38 (.load fQ true 13), .c 39 sX [gx], .o 40 (.len gh), .o 41 (.mv (.k (.int .i64 0)))]) (.block 4 (.loop (.seq (.run [.o 42 (.bin .lss gk gK)]) QTW)))
abbrev QU4:AC:= .seq (.block 3 (.seq (.run [.o 35 (.bE fe fp 17), .o 36 (.load fz true 17), .o 10 (.alloc [(.int .i64 0),(.int .i64 0),(.slice .full 0 []),(.str []),(.str []),(.int .i64 0),(.int .i64 0),(.str []),(.slice .full 0 []),(.bool false),(.slice .full 0 []),(.slice .full 0 []),(.slice .full 0 []),(.int .i64 0),(.int .i64 0),(.int .i64 0),(.int .i64 0)]), .op none none (.store bI fI 17)]) QU0)) (.run [.o 54 (.bin .add fp (.k (.int .i64 1))), .m 33 kb])
abbrev QU8:AC:= .block 2 (.loop (.seq (.run [.o 34 (.bin .lss fp fv)]) (.seq (.cond fA .skip (.exit 2)) QU4)))
abbrev QUA:AC:= .seq (.run [.o 25 (.bE dj dD 1), .o 26 (.load di false 1), .m 8 ez]) (.seq (.run [.m 27 bd, .m 28 bd, .m 29 bX, .c 30 n8 [eZ,fa], .c 31 iD [ek,fk], .o 32 (.len fe), .o 33 (.mv (.k (.int .i64 0)))]) QU8)
abbrev QUE:AC:= .seq (.cond dd .skip (.exit 0)) (.seq (.block 1 QUA) (.run [.o 55 (.bin .add dD (.k (.int .i64 1))), .m 23 kp]))
abbrev QUI:AC:= .seq (.run [.m 19 bd, .m 20 bb, .c 21 zu [cV,dc], .o 22 (.len dj), .o 23 (.mv (.k (.int .i64 0)))]) (.block 0 (.loop (.seq (.run [.o 24 (.bin .lss dD dm)]) QUE)))
abbrev QUP:AC:= .seq (.run [.o 17 (.load df true 2), .c 18 nH [cQ], .m 5 cO]) (.seq (.run [.o 6 (.mv (.k (.slice .full 0 [])))]) (.seq QUI (.seq (.run [.m 56 bH, .c 57 km [lz]]) (.seq (.run [.m 58 bH, .c 59 kK [lA], .m 4 kq]) .ret))))
abbrev QUR:AC:= .seq (.run [.o 2 (.box aV), .o 4 (.mv (.k (.slice .full 0 [])))]) (.seq (.seq (.run [.o 13 (.load df true 2), .m 14 bb, .c 15 vP [bP,bL], .o 16 (.un .not ct)]) QT8) QUP)
abbrev QV4:AC:= .cond fA (.seq (.run [.o 4 (.mv (.k (.bool false)))]) .ret) .skip
abbrev QV7:AC:= .seq (.seq (.run [.m 18 bd, .o 19 (.ah bF 1), .o 20 (.load cV false 1), .c 21 cM [cO,dc], .m 22 dj, .g 23 22 false (.ah bF 1), .g 24 22 false (.load dD false 1), .g 25 22 false (.ah df 3), .g 26 22 false (.load di false 1), .g 27 22 false (.bin .eql dd ez), .o 28 (.pick dm (.k (.bool true)) ek), .m 29 eZ, .g 30 29 false (.mv bb), .g 31 29 false (.ah bF 1), .g 32 29 false (.load fe false 1), .d 33 29 false cM [fk,fv], .o 34 (.pick fa (.k (.bool true)) fp)]) QV4) (.run [.m 35 bd, .o 36 (.ah bF 1), .o 37 (.load fI false 1), .o 38 (.c9 [(.str [])] 1 1 [(0,fQ)]), .o 39 (.app 1 16 fz gx), .m 5 gh])
abbrev QVA:AC:= .block 1 (.seq (.run [.o 13 (.bE cw bO 6), .o 14 (.load bP true 6), .o 7 (.alloc [(.bool false),(.str []),(.int .i64 0),(.int .i64 0),(.str []),(.slice .full 0 [])]), .op none none (.store bF bL 6)]) (.seq (.seq (.run [.o 15 (.ah bF 0), .o 16 (.load ct false 1), .o 17 (.un .not cb)]) (.cond cQ (.exit 1) .skip)) QV7))
abbrev QVD:AC:= .seq (.cond bV .skip (.exit 0)) (.seq QVA (.run [.o 40 (.bin .add bO (.k (.int .i64 1))), .m 11 gK]))
abbrev QVH:AC:= .seq (.run [.o 8 (.ah df 10), .o 9 (.load bX false 1), .o 10 (.len cw), .o 11 (.mv (.k (.int .i64 0)))]) (.block 0 (.loop (.seq (.run [.o 12 (.bin .lss bO bI)]) QVD)))
abbrev QVK:AC:= .seq QVH (.seq (.run [.o 4 (.mv (.k (.bool true)))]) .ret)
abbrev QVM:AC:= .seq (.run [.o 2 (.box aV), .o 4 (.mv (.k (.bool false)))]) (.seq (.run [.o 5 (.mv (.k (.slice .full 0 [])))]) QVK)
abbrev QVT:AC:= .seq (.run [(.o 13 (.build [(.int .i64 0),(.int .i64 0)] [(0,(1,(.k (.int .i64 4))))])), .o 2 (.mv (.k (.slice .full 0 []))), .op none none (.store bD bP 2)]) .ret
abbrev QVZ:AC:= .cond cQ (.seq (.run [.m 18 cT, .m 19 aV, .o 20 (.nk cV), .o 21 (.build [(.int .i64 0),(.str []),(.int .i64 0),(.int .i64 0)] [(3,(1,dc))]), .o 22 (.c9 [(.int .i64 0),(.str []),(.int .i64 0),(.int .i64 0)] 4 1 [(0,dj)]), .o 23 (.app 4 40 cO dm), .o 24 (.build [(.int .i64 0),(.int .i64 0)] []), .m 2 dD, .op none none (.store bD dd 2)]) .ret) .skip
abbrev QWD:AC:= .cond jz (.goto 1) (.seq (.run [.m 51 cw, .c 52 qt [ji], .m 50 jA]) (.cond jQ (.goto 2) (.seq (.run [.m 54 cw, .c 55 rB [kb], .m 53 kp]) (.cond jR (.goto 3) .skip))))
abbrev QWF:AC:= .cond fk (.seq (.run [.m 45 bH, .o 46 (.bin .add jg (.k (.int .i64 1))), .m 6 jh]) (.goto 0)) (.seq (.run [.m 48 cw, .o 49 (.bin .eql iS (.k (.int .u8 35))), .m 47 iX]) QWD)
abbrev QWH:AC:= .block 0 (.seq (.run [.m 31 cw, .o 32 (.bin .eql fe (.k (.int .u8 32))), .m 33 fv, .g 34 33 false (.mv cw), .g 35 33 false (.bin .eql fA (.k (.int .u8 9))), .o 36 (.pick fp (.k (.bool true)) fz), .m 37 fI, .g 38 37 false (.mv cw), .g 39 37 false (.bin .eql gx (.k (.int .u8 10))), .o 40 (.pick fQ (.k (.bool true)) gh), .m 41 gK, .g 42 41 false (.mv cw), .g 43 41 false (.bin .eql ie (.k (.int .u8 13))), .o 44 (.pick gk (.k (.bool true)) iy), .m 30 iR]) QWF)
abbrev QWV:AC:= .seq (.seq (.run [.m 72 bH, .m 73 aV, .o 74 (.nk xF), .o 75 (.bin .lss vS xG), .m 76 xH, .g 77 76 true (.mv aV), .g 78 76 true (.mv bH), .g 79 76 true (.qf xI vU), .g 80 76 true (.bin .neq Bm (.k (.int .u8 10))), .o 81 (.pick vT xJ (.k (.bool false)))]) (.cond xK .skip (.exit 1))) (.block 2 (.run [.m 82 bH, .o 83 (.bin .add Fb (.k (.int .i64 1))), .m 6 Fc]))
abbrev QWZ:AC:= .par [.m 87 aV, .o 88 (.ah bd 3), .o 89 (.load Fi false 1), .m 90 bH, .o 91 (.AY Fh (some Fj) (some Fk)), .o 92 (.ah bd 0), .op none none (.store Fm (.k (.int .i64 1)) 1), .o 93 (.ah bd 1), .op none none (.store HU Fl 1)] [(1,0),(2,0),(5,0),(6,0),(0,0),(3,0),(4,0),(7,0),(8,0)]
abbrev QX3:AC:= .seq (.run [.o 94 (.ah bd 1), .o 95 (.load HV false 1), .c 96 wH [HW]]) (.cond L6 (.run [.o 97 (.ah bd 0), .op none none (.store RP (.k (.int .i64 3)) 1)]) .skip)
abbrev QXD:AC:= .seq (.seq (.run [.m 103 bH, .m 104 aV, .o 105 (.nk KF), .o 106 (.bin .lss KE KH), .m 107 KI, .g 108 107 true (.mv aV), .g 109 107 true (.mv bH), .g 110 107 true (.qf KM KN), .d 111 107 true rB [RS], .o 112 (.pick KK RT (.k (.bool false)))]) (.cond RU .skip (.exit 3))) (.block 4 (.run [.m 113 bH, .o 114 (.bin .add RV (.k (.int .i64 1))), .m 6 RW]))
abbrev QXG:AC:= .par [.m 115 aV, .o 116 (.ah bd 3), .o 117 (.load RY false 1), .m 118 bH, .o 119 (.AY RX (some RZ) (some R0)), .o 120 (.ah bd 0), .op none none (.store R3 (.k (.int .i64 2)) 1), .o 121 (.ah bd 1), .op none none (.store R4 R1 1), .o 7 (.mv (.k (.int .i64 2)))] [(1,0),(2,0),(5,0),(6,0),(0,0),(3,0),(4,0),(7,0),(8,0),(9,0)]
abbrev QXU:AC:= .par [.m 148 bF, .o 149 (.ah bd 3), .o 150 (.load aaA false 1), .o 151 (.build [(.int .i64 0),(.int .i64 0)] [(0,(1,aaz)),(1,(1,aaB))]), .o 2 (.mv (.k (.slice .full 0 []))), .op none none (.store bD aaC 2)] [(0,0),(1,0),(2,0),(3,0),(4,0),(5,0)]
abbrev QXZ:AC:= .seq (.seq (.run [.m 141 cT, .o 142 (.len aau), .o 143 (.bin .eql aav (.k (.int .i64 2000)))]) (.cond Sc (.goto 5) .skip)) (.seq (.run [.m 144 cT, .o 145 (.load bd true 4), .o 146 (.c9 [(.int .i64 0),(.str []),(.int .i64 0),(.int .i64 0)] 4 1 [(0,KO)]), .o 147 (.app 4 40 aaw aax), .m 4 aay]) (.seq (.goto 0) (.seq (.label 5) (.seq QXU .ret))))
abbrev QY1:AC:= .seq (.label 4) (.seq (.run [.o 7 (.mv (.k (.int .i64 4)))]) QXZ)
abbrev QY4:AC:= .seq (.run [.o 133 (.ah bd 1), .o 134 (.load aam false 1), .c 135 xA [aan], .m 132 aao, .o 136 (.ext Sb 0), .o 137 (.ext Sb 1), .o 138 (.ah bd 2), .op none none (.store aar aap 1), .m 8 aaq]) (.seq (.run [.o 7 (.mv (.k (.int .i64 4)))]) (.seq (.seq (.run [.m 139 bX, .o 140 (.un .not aas)]) (.cond aat (.goto 5) .skip)) QY1))
abbrev QY5:AC:= .seq (.seq (.run [.o 122 (.ah bd 1), .o 123 (.load R5 false 1), .o 124 (.nk R6), .o 125 (.bin .gtr R7 (.k (.int .i64 1))), .m 126 R8, .g 127 126 true (.ah bd 1), .g 128 126 true (.load aah false 1), .g 129 126 true (.qf aai (.k (.int .i64 0))), .g 130 126 true (.bin .eql aaj (.k (.int .u8 48))), .o 131 (.pick R9 aak (.k (.bool false)))]) (.cond aal (.goto 5) .skip)) QY4
abbrev QY6:AC:= .seq QXG QY5
abbrev QYA:AC:= .seq (.seq (.run [.m 98 bH, .o 99 (.ah bd 3), .o 100 (.load RR false 1), .o 101 (.bin .sub RQ KA), .o 102 (.bin .gtr KB (.k (.int .i64 8)))]) (.cond KD (.goto 5) .skip)) (.seq (.goto 4) (.seq (.label 3) (.seq (.block 3 (.loop QXD)) QY6)))
abbrev QYC:AC:= .seq QX3 (.seq (.run [.o 7 (.mv (.k (.int .i64 4)))]) QYA)
abbrev QYI:AC:= .seq (.label 1) (.seq (.block 1 (.loop QWV)) (.seq (.goto 0) (.seq (.label 2) (.seq (.run [.m 84 aV, .m 85 bH, .c 86 yx [Fe,Ff], .m 6 Fg]) (.seq QWZ QYC)))))
abbrev QYM:AC:= .seq (.run [.m 62 aV, .o 63 (.ah bd 3), .o 64 (.load nZ false 1), .m 65 bH, .o 66 (.AY oC (some pS) (some rX)), .o 67 (.ah bd 1), .op none none (.store qw s6 1)]) (.seq (.run [.o 7 (.mv (.k (.int .i64 2)))]) (.seq (.seq (.run [.m 68 bH, .o 69 (.ah bd 3), .o 70 (.load tY false 1), .o 71 (.bin .gtr ra rh)]) (.cond xE (.goto 4) .skip)) (.seq (.goto 5) QYI)))
abbrev QYP:AC:= .seq (.seq (.run [.m 27 aV, .m 28 bH, .o 29 (.qf ek eZ), .m 9 fa]) QWH) (.seq (.run [.o 56 (.ah bd 0), .op none none (.store lz (.k (.int .i64 4)) 1)]) (.seq (.run [.m 57 bH, .m 58 aV, .m 59 bH, .c 60 Bi [lA,kq], .o 61 (.bin .add lO nq), .m 6 nY]) QYM))
abbrev C4:AC:= .seq (.seq (.run [.m 14 bH, .m 15 aV, .o 16 (.nk ct), .o 17 (.bin .geq bL cb)]) QVZ) (.seq (.run [.m 25 bH, .o 26 (.build [(.int .i64 0),(.str []),(.int .i64 0),(.int .i64 0)] [(3,(1,di))]), .op none none (.store bd ez 4)]) QYP)
abbrev QYT:AC:= .seq (.seq (.run [.m 10 aV, .o 11 (.nk bI), .o 12 (.bin .gtr bO (.k (.int .i64 100000)))]) (.cond bV QVT .skip)) (.seq (.label 0) C4)
abbrev QYV:AC:= .seq (.run [.o 5 (.alloc [(.int .i64 0),(.str []),(.int .i64 0),(.int .i64 0)])]) (.seq (.run [.o 6 (.mv (.k (.int .i64 0))), .o 7 (.mv (.k (.int .i64 0))), .o 8 (.mv (.k (.bool true)))]) QYT)
abbrev xL:AC:= .seq (.run [.o 4 (.mv (.k (.slice .full 0 [])))]) QYV
abbrev QYX:AC:= .scope xL
abbrev QYY:AC:= .seq (.run [.o 2 (.mv (.k (.slice .full 0 []))), .o 3 (.alloc [(.int .i64 0),(.int .i64 0)])]) QYX
abbrev QZ6:AC:= .seq (.seq (.run [.m 4 aV,(.c 5 dT [cT,(.k (.str [103,108,111,98,97,108]))])]) (.cond bd .skip (.exit 0))) (.block 1 (.run [.m 6 aV, .o 7 (.ah bD 0), .o 8 (.load bF false 1), .c 9 kn [bH,bX,(.k (.int .i64 16))], .o 10 (.ah bD 0), .op none none (.store bI cw 1)]))
abbrev QZI:AC:= .seq (.run [.o 17 (.ah bD 1), .o 18 (.load cQ false 1), .o 19 (.len cO), .o 20 (.bin .eql cV (.k (.int .i64 16)))]) (.cond dc (.seq (.run [.m 21 aV, .c 22 fx [dj,(.k (.int .i64 4))]]) (.seq (.run [.o 23 (.load bD true 2), .op none none (.store df dD 2)]) .ret)) .skip)
abbrev QZK:AC:= .par [.o 31 (.ah bD 1), .o 32 (.load fe false 1), .m 33 aV, .c 34 pQ [fp], .o 35 (.c9 [(.str []),(.slice .full 0 []),(.slice .full 0 []),(.slice .full 0 []),(.slice .full 0 [])] 5 1 [(0,fA)]), .o 36 (.app 5 112 fv fz), .o 37 (.ah bD 1), .op none none (.store fQ fI 1)] [(2,0),(3,0),(0,0),(1,1),(4,0),(5,0),(6,0),(7,0)]
abbrev QZM:AC:= .seq QZI (.seq (.run [.m 24 aV, .o 25 (.dN dd), .o 26 (.ah di 1), .o 27 (.load ez false 1), .o 28 (.bin .add ek (.k (.int .i64 1))), .o 29 (.dN dd), .o 30 (.ah fa 1), .op none none (.store fk eZ 1)]) QZK)
abbrev QZO:AC:= .seq (.seq (.run [.m 11 aV, .c 12 db [bO], .m 13 bV, .g 14 13 true (.mv aV),(.d 15 13 true ga [bL,(.k (.str [112,114,111,99]))]), .o 16 (.pick bP ct (.k (.bool false)))]) (.cond cb .skip (.exit 2))) (.block 3 QZM)
abbrev QZX:AC:= .seq (.seq (.run [.m 38 aV, .c 39 db [gx], .m 40 gh, .g 41 40 true (.mv aV), .d 42 40 true dU [gk], .g 43 40 true (.uV ie 0 false 1), .g 44 40 true (.bin .neq iy (.k (.int .i64 0))), .o 45 (.pick gK iR (.k (.bool false)))]) (.cond jg (.run [.m 46 aV, .c 47 fx [jh,(.k (.int .i64 3))]]) .skip)) (.seq (.run [.o 48 (.load bD true 2), .op none none (.store df iS 2)]) .ret)
abbrev ale:AC:= .seq (.run [.o 2 (.alloc [(.slice .full 0 []),(.slice .full 0 [])])]) (.seq (.run [.o 3 (.alloc [(.slice .full 0 []),(.slice .full 0 [])])]) (.seq (.block 0 (.loop QZ6)) (.seq (.block 2 (.loop QZO)) QZX)))
abbrev alf:AC:= .par [.o 19 (.ah bH 0), .o 20 (.load cV false 1), .o 21 (.ah bH 1), .o 22 (.load dj false 1), .c 23 mR [dm], .o 24 (.ah bH 2), .o 25 (.load dd false 1), .c 26 iM [di], .o 27 (.ah bH 4), .o 28 (.load ek false 1), .c 29 iM [eZ], .o 30 (.build [(.str []),(.slice .full 0 []),(.slice .full 0 []),(.slice .full 0 []),(.slice .full 0 [])] [(0,(1,dc)),(1,(1,dD)),(2,(1,ez)),(4,(1,fa))]), .o 7 (.alloc [(.str []),(.slice .full 0 []),(.slice .full 0 []),(.slice .full 0 []),(.slice .full 0 [])]), .op none none (.store bF fk 5)] [(2,0),(3,0),(4,0),(5,0),(6,1),(7,0),(8,0),(9,2),(10,0),(12,0),(0,0),(1,4),(11,0),(13,0)]
abbrev alg:AC:= .seq (.run [.o 17 (.bE bP ct 5), .o 18 (.load cQ true 5), .o 6 (.alloc [(.str []),(.slice .full 0 []),(.slice .full 0 []),(.slice .full 0 []),(.slice .full 0 [])]), .op none none (.store bH cO 5)]) (.seq alf (.seq (.run [.o 32 (.ah bH 3), .o 33 (.load fv false 1), .m 34 bD, .c 35 lM [fp,fA,(.k (.bool true))], .m 31 fz, .o 36 (.ext fe 0), .o 37 (.ext fe 1), .o 38 (.ah bF 3), .op none none (.store gx fI 1), .m 3 fQ]) (.run [.o 39 (.ah cT 1), .o 40 (.load gh false 1), .o 41 (.load bF true 5), .o 42 (.c9 [(.str []),(.slice .full 0 []),(.slice .full 0 []),(.slice .full 0 []),(.slice .full 0 [])] 5 1 [(0,gk)]), .o 43 (.app 5 112 gK ie), .o 44 (.ah cT 1), .op none none (.store iR iy 1)])))
abbrev alh:AC:= .seq (.cond cb .skip (.exit 0)) (.seq (.block 1 alg) (.run [.o 45 (.bin .add ct (.k (.int .i64 1))), .m 15 jg]))
abbrev ali:AC:= .seq (.run [.o 12 (.ah bb 1), .o 13 (.load bV false 1), .o 14 (.len bP), .o 15 (.mv (.k (.int .i64 0)))]) (.block 0 (.loop (.seq (.run [.o 16 (.bin .lss ct bL)]) alh)))
abbrev alj:AC:= .seq (.run [.o 3 (.mv (.k (.int .i64 0)))]) (.seq (.run [.o 8 (.ah bb 0), .o 9 (.load bX false 1), .c 10 iM [cw], .o 11 (.build [(.slice .full 0 []),(.slice .full 0 [])] [(0,(1,bI))]), .o 4 (.alloc [(.slice .full 0 []),(.slice .full 0 [])]), .op none none (.store cT bO 2)]) (.seq ali (.seq (.run [.o 46 (.load cT true 2), .op none none (.store df jh 2)]) .ret)))
abbrev alk:AC:= .seq (.run [.o 1 (.box aV), .o 2 (.alloc [(.slice .full 0 []),(.slice .full 0 [])])]) alj
abbrev alm:AC:= .seq (.run [.o 2 (.mv (.k (.bool false)))]) (.seq (.run [.m 3 aV, .o 4 (.bin .geq bD (.k (.int .u8 97))), .m 5 cT, .g 6 5 true (.mv aV), .g 7 5 true (.bin .leq bH (.k (.int .u8 122))), .o 8 (.pick bd bF (.k (.bool false))), .m 2 bX]) .ret)
abbrev aln:AC:= .seq (.seq (.run [.m 5 bb, .m 6 aV, .o 7 (.nk bH), .o 8 (.bin .lss bd bF), .m 9 bX, .g 10 9 true (.mv aV), .g 11 9 true (.mv bb), .g 12 9 true (.qf bI bO), .d 13 9 true qt [bV], .g 14 9 true (.mv bP), .g 15 14 false (.mv aV), .g 16 14 false (.mv bb), .g 17 14 false (.qf ct cb), .d 18 14 false rB [cQ], .g 19 9 true (.pick bL (.k (.bool true)) cO), .o 20 (.pick cw cV (.k (.bool false)))]) (.cond dc .skip (.exit 0))) (.block 1 (.run [.m 21 bb, .o 22 (.bin .add dj (.k (.int .i64 1))), .m 1 dm]))
abbrev alo:AC:= .seq (.run [.o 4 (.mv (.k (.int .i64 0)))]) (.seq (.block 0 (.loop aln)) (.seq (.run [.m 23 bb, .m 4 dD]) .ret))
abbrev alp:AC:= .seq (.run [.o 16 (.bin .eql bD (.k (.str [114,101,97,100]))), .m 4 cb]) (.cond cT .skip (.run [.o 17 (.bin .eql bD (.k (.str [112,114,105,110,116]))), .m 4 cQ]))
abbrev alq:AC:= .cond cT .skip (.seq (.run [.o 15 (.bin .eql bD (.k (.str [103,111,116,111]))), .m 4 ct]) (.cond cT .skip alp))
abbrev alr:AC:= .cond cT .skip (.seq (.run [.o 14 (.bin .eql bD (.k (.str [114,101,116,117,114,110]))), .m 4 bL]) alq)
abbrev als:AC:= .cond cT .skip (.seq (.run [.o 13 (.bin .eql bD (.k (.str [99,111,110,116,105,110,117,101]))), .m 4 bP]) alr)
abbrev alu:AC:= .cond cT .skip (.seq (.run [.o 12 (.bin .eql bD (.k (.str [98,114,101,97,107]))), .m 4 bV]) als)
abbrev alv:AC:= .cond cT .skip (.seq (.run [.o 11 (.bin .eql bD (.k (.str [119,104,105,108,101]))), .m 4 bO]) alu)
abbrev alw:AC:= .cond cT .skip (.seq (.run [.o 10 (.bin .eql bD (.k (.str [101,108,115,101]))), .m 4 bI]) alv)
abbrev alx:AC:= .cond cT .skip (.seq (.run [.o 9 (.bin .eql bD (.k (.str [105,102]))), .m 4 cw]) alw)
abbrev aly:AC:= .cond cT .skip (.seq (.run [.o 8 (.bin .eql bD (.k (.str [114,101,102]))), .m 4 bX]) alx)
abbrev alz:AC:= .cond cT .skip (.seq (.run [.o 7 (.bin .eql bD (.k (.str [118,97,114]))), .m 4 bF]) aly)
abbrev alA:AC:= .cond cT .skip (.seq (.run [.o 6 (.bin .eql bD (.k (.str [112,114,111,99]))), .m 4 bH]) alz)
abbrev alB:AC:= .cond cT (.seq (.run [.o 2 (.mv (.k (.bool true)))]) .ret) .skip
abbrev alC:AC:= .seq (.seq (.run [.o 5 (.bin .eql bD (.k (.str [103,108,111,98,97,108]))), .m 4 bd]) alA) alB
abbrev alD:AC:= .seq (.seq (.run [.m 3 aV]) (.block 0 alC)) (.seq (.run [.o 2 (.mv (.k (.bool false)))]) .ret)
abbrev alE:AC:= .seq (.run [.o 2 (.mv (.k (.bool false)))]) alD
open Go.Proofs
theorem Gk:Has Tryz.prog vN 1 [(0,none)] QHU:=⟨Tryz.f44,by kernel_rfl,by kernel_rfl⟩
theorem J2:Has Tryz.prog zr 40 [(0,(some (true,2)))] QI2:=⟨Tryz.f45,by kernel_rfl,by kernel_rfl⟩
theorem Cg:Has Tryz.prog kx 23 [(4,none)] QIJ:=⟨Tryz.f46,by kernel_rfl,by kernel_rfl⟩
theorem qx:Has Tryz.prog gY 19 [(4,none)] QIT:=⟨Tryz.f47,by kernel_rfl,by kernel_rfl⟩
theorem tL:Has Tryz.prog lX 69 [(4,none)] QJR:=⟨Tryz.f48,by kernel_rfl,by kernel_rfl⟩
theorem Fo:Has Tryz.prog mH 26 [(4,none)] QKK:=⟨Tryz.f54,by kernel_rfl,by kernel_rfl⟩
theorem Fp:Has Tryz.prog mI 27 [(4,none)] QLD:=⟨Tryz.f55,by kernel_rfl,by kernel_rfl⟩
theorem HY:Has Tryz.prog ox 15 [(2,none)] QM0:=⟨Tryz.f56,by kernel_rfl,by kernel_rfl⟩
theorem s7:Has Tryz.prog lq 71 [(6,none)] QN1:=⟨Tryz.f57,by kernel_rfl,by kernel_rfl⟩
theorem x9:Has Tryz.prog jZ 19 [(4,none)] QNO:=⟨Tryz.f58,by kernel_rfl,by kernel_rfl⟩
theorem Gl:Has Tryz.prog pB 18 [(2,none)] QOB:=⟨Tryz.f59,by kernel_rfl,by kernel_rfl⟩
theorem L9:Has Tryz.prog nH 55 [(2,none)] QP0:=⟨Tryz.f60,by kernel_rfl,by kernel_rfl⟩
theorem J3:Has Tryz.prog zt 23 [(2,none)] QPL:=⟨Tryz.f61,by kernel_rfl,by kernel_rfl⟩
theorem s8:Has Tryz.prog gJ 9 [(4,none)] QPP:=⟨Tryz.f62,by kernel_rfl,by kernel_rfl⟩
theorem Ed:Has Tryz.prog p6 8 [(3,none)] QPT:=⟨Tryz.f63,by kernel_rfl,by kernel_rfl⟩
theorem vV:Has Tryz.prog cM 9 [(4,none)] QPX:=⟨Tryz.f64,by kernel_rfl,by kernel_rfl⟩
theorem Ee:Has Tryz.prog iD 26 [(4,none)] QQ1:=⟨Tryz.f65,by kernel_rfl,by kernel_rfl⟩
theorem Gm:Has Tryz.prog rP 38 [(8,none)] QQO:=⟨Tryz.f66,by kernel_rfl,by kernel_rfl⟩
theorem Ad:Has Tryz.prog xv 28 [(4,none)] QRH:=⟨Tryz.f67,by kernel_rfl,by kernel_rfl⟩
theorem Ae:Has Tryz.prog sS 9 [(2,none)] QRR:=⟨Tryz.f68,by kernel_rfl,by kernel_rfl⟩
theorem J4:Has Tryz.prog rA 24 [(4,none),(5,none)] QSG:=⟨Tryz.f69,by kernel_rfl,by kernel_rfl⟩
theorem qO:Has Tryz.prog xw 29 [(4,none)] QT3:=⟨Tryz.f70,by kernel_rfl,by kernel_rfl⟩
theorem wi:Has Tryz.prog sT 60 [(4,none)] QUR:=⟨Tryz.f71,by kernel_rfl,by kernel_rfl⟩
theorem Fq:Has Tryz.prog tX 41 [(4,none)] QVM:=⟨Tryz.f72,by kernel_rfl,by kernel_rfl⟩
theorem Ot:Has Tryz.prog C1 152 [(2,none),(3,(some (true,2)))] QYY:=⟨Tryz.f73,by kernel_rfl,by kernel_rfl⟩
theorem xM:Has Tryz.prog nT 49 [(2,(some (true,2)))] ale:=⟨Tryz.f74,by kernel_rfl,by kernel_rfl⟩
theorem Gn:Has Tryz.prog rQ 47 [(2,(some (true,2)))] alk:=⟨Tryz.f75,by kernel_rfl,by kernel_rfl⟩
theorem HZ:Has Tryz.prog qt 9 [(2,none)] alm:=⟨Tryz.f76,by kernel_rfl,by kernel_rfl⟩
theorem Ou:Has Tryz.prog yx 24 [(4,none)] alo:=⟨Tryz.f77,by kernel_rfl,by kernel_rfl⟩
theorem Ma:Has Tryz.prog wH 18 [(2,none)] alE:=⟨Tryz.f78,by kernel_rfl,by kernel_rfl⟩
abbrev alG:AC:= .seq (.run [.o 1 (.box aV), .o 2 (.mv (.k (.slice .full 0 [])))]) (.seq (.run [.o 3 (.ah bb 3), .o 4 (.load bD false 1),(.c 5 nV [cT,(.k (.int .i64 1)),(.k (.int .i64 0)),(.k (.bool false)),(.k (.slice .full 0 []))]), .m 2 bd]) .ret)
abbrev alH:AC:= .par [.m 12 bD, .m 13 aV, .m 14 cT, .o 15 (.bE bP bL 13), .o 16 (.ah ct 11), .o 17 (.load cb false 1), .c 18 lu [cQ], .m 19 aV, .m 20 cT, .o 21 (.bE cV dc 13), .o 22 (.ah dj 12), .o 23 (.load dm false 1), .c 24 lu [dD], .o 25 (.bin .add cO dd), .o 26 (.bin .add bV di), .m 3 ez] [(1,0),(2,0),(3,0),(4,0),(5,0),(6,0),(7,0),(8,0),(9,0),(10,0),(11,1),(12,0),(0,0),(13,0),(14,0),(15,0)]
abbrev alI:AC:= .seq (.cond bI .skip (.exit 0)) (.seq (.block 1 (.seq (.run [.m 11 cw, .m 4 bO]) alH)) (.run [.o 27 (.bin .add cw (.k (.int .i64 1))), .m 9 ek]))
abbrev alJ:AC:= .seq (.run [.m 7 aV, .o 8 (.len bF), .o 9 (.mv (.k (.int .i64 0)))]) (.block 0 (.loop (.seq (.run [.o 10 (.bin .lss cw bX)]) alI)))
abbrev alK:AC:= .seq (.run [.o 2 (.mv (.k (.int .i64 0)))]) (.seq (.run [.m 5 aV, .o 6 (.len bd), .m 3 bH]) (.seq alJ (.seq (.run [.m 28 bD, .m 2 eZ]) .ret)))
abbrev alL:AC:= .par [.o 6 (.ah bb 2), .o 7 (.load bH false 1), .o 8 (.len bF), .o 9 (.bin .mul (.k (.int .i64 2)) bX), .o 10 (.bin .add (.k (.int .i64 8)) cw), .o 11 (.ah bb 5), .o 12 (.load bO true 4), .c 13 pK [bV,(.k (.int .i64 2000))], .o 14 (.bin .mul (.k (.int .i64 4)) bP), .o 15 (.bin .add bI bL), .m 3 ct] [(5,0),(6,0),(7,0),(0,0),(1,1),(2,0),(3,0),(4,0),(8,0),(9,0),(10,0)]
abbrev alM:AC:= .block 1 (.seq (.run [.o 21 (.bE cQ cV 6), .o 22 (.load dj true 6), .o 5 (.alloc [(.bool false),(.str []),(.int .i64 0),(.int .i64 0),(.str []),(.slice .full 0 [])]), .op none none (.store bd dm 6)]) (.run [.m 23 bD, .o 24 (.ah bd 2), .o 25 (.load dd true 4), .c 26 pK [di,(.k (.int .i64 2000))], .o 27 (.bin .mul (.k (.int .i64 4)) ez), .o 28 (.bin .add (.k (.int .i64 3)) ek), .o 29 (.bin .add dD eZ), .m 3 fa]))
abbrev alN:AC:= .seq (.cond dc .skip (.exit 0)) (.seq alM (.run [.o 30 (.bin .add cV (.k (.int .i64 1))), .m 19 fk]))
abbrev alO:AC:= .seq (.run [.o 16 (.ah bb 10), .o 17 (.load cb false 1), .o 18 (.len cQ), .o 19 (.mv (.k (.int .i64 0)))]) (.block 0 (.loop (.seq (.run [.o 20 (.bin .lss cV cO)]) alN)))
abbrev alP:AC:= .seq (.run [.o 1 (.box aV), .o 2 (.mv (.k (.int .i64 0)))]) (.seq alL (.seq alO (.seq (.run [.m 31 bD, .m 2 fe]) .ret)))
abbrev alQ:AC:= .cond dd (.seq (.run [.o 2 (.mv (.k (.bool false)))]) .ret) .skip
abbrev alR:AC:= .run [.o 32 (.ah cT 0), .o 33 (.load fv false 1), .c 34 kf [fp], .o 35 (.un .not fA), .m 36 fz, .g 37 36 false (.ah cT 1), .g 38 36 false (.load fQ false 1), .g 39 36 false (.len gx), .g 40 36 false (.bin .gtr gh (.k (.int .i64 8))), .o 41 (.pick fI (.k (.bool true)) gK), .m 42 gk, .g 43 42 false (.ah cT 2), .g 44 42 false (.load iy false 1), .g 45 42 false (.len iR), .g 46 42 false (.bin .gtr jg (.k (.int .i64 16))), .o 47 (.pick ie (.k (.bool true)) jh), .m 48 jz, .g 49 48 false (.ah cT 2), .g 50 48 false (.load iX false 1), .d 51 48 false oy [jQ], .g 52 48 false (.un .not ji), .o 53 (.pick iS (.k (.bool true)) jA), .m 54 jR, .g 55 54 false (.ah cT 4), .g 56 54 false (.load kp false 1), .d 57 54 false oy [lz], .g 58 54 false (.un .not lO), .o 59 (.pick kb (.k (.bool true)) lA)]
abbrev alS:AC:= .cond kq (.seq (.run [.o 2 (.mv (.k (.bool false)))]) .ret) .skip
abbrev alT:AC:= .cond rh (.seq (.run [.o 2 (.mv (.k (.bool false)))]) .ret) .skip
abbrev alU:AC:= .seq (.block 3 (.seq (.run [.o 65 (.bE nY nZ 2), .o 66 (.load rX true 2), .o 6 (.alloc [(.str []),(.bool false)]), .op none none (.store bH s6 2)]) (.seq (.run [.o 67 (.ah bH 0), .o 68 (.load qw false 1), .c 69 kf [ra], .o 70 (.un .not tY)]) alT))) (.run [.o 71 (.bin .add nZ (.k (.int .i64 1))), .m 63 xE])
abbrev alV:AC:= .block 2 (.loop (.seq (.run [.o 64 (.bin .lss nZ oC)]) (.seq (.cond pS .skip (.exit 2)) alU)))
abbrev alW:AC:= .seq (.seq alR alS) (.seq (.run [.o 60 (.ah cT 1), .o 61 (.load nq false 1), .o 62 (.len nY), .o 63 (.mv (.k (.int .i64 0)))]) alV)
abbrev alX:AC:= .seq (.block 1 (.seq (.run [.o 30 (.bE ez eZ 5), .o 31 (.load fk true 5), .o 4 (.alloc [(.str []),(.slice .full 0 []),(.slice .full 0 []),(.slice .full 0 []),(.slice .full 0 [])]), .op none none (.store cT fe 5)]) alW)) (.run [.o 72 (.bin .add eZ (.k (.int .i64 1))), .m 28 vS])
abbrev alY:AC:= .block 0 (.loop (.seq (.run [.o 29 (.bin .lss eZ ek)]) (.seq (.cond fa .skip (.exit 0)) alX)))
abbrev alZ:AC:= .cond xI (.seq (.run [.o 2 (.mv (.k (.bool false)))]) .ret) .skip
abbrev al0:AC:= .run [.m 83 bF, .m 84 bX, .o 85 (.bE Fc Fe 16), .o 86 (.ah Ff 0), .o 87 (.ah Fg 0), .o 88 (.load Fh false 1), .m 89 bX, .o 90 (.bin .add Fj (.k (.int .i64 1))), .o 91 (.bin .neq Fi Fk), .m 92 Fl, .g 93 92 false (.mv bF), .g 94 92 false (.mv bX), .g 95 92 false (.bE HU HV 16), .g 96 92 false (.ah HW 13), .g 97 92 false (.load L6 false 1), .g 98 92 false (.bin .gtr RP (.k (.int .i64 12))), .o 99 (.pick Fm (.k (.bool true)) RQ), .m 100 RR, .g 101 100 false (.mv bF), .g 102 100 false (.mv bX), .g 103 100 false (.bE KB KD 16), .g 104 100 false (.ah KE 0), .g 105 100 false (.load KF true 13), .d 106 100 false Bj [KH], .g 107 100 false (.un .not KI), .o 108 (.pick KA (.k (.bool true)) KK)]
abbrev al1:AC:= .cond KM (.seq (.run [.o 2 (.mv (.k (.bool false)))]) .ret) .skip
abbrev al2:AC:= .seq (.cond xK .skip (.exit 4)) (.seq (.block 5 (.seq (.run [.m 82 xJ, .m 8 Fb]) (.seq al0 al1))) (.run [.o 109 (.bin .add xJ (.k (.int .i64 1))), .m 80 KN]))
abbrev al3:AC:= .seq (.run [.m 78 bF, .o 79 (.len vU), .o 80 (.mv (.k (.int .i64 0)))]) (.block 4 (.loop (.seq (.run [.o 81 (.bin .lss xJ Bm)]) al2)))
abbrev al4:AC:= .seq al3 (.seq (.run [.o 2 (.mv (.k (.bool true)))]) .ret)
abbrev al5:AC:= .seq (.seq (.run [.m 75 bF, .o 76 (.len xH), .o 77 (.bin .gtr vT (.k (.int .i64 200)))]) alZ) al4
abbrev al6:AC:= .seq (.seq (.run [.o 25 (.ah bb 1), .o 26 (.load di false 1), .o 27 (.len ez), .o 28 (.mv (.k (.int .i64 0)))]) alY) (.seq (.run [.o 73 (.load bb true 2), .c 74 Bg [xF], .m 7 xG]) al5)
abbrev al7:AC:= .seq (.seq (.run [.o 9 (.ah bb 0), .o 10 (.load cw false 1), .o 11 (.len bI), .o 12 (.bin .gtr bO (.k (.int .i64 16))), .m 13 bV, .g 14 13 false (.ah bb 1), .g 15 13 false (.load bL false 1), .g 16 13 false (.len ct), .g 17 13 false (.bin .gtr cb (.k (.int .i64 16))), .o 18 (.pick bP (.k (.bool true)) cQ), .m 19 cO, .g 20 19 false (.ah bb 0), .g 21 19 false (.load dc false 1), .d 22 19 false oy [dj], .g 23 19 false (.un .not dm), .o 24 (.pick cV (.k (.bool true)) dD)]) alQ) al6
abbrev al8:AC:= .seq (.run [.o 1 (.box aV), .o 2 (.mv (.k (.bool false)))]) al7
abbrev al9:AC:= .seq (.seq (.run [.m 12 bH, .o 13 (.bin .gtr bV (.k (.int .i64 0)))]) (.cond bP (.run [.m 14 bd, .m 15 bb, .o 16 (.bin .add bL ct), .m 5 cb]) .skip)) (.run [.m 17 bd, .m 18 aV, .m 19 bH, .o 20 (.bE cO cV 1), .o 21 (.load dc false 1), .o 22 (.bin .add cQ dj), .m 5 dm])
abbrev ama:AC:= .seq (.cond bI .skip (.exit 0)) (.seq (.block 1 (.seq (.run [.m 11 cw, .m 6 bO]) al9)) (.run [.o 23 (.bin .add cw (.k (.int .i64 1))), .m 9 dD]))
abbrev amb:AC:= .seq (.run [.m 7 aV, .o 8 (.len bF), .o 9 (.mv (.k (.int .i64 0)))]) (.block 0 (.loop (.seq (.run [.o 10 (.bin .lss cw bX)]) ama)))
abbrev amc:AC:= .seq (.run [.o 4 (.mv (.k (.str [])))]) (.seq (.run [.o 5 (.mv (.k (.str [])))]) (.seq amb (.seq (.run [.m 24 bd, .m 4 dd]) .ret)))
abbrev amd:AC:= .par [.m 14 bd, .m 15 bb, .o 16 (.ah bF 2), .o 17 (.load cb false 1),(.c 18 uK [cQ,(.k (.str [58,32]))]), .o 19 (.bin .add ct cO), .o 20 (.load bF true 13), .c 21 zv [dc], .o 22 (.bin .add cV dj), .o 23 (.bin .add dm (.k (.str [10]))), .o 24 (.bin .add bL dD), .m 5 dd] [(2,0),(3,0),(4,0),(6,1),(7,0),(0,0),(1,0),(5,0),(8,0),(9,0),(10,0),(11,0)]
abbrev ame:AC:= .seq (.run [.o 40 (.ah bF 12), .o 41 (.load gK false 1), .o 42 (.len gk), .o 43 (.bin .gtr ie (.k (.int .i64 0)))]) (.cond iy (.run [.m 44 bd, .m 45 bb, .o 46 (.bin .add jg (.k (.str [125,32,101,108,115,101,32,123,10]))), .o 47 (.ah bF 12), .o 48 (.load jz false 1), .m 49 bb, .o 50 (.bin .add iX (.k (.str [32]))), .c 51 pJ [iS,jQ], .o 52 (.bin .add jh ji), .o 53 (.bin .add iR jA), .m 5 jR]) .skip)
abbrev amf:AC:= .seq (.run [.m 33 bd, .o 34 (.ah bF 11), .o 35 (.load fA false 1), .m 36 bb, .o 37 (.bin .add fI (.k (.str [32]))), .c 38 pJ [fz,fQ], .o 39 (.bin .add fp gx), .m 5 gh]) (.seq ame (.run [.m 54 bd, .m 55 bb, .o 56 (.bin .add kp (.k (.str [125,10]))), .o 57 (.bin .add kb lz), .m 5 lO]))
abbrev amg:AC:= .seq amd (.seq (.run [.o 25 (.ah bF 1), .o 26 (.load di false 1), .o 27 (.bin .eql ez (.k (.int .i64 5))), .m 28 ek, .g 29 28 false (.ah bF 1), .g 30 28 false (.load fa false 1), .g 31 28 false (.bin .eql fk (.k (.int .i64 6))), .o 32 (.pick eZ (.k (.bool true)) fe)]) (.cond fv amf .skip))
abbrev amh:AC:= .seq (.block 1 (.seq (.run [.o 12 (.bE bX bI 13), .o 13 (.load bV true 13), .o 7 (.alloc [(.int .i64 0),(.int .i64 0),(.slice .full 0 []),(.str []),(.str []),(.int .i64 0),(.int .i64 0),(.str []),(.slice .full 0 []),(.bool false),(.slice .full 0 []),(.slice .full 0 []),(.slice .full 0 [])]), .op none none (.store bF bP 13)]) amg)) (.run [.o 58 (.bin .add bI (.k (.int .i64 1))), .m 10 lA])
abbrev ami:AC:= .block 0 (.loop (.seq (.run [.o 11 (.bin .lss bI cw)]) (.seq (.cond bO .skip (.exit 0)) amh)))
abbrev amj:AC:= .seq (.seq (.run [.m 8 aV, .o 9 (.len bX), .o 10 (.mv (.k (.int .i64 0)))]) ami) (.seq (.run [.m 59 bd, .m 4 kq]) .ret)
abbrev amk:AC:= .seq (.run [.o 4 (.mv (.k (.str [])))]) (.seq (.run [.o 5 (.mv (.k (.str [])))]) amj)
abbrev aml:AC:= .seq (.cond bI .skip (.exit 0)) (.seq (.block 1 (.seq (.run [.m 11 cw, .m 6 bO]) (.run [.m 12 bd, .m 13 aV, .m 14 bH, .o 15 (.bE bP bL 1), .o 16 (.load ct false 1), .m 17 bb, .o 18 (.bin .add cb cQ), .o 19 (.bin .add bV cO), .m 5 cV]))) (.run [.o 20 (.bin .add cw (.k (.int .i64 1))), .m 9 dc]))
abbrev amm:AC:= .seq (.run [.m 7 aV, .o 8 (.len bF), .o 9 (.mv (.k (.int .i64 0)))]) (.block 0 (.loop (.seq (.run [.o 10 (.bin .lss cw bX)]) aml)))
abbrev amn:AC:= .seq (.run [.o 4 (.mv (.k (.str [])))]) (.seq (.run [.o 5 (.mv (.k (.str [])))]) (.seq amm (.seq (.run [.m 21 bd, .m 4 dj]) .ret)))
abbrev amo:AC:= .seq (.run [.m 3 aV,(.o 4 (.build [(.int .i64 0),(.int .i64 0),(.str []),(.slice .full 0 [])] [(0,(1,(.k (.int .i64 1)))),(1,(1,bD))])), .op none none (.store df cT 4)]) .ret
abbrev amp:AC:= .seq (.run [.o 2 (.alloc [(.int .i64 0),(.int .i64 0),(.str []),(.slice .full 0 [])])]) amo
abbrev amq:AC:= .seq (.run [.m 3 aV,(.o 4 (.build [(.int .i64 0),(.int .i64 0),(.str []),(.slice .full 0 [])] [(0,(1,(.k (.int .i64 2)))),(2,(1,bD))])), .op none none (.store df cT 4)]) .ret
abbrev amr:AC:= .seq (.run [.o 2 (.alloc [(.int .i64 0),(.int .i64 0),(.str []),(.slice .full 0 [])])]) amq
abbrev ams:AC:= .seq (.run [.o 4 (.box bb), .o 5 (.box df), .o 6 (.alloc [(.int .i64 0),(.int .i64 0),(.str []),(.slice .full 0 [])])]) (.seq (.run [.m 7 aV, .o 8 (.load cT true 4), .o 9 (.load bd true 4), .o 10 (.c9 [(.int .i64 0),(.int .i64 0),(.str []),(.slice .full 0 [])] 4 2 [(0,bX),(1,cw)]), .o 11 (.build [(.int .i64 0),(.int .i64 0),(.str []),(.slice .full 0 [])] [(0,(1,bF)),(3,(1,bI))]), .op none none (.store bH bO 4)]) .ret)
abbrev amt:AC:= .seq (.seq (.run [.m 10 bd, .o 11 (.ah df 3), .o 12 (.load bO false 1), .o 13 (.len bV), .o 14 (.bin .lss bI bP), .m 15 bL, .g 16 15 true (.mv bb), .g 17 15 true (.bin .leq cb (.k (.int .i64 20000))), .o 18 (.pick ct cQ (.k (.bool false)))]) (.cond cO .skip (.exit 0))) (.seq (.block 1 (.run [.o 21 (.ah df 3), .o 22 (.load dj false 1), .m 23 bd, .o 24 (.bE dm dD 4), .o 25 (.load dd true 4), .m 26 bb, .c 27 kU [di,ez], .m 1 ek])) (.run [.m 19 bd, .o 20 (.bin .add cV (.k (.int .i64 1))), .m 5 dc]))
abbrev amu:AC:= .seq (.seq (.run [.o 5 (.mv (.k (.int .i64 0)))]) (.block 0 (.loop amt))) (.seq (.run [.m 28 bb, .m 4 eZ]) .ret)
abbrev amv:AC:= .seq (.run [.o 2 (.box aV), .o 4 (.mv (.k (.int .i64 0)))]) (.seq (.run [.o 6 (.ah df 2), .o 7 (.load bH false 1), .m 8 bb, .c 9 gY [bF,bX], .m 1 cw]) amu)
abbrev amw:AC:= .run [.o 6 (.ah df 0), .o 7 (.load bH false 1), .o 8 (.ah bD 0), .o 9 (.load bX false 1), .o 10 (.bin .neq bF cw), .m 11 bI, .g 12 11 false (.ah df 1), .g 13 11 false (.load bV false 1), .g 14 11 false (.ah bD 1), .g 15 11 false (.load bL false 1), .g 16 11 false (.bin .neq bP ct), .o 17 (.pick bO (.k (.bool true)) cb), .m 18 cQ, .g 19 18 false (.ah df 3), .g 20 18 false (.load cV false 1), .g 21 18 false (.ah bD 3), .g 22 18 false (.load dj false 1), .g 23 18 false (.bin .neq dc dm), .o 24 (.pick cO (.k (.bool true)) dD), .m 25 dd, .g 26 25 false (.ah df 4), .g 27 25 false (.load ez false 1), .g 28 25 false (.ah bD 4), .g 29 25 false (.load eZ false 1), .g 30 25 false (.bin .neq ek fa), .o 31 (.pick di (.k (.bool true)) fk), .m 32 fe, .g 33 32 false (.ah df 9), .g 34 32 false (.load fp false 1), .g 35 32 false (.ah bD 9), .g 36 32 false (.load fz false 1), .g 37 32 false (.BW true fA fI), .o 38 (.pick fv (.k (.bool true)) fQ), .m 39 gx, .g 40 39 false (.ah df 2), .g 41 39 false (.load gK false 1), .g 42 39 false (.ah bD 2), .g 43 39 false (.load ie false 1), .d 44 39 false mH [gk,iy], .g 45 39 false (.un .not iR), .o 46 (.pick gh (.k (.bool true)) jg), .m 47 jh, .g 48 47 false (.ah df 5), .g 49 47 false (.load iS true 4), .g 50 47 false (.ah bD 5), .g 51 47 false (.load jQ true 4), .d 52 47 false lN [iX,ji], .g 53 47 false (.un .not jA), .o 54 (.pick jz (.k (.bool true)) jR), .m 55 kb, .g 56 55 false (.ah df 10), .g 57 55 false (.load lz false 1), .g 58 55 false (.len lO), .g 59 55 false (.ah bD 10), .g 60 55 false (.load kq false 1), .g 61 55 false (.len nq), .g 62 55 false (.bin .neq lA nY), .o 63 (.pick kp (.k (.bool true)) oC)]
abbrev amx:AC:= .cond nZ (.seq (.run [.o 4 (.mv (.k (.bool false)))]) .ret) .skip
abbrev amy:AC:= .par [.o 70 (.ah df 10), .o 71 (.load rh false 1), .m 72 bd, .o 73 (.bE xE vS 6), .o 74 (.ah xF 0), .o 75 (.load xG false 1), .o 76 (.ah bD 10), .o 77 (.load vT false 1), .m 78 bd, .o 79 (.bE xI vU 6), .o 80 (.ah Bm 0), .o 81 (.load xJ false 1), .o 82 (.BW true xH xK), .m 83 Fb, .g 84 83 false (.ah df 10), .g 85 83 false (.load Fe false 1), .g 86 83 false (.mv bd), .g 87 83 false (.bE Ff Fg 6), .g 88 83 false (.ah Fh 1), .g 89 83 false (.load Fi false 1), .g 90 83 false (.ah bD 10), .g 91 83 false (.load Fk false 1), .g 92 83 false (.mv bd), .g 93 83 false (.bE Fl Fm 6), .g 94 83 false (.ah HU 1), .g 95 83 false (.load HV false 1), .g 96 83 false (.bin .neq Fj HW), .o 97 (.pick Fc (.k (.bool true)) L6), .m 98 RP, .g 99 98 false (.ah df 10), .g 100 98 false (.load RR false 1), .g 101 98 false (.mv bd), .g 102 98 false (.bE KA KB 6), .g 103 98 false (.ah KD 2), .g 104 98 false (.load KE true 4), .g 105 98 false (.ah bD 10), .g 106 98 false (.load KH false 1), .g 107 98 false (.mv bd), .g 108 98 false (.bE KI KK 6), .g 109 98 false (.ah KM 2), .g 110 98 false (.load KN true 4), .d 111 98 false lN [KF,RS], .g 112 98 false (.un .not RT), .o 113 (.pick RQ (.k (.bool true)) RU)] [(0,0),(1,0),(2,0),(3,0),(4,0),(5,0),(6,0),(7,0),(8,0),(9,0),(10,0),(11,0),(12,0),(13,0),(14,0),(15,0),(16,0),(17,0),(18,0),(19,0),(20,0),(21,0),(22,0),(23,0),(24,0),(25,0),(26,0),(27,0),(28,0),(29,0),(30,0),(31,0),(32,0),(33,0),(34,0),(35,0),(36,0),(37,0),(38,0),(39,0),(40,0),(41,0),(42,0),(43,0)]
abbrev amz:AC:= .cond RV (.seq (.run [.o 4 (.mv (.k (.bool false)))]) .ret) .skip
abbrev amA:AC:= .seq (.cond ra .skip (.exit 0)) (.seq (.block 1 (.seq (.run [.m 69 qw, .m 5 tY]) (.seq amy amz))) (.run [.o 114 (.bin .add qw (.k (.int .i64 1))), .m 67 RW]))
abbrev amB:AC:= .seq (.run [.o 64 (.ah df 10), .o 65 (.load pS false 1), .o 66 (.len rX), .o 67 (.mv (.k (.int .i64 0)))]) (.block 0 (.loop (.seq (.run [.o 68 (.bin .lss qw s6)]) amA)))
abbrev amC:AC:= .seq amB (.seq (.run [.o 115 (.ah df 11), .o 116 (.load RX false 1), .o 117 (.ah bD 11), .o 118 (.load RZ false 1), .c 119 mI [RY,R0], .m 120 R1, .g 121 120 true (.ah df 12), .g 122 120 true (.load R4 false 1), .g 123 120 true (.ah bD 12), .g 124 120 true (.load R6 false 1), .d 125 120 true mI [R5,R7], .o 126 (.pick R3 R8 (.k (.bool false))), .m 4 R9]) .ret)
abbrev amD:AC:= .seq (.run [.o 2 (.box aV), .o 3 (.box bb), .o 4 (.mv (.k (.bool false)))]) (.seq (.seq amw amx) amC)
abbrev amE:AC:= .par [.o 10 (.ah bb 9), .o 11 (.load bI false 1), .o 3 (.mv (.k (.bool false))), .o 4 (.mv (.k (.bool false))), .o 5 (.mv (.k (.bool false))), .m 6 bO, .o 7 (.mv (.k (.bool false))), .o 8 (.mv (.k (.bool false)))] [(0,0),(1,0),(2,0),(3,0),(4,0),(5,0),(6,0),(7,0)]
abbrev amF:AC:= .seq (.run [.o 20 (.bin .eql cb (.k (.int .i64 2))), .m 19 dc]) (.cond cV .skip (.run [.o 21 (.bin .eql cb (.k (.int .i64 10))), .m 19 dj]))
abbrev amG:AC:= .seq (.run [.o 38 (.bin .eql cb (.k (.int .i64 7))), .m 37 gx]) (.cond fQ .skip (.run [.o 39 (.bin .eql cb (.k (.int .i64 8))), .m 37 gh]))
abbrev amH:AC:= .cond fQ .skip (.seq (.run [.o 2 (.mv (.k (.bool false)))]) .ret)
abbrev amI:AC:= .seq (.run [.o 34 (.bin .eql cb (.k (.int .i64 9))), .m 33 fA]) (.cond fp (.run [.o 35 (.ah bb 9), .o 36 (.load fz false 1), .m 5 fI, .o 6 (.mv (.k (.bool false)))]) (.seq amG amH))
abbrev amJ:AC:= .seq (.run [.o 32 (.bin .eql cb (.k (.int .i64 6))), .m 31 fv]) (.cond fe (.run [.o 5 (.mv (.k (.bool true))), .o 7 (.mv (.k (.bool true)))]) amI)
abbrev amK:AC:= .seq (.run [.o 30 (.bin .eql cb (.k (.int .i64 5))), .m 29 fk]) (.cond fa (.run [.o 5 (.mv (.k (.bool true))), .o 7 (.mv (.k (.bool true))), .o 8 (.mv (.k (.bool true)))]) amJ)
abbrev amL:AC:= .seq (.run [.o 25 (.bin .eql cb (.k (.int .i64 4))), .m 24 di]) (.cond dd (.run [.o 26 (.ah bb 3), .o 27 (.load ez false 1), .o 28 (.bin .neq ek (.k (.str []))), .m 3 eZ, .o 4 (.mv (.k (.bool true)))]) amK)
abbrev amM:AC:= .seq (.run [.o 23 (.bin .eql cb (.k (.int .i64 3))), .m 22 dD]) (.cond dm (.run [.o 5 (.mv (.k (.bool true)))]) amL)
abbrev amN:AC:= .seq amF (.cond cV (.run [.o 3 (.mv (.k (.bool true)))]) amM)
abbrev amO:AC:= .seq (.run [.o 18 (.bin .eql cb (.k (.int .i64 1))), .m 17 cO]) (.cond cQ (.run [.o 3 (.mv (.k (.bool true))), .o 5 (.mv (.k (.bool true)))]) amN)
abbrev amP:AC:= .run [.m 40 bH, .m 41 gK, .g 42 41 false (.mv bF), .g 43 41 false (.un .not ie), .g 44 41 false (.mv iy), .g 45 44 true (.ah bb 11), .g 46 44 true (.load jg false 1), .g 47 44 true (.len jh), .g 48 44 true (.bin .gtr jz (.k (.int .i64 0))), .g 49 41 false (.pick iR iS (.k (.bool false))), .o 50 (.pick gk (.k (.bool true)) iX), .m 51 jQ, .g 52 51 false (.mv bX), .g 53 51 false (.un .not jA), .g 54 51 false (.mv jR), .g 55 54 true (.ah bb 12), .g 56 54 true (.load kp false 1), .g 57 54 true (.len lz), .g 58 54 true (.bin .gtr lO (.k (.int .i64 0))), .g 59 51 false (.pick kb lA (.k (.bool false))), .o 60 (.pick ji (.k (.bool true)) kq), .m 61 nq, .g 62 61 false (.mv cw), .g 63 61 false (.un .not oC), .g 64 61 false (.mv nZ), .g 65 64 true (.ah bb 10), .g 66 64 true (.load rX false 1), .g 67 64 true (.len s6), .g 68 64 true (.bin .gtr qw (.k (.int .i64 0))), .g 69 61 false (.pick pS ra (.k (.bool false))), .o 70 (.pick nY (.k (.bool true)) tY)]
abbrev amQ:AC:= .cond rh (.seq (.run [.o 2 (.mv (.k (.bool false)))]) .ret) .skip
abbrev amR:AC:= .cond Fj (.seq (.run [.o 2 (.mv (.k (.bool false)))]) .ret) .skip
abbrev ae1:AC:= .seq (.seq (.run [.o 71 (.ah bb 3), .o 72 (.load xE false 1), .m 73 bD, .c 74 qu [vS,xF], .o 75 (.un .not xG), .m 76 xH, .g 77 76 false (.ah bb 4), .g 78 76 false (.load xI false 1), .g 79 76 false (.mv cT), .d 80 76 false qu [vU,Bm], .g 81 76 false (.un .not xJ), .o 82 (.pick vT (.k (.bool true)) xK), .m 83 Fb, .g 84 83 false (.ah bb 5), .g 85 83 false (.load Fe true 4), .g 86 83 false (.mv bd), .d 87 83 false sZ [Ff,Fg], .g 88 83 false (.un .not Fh), .o 89 (.pick Fc (.k (.bool true)) Fi)]) amR) (.seq (.run [.o 90 (.ah bb 10), .o 91 (.load Fk false 1), .c 92 vQ [Fl], .m 2 Fm]) .ret)
abbrev ae2:AC:= .seq (.seq amP amQ) ae1
abbrev XY:AC:= .seq (.seq (.run [.o 15 (.ah bb 1), .o 16 (.load ct false 1)]) (.block 0 amO)) ae2
abbrev ae3:AC:= .seq (.run [.o 12 (.ah bb 1), .o 13 (.load bV false 1), .o 14 (.bin .eql bP (.k (.int .i64 4))), .m 9 bL]) XY
abbrev ae4:AC:= .seq amE ae3
abbrev amS:AC:= .seq (.run [.o 1 (.box aV), .o 2 (.mv (.k (.bool false)))]) ae4
abbrev amT:AC:= .par [.m 37 aV, .m 38 aV, .o 39 (.dN gx), .o 40 (.ah gh 2), .o 41 (.load gK false 1), .o 42 (.load cw true 17), .o 43 (.c9 [(.int .i64 0),(.int .i64 0),(.slice .full 0 []),(.str []),(.str []),(.int .i64 0),(.int .i64 0),(.str []),(.slice .full 0 []),(.bool false),(.slice .full 0 []),(.slice .full 0 []),(.slice .full 0 []),(.int .i64 0),(.int .i64 0),(.int .i64 0),(.int .i64 0)] 17 1 [(0,ie)]), .o 44 (.app 17 240 gk iy), .o 45 (.dN fQ), .o 46 (.ah jg 2), .op none none (.store jh iR 1)] [(1,0),(2,0),(3,0),(4,0),(5,0),(6,0),(7,0),(0,0),(8,0),(9,0),(10,0)]
abbrev amU:AC:= .run [.o 47 (.ah bd 13), .o 48 (.load jz false 1), .m 49 bX, .o 50 (.ah cw 15), .o 51 (.load jQ false 1), .o 52 (.ah bd 16), .o 53 (.load jA false 1), .o 54 (.build [(.int .i64 0),(.int .i64 0),(.slice .full 0 []),(.str []),(.str []),(.int .i64 0),(.int .i64 0),(.str []),(.slice .full 0 []),(.bool false),(.slice .full 0 []),(.slice .full 0 []),(.slice .full 0 []),(.int .i64 0),(.int .i64 0),(.int .i64 0),(.int .i64 0)] [(13,(1,iS)),(14,(1,iX)),(15,(1,ji)),(16,(1,jR))]), .o 10 (.alloc [(.int .i64 0),(.int .i64 0),(.slice .full 0 []),(.str []),(.str []),(.int .i64 0),(.int .i64 0),(.str []),(.slice .full 0 []),(.bool false),(.slice .full 0 []),(.slice .full 0 []),(.slice .full 0 []),(.int .i64 0),(.int .i64 0),(.int .i64 0),(.int .i64 0)]), .op none none (.store bI kb 17)]
abbrev amV:AC:= .seq (.seq (.run [.o 55 (.ah bF 1), .o 56 (.load kp false 1), .o 57 (.bin .eql lz (.k (.int .i64 6)))]) (.cond lO (.run [.m 58 bX, .m 59 bX, .o 60 (.ah bI 15), .op none none (.store nq lA 1), .o 61 (.ah bI 16), .op none none (.store nY kq 1)]) .skip)) (.seq (.run [.m 62 aV, .o 63 (.ah bF 11), .o 64 (.load nZ false 1), .o 65 (.load bI true 17), .c 66 kV [oC,pS,rX]]) (.run [.m 67 aV, .o 68 (.ah bF 12), .o 69 (.load ra false 1), .o 70 (.load bI true 17), .c 71 kV [qw,tY,rh]]))
abbrev amW:AC:= .seq (.seq (.run [.m 27 bH, .o 28 (.bin .add ek (.k (.int .i64 1))), .m 29 bb, .o 30 (.len fa), .o 31 (.bin .lss eZ fk)]) (.cond fe (.run [.m 32 bX, .o 33 (.load bF true 13), .c 34 nW [fp], .o 35 (.bin .add fv fA), .o 36 (.ah cw 15), .op none none (.store fI fz 1)]) .skip)) (.seq amT (.seq amU amV))
abbrev amX:AC:= .seq (.run [.m 15 bP, .o 16 (.bE bO bP 13), .o 17 (.load cb true 13), .o 7 (.alloc [(.int .i64 0),(.int .i64 0),(.slice .full 0 []),(.str []),(.str []),(.int .i64 0),(.int .i64 0),(.str []),(.slice .full 0 []),(.bool false),(.slice .full 0 []),(.slice .full 0 []),(.slice .full 0 [])]), .m 6 ct, .op none none (.store bF cQ 13)]) (.seq (.run [.m 18 aV, .o 19 (.dN cO), .o 20 (.ah cV 2), .o 21 (.load dc false 1), .o 22 (.len dj), .o 23 (.bin .add dm (.k (.int .i64 1))), .m 8 dD]) (.seq (.run [.o 24 (.load bd true 17), .o 9 (.alloc [(.int .i64 0),(.int .i64 0),(.slice .full 0 []),(.str []),(.str []),(.int .i64 0),(.int .i64 0),(.str []),(.slice .full 0 []),(.bool false),(.slice .full 0 []),(.slice .full 0 []),(.slice .full 0 []),(.int .i64 0),(.int .i64 0),(.int .i64 0),(.int .i64 0)]), .op none none (.store cw dd 17)]) (.seq (.run [.o 25 (.load bF true 13), .o 26 (.ah cw 0), .op none none (.store ez di 13)]) amW)))
abbrev amY:AC:= .seq (.cond bL .skip (.exit 0)) (.seq (.block 1 amX) (.run [.o 72 (.bin .add bP (.k (.int .i64 1))), .m 13 vS]))
abbrev amZ:AC:= .seq (.run [.m 11 bb, .o 12 (.len bO), .o 13 (.mv (.k (.int .i64 0)))]) (.block 0 (.loop (.seq (.run [.o 14 (.bin .lss bP bV)]) amY)))
abbrev am0:AC:= .seq (.run [.o 5 (.box df)]) amZ
abbrev am1:AC:= .block 1 (.seq (.run [.m 10 bX, .m 5 bI]) (.seq (.run [.m 11 bb, .m 12 aV, .m 13 bd, .o 14 (.bE bV bP 1), .o 15 (.load bL false 1),(.kg (some 16) none 11 [ct])]) (.cond cb (.seq (.run [.m 17 bd, .m 4 cQ]) .ret) .skip)))
abbrev am2:AC:= .seq (.cond cw .skip (.exit 0)) (.seq am1 (.run [.o 18 (.bin .add bX (.k (.int .i64 1))), .m 8 cO]))
abbrev am3:AC:= .seq (.run [.m 6 aV, .o 7 (.len bH), .o 8 (.mv (.k (.int .i64 0)))]) (.block 0 (.loop (.seq (.run [.o 9 (.bin .lss bX bF)]) am2)))
abbrev am4:AC:= .seq (.run [(.o 4 (.mv (.k (.int .i64 (-1)))))]) .ret
abbrev am5:AC:= .seq (.run [.o 4 (.mv (.k (.int .i64 0)))]) (.seq am3 am4)
abbrev am6:AC:= .seq (.seq (.run [.o 31 (.ah bd 0), .o 32 (.load fe false 1)]) (.cond fv (.run [.m 33 bD, .o 34 (.ah bd 1), .o 35 (.load fA false 1), .o 36 (.c9 [(.str [])] 1 1 [(0,fz)]), .o 37 (.app 1 16 fp fI), .m 3 fQ]) .skip)) (.run [.m 38 bD, .o 39 (.ah bd 2), .o 40 (.load gh true 4), .c 41 s4 [gK], .o 42 (.app 1 16 gx gk), .m 3 ie])
abbrev am7:AC:= .seq (.block 1 (.seq (.run [.o 29 (.bE di ek 6), .o 30 (.load fa true 6), .o 5 (.alloc [(.bool false),(.str []),(.int .i64 0),(.int .i64 0),(.str []),(.slice .full 0 [])]), .op none none (.store bd fk 6)]) am6)) (.run [.o 43 (.bin .add ek (.k (.int .i64 1))), .m 27 iy])
abbrev am8:AC:= .block 0 (.loop (.seq (.run [.o 28 (.bin .lss ek ez)]) (.seq (.cond eZ .skip (.exit 0)) am7)))
abbrev am9:AC:= .seq (.seq (.run [.o 24 (.ah bb 10), .o 25 (.load dd false 1), .o 26 (.len di), .o 27 (.mv (.k (.int .i64 0)))]) am8) (.seq (.run [.m 44 bD, .m 2 iR]) .ret)
abbrev ana:AC:= .seq (.seq (.run [.o 6 (.ah bb 1), .o 7 (.load bH false 1), .o 8 (.bin .neq bF (.k (.int .i64 10))), .m 9 bX, .g 10 9 true (.ah bb 3), .g 11 9 true (.load bI false 1), .g 12 9 true (.bin .neq bO (.k (.str []))), .o 13 (.pick cw bV (.k (.bool false)))]) (.cond bP (.run [.m 14 bD, .o 15 (.ah bb 3), .o 16 (.load ct false 1), .o 17 (.c9 [(.str [])] 1 1 [(0,cb)]), .o 18 (.app 1 16 bL cQ), .m 3 cO]) .skip)) (.seq (.run [.m 19 bD, .o 20 (.ah bb 5), .o 21 (.load dc true 4), .c 22 s4 [dj], .o 23 (.app 1 16 cV dm), .m 3 dD]) am9)
abbrev anb:AC:= .seq (.run [.o 1 (.box aV), .o 2 (.mv (.k (.slice .full 0 [])))]) (.seq (.run [.o 3 (.mv (.k (.slice .full 0 [])))]) ana)
open Go.Proofs
theorem J5:Has Tryz.prog uJ 6 [(2,none)] alG:=⟨Tryz.f83,by kernel_rfl,by kernel_rfl⟩
theorem H0:Has Tryz.prog lu 29 [(2,none)] alK:=⟨Tryz.f86,by kernel_rfl,by kernel_rfl⟩
theorem Ef:Has Tryz.prog sU 32 [(2,none)] alP:=⟨Tryz.f90,by kernel_rfl,by kernel_rfl⟩
theorem Mb:Has Tryz.prog Bh 110 [(2,none)] al8:=⟨Tryz.f91,by kernel_rfl,by kernel_rfl⟩
theorem J6:Has Tryz.prog nU 25 [(4,none)] amc:=⟨Tryz.f92,by kernel_rfl,by kernel_rfl⟩
theorem B5:Has Tryz.prog pJ 60 [(4,none)] amk:=⟨Tryz.f93,by kernel_rfl,by kernel_rfl⟩
theorem J7:Has Tryz.prog uK 22 [(4,none)] amn:=⟨Tryz.f94,by kernel_rfl,by kernel_rfl⟩
theorem Mc:Has Tryz.prog sV 5 [(2,(some (true,4)))] amp:=⟨Tryz.f95,by kernel_rfl,by kernel_rfl⟩
theorem J8:Has Tryz.prog mq 5 [(2,(some (true,4)))] amr:=⟨Tryz.f96,by kernel_rfl,by kernel_rfl⟩
theorem Md:Has Tryz.prog wI 12 [(6,(some (true,4)))] ams:=⟨Tryz.f97,by kernel_rfl,by kernel_rfl⟩
theorem C5:Has Tryz.prog kU 29 [(4,none)] amv:=⟨Tryz.f98,by kernel_rfl,by kernel_rfl⟩
theorem H2:Has Tryz.prog sW 127 [(4,none)] amD:=⟨Tryz.f115,by kernel_rfl,by kernel_rfl⟩
theorem Gp:Has Tryz.prog vO 93 [(2,none)] amS:=⟨Tryz.f116,by kernel_rfl,by kernel_rfl⟩
theorem C6:Has Tryz.prog kV 73 [] am0:=⟨Tryz.f117,by kernel_rfl,by kernel_rfl⟩
theorem vk:Has Tryz.prog mb 19 [(4,none)] am5:=⟨Tryz.f118,by kernel_rfl,by kernel_rfl⟩
theorem H3:Has Tryz.prog sX 45 [(2,none)] anb:=⟨Tryz.f119,by kernel_rfl,by kernel_rfl⟩
abbrev anc:AC:= .cond dD (.seq (.run [.o 6 (.mv (.k (.int .i64 3)))]) .ret) .skip
abbrev ane:AC:= .cond ek (.seq (.run [.o 6 (.mv (.k (.int .i64 2)))]) .ret) .skip
abbrev anf:AC:= .seq (.seq (.run [.o 16 (.ah bX 0), .o 17 (.load cb false 1), .m 18 df, .o 19 (.bin .eql cQ cO), .m 20 cV, .g 21 20 true (.ah bX 1), .g 22 20 true (.load dj false 1), .o 23 (.pick dc dm (.k (.bool false)))]) anc) (.seq (.run [.o 24 (.ah bX 0), .o 25 (.load dd false 1), .m 26 df, .o 27 (.bin .eql di ez)]) ane)
abbrev ang:AC:= .seq (.block 1 (.seq (.run [.o 14 (.bE bI bV 2), .o 15 (.load bL true 2), .o 8 (.alloc [(.str []),(.bool false)]), .op none none (.store bX ct 2)]) anf)) (.run [.o 28 (.bin .add bV (.k (.int .i64 1))), .m 12 eZ])
abbrev anh:AC:= .block 0 (.loop (.seq (.run [.o 13 (.bin .lss bV bO)]) (.seq (.cond bP .skip (.exit 0)) ang)))
abbrev ani:AC:= .cond fv (.seq (.run [.o 6 (.mv (.k (.int .i64 4)))]) .ret) .skip
abbrev anj:AC:= .cond fI (.seq (.run [.o 6 (.mv (.k (.int .i64 1)))]) .ret) .skip
abbrev ank:AC:= .seq (.seq (.run [.o 33 (.ah bD 0), .o 34 (.load fp false 1), .m 35 df, .c 36 cM [fA,fz]]) anj) (.seq (.run [.o 6 (.mv (.k (.int .i64 0)))]) .ret)
abbrev anl:AC:= .seq (.seq (.run [.o 9 (.ah cT 1), .o 10 (.load cw false 1), .o 11 (.len bI), .o 12 (.mv (.k (.int .i64 0)))]) anh) (.seq (.seq (.run [.o 29 (.ah cT 2), .o 30 (.load fa false 1), .m 31 df, .c 32 cM [fk,fe]]) ani) ank)
abbrev anm:AC:= .seq (.run [.o 3 (.box aV), .o 4 (.box bb), .o 6 (.mv (.k (.int .i64 0)))]) anl
abbrev ann:AC:= .cond bO (.seq (.run [.o 4 (.mv (.k (.bool false)))]) .ret) .skip
abbrev ano:AC:= .par [.o 19 (.ah bH 1), .o 20 (.load cV false 1), .m 21 bb, .m 22 bd, .o 23 (.bE dj dm 6), .o 24 (.ah dD 0), .o 25 (.load dd false 1), .o 26 (.BW true dc di)] [(0,0),(1,0),(2,0),(3,0),(4,0),(5,0),(6,0),(7,0)]
abbrev anp:AC:= .cond ez (.seq (.run [.o 4 (.mv (.k (.bool false)))]) .ret) .skip
abbrev anq:AC:= .seq (.block 1 (.seq (.run [.m 16 bL, .o 17 (.bE bV bL 2), .o 18 (.load cQ true 2), .o 6 (.alloc [(.str []),(.bool false)]), .m 5 cb, .op none none (.store bH cO 2)]) (.seq ano anp))) (.run [.o 27 (.bin .add bL (.k (.int .i64 1))), .m 14 ek])
abbrev anr:AC:= .block 0 (.loop (.seq (.run [.o 15 (.bin .lss bL bP)]) (.seq (.cond ct .skip (.exit 0)) anq)))
abbrev ans:AC:= .seq (.seq (.run [.m 12 aV, .o 13 (.len bV), .o 14 (.mv (.k (.int .i64 0)))]) anr) (.seq (.run [.o 4 (.mv (.k (.bool true)))]) .ret)
abbrev ant:AC:= .seq (.run [.o 4 (.mv (.k (.bool false)))]) (.seq (.seq (.run [.m 7 aV, .o 8 (.len bF), .m 9 bb, .o 10 (.len cw), .o 11 (.bin .neq bX bI)]) ann) ans)
abbrev anu:AC:= .cond dm (.seq (.run [.o 23 (.ah cw 0), .o 24 (.ah dD 0), .o 25 (.load dd false 1), .m 6 di, .o 7 (.mv (.k (.bool true)))]) .ret) .skip
abbrev anv:AC:= .seq (.block 1 (.seq (.run [.o 16 (.bE bV bL 17), .o 17 (.load cb true 17), .o 9 (.alloc [(.int .i64 0),(.int .i64 0),(.slice .full 0 []),(.str []),(.str []),(.int .i64 0),(.int .i64 0),(.str []),(.slice .full 0 []),(.bool false),(.slice .full 0 []),(.slice .full 0 []),(.slice .full 0 []),(.int .i64 0),(.int .i64 0),(.int .i64 0),(.int .i64 0)]), .op none none (.store cw cQ 17)]) (.seq (.run [.o 18 (.ah cw 0), .o 19 (.ah cO 2), .o 20 (.load cV false 1), .m 21 df, .c 22 cM [dc,dj]]) anu))) (.run [.o 26 (.bin .add bL (.k (.int .i64 1))), .m 14 ez])
abbrev anw:AC:= .block 0 (.loop (.seq (.run [.o 15 (.bin .lss bL bP)]) (.seq (.cond ct .skip (.exit 0)) anv)))
abbrev anx:AC:= .seq (.run [(.o 6 (.mv (.k (.int .i64 (-1))))), .o 7 (.mv (.k (.bool true)))]) .ret
abbrev anz:AC:= .seq (.seq (.run [.m 27 aV, .o 28 (.dN ek), .o 29 (.ah eZ 0), .o 30 (.ah fa 1), .o 31 (.load fk false 1), .m 32 bb, .o 33 (.bE fe fv 5), .o 34 (.ah fp 4), .o 35 (.load fA false 1), .m 36 df, .c 37 cM [fz,fI]]) (.cond fQ anx .skip)) (.seq (.run [.o 6 (.mv (.k (.int .i64 0))), .o 7 (.mv (.k (.bool false)))]) .ret)
abbrev anA:AC:= .seq (.seq (.run [.m 10 aV, .m 11 bb, .c 12 iD [bI,bO], .o 13 (.len bV), .o 14 (.mv (.k (.int .i64 0)))]) anw) anz
abbrev anB:AC:= .seq (.run [.o 6 (.mv (.k (.int .i64 0))), .o 7 (.mv (.k (.bool false)))]) anA
abbrev anC:AC:= .seq (.run [.o 2 (.box aV), .o 3 (.box bb), .o 4 (.mv (.k (.bool false)))]) (.seq (.run [.o 5 (.load df true 2), .c 6 nr [bd], .o 7 (.uV bH 0 false 1), .o 8 (.bin .eql bF (.k (.int .i64 0))), .m 9 bX, .g 10 9 true (.ah df 1), .g 11 9 true (.load bI false 1), .g 12 9 true (.wx 164 [bD]), .d 13 9 true iE [bO,bV], .o 14 (.pick cw bP (.k (.bool false))), .m 4 bL]) .ret)
abbrev anD:AC:= .seq (.run [.o 26 (.bE dm dd 1), .o 27 (.load ez false 1), .m 8 ek]) (.seq (.run [.m 28 bd, .m 29 bX, .c 30 cM [eZ,fa], .o 31 (.un .not fk)]) (.cond fe (.run [.m 32 bd, .m 33 bX, .o 34 (.c9 [(.str [])] 1 1 [(0,fp)]), .o 35 (.app 1 16 fv fA), .m 5 fz]) .skip))
abbrev anE:AC:= .seq (.cond di .skip (.exit 2)) (.seq (.block 3 anD) (.run [.o 36 (.bin .add dd (.k (.int .i64 1))), .m 24 fI]))
abbrev anF:AC:= .seq (.run [.m 17 aV, .m 18 bd, .m 19 bH, .o 20 (.bE cO cV 1), .o 21 (.load dc false 1), .c 22 vR [cQ,dj], .o 23 (.len dm), .o 24 (.mv (.k (.int .i64 0)))]) (.block 2 (.loop (.seq (.run [.o 25 (.bin .lss dd dD)]) anE)))
abbrev anG:AC:= .seq (.seq (.run [.m 11 bH, .m 12 bd, .o 13 (.len bV), .o 14 (.bin .lss bO bP)]) (.cond bL .skip (.exit 0))) (.seq (.block 1 anF) (.run [.m 15 bH, .o 16 (.bin .add ct (.k (.int .i64 1))), .m 6 cb]))
abbrev ae5:AC:= .seq (.run [.m 39 bd, .m 4 gh]) .ret
abbrev anH:AC:= .seq (.seq (.run [.o 6 (.mv (.k (.int .i64 0)))]) (.block 0 (.loop anG))) (.seq (.run [.m 37 bd, .c 38 km [fQ]]) ae5)
abbrev anI:AC:= .seq (.run [.o 4 (.mv (.k (.slice .full 0 [])))]) (.seq (.run [.m 9 bb, .o 10 (.c9 [(.str [])] 1 1 [(0,cw)]), .m 5 bI]) anH)
abbrev anJ:AC:= .seq (.run [.o 3 (.box bb), .o 4 (.mv (.k (.int .i64 0)))]) (.seq (.run [.m 5 aV, .o 6 (.dN bd), .o 7 (.ah bH 0), .o 8 (.ah bF 1), .o 9 (.load bX false 1), .o 10 (.wx 167 [bD]), .c 11 gT [cw,bI], .m 4 bO]) .ret)
abbrev anK:AC:= .seq (.run [.o 2 (.mv (.k (.bool false)))]) (.seq (.run [.m 3 aV, .o 4 (.bin .geq bD (.k (.int .u8 48))), .m 5 cT, .g 6 5 true (.mv aV), .g 7 5 true (.bin .leq bH (.k (.int .u8 57))), .o 8 (.pick bd bF (.k (.bool false))), .m 2 bX]) .ret)
abbrev anL:AC:= .seq (.run [.o 20 (.bin .eql bL (.k (.str [38,38]))), .m 15 dc]) (.cond ct .skip (.run [.o 21 (.bin .eql bL (.k (.str [124,124]))), .m 15 dj]))
abbrev anM:AC:= .cond ct .skip (.seq (.run [.o 19 (.bin .eql bL (.k (.str [62,61]))), .m 15 cV]) (.cond ct .skip anL))
abbrev anN:AC:= .cond ct .skip (.seq (.run [.o 18 (.bin .eql bL (.k (.str [60,61]))), .m 15 cO]) anM)
abbrev anO:AC:= .cond ct .skip (.seq (.run [.o 17 (.bin .eql bL (.k (.str [33,61]))), .m 15 cQ]) anN)
abbrev anP:AC:= .cond ct (.seq (.run [.o 4 (.mv (.k (.int .i64 2)))]) .ret) .skip
abbrev anQ:AC:= .seq (.seq (.run [.o 16 (.bin .eql bL (.k (.str [61,61]))), .m 15 cb]) anO) anP
abbrev anR:AC:= .cond cw (.seq (.run [.m 10 aV, .m 11 bb, .m 12 bb, .o 13 (.bin .add bV (.k (.int .i64 2))), .o 14 (.AY bI (some bO) (some bP))]) (.block 0 anQ)) .skip
abbrev anS:AC:= .seq (.run [.o 40 (.bin .eql dd (.k (.int .u8 47))), .m 25 gK]) (.cond di .skip (.run [.o 41 (.bin .eql dd (.k (.int .u8 37))), .m 25 gk]))
abbrev anT:AC:= .cond di .skip (.seq (.run [.o 39 (.bin .eql dd (.k (.int .u8 42))), .m 25 gh]) (.cond di .skip anS))
abbrev anU:AC:= .cond di .skip (.seq (.run [.o 38 (.bin .eql dd (.k (.int .u8 45))), .m 25 gx]) anT)
abbrev anV:AC:= .cond di .skip (.seq (.run [.o 37 (.bin .eql dd (.k (.int .u8 43))), .m 25 fQ]) anU)
abbrev anW:AC:= .cond di .skip (.seq (.run [.o 36 (.bin .eql dd (.k (.int .u8 62))), .m 25 fI]) anV)
abbrev anX:AC:= .cond di .skip (.seq (.run [.o 35 (.bin .eql dd (.k (.int .u8 60))), .m 25 fz]) anW)
abbrev anY:AC:= .cond di .skip (.seq (.run [.o 34 (.bin .eql dd (.k (.int .u8 33))), .m 25 fA]) anX)
abbrev anZ:AC:= .cond di .skip (.seq (.run [.o 33 (.bin .eql dd (.k (.int .u8 61))), .m 25 fp]) anY)
abbrev an0:AC:= .cond di .skip (.seq (.run [.o 32 (.bin .eql dd (.k (.int .u8 58))), .m 25 fv]) anZ)
abbrev an1:AC:= .cond di .skip (.seq (.run [.o 31 (.bin .eql dd (.k (.int .u8 59))), .m 25 fe]) an0)
abbrev an2:AC:= .cond di .skip (.seq (.run [.o 30 (.bin .eql dd (.k (.int .u8 44))), .m 25 fk]) an1)
abbrev an3:AC:= .cond di .skip (.seq (.run [.o 29 (.bin .eql dd (.k (.int .u8 125))), .m 25 fa]) an2)
abbrev an4:AC:= .cond di .skip (.seq (.run [.o 28 (.bin .eql dd (.k (.int .u8 123))), .m 25 eZ]) an3)
abbrev an5:AC:= .cond di .skip (.seq (.run [.o 27 (.bin .eql dd (.k (.int .u8 41))), .m 25 ek]) an4)
abbrev an6:AC:= .cond di (.seq (.run [.o 4 (.mv (.k (.int .i64 1)))]) .ret) .skip
abbrev an7:AC:= .seq (.seq (.run [.o 26 (.bin .eql dd (.k (.int .u8 40))), .m 25 ez]) an5) an6
abbrev an8:AC:= .seq (.seq (.run [.m 22 aV, .m 23 bb, .o 24 (.qf dm dD)]) (.block 1 an7)) (.seq (.run [.o 4 (.mv (.k (.int .i64 0)))]) .ret)
abbrev an9:AC:= .seq (.seq (.run [.m 5 bb, .o 6 (.bin .add bd (.k (.int .i64 1))), .m 7 aV, .o 8 (.nk bF), .o 9 (.bin .lss bH bX)]) anR) an8
abbrev aoa:AC:= .seq (.run [.o 4 (.mv (.k (.int .i64 0)))]) an9
abbrev aob:AC:= .cond dm (.seq (.run [.o 2 (.mv (.k (.int .i64 0))), .o 3 (.mv (.k (.bool false)))]) .ret) .skip
abbrev aoc:AC:= .seq (.seq (.run [.m 18 cT, .m 19 bH, .o 20 (.bin .sub (.k (.int .i64 9223372036854775807)) cV), .o 21 (.bin .quo dc (.k (.int .i64 10))), .o 22 (.bin .gtr cO dj)]) aob) (.run [.m 23 cT, .o 24 (.bin .mul dD (.k (.int .i64 10))), .m 25 bH, .o 26 (.bin .add dd di), .m 4 ez])
abbrev aod:AC:= .block 1 (.seq (.run [.m 13 aV, .m 14 bd, .o 15 (.qf bP bL), .o 16 (.bin .sub ct (.k (.int .u8 48))), .o 17 (.conv .i64 cb), .m 6 cQ]) aoc)
abbrev aoe:AC:= .seq (.seq (.run [.m 7 bd, .m 8 aV, .o 9 (.nk bX), .o 10 (.bin .lss bF cw)]) (.cond bI .skip (.exit 0))) (.seq aod (.run [.m 11 bd, .o 12 (.bin .add bO (.k (.int .i64 1))), .m 5 bV]))
abbrev aof:AC:= .seq (.seq (.run [.o 5 (.mv (.k (.int .i64 0)))]) (.block 0 (.loop aoe))) (.seq (.run [.m 27 cT, .m 2 ek, .o 3 (.mv (.k (.bool true)))]) .ret)
abbrev aog:AC:= .seq (.run [.o 2 (.mv (.k (.int .i64 0))), .o 3 (.mv (.k (.bool false)))]) (.seq (.run [.o 4 (.mv (.k (.int .i64 0)))]) aof)
abbrev aoh:AC:= .cond bP (.seq (.run [.o 4 (.mv (.k (.bool false)))]) .ret) .skip
abbrev aoi:AC:= .seq (.run [.m 14 aV, .o 15 (.dN bL), .o 16 (.ah ct 1), .o 17 (.load cb false 1), .o 18 (.bin .add cQ (.k (.int .i64 1))), .o 19 (.dN bL), .o 20 (.ah cV 1), .op none none (.store dc cO 1)]) (.seq (.run [.o 4 (.mv (.k (.bool true)))]) .ret)
abbrev aoj:AC:= .seq (.seq (.run [.m 5 aV, .c 6 db [bd], .o 7 (.un .not bH), .m 8 bF, .g 9 8 false (.mv aV), .g 10 8 false (.mv bb), .d 11 8 false ga [cw,bI], .g 12 8 false (.un .not bO), .o 13 (.pick bX (.k (.bool true)) bV)]) aoh) aoi
abbrev aok:AC:= .seq (.run [.o 4 (.mv (.k (.bool false)))]) aoj
abbrev aol:AC:= .cond dc (.seq (.run [.m 21 aV,(.c 22 dB [dj,(.k (.str [59]))])]) (.seq (.run [.m 23 bb, .m 6 dD]) .ret)) .skip
abbrev aom:AC:= .seq (.run [.m 9 bb, .m 10 aV, .m 11 bb, .o 12 (.len bO), .m 13 df, .o 14 (.bin .lss bV bP), .c 15 fl [bI,bL], .o 16 (.c9 [(.str [])] 1 1 [(0,ct)]), .o 17 (.app 1 16 cw cb), .m 1 cQ]) (.seq (.run [.m 18 aV,(.c 19 dT [cO,(.k (.str [44]))]), .o 20 (.un .not cV)]) aol)
abbrev aon:AC:= .block 0 (.loop (.seq (.seq (.run [.m 7 aV, .c 8 db [bF]]) (.cond bX .skip (.exit 0))) (.block 1 aom)))
abbrev aoo:AC:= .seq (.run [.o 6 (.mv (.k (.slice .full 0 [])))]) (.seq aon (.seq (.run [.m 24 bb, .m 6 dd]) .ret))
abbrev aop:AC:= .seq (.run [.o 2 (.mv (.k (.bool false)))]) (.seq (.run [.m 3 aV, .o 4 (.dN bD), .o 5 (.ah cT 2), .o 6 (.ah bd 0), .o 7 (.load bH false 1), .o 8 (.bin .eql bF (.k (.int .i64 0))), .m 2 bX]) .ret)
abbrev aoq:AC:= .seq (.run [.m 6 aV, .c 7 dU [bH], .o 5 (.alloc [(.int .i64 0),(.str []),(.int .i64 0),(.int .i64 0)]), .op none none (.store bd bF 4)]) (.seq (.run [.o 8 (.ah bd 0), .o 9 (.load bX false 1), .o 10 (.bin .eql cw (.k (.int .i64 3))), .m 11 bI, .g 12 11 false (.ah bd 0), .g 13 11 false (.load bV false 1), .g 14 11 false (.bin .eql bP (.k (.int .i64 4))), .o 15 (.pick bO (.k (.bool true)) bL), .m 16 ct, .g 17 16 true (.ah bd 1), .g 18 16 true (.load cQ false 1), .g 19 16 true (.mv bb), .g 20 16 true (.bin .eql cO cV), .o 21 (.pick cb dc (.k (.bool false))), .m 4 dj]) .ret)
abbrev aor:AC:= .seq (.run [.o 4 (.mv (.k (.bool false)))]) aoq
abbrev aos:AC:= .seq (.run [.m 4 aV, .c 5 db [cT]]) (.cond bd (.run [.m 6 aV, .m 7 bb, .m 8 aV, .c 9 dU [bX], .o 10 (.uV cw 3 false 1), .o 11 (.build [(.int .i64 0),(.int .i64 0)] [(0,(1,bF)),(1,(1,bI))]), .o 12 (.dN bH), .o 13 (.ah bV 2), .op none none (.store bP bO 2)]) .skip)
abbrev aot:AC:= .par [.o 21 (.ah bD 1), .o 22 (.load dj false 1), .m 23 aV, .o 24 (.ah bD 1), .o 25 (.load dd false 1), .o 26 (.len di), .o 27 (.bin .lss ez (.k (.int .i64 8))), .c 28 fl [dD,ek], .m 29 cT, .o 30 (.build [(.str []),(.bool false)] [(0,(1,eZ)),(1,(1,fa))]), .o 31 (.c9 [(.str []),(.bool false)] 2 1 [(0,fk)]), .o 32 (.app 2 24 dm fe), .o 33 (.ah bD 1), .op none none (.store fp fv 1)] [(2,0),(3,0),(4,0),(5,0),(6,0),(7,0),(0,0),(1,1),(8,0),(9,0),(10,0),(11,0),(12,0),(13,0)]
abbrev aou:AC:= .seq aot (.seq (.run [.m 34 aV,(.c 35 dT [fA,(.k (.str [44]))]), .o 36 (.un .not fz)]) (.cond fI (.exit 0) .skip))
abbrev aov:AC:= .block 1 (.seq (.run [.m 19 aV,(.c 20 dT [cV,(.k (.str [114,101,102]))]), .m 4 dc]) aou)
abbrev aow:AC:= .block 0 (.loop (.seq (.seq (.run [.m 17 aV, .c 18 db [cQ]]) (.cond cO .skip (.exit 0))) aov))
abbrev ae6:AC:= .seq (.seq (.run [.m 41 aV,(.c 42 dT [gk,(.k (.str [118,97,114]))])]) (.cond ie .skip (.exit 2))) (.block 3 (.run [.m 43 aV, .o 44 (.ah bD 2), .o 45 (.load iR false 1), .c 46 kn [iy,jg,(.k (.int .i64 16))], .o 47 (.ah bD 2), .op none none (.store jz jh 1)]))
abbrev ae7:AC:= .seq (.run [.m 49 aV, .c 50 ix [iX,(.k (.int .i64 1)),(.k (.bool true))], .m 48 jQ, .o 51 (.ext iS 0), .o 52 (.ext iS 1), .o 53 (.ah bD 3), .op none none (.store jR ji 1), .o 54 (.ah bD 4), .op none none (.store kb jA 1)]) (.seq (.run [.o 55 (.load bD true 5), .op none none (.store df kp 5)]) .ret)
abbrev aox:AC:= .seq (.run [.m 37 aV,(.c 38 dB [fQ,(.k (.str [41]))])]) (.seq (.run [.m 39 aV,(.c 40 dB [gh,(.k (.str [123]))])]) (.seq (.block 2 (.loop ae6)) ae7))
abbrev aoy:AC:= .seq (.seq (.run [.m 10 aV, .c 11 db [bI], .m 12 bO, .g 13 12 true (.mv aV),(.d 14 12 true ga [bP,(.k (.str [41]))]), .g 15 12 true (.un .not bL), .o 16 (.pick bV ct (.k (.bool false)))]) (.cond cb aow .skip)) aox
abbrev aoz:AC:= .seq (.run [.m 5 aV, .c 6 fl [bd,(.k (.bool true))], .o 7 (.build [(.str []),(.slice .full 0 []),(.slice .full 0 []),(.slice .full 0 []),(.slice .full 0 [])] [(0,(1,bH))]), .o 3 (.alloc [(.str []),(.slice .full 0 []),(.slice .full 0 []),(.slice .full 0 []),(.slice .full 0 [])]), .op none none (.store bD bF 5)]) (.seq (.run [.m 8 aV,(.c 9 dB [bX,(.k (.str [40]))])]) aoy)
abbrev aoA:AC:= .seq (.run [.o 2 (.alloc [(.str []),(.slice .full 0 []),(.slice .full 0 []),(.slice .full 0 []),(.slice .full 0 [])])]) aoz
abbrev aoB:AC:= .par [.m 3 aV, .o 4 (.dN bD), .o 5 (.ah cT 0), .o 6 (.load bd false 1), .m 7 aV, .o 8 (.dN bF), .o 9 (.ah bX 1), .o 10 (.load cw false 1), .o 11 (.bE bH bI 4), .o 12 (.load bO true 4), .op none none (.store df bV 4)] [(0,0),(1,0),(2,0),(3,0),(4,0),(5,0),(6,0),(7,0),(8,0),(9,0),(10,0)]
abbrev aoC:AC:= .seq (.run [.o 2 (.alloc [(.int .i64 0),(.str []),(.int .i64 0),(.int .i64 0)])]) (.seq aoB .ret)
abbrev aoD:AC:= .cond cT (.seq (.run [.o 2 (.mv (.k (.slice .full 0 [])))]) .ret) .skip
abbrev aoE:AC:= .seq (.run [.o 2 (.mv (.k (.slice .full 0 [])))]) (.seq (.seq (.run [.m 3 aV, .nil (some 4) none false bD]) aoD) (.seq (.run [.o 5 (.c9 [(.str [])] 1 0 []), .m 6 aV, .o 7 (.app 1 16 bd bH), .m 2 bF]) .ret))
abbrev aoF:AC:= .cond cT (.seq (.run [.o 2 (.mv (.k (.slice .full 0 [])))]) .ret) .skip
abbrev aoG:AC:= .seq (.run [.o 2 (.mv (.k (.slice .full 0 [])))]) (.seq (.seq (.run [.m 3 aV, .nil (some 4) none false bD]) aoF) (.seq (.run [.o 5 (.c9 [(.str []),(.bool false)] 2 0 []), .m 6 aV, .o 7 (.app 2 24 bd bH), .m 2 bF]) .ret))
abbrev aoH:AC:= .par [.o 26 (.ah bI 2), .o 27 (.load ez false 1), .c 28 iM [ek], .o 29 (.ah bI 5), .o 30 (.load fa true 4), .c 31 nX [fk], .o 32 (.ah bO 2), .op none none (.store fv eZ 1), .o 33 (.ah bO 5), .op none none (.store fp fe 4), .o 34 (.ah bO 10), .op none none (.store fA (.k (.slice .full 0 [])) 1)] [(0,0),(1,0),(2,0),(3,0),(4,1),(5,0),(6,0),(7,0),(8,0),(9,0),(10,0),(11,0)]
abbrev aoI:AC:= .block 3 (.seq (.run [.o 40 (.bE fI gx 6), .o 41 (.load gK true 6), .o 13 (.alloc [(.bool false),(.str []),(.int .i64 0),(.int .i64 0),(.str []),(.slice .full 0 [])]), .op none none (.store bP gk 6)]) (.seq (.run [.o 42 (.ah bP 2), .o 43 (.load ie true 4), .c 44 nX [iy], .o 45 (.ah bP 2), .op none none (.store jg iR 4)]) (.run [.o 46 (.ah bO 10), .o 47 (.load jh false 1), .o 48 (.load bP true 6), .o 49 (.c9 [(.bool false),(.str []),(.int .i64 0),(.int .i64 0),(.str []),(.slice .full 0 [])] 6 1 [(0,iS)]), .o 50 (.app 6 80 jz iX), .o 51 (.ah bO 10), .op none none (.store ji jQ 1)])))
abbrev aoJ:AC:= .seq (.cond gh .skip (.exit 2)) (.seq aoI (.run [.o 52 (.bin .add gx (.k (.int .i64 1))), .m 38 jA]))
abbrev aoK:AC:= .seq (.run [.o 35 (.ah bI 10), .o 36 (.load fz false 1), .o 37 (.len fI), .o 38 (.mv (.k (.int .i64 0)))]) (.block 2 (.loop (.seq (.run [.o 39 (.bin .lss gx fQ)]) aoJ)))
abbrev aoL:AC:= .seq aoK (.seq (.run [.o 54 (.ah bI 11), .o 55 (.load kb false 1), .m 56 bb, .m 57 df, .c 58 lM [kp,lz,lO], .m 53 lA, .o 59 (.ext jR 0), .o 60 (.ext jR 1), .o 61 (.ah bO 11), .op none none (.store nY kq 1), .m 1 nq]) (.seq (.run [.o 63 (.ah bI 12), .o 64 (.load nZ false 1), .m 65 bb, .m 66 df, .c 67 lM [pS,rX,s6], .m 62 qw, .o 68 (.ext oC 0), .o 69 (.ext oC 1), .o 70 (.ah bO 12), .op none none (.store rh ra 1), .m 1 tY]) (.run [.m 71 bX, .o 72 (.load bO true 13), .o 73 (.c9 [(.int .i64 0),(.int .i64 0),(.slice .full 0 []),(.str []),(.str []),(.int .i64 0),(.int .i64 0),(.str []),(.slice .full 0 []),(.bool false),(.slice .full 0 []),(.slice .full 0 []),(.slice .full 0 [])] 13 1 [(0,vS)]), .o 74 (.app 13 208 xE xF), .m 8 xG])))
abbrev aoM:AC:= .seq (.run [.o 22 (.load bI true 13), .o 11 (.alloc [(.int .i64 0),(.int .i64 0),(.slice .full 0 []),(.str []),(.str []),(.int .i64 0),(.int .i64 0),(.str []),(.slice .full 0 []),(.bool false),(.slice .full 0 []),(.slice .full 0 []),(.slice .full 0 [])]), .op none none (.store bO dm 13)]) (.seq (.seq (.run [.m 23 df]) (.cond dD (.run [.m 24 bb, .o 25 (.ah bO 0), .op none none (.store di dd 1)]) .skip)) (.seq aoH aoL))
abbrev aoN:AC:= .seq (.run [.o 18 (.bE bL cb 13), .o 19 (.load cO true 13), .o 10 (.alloc [(.int .i64 0),(.int .i64 0),(.slice .full 0 []),(.str []),(.str []),(.int .i64 0),(.int .i64 0),(.str []),(.slice .full 0 []),(.bool false),(.slice .full 0 []),(.slice .full 0 []),(.slice .full 0 [])]), .op none none (.store bI cV 13)]) (.seq (.run [.m 20 bb, .o 21 (.bin .add dc (.k (.int .i64 1))), .m 1 dj]) aoM)
abbrev aoO:AC:= .seq (.cond cQ .skip (.exit 0)) (.seq (.block 1 aoN) (.run [.o 75 (.bin .add cb (.k (.int .i64 1))), .m 16 xH]))
abbrev aoP:AC:= .seq (.run [.m 14 aV, .o 15 (.len bL), .o 16 (.mv (.k (.int .i64 0)))]) (.block 0 (.loop (.seq (.run [.o 17 (.bin .lss cb ct)]) aoO)))
abbrev aoQ:AC:= .seq (.run [.o 6 (.mv (.k (.slice .full 0 []))), .o 7 (.mv (.k (.int .i64 0)))]) (.seq (.run [.o 8 (.mv (.k (.slice .full 0 [])))]) (.seq aoP (.seq (.run [.m 76 bX, .m 77 bb, .m 6 vT, .m 7 xI]) .ret)))
abbrev aoR:AC:= .run [.m 23 cT, .m 24 aV, .m 25 bO, .o 26 (.bE dd di 13), .o 27 (.load ez true 13), .m 28 bb, .m 29 df, .m 30 bD, .o 31 (.build [(.int .i64 0),(.int .i64 0),(.slice .full 0 []),(.str []),(.str []),(.int .i64 0),(.int .i64 0),(.str []),(.slice .full 0 []),(.bool false),(.slice .full 0 []),(.slice .full 0 []),(.slice .full 0 []),(.int .i64 0),(.int .i64 0),(.bool false)] [(0,(13,ek)),(13,(1,eZ)),(14,(1,fa)),(15,(1,fk))]), .o 32 (.c9 [(.int .i64 0),(.int .i64 0),(.slice .full 0 []),(.str []),(.str []),(.int .i64 0),(.int .i64 0),(.str []),(.slice .full 0 []),(.bool false),(.slice .full 0 []),(.slice .full 0 []),(.slice .full 0 []),(.int .i64 0),(.int .i64 0),(.bool false)] 16 1 [(0,fe)]), .o 33 (.app 16 232 dD fv), .m 4 fp]
abbrev aoS:AC:= .par [.m 36 aV, .m 37 bO, .o 38 (.bE fI fQ 13), .o 39 (.ah gx 11), .o 40 (.load gh false 1), .m 41 bb, .o 42 (.bin .add gk (.k (.int .i64 1))), .m 43 aV, .m 44 bO, .o 45 (.bE iy iR 13), .o 46 (.ah jg 0), .o 47 (.load jh false 1), .m 48 cT, .c 49 nV [gK,ie,jz,(.k (.bool false)),iS], .m 4 iX] [(0,0),(1,0),(2,0),(3,0),(4,0),(5,0),(6,0),(7,0),(8,0),(9,0),(10,0),(11,0),(12,0),(13,0),(14,0)]
abbrev aoT:AC:= .par [.m 50 aV, .m 51 bO, .o 52 (.bE jQ ji 13), .o 53 (.ah jA 12), .o 54 (.load jR false 1), .m 55 bb, .o 56 (.bin .add kp (.k (.int .i64 1))), .m 57 aV, .m 58 bO, .o 59 (.bE lO lA 13), .o 60 (.ah kq 0), .o 61 (.load nq false 1), .m 62 cT, .c 63 nV [kb,lz,nY,(.k (.bool true)),oC], .m 4 nZ] [(0,0),(1,0),(2,0),(3,0),(4,0),(5,0),(6,0),(7,0),(8,0),(9,0),(10,0),(11,0),(12,0),(13,0),(14,0)]
abbrev aoU:AC:= .seq aoR (.seq (.run [.m 34 bb, .o 35 (.bin .leq fA (.k (.int .i64 12)))]) (.cond fz (.seq aoS aoT) .skip))
abbrev aoV:AC:= .seq (.seq (.run [.m 12 bO, .m 13 aV, .o 14 (.len bP), .o 15 (.bin .lss bV bL), .m 16 ct, .g 17 16 true (.mv cT), .g 18 16 true (.len cQ), .g 19 16 true (.bin .leq cO (.k (.int .i64 200))), .o 20 (.pick cb cV (.k (.bool false)))]) (.cond dc .skip (.exit 0))) (.seq (.block 1 aoU) (.run [.m 21 bO, .o 22 (.bin .add dj (.k (.int .i64 1))), .m 11 dm]))
abbrev aoW:AC:= .seq (.seq (.run [.o 11 (.mv (.k (.int .i64 0)))]) (.block 0 (.loop aoV))) (.seq (.run [.m 64 cT, .m 10 pS]) .ret)
abbrev aoX:AC:= .seq (.run [.o 10 (.mv (.k (.slice .full 0 [])))]) aoW
abbrev aoY:AC:= .seq (.seq (.run [.m 7 bH, .o 8 (.ah df 3), .o 9 (.load bX false 1), .o 10 (.len cw), .o 11 (.bin .lss bF bI), .m 12 bO, .g 13 12 true (.mv bd), .g 14 12 true (.mv bb), .g 15 12 true (.bin .leq bP bL), .o 16 (.pick bV ct (.k (.bool false)))]) (.cond cb .skip (.exit 0))) (.seq (.block 1 (.run [.m 19 bd, .o 20 (.ah df 3), .o 21 (.load dc false 1), .m 22 bH, .o 23 (.bE dj dm 4), .o 24 (.load dD true 4), .m 25 bb, .m 26 bd, .o 27 (.bin .sub di ez), .c 28 pK [dd,ek], .o 29 (.bin .add cV eZ), .m 5 fa])) (.run [.m 17 bH, .o 18 (.bin .add cQ (.k (.int .i64 1))), .m 6 cO]))
abbrev aoZ:AC:= .seq (.seq (.run [.o 6 (.mv (.k (.int .i64 0)))]) (.block 0 (.loop aoY))) (.seq (.run [.m 30 bd, .m 4 fk]) .ret)
abbrev ao0:AC:= .seq (.run [.o 2 (.box aV), .o 4 (.mv (.k (.int .i64 0)))]) (.seq (.run [.o 5 (.mv (.k (.int .i64 1)))]) aoZ)
abbrev ao1:AC:= .cond bP (.seq (.run [.o 2 (.mv (.k (.bool false)))]) .ret) .skip
abbrev ao2:AC:= .seq (.block 1 (.seq (.run [.o 9 (.bE bd bF 1), .o 10 (.load cw false 1), .m 4 bI]) (.seq (.run [.m 11 cT, .c 12 kf [bO], .o 13 (.un .not bV)]) ao1))) (.run [.o 14 (.bin .add bF (.k (.int .i64 1))), .m 7 bL])
abbrev ao3:AC:= .block 0 (.loop (.seq (.run [.o 8 (.bin .lss bF bH)]) (.seq (.cond bX .skip (.exit 0)) ao2)))
abbrev ao4:AC:= .seq (.seq (.run [.m 5 aV, .o 6 (.len bd), .o 7 (.mv (.k (.int .i64 0)))]) ao3) (.seq (.run [.o 2 (.mv (.k (.bool true)))]) .ret)
abbrev ao5:AC:= .seq (.run [.o 2 (.mv (.k (.bool false)))]) ao4
abbrev ao6:AC:= .cond cb (.seq (.run [.o 2 (.mv (.k (.bool false)))]) .ret) .skip
abbrev ao7:AC:= .cond fA (.seq (.run [.o 2 (.mv (.k (.bool false)))]) .ret) .skip
abbrev ao8:AC:= .block 1 (.seq (.run [.m 23 aV, .m 24 bD, .o 25 (.qf dD dd), .c 26 s5 [di], .o 27 (.un .not ez), .m 28 ek, .g 29 28 true (.mv aV), .g 30 28 true (.mv bD), .g 31 28 true (.qf fa fk), .d 32 28 true xB [fe], .g 33 28 true (.un .not fv), .o 34 (.pick eZ fp (.k (.bool false)))]) ao7)
abbrev ao9:AC:= .seq (.seq (.run [.m 17 bD, .m 18 aV, .o 19 (.nk cO), .o 20 (.bin .lss cQ cV)]) (.cond dc .skip (.exit 0))) (.seq ao8 (.run [.m 21 bD, .o 22 (.bin .add dj (.k (.int .i64 1))), .m 3 dm]))
abbrev apa:AC:= .seq (.seq (.run [.o 3 (.mv (.k (.int .i64 1)))]) (.block 0 (.loop ao9))) (.seq (.run [.m 35 aV, .c 36 zw [fz], .o 37 (.un .not fI), .m 2 fQ]) .ret)
abbrev apb:AC:= .seq (.seq (.run [.m 4 aV, .o 5 (.bin .eql cT (.k (.str []))), .m 6 bd, .g 7 6 false (.mv aV), .g 8 6 false (.nk bF), .g 9 6 false (.bin .gtr bX (.k (.int .i64 8))), .o 10 (.pick bH (.k (.bool true)) cw), .m 11 bI, .g 12 11 false (.mv aV), .g 13 11 false (.qf bV (.k (.int .i64 0))), .d 14 11 false s5 [bP], .g 15 11 false (.un .not bL), .o 16 (.pick bO (.k (.bool true)) ct)]) ao6) apa
abbrev apc:AC:= .seq (.run [.o 2 (.mv (.k (.bool false)))]) apb
abbrev apd:AC:= .run [.o 8 (.ah bb 1), .o 9 (.load bX false 1), .o 10 (.bin .eql cw (.k (.int .i64 1))), .m 11 bI, .g 12 11 false (.ah bb 1), .g 13 11 false (.load bV false 1), .g 14 11 false (.bin .eql bP (.k (.int .i64 3))), .o 15 (.pick bO (.k (.bool true)) bL), .m 16 ct, .g 17 16 false (.ah bb 1), .g 18 16 false (.load cQ false 1), .g 19 16 false (.bin .eql cO (.k (.int .i64 5))), .o 20 (.pick cb (.k (.bool true)) cV), .m 21 dc, .g 22 21 false (.ah bb 1), .g 23 21 false (.load dm false 1), .g 24 21 false (.bin .eql dD (.k (.int .i64 6))), .o 25 (.pick dj (.k (.bool true)) dd), .m 26 di, .g 27 26 false (.ah bb 1), .g 28 26 false (.load ek false 1), .g 29 26 false (.bin .eql eZ (.k (.int .i64 9))), .g 30 26 false (.mv fa), .g 31 30 true (.ah bb 9), .g 32 30 true (.load fe false 1), .g 33 26 false (.pick fk fv (.k (.bool false))), .o 34 (.pick ez (.k (.bool true)) fp), .m 3 fA]
abbrev ape:AC:= .run [.o 51 (.ah bb 1), .o 52 (.load ji false 1), .o 53 (.bin .lss jA (.k (.int .i64 1))), .m 54 jR, .g 55 54 false (.ah bb 1), .g 56 54 false (.load kp false 1), .g 57 54 false (.bin .gtr lz (.k (.int .i64 10))), .o 58 (.pick kb (.k (.bool true)) lO), .m 59 lA, .g 60 59 false (.ah bb 2), .g 61 59 false (.load nq false 1), .d 62 59 false oy [nY], .g 63 59 false (.un .not oC), .o 64 (.pick kq (.k (.bool true)) nZ), .m 65 pS, .g 66 65 false (.mv bD), .g 67 65 false (.mv s6), .g 68 67 true (.ah bb 5), .g 69 67 true (.load ra true 4), .d 70 67 true qL [tY], .g 71 67 true (.un .not rh), .g 72 65 false (.pick qw xE (.k (.bool false))), .o 73 (.pick rX (.k (.bool true)) vS), .m 74 xF, .g 75 74 false (.mv bD), .g 76 74 false (.un .not xH), .g 77 74 false (.mv vT), .g 78 77 true (.ah bb 5), .g 79 77 true (.load vU true 4), .d 80 77 true uL [Bm], .g 81 77 true (.un .not xJ), .g 82 74 false (.pick xI xK (.k (.bool false))), .o 83 (.pick xG (.k (.bool true)) Fb), .m 84 Fc, .g 85 84 false (.ah bb 9), .g 86 84 false (.load Ff false 1), .g 87 84 false (.mv Fg), .g 88 87 true (.ah bb 1), .g 89 87 true (.load Fi false 1), .g 90 87 true (.bin .neq Fj (.k (.int .i64 9))), .g 91 84 false (.pick Fh Fk (.k (.bool false))), .o 92 (.pick Fe (.k (.bool true)) Fl)]
abbrev apf:AC:= .cond Fm (.seq (.run [.o 2 (.mv (.k (.bool false)))]) .ret) .skip
abbrev apg:AC:= .run [.m 93 cT, .m 94 HU, .g 95 94 true (.ah bb 3), .g 96 94 true (.load HW false 1), .d 97 94 true kf [L6], .g 98 94 true (.un .not RP), .o 99 (.pick HV RQ (.k (.bool false))), .m 100 RR, .g 101 100 false (.mv cT), .g 102 100 false (.un .not KB), .g 103 100 false (.mv KD), .g 104 103 true (.ah bb 3), .g 105 103 true (.load KF false 1), .g 106 103 true (.bin .neq KH (.k (.str []))), .g 107 100 false (.pick KE KI (.k (.bool false))), .g 108 100 false (.mv KK), .g 109 108 true (.mv bd), .g 110 108 true (.mv KN), .g 111 110 true (.ah bb 3), .g 112 110 true (.load RT false 1), .d 113 110 true kf [RU], .g 114 108 true (.pick RS RV (.k (.bool false))), .g 115 108 true (.un .not RW), .g 116 100 false (.pick KM RX (.k (.bool false))), .o 117 (.pick KA (.k (.bool true)) RY)]
abbrev aph:AC:= .cond RZ (.seq (.run [.o 2 (.mv (.k (.bool false)))]) .ret) .skip
abbrev api:AC:= .run [.m 118 bd, .o 119 (.ah bb 4), .o 120 (.load R1 false 1), .o 121 (.bin .neq R3 (.k (.str []))), .o 122 (.BW true R0 R4), .m 123 R5, .g 124 123 false (.mv bd), .g 125 123 false (.mv R7), .g 126 125 true (.ah bb 4), .g 127 125 true (.load R9 false 1), .d 128 125 true kf [aah], .g 129 125 true (.un .not aai), .g 130 123 false (.pick R8 aaj (.k (.bool false))), .o 131 (.pick R6 (.k (.bool true)) aak), .m 132 aal, .g 133 132 false (.mv bd), .g 134 132 false (.un .not aam), .g 135 132 false (.mv aan), .g 136 135 true (.ah bb 10), .g 137 135 true (.load aap false 1), .g 138 135 true (.len aaq), .g 139 135 true (.bin .gtr aar (.k (.int .i64 0))), .g 140 132 false (.pick aao aas (.k (.bool false))), .o 141 (.pick Sb (.k (.bool true)) aat)]
abbrev apj:AC:= .cond aau (.seq (.run [.o 2 (.mv (.k (.bool false)))]) .ret) .skip
abbrev apk:AC:= .cond aaC (.seq (.run [.o 2 (.mv (.k (.bool false)))]) .ret) .skip
abbrev apl:AC:= .seq (.block 1 (.seq (.run [.o 147 (.bE Sc KO 6), .o 148 (.load aay true 6), .o 7 (.alloc [(.bool false),(.str []),(.int .i64 0),(.int .i64 0),(.str []),(.slice .full 0 [])]), .op none none (.store bF aaz 6)]) (.seq (.run [.o 149 (.load bF true 6), .c 150 Bk [aaA], .o 151 (.un .not aaB)]) apk))) (.run [.o 152 (.bin .add KO (.k (.int .i64 1))), .m 145 ah5])
abbrev apm:AC:= .block 0 (.loop (.seq (.run [.o 146 (.bin .lss KO aaw)]) (.seq (.cond aax .skip (.exit 0)) apl)))
abbrev apn:AC:= .run [.o 153 (.ah bb 11), .o 154 (.load ah6 false 1), .o 155 (.len ah7), .o 156 (.bin .eql ah8 (.k (.int .i64 0))), .m 157 ah9, .g 158 157 false (.ah bb 1), .g 159 157 false (.load aib false 1), .g 160 157 false (.bin .eql aic (.k (.int .i64 5))), .o 161 (.pick aia (.k (.bool true)) aid), .m 162 aie, .g 163 162 false (.ah bb 1), .g 164 162 false (.load aih false 1), .g 165 162 false (.bin .eql aii (.k (.int .i64 6))), .o 166 (.pick aif (.k (.bool true)) aij), .m 167 aik, .g 168 167 true (.ah bb 12), .g 169 167 true (.load aim false 1), .g 170 167 true (.len ain), .g 171 167 true (.bin .eql aio (.k (.int .i64 0))), .g 172 167 true (.mv aip), .g 173 172 false (.ah bb 1), .g 174 172 false (.load air false 1), .g 175 172 false (.bin .eql ais (.k (.int .i64 5))), .g 176 167 true (.pick aiq (.k (.bool true)) ait), .o 177 (.pick ail aiu (.k (.bool false))), .m 2 aiv]
abbrev ae8:AC:= .seq (.seq (.run [.o 142 (.ah bb 10), .o 143 (.load aav false 1), .o 144 (.len Sc), .o 145 (.mv (.k (.int .i64 0)))]) apm) (.seq apn .ret)
abbrev ae9:AC:= .seq (.seq api apj) ae8
abbrev afa:AC:= .seq (.seq apg aph) ae9
abbrev afb:AC:= .seq (.seq ape apf) afa
abbrev afc:AC:= .seq (.run [.o 48 (.ah bb 1), .o 49 (.load iS false 1), .o 50 (.bin .eql iX (.k (.int .i64 4))), .m 5 jQ]) afb
abbrev afd:AC:= .seq (.run [.o 35 (.ah bb 1), .o 36 (.load fz false 1), .o 37 (.bin .eql fI (.k (.int .i64 1))), .m 38 fQ, .g 39 38 false (.ah bb 1), .g 40 38 false (.load gh false 1), .g 41 38 false (.bin .eql gK (.k (.int .i64 2))), .o 42 (.pick gx (.k (.bool true)) gk), .m 43 ie, .g 44 43 false (.ah bb 1), .g 45 43 false (.load iR false 1), .g 46 43 false (.bin .eql jg (.k (.int .i64 10))), .o 47 (.pick iy (.k (.bool true)) jh), .m 4 jz]) afc
abbrev afe:AC:= .seq apd afd
abbrev apo:AC:= .seq (.run [.o 1 (.box aV), .o 2 (.mv (.k (.bool false)))]) afe
abbrev apq:AC:= .par [.o 7 (.ah bb 3), .o 8 (.load bF false 1), .o 9 (.bin .add bX (.k (.str [32,61,32]))), .o 10 (.ah bb 5), .o 11 (.load bI true 4), .c 12 il [bO], .o 13 (.bin .add cw bV), .o 14 (.bin .add bP (.k (.str [59]))), .m 2 bL] [(3,0),(4,0),(5,0),(0,0),(1,1),(2,0),(6,0),(7,0),(8,0)]
abbrev apr:AC:= .cond jQ (.seq (.run [.o 52 (.ah bb 3), .o 53 (.load jA false 1), .o 54 (.bin .add (.k (.str [103,111,116,111,32])) jR), .o 55 (.bin .add kb (.k (.str [59]))), .m 2 kp]) .ret) .skip
abbrev aps:AC:= .cond iS (.seq (.run [.o 2 (.mv (.k (.str [99,111,110,116,105,110,117,101,59])))]) .ret) (.seq (.run [.o 51 (.bin .eql cT (.k (.int .i64 10))), .m 50 ji]) apr)
abbrev apt:AC:= .cond jh (.seq (.run [.o 2 (.mv (.k (.str [98,114,101,97,107,59])))]) .ret) (.seq (.run [.o 49 (.bin .eql cT (.k (.int .i64 8))), .m 48 iX]) aps)
abbrev apu:AC:= .cond gh (.seq (.run [.o 41 (.ah bb 5), .o 42 (.load gk true 4), .c 43 il [ie], .o 44 (.bin .add (.k (.str [119,104,105,108,101,32,40])) iy), .o 45 (.bin .add iR (.k (.str [41,32,123]))), .m 2 jg]) .ret) (.seq (.run [.o 47 (.bin .eql cT (.k (.int .i64 7))), .m 46 jz]) apt)
abbrev apv:AC:= .cond fv (.seq (.run [.o 34 (.ah bb 5), .o 35 (.load fA true 4), .c 36 il [fz], .o 37 (.bin .add (.k (.str [105,102,32,40])) fI), .o 38 (.bin .add fQ (.k (.str [41,32,123]))), .m 2 gx]) .ret) (.seq (.run [.o 40 (.bin .eql cT (.k (.int .i64 6))), .m 39 gK]) apu)
abbrev apw:AC:= .cond eZ (.seq (.run [.o 30 (.load bb true 13), .c 31 zz [fk], .m 2 fe]) .ret) (.seq (.run [.o 33 (.bin .eql cT (.k (.int .i64 5))), .m 32 fp]) apv)
abbrev apx:AC:= .cond dj (.seq (.run [.o 23 (.ah bb 5), .o 24 (.load dD true 4), .c 25 il [dd], .o 26 (.bin .add (.k (.str [112,114,105,110,116,32])) di), .o 27 (.bin .add ez (.k (.str [59]))), .m 2 ek]) .ret) (.seq (.run [.o 29 (.bin .eql cT (.k (.int .i64 4))), .m 28 fa]) apw)
abbrev apy:AC:= .cond ct (.seq (.run [.o 17 (.ah bb 3), .o 18 (.load cQ false 1), .o 19 (.bin .add (.k (.str [114,101,97,100,32])) cO), .o 20 (.bin .add cV (.k (.str [59]))), .m 2 dc]) .ret) (.seq (.run [.o 22 (.bin .eql cT (.k (.int .i64 3))), .m 21 dm]) apx)
abbrev apz:AC:= .cond bd (.seq apq .ret) (.seq (.run [.o 16 (.bin .eql cT (.k (.int .i64 2))), .m 15 cb]) apy)
abbrev apA:AC:= .block 0 (.seq (.run [.o 6 (.bin .eql cT (.k (.int .i64 1))), .m 5 bH]) apz)
abbrev apB:AC:= .cond lO (.seq (.run [.o 58 (.ah bb 5), .o 59 (.load lA true 4), .c 60 il [kq], .o 61 (.bin .add (.k (.str [114,101,116,117,114,110,32])) nq), .o 62 (.bin .add nY (.k (.str [59]))), .m 2 oC]) .ret) .skip
abbrev apC:AC:= .seq (.seq (.run [.o 56 (.ah bb 9), .o 57 (.load lz false 1)]) apB) (.seq (.run [.o 2 (.mv (.k (.str [114,101,116,117,114,110,59])))]) .ret)
abbrev apD:AC:= .seq (.run [.o 1 (.box aV), .o 2 (.mv (.k (.str [])))]) (.seq (.seq (.run [.o 3 (.ah bb 1), .o 4 (.load bD false 1)]) apA) apC)
abbrev apE:AC:= .run [.o 6 (.ah df 0), .o 7 (.load bH false 1), .o 8 (.ah bD 0), .o 9 (.load bX false 1), .o 10 (.bin .neq bF cw), .m 11 bI, .g 12 11 false (.ah df 1), .g 13 11 false (.load bV false 1), .g 14 11 false (.ah bD 1), .g 15 11 false (.load bL false 1), .g 16 11 false (.bin .neq bP ct), .o 17 (.pick bO (.k (.bool true)) cb), .m 18 cQ, .g 19 18 false (.ah df 2), .g 20 18 false (.load cV false 1), .g 21 18 false (.ah bD 2), .g 22 18 false (.load dj false 1), .g 23 18 false (.bin .neq dc dm), .o 24 (.pick cO (.k (.bool true)) dD), .m 25 dd, .g 26 25 false (.ah df 3), .g 27 25 false (.load ez false 1), .g 28 25 false (.len ek), .g 29 25 false (.ah bD 3), .g 30 25 false (.load fa false 1), .g 31 25 false (.len fk), .g 32 25 false (.bin .neq eZ fe), .o 33 (.pick di (.k (.bool true)) fv)]
abbrev apG:AC:= .cond fp (.seq (.run [.o 4 (.mv (.k (.bool false)))]) .ret) .skip
abbrev apH:AC:= .par [.o 40 (.ah df 3), .o 41 (.load gK false 1), .m 42 bd, .o 43 (.bE gk ie 4), .o 44 (.load iy true 4), .o 45 (.ah bD 3), .o 46 (.load jg false 1), .m 47 bd, .o 48 (.bE jh jz 4), .o 49 (.load iS true 4), .c 50 lN [iR,iX], .o 51 (.un .not jQ)] [(0,0),(1,0),(2,0),(3,0),(4,0),(5,0),(6,0),(7,0),(8,0),(9,0),(10,0),(11,0)]
abbrev apI:AC:= .cond ji (.seq (.run [.o 4 (.mv (.k (.bool false)))]) .ret) .skip
abbrev apJ:AC:= .seq (.cond gx .skip (.exit 0)) (.seq (.block 1 (.seq (.run [.m 39 fQ, .m 5 gh]) (.seq apH apI))) (.run [.o 52 (.bin .add fQ (.k (.int .i64 1))), .m 37 jA]))
abbrev apK:AC:= .seq (.run [.o 34 (.ah df 3), .o 35 (.load fA false 1), .o 36 (.len fz), .o 37 (.mv (.k (.int .i64 0)))]) (.block 0 (.loop (.seq (.run [.o 38 (.bin .lss fQ fI)]) apJ)))
abbrev apL:AC:= .seq apK (.seq (.run [.o 4 (.mv (.k (.bool true)))]) .ret)
abbrev apN:AC:= .seq (.run [.o 2 (.box aV), .o 3 (.box bb), .o 4 (.mv (.k (.bool false)))]) (.seq (.seq apE apG) apL)
abbrev apO:AC:= .seq (.run [.o 4 (.mv (.k (.bool false)))]) (.seq (.run [.m 5 bb, .m 6 bd, .g 7 6 true (.mv aV), .d 8 6 true o7 [bF], .o 9 (.pick bH bX (.k (.bool false))), .m 10 cw, .g 11 10 false (.mv bb), .g 12 10 false (.un .not bO), .g 13 10 false (.mv bV), .g 14 13 true (.mv aV), .g 15 13 true (.bin .eql bL (.k (.str []))), .g 16 10 false (.pick bP ct (.k (.bool false))), .o 17 (.pick bI (.k (.bool true)) cb), .m 4 cQ]) .ret)
abbrev apP:AC:= .seq (.run [.o 2 (.box aV), .o 4 (.mv (.k (.bool false)))]) (.seq (.run [.m 5 bb, .m 6 bd, .g 7 6 true (.load df true 4), .d 8 6 true qM [bF], .o 9 (.pick bH bX (.k (.bool false))), .m 10 cw, .g 11 10 false (.mv bb), .g 12 10 false (.un .not bO), .g 13 10 false (.mv bV), .g 14 13 true (.load df true 4), .d 15 13 true zA [bL], .g 16 10 false (.pick bP ct (.k (.bool false))), .o 17 (.pick bI (.k (.bool true)) cb), .m 4 cQ]) .ret)
abbrev apQ:AC:= .cond di (.seq (.run [.o 2 (.mv (.k (.bool false)))]) .ret) .skip
abbrev apR:AC:= .seq (.run [.o 9 (.bE bd bF 6), .o 10 (.load cw true 6), .o 4 (.alloc [(.bool false),(.str []),(.int .i64 0),(.int .i64 0),(.str []),(.slice .full 0 [])]), .op none none (.store cT bI 6)]) (.seq (.run [.o 11 (.ah cT 1), .o 12 (.load bO false 1), .o 13 (.ah cT 0), .o 14 (.load bP false 1), .c 15 qu [bV,bL], .o 16 (.un .not ct), .m 17 cb, .g 18 17 false (.ah cT 2), .g 19 17 false (.load cO true 4), .g 20 17 false (.ah cT 0), .g 21 17 false (.load dc false 1), .g 22 17 false (.un .not dj), .d 23 17 false sZ [cV,dm], .g 24 17 false (.un .not dD), .o 25 (.pick cQ (.k (.bool true)) dd)]) apQ)
abbrev apS:AC:= .seq (.cond bX .skip (.exit 0)) (.seq (.block 1 apR) (.run [.o 26 (.bin .add bF (.k (.int .i64 1))), .m 7 ez]))
abbrev apT:AC:= .seq (.run [.m 5 aV, .o 6 (.len bd), .o 7 (.mv (.k (.int .i64 0)))]) (.block 0 (.loop (.seq (.run [.o 8 (.bin .lss bF bH)]) apS)))
abbrev apU:AC:= .seq apT (.seq (.run [.o 2 (.mv (.k (.bool true)))]) .ret)
abbrev apV:AC:= .seq (.run [.o 2 (.mv (.k (.bool false)))]) apU
abbrev apW:AC:= .seq (.block 1 (.seq (.run [.o 13 (.bE cw bO 13), .o 14 (.load bP true 13), .o 5 (.alloc [(.int .i64 0),(.int .i64 0),(.slice .full 0 []),(.str []),(.str []),(.int .i64 0),(.int .i64 0),(.str []),(.slice .full 0 []),(.bool false),(.slice .full 0 []),(.slice .full 0 []),(.slice .full 0 [])]), .op none none (.store bd bL 13)]) (.run [.m 15 bD, .o 16 (.load bd true 13), .c 17 nW [cb], .o 18 (.bin .add ct cQ), .m 3 cO]))) (.run [.o 19 (.bin .add bO (.k (.int .i64 1))), .m 11 cV])
abbrev apX:AC:= .block 0 (.loop (.seq (.run [.o 12 (.bin .lss bO bI)]) (.seq (.cond bV .skip (.exit 0)) apW)))
abbrev apY:AC:= .seq (.block 3 (.seq (.run [.o 25 (.bE dj dD 13), .o 26 (.load di true 13), .o 7 (.alloc [(.int .i64 0),(.int .i64 0),(.slice .full 0 []),(.str []),(.str []),(.int .i64 0),(.int .i64 0),(.str []),(.slice .full 0 []),(.bool false),(.slice .full 0 []),(.slice .full 0 []),(.slice .full 0 [])]), .op none none (.store bF ez 13)]) (.run [.m 27 bD, .o 28 (.load bF true 13), .c 29 nW [eZ], .o 30 (.bin .add ek fa), .m 3 fk]))) (.run [.o 31 (.bin .add dD (.k (.int .i64 1))), .m 23 fe])
abbrev apZ:AC:= .block 2 (.loop (.seq (.run [.o 24 (.bin .lss dD dm)]) (.seq (.cond dd .skip (.exit 2)) apY)))
abbrev ap0:AC:= .seq (.seq (.run [.o 20 (.ah bb 12), .o 21 (.load dc false 1), .o 22 (.len dj), .o 23 (.mv (.k (.int .i64 0)))]) apZ) (.seq (.run [.m 32 bD, .m 2 fv]) .ret)
abbrev ap1:AC:= .seq (.seq (.run [.o 8 (.ah bb 11), .o 9 (.load bX false 1), .o 10 (.len cw), .o 11 (.mv (.k (.int .i64 0)))]) apX) ap0
abbrev ap2:AC:= .seq (.run [.o 1 (.box aV), .o 2 (.mv (.k (.int .i64 0)))]) (.seq (.run [.o 3 (.mv (.k (.int .i64 1)))]) ap1)
abbrev ap3:AC:= .cond bd (.seq (.run [.o 2 (.mv (.k (.slice .full 0 [])))]) .ret) .skip
abbrev ap4:AC:= .seq (.seq (.run [.o 3 (.load bb true 4), .c 4 qM [bD], .o 5 (.un .not cT)]) ap3) (.seq (.run [.o 6 (.load bb true 4),(.c 7 jH [bH,(.k (.slice .full 0 []))]), .m 2 bF]) .ret)
abbrev ap5:AC:= .seq (.run [.o 1 (.box aV), .o 2 (.mv (.k (.slice .full 0 [])))]) ap4
abbrev ap6:AC:= .seq (.run [.o 4 (.mv (.k (.bool false)))]) (.seq (.run [.m 5 aV, .m 6 bb, .c 7 gT [bd,bH], .o 8 (.bin .geq bF (.k (.int .i64 0))), .m 4 bX]) .ret)
abbrev ap7:AC:= .seq (.run [.o 2 (.box aV), .o 3 (.mv (.k (.bool false)))]) (.seq (.run [.o 4 (.ah df 0), .o 5 (.load cT false 1), .o 6 (.load bb false 1), .o 7 (.bin .eql bd bH), .m 3 bF]) .ret)
abbrev ap8:AC:= .seq (.run [.o 16 (.bE bV bL 17), .o 17 (.load cb true 17), .o 7 (.alloc [(.int .i64 0),(.int .i64 0),(.slice .full 0 []),(.str []),(.str []),(.int .i64 0),(.int .i64 0),(.str []),(.slice .full 0 []),(.bool false),(.slice .full 0 []),(.slice .full 0 []),(.slice .full 0 []),(.int .i64 0),(.int .i64 0),(.int .i64 0),(.int .i64 0)]), .op none none (.store bF cQ 17)]) (.seq (.run [.o 18 (.ah bF 0), .o 19 (.ah cO 1), .o 20 (.load cV false 1), .o 21 (.bin .eql dc (.k (.int .i64 4)))]) (.cond dj (.run [.m 22 bd, .o 23 (.ah bF 0), .o 24 (.ah dD 4), .o 25 (.load dd false 1), .o 26 (.c9 [(.str [])] 1 1 [(0,di)]), .o 27 (.app 1 16 dm ez), .m 5 ek]) .skip))
abbrev ap9:AC:= .seq (.cond ct .skip (.exit 0)) (.seq (.block 1 ap8) (.run [.o 28 (.bin .add bL (.k (.int .i64 1))), .m 14 eZ]))
abbrev aqa:AC:= .seq (.run [.m 8 aV, .m 9 aV, .m 10 bb, .c 11 n8 [cw,bI], .c 12 iD [bX,bO], .o 13 (.len bV), .o 14 (.mv (.k (.int .i64 0)))]) (.block 0 (.loop (.seq (.run [.o 15 (.bin .lss bL bP)]) ap9)))
abbrev aqb:AC:= .seq (.run [.o 4 (.mv (.k (.slice .full 0 [])))]) (.seq (.run [.o 5 (.mv (.k (.slice .full 0 [])))]) (.seq aqa (.seq (.run [.m 29 bd, .c 30 km [fa]]) (.seq (.run [.m 31 bd, .c 32 kK [fe], .m 4 fv]) .ret))))
abbrev aqc:AC:= .block 1 (.seq (.run [.m 10 bX, .m 5 bI]) (.seq (.run [.m 11 bb, .m 12 aV, .m 13 bd, .o 14 (.bE bV bP 5), .o 15 (.load bL true 5),(.kg (some 16) none 11 [ct])]) (.cond cb (.seq (.run [.m 17 bd, .m 4 cQ]) .ret) .skip)))
abbrev aqd:AC:= .seq (.cond cw .skip (.exit 0)) (.seq aqc (.run [.o 18 (.bin .add bX (.k (.int .i64 1))), .m 8 cO]))
abbrev aqe:AC:= .seq (.run [.m 6 aV, .o 7 (.len bH), .o 8 (.mv (.k (.int .i64 0)))]) (.block 0 (.loop (.seq (.run [.o 9 (.bin .lss bX bF)]) aqd)))
abbrev aqf:AC:= .seq (.run [(.o 4 (.mv (.k (.int .i64 (-1)))))]) .ret
abbrev aqg:AC:= .seq (.run [.o 4 (.mv (.k (.int .i64 0)))]) (.seq aqe aqf)
abbrev aqh:AC:= .seq (.run [.o 2 (.box aV), .o 3 (.mv (.k (.bool false)))]) (.seq (.run [.o 4 (.ah df 0), .o 5 (.load cT false 1), .o 6 (.load bb false 1), .o 7 (.bin .eql bd bH), .m 3 bF]) .ret)
abbrev aqi:AC:= .seq (.run [.m 16 aV, .c 17 fx [cb,(.k (.int .i64 3))]]) (.seq (.run [.o 4 (.mv (.k (.str [])))]) .ret)
abbrev aqj:AC:= .seq (.run [.m 20 aV, .c 21 fx [dc,(.k (.int .i64 4))]]) (.seq (.run [.o 4 (.mv (.k (.str [])))]) .ret)
abbrev aqk:AC:= .seq (.seq (.run [.m 18 bb, .o 19 (.un .not cO)]) (.cond cV aqj .skip)) (.seq (.run [.m 22 aV, .o 23 (.dN dm), .o 24 (.ah dD 1), .o 25 (.load dd false 1), .o 26 (.bin .add di (.k (.int .i64 1))), .o 27 (.dN dm), .o 28 (.ah ek 1), .op none none (.store eZ ez 1)]) (.seq (.run [.o 29 (.ah bd 1), .o 30 (.load fa false 1), .m 4 fk]) .ret))
abbrev aql:AC:= .seq (.seq (.run [.m 8 aV, .c 9 db [bX], .o 10 (.un .not cw), .m 11 bI, .g 12 11 false (.ah bd 0), .g 13 11 false (.load bV false 1), .g 14 11 false (.bin .neq bP (.k (.int .i64 1))), .o 15 (.pick bO (.k (.bool true)) bL)]) (.cond ct aqi .skip)) aqk
abbrev aqm:AC:= .seq (.run [.o 4 (.mv (.k (.str [])))]) (.seq (.run [.m 6 aV, .c 7 dU [bH], .o 5 (.alloc [(.int .i64 0),(.str []),(.int .i64 0),(.int .i64 0)]), .op none none (.store bd bF 4)]) aql)
abbrev aqn:AC:= .seq (.run [.m 4 aV, .m 5 bb, .c 6 dT [cT,bd], .o 7 (.un .not bH)]) (.cond bF (.run [.m 8 aV, .c 9 fx [bX,(.k (.int .i64 3))]]) .skip)
abbrev aqo:AC:= .cond dd (.seq (.run [.m 25 aV, .o 26 (.dN di), .o 27 (.ah ez 1), .o 28 (.load ek false 1), .o 29 (.bin .add eZ (.k (.int .i64 1))), .o 30 (.dN di), .o 31 (.ah fk 1), .op none none (.store fe fa 1)]) (.seq (.run [.m 32 bX, .m 33 cw, .m 6 fv, .m 7 fp]) .ret)) .skip
abbrev aqp:AC:= .seq (.seq (.run [.m 15 aV,(.c 16 ga [ct,(.k (.str [125]))]), .m 17 cb, .g 18 17 true (.mv df), .g 19 17 true (.mv cO), .g 20 19 false (.mv cw), .g 21 19 false (.len dc), .g 22 19 false (.bin .eql dj (.k (.int .i64 0))), .g 23 17 true (.pick cV (.k (.bool true)) dm), .o 24 (.pick cQ dD (.k (.bool false)))]) aqo) (.seq (.run [.m 34 aV, .m 35 bb, .c 36 pR [fA,fz], .o 10 (.alloc [(.int .i64 0),(.int .i64 0),(.slice .full 0 []),(.str []),(.str []),(.int .i64 0),(.int .i64 0),(.str []),(.slice .full 0 []),(.bool false),(.slice .full 0 []),(.slice .full 0 []),(.slice .full 0 [])]), .op none none (.store bI fI 13)]) (.seq (.run [.m 37 cw, .o 38 (.ah bI 2), .op none none (.store gx fQ 1)]) (.run [.m 39 bX, .o 40 (.load bI true 13), .o 41 (.c9 [(.int .i64 0),(.int .i64 0),(.slice .full 0 []),(.str []),(.str []),(.int .i64 0),(.int .i64 0),(.str []),(.slice .full 0 []),(.bool false),(.slice .full 0 []),(.slice .full 0 []),(.slice .full 0 [])] 13 1 [(0,gK)]), .o 42 (.app 13 208 gh gk), .m 8 ie])))
abbrev aqq:AC:= .block 0 (.loop (.seq (.seq (.run [.m 11 aV, .c 12 db [bO]]) (.cond bV .skip (.exit 0))) (.block 1 (.seq (.run [.m 13 aV, .c 14 oz [bP], .m 9 bL]) aqp))))
abbrev aqr:AC:= .seq aqq (.seq (.run [.o 6 (.mv (.k (.slice .full 0 []))), .o 7 (.mv (.k (.slice .full 0 [])))]) .ret)
abbrev aqs:AC:= .seq (.run [.o 6 (.mv (.k (.slice .full 0 []))), .o 7 (.mv (.k (.slice .full 0 [])))]) (.seq (.run [.o 8 (.mv (.k (.slice .full 0 [])))]) aqr)
abbrev aqt:AC:= .par [.o 15 (.ah bb 3), .o 16 (.load ct false 1), .o 17 (.load bd true 4), .c 18 nX [cQ], .o 19 (.c9 [(.int .i64 0),(.int .i64 0),(.str []),(.slice .full 0 [])] 4 1 [(0,cO)]), .o 20 (.app 4 56 cb cV), .o 21 (.ah bb 3), .op none none (.store dj dc 1)] [(2,0),(3,0),(0,0),(1,1),(4,0),(5,0),(6,0),(7,0)]
abbrev aqu:AC:= .seq (.block 1 (.seq (.run [.o 13 (.bE cw bO 4), .o 14 (.load bP true 4), .o 5 (.alloc [(.int .i64 0),(.int .i64 0),(.str []),(.slice .full 0 [])]), .op none none (.store bd bL 4)]) aqt)) (.run [.o 22 (.bin .add bO (.k (.int .i64 1))), .m 11 dm])
abbrev aqv:AC:= .block 0 (.loop (.seq (.run [.o 12 (.bin .lss bO bI)]) (.seq (.cond bV .skip (.exit 0)) aqu)))
abbrev aqw:AC:= .seq (.seq (.run [.m 9 bD, .o 10 (.len cw), .o 11 (.mv (.k (.int .i64 0)))]) aqv) (.seq (.run [.o 23 (.load bb true 4), .op none none (.store df dD 4)]) .ret)
abbrev aqx:AC:= .seq (.run [.o 6 (.ah bb 3), .o 7 (.load bH false 1), .m 3 bF]) (.seq (.run [.o 8 (.ah bb 3), .op none none (.store bX (.k (.slice .full 0 [])) 1)]) aqw)
abbrev aqy:AC:= .seq (.run [.o 1 (.box aV), .o 2 (.alloc [(.int .i64 0),(.int .i64 0),(.str []),(.slice .full 0 [])])]) aqx
abbrev aqz:AC:= .seq (.run [.o 1 (.box aV), .o 2 (.mv (.k (.bool false)))]) (.seq (.run [.o 3 (.load bb true 4), .c 4 rC [bD,(.k (.int .i64 20))], .o 5 (.bin .leq cT (.k (.int .i64 20))), .m 6 bd, .g 7 6 true (.load bb true 4), .d 8 6 true rD [bF], .o 9 (.pick bH bX (.k (.bool false))), .m 2 cw]) .ret)
abbrev aqA:AC:= .seq (.run [.o 2 (.mv (.k (.bool false)))]) (.seq (.run [.m 3 aV, .o 4 (.bin .geq bD (.k (.int .u8 97))), .m 5 cT, .g 6 5 true (.mv aV), .g 7 5 true (.bin .leq bH (.k (.int .u8 122))), .o 8 (.pick bd bF (.k (.bool false))), .m 2 bX]) .ret)
abbrev aqB:AC:= .seq (.run [.o 2 (.mv (.k (.bool false)))]) (.seq (.run [.m 3 aV, .o 4 (.bin .geq bD (.k (.int .u8 48))), .m 5 cT, .g 6 5 true (.mv aV), .g 7 5 true (.bin .leq bH (.k (.int .u8 57))), .o 8 (.pick bd bF (.k (.bool false))), .m 2 bX]) .ret)
abbrev aqC:AC:= .cond bP (.seq (.run [.o 2 (.mv (.k (.bool true)))]) .ret) .skip
abbrev aqD:AC:= .seq (.block 1 (.seq (.run [.o 9 (.bE bd bF 1), .o 10 (.load cw false 1), .m 4 bI]) (.seq (.run [.m 11 cT, .m 12 aV, .o 13 (.bin .eql bO bV)]) aqC))) (.run [.o 14 (.bin .add bF (.k (.int .i64 1))), .m 7 bL])
abbrev aqE:AC:= .block 0 (.loop (.seq (.run [.o 8 (.bin .lss bF bH)]) (.seq (.cond bX .skip (.exit 0)) aqD)))
abbrev aqF:AC:= .seq (.seq (.run [.c 5 xC [], .o 6 (.len bd), .o 7 (.mv (.k (.int .i64 0)))]) aqE) (.seq (.run [.o 2 (.mv (.k (.bool false)))]) .ret)
abbrev aqG:AC:= .seq (.run [.o 2 (.mv (.k (.bool false)))]) aqF
abbrev aqH:AC:= .seq (.run [.o 1 (.box aV), .o 2 (.mv (.k (.bool false)))]) (.seq (.run [.o 3 (.ah bb 0), .o 4 (.load bD false 1), .o 5 (.bin .eql cT (.k (.int .i64 0))), .m 6 bd, .g 7 6 true (.ah bb 1), .g 8 6 true (.load bF false 1), .g 9 6 true (.bin .eql bX (.k (.int .i64 0))), .o 10 (.pick bH cw (.k (.bool false))), .m 11 bI, .g 12 11 true (.ah bb 2), .g 13 11 true (.load bV false 1), .g 14 11 true (.bin .eql bP (.k (.str []))), .o 15 (.pick bO bL (.k (.bool false))), .m 16 ct, .g 17 16 true (.ah bb 3), .g 18 16 true (.load cQ false 1), .g 19 16 true (.len cO), .g 20 16 true (.bin .eql cV (.k (.int .i64 0))), .o 21 (.pick cb dc (.k (.bool false))), .m 2 dj]) .ret)
abbrev aqI:AC:= .cond cT (.seq (.run [.o 5 (.ah bb 1), .o 6 (.load bd false 1), .c 7 kf [bH], .m 8 bF, .g 9 8 true (.ah bb 2), .g 10 8 true (.load cw true 4), .d 11 8 true uL [bI], .o 12 (.pick bX bO (.k (.bool false))), .m 2 bV]) .ret) .skip
abbrev aqJ:AC:= .seq (.seq (.run [.o 3 (.ah bb 0), .o 4 (.load bD false 1)]) aqI) (.seq (.run [.o 13 (.ah bb 1), .o 14 (.load bP false 1), .o 15 (.bin .eql bL (.k (.str []))), .m 16 ct, .g 17 16 true (.ah bb 2), .g 18 16 true (.load cQ true 4), .d 19 16 true qL [cO], .o 20 (.pick cb cV (.k (.bool false))), .m 2 dc]) .ret)
abbrev aqK:AC:= .seq (.run [.o 1 (.box aV), .o 2 (.mv (.k (.bool false)))]) aqJ
abbrev aqL:AC:= .seq (.seq (.run [.o 9 (.ah bb 0), .o 10 (.load cw false 1), .o 11 (.bin .eql bI (.k (.int .i64 2)))]) (.cond bO (.seq (.run [.o 12 (.ah bb 2), .o 13 (.load bV false 1), .m 2 bP]) .ret) .skip)) (.seq (.run [.o 14 (.ah bb 1), .o 15 (.load bL false 1), .c 16 Bl [ct], .m 2 cb]) .ret)
abbrev aqM:AC:= .cond dj (.seq (.run [.o 22 (.ah bb 3), .o 23 (.load dm false 1), .o 24 (.bE dD (.k (.int .i64 0)) 4), .o 25 (.load dd true 4), .c 26 qN [di,(.k (.int .i64 7))], .o 27 (.bin .add (.k (.str [45])) ez), .m 2 ek]) .ret) .skip
abbrev aqN:AC:= .seq (.seq (.run [.o 19 (.ah bb 0), .o 20 (.load cV false 1), .o 21 (.bin .eql dc (.k (.int .i64 3)))]) aqM) (.seq (.run [.o 28 (.ah bb 3), .o 29 (.load eZ false 1), .o 30 (.bE fa (.k (.int .i64 0)) 4), .o 31 (.load fk true 4), .c 32 qN [fe,(.k (.int .i64 7))], .o 33 (.bin .add (.k (.str [33])) fv), .m 2 fp]) .ret)
abbrev aqO:AC:= .cond bF aqL (.seq (.run [.o 18 (.bin .eql bH (.k (.int .i64 1))), .m 17 cO]) (.cond cQ aqN .skip))
abbrev aqP:AC:= .block 0 (.seq (.run [.o 8 (.bin .eql bH (.k (.int .i64 0))), .m 7 bX]) aqO)
abbrev aqQ:AC:= .par [.o 36 (.ah bb 3), .o 37 (.load fI false 1), .o 38 (.bE fQ (.k (.int .i64 0)) 4), .o 39 (.load gx true 4), .m 40 bD, .c 41 qN [gh,gK], .o 42 (.bin .add gk (.k (.str [32]))), .o 43 (.ah bb 0), .o 44 (.load iy false 1), .c 45 uM [iR], .o 46 (.bin .add ie jg), .o 47 (.bin .add jh (.k (.str [32]))), .o 48 (.ah bb 3), .o 49 (.load iS false 1), .o 50 (.bE iX (.k (.int .i64 1)) 4), .o 51 (.load jQ true 4), .m 52 bD, .o 53 (.bin .add jA (.k (.int .i64 1))), .c 54 qN [ji,jR], .o 55 (.bin .add jz kb), .m 2 kp] [(0,0),(1,0),(2,0),(3,0),(4,0),(5,0),(7,0),(8,1),(9,0),(12,0),(13,2),(14,0),(15,2),(16,0),(17,0),(18,0),(6,0),(10,0),(11,0),(19,0),(20,0)]
abbrev aqR:AC:= .seq (.run [.o 1 (.box aV), .o 2 (.mv (.k (.str [])))]) (.seq (.seq (.run [.o 4 (.ah bb 0), .o 5 (.load cT false 1), .c 6 qv [bd]]) aqP) (.seq (.run [.o 34 (.load bb true 4), .c 35 rE [fA], .m 3 fz]) (.seq aqQ .ret)))
abbrev aqS:AC:= .seq (.run [.o 14 (.ah bd 0), .o 15 (.load bL false 1)]) (.cond ct (.run [.m 16 bD, .o 17 (.ah bd 1), .o 18 (.load cQ false 1), .o 19 (.bin .add (.k (.str [114,101,102,32])) cO), .o 20 (.c9 [(.str [])] 1 1 [(0,cV)]), .o 21 (.app 1 16 cb dc), .m 3 dj]) (.run [.m 22 bD, .o 23 (.ah bd 2), .o 24 (.load dD true 4), .c 25 il [dd], .o 26 (.c9 [(.str [])] 1 1 [(0,di)]), .o 27 (.app 1 16 dm ez), .m 3 ek]))
abbrev aqT:AC:= .seq (.block 1 (.seq (.run [.o 12 (.bE bX bI 6), .o 13 (.load bV true 6), .o 5 (.alloc [(.bool false),(.str []),(.int .i64 0),(.int .i64 0),(.str []),(.slice .full 0 [])]), .op none none (.store bd bP 6)]) aqS)) (.run [.o 28 (.bin .add bI (.k (.int .i64 1))), .m 10 eZ])
abbrev aqU:AC:= .block 0 (.loop (.seq (.run [.o 11 (.bin .lss bI cw)]) (.seq (.cond bO .skip (.exit 0)) aqT)))
abbrev aqV:AC:= .par [.o 29 (.ah bb 4), .o 30 (.load fa false 1), .o 31 (.bin .add fk (.k (.str [40]))), .m 32 bD,(.c 33 nU [fv,(.k (.str [44,32]))]), .o 34 (.bin .add fe fp), .o 35 (.bin .add fA (.k (.str [41,59]))), .m 6 fz] [(3,0),(4,0),(0,0),(1,1),(2,0),(5,0),(6,0),(7,0)]
abbrev aqW:AC:= .cond gx (.seq (.run [.o 39 (.ah bb 3), .o 40 (.load gh false 1), .o 41 (.bin .add gK (.k (.str [32,61,32]))), .m 42 bH, .o 43 (.bin .add gk ie), .m 2 iy]) .ret) .skip
abbrev aqX:AC:= .seq (.seq (.run [.o 36 (.ah bb 3), .o 37 (.load fI false 1), .o 38 (.bin .neq fQ (.k (.str [])))]) aqW) (.seq (.run [.m 44 bH, .m 2 iR]) .ret)
abbrev aqY:AC:= .seq (.seq (.run [.o 7 (.ah bb 10), .o 8 (.load bF false 1), .o 9 (.len bX), .o 10 (.mv (.k (.int .i64 0)))]) aqU) (.seq aqV aqX)
abbrev aqZ:AC:= .seq (.run [.o 1 (.box aV), .o 2 (.mv (.k (.str [])))]) (.seq (.run [.o 3 (.mv (.k (.slice .full 0 [])))]) aqY)
abbrev aq0:AC:= .seq (.run [.o 1 (.box aV), .o 2 (.mv (.k (.bool false)))]) (.seq (.run [.o 3 (.load bb true 4), .c 4 rF [bD,(.k (.int .i64 20))], .m 2 cT]) .ret)
abbrev aq1:AC:= .seq (.run [.o 1 (.box aV), .o 2 (.mv (.k (.bool false)))]) (.seq (.run [.o 3 (.ah bb 0), .o 4 (.load bD false 1), .o 5 (.bin .eql cT (.k (.int .i64 0))), .m 6 bd, .g 7 6 true (.ah bb 1), .g 8 6 true (.load bF false 1), .g 9 6 true (.bin .eql bX (.k (.int .i64 0))), .o 10 (.pick bH cw (.k (.bool false))), .m 11 bI, .g 12 11 true (.ah bb 2), .g 13 11 true (.load bV false 1), .g 14 11 true (.bin .eql bP (.k (.str []))), .o 15 (.pick bO bL (.k (.bool false))), .m 16 ct, .g 17 16 true (.ah bb 3), .g 18 16 true (.load cQ false 1), .g 19 16 true (.len cO), .g 20 16 true (.bin .eql cV (.k (.int .i64 0))), .o 21 (.pick cb dc (.k (.bool false))), .m 2 dj]) .ret)
abbrev aq2:AC:= .seq (.block 1 (.seq (.run [.o 27 (.bE dD di 4), .o 28 (.load ek true 4), .o 6 (.alloc [(.int .i64 0),(.int .i64 0),(.str []),(.slice .full 0 [])]), .op none none (.store bH eZ 4)]) (.run [.o 29 (.load bH true 4), .m 30 bb, .c 31 jH [fa,fk], .m 1 fe]))) (.run [.o 32 (.bin .add di (.k (.int .i64 1))), .m 25 fv])
abbrev aq3:AC:= .block 0 (.loop (.seq (.run [.o 26 (.bin .lss di dd)]) (.seq (.cond ez .skip (.exit 0)) aq2)))
abbrev aq4:AC:= .seq (.seq (.run [.o 22 (.ah df 3), .o 23 (.load dm false 1), .o 24 (.len dD), .o 25 (.mv (.k (.int .i64 0)))]) aq3) (.seq (.run [.m 33 bb, .m 4 fp]) .ret)
abbrev aq5:AC:= .seq (.seq (.run [.o 7 (.ah df 0), .o 8 (.load bF false 1), .o 9 (.bin .eql bX (.k (.int .i64 2))), .m 10 cw, .g 11 10 true (.mv bb), .g 12 10 true (.ah df 2), .g 13 10 true (.load bV false 1), .d 14 10 true cM [bO,bP], .g 15 10 true (.un .not bL), .o 16 (.pick bI ct (.k (.bool false)))]) (.cond cb (.run [.m 17 bb, .o 18 (.ah df 2), .o 19 (.load cO false 1), .o 20 (.c9 [(.str [])] 1 1 [(0,cV)]), .o 21 (.app 1 16 cQ dc), .m 1 dj]) .skip)) aq4
abbrev aq6:AC:= .seq (.run [.o 2 (.box aV), .o 4 (.mv (.k (.slice .full 0 [])))]) aq5
abbrev aq7:AC:= .par [.m 4 aV, .c 5 db [cT], .m 6 bd, .g 7 6 true (.mv aV), .d 8 6 true dU [bF], .g 9 6 true (.uV bX 0 false 1), .g 10 6 true (.bin .eql cw (.k (.int .i64 1))), .o 11 (.pick bH bI (.k (.bool false))), .m 12 bO, .g 13 12 true (.mv aV), .g 14 12 true (.dN bP), .g 15 12 true (.ah bL 0), .g 16 12 true (.load ct false 1), .g 17 12 true (.mv aV), .g 18 12 true (.dN cQ), .g 19 12 true (.ah cO 1), .g 20 12 true (.load cV false 1), .g 21 12 true (.bin .add dc (.k (.int .i64 1))), .g 22 12 true (.bE cb dj 4), .g 23 12 true (.ah dm 0), .g 24 12 true (.load dD false 1), .g 25 12 true (.bin .eql dd (.k (.int .i64 4))), .o 26 (.pick bV di (.k (.bool false))), .m 27 ez, .g 28 27 true (.mv aV), .g 29 27 true (.dN eZ), .g 30 27 true (.ah fa 0), .g 31 27 true (.load fk false 1), .g 32 27 true (.mv aV), .g 33 27 true (.dN fv), .g 34 27 true (.ah fp 1), .g 35 27 true (.load fA false 1), .g 36 27 true (.bin .add fz (.k (.int .i64 1))), .g 37 27 true (.bE fe fI 4), .g 38 27 true (.ah fQ 1), .g 39 27 true (.load gx false 1), .g 40 27 true (.bin .eql gh (.k (.str [58]))), .o 41 (.pick ek gK (.k (.bool false)))] [(0,0),(1,0),(2,0),(3,0),(4,0),(5,0),(6,0),(7,0),(8,0),(9,0),(10,0),(11,0),(12,0),(13,0),(14,0),(15,0),(16,0),(17,0),(18,0),(19,0),(20,0),(21,0),(22,0),(23,0),(24,0),(25,0),(26,0),(27,0),(28,0),(29,0),(30,0),(31,0),(32,0),(33,0),(34,0),(35,0),(36,0),(37,0)]
abbrev aq8:AC:= .block 1 (.seq (.run [.m 42 bD, .m 43 aV, .c 44 dU [iy], .o 45 (.uV iR 1 false 1), .o 46 (.c9 [(.str [])] 1 1 [(0,jg)]), .o 47 (.app 1 16 ie jh), .m 3 jz]) (.run [.m 48 aV, .o 49 (.dN iS), .o 50 (.ah iX 1), .o 51 (.load jQ false 1), .o 52 (.bin .add ji (.k (.int .i64 2))), .o 53 (.dN iS), .o 54 (.ah jR 1), .op none none (.store kb jA 1)]))
abbrev aq9:AC:= .block 0 (.loop (.seq (.seq aq7 (.cond gk .skip (.exit 0))) aq8))
abbrev ara:AC:= .seq (.run [.o 2 (.mv (.k (.slice .full 0 [])))]) (.seq (.run [.o 3 (.mv (.k (.slice .full 0 [])))]) (.seq aq9 (.seq (.run [.m 55 bD, .m 2 kp]) .ret)))
open Go.Proofs
theorem tC:Has Tryz.prog gT 19 [(4,none)] aqg:=⟨Tryz.f166,by kernel_rfl,by kernel_rfl⟩
theorem Af:Has Tryz.prog na 8 [(3,none)] aqh:=⟨Tryz.f167,by kernel_rfl,by kernel_rfl⟩
theorem Ag:Has Tryz.prog fl 31 [(4,none)] aqm:=⟨Tryz.f170,by kernel_rfl,by kernel_rfl⟩
theorem Ah:Has Tryz.prog dB 10 [] aqn:=⟨Tryz.f171,by kernel_rfl,by kernel_rfl⟩
theorem si:Has Tryz.prog ix 43 [(6,none),(7,none)] aqs:=⟨Tryz.f172,by kernel_rfl,by kernel_rfl⟩
theorem J9:Has Tryz.prog nX 24 [(2,(some (true,4)))] aqy:=⟨Tryz.f173,by kernel_rfl,by kernel_rfl⟩
theorem Ft:Has Tryz.prog qL 10 [(2,none)] aqz:=⟨Tryz.f174,by kernel_rfl,by kernel_rfl⟩
theorem H4:Has Tryz.prog s5 9 [(2,none)] aqA:=⟨Tryz.f177,by kernel_rfl,by kernel_rfl⟩
theorem H5:Has Tryz.prog xB 9 [(2,none)] aqB:=⟨Tryz.f178,by kernel_rfl,by kernel_rfl⟩
theorem Ka:Has Tryz.prog zw 15 [(2,none)] aqG:=⟨Tryz.f179,by kernel_rfl,by kernel_rfl⟩
theorem Kb:Has Tryz.prog uL 22 [(2,none)] aqH:=⟨Tryz.f180,by kernel_rfl,by kernel_rfl⟩
theorem Me:Has Tryz.prog Bk 21 [(2,none)] aqK:=⟨Tryz.f181,by kernel_rfl,by kernel_rfl⟩
theorem pE:Has Tryz.prog il 56 [(2,none)] aqR:=⟨Tryz.f182,by kernel_rfl,by kernel_rfl⟩
theorem Kc:Has Tryz.prog zz 45 [(2,none)] aqZ:=⟨Tryz.f183,by kernel_rfl,by kernel_rfl⟩
theorem Fu:Has Tryz.prog qM 5 [(2,none)] aq0:=⟨Tryz.f190,by kernel_rfl,by kernel_rfl⟩
theorem Ke:Has Tryz.prog zA 22 [(2,none)] aq1:=⟨Tryz.f191,by kernel_rfl,by kernel_rfl⟩
theorem s9:Has Tryz.prog jH 34 [(4,none)] aq6:=⟨Tryz.f192,by kernel_rfl,by kernel_rfl⟩
theorem ya:Has Tryz.prog oz 56 [(2,none)] ara:=⟨Tryz.f204,by kernel_rfl,by kernel_rfl⟩
abbrev arb:AC:= .cond bI (.seq (.run [.m 11 aV, .c 12 fx [bO,(.k (.int .i64 3))]]) (.seq (.run [.o 13 (.build [(.int .i64 0),(.int .i64 0),(.slice .full 0 []),(.str []),(.str []),(.int .i64 0),(.int .i64 0),(.str []),(.slice .full 0 []),(.bool false),(.slice .full 0 []),(.slice .full 0 []),(.slice .full 0 [])] []), .op none none (.store cT bP 13)]) .ret)) .skip
abbrev arc:AC:= .cond fa (.seq (.run [.m 30 aV, .c 31 fx [fk,(.k (.int .i64 4))]]) (.seq (.run [.o 32 (.build [(.int .i64 0),(.int .i64 0),(.slice .full 0 []),(.str []),(.str []),(.int .i64 0),(.int .i64 0),(.str []),(.slice .full 0 []),(.bool false),(.slice .full 0 []),(.slice .full 0 []),(.slice .full 0 [])] []), .op none none (.store cT fv 13)]) .ret)) .skip
abbrev ard:AC:= .seq (.run [.m 56 aV, .c 57 nc [lz],(.o 58 (.build [(.int .i64 0),(.int .i64 0),(.slice .full 0 []),(.str []),(.str []),(.int .i64 0),(.int .i64 0),(.str []),(.slice .full 0 []),(.bool false),(.slice .full 0 []),(.slice .full 0 []),(.slice .full 0 [])] [(1,(1,(.k (.int .i64 6)))),(5,(4,lO))])), .o 6 (.alloc [(.int .i64 0),(.int .i64 0),(.slice .full 0 []),(.str []),(.str []),(.int .i64 0),(.int .i64 0),(.str []),(.slice .full 0 []),(.bool false),(.slice .full 0 []),(.slice .full 0 []),(.slice .full 0 [])]), .op none none (.store bH lA 13)]) (.seq (.run [.m 59 aV, .m 60 bb, .c 61 ko [kq,nq], .o 62 (.ah bH 11), .op none none (.store oC nY 1)]) (.seq (.run [.o 63 (.load bH true 13), .op none none (.store cT nZ 13)]) .ret))
abbrev arf:AC:= .cond iX (.seq (.run [.m 51 aV, .m 52 bb, .c 53 oB [ji,jA], .op none none (.store cT jR 13)]) .ret) (.seq (.run [.o 55 (.bin .eql iS (.k (.str [119,104,105,108,101]))), .m 54 kp]) (.cond kb ard .skip))
abbrev arh:AC:= .block 0 (.seq (.run [.o 50 (.bin .eql iS (.k (.str [105,102]))), .m 49 jQ]) arf)
abbrev ari:AC:= .seq (.run [.m 64 aV, .o 65 (.ah bd 1), .o 66 (.load rX false 1), .c 67 o9 [pS,s6], .o 7 (.alloc [(.int .i64 0),(.int .i64 0),(.slice .full 0 []),(.str []),(.str []),(.int .i64 0),(.int .i64 0),(.str []),(.slice .full 0 []),(.bool false),(.slice .full 0 []),(.slice .full 0 []),(.slice .full 0 [])]), .op none none (.store bF qw 13)]) (.seq (.run [.m 68 aV,(.c 69 dB [ra,(.k (.str [59]))])]) (.seq (.run [.o 70 (.load bF true 13), .op none none (.store cT rh 13)]) .ret))
abbrev arj:AC:= .seq (.seq (.run [.o 35 (.ah bd 0), .o 36 (.load fz false 1), .o 37 (.bin .eql fI (.k (.int .i64 1)))]) (.cond fQ (.seq (.run [.m 38 aV, .c 39 o8 [gx], .op none none (.store cT gh 13)]) .ret) .skip)) (.seq (.run [.m 40 aV, .o 41 (.dN gK), .o 42 (.ah gk 1), .o 43 (.load ie false 1), .o 44 (.bin .add iy (.k (.int .i64 1))), .o 45 (.dN gK), .o 46 (.ah jg 1), .op none none (.store jh iR 1)]) (.seq (.seq (.run [.o 47 (.ah bd 1), .o 48 (.load jz false 1)]) arh) ari))
abbrev ark:AC:= .seq (.seq (.run [.m 21 aV, .o 22 (.dN dj), .o 23 (.ah dm 4), .o 24 (.load dD false 1), .o 25 (.bin .gtr dd (.k (.int .i64 200))), .m 26 di, .g 27 26 false (.mv bb), .g 28 26 false (.bin .gtr ek (.k (.int .i64 12))), .o 29 (.pick ez (.k (.bool true)) eZ)]) arc) (.seq (.run [.m 33 aV, .c 34 dU [fp], .o 5 (.alloc [(.int .i64 0),(.str []),(.int .i64 0),(.int .i64 0)]), .op none none (.store bd fA 4)]) arj)
abbrev arl:AC:= .seq (.seq (.run [.m 8 aV, .c 9 oA [bX], .o 10 (.un .not cw)]) arb) (.seq (.run [.m 14 aV, .o 15 (.dN bL), .o 16 (.ah ct 4), .o 17 (.load cb false 1), .o 18 (.bin .add cQ (.k (.int .i64 1))), .o 19 (.dN bL), .o 20 (.ah cV 4), .op none none (.store dc cO 1)]) ark)
abbrev arn:AC:= .seq (.run [.o 4 (.alloc [(.int .i64 0),(.int .i64 0),(.slice .full 0 []),(.str []),(.str []),(.int .i64 0),(.int .i64 0),(.str []),(.slice .full 0 []),(.bool false),(.slice .full 0 []),(.slice .full 0 []),(.slice .full 0 [])])]) arl
abbrev aro:AC:= .cond cw (.seq (.run [.o 4 (.mv (.k (.int .i64 1)))]) .ret) .skip
abbrev arp:AC:= .block 1 (.seq (.run [.o 22 (.ah df 3), .o 23 (.load dm false 1), .m 24 bH, .o 25 (.bE dD dd 4), .o 26 (.load di true 4), .m 27 bb, .o 28 (.bin .sub ek (.k (.int .i64 1))), .c 29 rC [ez,eZ], .m 7 fa]) (.seq (.run [.m 30 bF, .m 31 bd, .o 32 (.bin .gtr fk fe)]) (.cond fv (.run [.m 33 bF, .m 5 fp]) .skip)))
abbrev arq:AC:= .seq (.seq (.run [.m 10 bH, .o 11 (.ah df 3), .o 12 (.load bO false 1), .o 13 (.len bV), .o 14 (.bin .lss bI bP), .m 15 bL, .g 16 15 true (.mv bd), .g 17 15 true (.mv bb), .g 18 15 true (.bin .lss cb cQ), .o 19 (.pick ct cO (.k (.bool false)))]) (.cond cV .skip (.exit 0))) (.seq arp (.run [.m 20 bH, .o 21 (.bin .add dc (.k (.int .i64 1))), .m 6 dj]))
abbrev art:AC:= .seq (.seq (.run [.o 6 (.mv (.k (.int .i64 0)))]) (.block 0 (.loop arq))) (.seq (.run [.m 34 bd, .o 35 (.bin .add fA (.k (.int .i64 1))), .m 4 fz]) .ret)
abbrev aru:AC:= .seq (.seq (.run [.m 8 bb, .o 9 (.bin .eql bX (.k (.int .i64 0)))]) aro) (.seq (.run [.o 5 (.mv (.k (.int .i64 0)))]) art)
abbrev arv:AC:= .seq (.run [.o 2 (.box aV), .o 4 (.mv (.k (.int .i64 0)))]) aru
abbrev arw:AC:= .par [.o 4 (.ah bb 0), .o 5 (.load cT false 1), .c 6 qv [bd], .o 7 (.ah bb 3), .o 8 (.load bF false 1), .o 9 (.len bX), .o 10 (.bin .neq bH cw), .m 11 bI, .g 12 11 false (.ah bb 0), .g 13 11 false (.load bV false 1), .g 14 11 false (.bin .neq bP (.k (.int .i64 1))), .g 15 11 false (.mv bL), .g 16 15 true (.ah bb 1), .g 17 15 true (.load cb false 1), .g 18 15 true (.bin .neq cQ (.k (.int .i64 0))), .g 19 11 false (.pick ct cO (.k (.bool false))), .o 20 (.pick bO (.k (.bool true)) cV), .m 21 dc, .g 22 21 false (.ah bb 1), .g 23 21 false (.load dm false 1), .g 24 21 false (.bin .lss dD (.k (.int .i64 0))), .o 25 (.pick dj (.k (.bool true)) dd), .m 26 di, .g 27 26 false (.ah bb 0), .g 28 26 false (.load ek false 1), .g 29 26 false (.bin .eql eZ (.k (.int .i64 2))), .g 30 26 false (.ah bb 2), .g 31 26 false (.load fk false 1), .g 32 26 false (.bin .neq fe (.k (.str []))), .g 33 26 false (.BW true fa fv), .o 34 (.pick ez (.k (.bool true)) fp), .m 35 fA, .g 36 35 false (.ah bb 2), .g 37 35 false (.load fI false 1), .g 38 35 false (.bin .neq fQ (.k (.str []))), .g 39 35 false (.mv gx), .g 40 39 true (.ah bb 2), .g 41 39 true (.load gK false 1), .d 42 39 true kf [gk], .g 43 39 true (.un .not ie), .g 44 35 false (.pick gh iy (.k (.bool false))), .o 45 (.pick fz (.k (.bool true)) iR)] [(0,0),(1,0),(2,0),(3,0),(4,1),(5,0),(6,0),(7,0),(8,0),(9,0),(10,0),(11,0),(12,0),(13,0),(14,0),(15,0),(16,0),(17,0),(18,0),(19,0),(20,0),(21,0),(22,0),(23,0),(24,0),(25,0),(26,0),(27,0),(28,0),(29,0),(30,0),(31,0),(32,0),(33,0),(34,0),(35,0),(36,0),(37,0),(38,0),(39,0),(40,0),(41,0)]
abbrev arx:AC:= .cond jg (.seq (.run [.o 2 (.mv (.k (.bool false)))]) .ret) .skip
abbrev ary:AC:= .cond lA (.seq (.run [.o 2 (.mv (.k (.bool false)))]) .ret) .skip
abbrev arz:AC:= .seq (.block 1 (.seq (.run [.m 51 iX, .m 3 ji]) (.seq (.run [.o 52 (.ah bb 3), .o 53 (.load jA false 1), .m 54 bD, .o 55 (.bE jR kb 4), .o 56 (.load kp true 4), .c 57 rD [lz], .o 58 (.un .not lO)]) ary))) (.run [.o 59 (.bin .add iX (.k (.int .i64 1))), .m 49 kq])
abbrev arA:AC:= .block 0 (.loop (.seq (.run [.o 50 (.bin .lss iX iS)]) (.seq (.cond jQ .skip (.exit 0)) arz)))
abbrev arB:AC:= .seq (.seq (.run [.o 46 (.ah bb 3), .o 47 (.load jh false 1), .o 48 (.len jz), .o 49 (.mv (.k (.int .i64 0)))]) arA) (.seq (.run [.o 2 (.mv (.k (.bool true)))]) .ret)
abbrev arC:AC:= .seq (.run [.o 1 (.box aV), .o 2 (.mv (.k (.bool false)))]) (.seq (.seq arw arx) arB)
abbrev arD:AC:= .seq (.run [(.o 1 (.c9 [(.str [])] 1 13 [(0,(.k (.str [103,108,111,98,97,108]))),(1,(.k (.str [112,114,111,99]))),(2,(.k (.str [118,97,114]))),(3,(.k (.str [114,101,102]))),(4,(.k (.str [105,102]))),(5,(.k (.str [101,108,115,101]))),(6,(.k (.str [119,104,105,108,101]))),(7,(.k (.str [98,114,101,97,107]))),(8,(.k (.str [99,111,110,116,105,110,117,101]))),(9,(.k (.str [114,101,116,117,114,110]))),(10,(.k (.str [103,111,116,111]))),(11,(.k (.str [114,101,97,100]))),(12,(.k (.str [112,114,105,110,116])))])), .m 0 bb]) .ret
abbrev arE:AC:= .seq (.run [.o 0 (.mv (.k (.slice .full 0 [])))]) arD
abbrev arG:AC:= .cond cQ (.seq (.run [.o 2 (.mv (.k (.int .i64 2)))]) .ret) .skip
abbrev arH:AC:= .cond bI (.seq (.run [.o 2 (.mv (.k (.int .i64 1)))]) .ret) (.seq (.run [.m 18 aV, .o 19 (.bin .geq cO (.k (.int .i64 5))), .m 20 cV, .g 21 20 true (.mv aV), .g 22 20 true (.bin .leq dj (.k (.int .i64 17))), .o 23 (.pick dc dm (.k (.bool false))), .m 17 dD]) arG)
abbrev arI:AC:= .cond bD (.seq (.run [.o 2 (.mv (.k (.int .i64 0)))]) .ret) (.seq (.run [.m 11 aV, .o 12 (.bin .eql bO (.k (.int .i64 3))), .m 13 bV, .g 14 13 false (.mv aV), .g 15 13 false (.bin .eql bL (.k (.int .i64 4))), .o 16 (.pick bP (.k (.bool true)) ct), .m 10 cb]) arH)
abbrev arJ:AC:= .block 0 (.seq (.run [.m 4 aV, .o 5 (.bin .eql cT (.k (.int .i64 1))), .m 6 bd, .g 7 6 false (.mv aV), .g 8 6 false (.bin .eql bF (.k (.int .i64 2))), .o 9 (.pick bH (.k (.bool true)) bX), .m 3 cw]) arI)
abbrev arK:AC:= .seq (.run [(.o 2 (.mv (.k (.int .i64 (-1)))))]) .ret
abbrev arL:AC:= .seq (.run [.o 2 (.mv (.k (.int .i64 0)))]) (.seq arJ arK)
abbrev arM:AC:= .cond cT (.seq (.run [.m 5 aV, .o 6 (.bin .add bd (.k (.int .i64 1))), .o 7 (.un .neg bH), .o 8 (.conv .u64 bF), .o 9 (.bin .add bX (.k (.int .u64 1))), .c 10 pC [cw], .o 11 (.bin .add (.k (.str [45])) bI), .m 2 bO]) .ret) .skip
abbrev arN:AC:= .seq (.seq (.run [.m 3 aV, .o 4 (.bin .lss bD (.k (.int .i64 0)))]) arM) (.seq (.run [.m 12 aV, .o 13 (.conv .u64 bV), .c 14 pC [bP], .m 2 bL]) .ret)
abbrev arO:AC:= .seq (.run [.o 2 (.mv (.k (.str [])))]) arN
abbrev arP:AC:= .cond bX (.seq (.run [.o 9 (.load df true 4), .c 10 il [cw], .o 11 (.bin .add (.k (.str [40])) bI), .o 12 (.bin .add bO (.k (.str [41]))), .m 4 bV]) .ret) .skip
abbrev arQ:AC:= .seq (.run [.o 2 (.box aV), .o 4 (.mv (.k (.str [])))]) (.seq (.seq (.run [.o 5 (.load df true 4), .c 6 rE [bd], .m 7 bb, .o 8 (.bin .lss bH bF)]) arP) (.seq (.run [.o 13 (.load df true 4), .c 14 il [bP], .m 4 bL]) .ret))
abbrev arR:AC:= .cond bX (.seq (.run [.o 2 (.mv (.k (.int .i64 7)))]) .ret) .skip
abbrev arS:AC:= .seq (.seq (.run [.o 5 (.ah bb 0), .o 6 (.load bd false 1), .c 7 qv [bH], .o 8 (.bin .lss bF (.k (.int .i64 2)))]) arR) (.seq (.run [.o 10 (.ah bb 0), .o 11 (.load bI false 1), .c 12 uM [bO], .c 13 xD [bV], .m 9 bP, .o 14 (.ext cw 0), .o 15 (.ext cw 1), .m 3 bL, .m 4 ct]) (.seq (.run [.m 16 bD, .m 2 cb]) .ret))
abbrev arT:AC:= .seq (.run [.o 1 (.box aV), .o 2 (.mv (.k (.int .i64 0)))]) arS
abbrev arU:AC:= .seq (.run [(.o 3 (.c9 [(.str [])] 1 13 [(0,(.k (.str [42]))),(1,(.k (.str [47]))),(2,(.k (.str [37]))),(3,(.k (.str [43]))),(4,(.k (.str [45]))),(5,(.k (.str [60]))),(6,(.k (.str [60,61]))),(7,(.k (.str [62]))),(8,(.k (.str [62,61]))),(9,(.k (.str [61,61]))),(10,(.k (.str [33,61]))),(11,(.k (.str [38,38]))),(12,(.k (.str [124,124])))])), .m 4 aV, .o 5 (.bin .sub cT (.k (.int .i64 5))), .o 6 (.bE bD bd 1), .o 7 (.load bH false 1), .m 2 bF]) .ret
abbrev arV:AC:= .seq (.run [.o 2 (.mv (.k (.str [])))]) arU
abbrev arW:AC:= .par [.m 7 bb, .o 8 (.bin .lss bF (.k (.int .i64 1))), .m 9 bX, .g 10 9 false (.ah df 3), .g 11 9 false (.load bI false 1), .g 12 9 false (.len bO), .g 13 9 false (.ah df 0), .g 14 9 false (.load bP false 1), .d 15 9 false zB [bL], .g 16 9 false (.bin .neq bV ct), .o 17 (.pick cw (.k (.bool true)) cb)] [(0,0),(1,0),(2,0),(6,0),(7,0),(8,0),(3,0),(4,1),(5,0),(9,0),(10,0)]
abbrev arX:AC:= .cond cQ (.seq (.run [.o 4 (.mv (.k (.bool false)))]) .ret) .skip
abbrev arY:AC:= .cond fk (.seq (.run [.o 32 (.ah df 1), .o 33 (.load fv false 1), .o 34 (.bin .eql fp (.k (.int .i64 0))), .m 35 fA, .g 36 35 true (.ah df 2), .g 37 35 true (.load fI false 1), .d 38 35 true o7 [fQ], .o 39 (.pick fz gx (.k (.bool false))), .m 4 gh]) .ret) .skip
abbrev ar1:AC:= .cond dc (.seq (.run [.o 22 (.ah df 1), .o 23 (.load dm false 1), .o 24 (.bin .geq dD (.k (.int .i64 0))), .m 25 dd, .g 26 25 true (.ah df 2), .g 27 25 true (.load ez false 1), .g 28 25 true (.bin .eql ek (.k (.str []))), .o 29 (.pick di eZ (.k (.bool false))), .m 4 fa]) .ret) (.seq (.run [.o 31 (.bin .eql cV (.k (.int .i64 2))), .m 30 fe]) arY)
abbrev ar2:AC:= .block 0 (.seq (.run [.o 21 (.bin .eql cV (.k (.int .i64 1))), .m 20 dj]) ar1)
abbrev ar3:AC:= .cond jz (.seq (.run [.o 4 (.mv (.k (.bool false)))]) .ret) .skip
abbrev ar4:AC:= .cond kq (.seq (.run [.o 4 (.mv (.k (.bool false)))]) .ret) .skip
abbrev ar5:AC:= .seq (.run [.o 53 (.bE iX ji 4), .o 54 (.load jR true 4), .o 6 (.alloc [(.int .i64 0),(.int .i64 0),(.str []),(.slice .full 0 [])]), .op none none (.store bH kb 4)]) (.seq (.run [.o 55 (.load bH true 4), .m 56 bb, .o 57 (.bin .sub lz (.k (.int .i64 1))), .c 58 rF [kp,lO], .o 59 (.un .not lA)]) ar4)
abbrev ar6:AC:= .seq (.cond jA .skip (.exit 1)) (.seq (.block 2 ar5) (.run [.o 60 (.bin .add ji (.k (.int .i64 1))), .m 51 nq]))
abbrev ar7:AC:= .seq (.run [.o 48 (.ah df 3), .o 49 (.load iS false 1), .o 50 (.len iX), .o 51 (.mv (.k (.int .i64 0)))]) (.block 1 (.loop (.seq (.run [.o 52 (.bin .lss ji jQ)]) ar6)))
abbrev ar8:AC:= .seq ar7 (.seq (.run [.o 4 (.mv (.k (.bool true)))]) .ret)
abbrev ar9:AC:= .seq (.seq (.run [.o 40 (.ah df 1), .o 41 (.load gK false 1), .o 42 (.bin .neq gk (.k (.int .i64 0))), .m 43 ie, .g 44 43 false (.ah df 2), .g 45 43 false (.load iR false 1), .g 46 43 false (.bin .neq jg (.k (.str []))), .o 47 (.pick iy (.k (.bool true)) jh)]) ar3) ar8
abbrev asa:AC:= .seq (.run [.o 2 (.box aV), .o 4 (.mv (.k (.bool false)))]) (.seq (.seq arW arX) (.seq (.seq (.run [.o 18 (.ah df 0), .o 19 (.load cO false 1)]) ar2) ar9))
abbrev asb:AC:= .cond bX (.seq (.run [.o 2 (.mv (.k (.bool true)))]) .ret) .skip
abbrev asc:AC:= .cond bO (.seq (.run [.o 2 (.mv (.k (.bool false)))]) .ret) .skip
abbrev asd:AC:= .seq (.run [.o 21 (.bin .eql bP (.k (.str [114,101,97,100]))), .m 14 dj]) (.cond bL .skip (.run [.o 22 (.bin .eql bP (.k (.str [112,114,105,110,116]))), .m 14 dm]))
abbrev ase:AC:= .cond bL .skip (.seq (.run [.o 20 (.bin .eql bP (.k (.str [103,111,116,111]))), .m 14 dc]) (.cond bL .skip asd))
abbrev asf:AC:= .cond bL .skip (.seq (.run [.o 19 (.bin .eql bP (.k (.str [114,101,116,117,114,110]))), .m 14 cV]) ase)
abbrev asg:AC:= .cond bL .skip (.seq (.run [.o 18 (.bin .eql bP (.k (.str [99,111,110,116,105,110,117,101]))), .m 14 cO]) asf)
abbrev ash:AC:= .cond bL .skip (.seq (.run [.o 17 (.bin .eql bP (.k (.str [98,114,101,97,107]))), .m 14 cQ]) asg)
abbrev asi:AC:= .cond bL .skip (.seq (.run [.o 16 (.bin .eql bP (.k (.str [119,104,105,108,101]))), .m 14 cb]) ash)
abbrev asj:AC:= .cond bL (.seq (.run [.o 2 (.mv (.k (.bool true)))]) .ret) .skip
abbrev asl:AC:= .seq (.seq (.run [.o 15 (.bin .eql bP (.k (.str [105,102]))), .m 14 ct]) asi) asj
abbrev asm:AC:= .seq (.seq (.run [.o 12 (.ah bD 1), .o 13 (.load bV false 1)]) (.block 0 asl)) (.seq (.run [.o 2 (.mv (.k (.bool false)))]) .ret)
abbrev asn:AC:= .seq (.seq (.run [.o 9 (.ah bD 0), .o 10 (.load cw false 1), .o 11 (.bin .neq bI (.k (.int .i64 3)))]) asc) asm
abbrev aso:AC:= .seq (.seq (.run [.o 6 (.ah bD 0), .o 7 (.load bH false 1), .o 8 (.bin .eql bF (.k (.int .i64 1)))]) asb) asn
abbrev asp:AC:= .seq (.run [.o 2 (.mv (.k (.bool false)))]) (.seq (.run [.m 4 aV, .c 5 dU [cT], .o 3 (.alloc [(.int .i64 0),(.str []),(.int .i64 0),(.int .i64 0)]), .op none none (.store bD bd 4)]) aso)
abbrev asq:AC:= .cond bX (.seq (.run [.m 9 aV, .m 10 bD,(.c 11 nf [cw,(.k (.str [])),bI]), .op none none (.store df bO 13)]) .ret) .skip
abbrev asr:AC:= .par [.m 14 aV, .c 15 db [bL], .m 16 ct, .g 17 16 true (.mv aV), .d 18 16 true dU [cQ], .g 19 16 true (.uV cO 0 false 1), .g 20 16 true (.bin .eql cV (.k (.int .i64 1))), .o 21 (.pick cb dc (.k (.bool false))), .m 22 dj, .g 23 22 true (.mv aV), .g 24 22 true (.dN dD), .g 25 22 true (.ah dd 0), .g 26 22 true (.load di false 1), .g 27 22 true (.mv aV), .g 28 22 true (.dN ek), .g 29 22 true (.ah eZ 1), .g 30 22 true (.load fa false 1), .g 31 22 true (.bin .add fk (.k (.int .i64 1))), .g 32 22 true (.bE ez fe 4), .g 33 22 true (.ah fv 0), .g 34 22 true (.load fp false 1), .g 35 22 true (.bin .eql fA (.k (.int .i64 4))), .o 36 (.pick dm fz (.k (.bool false))), .m 37 fI, .g 38 37 true (.mv aV), .g 39 37 true (.dN gx), .g 40 37 true (.ah gh 0), .g 41 37 true (.load gK false 1), .g 42 37 true (.mv aV), .g 43 37 true (.dN ie), .g 44 37 true (.ah iy 1), .g 45 37 true (.load iR false 1), .g 46 37 true (.bin .add jg (.k (.int .i64 1))), .g 47 37 true (.bE gk jh 4), .g 48 37 true (.ah jz 1), .g 49 37 true (.load iS false 1), .g 50 37 true (.bin .eql iX (.k (.str [40]))), .o 51 (.pick fQ jQ (.k (.bool false)))] [(0,0),(1,0),(2,0),(3,0),(4,0),(5,0),(6,0),(7,0),(8,0),(9,0),(10,0),(11,0),(12,0),(13,0),(14,0),(15,0),(16,0),(17,0),(18,0),(19,0),(20,0),(21,0),(22,0),(23,0),(24,0),(25,0),(26,0),(27,0),(28,0),(29,0),(30,0),(31,0),(32,0),(33,0),(34,0),(35,0),(36,0),(37,0)]
abbrev ass:AC:= .seq asr (.cond ji (.seq (.run [.m 52 aV, .m 53 bD, .m 54 aV, .c 55 fl [kb,(.k (.bool true))], .c 56 nf [jA,jR,kp], .op none none (.store df lz 13)]) .ret) .skip)
abbrev ast:AC:= .seq (.run [.m 57 bD, .m 58 aV, .c 59 gZ [lA],(.o 60 (.build [(.int .i64 0),(.int .i64 0),(.slice .full 0 []),(.str []),(.str []),(.int .i64 0),(.int .i64 0),(.str []),(.slice .full 0 []),(.bool false),(.slice .full 0 []),(.slice .full 0 []),(.slice .full 0 [])] [(1,(1,(.k (.int .i64 1)))),(3,(1,lO)),(5,(4,kq))])), .o 4 (.alloc [(.int .i64 0),(.int .i64 0),(.slice .full 0 []),(.str []),(.str []),(.int .i64 0),(.int .i64 0),(.str []),(.slice .full 0 []),(.bool false),(.slice .full 0 []),(.slice .full 0 []),(.slice .full 0 [])]), .op none none (.store cT nq 13)]) (.seq (.run [.m 61 aV,(.c 62 dB [nY,(.k (.str [59]))])]) (.seq (.run [.o 63 (.load cT true 13), .op none none (.store df nZ 13)]) .ret))
abbrev asu:AC:= .seq (.seq (.run [.m 7 aV,(.c 8 ga [bF,(.k (.str [40]))])]) asq) (.seq (.run [.m 12 aV,(.c 13 dB [bV,(.k (.str [61]))])]) (.seq ass ast))
abbrev asv:AC:= .seq (.run [.o 2 (.alloc [(.int .i64 0),(.int .i64 0),(.slice .full 0 []),(.str []),(.str []),(.int .i64 0),(.int .i64 0),(.str []),(.slice .full 0 []),(.bool false),(.slice .full 0 []),(.slice .full 0 []),(.slice .full 0 [])])]) (.seq (.run [.m 5 aV, .c 6 fl [bd,(.k (.bool true))], .m 3 bH]) asu)
abbrev asw:AC:= .seq (.seq (.run [.m 13 aV,(.c 14 dT [bP,(.k (.str [101,108,115,101]))])]) (.cond bL (.run [.m 15 aV, .m 16 bb, .c 17 ko [ct,cb], .o 18 (.ah bd 12), .op none none (.store cO cQ 1)]) .skip)) (.seq (.run [.o 19 (.load bd true 13), .op none none (.store cT cV 13)]) .ret)
abbrev asx:AC:= .seq (.run [.m 6 aV, .c 7 nc [bH],(.o 8 (.build [(.int .i64 0),(.int .i64 0),(.slice .full 0 []),(.str []),(.str []),(.int .i64 0),(.int .i64 0),(.str []),(.slice .full 0 []),(.bool false),(.slice .full 0 []),(.slice .full 0 []),(.slice .full 0 [])] [(1,(1,(.k (.int .i64 5)))),(5,(4,bF))])), .o 5 (.alloc [(.int .i64 0),(.int .i64 0),(.slice .full 0 []),(.str []),(.str []),(.int .i64 0),(.int .i64 0),(.str []),(.slice .full 0 []),(.bool false),(.slice .full 0 []),(.slice .full 0 []),(.slice .full 0 [])]), .op none none (.store bd bX 13)]) (.seq (.run [.m 9 aV, .m 10 bb, .c 11 ko [cw,bI], .o 12 (.ah bd 11), .op none none (.store bV bO 1)]) asw)
abbrev asy:AC:= .seq (.run [.o 4 (.alloc [(.int .i64 0),(.int .i64 0),(.slice .full 0 []),(.str []),(.str []),(.int .i64 0),(.int .i64 0),(.str []),(.slice .full 0 []),(.bool false),(.slice .full 0 []),(.slice .full 0 []),(.slice .full 0 [])])]) asx
abbrev asA:AC:= .seq (.run [.m 6 aV, .c 7 gZ [bH], .o 3 (.alloc [(.int .i64 0),(.int .i64 0),(.str []),(.slice .full 0 [])]), .op none none (.store bD bF 4)]) (.seq (.run [.m 8 aV,(.c 9 dB [bX,(.k (.str [41]))])]) (.seq (.run [.o 10 (.load bD true 4), .op none none (.store df bI 4)]) .ret))
abbrev asB:AC:= .seq (.run [.o 2 (.alloc [(.int .i64 0),(.int .i64 0),(.str []),(.slice .full 0 [])])]) (.seq (.run [.m 4 aV,(.c 5 dB [cT,(.k (.str [40]))])]) asA)
abbrev asC:AC:= .seq (.run [.m 7 aV,(.c 8 dB [bF,(.k (.str [123]))])]) (.seq (.run [.m 10 aV, .m 11 bb, .o 12 (.bin .add bO (.k (.int .i64 1))), .c 13 ix [bI,bV,(.k (.bool false))], .m 9 bP, .o 14 (.ext cw 0), .o 15 (.ext cw 1), .m 5 bL, .m 6 ct]) (.seq (.run [.m 16 bd, .m 4 cb]) .ret))
abbrev asD:AC:= .seq (.run [.o 4 (.mv (.k (.slice .full 0 [])))]) asC
abbrev asE:AC:= .seq (.run [.m 16 aV,(.c 17 ga [cb,(.k (.str [59]))]), .o 18 (.un .not cQ)]) (.cond cO (.run [.m 19 aV, .c 20 gZ [cV], .o 21 (.ah bd 9), .op none none (.store dj (.k (.bool true)) 1), .o 22 (.ah bd 5), .op none none (.store dm dc 4)]) .skip)
abbrev asF:AC:= .seq (.run [.o 36 (.bin .eql bH (.k (.str [112,114,105,110,116]))), .m 35 fI]) (.cond fz (.run [.m 37 aV, .c 38 gZ [fQ], .o 39 (.ah bd 1), .op none none (.store gh (.k (.int .i64 3)) 1), .o 40 (.ah bd 5), .op none none (.store gK gx 4)]) .skip)
abbrev asG:AC:= .seq (.run [.o 30 (.bin .eql bH (.k (.str [114,101,97,100]))), .m 29 fk]) (.cond fa (.run [.m 31 aV, .c 32 fl [fe,(.k (.bool true))], .o 33 (.ah bd 1), .op none none (.store fp (.k (.int .i64 2)) 1), .o 34 (.ah bd 3), .op none none (.store fA fv 1)]) asF)
abbrev asH:AC:= .seq (.run [.o 24 (.bin .eql bH (.k (.str [103,111,116,111]))), .m 23 dd]) (.cond dD (.run [.m 25 aV, .c 26 fl [di,(.k (.bool true))], .o 27 (.ah bd 1), .op none none (.store ek (.k (.int .i64 10)) 1), .o 28 (.ah bd 3), .op none none (.store eZ ez 1)]) asG)
abbrev asI:AC:= .cond bP (.seq (.run [.o 15 (.ah bd 1), .op none none (.store ct (.k (.int .i64 9)) 1)]) asE) asH
abbrev asJ:AC:= .cond bI (.run [.o 12 (.ah bd 1), .op none none (.store bV (.k (.int .i64 8)) 1)]) (.seq (.run [.o 14 (.bin .eql bH (.k (.str [114,101,116,117,114,110]))), .m 13 bL]) asI)
abbrev asK:AC:= .cond bF (.run [.o 9 (.ah bd 1), .op none none (.store cw (.k (.int .i64 7)) 1)]) (.seq (.run [.o 11 (.bin .eql bH (.k (.str [99,111,110,116,105,110,117,101]))), .m 10 bO]) asJ)
abbrev asL:AC:= .block 0 (.seq (.run [.o 8 (.bin .eql bH (.k (.str [98,114,101,97,107]))), .m 7 bX]) asK)
abbrev asM:AC:= .seq (.run [.o 4 (.alloc [(.int .i64 0),(.int .i64 0),(.slice .full 0 []),(.str []),(.str []),(.int .i64 0),(.int .i64 0),(.str []),(.slice .full 0 []),(.bool false),(.slice .full 0 []),(.slice .full 0 []),(.slice .full 0 [])])]) (.seq (.run [.o 5 (.alloc [(.int .i64 0),(.int .i64 0),(.slice .full 0 []),(.str []),(.str []),(.int .i64 0),(.int .i64 0),(.str []),(.slice .full 0 []),(.bool false),(.slice .full 0 []),(.slice .full 0 []),(.slice .full 0 [])])]) (.seq (.seq (.run [.m 6 bb]) asL) (.seq (.run [.o 41 (.load bd true 13), .op none none (.store cT gk 13)]) .ret)))
abbrev asN:AC:= .cond cT (.seq (.run [.m 5 aV, .o 6 (.bin .add (.k (.int .u64 48)) bd), .o 7 (.conv .u8 bH), .o 8 (.c9 [(.int .u8 0)] 1 1 [(0,bF)]), .o 9 (.AX bX), .m 2 cw]) .ret) .skip
abbrev asO:AC:= .par [.m 10 aV, .o 11 (.bin .quo bI (.k (.int .u64 10))), .c 12 pC [bO], .m 13 aV, .o 14 (.bin .rem bP (.k (.int .u64 10))), .o 15 (.bin .add (.k (.int .u64 48)) bL), .o 16 (.conv .u8 ct), .o 17 (.c9 [(.int .u8 0)] 1 1 [(0,cb)]), .o 18 (.AX cQ), .o 19 (.bin .add bV cO), .m 2 cV] [(0,0),(1,0),(2,0),(3,0),(4,0),(5,0),(6,0),(7,0),(8,0),(9,0),(10,0)]
abbrev asP:AC:= .seq (.seq (.run [.m 3 aV, .o 4 (.bin .lss bD (.k (.int .u64 10)))]) asN) (.seq asO .ret)
abbrev asQ:AC:= .seq (.run [.o 2 (.mv (.k (.str [])))]) asP
abbrev asR:AC:= .cond cV (.seq (.run [.m 20 bd, .m 21 bH, .o 22 (.bE dc dj 1), .o 23 (.load dm false 1), .m 24 bH, .o 25 (.bin .add (.k (.int .i64 5)) dd), .m 2 dD, .m 3 di]) .ret) .skip
abbrev asS:AC:= .seq (.block 1 (.seq (.run [.m 14 bV, .o 15 (.bE bI bV 1), .o 16 (.load ct false 1), .m 6 bL, .m 7 cb]) (.seq (.run [.m 17 bF, .m 18 aV, .o 19 (.bin .eql cQ cO)]) asR))) (.run [.o 26 (.bin .add bV (.k (.int .i64 1))), .m 12 ez])
abbrev asT:AC:= .block 0 (.loop (.seq (.run [.o 13 (.bin .lss bV bO)]) (.seq (.cond bP .skip (.exit 0)) asS)))
abbrev asU:AC:= .seq (.seq (.run [.m 10 cT, .o 11 (.len bI), .o 12 (.mv (.k (.int .i64 0)))]) asT) (.seq (.run [.o 2 (.mv (.k (.int .i64 0))), .o 3 (.mv (.k (.int .i64 0)))]) .ret)
abbrev asV:AC:= .seq (.run [(.o 9 (.c9 [(.int .i64 0)] 1 13 [(0,(.k (.int .i64 6))),(1,(.k (.int .i64 6))),(2,(.k (.int .i64 6))),(3,(.k (.int .i64 5))),(4,(.k (.int .i64 5))),(5,(.k (.int .i64 4))),(6,(.k (.int .i64 4))),(7,(.k (.int .i64 4))),(8,(.k (.int .i64 4))),(9,(.k (.int .i64 3))),(10,(.k (.int .i64 3))),(11,(.k (.int .i64 2))),(12,(.k (.int .i64 1)))])), .m 5 cw]) asU
abbrev asW:AC:= .seq (.run [(.o 8 (.c9 [(.str [])] 1 13 [(0,(.k (.str [42]))),(1,(.k (.str [47]))),(2,(.k (.str [37]))),(3,(.k (.str [43]))),(4,(.k (.str [45]))),(5,(.k (.str [60]))),(6,(.k (.str [60,61]))),(7,(.k (.str [62]))),(8,(.k (.str [62,61]))),(9,(.k (.str [61,61]))),(10,(.k (.str [33,61]))),(11,(.k (.str [38,38]))),(12,(.k (.str [124,124])))])), .m 4 bX]) asV
abbrev asX:AC:= .seq (.run [.o 2 (.mv (.k (.int .i64 0))), .o 3 (.mv (.k (.int .i64 0)))]) asW
abbrev asY:AC:= .cond cQ (.seq (.run [.o 2 (.mv (.k (.int .i64 2)))]) .ret) .skip
abbrev asZ:AC:= .cond bI (.seq (.run [.o 2 (.mv (.k (.int .i64 1)))]) .ret) (.seq (.run [.m 18 aV, .o 19 (.bin .geq cO (.k (.int .i64 5))), .m 20 cV, .g 21 20 true (.mv aV), .g 22 20 true (.bin .leq dj (.k (.int .i64 17))), .o 23 (.pick dc dm (.k (.bool false))), .m 17 dD]) asY)
abbrev as0:AC:= .cond bD (.seq (.run [.o 2 (.mv (.k (.int .i64 0)))]) .ret) (.seq (.run [.m 11 aV, .o 12 (.bin .eql bO (.k (.int .i64 3))), .m 13 bV, .g 14 13 false (.mv aV), .g 15 13 false (.bin .eql bL (.k (.int .i64 4))), .o 16 (.pick bP (.k (.bool true)) ct), .m 10 cb]) asZ)
abbrev as1:AC:= .block 0 (.seq (.run [.m 4 aV, .o 5 (.bin .eql cT (.k (.int .i64 1))), .m 6 bd, .g 7 6 false (.mv aV), .g 8 6 false (.bin .eql bF (.k (.int .i64 2))), .o 9 (.pick bH (.k (.bool true)) bX), .m 3 cw]) as0)
abbrev as2:AC:= .seq (.run [(.o 2 (.mv (.k (.int .i64 (-1)))))]) .ret
abbrev as3:AC:= .seq (.run [.o 2 (.mv (.k (.int .i64 0)))]) (.seq as1 as2)
abbrev as4:AC:= .par [.o 24 (.ah bF 10), .o 25 (.load dd false 1), .m 26 aV, .c 27 fl [ez,(.k (.bool true))],(.o 28 (.build [(.bool false),(.str []),(.int .i64 0),(.int .i64 0),(.str []),(.slice .full 0 [])] [(0,(1,(.k (.bool true)))),(1,(1,ek))])), .o 29 (.c9 [(.bool false),(.str []),(.int .i64 0),(.int .i64 0),(.str []),(.slice .full 0 [])] 6 1 [(0,eZ)]), .o 30 (.app 6 80 di fa), .o 31 (.ah bF 10), .op none none (.store fe fk 1)] [(2,0),(3,0),(0,0),(1,1),(4,0),(5,0),(6,0),(7,0),(8,0)]
abbrev as5:AC:= .par [.o 32 (.ah bF 10), .o 33 (.load fv false 1), .m 34 aV, .c 35 gZ [fA], .o 36 (.build [(.bool false),(.str []),(.int .i64 0),(.int .i64 0),(.str []),(.slice .full 0 [])] [(2,(4,fz))]), .o 37 (.c9 [(.bool false),(.str []),(.int .i64 0),(.int .i64 0),(.str []),(.slice .full 0 [])] 6 1 [(0,fI)]), .o 38 (.app 6 80 fp fQ), .o 39 (.ah bF 10), .op none none (.store gh gx 1)] [(2,0),(3,0),(0,0),(1,1),(4,0),(5,0),(6,0),(7,0),(8,0)]
abbrev as6:AC:= .seq (.seq (.run [.m 22 aV,(.c 23 dT [dm,(.k (.str [114,101,102]))])]) (.cond dD as4 as5)) (.seq (.run [.m 40 aV,(.c 41 dT [gK,(.k (.str [44]))]), .o 42 (.un .not gk)]) (.cond ie (.exit 0) .skip))
abbrev as7:AC:= .block 0 (.loop (.seq (.seq (.run [.m 20 aV, .c 21 db [dc]]) (.cond dj .skip (.exit 0))) (.block 1 as6)))
abbrev as8:AC:= .seq (.run [.m 43 aV,(.c 44 dB [iy,(.k (.str [41]))])]) (.seq (.run [.m 45 aV,(.c 46 dB [jg,(.k (.str [59]))])]) (.seq (.run [.o 47 (.load bF true 13), .op none none (.store bH jz 13)]) .ret))
abbrev as9:AC:= .seq (.seq (.run [.m 13 aV, .c 14 db [bP], .m 15 bL, .g 16 15 true (.mv aV),(.d 17 15 true ga [cb,(.k (.str [41]))]), .g 18 15 true (.un .not cQ), .o 19 (.pick ct cO (.k (.bool false)))]) (.cond cV as7 .skip)) as8
abbrev ata:AC:= .seq (.run [.m 8 bb, .m 9 df,(.o 10 (.build [(.int .i64 0),(.int .i64 0),(.slice .full 0 []),(.str []),(.str []),(.int .i64 0),(.int .i64 0),(.str []),(.slice .full 0 []),(.bool false),(.slice .full 0 []),(.slice .full 0 []),(.slice .full 0 [])] [(1,(1,(.k (.int .i64 4)))),(3,(1,bX)),(4,(1,cw))])), .o 7 (.alloc [(.int .i64 0),(.int .i64 0),(.slice .full 0 []),(.str []),(.str []),(.int .i64 0),(.int .i64 0),(.str []),(.slice .full 0 []),(.bool false),(.slice .full 0 []),(.slice .full 0 []),(.slice .full 0 [])]), .op none none (.store bF bI 13)]) (.seq (.run [.m 11 aV,(.c 12 dB [bO,(.k (.str [40]))])]) as9)
abbrev atb:AC:= .seq (.run [.o 6 (.alloc [(.int .i64 0),(.int .i64 0),(.slice .full 0 []),(.str []),(.str []),(.int .i64 0),(.int .i64 0),(.str []),(.slice .full 0 []),(.bool false),(.slice .full 0 []),(.slice .full 0 []),(.slice .full 0 [])])]) ata
abbrev atc:AC:= .cond cb (.run [.m 17 aV, .m 18 bD,(.o 19 (.build [(.int .i64 0),(.int .i64 0)] [(0,(1,(.k (.int .i64 4)))),(1,(1,cO))])), .o 20 (.dN cQ), .o 21 (.ah dc 2), .op none none (.store dj cV 2)]) .skip
abbrev atd:AC:= .seq (.seq (.run [.m 10 aV, .c 11 db [bI], .m 12 bO, .g 13 12 true (.load cT true 4), .d 14 12 true nu [bP], .g 15 12 true (.bin .gtr bL (.k (.int .i64 20))), .o 16 (.pick bV ct (.k (.bool false)))]) atc) (.seq (.run [.o 22 (.load cT true 4), .op none none (.store df dm 4)]) .ret)
abbrev ate:AC:= .seq (.run [.o 2 (.alloc [(.int .i64 0),(.int .i64 0),(.str []),(.slice .full 0 [])])]) (.seq (.run [.m 5 aV, .c 6 dU [bd], .o 7 (.uV bH 3 false 1), .m 3 bF]) (.seq (.run [.m 8 aV, .c 9 j7 [bX,(.k (.int .i64 1))], .o 4 (.alloc [(.int .i64 0),(.int .i64 0),(.str []),(.slice .full 0 [])]), .op none none (.store cT cw 4)]) atd))
abbrev atf:AC:= .seq (.run [.m 27 aV, .o 28 (.dN ek), .o 29 (.ah eZ 1), .o 30 (.load fa false 1), .o 31 (.bin .add fk (.k (.int .i64 1))), .o 32 (.dN ek), .o 33 (.ah fv 1), .op none none (.store fp fe 1)]) (.seq (.run [.m 34 aV, .m 35 bF, .o 36 (.bin .add fz (.k (.int .i64 1))), .c 37 j7 [fA,fI], .o 8 (.alloc [(.int .i64 0),(.int .i64 0),(.str []),(.slice .full 0 [])]), .op none none (.store bX fQ 4)]) (.run [.m 38 bH, .o 39 (.load bd true 4), .o 40 (.load bX true 4), .o 41 (.c9 [(.int .i64 0),(.int .i64 0),(.str []),(.slice .full 0 [])] 4 2 [(0,gh),(1,gK)]), .o 42 (.build [(.int .i64 0),(.int .i64 0),(.str []),(.slice .full 0 [])] [(0,(1,gx)),(3,(1,gk))]), .op none none (.store bd ie 4)]))
abbrev atg:AC:= .seq (.seq (.run [.m 19 bF, .m 20 bb, .o 21 (.bin .lss cV dc), .m 22 dj, .g 23 22 false (.mv bH), .g 24 22 false (.bin .eql dD (.k (.int .i64 0))), .o 25 (.pick dm (.k (.bool true)) dd)]) (.cond di (.seq (.run [.o 26 (.load bd true 4), .op none none (.store cT ez 4)]) .ret) .skip)) atf
abbrev ath:AC:= .loop (.seq (.seq (.run [.m 11 aV, .c 12 db [bO]]) (.cond bV .skip (.exit 0))) (.block 1 (.seq (.run [.m 14 aV, .c 15 dU [bL], .c 16 wJ [ct], .m 13 cb, .o 17 (.ext bP 0), .o 18 (.ext bP 1), .m 6 cQ, .m 7 cO]) atg)))
abbrev ati:AC:= .seq (.run [.o 4 (.alloc [(.int .i64 0),(.int .i64 0),(.str []),(.slice .full 0 [])])]) (.seq (.run [.m 9 aV, .c 10 ly [cw], .o 5 (.alloc [(.int .i64 0),(.int .i64 0),(.str []),(.slice .full 0 [])]), .op none none (.store bd bI 4)]) (.seq (.block 0 ath) (.seq (.run [.o 43 (.load bd true 4), .op none none (.store cT iy 4)]) .ret)))
abbrev atj:AC:= .seq (.block 1 (.seq (.run [.o 11 (.bE bF cw 4), .o 12 (.load bO true 4), .o 5 (.alloc [(.int .i64 0),(.int .i64 0),(.str []),(.slice .full 0 [])]), .op none none (.store bd bV 4)]) (.run [.m 13 bD, .o 14 (.load bd true 4), .c 15 nu [bL], .o 16 (.mm true bP ct), .m 3 cb]))) (.run [.o 17 (.bin .add cw (.k (.int .i64 1))), .m 9 cQ])
abbrev atk:AC:= .block 0 (.loop (.seq (.run [.o 10 (.bin .lss cw bX)]) (.seq (.cond bI .skip (.exit 0)) atj)))
abbrev atl:AC:= .seq (.seq (.run [.o 6 (.ah bb 3), .o 7 (.load bH false 1), .o 8 (.len bF), .o 9 (.mv (.k (.int .i64 0)))]) atk) (.seq (.run [.m 18 bD, .o 19 (.bin .add cO (.k (.int .i64 1))), .m 2 cV]) .ret)
abbrev atm:AC:= .seq (.run [.o 1 (.box aV), .o 2 (.mv (.k (.int .i64 0)))]) (.seq (.run [.o 3 (.mv (.k (.int .i64 0)))]) atl)
abbrev atn:AC:= .seq (.run [.m 7 aV, .c 8 db [bF], .o 9 (.un .not bX)]) (.cond cw (.seq (.run [.o 10 (.build [(.int .i64 0),(.int .i64 0),(.str []),(.slice .full 0 [])] []), .op none none (.store df bI 4)]) .ret) .skip)
abbrev ato:AC:= .seq (.run [.o 22 (.ah bD 2), .o 23 (.load dm false 1),(.o 24 (.build [(.int .i64 0),(.int .i64 0),(.str []),(.slice .full 0 [])] [(0,(1,(.k (.int .i64 1)))),(1,(1,dD))])), .op none none (.store df dd 4)]) .ret
abbrev atp:AC:= .seq (.run [.o 36 (.ah bD 1), .o 37 (.load fI false 1),(.o 38 (.build [(.int .i64 0),(.int .i64 0),(.str []),(.slice .full 0 [])] [(0,(1,(.k (.int .i64 2)))),(2,(1,fQ))])), .op none none (.store df gx 4)]) .ret
abbrev atq:AC:= .seq (.run [.m 42 aV, .c 43 j7 [ie,(.k (.int .i64 1))], .o 4 (.alloc [(.int .i64 0),(.int .i64 0),(.str []),(.slice .full 0 [])]), .op none none (.store cT iy 4)]) (.seq (.run [.m 44 aV,(.c 45 dB [iR,(.k (.str [41]))])]) (.seq (.run [.o 46 (.load cT true 4), .op none none (.store df jh 4)]) .ret))
abbrev atr:AC:= .seq (.run [.m 50 aV, .c 51 ly [jQ], .o 52 (.c9 [(.int .i64 0),(.int .i64 0),(.str []),(.slice .full 0 [])] 4 1 [(0,ji)]),(.o 53 (.build [(.int .i64 0),(.int .i64 0),(.str []),(.slice .full 0 [])] [(0,(1,(.k (.int .i64 3)))),(3,(1,jA))])), .op none none (.store df jR 4)]) .ret
abbrev att:AC:= .seq (.run [.m 57 aV, .c 58 ly [lO], .o 59 (.c9 [(.int .i64 0),(.int .i64 0),(.str []),(.slice .full 0 [])] 4 1 [(0,lA)]),(.o 60 (.build [(.int .i64 0),(.int .i64 0),(.str []),(.slice .full 0 [])] [(0,(1,(.k (.int .i64 4)))),(3,(1,kq))])), .op none none (.store df nq 4)]) .ret
abbrev atu:AC:= .cond jz atr (.seq (.run [.m 55 aV,(.c 56 dT [kp,(.k (.str [33]))]), .m 54 lz]) (.cond kb att .skip))
abbrev atv:AC:= .cond gh atq (.seq (.run [.m 48 aV,(.c 49 dT [iS,(.k (.str [45]))]), .m 47 iX]) atu)
abbrev atw:AC:= .cond di (.seq (.run [.m 29 aV, .o 30 (.dN fa), .o 31 (.ah fk 1), .o 32 (.load fe false 1), .o 33 (.bin .add fv (.k (.int .i64 1))), .o 34 (.dN fa), .o 35 (.ah fA 1), .op none none (.store fz fp 1)]) atp) (.seq (.run [.m 40 aV,(.c 41 dT [gK,(.k (.str [40]))]), .m 39 gk]) atv)
abbrev atx:AC:= .cond bO (.seq (.run [.m 15 aV, .o 16 (.dN ct), .o 17 (.ah cb 1), .o 18 (.load cQ false 1), .o 19 (.bin .add cO (.k (.int .i64 1))), .o 20 (.dN ct), .o 21 (.ah dc 1), .op none none (.store dj cV 1)]) ato) (.seq (.run [.o 26 (.ah bD 0), .o 27 (.load ez false 1), .o 28 (.bin .eql ek (.k (.int .i64 1))), .m 25 eZ]) atw)
abbrev aty:AC:= .block 0 (.seq (.run [.o 12 (.ah bD 0), .o 13 (.load bV false 1), .o 14 (.bin .eql bP (.k (.int .i64 2))), .m 11 bL]) atx)
abbrev atz:AC:= .seq aty (.seq (.run [.m 61 aV, .c 62 fx [nY,(.k (.int .i64 3))]]) (.seq (.run [.o 63 (.build [(.int .i64 0),(.int .i64 0),(.str []),(.slice .full 0 [])] []), .op none none (.store df nZ 4)]) .ret))
abbrev atA:AC:= .seq (.run [.o 2 (.alloc [(.int .i64 0),(.int .i64 0),(.str []),(.slice .full 0 [])])]) (.seq (.run [.m 5 aV, .c 6 dU [bd], .o 3 (.alloc [(.int .i64 0),(.str []),(.int .i64 0),(.int .i64 0)]), .op none none (.store bD bH 4)]) (.seq atn atz))
abbrev atC:AC:= .cond bH (.seq (.run [.o 2 (.mv (.k (.int .i64 0))), .o 3 (.mv (.k (.int .i64 0)))]) .ret) .skip
abbrev atD:AC:= .cond fp (.seq (.run [.o 2 (.mv (.k (.int .i64 7))), .o 3 (.mv (.k (.int .i64 6)))]) .ret) .skip
abbrev atE:AC:= .cond fe (.seq (.run [.o 2 (.mv (.k (.int .i64 6))), .o 3 (.mv (.k (.int .i64 6)))]) .ret) (.seq (.run [.o 34 (.bin .eql bX (.k (.str [37]))), .m 33 fA]) atD)
abbrev atF:AC:= .cond fa (.seq (.run [.o 2 (.mv (.k (.int .i64 5))), .o 3 (.mv (.k (.int .i64 6)))]) .ret) (.seq (.run [.o 32 (.bin .eql bX (.k (.str [47]))), .m 31 fv]) atE)
abbrev atG:AC:= .cond ek (.seq (.run [.o 2 (.mv (.k (.int .i64 9))), .o 3 (.mv (.k (.int .i64 5)))]) .ret) (.seq (.run [.o 30 (.bin .eql bX (.k (.str [42]))), .m 29 fk]) atF)
abbrev atH:AC:= .cond di (.seq (.run [.o 2 (.mv (.k (.int .i64 8))), .o 3 (.mv (.k (.int .i64 5)))]) .ret) (.seq (.run [.o 28 (.bin .eql bX (.k (.str [45]))), .m 27 eZ]) atG)
abbrev atI:AC:= .cond dD (.seq (.run [.o 2 (.mv (.k (.int .i64 13))), .o 3 (.mv (.k (.int .i64 4)))]) .ret) (.seq (.run [.o 26 (.bin .eql bX (.k (.str [43]))), .m 25 ez]) atH)
abbrev atJ:AC:= .cond dj (.seq (.run [.o 2 (.mv (.k (.int .i64 12))), .o 3 (.mv (.k (.int .i64 4)))]) .ret) (.seq (.run [.o 24 (.bin .eql bX (.k (.str [62,61]))), .m 23 dd]) atI)
abbrev atK:AC:= .cond cV (.seq (.run [.o 2 (.mv (.k (.int .i64 11))), .o 3 (.mv (.k (.int .i64 4)))]) .ret) (.seq (.run [.o 22 (.bin .eql bX (.k (.str [62]))), .m 21 dm]) atJ)
abbrev atL:AC:= .cond cQ (.seq (.run [.o 2 (.mv (.k (.int .i64 10))), .o 3 (.mv (.k (.int .i64 4)))]) .ret) (.seq (.run [.o 20 (.bin .eql bX (.k (.str [60,61]))), .m 19 dc]) atK)
abbrev atM:AC:= .cond ct (.seq (.run [.o 2 (.mv (.k (.int .i64 15))), .o 3 (.mv (.k (.int .i64 3)))]) .ret) (.seq (.run [.o 18 (.bin .eql bX (.k (.str [60]))), .m 17 cO]) atL)
abbrev atN:AC:= .cond bP (.seq (.run [.o 2 (.mv (.k (.int .i64 14))), .o 3 (.mv (.k (.int .i64 3)))]) .ret) (.seq (.run [.o 16 (.bin .eql bX (.k (.str [33,61]))), .m 15 cb]) atM)
abbrev atO:AC:= .cond bO (.seq (.run [.o 2 (.mv (.k (.int .i64 16))), .o 3 (.mv (.k (.int .i64 2)))]) .ret) (.seq (.run [.o 14 (.bin .eql bX (.k (.str [61,61]))), .m 13 bL]) atN)
abbrev atP:AC:= .cond cw (.seq (.run [.o 2 (.mv (.k (.int .i64 17))), .o 3 (.mv (.k (.int .i64 1)))]) .ret) (.seq (.run [.o 12 (.bin .eql bX (.k (.str [38,38]))), .m 11 bV]) atO)
abbrev atQ:AC:= .block 0 (.seq (.run [.o 10 (.bin .eql bX (.k (.str [124,124]))), .m 9 bI]) atP)
abbrev atS:AC:= .seq (.seq (.run [.o 7 (.ah bb 1), .o 8 (.load bF false 1)]) atQ) (.seq (.run [.o 2 (.mv (.k (.int .i64 0))), .o 3 (.mv (.k (.int .i64 0)))]) .ret)
abbrev atT:AC:= .seq (.seq (.run [.o 4 (.ah bb 0), .o 5 (.load cT false 1), .o 6 (.bin .neq bd (.k (.int .i64 4)))]) atC) atS
abbrev atU:AC:= .seq (.run [.o 1 (.box aV), .o 2 (.mv (.k (.int .i64 0))), .o 3 (.mv (.k (.int .i64 0)))]) atT
open Go.Proofs
theorem Ai:Has Tryz.prog pR 71 [(4,(some (true,13)))] arn:=⟨Tryz.f205,by kernel_rfl,by kernel_rfl⟩
theorem B6:Has Tryz.prog rC 36 [(4,none)] arv:=⟨Tryz.f206,by kernel_rfl,by kernel_rfl⟩
theorem Kf:Has Tryz.prog rD 60 [(2,none)] arC:=⟨Tryz.f207,by kernel_rfl,by kernel_rfl⟩
theorem H6:Has Tryz.prog xC 2 [(0,none)] arE:=⟨Tryz.f209,by kernel_rfl,by kernel_rfl⟩
theorem H7:Has Tryz.prog qv 24 [(2,none)] arL:=⟨Tryz.f210,by kernel_rfl,by kernel_rfl⟩
theorem Mf:Has Tryz.prog Bl 15 [(2,none)] arO:=⟨Tryz.f211,by kernel_rfl,by kernel_rfl⟩
theorem C7:Has Tryz.prog qN 15 [(4,none)] arQ:=⟨Tryz.f212,by kernel_rfl,by kernel_rfl⟩
theorem B7:Has Tryz.prog rE 17 [(2,none)] arT:=⟨Tryz.f213,by kernel_rfl,by kernel_rfl⟩
theorem Kg:Has Tryz.prog uM 8 [(2,none)] arV:=⟨Tryz.f214,by kernel_rfl,by kernel_rfl⟩
theorem B8:Has Tryz.prog rF 61 [(4,none)] asa:=⟨Tryz.f219,by kernel_rfl,by kernel_rfl⟩
theorem yc:Has Tryz.prog oA 23 [(2,none)] asp:=⟨Tryz.f226,by kernel_rfl,by kernel_rfl⟩
theorem zC:Has Tryz.prog o8 64 [(2,(some (true,13)))] asv:=⟨Tryz.f227,by kernel_rfl,by kernel_rfl⟩
theorem yd:Has Tryz.prog oB 20 [(4,(some (true,13)))] asy:=⟨Tryz.f228,by kernel_rfl,by kernel_rfl⟩
theorem Aj:Has Tryz.prog nc 11 [(2,(some (true,4)))] asB:=⟨Tryz.f229,by kernel_rfl,by kernel_rfl⟩
theorem zD:Has Tryz.prog ko 17 [(4,none)] asD:=⟨Tryz.f230,by kernel_rfl,by kernel_rfl⟩
theorem zE:Has Tryz.prog o9 42 [(4,(some (true,13)))] asM:=⟨Tryz.f231,by kernel_rfl,by kernel_rfl⟩
theorem yB:Has Tryz.prog pC 20 [(2,none)] asQ:=⟨Tryz.f232,by kernel_rfl,by kernel_rfl⟩
theorem H8:Has Tryz.prog xD 27 [(2,none),(3,none)] asX:=⟨Tryz.f233,by kernel_rfl,by kernel_rfl⟩
theorem Kh:Has Tryz.prog zB 24 [(2,none)] as3:=⟨Tryz.f237,by kernel_rfl,by kernel_rfl⟩
theorem Ak:Has Tryz.prog nf 48 [(6,(some (true,13)))] atb:=⟨Tryz.f239,by kernel_rfl,by kernel_rfl⟩
theorem zF:Has Tryz.prog gZ 23 [(2,(some (true,4)))] ate:=⟨Tryz.f240,by kernel_rfl,by kernel_rfl⟩
theorem Bn:Has Tryz.prog j7 44 [(4,(some (true,4)))] ati:=⟨Tryz.f242,by kernel_rfl,by kernel_rfl⟩
theorem Gq:Has Tryz.prog nu 20 [(2,none)] atm:=⟨Tryz.f243,by kernel_rfl,by kernel_rfl⟩
theorem Bo:Has Tryz.prog ly 64 [(2,(some (true,4)))] atA:=⟨Tryz.f244,by kernel_rfl,by kernel_rfl⟩
theorem Mg:Has Tryz.prog wJ 35 [(2,none),(3,none)] atU:=⟨Tryz.f245,by kernel_rfl,by kernel_rfl⟩
open Go.Proofs
theorem H9:Has Tryz.prog xx 37 [(6,none)] anm:=⟨Tryz.f120,by kernel_rfl,by kernel_rfl⟩
theorem Al:Has Tryz.prog xy 28 [(4,none)] ant:=⟨Tryz.f121,by kernel_rfl,by kernel_rfl⟩
theorem Eg:Has Tryz.prog sY 38 [(6,none),(7,none)] anB:=⟨Tryz.f122,by kernel_rfl,by kernel_rfl⟩
theorem yC:Has Tryz.prog vP 15 [(4,none)] anC:=⟨Tryz.f123,by kernel_rfl,by kernel_rfl⟩
theorem Ki:Has Tryz.prog zu 40 [(4,none)] anI:=⟨Tryz.f124,by kernel_rfl,by kernel_rfl⟩
theorem Ch:Has Tryz.prog n8 12 [(4,none)] anJ:=⟨Tryz.f125,by kernel_rfl,by kernel_rfl⟩
theorem Kj:Has Tryz.prog rB 9 [(2,none)] anK:=⟨Tryz.f128,by kernel_rfl,by kernel_rfl⟩
theorem C8:Has Tryz.prog Bi 42 [(4,none)] aoa:=⟨Tryz.f129,by kernel_rfl,by kernel_rfl⟩
theorem Ia:Has Tryz.prog xA 28 [(2,none),(3,none)] aog:=⟨Tryz.f130,by kernel_rfl,by kernel_rfl⟩
theorem Am:Has Tryz.prog dT 21 [(4,none)] aok:=⟨Tryz.f131,by kernel_rfl,by kernel_rfl⟩
theorem zG:Has Tryz.prog kn 25 [(6,none)] aoo:=⟨Tryz.f132,by kernel_rfl,by kernel_rfl⟩
theorem An:Has Tryz.prog db 9 [(2,none)] aop:=⟨Tryz.f133,by kernel_rfl,by kernel_rfl⟩
theorem Ci:Has Tryz.prog ga 22 [(4,none)] aor:=⟨Tryz.f134,by kernel_rfl,by kernel_rfl⟩
theorem Bp:Has Tryz.prog fx 14 [] aos:=⟨Tryz.f135,by kernel_rfl,by kernel_rfl⟩
theorem Ao:Has Tryz.prog pQ 56 [(2,(some (true,5)))] aoA:=⟨Tryz.f136,by kernel_rfl,by kernel_rfl⟩
theorem Ap:Has Tryz.prog dU 13 [(2,(some (true,4)))] aoC:=⟨Tryz.f137,by kernel_rfl,by kernel_rfl⟩
theorem ye:Has Tryz.prog iM 8 [(2,none)] aoE:=⟨Tryz.f138,by kernel_rfl,by kernel_rfl⟩
theorem vW:Has Tryz.prog mR 8 [(2,none)] aoG:=⟨Tryz.f139,by kernel_rfl,by kernel_rfl⟩
theorem Gr:Has Tryz.prog lM 78 [(6,none),(7,none)] aoQ:=⟨Tryz.f140,by kernel_rfl,by kernel_rfl⟩
theorem B9:Has Tryz.prog nV 65 [(10,none)] aoX:=⟨Tryz.f142,by kernel_rfl,by kernel_rfl⟩
theorem Kk:Has Tryz.prog pK 31 [(4,none)] ao0:=⟨Tryz.f147,by kernel_rfl,by kernel_rfl⟩
theorem Ib:Has Tryz.prog oy 15 [(2,none)] ao5:=⟨Tryz.f148,by kernel_rfl,by kernel_rfl⟩
theorem Ca:Has Tryz.prog kf 38 [(2,none)] apc:=⟨Tryz.f149,by kernel_rfl,by kernel_rfl⟩
theorem Mh:Has Tryz.prog Bj 178 [(2,none)] apo:=⟨Tryz.f150,by kernel_rfl,by kernel_rfl⟩
theorem ig:Has Tryz.prog zv 63 [(2,none)] apD:=⟨Tryz.f151,by kernel_rfl,by kernel_rfl⟩
theorem Gs:Has Tryz.prog lN 53 [(4,none)] apN:=⟨Tryz.f157,by kernel_rfl,by kernel_rfl⟩
theorem Ic:Has Tryz.prog qu 18 [(4,none)] apO:=⟨Tryz.f158,by kernel_rfl,by kernel_rfl⟩
theorem Ie:Has Tryz.prog sZ 18 [(4,none)] apP:=⟨Tryz.f159,by kernel_rfl,by kernel_rfl⟩
theorem Gt:Has Tryz.prog vQ 27 [(2,none)] apV:=⟨Tryz.f160,by kernel_rfl,by kernel_rfl⟩
theorem Kl:Has Tryz.prog nW 33 [(2,none)] ap2:=⟨Tryz.f161,by kernel_rfl,by kernel_rfl⟩
theorem Aq:Has Tryz.prog s4 8 [(2,none)] ap5:=⟨Tryz.f162,by kernel_rfl,by kernel_rfl⟩
theorem rY:Has Tryz.prog iE 9 [(4,none)] ap6:=⟨Tryz.f163,by kernel_rfl,by kernel_rfl⟩
theorem Eh:Has Tryz.prog p7 8 [(3,none)] ap7:=⟨Tryz.f164,by kernel_rfl,by kernel_rfl⟩
theorem Gu:Has Tryz.prog vR 33 [(4,none)] aqb:=⟨Tryz.f165,by kernel_rfl,by kernel_rfl⟩
theorem aA.Co {P:Program} {f:Nat} {args:List D} {s0 s:St} {o off n m:Nat} {row:List D} (h:aA P f args s0 (.ptr o off) s) (ho:s.az[o]? = some row) (hn:s0.az.length≤n) (hno:n≤o) (hm:s0.aD.length≤m) :
 aA P f args s0 (.eJ (D.je n m row) off) (s.cut n m):=by
 intro M0 w0 ik r0 mY atV ha
 refine(h M0 w0 ik r0 mY atV ha).mono ?_
 rintro en w ⟨M,d,v0,s',rfl,⟨rfl,rfl⟩,e,r,hv⟩
 have zR:=hv.Cv
 have vH:v0 = .pointer (some ⟨M.mu o,off,none⟩):=hv.tR.1
 have Sd:o<s'.az.length:=(List.getElem?_eq_some_iff.1 ho).1
 obtain⟨vs,T,hh,ew,⟨ib,_⟩,lk⟩:=r.obj o row ho
 replace hh:w.heap[M.mu o]? = some (.cells vs T (0,0)):=hh.cells zR
 let M':Map:= {M with G:=fun b q=>if b=M.mu o then vs[q]? else M.G b q}
 have hGo : ∀ q,M.G (M.mu o) q=none:=r.lj o Sd
 have le:Le M s' M' s':=⟨fun b q v hq=>by
  show(if b=M.mu o then vs[q]? else M.G b q)=some v
  by_cases hb:b=M.mu o
  ·subst hb;rw[hGo]at hq;cases hq
  ·rw[if_neg hb];exact hq,Nat.le_refl _,fun _ _=> .refl _,Nat.le_refl _,fun t n' _ e=>⟨n',e,Nat.le_refl _,fun _=>rfl⟩⟩
 have hY : ∀ q,q<(s'.cut n m).az.length→q<s'.az.length∧q≠o:=fun q h=>by rw[oY]at h;omega
 have yD:w0.heap.size≤M.mu o:=e.wZ o (.inl (by omega)) Sd
 have ec:=e.cut hn hm
 have lec:Le M (s'.cut n m) M' (s'.cut n m):=⟨le.G,Nat.le_refl _,fun _ _=> .refl _,Nat.le_refl _,fun t n' _ e=>⟨n',e,Nat.le_refl _,fun _=>rfl⟩⟩
 have rc:=r.cut n m
 have uZ : ∀ b,b≠M.mu o→∀ q,M'.G b q=M.G b q:=fun b hb q=>if_neg hb
 refine⟨M',_,v0,_,rfl,⟨rfl,rfl⟩,⟨ec.le.trans lec,ec.kept,ec.wZ,ec.sA,fun b q eB=>?_,ec.size,ec.os,ec.tape,ec.output⟩,⟨fun b q v hq=>?_,fun q ds hq=>?_,fun q hq zh=>?_,rc.inj,fun t n' TD=>?_,rc.fG,rc.gQ⟩, ?_⟩
 ·by_cases hb:b=M.mu o
  ·subst hb;exact .inl yD
  ·rw[uZ b hb]at eB;exact ec.vB b q eB
 ·have q5:(if b=M.mu o then vs[q]? else M.G b q)=some v:=hq
  by_cases hb:b=M.mu o
  ·rw [if_pos hb]at q5
   rw[hb,kB hh]
   exact⟨q5,ib v (Array.mem_of_getElem? q5)⟩
  ·rw [if_neg hb]at q5
   exact r.comm b q v q5
 ·obtain⟨gb,T',h3,h4,h5,h6⟩:=rc.obj q ds hq
  exact⟨gb,T',h3,h4,h5,fun i d v e1 e2=>(h6 i d v e1 e2).mono lec⟩
 ·obtain⟨h3,h4⟩:=hY q hq
  show M'.G (M.mu q) zh=none
  rw[uZ _ (fun e=>h4 (r.inj q o h3 Sd e))]
  exact r.lj q h3 zh
 ·rcases rc.tok t n' TD with h3 | ⟨b,cap,z,gb,T',h3,h4,h5,h6,h7⟩
  ·exact .inl h3
  ·refine .inr ⟨b,cap,z,gb,T',h3,h4,h5,h6,fun zh E5=> ?_,h7.2⟩
   rw[uZ _ (fun e=>r.fG t b cap z o (xk ⟨n',TD⟩) h3 Sd e.symm)]
   exact h7.1 zh E5
 ·rw [vH]
  have:=RD.eJ (M:=M') (s:=s'.cut n m) (D.je n m row) off (M.mu o) 0 (fun i d e1=>?_) (fun i d u e1 eu=>?_)
  ·simpa using this
  ·rw [pz,List.getElem?_map,Option.map_eq_some_iff]at e1
   obtain⟨d0,e1,rfl⟩:=e1
   have hi:=(List.getElem?_eq_some_iff.1 e1).1
   refine⟨vs[i]'(by omega), ?_⟩
   show(if M.mu o=M.mu o then vs[0+i]? else _)=_
   rw[if_pos rfl,Nat.zero_add]
   exact Array.getElem?_eq_getElem _
  ·rw [pz,List.getElem?_map,Option.map_eq_some_iff]at e1
   obtain⟨d0,e1,rfl⟩:=e1
   have O7:(if M.mu o=M.mu o then vs[0+i]? else M.G (M.mu o) (0+i))=some u:=eu
   rw[if_pos rfl,Nat.zero_add]at O7
   exact((lk i d0 u e1 O7).fg n m).mono lec
theorem aA.goK {P:Program} {f:FuncId} {res:List (Nat×Option (Bool×Nat))} {body:AC} {args:List D} {s:St} {d:D} {s':St} {nt:Nat} (n m:Nat) (hn:s.az.length≤n) (hm:s.aD.length≤m) (h0:Has P f nt res body) (hl:Nat.ble args.length nt=true)
 (h : ∀ (B:fZ) (Q:Exit→Tm→St→Prop),B.s=s→jO n m res d s'=Q→gS P B nt body Q (pX 0 args) s):aA P f args s d s':=by
 obtain⟨fn,hf,hc⟩:=h0
 refine fh.ZO (fh.intro (Q:=fun d1 s1=>Wk d1 d∧jw s1.az s'.az∧s1.aD=s'.aD) hf hc (Nat.le_of_ble_eq_true hl) fun B hB=>(jn (h B _ hB rfl)).mono fun e tm s1 hr=>?_) fun d1 s1 ⟨h1,h2,h3⟩=>⟨d,s',h1,h2,h3,rfl,rfl⟩
 subst hB
 cases e with
 |normal=>obtain⟨l,h1,h2,h3,h4⟩:=hr;exact⟨l,h1,_,_,hn,hm,h2,h3,h4⟩
 |ret=>obtain⟨l,h1,h2,h3,h4⟩:=hr;exact⟨l,h1,_,_,hn,hm,h2,h3,h4⟩
 |exit id=>exact hr.elim
 |goto l=>exact hr.elim
 |panic ch=>exact hr.elim
 |outgrown=>exact hr.elim
def kN (c:UInt8):Bool:=decide ((c.toNat:Int)≥97) && decide ((c.toNat:Int)≤122)
def kE (c:UInt8):Bool:=decide ((c.toNat:Int)≥48) && decide ((c.toNat:Int)≤57)
def rG (c:UInt8):Bool:=(c.toNat:Int)==32 ||(c.toNat:Int)==9 ||(c.toNat:Int)==10 ||(c.toNat:Int)==13
def jj:ay→Nat
 | []=>0
 |c::r=>if kN c ||kE c then jj r+1 else 0
def oE:ay→Nat
 | []=>0
 |c::r=>if kE c then oE r+1 else 0
def lG:ay→Nat
 | []=>0
 |c::r=>if(c.toNat:Int) != 10 then lG r+1 else 0
def isWord (s:ay):Bool:=
 s == [103,108,111,98,97,108] ||s == [112,114,111,99] ||s == [118,97,114] ||s == [114,101,102] ||s == [105,102] ||s == [101,108,115,101] ||s == [119,104,105,108,101] ||s == [98,114,101,97,107] ||s == [99,111,110,116,105,110,117,101] ||s == [114,101,116,117,114,110] ||s == [103,111,116,111] ||s == [114,101,97,100] ||s == [112,114,105,110,116]
def n9 (s:ay):Bool:=s == [61,61] ||s == [33,61] ||s == [60,61] ||s == [62,61] ||s == [38,38] ||s == [124,124]
def Gv (c:UInt8):Bool:=
 (c.toNat:Int)==40 ||(c.toNat:Int)==41 ||(c.toNat:Int)==123 ||(c.toNat:Int)==125 ||(c.toNat:Int)==44 ||(c.toNat:Int)==59 ||(c.toNat:Int)==58 ||(c.toNat:Int)==61 ||
 (c.toNat:Int)==33 ||(c.toNat:Int)==60 ||(c.toNat:Int)==62 ||(c.toNat:Int)==43 ||(c.toNat:Int)==45 ||(c.toNat:Int)==42 ||(c.toNat:Int)==47 ||(c.toNat:Int)==37
def iY:ay→Nat
 | []=>0
 | [c]=>if Gv c then 1 else 0
 |c::d::_=>if n9 [c,d]then 2 else if Gv c then 1 else 0
def oa:Int→ay→Option Int
 |n,[]=>some n
 |n,c::r=>if n > (9223372036854775807 - ((c.toNat:Int) - 48)) / 10 then none else oa (n*10+((c.toNat:Int) - 48)) r
def gL (pos:Nat):ay→aX ⊕ Int
 | []=> .inr 2
 | c::r=>
  if kN c then
   let s:=(c::r).take (jj (c::r))
   if s.length > 8 then .inr 4 else .inl ⟨if isWord s then 3 else 1,s,0,pos⟩
  else if kE c then
   let s:=(c::r).take (oE (c::r))
   if s.length > 1∧(c.toNat:Int)=48 then .inr 2 else
   match oa 0 s with
   |some n=> .inl ⟨2,s,n,pos⟩
   |none=> .inr 4
  else
   if iY (c::r)=0 then .inr 2 else .inl ⟨4,(c::r).take (iY (c::r)),0,pos⟩
def mc:Nat→Nat→ay→List aX→List aX×Int×Int
 | 0,_,_,_=>([],0,0)
 |_+1,pos,[],out=>(out++ [⟨0,[],0,pos⟩],0,0)
 | n+1,pos,c::r,out=>
  if rG c then mc n (pos+1) r out
  else if(c.toNat:Int)==35 then mc n (pos+lG (c::r)) ((c::r).drop (lG (c::r))) out
  else match gL pos (c::r)with
   | .inr e=>([],e,pos)
   | .inl t=>if out.length=2000 then([],4,pos)else mc n (pos+t.text.length) ((c::r).drop t.text.length) (out++ [t])
def oF (text:ay):List aX×Int×Int:=if text.length > 100000 then([],4,0)else mc (text.length+1) 0 text []
def ta:ay→Bool
 | []=>true
 |c::r=>if !(kN c) && !(kE c)then false else ta r
def isName:ay→Bool
 | []=>false
 |c::r=>if decide (((r.length+1:Nat):Int) > 8) || !(kN c)then false else if ta r then !(isWord (c::r))else false
def eI (op:Int):Int:=if op==1 ||op==2 then 0 else if op==3 ||op==4 then 1 else if decide (op≥5) && decide (op≤17)then 2 else -1
mutual
def Ex.form:Ex→Bool
 |⟨op,n,name,kids⟩=>
  if eI op != (kids.length:Int) ||(op != 1 && n != 0) ||decide (n<0) || !((op==2) == !(name == [])) ||(!(name == []) && !(isName name))then false else Ex.oc kids
def Ex.oc:List Ex→Bool
 | []=>true
 |x::l=>if !(Ex.form x)then false else Ex.oc l
end
mutual
def Ex.texts:Ex→Prop
 |⟨_,_,name,kids⟩=>name.length<4611686018427387904∧Ex.xN kids
def Ex.xN:List Ex→Prop
 | []=>True
 |x::l=>x.texts∧Ex.xN l
end
theorem Ex.Gw {x:Ex} : ∀ {l:List Ex},Ex.xN l→x∈l→x.texts
 |y::l,h,m=>by
  rcases List.mem_cons.1 m with rfl|m
  ·exact h.1
  ·exact Ex.Gw h.2 m
theorem Ex.I7 {op n:Int} {name:ay} {kids:List Ex} (h:Ex.texts ⟨op,n,name,kids⟩) {y:Ex} (m:y∈kids):y.texts:=Ex.Gw h.2 m
def Ex.may (x:Ex):Bool:=decide (((min x.depth 21:Nat):Int)≤20) && x.form
def Ex.none (x:Ex):Bool:=x.op==0 && x.n==0 && x.name == [] && (x.kids.length:Int)==0
def dn:List ay→Bool
 | []=>true
 |s::l=>if !(isName s)then false else dn l
def Ar.may (a:Ar):Bool:=if a.ref then isName a.name && a.x.none else a.name == [] && a.x.may
def Ar.e7:List Ar→Bool
 | []=>true
 |a::l=>if !(a.may)then false else Ar.e7 l
def Sm.iZ (s:Sm):Bool:=s.kind==1 ||s.kind==3 ||s.kind==5 ||s.kind==6 ||(s.kind==9 && s.has)
def Sm.hasName (s:Sm):Bool:=s.kind==1 ||s.kind==2 ||s.kind==10
def Sm.kO (s:Sm):Bool:=s.kind==4
def Sm.one (s:Sm):Bool:=
 if decide (s.kind<1) ||decide (s.kind > 10) || !(dn s.labels) ||(s.iZ && !(s.x.may)) ||(!(s.iZ) && !(s.x.none)) ||(s.has && s.kind != 9)then false
 else if(s.hasName && !(isName s.name)) ||(!(s.hasName) && !(s.name == []) && !(s.kO && isName s.name))then false
 else if !(s.kO == !(s.proc == [])) ||(s.kO && !(isName s.proc)) ||(!(s.kO) && decide ((s.args.length:Int) > 0))then false
 else if !(Ar.e7 s.args)then false
 else((s.aS.length:Int)==0 ||s.kind==5 ||s.kind==6) && ((s.aL.length:Int)==0 ||s.kind==5)
structure It where
 s:Sm
 deep:Int
 aN:Int
 aL:Bool
mutual
def iF (deep aN:Int) (aL:Bool) (out:List It):Sm→List It
 |⟨id,kind,labels,name,proc,x,has,args,aS,e⟩=>
  if decide (deep≤12)then dW (deep+1) id true (dW (deep+1) id false (out++ [⟨⟨id,kind,labels,name,proc,x,has,args,aS,e⟩,deep,aN,aL⟩]) aS) e
  else out++ [⟨⟨id,kind,labels,name,proc,x,has,args,aS,e⟩,deep,aN,aL⟩]
def dW (deep aN:Int) (aL:Bool) (out:List It):List Sm→List It
 | []=>out
 |s::l=>if decide ((out.length:Int)≤200)then dW deep aN aL (iF deep aN aL out s) l else out
end
def Pc.flat (f:Pc):List It:=dW 1 0 false [] f.body
def allM (out:List It):List Pc→List It
 | []=>out
 |f::l=>if decide (((out++f.flat).length:Int) > 200)then out++f.flat else allM (out++f.flat) l
def Pg.all (p:Pg):List It:=allM [] p.procs
def Pm.e7:List Pm→Bool
 | []=>true
 |a::l=>if !(isName a.name)then false else Pm.e7 l
def Pc.nI:List Pc→Bool
 | []=>true
 |f::l=>
  if !(isName f.name) ||decide ((f.params.length:Int) > 8) ||decide ((f.vars.length:Int) > 16) || !(dn f.vars) || !(dn f.fin)then false
  else if !(Pm.e7 f.params)then false else Pc.nI l
def It.e7 (n:Nat):List It→Bool
 | []=>true
 |i::l=>if i.s.id != ((n+1:Nat):Int) ||decide (i.deep > 12) || !(i.s.one)then false else It.e7 (n+1) l
def Pg.may (p:Pg):Bool:=
 if decide ((p.globals.length:Int) > 16) ||decide ((p.procs.length:Int) > 16) || !(dn p.globals)then false
 else if !(Pc.nI p.procs)then false
 else if decide ((p.all.length:Int) > 200)then false else It.e7 0 p.all
set_option maxRecDepth 8000
open Go.Proofs
@[go_sem] def cR (r:Rd):List D:= [.slice .shared 4 (r.l.map fi), .int .i64 r.i, .int .i64 r.code, .int .i64 r.sN, .int .i64 r.n]
theorem gl (r:Rd):D.bN 0 0 (cR r)=true:=by simp[cR,D.bN,D.ok,Tag.ok,L3]
theorem ub {r:Rd} {t:aX} (h:r.ic=some t):r.i<4611686018427387904:=(L5 h).1
theorem is_lt {r:Rd} {s:ay} {t:Bool} (h:r.is s=some t):r.i<4611686018427387904:=by
 obtain⟨t,h1,h⟩:=Option.bind_eq_some_iff.1 h
 exact ub h1
-- good
theorem afg (l:List aX) (i c f n:Int):aA Tryz.prog db [.ptr 0 0] ⟨[[.slice .shared 4 (l.map fi), .int .i64 i, .int .i64 c, .int .i64 f, .int .i64 n]],[]⟩ (.bool (c==0)) ⟨[[.slice .shared 4 (l.map fi), .int .i64 i, .int .i64 c, .int .i64 f, .int .i64 n]],[]⟩:=by
 refine aA.go An rfl fun B Q hB hQ=>?_
 have⟨hY,hZ,gA,gB⟩:=bu
 repeat' (first
 |simp only[go_sem,hY,hZ,gA,gB,ow]
 |(with_reducible refine aB hQ ?_;exact aU))
theorem lY {l:List aX} {i c f n:Int} {s:St} {o:Nat} (ho:s.az[o]? = some [.slice .shared 4 (l.map fi), .int .i64 i, .int .i64 c, .int .i64 f, .int .i64 n]):aA Tryz.prog db [.ptr o 0] s (.bool (c==0)) ⟨s.az.set o [.slice .shared 4 (l.map fi), .int .i64 i, .int .i64 c, .int .i64 f, .int .i64 n],s.aD⟩:=
 have hk:D.bN 0 0 [.slice .shared 4 (l.map fi), .int .i64 i, .int .i64 c, .int .i64 f, .int .i64 n] = true:=by simp[D.bN,D.ok,Tag.ok,L3]
 aA.lL (afg l i c f n) rfl hk hk rfl ho
theorem afh {r:Rd} {t:aX} (h:r.ic=some t):aA Tryz.prog dU [.ptr 0 0] ⟨[cR r],[]⟩ (.agg (fi t)) ⟨[cR r],[]⟩:=by
 obtain⟨h2,h,_,_⟩:=L5 h
 refine aA.go Ap rfl fun B Q hB hQ=>?_
 have⟨hY,hZ,gA,gB⟩:=bu
 repeat' (first
 |simp only[go_sem,hY,hZ,gA,gB,ow,h]
 |(with_reducible refine aB hQ ?_;exact aU))
theorem qy {r:Rd} {t:aX} (h:r.ic=some t) {s:St} {o:Nat} (ho:s.az[o]? = some (cR r)):aA Tryz.prog dU [.ptr o 0] s (.agg (fi t)) ⟨s.az.set o (cR r),s.aD⟩:=
 (afh h).lL rfl (gl r) (gl r) (Kx t) ho
theorem atW {r:Rd} {text:ay} {b:Bool} (h:r.is text=some b):aA Tryz.prog ga [.ptr 0 0, .str text] ⟨[cR r],[]⟩ (.bool b) ⟨[cR r],[]⟩:=by
 unfold Rd.is at h
 refine aA.go Ci rfl fun B Q hB hQ=>?_
 have⟨hY,hZ,gA,gB⟩:=bu
 repeat' (first
 |simp only[go_sem,hY,hZ,gA,gB,ow]
 |(rw[Option.bind_eq_some_iff]at h;obtain⟨_,h1,h⟩:=h;first|(with_reducible refine CU (qy h1 (by with_unfolding_all rfl)) ?_))
 |(with_reducible first|refine bq fun hc=>?_|refine br fun hc=>?_|refine bt (fun hc=>?_) fun hc=>?_)<;>(try simp only[hc,bs,↓reduceIte]at h)<;>try simp only[hc]
 |(with_reducible refine aB hQ ?_;(try cases h);simp only[cj,cr,dK,dL,go_sem,hY,hZ,gA,gB,ow];try exact dM))
theorem C9 {r:Rd} {text:ay} {b:Bool} (h:r.is text=some b) {s:St} {o:Nat} (ho:s.az[o]? = some (cR r)):aA Tryz.prog ga [.ptr o 0, .str text] s (.bool b) ⟨s.az.set o (cR r),s.aD⟩:=
 (atW h).lL rfl (gl r) (gl r) rfl ho
theorem aiw {r r':Rd} {c:Int} (h:r.bad c=some r'):aA Tryz.prog fx [.ptr 0 0, .int .i64 c] ⟨[cR r],[]⟩ (.tuple []) ⟨[cR r'],[]⟩:=by
 unfold Rd.bad at h
 refine aA.go Bp rfl fun B Q hB hQ=>?_
 have⟨hY,hZ,gA,gB⟩:=bu
 repeat' (first
 |simp only[go_sem,hY,hZ,gA,gB,ow]
 |(rw[Option.bind_eq_some_iff]at h;obtain⟨_,h1,h⟩:=h;first|(with_reducible refine CU (qy h1 (by with_unfolding_all rfl)) ?_))
 |(with_reducible refine CU (lY (by with_unfolding_all rfl)) ?_)
 |(with_reducible first|refine bq fun hc=>?_|refine br fun hc=>?_|refine bt (fun hc=>?_) fun hc=>?_)<;>(try simp only[hc,bs,↓reduceIte]at h)<;>try simp only[hc]
 |(with_reducible refine aB hQ ?_;(try cases h);simp only[cj,cr,dK,dL,go_sem,hY,hZ,gA,gB,ow];try exact dM))
theorem Gx {r r':Rd} {c:Int} (h:r.bad c=some r') {s:St} {o:Nat} (ho:s.az[o]? = some (cR r)):aA Tryz.prog fx [.ptr o 0, .int .i64 c] s (.tuple []) ⟨s.az.set o (cR r'),s.aD⟩:=
 (aiw h).lL rfl (gl r) (gl r') rfl ho
theorem afi {r:Rd} {text:ay} {p:Bool×Rd} (h:r.take text=some p):aA Tryz.prog dT [.ptr 0 0, .str text] ⟨[cR r],[]⟩ (.bool p.1) ⟨[cR p.2],[]⟩:=by
 unfold Rd.take at h
 refine aA.go Am rfl fun B Q hB hQ=>?_
 have⟨hY,hZ,gA,gB⟩:=bu
 repeat' (first
 |simp only[go_sem,hY,hZ,gA,gB,ow]
 |(rw[Option.bind_eq_some_iff]at h;obtain⟨_,h1,h⟩:=h;first|(with_reducible refine CU (C9 h1 (by with_unfolding_all rfl)) ?_;have hY:=is_lt h1))
 |(with_reducible refine CU (lY (by with_unfolding_all rfl)) ?_)
 |(with_reducible first|refine bq fun hc=>?_|refine br fun hc=>?_|refine bt (fun hc=>?_) fun hc=>?_)<;>(try simp only[hc,bs,↓reduceIte]at h)<;>try simp only[hc]
 |(with_reducible refine aB hQ ?_;(try cases h);simp only[cj,cr,dK,dL,go_sem,hY,hZ,gA,gB,ow];try exact dM))
theorem vl {r:Rd} {text:ay} {p:Bool×Rd} (h:r.take text=some p) {s:St} {o:Nat} (ho:s.az[o]? = some (cR r)):aA Tryz.prog dT [.ptr o 0, .str text] s (.bool p.1) ⟨s.az.set o (cR p.2),s.aD⟩:=
 (afi h).lL rfl (gl r) (gl p.2) rfl ho
theorem afj {r r':Rd} {text:ay} (h:r.want text=some r'):aA Tryz.prog dB [.ptr 0 0, .str text] ⟨[cR r],[]⟩ (.tuple []) ⟨[cR r'],[]⟩:=by
 unfold Rd.want at h
 refine aA.go Ah rfl fun B Q hB hQ=>?_
 have⟨hY,hZ,gA,gB⟩:=bu
 repeat' (first
 |simp only[go_sem,hY,hZ,gA,gB,ow]
 |(rw[Option.bind_eq_some_iff]at h;obtain⟨_,h1,h⟩:=h;first|(with_reducible refine CU (vl h1 (by with_unfolding_all rfl)) ?_))
 |(with_reducible refine CU (Gx h (by with_unfolding_all rfl)) ?_)
 |(with_reducible first|refine bq fun hc=>?_|refine br fun hc=>?_|refine bt (fun hc=>?_) fun hc=>?_)<;>(try simp only[hc,bs,↓reduceIte]at h)<;>try simp only[hc]
 |(with_reducible refine aB hQ ?_;(try cases h);simp only[cj,cr,dK,dL,go_sem,hY,hZ,gA,gB,ow];try exact dM))
theorem rH {r r':Rd} {text:ay} (h:r.want text=some r') {s:St} {o:Nat} (ho:s.az[o]? = some (cR r)):aA Tryz.prog dB [.ptr o 0, .str text] s (.tuple []) ⟨s.az.set o (cR r'),s.aD⟩:=
 (afj h).lL rfl (gl r) (gl r') rfl ho
theorem afk {r:Rd} {room:Bool} {p:ay×Rd} (h:r.name room=some p):aA Tryz.prog fl [.ptr 0 0, .bool room] ⟨[cR r],[]⟩ (.str p.1) ⟨[cR p.2],[]⟩:=by
 unfold Rd.name at h
 refine aA.go Ag rfl fun B Q hB hQ=>?_
 have⟨hY,hZ,gA,gB⟩:=bu
 repeat' (first
 |simp only[go_sem,hY,hZ,gA,gB,ow]
 |(rw[Option.bind_eq_some_iff]at h;obtain⟨_,h1,h⟩:=h;first|(with_reducible refine CU (qy h1 (by with_unfolding_all rfl)) ?_;have hY:=ub h1)|(with_reducible refine CU (Gx h1 (by with_unfolding_all rfl)) ?_))
 |(with_reducible refine CU (lY (by with_unfolding_all rfl)) ?_)
 |(with_reducible first|refine bq fun hc=>?_|refine br fun hc=>?_|refine bt (fun hc=>?_) fun hc=>?_)<;>(try simp only[hc,bs,↓reduceIte]at h)<;>try simp only[hc]
 |(with_reducible refine aB hQ ?_;(try cases h);simp only[cj,cr,dK,dL,go_sem,hY,hZ,gA,gB,ow];try exact dM))
theorem As {r:Rd} {room:Bool} {p:ay×Rd} (h:r.name room=some p) {s:St} {o:Nat} (ho:s.az[o]? = some (cR r)):aA Tryz.prog fl [.ptr o 0, .bool room] s (.str p.1) ⟨s.az.set o (cR p.2),s.aD⟩:=
 (afk h).lL rfl (gl r) (gl p.2) rfl ho
set_option maxRecDepth 8000
open Go.Proofs
theorem jk (c:UInt8) (s:St):aA Tryz.prog qt [.int .u8 (c.toNat:Int)] s (.bool (kN c)) s:=by
 refine aA.pure ?_ rfl rfl s
 generalize h:kN c=b
 unfold kN at h
 unfold S0
 refine aA.go HZ rfl fun B Q hB hQ=>?_
 have⟨hY,hZ,gA,gB⟩:=bu
 repeat' (first
 |simp only[go_sem,hY,hZ,gA,gB]
 |(with_reducible first|refine bq fun hc=>?_|refine br fun hc=>?_|refine bt (fun hc=>?_) fun hc=>?_)<;>(try simp only[hc,bs,↓reduceIte]at h)<;>try simp only[hc]
 |(with_reducible refine aB hQ ?_;exact eo))
theorem kW (c:UInt8) (s:St):aA Tryz.prog rB [.int .u8 (c.toNat:Int)] s (.bool (kE c)) s:=by
 refine aA.pure ?_ rfl rfl s
 generalize h:kE c=b
 unfold kE at h
 unfold S0
 refine aA.go Kj rfl fun B Q hB hQ=>?_
 have⟨hY,hZ,gA,gB⟩:=bu
 repeat' (first
 |simp only[go_sem,hY,hZ,gA,gB]
 |(with_reducible first|refine bq fun hc=>?_|refine br fun hc=>?_|refine bt (fun hc=>?_) fun hc=>?_)<;>(try simp only[hc,bs,↓reduceIte]at h)<;>try simp only[hc]
 |(with_reducible refine aB hQ ?_;exact eo))
theorem xO (t:ay) (s:St):aA Tryz.prog wH [.str t] s (.bool (isWord t)) s:=by
 refine aA.pure ?_ rfl rfl s
 generalize h:isWord t=b
 unfold isWord at h
 unfold S0
 refine aA.go Ma rfl fun B Q hB hQ=>?_
 have⟨hY,hZ,gA,gB⟩:=bu
 repeat' (first
 |simp only[go_sem,hY,hZ,gA,gB]
 |(with_reducible first|refine bq fun hc=>?_|refine br fun hc=>?_|refine bt (fun hc=>?_) fun hc=>?_)<;>(try simp only[hc,bs,↓reduceIte]at h)<;>try simp only[hc]
 |(with_reducible refine aB hQ ?_;exact eo))
theorem aaF {text:ay} {pos:Nat} (hl:text.length<4611686018427387904) (s:St):aA Tryz.prog yx [.str text, .int .i64 (pos:Int)] s (.int .i64 ((pos+jj (text.drop pos):Nat):Int)) s:=by
 refine aA.pure ?_ rfl rfl s
 unfold S0
 refine aA.go Ou rfl fun B Q hB hQ=>?_
 have⟨hY,hZ,gA,gB⟩:=bu
 repeat' (first
 |simp only[go_sem,hY,hZ,gA,gB]
 |(with_reducible refine aB hQ ?_;exact aU))
 refine cq 0 0 (bn.ind (ι:=ay×Nat) (fun i=>text.drop i.2=i.1∧i.2+jj i.1=pos+jj (text.drop pos)) (fun i=>i.1.length)
  (fun i=> [(0, .str text),(1, .int .i64 (i.2:Int))]) (fun i=>⟨[],[]⟩) ?_ (text.drop pos,pos) ⟨rfl,rfl⟩)
 rintro⟨rest,k⟩ ⟨h1,h2⟩ IH
 dsimp only at h1 h2
 cases rest with
 |nil=>
  have hY:=drop_nil h1
  simp only[jj,Nat.add_zero]at h2
  rw[← h2]at hQ
  repeat' (first
 |simp only[go_sem,hY,hZ,gA,gB]
 |(with_reducible refine aB hQ ?_;exact aU))
 | cons c rest=>
  obtain⟨hZ,g2,hY,g4⟩:=drop_cons h1
  have gA:k<4611686018427387904:=by omega
  cases hb:(kN c ||kE c)
  ·simp only [jj,hb,Bool.false_eq_true, ↓reduceIte,Nat.add_zero]at h2
   rw[← h2]at hQ
   simp only[Bool.or_eq_false_iff]at hb
   repeat' (first
 |simp only[go_sem,hY,hZ,gA,gB,hb.1,hb.2]
 |(with_reducible refine CU (jk _ _) ?_)
 |(with_reducible refine CU (kW _ _) ?_)
 | (with_reducible refine aB hQ ?_;exact aU))
  ·simp only [jj,hb, ↓reduceIte]at h2
   cases IW:kN c
   ·rw [IW,Bool.false_or]at hb
    repeat' (first
 |simp only[go_sem,hY,hZ,gA,gB,hb,IW]
 |(with_reducible refine CU (jk _ _) ?_)
 |(with_reducible refine CU (kW _ _) ?_)
 | (with_reducible refine aB hQ ?_;exact aU))
    refine cq 0 0 (IH (rest,k+1) ⟨g2,by dsimp only;omega⟩ (Nat.lt_succ_self _))
   ·repeat' (first
 |simp only[go_sem,hY,hZ,gA,gB,IW]
 |(with_reducible refine CU (jk _ _) ?_)
 |(with_reducible refine CU (kW _ _) ?_)
 | (with_reducible refine aB hQ ?_;exact aU))
    refine cq 0 0 (IH (rest,k+1) ⟨g2,by dsimp only;omega⟩ (Nat.lt_succ_self _))
theorem Bq (text:ay) (a b:Nat):(text.take (a+b)).drop a=(text.drop a).take b:=by rw[List.drop_take];congr 1;omega
set_option maxRecDepth 20000 in
theorem afl {text : ay} {pos : Nat} {c : UInt8} {r : ay} (hd : text.drop pos = c :: r) (hl : text.length < 4611686018427387904) (s : St) :
   aA Tryz.prog Bi [.str text, .int .i64 (pos : Int)] s (.int .i64 ((iY (c :: r) : Nat) : Int)) s := by
 refine aA.pure ?_ rfl rfl s
 obtain ⟨hZ, g2, g3, g4⟩ := drop_cons hd
 have gA : pos < 4611686018427387904 := by omega
 have gB : 0 < 1 := Nat.zero_lt_one
 generalize h : iY (c :: r) = k
 unfold S0
 cases r with
 | nil =>
   have hY : decide (((pos + 1 : Nat) : Int) < (text.length : Int)) = false := drop_nil g2
   simp only[iY, Gv]at h
   refine aA.go C8 rfl fun B Q hB hQ =>?_
   repeat' (first
 |simp only[go_sem, hY, hZ, gA, gB]
 |(with_reducible first|refine bq fun hc =>?_|refine br fun hc =>?_|refine bt (fun hc =>?_) fun hc =>?_)<;>(try simp only[hc, bs,↓reduceIte]at h)<;>try simp only[hc]
 |(with_reducible refine aB hQ ?_; exact eo)
 |(cases h; done))
 | cons d r =>
   obtain ⟨_, _, hY, _⟩ := drop_cons g2
   have e1 : (text.take (pos + 2)).drop pos = [c, d] := by rw[Bq, hd]; rfl
   have e2 : (0 : Int) ≤ (pos : Int) ∧ (pos : Int) ≤ ((pos + 2 : Nat) : Int) ∧ ((pos + 2 : Nat) : Int) ≤ (text.length : Int) := by omega
   simp only[iY, Gv, n9]at h
   refine aA.go C8 rfl fun B Q hB hQ =>?_
   repeat' (first
 |simp only[go_sem, hY, hZ, gA, gB, e1, e2]
 |(with_reducible first|refine bq fun hc =>?_|refine br fun hc =>?_|refine bt (fun hc =>?_) fun hc =>?_)<;>(try simp only[hc, bs,↓reduceIte]at h)<;>try simp only[hc]
 |(with_reducible refine aB hQ ?_; (try cases h); simp only[cj, cr, dK, dL, go_sem, hY, hZ, gA, gB, e1, e2]; try exact dM)
 |(cases h; done))
theorem UB {c:UInt8} (h:kE c=true):48≤(c.toNat:Int)∧(c.toNat:Int)≤57:=by
 simp only[kE,Bool.and_eq_true,decide_eq_true_eq]at h
 omega
def qz (s:ay):Int×Bool:=match oa 0 s with|some n=>(n,true)|none=>(0,false)
theorem XZ {text:ay} (hd : ∀ c∈text,kE c=true) (hl:text.length<4611686018427387904) (s:St) :
 aA Tryz.prog xA [.str text] s (.tuple [.int .i64 (qz text).1, .bool (qz text).2]) s:=by
 refine aA.pure ?_ rfl rfl s
 generalize hw:qz text=p
 unfold S0
 refine aA.go Ia rfl fun B Q hB hQ=>?_
 have⟨hY,hZ,gA,gB⟩:=bu
 repeat' (first
 |simp only[go_sem,hY,hZ,gA,gB]
 |(with_reducible first|refine bq fun hc=>?_|refine br fun hc=>?_|refine bt (fun hc=>?_) fun hc=>?_)<;>(try simp only[hc,bs,↓reduceIte]at h)<;>try simp only[hc]
 |(with_reducible refine aB hQ ?_;exact eo)
 |(cases h;done))
 refine cq 0 0 (bn.ind (ι:=ay×Nat×Int) (fun i=>text.drop i.2.1=i.1∧0≤i.2.2∧i.2.2≤9223372036854775807∧(match oa i.2.2 i.1 with|some n=>(n,true)|none=>(0,false))=p) (fun i=>i.1.length)
  (fun i=> [(0, .str text),(4, .int .i64 i.2.2),(5, .int .i64 (i.2.1:Int))]) (fun i=>⟨[],[]⟩) ?_ (text,0,0) ⟨rfl,Int.le_refl 0,by dsimp only;omega,hw⟩)
 rintro⟨rest,k,n⟩ ⟨h1,h2,h3,h⟩ IH
 dsimp only at h1 h2 h3 h
 cases rest with
 |nil=>
  have hY:=drop_nil h1
  simp only[oa]at h
  repeat' (first
 |simp only[go_sem,hY,hZ,gA,gB]
 |(with_reducible first|refine bq fun hc=>?_|refine br fun hc=>?_|refine bt (fun hc=>?_) fun hc=>?_)<;>(try simp only[hc,bs,↓reduceIte]at h)<;>try simp only[hc]
 |(with_reducible refine aB hQ ?_;exact eo)
 |(cases h;done))
 | cons c rest=>
  obtain⟨hZ,g2,hY,g4⟩:=drop_cons h1
  have gA:k<4611686018427387904:=by omega
  have hc:=UB (hd c (List.mem_of_getElem? hZ))
  have w1:IntKind.wrap .u8 ((c.toNat:Int) - 48)=(c.toNat:Int) - 48:=by rw[IntKind.wrap_u8];omega
  have w2:IntKind.wrap .i64 ((c.toNat:Int) - 48)=(c.toNat:Int) - 48:=bC (by omega) (by omega)
  have w3:IntKind.wrap .i64 (9223372036854775807 - ((c.toNat:Int) - 48))=9223372036854775807 - ((c.toNat:Int) - 48):=bC (by omega) (by omega)
  have w4:IntKind.wrap .i64 ((9223372036854775807 - ((c.toNat:Int) - 48)).tdiv 10)=(9223372036854775807 - ((c.toNat:Int) - 48)) / 10:=by
   rw[Int.tdiv_eq_ediv_of_nonneg (by omega)];exact bC (by omega) (by omega)
  have t10:((10:Int)=0)=False:=by simp
  simp only[oa]at h
  by_cases hn:n > (9223372036854775807 - ((c.toNat:Int) - 48)) / 10
  ·have jW:decide (n > (9223372036854775807 - ((c.toNat:Int) - 48)) / 10)=true:=by simpa using hn
   rw[if_pos hn]at h
   repeat' (first
 |simp only[go_sem,hY,hZ,gA,gB,w1,w2,w3,w4,t10,jW]
 |(with_reducible first|refine bq fun hc=>?_|refine br fun hc=>?_|refine bt (fun hc=>?_) fun hc=>?_)<;>(try simp only[hc,bs,↓reduceIte]at h)<;>try simp only[hc]
 |(with_reducible refine aB hQ ?_;(try cases h);simp only[cj,cr,dK,dL,go_sem,hY,hZ,gA,gB,w1,w2,w3,w4,t10,jW];try exact dM)
 | (cases h;done))
  ·have jW:decide (n > (9223372036854775807 - ((c.toNat:Int) - 48)) / 10)=false:=by simpa using hn
   rw[if_neg hn]at h
   have w5:IntKind.wrap .i64 (n*10)=n*10:=bC (by omega) (by omega)
   have w6:IntKind.wrap .i64 (n*10+((c.toNat:Int) - 48))=n*10+((c.toNat:Int) - 48):=bC (by omega) (by omega)
   repeat' (first
 |simp only[go_sem,hY,hZ,gA,gB,w1,w2,w3,w4,t10,jW,w5,w6]
 |(with_reducible first|refine bq fun hc=>?_|refine br fun hc=>?_|refine bt (fun hc=>?_) fun hc=>?_)<;>(try simp only[hc,bs,↓reduceIte]at h)<;>try simp only[hc]
 |(with_reducible refine aB hQ ?_;(try cases h);simp only[cj,cr,dK,dL,go_sem,hY,hZ,gA,gB,w1,w2,w3,w4,t10,jW,w5,w6];try exact dM)
 | (cases h;done))
   refine cq 0 0 (IH (rest,k+1,n*10+((c.toNat:Int) - 48)) ⟨g2,by dsimp only;omega,by dsimp only;omega,h⟩ (Nat.lt_succ_self _))
set_option maxRecDepth 8000
open Go.Proofs
theorem X0 {c:UInt8} {r:ay} (h:kN c=true):0<jj (c::r):=by simp[jj,h]
theorem Mi : ∀ s:ay,jj s≤s.length
 | []=>Nat.le_refl _
 |c::r=>by simp only[jj];split<;>simp only[List.length_cons]<;>have:=Mi r<;>omega
theorem Mj : ∀ s:ay,oE s≤s.length
 | []=>Nat.le_refl _
 |c::r=>by simp only[oE];split<;>simp only[List.length_cons]<;>have:=Mj r<;>omega
theorem I8 : ∀ s:ay,lG s≤s.length
 | []=>Nat.le_refl _
 |c::r=>by simp only[lG];split<;>simp only[List.length_cons]<;>have:=I8 r<;>omega
theorem UC : ∀ s:ay,iY s≤s.length
 | []=>Nat.le_refl _
 | [c]=>by simp only[iY];split<;>simp
 |c::d::r=>by simp only[iY];(repeat' split)<;>simp
theorem Mk : ∀ (s:ay),∀ c∈s.take (oE s),kE c=true
 | [],c,h=>by simp[oE]at h
 | d::r,c,h=>by
  simp only[oE]at h
  split at h
  ·rw [List.take_succ_cons]at h
   rcases List.mem_cons.1 h with rfl|h
   ·assumption
   ·exact Mk r c h
  ·simp at h
def n4 (f:Int×Int):List D:= [.int .i64 f.1, .int .i64 f.2]
def p8 (text:ay) (out:List aX) (pos:Nat):Tm:= [(0, .str text),(3, .ptr 0 0),(4, .slice (.tok 0) 4 (out.map fi)),(5, .ptr 1 0),(6, .int .i64 (pos:Int))]
def qQ (out:List aX):St:=⟨[[.int .i64 0, .int .i64 0],[.junk, .junk, .junk, .junk]],[some out.length]⟩
theorem UD {c:UInt8} {r:ay} (h:((c.toNat:Int)==35)=true):0<lG (c::r):=by
 have:((c.toNat:Int) != 10)=true:=by simp only[beq_iff_eq]at h;simp[h]
 simp[lG,this]
def uN (text:ay) (B:fZ) (Q:Exit→Tm→St→Prop) (p:List aX×Int×Int) (N:Nat):Prop:=
 ∀ (n pos:Nat) (rest:ay) (out:List aX),text.drop pos=rest→mc n pos rest out=p→rest.length<n→out.length≤2000→pos≤text.length→n<N→
  pP Tryz.prog B 152 xL (.seq .skip C4) Q (p8 text out pos) (qQ out)
theorem uN.to {text:ay} {B:fZ} {Q:Exit→Tm→St→Prop} {p:List aX×Int×Int} {N:Nat} (hB:B.s=S0) (IH:uN text B Q p N) {n pos:Nat} {rest:ay} {out:List aX} {tm:Tm} {s:St}
 (h1:text.drop pos=rest) (h:mc n pos rest out=p) (h2:rest.length<n) (h3:out.length≤2000) (h4:pos≤text.length) (h5:n<N)
 (ht:wg tm 2 1 (p8 text out pos)) (ho:jw (s.cut 2 1).az (qQ out).az) (hk:(s.cut 2 1).aD=(qQ out).aD) :
 ld Tryz.prog B 152 xL Q (.goto 0) tm s:=by
 refine W7 (l:=0) (r:= .seq .skip C4) rfl (pP.re _ _ 2 1 (by rw[hB];exact n7 rfl) (by rw[hB];exact n7 rfl) ht ho ?_)
 have:=IH n pos rest out h1 h h2 h3 h4 h5
 rw[hk]
 exact this
attribute [go_sem] p8 qQ n4
theorem lex_nil {text:ay} (hl:text.length≤100000) {B:fZ} {Q:Exit→Tm→St→Prop} {p:List aX×Int×Int} (hB:B.s=S0)
 (hQ:jO 0 0 [(2,none),(3,some (true,2))] (.tuple [.slice .shared 4 (p.1.map fi), .agg (n4 p.2)]) ⟨[],[]⟩=Q)
 {n pos:Nat} {out:List aX} (ho:out.length≤2000) (hp:pos≤text.length) (IH:uN text B Q p (n+1))
 (h1:text.drop pos = []) (h:mc (n+1) pos [] out=p):gS Tryz.prog B 152 C4 (ld Tryz.prog B 152 xL Q) (p8 text out pos) (qQ out):=by
 have⟨hY,hZ,gA,gB⟩:=bu
 have gC:(out.length+1)*41≤aF:=by simp only[aF];omega
 have fm:decide ((pos:Int)≥(text.length:Int))=true:=by have:=List.drop_eq_nil_iff.1 h1;simp;omega
 have:pos=text.length:=by have:=List.drop_eq_nil_iff.1 h1;omega
 subst this
 simp only[mc]at h
 repeat' (first
 |simp only[go_sem,hY,hZ,gA,gB,fm,gC]
 |(with_reducible first|refine bq fun hc=>?_|refine br fun hc=>?_|refine bt (fun hc=>?_) fun hc=>?_)<;>(try simp only[hc,bs,↓reduceIte]at h)<;>try simp only[hc]
 |(with_reducible refine aB hQ ?_;(try cases h);simp only[cj,cr,dK,dL,go_sem,hY,hZ,gA,gB,fm,gC];try exact dM))
theorem UE {text:ay} (hl:text.length≤100000) {B:fZ} {Q:Exit→Tm→St→Prop} {p:List aX×Int×Int} (hB:B.s=S0)
 (hQ:jO 0 0 [(2,none),(3,some (true,2))] (.tuple [.slice .shared 4 (p.1.map fi), .agg (n4 p.2)]) ⟨[],[]⟩=Q)
 {n pos:Nat} {out:List aX} (ho:out.length≤2000) (hp:pos≤text.length) (IH:uN text B Q p (n+1))
 {c:UInt8} {r:ay} (h1:text.drop pos=c::r) (hb:rG c=true) (hn:(c::r).length<n+1) (h:mc (n+1) pos (c::r) out=p) :
 gS Tryz.prog B 152 C4 (ld Tryz.prog B 152 xL Q) (p8 text out pos) (qQ out):=by
 have gA:0<1:=Nat.zero_lt_one
 have gB:0<1:=Nat.zero_lt_one
 obtain⟨hZ,g2,g3,g4⟩:=drop_cons h1
 have hY:pos<4611686018427387904:=by omega
 have fm:decide ((pos:Int)≥(text.length:Int))=false:=by simp;omega
 simp only[mc,hb,↓reduceIte]at h
 have jW:r.length<n:=by simp only[List.length_cons]at hn;omega
 have e : ∀ x y:Int,(x==y)=false→(x==y)=true→False:=fun x y a b=>by rw[a]at b;cases b
 simp only[rG]at hb
 repeat' (first
 |simp only[go_sem,hY,hZ,gA,gB,fm]
 |(refine IH.to hB g2 h jW ho g4 (Nat.lt_succ_self _) ?_ ?_ ?_<;>((try simp only[go_sem,hY,hZ,gA,gB]);repeat' (first|exact Ok.out|with_reducible refine kM ?_ ?_|omega|(simp;done)));done)
 |(with_reducible first|refine bq fun hc=>?_|refine br fun hc=>?_|refine bt (fun hc=>?_) fun hc=>?_)<;>(try simp only[hc,bs,↓reduceIte]at h)<;>try simp only[hc]
 |(with_reducible refine aB hQ ?_;simp only[cj,cr,dK,dL,go_sem,hY,hZ,gA,gB];repeat' (first|exact Ok.out|with_reducible refine kM ?_ ?_|(simp;done))))
 all_goals (exfalso;simp_all;done)
theorem Se {text:ay} (hl:text.length≤100000) {B:fZ} {Q:Exit→Tm→St→Prop} {p:List aX×Int×Int} (hB:B.s=S0)
 (hQ:jO 0 0 [(2,none),(3,some (true,2))] (.tuple [.slice .shared 4 (p.1.map fi), .agg (n4 p.2)]) ⟨[],[]⟩=Q)
 {n pos:Nat} {out:List aX} (ho:out.length≤2000) (hp:pos≤text.length) (IH:uN text B Q p (n+1))
 {c:UInt8} {r:ay} (h1:text.drop pos=c::r) (hb:rG c=false) (hc:((c.toNat:Int)==35)=true) (hn:(c::r).length<n+1) (h:mc (n+1) pos (c::r) out=p) :
 gS Tryz.prog B 152 C4 (ld Tryz.prog B 152 xL Q) (p8 text out pos) (qQ out):=by
 have gA:0<1:=Nat.zero_lt_one
 have gB:0<1:=Nat.zero_lt_one
 have aix:=(drop_cons h1).1
 have hZ:=aix
 have g4:=(drop_cons h1).2.2.2
 have hY:pos<4611686018427387904:=by omega
 have fm:decide ((pos:Int)≥(text.length:Int))=false:=by simp;omega
 simp only[mc,hb,Bool.false_eq_true,↓reduceIte,hc]at h
 simp only[rG,Bool.or_eq_false_iff]at hb
 have hk:=UD (r:=r) hc
 have cd:=I8 (c::r)
 have vn:(c::r).length=text.length - pos:=by rw[← h1,List.length_drop]
 generalize hL:lG (c::r)=L at h hk cd
 repeat' (first
 |simp only[go_sem,hY,hZ,gA,gB,fm,hb.1.1.1,hb.1.1.2,hb.1.2,hb.2,hc]
 |(with_reducible refine cG (l:=1) (by with_unfolding_all rfl) ?_)
 |(with_reducible refine aB hQ ?_;exact aU))
 refine cq 2 1 (bn.ind (ι:=ay×Nat) (fun i=>text.drop i.2=i.1∧i.2+lG i.1=pos+L) (fun i=>i.1.length)
  (fun i=>p8 text out i.2) (fun i=>qQ out) ?_ (c::r,pos) ⟨h1,by dsimp only;omega⟩)
 rintro⟨rest,k⟩ ⟨j1,j2⟩ IHl
 dsimp only at j1 j2
 have fin:text.drop (pos+L)=(c::r).drop L:=by rw[← h1,List.drop_drop]
 have hlen:((c::r).drop L).length<n:=by rw[List.length_drop];omega
 cases rest with
 |nil=>
  have fm:=drop_nil j1
  simp only[lG,Nat.add_zero]at j2
  subst j2
  repeat' (first
 |simp only[go_sem,hY,hZ,gA,gB,fm]
 |(refine IH.to hB fin h hlen ho (by omega) (Nat.lt_succ_self _) ?_ ?_ ?_<;>((try simp only[go_sem,hY,hZ,gA,gB]);repeat' (first|exact Ok.out|with_reducible refine kM ?_ ?_|omega|(simp;done)));done)
 |(with_reducible refine aB hQ ?_;exact aU))
 | cons d rest=>
  obtain⟨hZ,g2,fm,g5⟩:=drop_cons j1
  have hY:k<4611686018427387904:=by omega
  cases hd:((d.toNat:Int) != 10)
  ·simp only [lG,hd,Bool.false_eq_true, ↓reduceIte,Nat.add_zero]at j2
   subst j2
   repeat' (first
 |simp only[go_sem,hY,hZ,gA,gB,fm,hd]
 |(refine IH.to hB fin h hlen ho (by omega) (Nat.lt_succ_self _) ?_ ?_ ?_<;>((try simp only[go_sem,hY,hZ,gA,gB]);repeat' (first|exact Ok.out|with_reducible refine kM ?_ ?_|omega|(simp;done)));done)
 | (with_reducible refine aB hQ ?_;exact aU))
  ·simp only [lG,hd, ↓reduceIte]at j2
   repeat' (first
 |simp only[go_sem,hY,hZ,gA,gB,fm,hd]
 | (with_reducible refine aB hQ ?_;exact aU))
   refine cq 2 1 (IHl (rest,k+1) ⟨g2,by dsimp only;omega⟩ (Nat.lt_succ_self _))
theorem X1 {text:ay} (hl:text.length≤100000) {B:fZ} {Q:Exit→Tm→St→Prop} {p:List aX×Int×Int} (hB:B.s=S0)
 (hQ:jO 0 0 [(2,none),(3,some (true,2))] (.tuple [.slice .shared 4 (p.1.map fi), .agg (n4 p.2)]) ⟨[],[]⟩=Q)
 {n pos:Nat} {out:List aX} (ho:out.length≤2000) (hp:pos≤text.length) (IH:uN text B Q p (n+1))
 {c:UInt8} {r:ay} (h1:text.drop pos=c::r) (hb:rG c=false) (hc:((c.toNat:Int)==35)=false) (hL:kN c=false) (hD:kE c=false) (hn:(c::r).length<n+1) (h:mc (n+1) pos (c::r) out=p) :
 gS Tryz.prog B 152 C4 (ld Tryz.prog B 152 xL Q) (p8 text out pos) (qQ out):=by
 have gA:0<1:=Nat.zero_lt_one
 have gB:0<1:=Nat.zero_lt_one
 have hZ:=(drop_cons h1).1
 have g4:=(drop_cons h1).2.2.2
 have hY:pos<4611686018427387904:=by omega
 have fm:decide ((pos:Int)≥(text.length:Int))=false:=by simp;omega
 have gC:(out.length+1)*41≤aF:=by simp only[aF];omega
 have KP:=fun s=>afl h1 (by omega) s
 have cd:=UC (c::r)
 have vn:(c::r).length=text.length - pos:=by rw[← h1,List.length_drop]
 simp only[mc,hb,Bool.false_eq_true,↓reduceIte,hc,gL,hL,hD]at h
 simp only[rG,Bool.or_eq_false_iff]at hb
 generalize hK:iY (c::r)=k at h KP cd
 have e1:IntKind.wrap .i64 ((pos:Int)+(k:Int))=((pos+k:Nat):Int):=by rw[bC]<;>omega
 have e2:(0:Int)≤(pos:Int)∧(pos:Int)≤((pos+k:Nat):Int)∧((pos+k:Nat):Int)≤(text.length:Int):=by omega
 have e3:(text.take (pos+k)).drop pos=(c::r).take k:=by rw[Bq,h1]
 by_cases hz:k=0
 ·have pF:decide (((pos+k:Nat):Int) > (pos:Int))=false:=by simp;omega
  simp only[hz,↓reduceIte]at h
  repeat' (first
 |simp only[go_sem,hY,hZ,gA,gB,fm,hb.1.1.1,hb.1.1.2,hb.1.2,hb.2,hc,hL,hD,e1,e2,e3,pF]
 |(with_reducible refine CU (jk _ _) ?_)
 |(with_reducible refine CU (kW _ _) ?_)
 |(with_reducible refine CU (KP _) ?_)
 |(with_reducible refine cG (l:=4) (by with_unfolding_all rfl) ?_)
 |(with_reducible refine cG (l:=5) (by with_unfolding_all rfl) ?_)
 |(with_reducible first|refine bq fun hc=>?_|refine br fun hc=>?_|refine bt (fun hc=>?_) fun hc=>?_)<;>(try simp only[hc,bs,↓reduceIte]at h)<;>try simp only[hc]
 |(with_reducible refine aB hQ ?_;(try cases h);simp only[cj,cr,dK,dL,go_sem,hY,hZ,gA,gB,fm,hb.1.1.1,hb.1.1.2,hb.1.2,hb.2,hc,hL,hD,e1,e2,e3,pF];try exact dM))
 ·have pF:decide (((pos+k:Nat):Int) > (pos:Int))=true:=by simp;omega
  have hlen:((c::r).take k).length=k:=by rw[List.length_take];omega
  have fin:text.drop (pos+k)=(c::r).drop k:=by rw[← h1,List.drop_drop]
  have wK:((c::r).drop k).length<n:=by rw[List.length_drop];omega
  simp only[hz,↓reduceIte,hlen]at h
  by_cases tG:out.length=2000
  ·have lD:((out.length:Int)==2000)=true:=by simp [tG]
   simp only[tG,↓reduceIte]at h
   repeat' (first
 |simp only[go_sem,hY,hZ,gA,gB,fm,hb.1.1.1,hb.1.1.2,hb.1.2,hb.2,hc,hL,hD,e1,e2,e3,pF,lD]
 |(with_reducible refine CU (jk _ _) ?_)
 |(with_reducible refine CU (kW _ _) ?_)
 |(with_reducible refine CU (KP _) ?_)
 |(with_reducible refine cG (l:=4) (by with_unfolding_all rfl) ?_)
 |(with_reducible refine cG (l:=5) (by with_unfolding_all rfl) ?_)
 |(with_reducible first|refine bq fun hc=>?_|refine br fun hc=>?_|refine bt (fun hc=>?_) fun hc=>?_)<;>(try simp only[hc,bs,↓reduceIte]at h)<;>try simp only[hc]
 | (with_reducible refine aB hQ ?_;(try cases h);simp only [cj,cr,dK,dL,go_sem,hY,hZ,gA,gB,fm,hb.1.1.1,hb.1.1.2,hb.1.2,hb.2,hc,hL,hD,e1,e2,e3,pF,lD];try exact dM))
  ·have lD:((out.length:Int)==2000)=false:=by simp;omega
   have EC : ∀ t:aX,(out++ [t]).length≤2000:=by intro t;simp;omega
   simp only[tG,↓reduceIte]at h
   repeat' (first
 |simp only[go_sem,hY,hZ,gA,gB,fm,hb.1.1.1,hb.1.1.2,hb.1.2,hb.2,hc,hL,hD,e1,e2,e3,pF,lD,gC]
 |(with_reducible refine CU (jk _ _) ?_)
 |(with_reducible refine CU (kW _ _) ?_)
 |(with_reducible refine CU (KP _) ?_)
 |(with_reducible refine cG (l:=4) (by with_unfolding_all rfl) ?_)
 |(with_reducible refine cG (l:=5) (by with_unfolding_all rfl) ?_)
 |(refine IH.to hB fin h wK (EC _) (by omega) (Nat.lt_succ_self _) ?_ ?_ ?_<;>((try simp only[go_sem,hY,hZ,gA,gB]);repeat' (first|exact Ok.out|with_reducible refine kM ?_ ?_|omega|(simp;done)));done)
 |(with_reducible refine aB hQ ?_;exact aU))
theorem X2 {text:ay} (hl:text.length≤100000) {B:fZ} {Q:Exit→Tm→St→Prop} {p:List aX×Int×Int} (hB:B.s=S0)
 (hQ:jO 0 0 [(2,none),(3,some (true,2))] (.tuple [.slice .shared 4 (p.1.map fi), .agg (n4 p.2)]) ⟨[],[]⟩=Q)
 {n pos:Nat} {out:List aX} (ho:out.length≤2000) (hp:pos≤text.length) (IH:uN text B Q p (n+1))
 {c:UInt8} {r:ay} (h1:text.drop pos=c::r) (hb:rG c=false) (hc:((c.toNat:Int)==35)=false) (hL:kN c=true) (hn:(c::r).length<n+1) (h:mc (n+1) pos (c::r) out=p) :
 gS Tryz.prog B 152 C4 (ld Tryz.prog B 152 xL Q) (p8 text out pos) (qQ out):=by
 have gA:0<1:=Nat.zero_lt_one
 have gB:0<1:=Nat.zero_lt_one
 have hZ:=(drop_cons h1).1
 have g4:=(drop_cons h1).2.2.2
 have hY:pos<4611686018427387904:=by omega
 have fm:decide ((pos:Int)≥(text.length:Int))=false:=by simp;omega
 have gC:(out.length+1)*41≤aF:=by simp only[aF];omega
 have dt:=fun s=>aaF (text:=text) (pos:=pos) (by omega) s
 rw[h1]at dt
 have cd:=Mi (c::r)
 have xd:=X0 (r:=r) hL
 have vn:(c::r).length=text.length - pos:=by rw[← h1,List.length_drop]
 simp only[mc,hb,Bool.false_eq_true,↓reduceIte,hc,gL,hL]at h
 simp only[rG,Bool.or_eq_false_iff]at hb
 generalize hK:jj (c::r)=k at h dt cd xd
 have hlen:((c::r).take k).length=k:=by rw[List.length_take];omega
 simp only[hlen]at h
 have e1:IntKind.wrap .i64 (((pos+k:Nat):Int) - (pos:Int))=(k:Int):=by rw[bC]<;>omega
 have e2:(0:Int)≤(pos:Int)∧(pos:Int)≤((pos+k:Nat):Int)∧((pos+k:Nat):Int)≤(text.length:Int):=by omega
 have e3:(text.take (pos+k)).drop pos=(c::r).take k:=by rw[Bq,h1]
 by_cases hz:k > 8
 ·have pF:decide ((k:Int) > 8)=true:=by simp;omega
  simp only[hz,↓reduceIte]at h
  cases hw:isWord ((c::r).take k)
  ·repeat' (first
 |simp only[go_sem,hY,hZ,gA,gB,fm,hb.1.1.1,hb.1.1.2,hb.1.2,hb.2,hc,hL,e1,e2,e3,pF,hw]
 |(with_reducible refine CU (jk _ _) ?_)
 |(with_reducible refine CU (dt _) ?_)
 |(with_reducible refine CU (xO _ _) ?_)
 |(with_reducible refine cG (l:=2) (by with_unfolding_all rfl) ?_)
 |(with_reducible refine cG (l:=4) (by with_unfolding_all rfl) ?_)
 |(with_reducible refine cG (l:=5) (by with_unfolding_all rfl) ?_)
 |(with_reducible first|refine bq fun hc=>?_|refine br fun hc=>?_|refine bt (fun hc=>?_) fun hc=>?_)<;>(try simp only[hc,bs,↓reduceIte]at h)<;>try simp only[hc]
 |(with_reducible refine aB hQ ?_;(try cases h);simp only[cj,cr,dK,dL,go_sem,hY,hZ,gA,gB,fm,hb.1.1.1,hb.1.1.2,hb.1.2,hb.2,hc,hL,e1,e2,e3,pF,hw];try exact dM))
  ·repeat' (first
 |simp only[go_sem,hY,hZ,gA,gB,fm,hb.1.1.1,hb.1.1.2,hb.1.2,hb.2,hc,hL,e1,e2,e3,pF,hw]
 |(with_reducible refine CU (jk _ _) ?_)
 |(with_reducible refine CU (dt _) ?_)
 |(with_reducible refine CU (xO _ _) ?_)
 |(with_reducible refine cG (l:=2) (by with_unfolding_all rfl) ?_)
 |(with_reducible refine cG (l:=4) (by with_unfolding_all rfl) ?_)
 |(with_reducible refine cG (l:=5) (by with_unfolding_all rfl) ?_)
 |(with_reducible first|refine bq fun hc=>?_|refine br fun hc=>?_|refine bt (fun hc=>?_) fun hc=>?_)<;>(try simp only[hc,bs,↓reduceIte]at h)<;>try simp only[hc]
 |(with_reducible refine aB hQ ?_;(try cases h);simp only[cj,cr,dK,dL,go_sem,hY,hZ,gA,gB,fm,hb.1.1.1,hb.1.1.2,hb.1.2,hb.2,hc,hL,e1,e2,e3,pF,hw];try exact dM))
 ·have pF:decide ((k:Int) > 8)=false:=by simp;omega
  have fin:text.drop (pos+k)=(c::r).drop k:=by rw[← h1,List.drop_drop]
  have wK:((c::r).drop k).length<n:=by rw[List.length_drop];omega
  simp only[hz,↓reduceIte,hlen]at h
  by_cases tG:out.length=2000
  ·have lD:((out.length:Int)==2000)=true:=by simp [tG]
   simp only[tG,↓reduceIte]at h
   cases hw:isWord ((c::r).take k)
   ·repeat' (first
 |simp only[go_sem,hY,hZ,gA,gB,fm,hb.1.1.1,hb.1.1.2,hb.1.2,hb.2,hc,hL,e1,e2,e3,pF,lD,hw]
 |(with_reducible refine CU (jk _ _) ?_)
 |(with_reducible refine CU (dt _) ?_)
 |(with_reducible refine CU (xO _ _) ?_)
 |(with_reducible refine cG (l:=2) (by with_unfolding_all rfl) ?_)
 |(with_reducible refine cG (l:=4) (by with_unfolding_all rfl) ?_)
 |(with_reducible refine cG (l:=5) (by with_unfolding_all rfl) ?_)
 |(with_reducible first|refine bq fun hc=>?_|refine br fun hc=>?_|refine bt (fun hc=>?_) fun hc=>?_)<;>(try simp only[hc,bs,↓reduceIte]at h)<;>try simp only[hc]
 | (with_reducible refine aB hQ ?_;(try cases h);simp only [cj,cr,dK,dL,go_sem,hY,hZ,gA,gB,fm,hb.1.1.1,hb.1.1.2,hb.1.2,hb.2,hc,hL,e1,e2,e3,pF,lD,hw];try exact dM))
   ·repeat' (first
 |simp only[go_sem,hY,hZ,gA,gB,fm,hb.1.1.1,hb.1.1.2,hb.1.2,hb.2,hc,hL,e1,e2,e3,pF,lD,hw]
 |(with_reducible refine CU (jk _ _) ?_)
 |(with_reducible refine CU (dt _) ?_)
 |(with_reducible refine CU (xO _ _) ?_)
 |(with_reducible refine cG (l:=2) (by with_unfolding_all rfl) ?_)
 |(with_reducible refine cG (l:=4) (by with_unfolding_all rfl) ?_)
 |(with_reducible refine cG (l:=5) (by with_unfolding_all rfl) ?_)
 |(with_reducible first|refine bq fun hc=>?_|refine br fun hc=>?_|refine bt (fun hc=>?_) fun hc=>?_)<;>(try simp only[hc,bs,↓reduceIte]at h)<;>try simp only[hc]
 | (with_reducible refine aB hQ ?_;(try cases h);simp only [cj,cr,dK,dL,go_sem,hY,hZ,gA,gB,fm,hb.1.1.1,hb.1.1.2,hb.1.2,hb.2,hc,hL,e1,e2,e3,pF,lD,hw];try exact dM))
  ·have lD:((out.length:Int)==2000)=false:=by simp;omega
   have EC : ∀ t:aX,(out++ [t]).length≤2000:=by intro t;simp;omega
   simp only[tG,↓reduceIte]at h
   cases hw:isWord ((c::r).take k)
   ·simp only [hw,Bool.false_eq_true, ↓reduceIte]at h
    repeat' (first
 |simp only[go_sem,hY,hZ,gA,gB,fm,hb.1.1.1,hb.1.1.2,hb.1.2,hb.2,hc,hL,e1,e2,e3,pF,lD,gC,hw]
 |(with_reducible refine CU (jk _ _) ?_)
 |(with_reducible refine CU (dt _) ?_)
 |(with_reducible refine CU (xO _ _) ?_)
 |(with_reducible refine cG (l:=2) (by with_unfolding_all rfl) ?_)
 |(with_reducible refine cG (l:=4) (by with_unfolding_all rfl) ?_)
 |(with_reducible refine cG (l:=5) (by with_unfolding_all rfl) ?_)
 |(refine IH.to hB fin h wK (EC _) (by omega) (Nat.lt_succ_self _) ?_ ?_ ?_<;>((try simp only[go_sem,hY,hZ,gA,gB]);repeat' (first|exact Ok.out|with_reducible refine kM ?_ ?_|omega|(simp;done)));done)
 |(with_reducible first|refine bq fun hc=>?_|refine br fun hc=>?_|refine bt (fun hc=>?_) fun hc=>?_)<;>(try simp only[hc,bs,↓reduceIte]at h)<;>try simp only[hc]
 | (with_reducible refine aB hQ ?_;(try cases h);simp only [cj,cr,dK,dL,go_sem,hY,hZ,gA,gB,fm,hb.1.1.1,hb.1.1.2,hb.1.2,hb.2,hc,hL,e1,e2,e3,pF,lD,gC,hw];try exact dM))
   ·simp only [hw, ↓reduceIte]at h
    repeat' (first
 |simp only[go_sem,hY,hZ,gA,gB,fm,hb.1.1.1,hb.1.1.2,hb.1.2,hb.2,hc,hL,e1,e2,e3,pF,lD,gC,hw]
 |(with_reducible refine CU (jk _ _) ?_)
 |(with_reducible refine CU (dt _) ?_)
 |(with_reducible refine CU (xO _ _) ?_)
 |(with_reducible refine cG (l:=2) (by with_unfolding_all rfl) ?_)
 |(with_reducible refine cG (l:=4) (by with_unfolding_all rfl) ?_)
 |(with_reducible refine cG (l:=5) (by with_unfolding_all rfl) ?_)
 |(refine IH.to hB fin h wK (EC _) (by omega) (Nat.lt_succ_self _) ?_ ?_ ?_<;>((try simp only[go_sem,hY,hZ,gA,gB]);repeat' (first|exact Ok.out|with_reducible refine kM ?_ ?_|omega|(simp;done)));done)
 |(with_reducible refine aB hQ ?_;exact aU))
end Go.Abs
namespace Go.Abs
set_option maxRecDepth 8000
open Go.Proofs
theorem Ml (c:UInt8) (s:St):aA Tryz.prog s5 [.int .u8 (c.toNat:Int)] s (.bool (kN c)) s:=by
 refine aA.pure ?_ rfl rfl s
 generalize h:kN c=b
 unfold kN at h
 unfold S0
 refine aA.go H4 rfl fun B Q hB hQ=>?_
 have⟨hY,hZ,gA,gB⟩:=bu
 repeat' (first
 |simp only[go_sem,hY,hZ,gA,gB]
 |(with_reducible first|refine bq fun hc=>?_|refine br fun hc=>?_|refine bt (fun hc=>?_) fun hc=>?_)<;>(try simp only[hc,bs,↓reduceIte]at h)<;>try simp only[hc]
 |(with_reducible refine aB hQ ?_;exact eo))
theorem X3 (c:UInt8) (s:St):aA Tryz.prog xB [.int .u8 (c.toNat:Int)] s (.bool (kE c)) s:=by
 refine aA.pure ?_ rfl rfl s
 generalize h:kE c=b
 unfold kE at h
 unfold S0
 refine aA.go H5 rfl fun B Q hB hQ=>?_
 have⟨hY,hZ,gA,gB⟩:=bu
 repeat' (first
 |simp only[go_sem,hY,hZ,gA,gB]
 |(with_reducible first|refine bq fun hc=>?_|refine br fun hc=>?_|refine bt (fun hc=>?_) fun hc=>?_)<;>(try simp only[hc,bs,↓reduceIte]at h)<;>try simp only[hc]
 |(with_reducible refine aB hQ ?_;exact eo))
theorem ab2 (s:St):aA Tryz.prog xC [] s (.slice .shared 1 [[.str [103,108,111,98,97,108]],[.str [112,114,111,99]],[.str [118,97,114]],[.str [114,101,102]],[.str [105,102]],[.str [101,108,115,101]],[.str [119,104,105,108,101]],[.str [98,114,101,97,107]],[.str [99,111,110,116,105,110,117,101]],[.str [114,101,116,117,114,110]],[.str [103,111,116,111]],[.str [114,101,97,100]],[.str [112,114,105,110,116]]]) s:=by
 refine aA.pure ?_ rfl rfl s
 unfold S0
 refine aA.go H6 rfl fun B Q hB hQ=>?_
 have⟨hY,hZ,gA,gB⟩:=bu
 repeat' (first
 |simp only[go_sem,hY,hZ,gA,gB]
 |(with_reducible refine aB hQ ?_;exact aU))
def DW (s:ay):Bool:=
 [103,108,111,98,97,108] == s || [112,114,111,99] == s || [118,97,114] == s || [114,101,102] == s || [105,102] == s || [101,108,115,101] == s || [119,104,105,108,101] == s || [98,114,101,97,107] == s || [99,111,110,116,105,110,117,101] == s || [114,101,116,117,114,110] == s || [103,111,116,111] == s || [114,101,97,100] == s || [112,114,105,110,116] == s
theorem Sf (s:ay):DW s=isWord s:=by
 have e : ∀ a:ay,(a==s)=(s==a):=fun a=>BEq.comm
 simp only[DW,isWord,e]
theorem ab3 (text:ay) (s:St):aA Tryz.prog zw [.str text] s (.bool (isWord text)) s:=by
 refine aA.pure ?_ rfl rfl s
 rw[← Sf]
 generalize h:DW text=p
 unfold DW at h
 unfold S0
 refine aA.go Ka rfl fun B Q hB hQ=>?_
 have⟨hY,hZ,gA,gB⟩:=bu
 repeat' (first
 |simp only[go_sem,hY,hZ,gA,gB,Int.cast_ofNat_Int,bC,Int.reduceAdd,Int.reduceLT,Int.reduceNeg,decide_true,decide_false,Int.reduceToNat]
 |(with_reducible refine CU (ab2 _) ?_)
 |(with_reducible refine bn.uH ?_)
 |(with_reducible first|refine bq fun hc=>?_|refine br fun hc=>?_|refine bt (fun hc=>?_) fun hc=>?_)<;>(try simp only[hc,bs,↓reduceIte]at h)<;>try simp only[hc]
 |(with_reducible refine aB hQ ?_;(try cases h);simp only[cj,cr,dK,dL,go_sem,hY,hZ,gA,gB,Int.cast_ofNat_Int,bC,Int.reduceAdd,Int.reduceLT,Int.reduceNeg,decide_true,decide_false,Int.reduceToNat];try exact dM))
theorem atX {t:aX} {p:Int×Int} (h:kl t=p):aA Tryz.prog wJ [.agg (fi t)] S0 (.tuple [.int .i64 p.1, .int .i64 p.2]) S0:=by
 unfold kl at h
 unfold S0
 refine aA.go Mg rfl fun B Q hB hQ=>?_
 have⟨hY,hZ,gA,gB⟩:=bu
 repeat' (first
 |simp only[go_sem,hY,hZ,gA,gB]
 |(with_reducible first|refine bq fun hc=>?_|refine br fun hc=>?_|refine bt (fun hc=>?_) fun hc=>?_)<;>(try simp only[hc,bs,↓reduceIte]at h)<;>try simp only[hc]
 |(with_reducible refine aB hQ ?_;exact eo))
theorem ab4 : ∀ n,n<4611686018427387904→∀ x:Ex,x.size≤n→aA Tryz.prog nu [.agg (bx x)] S0 (.int .i64 (x.depth:Int)) S0:=by
 intro n
 induction n with
 |zero=>rintro _ ⟨op,m,name,kids⟩ h;simp only[Ex.size]at h;omega
 |succ n ihn=>
 rintro hn ⟨op,m,name,kids⟩ hx
 have hk : ∀ y∈kids,aA Tryz.prog nu [.agg (bx y)] S0 (.int .i64 (y.depth:Int)) S0:=fun y hy=>ihn (by omega) y (by simp only[Ex.size]at hx;have:=Ex.bJ hy;omega)
 have hlen:kids.length<4611686018427387904:=by simp only[Ex.size]at hx;have:=Ex.cu kids;omega
 have QD:Ex.iC kids<4611686018427387904:=by have:=Ex.RO _ _ hx;simp only[Ex.depth]at this;omega
 unfold S0
 refine aA.go Gq rfl fun B Q hB hQ=>?_
 have⟨hY,hZ,gA,gB⟩:=bu
 repeat' (first
 |simp only[go_sem,hY,hZ,gA,gB]
 |(with_reducible first|refine bq fun hc=>?_|refine br fun hc=>?_|refine bt (fun hc=>?_) fun hc=>?_)<;>(try simp only[hc,bs,↓reduceIte]at h)<;>try simp only[hc]
 |(with_reducible refine aB hQ ?_;exact aU))
 refine cq 0 0 (bn.ind (ι:=List Ex×Nat×Nat) (fun i=>kids.drop i.2.1=i.1∧max i.2.2 (Ex.iC i.1)=Ex.iC kids) (fun i=>i.1.length)
  (fun i=> [(3, .int .i64 (i.2.2:Int)),(7, .slice .shared 4 (kids.map bx)),(8, .int .i64 (kids.length:Int)),(9, .int .i64 (i.2.1:Int))]) (fun _=>S0) ?_ (kids,0,0) ⟨rfl,by simp⟩)
 rintro⟨rest,k,acc⟩ ⟨h1,h2⟩ IH
 unfold S0
 cases rest with
 |nil=>
  have hY:=drop_nil h1
  simp only[Ex.iC,Nat.max_zero]at h2
  subst h2
  repeat' (first
 |simp only[go_sem,hY,hZ,gA,gB,aM QD,Ex.depth]
 |(with_reducible first|refine bq fun hc=>?_|refine br fun hc=>?_|refine bt (fun hc=>?_) fun hc=>?_)<;>(try simp only[hc,bs,↓reduceIte]at h)<;>try simp only[hc]
 |(with_reducible refine aB hQ ?_;simp only[cj,cr,dK,dL,go_sem,hY,hZ,gA,gB,aM QD,Ex.depth];try exact dM))
 |cons y rest=>
  obtain⟨g1,g2,hY,g4⟩:=drop_cons h1
  simp only[Ex.iC]at h2
  have hy:=fun s=>(hk y (List.mem_of_getElem? g1)).pure (by simp[D.bN,D.ok,gE]) rfl s
  dsimp only at g1 g2 hY g4 h2
  repeat' (first
 |simp only[go_sem,hY,hZ,gA,gB,g1]
 |(with_reducible refine CU (hy _) ?_)
 |(with_reducible refine aB hQ ?_;exact aU))
  refine eQ 0 0 ?_ ?_ (IH (rest,k+1,max acc y.depth) ⟨g2,by dsimp only;omega⟩ (by simp))
  ·(simp only[go_sem,hY,hZ,gA,gB,mx,aM (show k<4611686018427387904 by omega)];try exact bQ)
  ·(simp only[go_sem,hY,hZ,gA,gB,mx,aM (show k<4611686018427387904 by omega)];try exact bQ)
theorem ab5 {x:Ex} {d:Int} (h:Gc x=some d) (s:St):aA Tryz.prog nu [.agg (bx x)] s (.int .i64 d) s:=by
 unfold Gc at h
 split at h
 ·cases h;exact(ab4 x.size ‹_› x (Nat.le_refl _)).pure (by simp[D.bN,D.ok,gE]) rfl s
 ·cases h
theorem atY (t:aX) (s:St):aA Tryz.prog wJ [.agg (fi t)] s (.tuple [.int .i64 (kl t).1, .int .i64 (kl t).2]) s:=(atX rfl).pure rfl rfl s
theorem aiy {c:Prop} [Decidable c] {α:Type} {P:α→Prop} {a b:α} (ha:P a) (hb:P b):P (if c then a else b):=by
 by_cases h:c
 ·rw[if_pos h];exact ha
 ·rw[if_neg h];exact hb
def OpR (p:Int×Int):Prop:=0≤p.2∧p.2≤6
theorem X4 (t:aX):OpR (kl t):=by
 unfold kl
 repeat' with_reducible refine aiy (P:=OpR) ?_ ?_
 all_goals exact⟨by decide,by decide⟩
theorem O8 (t:aX):IntKind.wrap .i64 ((kl t).2+1)=(kl t).2+1:=by
 have:0≤(kl t).2∧(kl t).2≤6:=X4 t
 rw[bC]<;>omega
abbrev KQ (m:Nat):Prop:=∀ {r:Rd} {p:Ex×Rd},Rd.one m r=some p→∀ {s:St} {o:Nat},s.az[o]? = some (cR r)→aA Tryz.prog ly [.ptr o 0] s (.agg (bx p.1)) ⟨s.az.set o (cR p.2),s.aD⟩
abbrev KR (m:Nat):Prop:=∀ {k:Int} {r:Rd} {p:Ex×Rd},Rd.two m k r=some p→∀ {s:St} {o:Nat},s.az[o]? = some (cR r)→aA Tryz.prog j7 [.ptr o 0, .int .i64 k] s (.agg (bx p.1)) ⟨s.az.set o (cR p.2),s.aD⟩
theorem X5 {m:Nat} (Gy:KQ m) (Gz:KR m):KQ (m+1):=by
 intro r p h s o ho
 refine aA.lL ?_ rfl (gl r) (gl p.2) (by simp[D.ok,gE]) ho
 unfold Rd.one at h
 refine aA.go Bo rfl fun B Q hB hQ=>?_
 have⟨hY,hZ,gA,gB⟩:=bu
 repeat' (first
 |simp only[go_sem,hY,hZ,gA,gB]
 |(rw[Option.bind_eq_some_iff]at h;obtain⟨_,h1,h⟩:=h;first|(with_reducible refine CU (qy h1 (by with_unfolding_all rfl)) ?_;have hY:=ub h1)|(with_reducible refine CU (vl h1 (by with_unfolding_all rfl)) ?_)|(with_reducible refine CU (Gz h1 (by with_unfolding_all rfl)) ?_)|(with_reducible refine CU (rH h1 (by with_unfolding_all rfl)) ?_)|(with_reducible refine CU (Gy h1 (by with_unfolding_all rfl)) ?_)|(with_reducible refine CU (Gx h1 (by with_unfolding_all rfl)) ?_))
 |(with_reducible refine CU (lY (by with_unfolding_all rfl)) ?_)
 |(with_reducible first|refine bq fun hc=>?_|refine br fun hc=>?_|refine bt (fun hc=>?_) fun hc=>?_)<;>(try simp only[hc,bs,↓reduceIte]at h)<;>try simp only[hc]
 |(with_reducible refine aB hQ ?_;exact eo))
theorem X6 {m:Nat} (Gy:KQ m) (Gz : ∀ j<m,KR j):KR (m+1):=by
 intro k r p h s o ho
 refine aA.lL ?_ rfl (gl r) (gl p.2) (by simp[D.ok,gE]) ho
 unfold Rd.two at h
 refine aA.go Bn rfl fun B Q hB hQ=>?_
 have⟨hY,hZ,gA,gB⟩:=bu
 repeat' (first
 |simp only[go_sem,hY,hZ,gA,gB]
 |(rw[Option.bind_eq_some_iff]at h;obtain⟨_,h1,h⟩:=h;first|(with_reducible refine CU (Gy h1 (by with_unfolding_all rfl)) ?_))
 |(with_reducible refine aB hQ ?_;exact aU))
 refine cq 3 0 (bn.ind (ι:=Nat×Ex×Rd) (fun i=>Rd.xp i.1 k i.2.1 i.2.2=some p∧i.1≤m) (fun i=>i.1)
  (fun i=> [(0, .ptr 0 0),(1, .int .i64 k),(4, .ptr 1 0),(5, .ptr 2 0)]) (fun i=>⟨[cR i.2.2,bx jY,bx i.2.1],[]⟩) ?_ (m,_,_) ⟨h,Nat.le_refl _⟩)
 rintro⟨n,x,r⟩ ⟨h,hn⟩ IH
 cases n with
 |zero=>simp only[Rd.xp]at h;cases h
 |succ n=>
  have aiz:=@Gz n (by omega)
  simp only[Rd.xp]at h
  repeat' (first
 |simp only[go_sem,hY,hZ,gA,gB,O8]
 |(rw[Option.bind_eq_some_iff]at h;obtain⟨_,h1,h⟩:=h;first|(with_reducible refine CU (qy h1 (by with_unfolding_all rfl)) ?_;have hY:=ub h1)|(with_reducible refine CU (aiz h1 (by with_unfolding_all rfl)) ?_))
 |(with_reducible refine CU (lY (by with_unfolding_all rfl)) ?_)
 |(with_reducible refine CU (atY _ _) ?_)
 |(with_reducible first|refine bq fun hc=>?_|refine br fun hc=>?_|refine bt (fun hc=>?_) fun hc=>?_)<;>(try simp only[hc,bs,↓reduceIte]at h)<;>try simp only[hc]
 |(with_reducible refine aB hQ ?_;(try cases h);simp only[cj,cr,dK,dL,go_sem,hY,hZ,gA,gB,O8];try exact dM))
  refine cq 3 0 (IH (n,_,_) ⟨h,by dsimp only at hn ⊢;omega⟩ (Nat.lt_succ_self _))
theorem ab6 : ∀ n,∀ m<n,KQ m∧KR m:=by
 intro n
 induction n with
 |zero=>intro m h;exact absurd h (Nat.not_lt_zero _)
 | succ n ih=>
  intro m h
  cases m with
  |zero=>
   refine⟨?_, ?_⟩
   ·intro r p h;simp only[Rd.one]at h;cases h
   ·intro k r p h;simp only[Rd.two]at h;cases h
  |succ m=>
   have hm:=ih m (by omega)
   exact⟨X5 hm.1 hm.2,X6 hm.1 fun j hj=>(ih j (by omega)).2⟩
theorem Gz {m:Nat} {k:Int} {r:Rd} {p:Ex×Rd} (h:Rd.two m k r=some p) {s:St} {o:Nat} (ho:s.az[o]? = some (cR r)) :
 aA Tryz.prog j7 [.ptr o 0, .int .i64 k] s (.agg (bx p.1)) ⟨s.az.set o (cR p.2),s.aD⟩:=(ab6 (m+1) m (Nat.lt_succ_self _)).2 h ho
theorem DX {n:Nat} {r:Rd} {p:Ex×Rd} (h:Rd.whole n r=some p) {s:St} {o:Nat} (ho:s.az[o]? = some (cR r)) :
 aA Tryz.prog gZ [.ptr o 0] s (.agg (bx p.1)) ⟨s.az.set o (cR p.2),s.aD⟩:=by
 refine aA.lL ?_ rfl (gl r) (gl p.2) (by simp[D.ok,gE]) ho
 unfold Rd.whole at h
 refine aA.go zF rfl fun B Q hB hQ=>?_
 have⟨hY,hZ,gA,gB⟩:=bu
 repeat' (first
 |simp only[go_sem,hY,hZ,gA,gB]
 |(rw[Option.bind_eq_some_iff]at h;obtain⟨_,h1,h⟩:=h;first|(with_reducible refine CU (qy h1 (by with_unfolding_all rfl)) ?_)|(with_reducible refine CU (ab5 h1 _) ?_)|(with_reducible refine CU (Gz h1 (by with_unfolding_all rfl)) ?_))
 |(with_reducible refine CU (lY (by with_unfolding_all rfl)) ?_)
 |(with_reducible first|refine bq fun hc=>?_|refine br fun hc=>?_|refine bt (fun hc=>?_) fun hc=>?_)<;>(try simp only[hc,bs,↓reduceIte]at h)<;>try simp only[hc]
 |(with_reducible refine aB hQ ?_;exact eo))
@[go_sem] def yE (z:D) (r:Rd):List D:= [.slice .shared 4 (r.l.map fi), .int .i64 r.i, .int .i64 r.code, .int .i64 r.sN,z]
class Cell (z:D):Prop where
 ok:D.ok 0 0 z=true
 fg : ∀ n m,D.fg n m z=z
instance (n:Int):Cell (.int .i64 n):=⟨rfl,fun _ _=>rfl⟩
instance:Cell .junk:=⟨rfl,fun _ _=>rfl⟩
theorem ab7 (z:D) [h:Cell z] (n m:Nat):D.fg n m z=z:=h.fg n m
attribute [go_sem] ab7
def Rd.isO (text:ay) (r:Rd):Option Bool:=if r.good then r.is text else some false
end Go.Abs
namespace Go.Abs
set_option maxRecDepth 8000
open Go.Proofs
def tc (s:ay):Int×Int:=
 if [42] == s then(6,5)else if [47] == s then(6,6)else if [37] == s then(6,7)else if [43] == s then(5,8)else if [45] == s then(5,9)
 else if [60] == s then(4,10)else if [60,61] == s then(4,11)else if [62] == s then(4,12)else if [62,61] == s then(4,13)
 else if [61,61] == s then(3,14)else if [33,61] == s then(3,15)else if [38,38] == s then(2,16)else if [124,124] == s then(1,17)else(0,0)
theorem ab8 (text:ay) (s:St):aA Tryz.prog xD [.str text] s (.tuple [.int .i64 (tc text).1, .int .i64 (tc text).2]) s:=by
 refine aA.pure ?_ rfl rfl s
 generalize h:tc text=p
 unfold tc at h
 unfold S0
 refine aA.go H8 rfl fun B Q hB hQ=>?_
 have⟨hY,hZ,gA,gB⟩:=bu
 repeat' (first
 |simp only[go_sem,hY,hZ,gA,gB,Int.cast_ofNat_Int,bC,Int.reduceAdd,Int.reduceLT,Int.reduceNeg,decide_true,decide_false,Int.reduceToNat]
 |(with_reducible refine bn.uH ?_)
 |(with_reducible first|refine bq fun hc=>?_|refine br fun hc=>?_|refine bt (fun hc=>?_) fun hc=>?_)<;>(try simp only[hc,bs,↓reduceIte]at h)<;>try simp only[hc]
 |(with_reducible refine aB hQ ?_;(try cases h);simp only[cj,cr,dK,dL,go_sem,hY,hZ,gA,gB,Int.cast_ofNat_Int,bC,Int.reduceAdd,Int.reduceLT,Int.reduceNeg,decide_true,decide_false,Int.reduceToNat];try exact dM))
theorem Mm (t:aX) (hk:t.kind=4):kl t=((tc t.text).2,(tc t.text).1):=by
 obtain⟨kind,text,n,pos⟩:=t
 dsimp only at hk
 subst hk
 simp only[kl]
 by_cases h1:text = [42]
 ·subst h1;rfl
 by_cases h2:text = [47]
 ·subst h2;rfl
 by_cases h3:text = [37]
 ·subst h3;rfl
 by_cases h4:text = [43]
 ·subst h4;rfl
 by_cases h5:text = [45]
 ·subst h5;rfl
 by_cases h6:text = [60]
 ·subst h6;rfl
 by_cases h7:text = [60,61]
 ·subst h7;rfl
 by_cases h8:text = [62]
 ·subst h8;rfl
 by_cases h9:text = [62,61]
 ·subst h9;rfl
 by_cases h10:text = [61,61]
 ·subst h10;rfl
 by_cases h11:text = [33,61]
 ·subst h11;rfl
 by_cases fB:text = [38,38]
 ·subst fB;rfl
 by_cases UF:text = [124,124]
 ·subst UF;rfl
 have e : ∀ c:ay,¬ text=c→(text==c)=false:=fun c h=>by simpa using h
 have e' : ∀ c:ay,¬ text=c→(c==text)=false:=fun c h=>by simpa using fun h'=>h h'.symm
 simp only[tc,e _ h1,e _ h2,e _ h3,e _ h4,e _ h5,e _ h6,e _ h7,e _ h8,e _ h9,e _ h10,e _ h11,e _ fB,e _ UF,e' _ h1,e' _ h2,e' _ h3,e' _ h4,e' _ h5,e' _ h6,e' _ h7,e' _ h8,e' _ h9,e' _ h10,e' _ h11,e' _ fB,e' _ UF,
  Bool.false_eq_true,↓reduceIte]
 rfl
abbrev auL (m:Nat):Prop:=∀ {z:D} [Cell z] {r:Rd} {p:Ex×Rd},Rd.one m r=some p→∀ {s:St} {o:Nat},s.az[o]? = some (yE z r)→aA Tryz.prog HT [.ptr o 0] s (.agg (bx p.1)) ⟨s.az.set o (yE z p.2),s.aD⟩
abbrev az6 (m:Nat):Prop:=∀ {z:D} [Cell z] {k:Int} {x:Ex} {r:Rd} {p:Ex×Rd},Rd.xp m k x r=some p→∀ {s:St} {o:Nat},s.az[o]? = some (yE z r)→aA Tryz.prog JZ [.ptr o 0, .agg (bx x), .int .i64 k] s (.agg (bx p.1)) ⟨s.az.set o (yE z p.2),s.aD⟩
def BZ (p:Int×Int):Prop:=(p.2==0)=(p.1==0)
theorem afq : ∀ (cZ:Nat),cZ<1000000→∀ x:Ex,x.size<4611686018427387904→∀ s:St,aA Tryz.prog rC [.agg (bx x), .int .i64 (cZ:Int)] s (.int .i64 ((min x.depth (cZ+1):Nat):Int)) s:=by
 intro cZ
 induction cZ with
 |zero=>
  rintro _ ⟨op,m,name,kids⟩ hx s
  refine aA.pure ?_ (by simp[D.bN,D.ok,gE]) rfl s
  have hz:((0:Int)==0)=true:=rfl
  have e:min (Ex.depth ⟨op,m,name,kids⟩) (0+1)=1:=by simp only[Ex.depth];omega
  rw[e]
  unfold S0
  refine aA.go B6 rfl fun B Q hB hQ=>?_
  have⟨hY,hZ,gA,gB⟩:=bu
  repeat' (first
 |simp only[go_sem,hY,hZ,gA,gB,hz]
 |(with_reducible refine aB hQ ?_;exact aU))
 | succ cZ ih=>
  rintro aBC ⟨op,m,name,kids⟩ hx s
  refine aA.pure ?_ (by simp[D.bN,D.ok,gE]) rfl s
  have hlen:kids.length<4611686018427387904:=by simp only[Ex.size]at hx;have:=Ex.cu kids;omega
  have hk : ∀ y∈kids,∀ s,aA Tryz.prog rC [.agg (bx y), .int .i64 (cZ:Int)] s (.int .i64 ((min y.depth (cZ+1):Nat):Int)) s:=fun y hy s=>
   ih (by omega) y (by simp only[Ex.size]at hx;have:=Ex.bJ hy;omega) s
  have hz:(((cZ+1:Nat):Int)==0)=false:=by simp;omega
  have w1:IntKind.wrap .i64 (((cZ+1:Nat):Int) - 1)=(cZ:Int):=by rw[bC]<;>omega
  unfold S0
  refine aA.go B6 rfl fun B Q hB hQ=>?_
  have⟨hY,hZ,gA,gB⟩:=bu
  repeat' (first
 |simp only[go_sem,hY,hZ,gA,gB,hz]
 | (with_reducible refine aB hQ ?_;exact aU))
  refine cq 1 0 (bn.ind (ι:=List Ex×Nat×Nat) (fun i=>kids.drop i.2.1=i.1∧i.2.2≤cZ+1∧min (max i.2.2 (Ex.iC i.1)) (cZ+1)=min (Ex.iC kids) (cZ+1)) (fun i=>i.1.length)
   (fun i=> [(1, .int .i64 ((cZ+1:Nat):Int)),(2, .ptr 0 0),(5, .int .i64 (i.2.2:Int)),(6, .int .i64 (i.2.1:Int))]) (fun i=>⟨[bx ⟨op,m,name,kids⟩],[]⟩) ?_ (kids,0,0) ⟨rfl,Nat.zero_le _,by simp⟩)
  rintro⟨rest,k,d⟩ ⟨h1,h2,h3⟩ IH
  dsimp only at h1 h2 h3
  have hd:min (Ex.depth ⟨op,m,name,kids⟩) (cZ+1+1)=min (Ex.iC kids) (cZ+1)+1:=by simp only[Ex.depth];omega
  rw[hd, ← h3]at hQ
  have w2:IntKind.wrap .i64 ((d:Int)+1)=((d+1:Nat):Int):=by rw[bC]<;>omega
  by_cases aBS:d<cZ+1
  ·have c2:decide ((d:Int)<((cZ+1:Nat):Int))=true:=by simp;omega
   cases rest with
   |nil=>
    have hY:=drop_nil h1
    simp only[Ex.iC,Nat.max_zero]at hQ
    have e:min d (cZ+1)=d:=by omega
    rw[e]at hQ
    repeat' (first
 |simp only[go_sem,hY,hZ,gA,gB,c2,w2]
 | (with_reducible refine aB hQ ?_;exact aU))
   | cons y rest=>
    obtain⟨hZ,g2,hY,g4⟩:=drop_cons h1
    have hy:=hk y (List.mem_of_getElem? hZ)
    simp only[Ex.iC]at h3
    have cd:k<4611686018427387904:=by omega
    by_cases pF:min y.depth (cZ+1) > d
    ·have c3:decide (((min y.depth (cZ+1):Nat):Int) > (d:Int))=true:=by simp only [decide_eq_true_eq];omega
     repeat' (first
 |simp only[go_sem,hY,hZ,gA,gB,c2,w1,c3]
 |(with_reducible refine CU (hy _) ?_)
 | (with_reducible refine aB hQ ?_;exact aU))
     refine eQ 1 0 ?_ ?_ (IH (rest,k+1,min y.depth (cZ+1)) ⟨g2,by dsimp only;omega,by dsimp only;omega⟩ (Nat.lt_succ_self _))
     ·(simp only[go_sem,hY,hZ,gA,gB,aM cd];try exact bQ)
     ·(simp only[go_sem,hY,hZ,gA,gB,aM cd];try exact bQ)
    ·have c3:decide (((min y.depth (cZ+1):Nat):Int) > (d:Int))=false:=by simp only [decide_eq_false_iff_not];omega
     repeat' (first
 |simp only[go_sem,hY,hZ,gA,gB,c2,w1,c3]
 |(with_reducible refine CU (hy _) ?_)
 | (with_reducible refine aB hQ ?_;exact aU))
     refine eQ 1 0 ?_ ?_ (IH (rest,k+1,d) ⟨g2,h2,by dsimp only;omega⟩ (Nat.lt_succ_self _))
     ·(simp only[go_sem,hY,hZ,gA,gB,aM cd];try exact bQ)
     ·(simp only[go_sem,hY,hZ,gA,gB,aM cd];try exact bQ)
  ·have c2:decide ((d:Int)<((cZ+1:Nat):Int))=false:=by simp;omega
   have e:min (max d (Ex.iC rest)) (cZ+1)=d:=by omega
   rw[e]at hQ
   cases rest with
   |nil=>
    have hY:=drop_nil h1
    repeat' (first
 |simp only[go_sem,hY,hZ,gA,gB,c2,w2]
 | (with_reducible refine aB hQ ?_;exact aU))
   |cons y rest=>
    obtain⟨hZ,g2,hY,g4⟩:=drop_cons h1
    repeat' (first
 |simp only[go_sem,hY,hZ,gA,gB,c2,w2]
 |(with_reducible refine aB hQ ?_;exact aU))
theorem X7 : ∀ N,N<4611686018427387904→∀ x y:Ex,x.size≤N→∀ s:St,aA Tryz.prog lN [.agg (bx x), .agg (bx y)] s (.bool (Ex.beq x y)) s:=by
 intro N
 induction N with
 |zero=>rintro _ ⟨op,m,name,kids⟩ y h;simp only[Ex.size]at h;omega
 |succ N ih=>
 rintro hN ⟨op,m,name,kids⟩ ⟨Z7,m',nG,wF⟩ hx s
 refine aA.pure ?_ (by simp[D.bN,D.ok,gE]) rfl s
 have hk : ∀ a∈kids,∀ b s,aA Tryz.prog lN [.agg (bx a), .agg (bx b)] s (.bool (Ex.beq a b)) s:=fun a ha b s=>
  ih (by omega) a b (by simp only[Ex.size]at hx;have:=Ex.bJ ha;omega) s
 have hlen:kids.length<4611686018427387904:=by simp only[Ex.size]at hx;have:=Ex.cu kids;omega
 generalize h:Ex.beq ⟨op,m,name,kids⟩ ⟨Z7,m',nG,wF⟩=p
 simp only[Ex.beq]at h
 unfold S0
 refine aA.go Gs rfl fun B Q hB hQ=>?_
 have⟨hY,hZ,gA,gB⟩:=bu
 repeat' (first
 |simp only[go_sem,hY,hZ,gA,gB]
 |(with_reducible first|refine bq fun hc=>?_|refine br fun hc=>?_|refine bt (fun hc=>?_) fun hc=>?_)<;>(try simp only[hc,bs,↓reduceIte]at h)<;>try simp only[hc]
 |(with_reducible refine aB hQ ?_;exact eo)
 |(cases h;done))
 rename_i hl4
 have hl5:kids.length=wF.length:=by
  have:((kids.length:Int) != (wF.length:Int))=false:=by assumption
  simp only[bne_eq_false_iff_eq]at this
  omega
 refine cq 2 0 (bn.ind (ι:=List Ex×List Ex×Nat) (fun i=>kids.drop i.2.2=i.1∧wF.drop i.2.2=i.2.1∧Ex.gw i.1 i.2.1=p) (fun i=>i.1.length)
  (fun i=> [(2, .ptr 0 0),(3, .ptr 1 0),(36, .int .i64 (kids.length:Int)),(37, .int .i64 (i.2.2:Int))]) (fun i=>⟨[bx ⟨op,m,name,kids⟩,bx ⟨Z7,m',nG,wF⟩],[]⟩) ?_ (kids,wF,0) ⟨rfl,rfl,h⟩)
 rintro⟨r1,r2,k⟩ ⟨h1,h2,h⟩ IH
 dsimp only at h1 h2 h
 cases r1 with
 |nil=>
  have hY:=drop_nil h1
  simp only[Ex.gw]at h
  repeat' (first
 |simp only[go_sem,hY,hZ,gA,gB]
 |(with_reducible first|refine bq fun hc=>?_|refine br fun hc=>?_|refine bt (fun hc=>?_) fun hc=>?_)<;>(try simp only[hc,bs,↓reduceIte]at h)<;>try simp only[hc]
 |(with_reducible refine aB hQ ?_;exact eo)
 |(cases h;done))
 | cons a r1=>
  obtain⟨hZ,g2,hY,g4⟩:=drop_cons h1
  cases r2 with
  |nil=>have:=List.drop_eq_nil_iff.1 h2;omega
  |cons b r2=>
   obtain⟨oR,b2,_,_⟩:=drop_cons h2
   have cd:k<4611686018427387904:=by omega
   have ED:=hk a (List.mem_of_getElem? hZ)
   simp only[Ex.gw]at h
   repeat' (first
 |simp only[go_sem,hY,hZ,gA,gB,oR]
 |(with_reducible refine CU (ED _ _) ?_)
 |(with_reducible first|refine bq fun hc=>?_|refine br fun hc=>?_|refine bt (fun hc=>?_) fun hc=>?_)<;>(try simp only[hc,bs,↓reduceIte]at h)<;>try simp only[hc]
 |(with_reducible refine aB hQ ?_;(try cases h);simp only[cj,cr,dK,dL,go_sem,hY,hZ,gA,gB,oR];try exact dM)
 | (cases h;done))
   refine eQ 2 0 ?_ ?_ (IH (r1,r2,k+1) ⟨g2,b2,h⟩ (Nat.lt_succ_self _))
   ·(simp only[go_sem,hY,hZ,gA,gB,aM cd];try exact bQ)
   ·(simp only[go_sem,hY,hZ,gA,gB,aM cd];try exact bQ)
theorem Mn {x y:Ex} (hx:x.size<4611686018427387904) (s:St):aA Tryz.prog lN [.agg (bx x), .agg (bx y)] s (.bool (Ex.beq x y)) s:=X7 _ hx x y (Nat.le_refl _) s
theorem uc (text:ay) (hl:text.length<4611686018427387904) (s:St):aA Tryz.prog kf [.str text] s (.bool (isName text)) s:=by
 refine aA.pure ?_ rfl rfl s
 unfold S0
 cases text with
 |nil=>
  have e:(([] : ay) == [])=true:=rfl
  refine aA.go Ca rfl fun B Q hB hQ=>?_
  have⟨hY,hZ,gA,gB⟩:=bu
  repeat' (first
 |simp only[go_sem,hY,hZ,gA,gB,e,isName]
 |(with_reducible first|refine bq fun hc=>?_|refine br fun hc=>?_|refine bt (fun hc=>?_) fun hc=>?_)<;>(try simp only[hc,bs,↓reduceIte]at h)<;>try simp only[hc]
 |(with_reducible refine aB hQ ?_;simp only[cj,cr,dK,dL,go_sem,hY,hZ,gA,gB,e,isName];try exact dM))
 |cons c r=>
  have e:((c::r) == [])=false:=rfl
  generalize h:isName (c::r)=p
  simp only[isName]at h
  refine aA.go Ca rfl fun B Q hB hQ=>?_
  have⟨hY,hZ,gA,gB⟩:=bu
  repeat' (first
 |simp only[go_sem,hY,hZ,gA,gB,e]
 |(with_reducible refine CU (Ml _ _) ?_)
 |(with_reducible first|refine bq fun hc=>?_|refine br fun hc=>?_|refine bt (fun hc=>?_) fun hc=>?_)<;>(try simp only[hc,bs,↓reduceIte]at h)<;>try simp only[hc]
 | (with_reducible refine aB hQ ?_;(try cases h);simp only [cj,cr,dK,dL,go_sem,hY,hZ,gA,gB,e];try exact dM))
  refine cq 0 0 (bn.ind (ι:=ay×Nat) (fun i=>(c::r).drop i.2=i.1∧(if ta i.1 then !(isWord (c::r))else false)=p) (fun i=>i.1.length)
   (fun i=> [(0, .str (c::r)),(3, .int .i64 (i.2:Int))]) (fun i=>⟨[],[]⟩) ?_ (r,1) ⟨rfl,h⟩)
  rintro⟨rest,k⟩ ⟨h1,h⟩ IH
  dsimp only at h1 h
  cases rest with
  |nil=>
   have hY:=drop_nil h1
   simp only[List.length_cons]at hY
   simp only[ta,↓reduceIte]at h
   repeat' (first
 |simp only[go_sem,hY,hZ,gA,gB]
 |(with_reducible refine CU (ab3 _ _) ?_)
 |(with_reducible first|refine bq fun hc=>?_|refine br fun hc=>?_|refine bt (fun hc=>?_) fun hc=>?_)<;>(try simp only[hc,bs,↓reduceIte]at h)<;>try simp only[hc]
 | (with_reducible refine aB hQ ?_;exact eo))
  |cons d rest=>
   obtain⟨hZ,g2,hY,g4⟩:=drop_cons h1
   simp only[List.length_cons]at hY
   have gA:k<4611686018427387904:=by omega
   simp only[ta]at h
   repeat' (first
 |simp only[go_sem,hY,hZ,gA,gB]
 |(with_reducible refine CU (Ml _ _) ?_)
 |(with_reducible refine CU (X3 _ _) ?_)
 |(with_reducible first|refine bq fun hc=>?_|refine br fun hc=>?_|refine bt (fun hc=>?_) fun hc=>?_)<;>(try simp only[hc,bs,↓reduceIte]at h)<;>try simp only[hc]
 |(with_reducible refine aB hQ ?_;(try cases h);simp only[cj,cr,dK,dL,go_sem,hY,hZ,gA,gB];repeat' (first|exact Ok.out|with_reducible refine kM ?_ ?_|(simp;done)))
 | (cases h;done))
   all_goals
    refine cq 0 0 (IH (rest,k+1) ⟨g2,h⟩ (Nat.lt_succ_self _))
theorem ud (op:Int) (s:St):aA Tryz.prog qv [.int .i64 op] s (.int .i64 (eI op)) s:=by
 refine aA.pure ?_ rfl rfl s
 unfold S0
 generalize h:eI op=p
 unfold eI at h
 refine aA.go H7 rfl fun B Q hB hQ=>?_
 have⟨hY,hZ,gA,gB⟩:=bu
 repeat' (first
 |simp only[go_sem,hY,hZ,gA,gB]
 |(with_reducible first|refine bq fun hc=>?_|refine br fun hc=>?_|refine bt (fun hc=>?_) fun hc=>?_)<;>(try simp only[hc,bs,↓reduceIte]at h)<;>try simp only[hc]
 |(with_reducible refine aB hQ ?_;exact eo))
theorem Br {l:List ay} (hl:l.length<4611686018427387904) (hs : ∀ t∈l,t.length<4611686018427387904) (s:St):aA Tryz.prog oy [.slice .shared 1 (l.map encStr)] s (.bool (dn l)) s:=by
 refine aA.pure ?_ (by simp[D.bN,D.ok,fw,Tag.ok]) rfl s
 unfold S0
 generalize h:dn l=p
 refine aA.go Ib rfl fun B Q hB hQ=>?_
 have⟨hY,hZ,gA,gB⟩:=bu
 repeat' (first
 |simp only[go_sem,hY,hZ,gA,gB]
 |(with_reducible first|refine bq fun hc=>?_|refine br fun hc=>?_|refine bt (fun hc=>?_) fun hc=>?_)<;>(try simp only[hc,bs,↓reduceIte]at h)<;>try simp only[hc]
 |(with_reducible refine aB hQ ?_;exact eo))
 refine cq 0 0 (bn.ind (ι:=List ay×Nat) (fun i=>l.drop i.2=i.1∧dn i.1=p) (fun i=>i.1.length)
  (fun i=> [(5, .slice .shared 1 (l.map encStr)),(6, .int .i64 (l.length:Int)),(7, .int .i64 (i.2:Int))]) (fun i=>⟨[],[]⟩) ?_ (l,0) ⟨rfl,h⟩)
 rintro⟨rest,k⟩ ⟨h1,h⟩ IH
 dsimp only at h1 h
 cases rest with
 |nil=>
  have hY:=drop_nil h1
  simp only[dn]at h
  repeat' (first
 |simp only[go_sem,hY,hZ,gA,gB]
 |(with_reducible first|refine bq fun hc=>?_|refine br fun hc=>?_|refine bt (fun hc=>?_) fun hc=>?_)<;>(try simp only[hc,bs,↓reduceIte]at h)<;>try simp only[hc]
 |(with_reducible refine aB hQ ?_;exact eo))
 |cons t rest=>
  obtain⟨hZ,g2,hY,g4⟩:=drop_cons h1
  have gA:k<4611686018427387904:=by omega
  have hn:=uc t (hs t (List.mem_of_getElem? hZ))
  simp only[dn]at h
  repeat' (first
 |simp only[go_sem,hY,hZ,gA,gB]
 |(with_reducible refine CU (hn _) ?_)
 |(with_reducible first|refine bq fun hc=>?_|refine br fun hc=>?_|refine bt (fun hc=>?_) fun hc=>?_)<;>(try simp only[hc,bs,↓reduceIte]at h)<;>try simp only[hc]
 |(with_reducible refine aB hQ ?_;exact eo))
  refine cq 0 0 (IH (rest,k+1) ⟨g2,h⟩ (Nat.lt_succ_self _))
theorem afr : ∀ (n:Nat) (x:Ex),x.size≤n→x.size<4611686018427387904→x.texts→∀ s:St,aA Tryz.prog rD [.agg (bx x)] s (.bool x.form) s:=by
 intro n
 induction n with
 |zero=>rintro⟨op,m,name,kids⟩ h;simp only[Ex.size]at h;omega
 | succ n ih=>
  rintro⟨op,m,name,kids⟩ h hx ht s
  refine aA.pure ?_ (by simp[D.bN,D.ok,gE]) rfl s
  have hlen:kids.length<4611686018427387904:=by simp only[Ex.size]at hx;have:=Ex.cu kids;omega
  have hk : ∀ y∈kids,∀ s,aA Tryz.prog rD [.agg (bx y)] s (.bool y.form) s:=fun y hy s=>
   ih y (by simp only[Ex.size]at h;have:=Ex.bJ hy;omega) (by simp only[Ex.size]at hx;have:=Ex.bJ hy;omega) (Ex.I7 ht hy) s
  have hn:=uc name ht.1
  unfold S0
  generalize h:Ex.form ⟨op,m,name,kids⟩=p
  simp only[Ex.form]at h
  refine aA.go Kf rfl fun B Q hB hQ=>?_
  have⟨hY,hZ,gA,gB⟩:=bu
  repeat' (first
 |simp only[go_sem,hY,hZ,gA,gB]
 |(with_reducible refine CU (ud _ _) ?_)
 |(with_reducible refine CU (hn _) ?_)
 |(with_reducible first|refine bq fun hc=>?_|refine br fun hc=>?_|refine bt (fun hc=>?_) fun hc=>?_)<;>(try simp only[hc,bs,↓reduceIte]at h)<;>try simp only[hc]
 | (with_reducible refine aB hQ ?_;(try cases h);simp only[cj,cr,dK,dL,go_sem,hY,hZ,gA,gB];repeat' (first|exact Ok.out|with_reducible refine kM ?_ ?_|(simp;done))))
  all_goals
   refine cq 1 0 (bn.ind (ι:=List Ex×Nat) (fun i=>kids.drop i.2=i.1∧Ex.oc i.1=p) (fun i=>i.1.length)
    (fun i=> [(1, .ptr 0 0),(48, .int .i64 (kids.length:Int)),(49, .int .i64 (i.2:Int))]) (fun i=>⟨[bx ⟨op,m,name,kids⟩],[]⟩) ?_ (kids,0) ⟨rfl,h⟩)
   rintro⟨rest,k⟩ ⟨h1,h⟩ IH
   dsimp only at h1 h
   cases rest with
   |nil=>
    have hY:=drop_nil h1
    simp only[Ex.oc]at h
    repeat' (first
 |simp only[go_sem,hY,hZ,gA,gB]
 |(with_reducible first|refine bq fun hc=>?_|refine br fun hc=>?_|refine bt (fun hc=>?_) fun hc=>?_)<;>(try simp only[hc,bs,↓reduceIte]at h)<;>try simp only[hc]
 |(with_reducible refine aB hQ ?_;exact eo)
 | (cases h;done))
   |cons y rest=>
    obtain⟨hZ,g2,hY,g4⟩:=drop_cons h1
    have hy:=hk y (List.mem_of_getElem? hZ)
    have gA:k<4611686018427387904:=by omega
    simp only[Ex.oc]at h
    repeat' (first
 |simp only[go_sem,hY,hZ,gA,gB]
 |(with_reducible refine CU (hy _) ?_)
 |(with_reducible first|refine bq fun hc=>?_|refine br fun hc=>?_|refine bt (fun hc=>?_) fun hc=>?_)<;>(try simp only[hc,bs,↓reduceIte]at h)<;>try simp only[hc]
 | (with_reducible refine aB hQ ?_;exact eo))
    refine cq 1 0 (IH (rest,k+1) ⟨g2,h⟩ (Nat.lt_succ_self _))
theorem I9 {x:Ex} (hx:x.size<4611686018427387904) (ht:x.texts) (s:St):aA Tryz.prog qL [.agg (bx x)] s (.bool x.may) s:=by
 refine aA.pure ?_ (by simp[D.bN,D.ok,gE]) rfl s
 have hd:=fun s=>afq 20 (by decide) x hx s
 have c20:((20:Nat):Int)=20:=rfl
 rw[c20]at hd
 have hf:=afr _ x (Nat.le_refl _) hx ht
 unfold S0
 generalize h:Ex.may x=p
 unfold Ex.may at h
 refine aA.go Ft rfl fun B Q hB hQ=>?_
 have⟨hY,hZ,gA,gB⟩:=bu
 repeat' (first
 |simp only[go_sem,hY,hZ,gA,gB]
 |(with_reducible refine CU (hd _) ?_)
 |(with_reducible refine CU (hf _) ?_)
 |(with_reducible first|refine bq fun hc=>?_|refine br fun hc=>?_|refine bt (fun hc=>?_) fun hc=>?_)<;>(try simp only[hc,bs,↓reduceIte]at h)<;>try simp only[hc]
 |(with_reducible refine aB hQ ?_;exact eo))
theorem UG (x:Ex) (s:St):aA Tryz.prog uL [.agg (bx x)] s (.bool x.none) s:=by
 refine aA.pure ?_ (by simp[D.bN,D.ok,gE]) rfl s
 unfold S0
 generalize h:Ex.none x=p
 unfold Ex.none at h
 refine aA.go Kb rfl fun B Q hB hQ=>?_
 have⟨hY,hZ,gA,gB⟩:=bu
 repeat' (first
 |simp only[go_sem,hY,hZ,gA,gB]
 |(with_reducible first|refine bq fun hc=>?_|refine br fun hc=>?_|refine bt (fun hc=>?_) fun hc=>?_)<;>(try simp only[hc,bs,↓reduceIte]at h)<;>try simp only[hc]
 |(with_reducible refine aB hQ ?_;exact eo))
theorem aiA {a:Ar} (hx:a.x.size<4611686018427387904) (ht:a.x.texts) (hn:a.name.length<4611686018427387904) (s:St):aA Tryz.prog Bk [.agg (fb a)] s (.bool a.may) s:=by
 refine aA.pure ?_ (by simp[D.bN,D.ok,L0]) rfl s
 have hm:=I9 hx ht
 have h1:=uc a.name hn
 unfold S0
 generalize h:Ar.may a=p
 simp only[Ar.may]at h
 refine aA.go Me rfl fun B Q hB hQ=>?_
 have⟨hY,hZ,gA,gB⟩:=bu
 repeat' (first
 |simp only[go_sem,hY,hZ,gA,gB]
 |(with_reducible refine CU (hm _) ?_)
 |(with_reducible refine CU (h1 _) ?_)
 |(with_reducible refine CU (UG _ _) ?_)
 |(with_reducible first|refine bq fun hc=>?_|refine br fun hc=>?_|refine bt (fun hc=>?_) fun hc=>?_)<;>(try simp only[hc,bs,↓reduceIte]at h)<;>try simp only[hc]
 |(with_reducible refine aB hQ ?_;exact eo))
structure Sm.kJ (s:Sm):Prop where
 Da : ∀ t∈s.labels,t.length<4611686018427387904
 afs:s.labels.length<4611686018427387904
 name:s.name.length<4611686018427387904
 proc:s.proc.length<4611686018427387904
 x:s.x.size<4611686018427387904
 xt:s.x.texts
 aft:s.args.length<4611686018427387904
 arg : ∀ a∈s.args,a.x.size<4611686018427387904∧a.x.texts∧a.name.length<4611686018427387904
section
variable {v:Sm} {B:fZ} {Q:Exit→Tm→St→Prop} {p:Bool}
theorem aiB (hf:v.kJ) (hB:B.s = ⟨[],[]⟩) (hQ:jO 0 0 [(2,none)] (.bool p) ⟨[],[]⟩=Q)
 (h:(if !(Ar.e7 v.args)then false else((v.aS.length:Int)==0 ||v.kind==5 ||v.kind==6) && ((v.aL.length:Int)==0 ||v.kind==5))=p) :
 Sem Tryz.prog B 178 ae8 Q [(1, .ptr 0 0)] ⟨[bh v],[]⟩:=by
 have aBD:=hf.aft
 have X8:=fun a ha s=>aiA (hf.arg a ha).1 (hf.arg a ha).2.1 (hf.arg a ha).2.2 s
 have⟨hY,hZ,gA,gB⟩:=bu
 refine jn ?_
 repeat' (first
 |simp only[go_sem,hY,hZ,gA,gB]
 |(with_reducible refine aB hQ ?_;exact aU))
 refine cq 1 0 (bn.ind (ι:=List Ar×Nat) (fun i=>v.args.drop i.2=i.1∧(if !(Ar.e7 i.1)then false else((v.aS.length:Int)==0 ||v.kind==5 ||v.kind==6) && ((v.aL.length:Int)==0 ||v.kind==5))=p) (fun i=>i.1.length)
  (fun i=> [(1, .ptr 0 0),(143, .slice .shared 6 (v.args.map fb)),(144, .int .i64 (v.args.length:Int)),(145, .int .i64 (i.2:Int))]) (fun i=>⟨[bh v],[]⟩) ?_ (v.args,0) ⟨rfl,h⟩)
 rintro⟨rest,k⟩ ⟨h1,h⟩ IH
 dsimp only at h1 h
 cases rest with
 |nil=>
  have hY:=drop_nil h1
  simp only[Ar.e7,Bool.not_true,Bool.false_eq_true,↓reduceIte]at h
  repeat' (first
 |simp only[go_sem,hY,hZ,gA,gB]
 |(with_reducible first|refine bq fun hc=>?_|refine br fun hc=>?_|refine bt (fun hc=>?_) fun hc=>?_)<;>(try simp only[hc,bs,↓reduceIte]at h)<;>try simp only[hc]
 | (with_reducible refine aB hQ ?_;(try cases h);simp only[cj,cr,dK,dL,go_sem,hY,hZ,gA,gB];repeat' (first|exact Ok.out|with_reducible refine kM ?_ ?_|(simp;done))))
  all_goals
   simp only[*]
   exact Ok.out
 |cons a rest=>
  obtain⟨hZ,g2,hY,g4⟩:=drop_cons h1
  have ha:=X8 a (List.mem_of_getElem? hZ)
  have gA:k<4611686018427387904:=by omega
  simp only[Ar.e7]at h
  repeat' (first
 |simp only[go_sem,hY,hZ,gA,gB]
 |(with_reducible refine CU (ha _) ?_)
 |(with_reducible first|refine bq fun hc=>?_|refine br fun hc=>?_|refine bt (fun hc=>?_) fun hc=>?_)<;>(try simp only[hc,bs,↓reduceIte]at h)<;>try simp only[hc]
 |(with_reducible refine aB hQ ?_;exact eo))
  refine cq 1 0 (IH (rest,k+1) ⟨g2,h⟩ (Nat.lt_succ_self _))
theorem aiC {cl:Bool} (hf:v.kJ) (hB:B.s = ⟨[],[]⟩) (hQ:jO 0 0 [(2,none)] (.bool p) ⟨[],[]⟩=Q)
 (h:(if !(cl == !(v.proc == [])) || (cl && !(isName v.proc)) || (!cl && decide ((v.args.length:Int) > 0))then false
  else if !(Ar.e7 v.args)then false else((v.aS.length:Int)==0 ||v.kind==5 ||v.kind==6) && ((v.aL.length:Int)==0 ||v.kind==5))=p) :
 Sem Tryz.prog B 178 ae9 Q [(1, .ptr 0 0),(5, .bool cl)] ⟨[bh v],[]⟩:=by
 have rR:=uc v.proc hf.proc
 have⟨hY,hZ,gA,gB⟩:=bu
 refine Sem.ma ?_
 repeat' (first
 |simp only[go_sem,hY,hZ,gA,gB]
 |(with_reducible refine CU (rR _) ?_)
 |(with_reducible first|refine bq fun hc=>?_|refine br fun hc=>?_|refine bt (fun hc=>?_) fun hc=>?_)<;>(try simp only[hc,bs,↓reduceIte]at h)<;>try simp only[hc]
 |(with_reducible refine aB hQ ?_;(try cases h);simp only[cj,cr,dK,dL,go_sem,hY,hZ,gA,gB];repeat' (first|exact Ok.out|with_reducible refine kM ?_ ?_|(simp;done))))
 all_goals
  refine Sem.re _ _ 1 0 (by rw[hB];exact n7 rfl) (by rw[hB];exact n7 rfl) ?_ ?_ (aiB hf hB hQ h)
  ·(simp only[go_sem,hY,hZ,gA,gB];repeat' (first|exact Ok.out|with_reducible refine kM ?_ ?_))
  ·(simp only[go_sem,hY,hZ,gA,gB];repeat' (first|exact Ok.out|with_reducible refine kM ?_ ?_))
theorem aiD {hn cl:Bool} (hf:v.kJ) (hB:B.s = ⟨[],[]⟩) (hQ:jO 0 0 [(2,none)] (.bool p) ⟨[],[]⟩=Q)
 (h:(if(hn && !(isName v.name)) || (!hn && !(v.name == []) && !(cl && isName v.name))then false
  else if !(cl == !(v.proc == [])) ||(cl && !(isName v.proc)) ||(!cl && decide ((v.args.length:Int) > 0))then false
  else if !(Ar.e7 v.args)then false else((v.aS.length:Int)==0 ||v.kind==5 ||v.kind==6) && ((v.aL.length:Int)==0 ||v.kind==5))=p) :
 Sem Tryz.prog B 178 afa Q [(1, .ptr 0 0),(4, .bool hn),(5, .bool cl)] ⟨[bh v],[]⟩:=by
 have wz:=uc v.name hf.name
 have⟨hY,hZ,gA,gB⟩:=bu
 have k:=@aiC v B Q p cl hf hB hQ
 cases cl
 all_goals
  refine Sem.ma ?_
  repeat' (first
 |simp only[go_sem,hY,hZ,gA,gB]
 |(with_reducible refine CU (wz _) ?_)
 |(with_reducible first|refine bq fun hc=>?_|refine br fun hc=>?_|refine bt (fun hc=>?_) fun hc=>?_)<;>(try simp only[hc,bs,↓reduceIte]at h)<;>try simp only[hc]
 |(with_reducible refine aB hQ ?_;(try cases h);simp only[cj,cr,dK,dL,go_sem,hY,hZ,gA,gB];repeat' (first|exact Ok.out|with_reducible refine kM ?_ ?_|(simp;done))))
 all_goals
  refine Sem.re _ _ 1 0 (by rw[hB];exact n7 rfl) (by rw[hB];exact n7 rfl) ?_ ?_ (k (by simpa only[bs,↓reduceIte]using h))
  ·(simp only[go_sem,hY,hZ,gA,gB];repeat' (first|exact Ok.out|with_reducible refine kM ?_ ?_))
  ·(simp only[go_sem,hY,hZ,gA,gB];repeat' (first|exact Ok.out|with_reducible refine kM ?_ ?_))
theorem aiE {hx hn cl:Bool} (hf:v.kJ) (hB:B.s = ⟨[],[]⟩) (hQ:jO 0 0 [(2,none)] (.bool p) ⟨[],[]⟩=Q)
 (h:(if decide (v.kind<1) || decide (v.kind > 10) || !(dn v.labels) || (hx && !(v.x.may)) || (!hx && !(v.x.none)) || (v.has && v.kind != 9)then false
  else if(hn && !(isName v.name)) ||(!hn && !(v.name == []) && !(cl && isName v.name))then false
  else if !(cl == !(v.proc == [])) ||(cl && !(isName v.proc)) ||(!cl && decide ((v.args.length:Int) > 0))then false
  else if !(Ar.e7 v.args)then false else((v.aS.length:Int)==0 ||v.kind==5 ||v.kind==6) && ((v.aL.length:Int)==0 ||v.kind==5))=p) :
 Sem Tryz.prog B 178 afb Q [(1, .ptr 0 0),(3, .bool hx),(4, .bool hn),(5, .bool cl)] ⟨[bh v],[]⟩:=by
 have hns:=fun s=>Br hf.afs hf.Da s
 have hm:=I9 hf.x hf.xt
 have⟨hY,hZ,gA,gB⟩:=bu
 refine Sem.ma ?_
 repeat' (first
 |simp only[go_sem,hY,hZ,gA,gB]
 |(with_reducible refine CU (hns _) ?_)
 |(with_reducible refine CU (hm _) ?_)
 |(with_reducible refine CU (UG _ _) ?_)
 |(with_reducible first|refine bq fun hc=>?_|refine br fun hc=>?_|refine bt (fun hc=>?_) fun hc=>?_)<;>(try simp only[hc,bs,↓reduceIte]at h)<;>try simp only[hc]
 |(with_reducible refine aB hQ ?_;(try cases h);simp only[cj,cr,dK,dL,go_sem,hY,hZ,gA,gB];repeat' (first|exact Ok.out|with_reducible refine kM ?_ ?_|(simp;done))))
 all_goals
  refine Sem.re _ _ 1 0 (by rw[hB];exact n7 rfl) (by rw[hB];exact n7 rfl) ?_ ?_ (aiD hf hB hQ h)
  ·(simp only[go_sem,hY,hZ,gA,gB];repeat' (first|exact Ok.out|with_reducible refine kM ?_ ?_))
  ·(simp only[go_sem,hY,hZ,gA,gB];repeat' (first|exact Ok.out|with_reducible refine kM ?_ ?_))
theorem aiF {hx hn:Bool} (hf:v.kJ) (hB:B.s = ⟨[],[]⟩) (hQ:jO 0 0 [(2,none)] (.bool p) ⟨[],[]⟩=Q) (ex:v.iZ=hx) (en:v.hasName=hn) (h:v.one=p) :
 Sem Tryz.prog B 178 afc Q [(1, .ptr 0 0),(3, .bool hx),(4, .bool hn)] ⟨[bh v],[]⟩:=by
 unfold Sm.one at h
 rw[ex,en]at h
 have⟨hY,hZ,gA,gB⟩:=bu
 refine Sem.ma ?_
 repeat' (first
 |simp only[go_sem,hY,hZ,gA,gB]
 |(with_reducible refine aB hQ ?_;exact aU))
 refine Sem.re _ _ 1 0 (by rw[hB];exact n7 rfl) (by rw[hB];exact n7 rfl) ?_ ?_ (aiE hf hB hQ h)
 ·(simp only[go_sem,hY,hZ,gA,gB,Sm.kO];repeat' (first|exact Ok.out|with_reducible refine kM ?_ ?_))
 ·(simp only[go_sem,hY,hZ,gA,gB,Sm.kO];repeat' (first|exact Ok.out|with_reducible refine kM ?_ ?_))
theorem aiG {hx:Bool} (hf:v.kJ) (hB:B.s = ⟨[],[]⟩) (hQ:jO 0 0 [(2,none)] (.bool p) ⟨[],[]⟩=Q) (ex:v.iZ=hx) (hp:v.one=p) :
 Sem Tryz.prog B 178 afd Q [(1, .ptr 0 0),(3, .bool hx)] ⟨[bh v],[]⟩:=by
 generalize h:v.hasName=hn
 have hn:=h
 unfold Sm.hasName at h
 have⟨hY,hZ,gA,gB⟩:=bu
 refine Sem.ma ?_
 repeat' (first
 |simp only[go_sem,hY,hZ,gA,gB]
 |(with_reducible first|refine bq fun hc=>?_|refine br fun hc=>?_|refine bt (fun hc=>?_) fun hc=>?_)<;>(try simp only[hc,bs,↓reduceIte]at h)<;>try simp only[hc]
 |(with_reducible refine aB hQ ?_;simp only[cj,cr,dK,dL,go_sem,hY,hZ,gA,gB];repeat' (first|exact Ok.out|with_reducible refine kM ?_ ?_|(simp;done))))
 all_goals
  refine Sem.re _ _ 1 0 (by rw[hB];exact n7 rfl) (by rw[hB];exact n7 rfl) ?_ ?_ (aiF hf hB hQ ex hn hp)
  ·(simp only[go_sem,hY,hZ,gA,gB,h];repeat' (first|exact Ok.out|with_reducible refine kM ?_ ?_))
  ·(simp only[go_sem,hY,hZ,gA,gB,h];repeat' (first|exact Ok.out|with_reducible refine kM ?_ ?_))
theorem aiH (hf:v.kJ) (hB:B.s = ⟨[],[]⟩) (hQ:jO 0 0 [(2,none)] (.bool p) ⟨[],[]⟩=Q) (hp:v.one=p) :
 Sem Tryz.prog B 178 afe Q [(1, .ptr 0 0)] ⟨[bh v],[]⟩:=by
 generalize h:v.iZ=hx
 have ex:=h
 unfold Sm.iZ at h
 have⟨hY,hZ,gA,gB⟩:=bu
 refine Sem.ma ?_
 repeat' (first
 |simp only[go_sem,hY,hZ,gA,gB]
 |(with_reducible first|refine bq fun hc=>?_|refine br fun hc=>?_|refine bt (fun hc=>?_) fun hc=>?_)<;>(try simp only[hc,bs,↓reduceIte]at h)<;>try simp only[hc]
 |(with_reducible refine aB hQ ?_;simp only[cj,cr,dK,dL,go_sem,hY,hZ,gA,gB];repeat' (first|exact Ok.out|with_reducible refine kM ?_ ?_|(simp;done))))
 all_goals
  refine Sem.re _ _ 1 0 (by rw[hB];exact n7 rfl) (by rw[hB];exact n7 rfl) ?_ ?_ (aiG hf hB hQ ex hp)
  ·(simp only[go_sem,hY,hZ,gA,gB,h];repeat' (first|exact Ok.out|with_reducible refine kM ?_ ?_))
  ·(simp only[go_sem,hY,hZ,gA,gB,h];repeat' (first|exact Ok.out|with_reducible refine kM ?_ ?_))
end
theorem aA.goS {P:Program} {f:FuncId} {nt:Nat} {res:List (Nat×Option (Bool×Nat))} {body:AC} {args:List D} {s:St} {d:D} {s':St} (h0:Has P f nt res body) (hl:Nat.ble args.length nt=true)
 (h : ∀ (B:fZ) (Q:Exit→Tm→St→Prop),B.s=s→jO s.az.length s.aD.length res d s'=Q→Sem P B nt body Q (pX 0 args) s):aA P f args s d s':=by
 obtain⟨fn,hf,hc⟩:=h0
 exact aA.intro ⟨fn,hf,hc⟩ (Nat.le_of_ble_eq_true hl) fun B hB=>h B _ hB rfl
theorem Gy {v:Sm} (hf:v.kJ) (s:St):aA Tryz.prog Bj [.agg (bh v)] s (.bool v.one) s:=by
 refine aA.pure ?_ (by simp[D.bN,D.ok,np]) rfl s
 unfold S0
 refine aA.goS Mh rfl fun B Q hB hQ=>?_
 have⟨hY,hZ,gA,gB⟩:=bu
 refine Sem.ma ?_
 repeat' (first
 |simp only[go_sem,hY,hZ,gA,gB]
 |(with_reducible refine aB hQ ?_;exact aU))
 refine Sem.re _ _ 1 0 (by rw[hB];exact n7 rfl) (by rw[hB];exact n7 rfl) ?_ ?_ (aiH hf hB hQ rfl)
 ·(simp only[go_sem,hY,hZ,gA,gB];repeat' (first|exact Ok.out|with_reducible refine kM ?_ ?_))
 ·(simp only[go_sem,hY,hZ,gA,gB];repeat' (first|exact Ok.out|with_reducible refine kM ?_ ?_))
end Go.Abs
namespace Go.Abs
set_option maxRecDepth 8000
open Go.Proofs
def fD (i:Im):List D:= [.int .i64 i.s.id, .int .i64 i.s.kind, .slice .shared 1 (i.s.labels.map encStr), .str i.s.name, .str i.s.proc,
 .int .i64 i.s.x.op, .int .i64 i.s.x.n, .str i.s.x.name, .slice .shared 4 (i.s.x.kids.map bx), .bool i.s.has, .slice .shared 6 (i.s.args.map fb), .slice .shared 13 (i.s.aS.map bh), .slice .shared 13 (i.s.aL.map bh), .int .i64 i.proc, .int .i64 i.up, .int .i64 i.next, .int .i64 i.loop]
def nJ (n:Int):List D:= [.int .i64 n]
theorem Sg (i:Im):D.bN 0 0 (fD i)=true:=by simp[fD,D.bN,D.ok,Tag.ok,fw,Z5,Ky,mZ]
theorem KS (l:List Im):D.kc 0 0 (l.map fD)=true:=iL Sg l
theorem aaH (n m:Nat) (l:List Im):D.lE n m (l.map fD)=l.map fD:=ov Sg n m l
theorem aiI (n m:Nat) (i:Im):D.je n m (fD i)=fD i:=jx n m _ (Sg i)
theorem aiJ (x:Im):(fD x).length=17:=nd rfl
theorem ab9 (x:Im):List.take 17 (fD x)=fD x:=nd rfl
theorem afv (x:Im):List.drop 17 (fD x) = []:=nd rfl
theorem afw (x:Im):List.take 13 (fD x)=bh x.s:=by simp only[fD,dF];rfl
theorem X9 (x:Im):(fD x)[0]? = some (.int .i64 x.s.id):=nd rfl
theorem Ya (x:Im):(fD x)[1]? = some (.int .i64 x.s.kind):=nd rfl
theorem Yb (x:Im):(fD x)[4]? = some (.str x.s.proc):=nd rfl
theorem UH (x:Im):(fD x)[13]? = some (.int .i64 x.proc):=nd rfl
theorem UI (x:Im):(fD x)[14]? = some (.int .i64 x.up):=nd rfl
theorem UJ (x:Im):(fD x)[15]? = some (.int .i64 x.next):=nd rfl
theorem UK (x:Im):(fD x)[16]? = some (.int .i64 x.loop):=nd rfl
theorem Si (s:Sm) (a b c d:Int):fD ⟨s,a,b,c,d⟩ = [.int .i64 s.id, .int .i64 s.kind, .slice .shared 1 (s.labels.map encStr), .str s.name, .str s.proc,
 .int .i64 s.x.op, .int .i64 s.x.n, .str s.x.name, .slice .shared 4 (s.x.kids.map bx), .bool s.has, .slice .shared 6 (s.args.map fb), .slice .shared 13 (s.aS.map bh), .slice .shared 13 (s.aL.map bh), .int .i64 a, .int .i64 b, .int .i64 c, .int .i64 d]:=nd rfl
theorem aaI (n:Int):D.bN 0 0 (nJ n)=true:=rfl
theorem Db (l:List Int):D.kc 0 0 (l.map nJ)=true:=iL aaI l
theorem UL (n m:Nat) (l:List Int):D.lE n m (l.map nJ)=l.map nJ:=ov aaI n m l
attribute [go_sem] aaH aiI aiJ ab9 afv afw X9 Ya Yb UH UI UJ UK UL nJ
theorem afx : ∀ n,n<1000000000→∀ v:Sm,v.size≤n→aA Tryz.prog nW [.agg (bh v)] S0 (.int .i64 (v.jy:Int)) S0:=by
 intro n
 induction n with
 |zero=>intro _ v h;obtain⟨_,_,_,_,_,_,_,_,_,_⟩:=v;simp only[Sm.size]at h;omega
 |succ n ih=>
 intro hn v hv
 have ew:Sm.aT v.aS≤n∧Sm.aT v.aL≤n∧v.jy=1+Sm.fj v.aS+Sm.fj v.aL:=by
  obtain⟨_,_,_,_,_,_,_,_,_,_⟩:=v
  simp only[Sm.size]at hv;exact⟨by dsimp only;omega,by dsimp only;omega,rfl⟩
 obtain⟨h1,h2,h3⟩:=ew
 have c1:=mn v.aS
 have c2:=mn v.aL
 have l1:=Sm.cu v.aS
 have l2:=Sm.cu v.aL
 have hk : ∀ y,y∈v.aS∨y∈v.aL→∀ s,aA Tryz.prog nW [.agg (bh y)] s (.int .i64 (y.jy:Int)) s:=fun y hy s=>
  (ih (by omega) y (by rcases hy with hy|hy<;>(have:=Sm.bJ hy;omega))).pure (by simp only[D.bN,D.ok,np];rfl) rfl s
 rw[h3]
 unfold S0
 refine aA.go Kl rfl fun B Q hB hQ=>?_
 have⟨hY,hZ,gA,gB⟩:=bu
 repeat' (first
 |simp only[go_sem,hY,hZ,gA,gB]
 |(with_reducible refine aB hQ ?_;exact aU))
 refine cq 1 0 (bn.ind (ι:=List Sm×Nat×Nat) (fun i=>v.aS.drop i.2.1=i.1∧i.2.2+Sm.fj i.1=1+Sm.fj v.aS) (fun i=>i.1.length)
  (fun i=> [(1, .ptr 0 0),(3, .int .i64 (i.2.2:Int)),(9, .slice .shared 13 (v.aS.map bh)),(10, .int .i64 (v.aS.length:Int)),(11, .int .i64 (i.2.1:Int))]) (fun i=>⟨[bh v],[]⟩) ?_ (v.aS,0,1) ⟨rfl,rfl⟩)
 rintro⟨rest,k,c⟩ ⟨g1,g2⟩ IH
 dsimp only at g1 g2
 cases rest with
 |cons y rest=>
  obtain⟨hZ,g3,hY,g4⟩:=drop_cons g1
  have hy:=hk y (.inl (List.mem_of_getElem? hZ))
  simp only[Sm.fj]at g2
  have hcy:=E8 y
  have FU:=Sm.bJ (List.mem_of_getElem? hZ)
  have w1:IntKind.wrap .i64 ((k:Int)+1)=((k+1:Nat):Int):=by rw[bC]<;>omega
  have w2:IntKind.wrap .i64 ((c:Int)+(y.jy:Int))=((c+y.jy:Nat):Int):=by rw[bC]<;>omega
  repeat' (first
 |simp only[go_sem,hY,hZ,gA,gB,w1,w2]
 |(with_reducible refine CU (hy _) ?_)
 |(with_reducible refine aB hQ ?_;exact aU))
  refine cq 1 0 (IH (rest,k+1,c+y.jy) ⟨g3,by dsimp only;omega⟩ (Nat.lt_succ_self _))
 |nil=>
  have hY:=drop_nil g1
  simp only[Sm.fj,Nat.add_zero]at g2
  subst g2
  repeat' (first
 |simp only[go_sem,hY,hZ,gA,gB]
 | (with_reducible refine aB hQ ?_;exact aU))
  refine cq 1 0 (bn.ind (ι:=List Sm×Nat×Nat) (fun i=>v.aL.drop i.2.1=i.1∧i.2.2+Sm.fj i.1=1+Sm.fj v.aS+Sm.fj v.aL) (fun i=>i.1.length)
   (fun i=> [(1, .ptr 0 0),(3, .int .i64 (i.2.2:Int)),(21, .slice .shared 13 (v.aL.map bh)),(22, .int .i64 (v.aL.length:Int)),(23, .int .i64 (i.2.1:Int))]) (fun i=>⟨[bh v],[]⟩) ?_ (v.aL,0,1+Sm.fj v.aS) ⟨rfl,rfl⟩)
  rintro⟨rest,k,c⟩ ⟨g1,g2⟩ IH
  dsimp only at g1 g2
  cases rest with
  |cons y rest=>
   obtain⟨hZ,g3,hY,g4⟩:=drop_cons g1
   have hy:=hk y (.inr (List.mem_of_getElem? hZ))
   simp only[Sm.fj]at g2
   have hcy:=E8 y
   have FU:=Sm.bJ (List.mem_of_getElem? hZ)
   have w1:IntKind.wrap .i64 ((k:Int)+1)=((k+1:Nat):Int):=by rw[bC]<;>omega
   have w2:IntKind.wrap .i64 ((c:Int)+(y.jy:Int))=((c+y.jy:Nat):Int):=by rw[bC]<;>omega
   repeat' (first
 |simp only[go_sem,hY,hZ,gA,gB,w1,w2]
 |(with_reducible refine CU (hy _) ?_)
 | (with_reducible refine aB hQ ?_;exact aU))
   refine cq 1 0 (IH (rest,k+1,c+y.jy) ⟨g3,by dsimp only;omega⟩ (Nat.lt_succ_self _))
  |nil=>
   have hY:=drop_nil g1
   simp only[Sm.fj,Nat.add_zero]at g2
   subst g2
   repeat' (first
 |simp only[go_sem,hY,hZ,gA,gB]
 |(with_reducible refine aB hQ ?_;exact aU))
theorem afy {v:Sm} (h:v.size<1000000000) (s:St):aA Tryz.prog nW [.agg (bh v)] s (.int .i64 (v.jy:Int)) s:=
 (afx v.size h v (Nat.le_refl _)).pure (by simp only[D.bN,D.ok,np];rfl) rfl s
end Go.Abs
namespace Go.Abs
set_option maxRecDepth 8000
open Go.Proofs
abbrev jI (g ps:D) (L:List Im) (lo hi:List Int):List D:= [g,ps, .slice (.tok 0) 17 (L.map fD), .slice (.tok 1) 1 (lo.map nJ), .slice (.tok 2) 1 (hi.map nJ)]
abbrev Yc (proc up next loop:Int):List D:= [.int .i64 0, .int .i64 0, .slice .full 0 [], .str [], .str [], .int .i64 0, .int .i64 0, .str [], .slice .full 0 [], .bool false, .slice .full 0 [], .slice .full 0 [], .slice .full 0 [], .int .i64 proc, .int .i64 up, .int .i64 next, .int .i64 loop]
theorem aA.aiK {P:Program} {f:Nat} {args:List D} {g ps:D} {L L':List Im} {lo hi IU jd:List Int} {a b c a' b' c':Option Nat}
 (h:aA P f (.ptr 0 0::args) ⟨[jI g ps L lo hi],[a,b,c]⟩ (.tuple []) ⟨[jI g ps L' IU jd],[a',b',c']⟩)
 (ha:D.bN 0 0 args=true) (hg:D.ok 0 0 g=true) (hp:D.ok 0 0 ps=true)
 {s:St} {o:Nat} (ho:s.az[o]? = some (jI g ps L lo hi)) (ht:s.aD = [a,b,c]):aA P f (.ptr o 0::args) s (.tuple []) ⟨s.az.set o (jI g ps L' IU jd),[a',b',c']⟩:=by
 have hr : ∀ (L:List Im) (lo hi:List Int),D.iu [o] [0,1,2] (jI g ps L lo hi)=jI g ps L lo hi:=fun L lo hi=>by
  simp[D.iu,D.ey,Tag.ey,tW _ _ _ hg,tW _ _ _ hp,kD _ _ _ (KS L),kD _ _ _ (Db lo),kD _ _ _ (Db hi)]
 have hk : ∀ (L:List Im) (lo hi:List Int),D.bN 1 3 (jI g ps L lo hi)=true:=fun L lo hi=>by
  simp[D.bN,D.ok,Tag.ok,HO (Nat.zero_le 1) (Nat.zero_le 3) _ hg,HO (Nat.zero_le 1) (Nat.zero_le 3) _ hp,o6 (Nat.zero_le 1) (Nat.zero_le 3) _ (KS L),o6 (Nat.zero_le 1) (Nat.zero_le 3) _ (Db lo),o6 (Nat.zero_le 1) (Nat.zero_le 3) _ (Db hi)]
 refine fh.frame [o] [0,1,2] h (by simp) (by decide) (by simpa using (List.getElem?_eq_some_iff.1 ho).1) (by rw[ht];simp) rfl (fun i o' ds e1 e2=>?_) rfl (fun i t' e1=>?_)
  (by simp[D.iu,D.ey,fX _ _ _ ha])
  (by simp[D.bN,D.ok,jf (Nat.zero_le 1) (Nat.zero_le 3) _ ha]) ?_
 ·cases i with
  |zero=>simp only[List.getElem?_cons_zero,Option.some.injEq]at e1 e2;subst e1;subst e2;exact⟨by rw[hr];exact ho,hk L lo hi⟩
  |succ i=>simp at e1
 ·rw [ht]
  match i,e1 with
  | 0,e1=>simp at e1;subst e1;rfl
  | 1,e1=>simp at e1;subst e1;rfl
  | 2,e1=>simp at e1;subst e1;rfl
  |i+3,e1=>simp at e1
 ·rintro _ _ ⟨rfl,rfl⟩
  refine⟨by simp[D.back,D.ey,D.iu], ?_⟩
  have:=hr L' IU jd
  simp[St.back,lK,lF,this,ht]
abbrev aaJ (N:Nat):Prop:=∀ (l:List Sm) (proc up next loop:Int) (out:List Im) (g ps:D) (lo hi:List Int) (b c:Option Nat),Sm.aT l<N→out.length+Sm.fj l<1000000000→D.ok 0 0 g=true→D.ok 0 0 ps=true→
 ∀ {s:St} {o:Nat},s.az[o]? = some (jI g ps out lo hi)→s.aD = [some out.length,b,c]→
 aA Tryz.prog kV [.ptr o 0, .slice .shared 13 (l.map bh), .agg (Yc proc up next loop)] s (.tuple []) ⟨s.az.set o (jI g ps (Im.rows proc up next loop out l) lo hi),[some (Im.rows proc up next loop out l).length,b,c]⟩
theorem aiL {N:Nat} (ih:aaJ N) {l:List Sm} {proc up next loop:Int} {out:List Im} {g ps:D} {lo hi:List Int} {b c:Option Nat} (hs:Sm.aT l<N+1) (hc:out.length+Sm.fj l<1000000000) (hg:D.ok 0 0 g=true) (hp:D.ok 0 0 ps=true) (hN:N<1000000000) :
 aA Tryz.prog kV [.ptr 0 0, .slice .shared 13 (l.map bh), .agg (Yc proc up next loop)] ⟨[jI g ps out lo hi],[some out.length,b,c]⟩ (.tuple []) ⟨[jI g ps (Im.rows proc up next loop out l) lo hi],[some (Im.rows proc up next loop out l).length,b,c]⟩:=by
 obtain⟨R,hR⟩ : ∃ R,R=Im.rows proc up next loop out l:=⟨_,rfl⟩
 have hlR:R.length=out.length+Sm.fj l:=by rw[hR,iw]
 rw[← hR]
 have k1 : ∀ n m,D.fg n m g=g:=fun n m=>RK n m _ hg
 have k2 : ∀ n m,D.fg n m ps=ps:=fun n m=>RK n m _ hp
 refine aA.go C6 rfl fun B Q hB hQ=>?_
 have⟨hY,hZ,gA,gB⟩:=bu
 repeat' (first
 |simp only[go_sem,hY,hZ,gA,gB,k1,k2]
 |(with_reducible first|refine bq fun hc=>?_|refine br fun hc=>?_|refine bt (fun hc=>?_) fun hc=>?_)<;>(try simp only[hc,bs,↓reduceIte]at h)<;>try simp only[hc]
 |(with_reducible refine aB hQ ?_;simp only[cj,cr,dK,dL,go_sem,hY,hZ,gA,gB,k1,k2];try exact dM))
 refine eQ 2 3 ?_ ?_ (bn.ind (ι:=List Sm×Nat×List Im) (fun i=>l.drop i.2.1=i.1∧Im.rows proc up next loop i.2.2 i.1=R∧i.2.2.length+Sm.fj i.1=out.length+Sm.fj l) (fun i=>i.1.length)
  (fun i=> [(0, .ptr 0 0),(1, .slice .shared 13 (l.map bh)),(5, .ptr 1 0),(11, .slice .shared 13 (l.map bh)),(12, .int .i64 (l.length:Int)),(13, .int .i64 (i.2.1:Int))]) (fun i=>⟨[jI g ps i.2.2 lo hi,Yc proc up next loop],[some i.2.2.length,b,c]⟩) ?_ (l,0,out) ⟨rfl,hR.symm,rfl⟩)
 ·(simp only[go_sem,hY,hZ,gA,gB,k1,k2];try exact bQ)
 ·(simp only[go_sem,hY,hZ,gA,gB,k1,k2];try exact bQ)
 rintro⟨rest,k,cU⟩ ⟨h1,h2,h3⟩ IH
 dsimp only at h1 h2 h3
 have hlen:l.length<1000000000:=by have:=Sm.cu l;omega
 cases rest with
 |nil=>
  have hY:=drop_nil h1
  simp only[Im.rows]at h2
  subst h2
  repeat' (first
 |simp only[go_sem,hY,hZ,gA,gB,k1,k2]
 |(with_reducible first|refine bq fun hc=>?_|refine br fun hc=>?_|refine bt (fun hc=>?_) fun hc=>?_)<;>(try simp only[hc,bs,↓reduceIte]at h)<;>try simp only[hc]
 |(with_reducible refine aB hQ ?_;simp only[cj,cr,dK,dL,go_sem,hY,hZ,gA,gB,k1,k2];try exact dM))
 | cons v rest=>
  obtain⟨hZ,g2,hY,g4⟩:=drop_cons h1
  have cd:k<4611686018427387904:=by omega
  have hv:=Sm.bJ (List.mem_of_getElem? hZ)
  have ql:Sm.aT v.aS<N∧Sm.aT v.aL<N∧v.jy=1+Sm.fj v.aS+Sm.fj v.aL:=by
   obtain⟨_,_,_,_,_,_,_,_,_,_⟩:=v
   simp only[Sm.size]at hv
   exact⟨by dsimp only;omega,by dsimp only;omega,rfl⟩
  obtain⟨F0,Lr,hv3⟩:=ql
  simp only[Sm.fj]at h3
  simp only[Im.rows,Im.aeH]at h2
  have gA:(cU.length+1)*241≤aF:=by unfold aF;omega
  have O9:IntKind.wrap .i64 ((cU.length:Int)+1)=(cU.length:Int)+1:=bC (by omega) (by omega)
  have sj:IntKind.wrap .i64 ((k:Int)+1)=((k+1:Nat):Int):=by rw[bC]<;>omega
  have hw3:IntKind.wrap .i64 ((cU.length:Int)+1+(v.jy:Int))=(cU.length:Int)+1+(v.jy:Int):=bC (by omega) (by omega)
  have ew:=fun s=>afy (v:=v) (by omega) s
  simp only[dF]at ew
  have OS:rest.length=l.length - (k+1):=by rw[← g2,List.length_drop]
  by_cases aBE:k+1<l.length
  ·have d1:decide (((k+1:Nat):Int)<(l.length:Int))=true:=by simp;omega
   have e1:(rest.length=0)=False:=by simp;intro h;rw[h]at OS;simp at OS;omega
   by_cases UM:v.kind=6
   ·have d2:(v.kind==6)=true:=by simp [UM]
    simp only[e1,d2,↓reduceIte,Bool.false_eq_true]at h2
    have f1:=fun {s:St} {o:Nat}=>@ih v.aS proc ((cU.length:Int)+1) ((cU.length:Int)+1) ((cU.length:Int)+1) (cU++ [⟨v,proc,up,((cU.length:Int)+1+(v.jy:Int)),loop⟩]) g ps lo hi b c F0 (by simp;omega) hg hp s o
    have f2:=fun {s:St} {o:Nat}=>@ih v.aL proc ((cU.length:Int)+1) ((cU.length:Int)+1) ((cU.length:Int)+1) _ g ps lo hi b c Lr (by rw[iw proc ((cU.length:Int)+1) ((cU.length:Int)+1) ((cU.length:Int)+1) (cU++ [⟨v,proc,up,((cU.length:Int)+1+(v.jy:Int)),loop⟩]) v.aS];simp;omega) hg hp s o
    have hl:(Im.rows proc ((cU.length:Int)+1) ((cU.length:Int)+1) ((cU.length:Int)+1) (Im.rows proc ((cU.length:Int)+1) ((cU.length:Int)+1) ((cU.length:Int)+1) (cU++ [⟨v,proc,up,((cU.length:Int)+1+(v.jy:Int)),loop⟩]) v.aS) v.aL).length=cU.length+v.jy:=by rw[iw,iw];simp;omega
    simp only[jI,List.map_append,List.map_cons,List.map_nil,Si,List.length_append,List.length_cons,List.length_nil]at f1
    repeat' (first
 |simp only[go_sem,hY,hZ,gA,gB,k1,k2,O9,sj,hw3,d1,d2,dF]
 |(with_reducible refine CU (ew _) ?_)
 |(with_reducible refine CU (f1 (by with_unfolding_all rfl) (by with_unfolding_all rfl)) ?_)
 |(with_reducible refine CU (f2 (by with_unfolding_all rfl) (by with_unfolding_all rfl)) ?_)
 | (with_reducible refine aB hQ ?_;exact aU))
    refine eQ 2 3 ?_ ?_ (IH (rest,k+1,_) ⟨g2,h2,by dsimp only;rw[hl];omega⟩ (Nat.lt_succ_self _))
    ·(simp only[go_sem,hY,hZ,gA,gB,sj,k1,k2];try exact bQ)
    ·(simp only[go_sem,hY,hZ,gA,gB,sj,k1,k2];try exact bQ)
   ·have d2:(v.kind==6)=false:=by simp [UM]
    simp only[e1,d2,↓reduceIte,Bool.false_eq_true]at h2
    have f1:=fun {s:St} {o:Nat}=>@ih v.aS proc ((cU.length:Int)+1) ((cU.length:Int)+1+(v.jy:Int)) loop (cU++ [⟨v,proc,up,((cU.length:Int)+1+(v.jy:Int)),loop⟩]) g ps lo hi b c F0 (by simp;omega) hg hp s o
    have f2:=fun {s:St} {o:Nat}=>@ih v.aL proc ((cU.length:Int)+1) ((cU.length:Int)+1+(v.jy:Int)) loop _ g ps lo hi b c Lr (by rw[iw proc ((cU.length:Int)+1) ((cU.length:Int)+1+(v.jy:Int)) loop (cU++ [⟨v,proc,up,((cU.length:Int)+1+(v.jy:Int)),loop⟩]) v.aS];simp;omega) hg hp s o
    have hl:(Im.rows proc ((cU.length:Int)+1) ((cU.length:Int)+1+(v.jy:Int)) loop (Im.rows proc ((cU.length:Int)+1) ((cU.length:Int)+1+(v.jy:Int)) loop (cU++ [⟨v,proc,up,((cU.length:Int)+1+(v.jy:Int)),loop⟩]) v.aS) v.aL).length=cU.length+v.jy:=by rw[iw,iw];simp;omega
    simp only[jI,List.map_append,List.map_cons,List.map_nil,Si,List.length_append,List.length_cons,List.length_nil]at f1
    repeat' (first
 |simp only[go_sem,hY,hZ,gA,gB,k1,k2,O9,sj,hw3,d1,d2,dF]
 |(with_reducible refine CU (ew _) ?_)
 |(with_reducible refine CU (f1 (by with_unfolding_all rfl) (by with_unfolding_all rfl)) ?_)
 |(with_reducible refine CU (f2 (by with_unfolding_all rfl) (by with_unfolding_all rfl)) ?_)
 | (with_reducible refine aB hQ ?_;exact aU))
    refine eQ 2 3 ?_ ?_ (IH (rest,k+1,_) ⟨g2,h2,by dsimp only;rw[hl];omega⟩ (Nat.lt_succ_self _))
    ·(simp only[go_sem,hY,hZ,gA,gB,sj,k1,k2];try exact bQ)
    ·(simp only[go_sem,hY,hZ,gA,gB,sj,k1,k2];try exact bQ)
  ·have d1:decide (((k+1:Nat):Int)<(l.length:Int))=false:=by simp;omega
   have e1:(rest.length=0)=True:=by simp only[eq_iff_iff,iff_true];omega
   by_cases UM:v.kind=6
   ·have d2:(v.kind==6)=true:=by simp [UM]
    simp only[e1,d2,↓reduceIte,Bool.false_eq_true]at h2
    have f1:=fun {s:St} {o:Nat}=>@ih v.aS proc ((cU.length:Int)+1) ((cU.length:Int)+1) ((cU.length:Int)+1) (cU++ [⟨v,proc,up,next,loop⟩]) g ps lo hi b c F0 (by simp;omega) hg hp s o
    have f2:=fun {s:St} {o:Nat}=>@ih v.aL proc ((cU.length:Int)+1) ((cU.length:Int)+1) ((cU.length:Int)+1) _ g ps lo hi b c Lr (by rw[iw proc ((cU.length:Int)+1) ((cU.length:Int)+1) ((cU.length:Int)+1) (cU++ [⟨v,proc,up,next,loop⟩]) v.aS];simp;omega) hg hp s o
    have hl:(Im.rows proc ((cU.length:Int)+1) ((cU.length:Int)+1) ((cU.length:Int)+1) (Im.rows proc ((cU.length:Int)+1) ((cU.length:Int)+1) ((cU.length:Int)+1) (cU++ [⟨v,proc,up,next,loop⟩]) v.aS) v.aL).length=cU.length+v.jy:=by rw[iw,iw];simp;omega
    simp only[jI,List.map_append,List.map_cons,List.map_nil,Si,List.length_append,List.length_cons,List.length_nil]at f1
    repeat' (first
 |simp only[go_sem,hY,hZ,gA,gB,k1,k2,O9,sj,hw3,d1,d2,dF]
 |(with_reducible refine CU (ew _) ?_)
 |(with_reducible refine CU (f1 (by with_unfolding_all rfl) (by with_unfolding_all rfl)) ?_)
 |(with_reducible refine CU (f2 (by with_unfolding_all rfl) (by with_unfolding_all rfl)) ?_)
 | (with_reducible refine aB hQ ?_;exact aU))
    refine eQ 2 3 ?_ ?_ (IH (rest,k+1,_) ⟨g2,h2,by dsimp only;rw[hl];omega⟩ (Nat.lt_succ_self _))
    ·(simp only[go_sem,hY,hZ,gA,gB,sj,k1,k2];try exact bQ)
    ·(simp only[go_sem,hY,hZ,gA,gB,sj,k1,k2];try exact bQ)
   ·have d2:(v.kind==6)=false:=by simp [UM]
    simp only[e1,d2,↓reduceIte,Bool.false_eq_true]at h2
    have f1:=fun {s:St} {o:Nat}=>@ih v.aS proc ((cU.length:Int)+1) next loop (cU++ [⟨v,proc,up,next,loop⟩]) g ps lo hi b c F0 (by simp;omega) hg hp s o
    have f2:=fun {s:St} {o:Nat}=>@ih v.aL proc ((cU.length:Int)+1) next loop _ g ps lo hi b c Lr (by rw[iw proc ((cU.length:Int)+1) next loop (cU++ [⟨v,proc,up,next,loop⟩]) v.aS];simp;omega) hg hp s o
    have hl:(Im.rows proc ((cU.length:Int)+1) next loop (Im.rows proc ((cU.length:Int)+1) next loop (cU++ [⟨v,proc,up,next,loop⟩]) v.aS) v.aL).length=cU.length+v.jy:=by rw[iw,iw];simp;omega
    simp only[jI,List.map_append,List.map_cons,List.map_nil,Si,List.length_append,List.length_cons,List.length_nil]at f1
    repeat' (first
 |simp only[go_sem,hY,hZ,gA,gB,k1,k2,O9,sj,hw3,d1,d2,dF]
 |(with_reducible refine CU (ew _) ?_)
 |(with_reducible refine CU (f1 (by with_unfolding_all rfl) (by with_unfolding_all rfl)) ?_)
 |(with_reducible refine CU (f2 (by with_unfolding_all rfl) (by with_unfolding_all rfl)) ?_)
 | (with_reducible refine aB hQ ?_;exact aU))
    refine eQ 2 3 ?_ ?_ (IH (rest,k+1,_) ⟨g2,h2,by dsimp only;rw[hl];omega⟩ (Nat.lt_succ_self _))
    ·(simp only[go_sem,hY,hZ,gA,gB,sj,k1,k2];try exact bQ)
    ·(simp only[go_sem,hY,hZ,gA,gB,sj,k1,k2];try exact bQ)
theorem aca : ∀ N,N<1000000000→aaJ N:=by
 intro N
 induction N with
 |zero=>exact fun _ l proc up next loop out g ps lo hi b c h=>absurd h (Nat.not_lt_zero _)
 |succ N ih=>
  intro h l proc up next loop out g ps lo hi b c hs hc hg hp s o ho ht
  exact(aiL (ih (by omega)) hs hc hg hp (by omega)).aiK (by simp[D.bN,D.ok,Tag.ok,mZ,D.kc]) hg hp ho ht
end Go.Abs
