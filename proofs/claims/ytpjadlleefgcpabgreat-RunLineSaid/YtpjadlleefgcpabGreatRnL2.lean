/-
  What is proved here: part 2 of the road to the claim (Codes1, Have1, Codes2, Have2, Codes3, Codes4, Have4, Codes5, Have5, Have6, Have3, Prs, Lex1, Lex2, RefLex1, Prs2, Ref1, Ref2, TMay1, RefMay2, TMay2, RefMay3, RefMay4, TMay3, TMay4, MayFine, MayEq, MayEq2, Rng, FineM, Swap2p, Cnt, MirFlat, Frz, Flat1, Flat2, Flat3, Sl1, MirFlat2, Sl2, Nm1, Nm2).
  No conditions.
-/
import Derived.Test.YtpjadlleefgcpabGreatRnL1
import Derived.Test.YtpjadlleefgcpabGreatProg
import Derived.KernelRfl

set_option linter.unusedSimpArgs false
set_option linter.unusedVariables false
namespace Go.Abs
abbrev QBN:AC:= .par [.o 22 (.aq dc 4), .o 23 (.load ei false 1), .o 24 (.aq dc 3), .o 25 (.load eB false 1), .o 26 (.aq dc 2), .o 27 (.load fb false 1), .o 28 (.aq dc 5), .o 29 (.load fJ true 4), .m 30 bt, .c 31 kQ [fZ,fW], .c 32 kx [fu,gd], .c 33 iA [eJ,gH], .c 34 iA [ej,gv], .m 1 ib] [(6,0),(7,0),(8,0),(9,0),(4,0),(5,1),(10,0),(2,0),(3,2),(11,0),(0,0),(1,3),(12,0),(13,0)]
abbrev QBS:AC:= .par [.o 46 (.aq dc 10), .o 47 (.load kS false 1), .m 48 db, .o 49 (.cb lq lr 6), .o 50 (.aq lu 1), .o 51 (.load lH false 1), .o 52 (.aq dc 10), .o 53 (.load kU false 1), .m 54 db, .o 55 (.cb kV lI 6), .o 56 (.aq lx 2), .o 57 (.load mW true 4), .m 58 bt, .c 59 kQ [o8,ou], .c 60 iA [kT,mM], .m 1 pL] [(6,0),(7,0),(8,0),(9,0),(10,0),(11,0),(12,0),(13,0),(0,0),(1,1),(2,0),(3,0),(4,0),(5,1),(14,0),(15,0)]
abbrev QBW:AC:= .seq (.seq (.run [.m 35 db, .o 36 (.aq dc 10), .o 37 (.load gP false 1), .o 38 (.len iC), .o 39 (.bin .lss gI iJ), .m 40 iT, .g 41 40 true (.mv bt), .g 42 40 true (.bin .leq iY (.k (.int .i64 20000))), .o 43 (.pick jm jO (.k (.bool false)))]) (.cond jA .skip (.exit 2))) (.seq (.block 3 QBS) (.run [.m 44 db, .o 45 (.bin .add jP (.k (.int .i64 1))), .m 7 kB]))
abbrev QC0:AC:= .par [.o 61 (.aq dc 12), .o 62 (.load ri false 1), .o 63 (.aq dc 11), .o 64 (.load rj false 1), .m 65 bt, .c 66 lN [rk,tr], .c 67 lN [pM,uy], .m 1 uz] [(2,0),(3,0),(4,0),(5,0),(0,0),(1,1),(6,0),(7,0)]
abbrev QC1:AC:= .seq (.seq (.run [.o 7 (.mv (.k (.int .i64 0)))]) (.block 2 (.loop QBW))) QC0
abbrev QC6:AC:= .seq (.block 1 (.seq (.run [.m 18 bC, .m 19 bP, .o 20 (.cb dF dX 13), .o 21 (.load ep true 13), .o 6 (.alloc [(.int .i64 0),(.int .i64 0),(.slice .full 0 []),(.str []),(.str []),(.int .i64 0),(.int .i64 0),(.str []),(.slice .full 0 []),(.bool false),(.slice .full 0 []),(.slice .full 0 []),(.slice .full 0 [])]), .op none none (.store dc dZ 13)]) (.seq QBN QC1))) (.run [.m 16 bP, .o 17 (.bin .add df (.k (.int .i64 1))), .m 5 dK])
abbrev QC7:AC:= .seq (.seq (.run [.m 8 bP, .m 9 bC, .o 10 (.len dr), .o 11 (.bin .lss cR bS), .m 12 cO, .g 13 12 true (.mv bt), .g 14 12 true (.bin .leq c6 (.k (.int .i64 20000))), .o 15 (.pick cY cZ (.k (.bool false)))]) (.cond dA .skip (.exit 0))) QC6
abbrev QCD:AC:= .seq (.seq (.run [.o 5 (.mv (.k (.int .i64 0)))]) (.block 0 (.loop QC7))) (.seq (.run [.m 68 bt, .m 4 tt]) .ret)
abbrev QCE:AC:= .seq (.run [.o 4 (.mv (.k (.int .i64 0)))]) QCD
abbrev QCL:AC:= .par [.o 20 (.aq db 0), .o 21 (.load ep false 1), .o 22 (.aq db 2), .o 23 (.load ei false 1), .c 24 oj [ej], .o 25 (.aq db 4), .o 26 (.load eJ false 1), .c 27 oj [fb], .o 28 (.aq db 3), .o 29 (.load fJ false 1), .o 30 (.load cv true 13), .c 31 o6 [fZ,fW], .o 32 (.build [(.str []),(.slice .full 0 []),(.slice .full 0 []),(.slice .full 0 []),(.slice .full 0 [])] [(0,(1,dZ)),(2,(1,eB)),(4,(1,fu)),(3,(1,gd))]), .o 8 (.alloc [(.str []),(.slice .full 0 []),(.slice .full 0 []),(.slice .full 0 []),(.slice .full 0 [])]), .op none none (.store cR gH 5)] [(2,0),(3,0),(4,0),(5,0),(6,1),(7,0),(8,0),(9,2),(10,2),(11,0),(13,0),(0,0),(1,4),(12,0),(14,0)]
abbrev QCQ:AC:= .seq (.run [.o 18 (.cb cZ df 5), .o 19 (.load dF true 5), .o 7 (.alloc [(.str []),(.slice .full 0 []),(.slice .full 0 []),(.slice .full 0 []),(.slice .full 0 [])]), .op none none (.store db dX 5)]) (.seq QCL (.seq (.run [.o 33 (.aq cR 1), .o 34 (.load gv false 1), .o 35 (.aq db 1), .o 36 (.load gI false 1), .o 37 (.app 2 24 ib gP), .o 38 (.aq cR 1), .op none none (.store iJ iC 1)]) (.run [.o 39 (.aq bP 1), .o 40 (.load iT false 1), .o 41 (.load cR true 5), .o 42 (.dg [(.str []),(.slice .full 0 []),(.slice .full 0 []),(.slice .full 0 []),(.slice .full 0 [])] 5 1 [(0,iY)]), .o 43 (.app 5 112 jm jO), .o 44 (.aq bP 1), .op none none (.store jP jA 1)])))
abbrev QCU:AC:= .seq (.cond dK .skip (.exit 0)) (.seq (.block 1 QCQ) (.run [.o 45 (.bin .add df (.k (.int .i64 1))), .m 16 kB]))
abbrev QCV:AC:= .seq (.run [.o 17 (.bin .lss df dA)]) QCU
abbrev QD0:AC:= .seq (.run [.o 46 (.load bP true 2), .op none none (.store fk kS 2)]) .ret
abbrev QD1:AC:= .seq (.seq (.run [.o 13 (.aq dw 1), .o 14 (.load c6 false 1), .o 15 (.len cZ), .o 16 (.mv (.k (.int .i64 0)))]) (.block 0 (.loop QCV))) QD0
abbrev QD3:AC:= .seq (.run [.o 2 (.box bC), .o 3 (.box bt), .o 4 (.alloc [(.slice .full 0 []),(.slice .full 0 [])])]) (.seq (.run [.o 9 (.aq dw 0), .o 10 (.load dr false 1), .c 11 oj [bS], .o 12 (.build [(.slice .full 0 []),(.slice .full 0 [])] [(0,(1,cO))]), .o 5 (.alloc [(.slice .full 0 []),(.slice .full 0 [])]), .op none none (.store bP cY 2)]) QD1)
abbrev QD5:AC:= .run [.o 5 (.aq dw 0), .o 6 (.load bP false 1), .o 7 (.aq cv 0), .o 8 (.load db false 1), .o 9 (.bin .eql dc cR), .m 10 dr, .g 11 10 true (.aq dw 1), .g 12 10 true (.load cO false 1), .g 13 10 true (.aq cv 1), .g 14 10 true (.load c6 false 1), .g 15 10 true (.bin .eql cY cZ), .o 16 (.pick bS dA (.k (.bool false))), .m 17 df, .g 18 17 true (.aq dw 2), .g 19 17 true (.load dF false 1), .g 20 17 true (.aq cv 2), .g 21 17 true (.load ep false 1), .g 22 17 true (.bin .eql dX dZ), .o 23 (.pick dK ei (.k (.bool false))), .m 24 ej, .g 25 24 true (.aq dw 3), .g 26 24 true (.load eJ false 1), .g 27 24 true (.aq cv 3), .g 28 24 true (.load fu false 1), .d 29 24 true mC [fb,fJ], .o 30 (.pick eB fZ (.k (.bool false))), .m 4 fW]
abbrev QD7:AC:= .seq (.run [.o 2 (.box bC), .o 3 (.box bt), .o 4 (.mv (.k (.bool false)))]) (.seq QD5 .ret)
abbrev QDC:AC:= .cond bS (.seq (.run [.o 4 (.mv (.k (.bool false)))]) .ret) .skip
abbrev QDI:AC:= .par [.m 16 bC, .m 17 bP, .o 18 (.cb df dK 2), .o 19 (.aq dF 0), .o 20 (.load dX false 1), .m 21 bt, .m 22 bP, .o 23 (.cb dZ ei 2), .o 24 (.aq ej 0), .o 25 (.load eB false 1), .o 26 (.bin .neq ep eJ), .m 27 fb, .g 28 27 false (.mv bC), .g 29 27 false (.mv bP), .g 30 27 false (.cb fJ fZ 2), .g 31 27 false (.aq fW 1), .g 32 27 false (.load gd false 1), .g 33 27 false (.mv bt), .g 34 27 false (.mv bP), .g 35 27 false (.cb gv ib 2), .g 36 27 false (.aq gI 1), .g 37 27 false (.load gP false 1), .d 38 27 false mC [gH,iC], .g 39 27 false (.un .not iJ), .o 40 (.pick fu (.k (.bool true)) iT)] [(0,0),(1,0),(2,0),(3,0),(4,0),(5,0),(6,0),(7,0),(8,0),(9,0),(10,0),(11,0),(12,0),(13,0),(14,0),(15,0),(16,0),(17,0),(18,0),(19,0),(20,0),(21,0),(22,0),(23,0),(24,0)]
abbrev QDL:AC:= .cond jm (.seq (.run [.o 4 (.mv (.k (.bool false)))]) .ret) .skip
abbrev QDR:AC:= .seq (.cond cZ .skip (.exit 0)) (.seq (.block 1 (.seq (.run [.m 15 c6, .m 5 dA]) (.seq QDI QDL))) (.run [.o 41 (.bin .add c6 (.k (.int .i64 1))), .m 13 iY]))
abbrev QDV:AC:= .seq (.run [.m 11 bC, .o 12 (.len cO), .o 13 (.mv (.k (.int .i64 0)))]) (.block 0 (.loop (.seq (.run [.o 14 (.bin .lss c6 cY)]) QDR)))
abbrev QDY:AC:= .seq QDV (.seq (.run [.o 4 (.mv (.k (.bool true)))]) .ret)
abbrev QE0:AC:= .seq (.run [.o 4 (.mv (.k (.bool false)))]) (.seq (.seq (.run [.m 6 bC, .o 7 (.len dc), .m 8 bt, .o 9 (.len cR), .o 10 (.bin .neq db dr)]) QDC) QDY)
abbrev QE4:AC:= .seq (.run [(.o 7 (.build [(.int .i64 0),(.int .i64 0)] [(0,(1,(.k (.int .i64 1))))])), .op none none (.store dw db 2)]) .ret
abbrev QEM:AC:= .seq (.seq (.run [.o 20 (.aq cv 0), .o 21 (.load ep false 1), .o 22 (.bin .eql dZ (.k (.int .i64 0)))]) (.cond ei (.run [.o 23 (.load bt true 2), .c 24 vT [ej], .op none none (.store cv eB 2)]) .skip)) (.seq (.run [.o 25 (.load cv true 2), .op none none (.store dw eJ 2)]) .ret)
abbrev QEN:AC:= .seq (.seq (.run [.o 15 (.aq cv 0), .o 16 (.load dA false 1), .o 17 (.bin .eql df (.k (.int .i64 0)))]) (.cond dK (.run [.o 18 (.load bt true 2), .c 19 xv [dF], .op none none (.store cv dX 2)]) .skip)) QEM
abbrev QEO:AC:= .seq (.seq (.run [.o 10 (.aq cv 0), .o 11 (.load bS false 1), .o 12 (.bin .eql cO (.k (.int .i64 0)))]) (.cond cY (.run [.o 13 (.load bt true 2), .c 14 rS [c6], .op none none (.store cv cZ 2)]) .skip)) QEN
abbrev QER:AC:= .seq (.run [.o 1 (.box bC), .o 2 (.alloc [(.int .i64 0),(.int .i64 0)])]) (.seq (.seq (.run [.o 4 (.load bt true 2), .c 5 qL [fk], .o 6 (.un .not bP)]) (.cond dc QE4 .skip)) (.seq (.run [.o 8 (.load bt true 2), .c 9 na [cR], .o 3 (.alloc [(.int .i64 0),(.int .i64 0)]), .op none none (.store cv dr 2)]) QEO))
abbrev QEZ:AC:= .par [.o 15 (.aq cv 1), .o 16 (.load dA false 1), .m 17 bP, .o 18 (.aq bt 1), .o 19 (.load dF false 1), .m 20 bP, .o 21 (.cb dX ep 5), .o 22 (.aq dZ 3), .o 23 (.load ei false 1), .m 24 fk, .c 25 kg [ej,eB], .m 14 eJ, .o 26 (.ext cZ 0), .o 27 (.ext cZ 1), .o 28 (.cb df dK 5), .o 29 (.aq fJ 3), .op none none (.store fZ fb 1), .m 4 fu] [(3,0),(4,0),(5,0),(6,0),(7,0),(8,0),(9,0),(10,0),(0,0),(1,1),(2,0),(11,0),(12,0),(14,0),(15,0),(16,0),(13,0),(17,0)]
abbrev QF4:AC:= .seq (.cond cY .skip (.exit 0)) (.seq (.block 1 (.seq (.run [.m 13 cO, .m 5 c6]) QEZ)) (.run [.o 30 (.bin .add cO (.k (.int .i64 1))), .m 11 fW]))
abbrev QF5:AC:= .seq (.run [.o 12 (.bin .lss cO bS)]) QF4
abbrev QFA:AC:= .seq (.run [.o 31 (.load cv true 2), .op none none (.store dw gd 2)]) .ret
abbrev QFB:AC:= .seq (.seq (.run [.o 8 (.aq cv 1), .o 9 (.load cR false 1), .o 10 (.len dr), .o 11 (.mv (.k (.int .i64 0)))]) (.block 0 (.loop QF5))) QFA
abbrev QFD:AC:= .seq (.run [.o 6 (.load bt true 2), .c 7 rE [dc], .o 3 (.alloc [(.slice .full 0 []),(.slice .full 0 [])]), .op none none (.store cv db 2)]) (.seq (.run [.o 4 (.mv (.k (.int .i64 0)))]) QFB)
abbrev QFE:AC:= .seq (.run [.o 1 (.box bC), .o 2 (.alloc [(.slice .full 0 []),(.slice .full 0 [])])]) QFD
abbrev QFJ:AC:= .cond ej (.seq (.run [.o 2 (.mv (.k (.bool false)))]) .ret) .skip
abbrev QFQ:AC:= .run [.o 33 (.aq bP 1), .o 34 (.load gv false 1), .o 35 (.len ib), .o 36 (.bin .gtr gI (.k (.int .i64 8))), .m 37 gP, .g 38 37 false (.aq bP 2), .g 39 37 false (.load iJ false 1), .g 40 37 false (.len iT), .g 41 37 false (.bin .gtr jm (.k (.int .i64 16))), .o 42 (.pick iC (.k (.bool true)) iY), .m 43 jO, .g 44 43 false (.aq bP 0), .g 45 43 false (.load jP false 1), .d 46 43 false o7 [kB], .g 47 43 false (.un .not kS), .o 48 (.pick jA (.k (.bool true)) lq), .m 49 lr, .g 50 49 false (.aq bP 2), .g 51 49 false (.load lH false 1), .d 52 49 false om [kT], .g 53 49 false (.un .not kU), .o 54 (.pick lu (.k (.bool true)) kV), .m 55 lI, .g 56 55 false (.aq bP 4), .g 57 55 false (.load mW false 1), .d 58 55 false om [o8], .g 59 55 false (.un .not ou), .o 60 (.pick lx (.k (.bool true)) mM)]
abbrev QFT:AC:= .cond pL (.seq (.run [.o 2 (.mv (.k (.bool false)))]) .ret) .skip
abbrev QG2:AC:= .cond zz (.seq (.run [.o 2 (.mv (.k (.bool false)))]) .ret) .skip
abbrev QG7:AC:= .seq (.block 3 (.seq (.run [.o 66 (.cb pM rk 2), .o 67 (.load uy true 2), .o 7 (.alloc [(.str []),(.bool false)]), .op none none (.store db uz 2)]) (.seq (.run [.o 68 (.aq db 0), .o 69 (.load tt false 1), .c 70 o7 [vZ], .o 71 (.un .not v7)]) QG2))) (.run [.o 72 (.bin .add rk (.k (.int .i64 1))), .m 64 xB])
abbrev QGB:AC:= .block 2 (.loop (.seq (.run [.o 65 (.bin .lss rk rj)]) (.seq (.cond tr .skip (.exit 2)) QG7)))
abbrev QGG:AC:= .cond zC (.seq (.run [.o 2 (.mv (.k (.bool false)))]) .ret) .skip
abbrev QGI:AC:= .seq (.seq (.run [.o 61 (.aq bP 1), .o 62 (.load ri false 1), .o 63 (.len pM), .o 64 (.mv (.k (.int .i64 0)))]) QGB) (.seq (.run [.m 73 cv, .o 74 (.aq bP 3), .o 75 (.load zA false 1), .c 76 ln [xC,zB,(.k (.int .i64 1))], .o 77 (.un .not xD)]) QGG)
abbrev QGN:AC:= .seq (.block 1 (.seq (.run [.o 31 (.cb fu fZ 5), .o 32 (.load gd true 5), .o 5 (.alloc [(.str []),(.slice .full 0 []),(.slice .full 0 []),(.slice .full 0 []),(.slice .full 0 [])]), .op none none (.store bP gH 5)]) (.seq (.seq QFQ QFT) QGI))) (.run [.o 78 (.bin .add fZ (.k (.int .i64 1))), .m 29 xE])
abbrev QGR:AC:= .block 0 (.loop (.seq (.run [.o 30 (.bin .lss fZ fJ)]) (.seq (.cond fW .skip (.exit 0)) QGN)))
abbrev QGV:AC:= .seq (.seq (.run [.o 26 (.aq bt 1), .o 27 (.load fb false 1), .o 28 (.len fu), .o 29 (.mv (.k (.int .i64 0)))]) QGR) (.seq (.run [.o 2 (.mv (.k (.bool true)))]) .ret)
abbrev QGX:AC:= .seq (.seq (.run [.o 8 (.aq bt 0), .o 9 (.load cR false 1), .o 10 (.len dr), .o 11 (.bin .gtr bS (.k (.int .i64 16))), .m 12 cO, .g 13 12 false (.aq bt 1), .g 14 12 false (.load c6 false 1), .g 15 12 false (.len cZ), .g 16 12 false (.bin .gtr dA (.k (.int .i64 16))), .o 17 (.pick cY (.k (.bool true)) df), .m 18 dK, .g 19 18 false (.aq bt 0), .g 20 18 false (.load dX false 1), .d 21 18 false om [ep], .g 22 18 false (.un .not dZ), .o 23 (.pick dF (.k (.bool true)) ei)]) QFJ) (.seq (.run [.o 24 (.build [(.int .i64 0)] []), .o 25 (.box eB), .m 3 eJ]) QGV)
abbrev QGY:AC:= .seq (.run [.o 1 (.box bC), .o 2 (.mv (.k (.bool false)))]) QGX
abbrev QH6:AC:= .par [.o 19 (.aq dc 0), .o 20 (.load dX false 1), .o 21 (.aq dc 1), .o 22 (.load dZ false 1), .c 23 mL [ei], .o 24 (.aq dc 2), .o 25 (.load eB false 1), .c 26 fH [eJ], .o 27 (.aq dc 4), .o 28 (.load fu false 1), .c 29 fH [fJ], .o 30 (.build [(.str []),(.slice .full 0 []),(.slice .full 0 []),(.slice .full 0 []),(.slice .full 0 [])] [(0,(1,ep)),(1,(1,ej)),(2,(1,fb)),(4,(1,fZ))]), .o 7 (.alloc [(.str []),(.slice .full 0 []),(.slice .full 0 []),(.slice .full 0 []),(.slice .full 0 [])]), .op none none (.store db fW 5)] [(2,0),(3,0),(4,0),(5,0),(6,1),(7,0),(8,0),(9,2),(10,0),(12,0),(0,0),(1,4),(11,0),(13,0)]
abbrev QHB:AC:= .seq (.run [.o 17 (.cb c6 dA 5), .o 18 (.load dK true 5), .o 6 (.alloc [(.str []),(.slice .full 0 []),(.slice .full 0 []),(.slice .full 0 []),(.slice .full 0 [])]), .op none none (.store dc dF 5)]) (.seq QH6 (.seq (.run [.o 32 (.aq dc 3), .o 33 (.load gH false 1), .m 34 cv, .c 35 lG [gv,ib,(.k (.bool true))], .m 31 gI, .o 36 (.ext gd 0), .o 37 (.ext gd 1), .o 38 (.aq db 3), .op none none (.store iJ gP 1), .m 3 iC]) (.run [.o 39 (.aq fk 1), .o 40 (.load iT false 1), .o 41 (.load db true 5), .o 42 (.dg [(.str []),(.slice .full 0 []),(.slice .full 0 []),(.slice .full 0 []),(.slice .full 0 [])] 5 1 [(0,iY)]), .o 43 (.app 5 112 jm jO), .o 44 (.aq fk 1), .op none none (.store jP jA 1)])))
abbrev QHF:AC:= .seq (.cond df .skip (.exit 0)) (.seq (.block 1 QHB) (.run [.o 45 (.bin .add dA (.k (.int .i64 1))), .m 15 kB]))
abbrev QHJ:AC:= .seq (.run [.o 12 (.aq bt 1), .o 13 (.load cY false 1), .o 14 (.len c6), .o 15 (.mv (.k (.int .i64 0)))]) (.block 0 (.loop (.seq (.run [.o 16 (.bin .lss dA cZ)]) QHF)))
abbrev QHO:AC:= .seq (.run [.o 3 (.mv (.k (.int .i64 0)))]) (.seq (.run [.o 8 (.aq bt 0), .o 9 (.load cR false 1), .c 10 fH [dr], .o 11 (.build [(.slice .full 0 []),(.slice .full 0 [])] [(0,(1,bS))]), .o 4 (.alloc [(.slice .full 0 []),(.slice .full 0 [])]), .op none none (.store fk cO 2)]) (.seq QHJ (.seq (.run [.o 46 (.load fk true 2), .op none none (.store dw kS 2)]) .ret)))
abbrev QHP:AC:= .seq (.run [.o 1 (.box bC), .o 2 (.alloc [(.slice .full 0 []),(.slice .full 0 [])])]) QHO
abbrev QHU:AC:= .cond fk (.seq (.run [.o 2 (.mv (.k (.slice .full 0 [])))]) .ret) .skip
abbrev QHZ:AC:= .seq (.run [.o 2 (.mv (.k (.slice .full 0 [])))]) (.seq (.seq (.run [.m 3 bC, .nil (some 4) none false cv]) QHU) (.seq (.run [.o 5 (.dg [(.str [])] 1 0 []), .m 6 bC, .o 7 (.app 1 16 bP dc), .m 2 db]) .ret))
abbrev QIA:AC:= .seq (.block 1 (.seq (.run [.o 11 (.cb db dr 2), .o 12 (.load cO true 2), .o 5 (.alloc [(.str []),(.bool false)]), .op none none (.store bP cY 2)]) (.run [.m 13 cv, .o 14 (.aq bP 0), .o 15 (.load cZ false 1), .o 16 (.dg [(.str [])] 1 1 [(0,dA)]), .o 17 (.app 1 16 c6 df), .m 3 dK]))) (.run [.o 18 (.bin .add dr (.k (.int .i64 1))), .m 9 dF])
abbrev QIE:AC:= .block 0 (.loop (.seq (.run [.o 10 (.bin .lss dr cR)]) (.seq (.cond bS .skip (.exit 0)) QIA)))
abbrev QII:AC:= .seq (.seq (.run [.o 6 (.aq bt 1), .o 7 (.load dc false 1), .o 8 (.len db), .o 9 (.mv (.k (.int .i64 0)))]) QIE) (.seq (.run [.m 19 cv, .o 20 (.aq bt 2), .o 21 (.load ep false 1), .o 22 (.app 1 16 dX dZ), .m 2 ei]) .ret)
abbrev QIK:AC:= .seq (.run [.o 1 (.box bC), .o 2 (.mv (.k (.slice .full 0 [])))]) (.seq (.run [.o 3 (.mv (.k (.slice .full 0 [])))]) QII)
abbrev QIO:AC:= .seq (.run [.o 1 (.box bC), .o 2 (.mv (.k (.bool false)))]) (.seq (.run [.o 3 (.load bt true 4), .c 4 rG [cv,(.k (.int .i64 20))], .m 2 fk]) .ret)
abbrev QIZ:AC:= .cond gd (.seq (.run [.m 32 dw, .m 33 cR, .o 34 (.cb gH gv 1), .o 35 (.load ib false 1), .m 6 gI, .o 7 (.mv (.k (.bool true)))]) .ret) .skip
abbrev QJ1:AC:= .seq (.run [.m 20 bt, .o 21 (.aq cv 2), .o 22 (.load dZ false 1), .c 23 gU [ep,ei], .m 8 ej]) (.seq (.run [.m 24 cR, .o 25 (.bin .geq eB (.k (.int .i64 0))), .m 26 eJ, .g 27 26 true (.mv cR), .g 28 26 true (.mv dw), .g 29 26 true (.len fJ), .g 30 26 true (.bin .lss fu fZ), .o 31 (.pick fb fW (.k (.bool false)))]) QIZ)
abbrev QJ4:AC:= .seq QJ1 (.seq (.run [.o 6 (.mv (.k (.int .i64 0))), .o 7 (.mv (.k (.bool true)))]) .ret)
abbrev QJ7:AC:= .cond cZ (.seq (.run [.o 16 (.aq cv 1), .o 17 (.load df false 1), .m 6 dK, .o 7 (.mv (.k (.bool true)))]) .ret) (.seq (.run [.o 19 (.bin .eql c6 (.k (.int .i64 2))), .m 18 dX]) (.cond dF QJ4 .skip))
abbrev QJ9:AC:= .block 0 (.seq (.run [.o 15 (.bin .eql c6 (.k (.int .i64 1))), .m 14 dA]) QJ7)
abbrev QJF:AC:= .cond lq (.seq (.run [.o 6 (.mv (.k (.int .i64 0))), .o 7 (.mv (.k (.bool false)))]) .ret) .skip
abbrev QJP:AC:= .cond tr (.seq (.run [.o 6 (.mv (.k (.int .i64 0))), .o 7 (.mv (.k (.bool true)))]) .ret) .skip
abbrev QJU:AC:= .cond xB (.seq (.run [.o 6 (.mv (.k (.int .i64 1))), .o 7 (.mv (.k (.bool true)))]) .ret) .skip
abbrev QK0:AC:= .cond FK (.seq (.run [.o 6 (.mv (.k (.int .i64 0))), .o 7 (.mv (.k (.bool false)))]) .ret) .skip
abbrev QK6:AC:= .seq (.seq (.run [.o 66 (.aq cv 0), .o 67 (.load uy false 1), .o 68 (.bin .eql uz (.k (.int .i64 17))), .m 69 tt, .g 70 69 true (.mv dr), .d 71 69 true td [v7], .o 72 (.pick vZ zz (.k (.bool false)))]) QJU) (.seq (.run [.o 74 (.aq cv 3), .o 75 (.load zA false 1), .o 76 (.cb zB (.k (.int .i64 1)) 4), .o 77 (.load xD true 4), .m 78 bt, .m 79 dw, .c 80 l8 [zC,xE,Dl], .m 73 Dm, .o 81 (.ext xC 0), .o 82 (.ext xC 1), .m 11 Dn, .m 10 FI]) (.seq (.seq (.run [.m 83 bS, .o 84 (.un .not FJ)]) QK0) (.seq (.run [.o 85 (.aq cv 0), .o 86 (.load FL false 1), .m 87 dr, .m 88 cO, .c 89 Bt [FM,FN,FP], .o 90 (.ext Bv 0), .o 91 (.ext Bv 1), .m 6 Dp, .m 7 FQ]) .ret)))
abbrev QK7:AC:= .seq (.seq (.run [.o 58 (.aq cv 0), .o 59 (.load ou false 1), .o 60 (.bin .eql mM (.k (.int .i64 16))), .m 61 pL, .g 62 61 true (.mv dr), .d 63 61 true td [pM], .g 64 61 true (.un .not rj), .o 65 (.pick ri rk (.k (.bool false)))]) QJP) QK6
abbrev QK8:AC:= .seq (.seq (.run [.o 48 (.aq cv 3), .o 49 (.load lr false 1), .o 50 (.len lu), .o 51 (.bin .eql lH (.k (.int .i64 1)))]) (.cond kT (.seq (.run [.o 52 (.aq cv 0), .o 53 (.load kU false 1), .m 54 dr, .c 55 Bs [kV,lI], .o 56 (.ext lx 0), .o 57 (.ext lx 1), .m 6 mW, .m 7 o8]) .ret) .skip)) QK7
abbrev QKB:AC:= .seq (.seq (.run [.o 12 (.aq cv 0), .o 13 (.load cY false 1)]) QJ9) (.seq (.run [.o 37 (.aq cv 3), .o 38 (.load iC false 1), .o 39 (.cb iJ (.k (.int .i64 0)) 4), .o 40 (.load iT true 4), .m 41 bt, .m 42 dw, .c 43 l8 [jm,iY,jO], .m 36 jA, .o 44 (.ext gP 0), .o 45 (.ext gP 1), .m 9 jP, .m 10 kB]) (.seq (.seq (.run [.m 46 bS, .o 47 (.un .not kS)]) QJF) QK8))
abbrev QKC:AC:= .seq (.run [.o 3 (.box bC), .o 6 (.mv (.k (.int .i64 0))), .o 7 (.mv (.k (.bool false)))]) QKB
abbrev QKJ:AC:= .par [.m 17 cv, .m 18 cv, .o 19 (.cu dF), .o 20 (.aq dX 3), .o 21 (.load ep false 1), .m 22 cv, .o 23 (.cu ei), .o 24 (.aq ej 2), .o 25 (.load eB false 1), .o 26 (.len eJ), .o 27 (.bin .add fb (.k (.int .i64 1))), .o 28 (.dg [(.int .i64 0)] 1 1 [(0,fu)]), .o 29 (.app 1 8 dZ fJ), .o 30 (.cu dK), .o 31 (.aq fW 3), .op none none (.store gd fZ 1)] [(1,0),(2,0),(3,0),(4,0),(5,0),(6,0),(7,0),(8,0),(9,0),(10,0),(11,0),(12,0),(0,0),(13,0),(14,0),(15,0)]
abbrev QKL:AC:= .par [.m 38 cv, .m 39 cv, .o 40 (.cu iT), .o 41 (.aq jm 4), .o 42 (.load iY false 1), .m 43 cv, .o 44 (.cu jA), .o 45 (.aq jP 2), .o 46 (.load kB false 1), .o 47 (.len kS), .o 48 (.bin .add lq (.k (.int .i64 1))), .o 49 (.dg [(.int .i64 0)] 1 1 [(0,lr)]), .o 50 (.app 1 8 jO lu), .o 51 (.cu iJ), .o 52 (.aq kT 4), .op none none (.store kU lH 1)] [(1,0),(2,0),(3,0),(4,0),(5,0),(6,0),(7,0),(8,0),(9,0),(10,0),(11,0),(12,0),(0,0),(13,0),(14,0),(15,0)]
abbrev QKM:AC:= .seq (.run [.m 32 cv, .o 33 (.aq bP 3), .o 34 (.load gv false 1), .m 35 fk,(.o 36 (.build [(.int .i64 0),(.int .i64 0),(.slice .full 0 []),(.str []),(.str []),(.int .i64 0),(.int .i64 0),(.str []),(.slice .full 0 []),(.bool false),(.slice .full 0 []),(.slice .full 0 []),(.slice .full 0 []),(.int .i64 0),(.int .i64 0),(.int .i64 0),(.int .i64 0)] [(13,(1,gI)),(15,(1,(.k (.int .i64 (-1)))))])), .c 37 kR [gH,ib,gP]]) QKL
abbrev QKR:AC:= .seq (.block 1 (.seq (.run [.m 14 cY, .o 15 (.cb bS cY 5), .o 16 (.load dA true 5), .o 5 (.alloc [(.str []),(.slice .full 0 []),(.slice .full 0 []),(.slice .full 0 []),(.slice .full 0 [])]), .m 4 cZ, .op none none (.store bP df 5)]) (.seq QKJ QKM))) (.run [.o 53 (.bin .add cY (.k (.int .i64 1))), .m 12 kV])
abbrev QKV:AC:= .block 0 (.loop (.seq (.run [.o 13 (.bin .lss cY cO)]) (.seq (.cond c6 .skip (.exit 0)) QKR)))
abbrev QKZ:AC:= .seq (.seq (.run [.o 9 (.aq bt 1), .o 10 (.load dr false 1), .o 11 (.len bS), .o 12 (.mv (.k (.int .i64 0)))]) QKV) (.seq (.run [.m 54 cv, .m 2 lI]) .ret)
abbrev QL1:AC:= .seq (.run [.o 1 (.box bC), .o 2 (.mv (.k .eI))]) (.seq (.run [.o 6 (.load bt true 2), .o 7 (.build [(.slice .full 0 []),(.slice .full 0 []),(.slice .full 0 []),(.slice .full 0 []),(.slice .full 0 [])] [(0,(2,dc))]), .o 8 (.box db), .m 3 cR]) QKZ)
abbrev QL4:AC:= .par [.m 22 bt, .m 23 bC, .o 24 (.cu ej), .o 25 (.aq eB 0), .o 26 (.load eJ false 1), .o 27 (.cu fb), .o 28 (.aq fu 0), .o 29 (.load fJ true 2), .o 30 (.aq dr 0), .o 31 (.load fW false 1), .c 32 qp [fZ,gd], .m 33 cv, .o 34 (.build [(.int .i64 0),(.slice .full 0 []),(.slice .full 0 []),(.int .i64 0)] [(0,(1,ei)),(1,(1,gH)),(3,(1,gv))]), .o 35 (.box ib), .m 10 gI] [(1,0),(2,0),(3,0),(4,0),(5,0),(6,0),(7,0),(8,0),(9,0),(10,0),(0,0),(11,0),(12,0),(13,0),(14,0)]
abbrev QL5:AC:= .par [.m 36 bS, .m 37 bS, .o 38 (.cu iC), .o 39 (.aq iJ 2), .o 40 (.load iT false 1), .m 41 bC, .o 42 (.cu iY), .o 43 (.aq jO 1), .o 44 (.load jA false 1), .o 45 (.app 1 8 jm jP), .m 46 dw, .o 47 (.app 1 8 kB kS), .o 48 (.cu gP), .o 49 (.aq lr 2), .op none none (.store lu lq 1)] [(1,0),(2,0),(3,0),(4,0),(5,0),(6,0),(7,0),(8,0),(9,0),(10,0),(11,0),(0,0),(12,0),(13,0),(14,0)]
abbrev QLD:AC:= .seq (.cond lI .skip (.exit 0)) (.seq (.block 1 (.run [.m 55 bS, .m 56 bS, .o 57 (.cu mW), .o 58 (.aq o8 2), .o 59 (.load ou false 1), .o 60 (.alloc [(.int .i64 0)]), .o 61 (.dg [.eI] 1 1 [(0,pL)]), .o 62 (.app 1 8 mM ri), .o 63 (.cu lx), .o 64 (.aq rj 2), .op none none (.store rk pM 1)])) (.run [.o 65 (.bin .add kV (.k (.int .i64 1))), .m 53 tr]))
abbrev QLE:AC:= .seq (.run [.o 54 (.bin .lss kV kU)]) QLD
abbrev QLL:AC:= .seq (.run [.m 66 bC, .m 67 bC, .o 68 (.cu uz), .o 69 (.aq tt 4), .o 70 (.load vZ false 1), .m 71 bS, .o 72 (.dg [.eI] 1 1 [(0,zz)]), .o 73 (.app 1 8 v7 xB), .o 74 (.cu uy), .o 75 (.aq zA 4), .op none none (.store zB xC 1)]) (.seq (.run [.m 76 bC, .o 77 (.cu xD), .o 78 (.aq zC 0), .o 79 (.load xE false 1), .m 80 bt, .c 81 qs [Dl,Dm], .m 8 Dn]) .ret)
abbrev QLM:AC:= .seq (.seq (.run [.o 50 (.aq dr 2), .o 51 (.load lH false 1), .o 52 (.len kT), .o 53 (.mv (.k (.int .i64 0)))]) (.block 0 (.loop QLE))) QLL
abbrev QLQ:AC:= .seq (.run [.o 8 (.mv (.k (.int .i64 0)))]) (.seq (.run [.m 11 bC, .o 12 (.cu cO), .o 13 (.aq cY 0), .o 14 (.load c6 false 1), .o 15 (.cu cZ), .o 16 (.aq dA 0), .o 17 (.aq df 1), .o 18 (.load dK false 1), .m 19 bt, .o 20 (.cb dF dX 5), .o 21 (.load ep true 5), .o 9 (.alloc [(.str []),(.slice .full 0 []),(.slice .full 0 []),(.slice .full 0 []),(.slice .full 0 [])]), .op none none (.store dr dZ 5)]) (.seq QL4 (.seq QL5 QLM)))
abbrev QLU:AC:= .seq (.run [.o 3 (.box bt), .o 4 (.mv (.k (.int .i64 0)))]) (.seq (.run [.m 5 bC, .o 6 (.cu bP), .o 7 (.aq dc 0), .o 8 (.aq db 1), .o 9 (.load cR false 1), .o 10 (.wI 93 [cv]), .c 11 ij [dr,bS], .m 4 cO]) .ret)
abbrev QM5:AC:= .seq (.run [.o 18 (.aq db 0), .o 19 (.load dF false 1)]) (.cond dX (.seq (.run [.m 20 bP, .m 21 bC, .o 22 (.aq db 1), .o 23 (.load ei false 1), .c 24 jw [dZ,ej], .o 25 (.dg [.eI] 1 1 [(0,eB)]), .o 26 (.app 1 8 ep eJ), .m 5 fb]) (.exit 1)) .skip)
abbrev QM9:AC:= .seq (.run [(.o 4 (.mv (.k (.int .i64 (-1)))))]) .ret
abbrev QMG:AC:= .seq (.run [.m 28 bC, .o 29 (.aq db 2), .o 30 (.load fZ true 4), .c 31 kK [fJ,fW], .m 27 gd, .o 32 (.ext fu 0), .o 33 (.ext fu 1), .m 8 gH, .m 9 gv]) (.seq (.seq (.run [.m 34 dr, .o 35 (.un .not ib)]) (.cond gI QM9 .skip)) (.seq (.run [.m 36 cR, .o 10 (.alloc [(.int .i64 0)]), .op none none (.store bS gP 1)]) (.run [.m 37 bP, .o 38 (.dg [.eI] 1 1 [(0,bS)]), .o 39 (.app 1 8 iC iJ), .m 5 iT])))
abbrev QML:AC:= .seq (.block 1 (.seq (.run [.o 16 (.cb cY cZ 6), .o 17 (.load df true 6), .o 7 (.alloc [(.bool false),(.str []),(.int .i64 0),(.int .i64 0),(.str []),(.slice .full 0 [])]), .op none none (.store db dK 6)]) (.seq QM5 QMG))) (.run [.o 40 (.bin .add cZ (.k (.int .i64 1))), .m 14 jm])
abbrev QMN:AC:= .seq (.run [.o 15 (.bin .lss cZ c6)]) (.seq (.cond dA .skip (.exit 0)) QML)
abbrev QMU:AC:= .seq (.run [(.o 4 (.mv (.k (.int .i64 (-1)))))]) .ret
abbrev QMW:AC:= .cond kS (.seq (.run [.m 47 bC, .o 48 (.cu lq), .o 49 (.aq lr 6), .o 50 (.aq lu 0), .op none none (.store lH (.k (.int .i64 5)) 1)]) QMU) .skip
abbrev QMZ:AC:= .par [.m 55 bC, .m 56 bC, .o 57 (.cu mW), .o 58 (.aq o8 0), .o 59 (.load ou false 1), .o 60 (.aq cv 4), .o 61 (.load pL false 1), .c 62 jl [mM,ri], .m 63 bP, .o 64 (.aq cv 0), .o 65 (.load rk false 1), .c 66 jU [lx,pM,rj,tr], .m 4 uy] [(1,0),(2,0),(3,0),(4,0),(5,0),(6,0),(7,0),(0,0),(8,0),(9,0),(10,1),(11,0),(12,0)]
abbrev QN2:AC:= .seq (.seq (.run [.m 41 bC, .o 42 (.cu iY), .o 43 (.aq jO 4), .o 44 (.load jA false 1), .o 45 (.len jP), .o 46 (.bin .gtr kB (.k (.int .i64 100)))]) QMW) (.seq (.run [.m 51 bC, .o 52 (.aq cv 0), .o 53 (.load kU false 1),(.c 54 fc [kT,kV,(.k (.slice .full 0 []))])]) (.seq QMZ .ret))
abbrev QN3:AC:= .seq (.seq (.run [.o 11 (.aq cv 10), .o 12 (.load cO false 1), .o 13 (.len cY), .o 14 (.mv (.k (.int .i64 0)))]) (.block 0 (.loop QMN))) QN2
abbrev QN5:AC:= .seq (.run [.o 3 (.box bt), .o 4 (.mv (.k (.int .i64 0)))]) (.seq (.run [.o 5 (.mv (.k (.slice .full 0 [])))]) QN3)
abbrev QNB:AC:= .seq (.run [.m 10 bC, .o 11 (.aq cv 0), .o 12 (.load cO false 1),(.c 13 fc [bS,cY,(.k (.slice .full 0 []))])]) (.seq (.run [.o 4 (.mv (.k (.int .i64 0)))]) .ret)
abbrev QNL:AC:= .seq (.seq (.run [.m 21 dc]) (.cond dZ (.run [.m 22 bC, .o 23 (.aq cv 0), .o 24 (.load ej false 1), .m 25 bP, .o 26 (.dg [(.int .i64 0)] 1 1 [(0,eJ)]), .c 27 fc [ei,eB,fb]]) .skip)) (.seq (.run [.m 28 bP, .m 4 fJ]) .ret)
abbrev QNO:AC:= .seq (.run [.o 3 (.box bt), .o 4 (.mv (.k (.int .i64 0)))]) (.seq (.seq (.run [.o 7 (.aq cv 9), .o 8 (.load db false 1), .o 9 (.un .not cR)]) (.cond dr QNB .skip)) (.seq (.run [.m 15 bC, .o 16 (.aq cv 5), .o 17 (.load df true 4), .c 18 kK [dA,dK], .m 14 dF, .o 19 (.ext cZ 0), .o 20 (.ext cZ 1), .m 5 dX, .m 6 ep]) QNL))
abbrev QNU:AC:= .par [.m 21 bC, .o 22 (.cu dZ), .o 23 (.aq ei 0), .o 24 (.load ej false 1), .o 25 (.cu eB), .o 26 (.aq eJ 2), .o 27 (.load fb false 1), .o 28 (.aq cv 16), .o 29 (.load fJ false 1), .o 30 (.bin .sub fZ (.k (.int .i64 1))), .o 31 (.cb fu fW 17), .o 32 (.aq gd 15), .o 33 (.load gH false 1), .m 4 gv] [(0,0),(1,0),(2,0),(3,0),(4,0),(5,0),(6,0),(7,0),(8,0),(9,0),(10,0),(11,0),(12,0),(13,0)]
abbrev QO4:AC:= .par [.m 49 bC, .o 50 (.cu lu), .o 51 (.aq lH 0), .o 52 (.load kT false 1), .o 53 (.aq cv 13), .o 54 (.load kV false 1), .o 55 (.aq bP 3), .o 56 (.load lx false 1), .c 57 pW [kU,lI,mW], .m 48 o8, .o 58 (.ext lr 0), .o 59 (.ext lr 1), .m 6 ou, .m 7 mM] [(0,0),(1,0),(2,0),(3,0),(4,0),(5,0),(6,0),(7,0),(8,0),(9,0),(10,0),(11,0),(12,0),(13,0)]
abbrev QOA:AC:= .par [.m 63 bC, .o 64 (.cu rj), .o 65 (.aq rk 6), .o 66 (.aq tr 2), .o 67 (.load uy false 1), .m 68 bC, .o 69 (.cu tt), .o 70 (.aq vZ 2), .o 71 (.load v7 false 1), .o 72 (.len zz), .o 73 (.bin .geq uz xB)] [(0,0),(1,0),(2,0),(3,0),(4,0),(5,0),(6,0),(7,0),(8,0),(9,0),(10,0)]
abbrev QOD:AC:= .seq (.run [(.o 4 (.mv (.k (.int .i64 (-1)))))]) .ret
abbrev QOF:AC:= .cond xC (.seq (.run [.m 74 bC, .o 75 (.cu zA), .o 76 (.aq zB 6), .o 77 (.aq xD 0), .op none none (.store zC (.k (.int .i64 3)) 1)]) QOD) .skip
abbrev QOH:AC:= .par [.m 78 bC, .o 79 (.cu xE), .o 80 (.aq Dl 2), .o 81 (.load Dm false 1), .m 82 bC, .o 83 (.cu FI), .o 84 (.aq FJ 6), .o 85 (.aq FK 2), .o 86 (.load FL false 1), .o 87 (.cb Dn FM 1), .o 88 (.load FN false 1), .m 8 FP] [(0,0),(1,0),(2,0),(3,0),(4,0),(5,0),(6,0),(7,0),(8,0),(9,0),(10,0),(11,0)]
abbrev QOP:AC:= .seq (.run [.m 89 bC, .o 90 (.cu Bv), .o 91 (.aq Dp 6), .o 92 (.aq FQ 2), .o 93 (.load IC false 1), .o 94 (.bin .add MW (.k (.int .i64 1))), .o 95 (.cu Bv), .o 96 (.aq FR 6), .o 97 (.aq S8 2), .op none none (.store S9 MX 1)]) (.seq (.run [.m 98 bC, .o 99 (.aq bP 3), .o 100 (.load Tb false 1), .c 101 jw [Ta,K8], .m 102 cR, .o 103 (.cu K9), .op none none (.store Lb La 1)]) (.seq (.run [.m 104 bC, .o 105 (.aq bP 0), .o 106 (.load Ld false 1), .m 107 cR, .o 108 (.dg [(.int .i64 0)] 1 1 [(0,Lg)]), .c 109 fc [Lc,Lf,Lh]]) (.seq (.run [.o 110 (.aq cv 15), .o 111 (.load Li false 1), .m 4 Lj]) .ret)))
abbrev QOU:AC:= .cond jO (.seq (.run [.m 44 bC, .o 45 (.aq bP 0), .o 46 (.load kB false 1),(.c 47 fc [jP,kS,(.k (.slice .full 0 []))])]) (.seq QO4 (.seq (.run [.m 60 dc, .m 4 pL]) .ret))) (.seq (.run [.o 62 (.bin .eql cZ (.k (.int .i64 2))), .m 61 pM]) (.cond ri (.seq (.seq QOA QOF) (.seq QOH QOP)) .skip))
abbrev QOW:AC:= .cond ib (.seq (.run [.m 36 bC, .o 37 (.aq bP 0), .o 38 (.load iC false 1),(.c 39 fc [gP,iJ,(.k (.slice .full 0 []))])]) (.seq (.run [.o 40 (.aq cv 16), .o 41 (.load jm false 1), .m 4 iY]) .ret)) (.seq (.run [.o 43 (.bin .eql cZ (.k (.int .i64 10))), .m 42 jA]) QOU)
abbrev QOY:AC:= .cond dA (.seq (.run [.m 17 bC, .o 18 (.aq bP 0), .o 19 (.load dF false 1),(.c 20 fc [dK,dX,(.k (.slice .full 0 []))])]) (.seq QNU .ret)) (.seq (.run [.o 35 (.bin .eql cZ (.k (.int .i64 8))), .m 34 gI]) QOW)
abbrev QP0:AC:= .block 0 (.seq (.run [.o 16 (.bin .eql cZ (.k (.int .i64 7))), .m 15 df]) QOY)
abbrev QP5:AC:= .seq (.run [(.o 4 (.mv (.k (.int .i64 (-1)))))]) .ret
abbrev QPM:AC:= .seq (.seq (.run [.m 153 dr, .o 154 (.bin .neq akq (.k (.int .i64 0)))]) (.cond akr (.seq (.run [.o 155 (.aq bP 11), .o 156 (.load aks false 1), .o 157 (.aq cv 15), .o 158 (.load aku false 1), .c 159 rH [akt,akv], .m 4 akw]) .ret) .skip)) (.seq (.run [.o 160 (.aq bP 12), .o 161 (.load akx false 1), .o 162 (.aq cv 15), .o 163 (.load akz false 1), .c 164 rH [aky,akA], .m 4 akB]) .ret)
abbrev QPT:AC:= .cond akC (.seq (.run [.m 167 dr, .o 168 (.bin .neq akE (.k (.int .i64 0)))]) (.cond akF (.seq (.run [.o 169 (.aq bP 11), .o 170 (.load akG false 1), .o 171 (.aq bP 0), .o 172 (.load akI false 1), .c 173 rH [akH,akJ], .m 4 akK]) .ret) .skip)) .skip
abbrev QPV:AC:= .cond abC QPM (.seq (.run [.o 166 (.bin .eql Bw (.k (.int .i64 6))), .m 165 akD]) QPT)
abbrev QPX:AC:= .cond abn (.run [.m 139 bC, .m 140 bC, .o 141 (.cu abq), .o 142 (.aq abr 6), .o 143 (.aq abt 3), .o 144 (.load abu false 1), .m 145 dr, .o 146 (.dg [(.int .i64 0)] 1 1 [(0,abw)]), .o 147 (.app 1 8 abv abx), .o 148 (.cu abp), .o 149 (.aq abz 6), .o 150 (.aq abA 3), .op none none (.store abB aby 1)]) (.seq (.run [.o 152 (.bin .eql Bw (.k (.int .i64 5))), .m 151 akp]) QPV)
abbrev QPZ:AC:= .cond Lz (.run [.m 131 bC, .o 132 (.aq bP 3), .o 133 (.load LB false 1), .c 134 jw [Te,Tf], .m 135 dr, .o 136 (.cu Tg), .op none none (.store abm Ti 1)]) (.seq (.run [.o 138 (.bin .eql Bw (.k (.int .i64 3))), .m 137 abo]) QPX)
abbrev QQ1:AC:= .block 1 (.seq (.run [.o 130 (.bin .eql Bw (.k (.int .i64 1))), .m 129 LA]) QPZ)
abbrev QQ7:AC:= .seq (.seq (.run [.m 119 bS, .o 120 (.un .not Lr)]) (.cond Ls QP5 .skip)) (.seq (.run [.m 121 bC, .o 122 (.aq bP 0), .o 123 (.load Lu false 1), .m 124 dr, .o 125 (.dg [(.int .i64 0)] 1 1 [(0,Lw)]), .c 126 fc [Lt,Lv,Lx]]) (.seq (.seq (.run [.o 127 (.aq bP 1), .o 128 (.load Ly false 1)]) QQ1) (.seq (.run [.o 174 (.aq cv 15), .o 175 (.load akL false 1), .m 4 akM]) .ret)))
abbrev QQB:AC:= .seq (.run [.o 3 (.box bt), .o 4 (.mv (.k (.int .i64 0)))]) (.seq (.run [.o 11 (.aq cv 0), .o 12 (.load cO true 13), .o 5 (.alloc [(.int .i64 0),(.int .i64 0),(.slice .full 0 []),(.str []),(.str []),(.int .i64 0),(.int .i64 0),(.str []),(.slice .full 0 []),(.bool false),(.slice .full 0 []),(.slice .full 0 []),(.slice .full 0 [])]), .op none none (.store bP cY 13)]) (.seq (.seq (.run [.o 13 (.aq bP 1), .o 14 (.load c6 false 1)]) QP0) (.seq (.run [.m 113 bC, .o 114 (.aq bP 5), .o 115 (.load Lm true 4), .c 116 kK [Ll,Lo], .m 112 G2, .o 117 (.ext G1 0), .o 118 (.ext G1 1), .m 9 Lp, .m 10 Lq]) QQ7)))
abbrev QQE:AC:= .par [.m 12 bC, .m 13 bC, .o 14 (.cu c6), .o 15 (.aq cZ 4), .o 16 (.load dA false 1), .m 17 bC, .o 18 (.cu dK), .o 19 (.aq dF 4), .o 20 (.load dX false 1), .o 21 (.len ep), .o 22 (.bin .sub dZ (.k (.int .i64 1))), .o 23 (.Gq 1 df none (some ei)), .o 24 (.cu cY), .o 25 (.aq eB 4), .op none none (.store eJ ej 1)] [(0,0),(1,0),(2,0),(3,0),(4,0),(5,0),(6,0),(7,0),(8,0),(9,0),(10,0),(11,0),(12,0),(13,0),(14,0)]
abbrev QQI:AC:= .seq (.run [(.o 4 (.mv (.k (.int .i64 (-1)))))]) .ret
abbrev QQK:AC:= .cond fu (.seq (.run [.m 28 bC, .o 29 (.cu fJ), .o 30 (.aq fZ 6), .o 31 (.aq fW 0), .op none none (.store gd (.k (.int .i64 1)) 1)]) QQI) .skip
abbrev QQT:AC:= .seq (.seq (.run [.o 43 (.aq dc 0), .o 44 (.aq jA 3), .o 45 (.load jP false 1), .o 46 (.bin .neq kB (.k (.str [])))]) (.cond kS (.run [.m 47 bC, .o 48 (.aq dc 0), .o 49 (.aq lr 3), .o 50 (.load lu false 1), .c 51 jw [lq,lH], .m 52 bt, .o 53 (.cu kT), .op none none (.store kV kU 1)]) .skip)) (.seq (.run [.o 54 (.aq dc 15), .o 55 (.load lI false 1), .m 4 lx]) .ret)
abbrev QQV:AC:= .seq (.seq (.run [.m 26 bP, .o 27 (.bin .eql fb (.k (.int .i64 0)))]) QQK) (.seq (.run [.m 32 bC, .o 33 (.cu gH), .o 34 (.aq gv 0), .o 35 (.load ib false 1), .o 36 (.cu gI), .o 37 (.aq gP 2), .o 38 (.load iC false 1), .m 39 bP, .o 40 (.bin .sub iT (.k (.int .i64 1))), .o 41 (.cb iJ jm 17), .o 42 (.load iY true 17), .o 6 (.alloc [(.int .i64 0),(.int .i64 0),(.slice .full 0 []),(.str []),(.str []),(.int .i64 0),(.int .i64 0),(.str []),(.slice .full 0 []),(.bool false),(.slice .full 0 []),(.slice .full 0 []),(.slice .full 0 []),(.int .i64 0),(.int .i64 0),(.int .i64 0),(.int .i64 0)]), .op none none (.store dc jO 17)]) QQT)
abbrev QQY:AC:= .seq (.run [.o 4 (.mv (.k (.int .i64 0)))]) (.seq (.run [.m 7 bC, .c 8 lO [db], .o 9 (.cu cR), .o 10 (.aq dr 3), .o 11 (.load bS false 1), .m 5 cO]) (.seq QQE QQV))
open Go.Proofs
theorem tZ:Has Tryz.prog lN 69 [(4,none)] QCE:=⟨Tryz.f30,by kernel_rfl,by kernel_rfl⟩
theorem MY:Has Tryz.prog s9 47 [(4,(some (true,2)))] QD3:=⟨Tryz.f31,by kernel_rfl,by kernel_rfl⟩
theorem G4:Has Tryz.prog vR 31 [(4,none)] QD7:=⟨Tryz.f38,by kernel_rfl,by kernel_rfl⟩
theorem wA:Has Tryz.prog ta 42 [(4,none)] QE0:=⟨Tryz.f39,by kernel_rfl,by kernel_rfl⟩
set_option maxRecDepth 20000 in
theorem px : Has Tryz.prog zt 26 [(2, (some (true, 2)))] QER := ⟨Tryz.f40, by kernel_rfl, by kernel_rfl⟩
theorem G5:Has Tryz.prog vS 32 [(2,(some (true,2)))] QFE:=⟨Tryz.f41,by kernel_rfl,by kernel_rfl⟩
theorem MZ:Has Tryz.prog qL 79 [(2,none)] QGY:=⟨Tryz.f42,by kernel_rfl,by kernel_rfl⟩
theorem G6:Has Tryz.prog rR 47 [(2,(some (true,2)))] QHP:=⟨Tryz.f43,by kernel_rfl,by kernel_rfl⟩
theorem mX:Has Tryz.prog fH 8 [(2,none)] QHZ:=⟨Tryz.f44,by kernel_rfl,by kernel_rfl⟩
theorem KE:Has Tryz.prog uZ 23 [(2,none)] QIK:=⟨Tryz.f45,by kernel_rfl,by kernel_rfl⟩
theorem FT:Has Tryz.prog oi 5 [(2,none)] QIO:=⟨Tryz.f46,by kernel_rfl,by kernel_rfl⟩
theorem pF:Has Tryz.prog l8 92 [(6,none),(7,none)] QKC:=⟨Tryz.f47,by kernel_rfl,by kernel_rfl⟩
theorem M3:Has Tryz.prog lV 55 [(2,none)] QL1:=⟨Tryz.f48,by kernel_rfl,by kernel_rfl⟩
set_option maxRecDepth 20000 in
theorem Bx : Has Tryz.prog jU 82 [(8, none)] QLQ := ⟨Tryz.f49, by kernel_rfl, by kernel_rfl⟩
theorem Cs:Has Tryz.prog jl 12 [(4,none)] QLU:=⟨Tryz.f50,by kernel_rfl,by kernel_rfl⟩
set_option maxRecDepth 20000 in
theorem By : Has Tryz.prog qq 67 [(4, none)] QN5 := ⟨Tryz.f51, by kernel_rfl, by kernel_rfl⟩
set_option maxRecDepth 20000 in
theorem Aw : Has Tryz.prog pJ 29 [(4, none)] QNO := ⟨Tryz.f52, by kernel_rfl, by kernel_rfl⟩
set_option maxRecDepth 20000 in
theorem iZ : Has Tryz.prog sh 176 [(4, none)] QQB := ⟨Tryz.f53, by kernel_rfl, by kernel_rfl⟩
set_option maxRecDepth 20000 in
theorem sA : Has Tryz.prog pK 56 [(4, none)] QQY := ⟨Tryz.f54, by kernel_rfl, by kernel_rfl⟩
abbrev QR1:AC:= .seq (.run [.m 3 bC,(.o 4 (.build [(.int .i64 0),(.int .i64 0),(.str []),(.slice .full 0 [])] [(0,(1,(.k (.int .i64 1)))),(1,(1,cv))])), .op none none (.store dw fk 4)]) .ret
abbrev QR2:AC:= .seq (.run [.o 2 (.alloc [(.int .i64 0),(.int .i64 0),(.str []),(.slice .full 0 [])])]) QR1
abbrev QR5:AC:= .seq (.run [.m 3 bC,(.o 4 (.build [(.int .i64 0),(.int .i64 0),(.str []),(.slice .full 0 [])] [(0,(1,(.k (.int .i64 2)))),(2,(1,cv))])), .op none none (.store dw fk 4)]) .ret
abbrev QR6:AC:= .seq (.run [.o 2 (.alloc [(.int .i64 0),(.int .i64 0),(.str []),(.slice .full 0 [])])]) QR5
abbrev QRA:AC:= .seq (.run [.o 4 (.box bt), .o 5 (.box dw), .o 6 (.alloc [(.int .i64 0),(.int .i64 0),(.str []),(.slice .full 0 [])])]) (.seq (.run [.m 7 bC, .o 8 (.load fk true 4), .o 9 (.load bP true 4), .o 10 (.dg [(.int .i64 0),(.int .i64 0),(.str []),(.slice .full 0 [])] 4 2 [(0,cR),(1,dr)]), .o 11 (.build [(.int .i64 0),(.int .i64 0),(.str []),(.slice .full 0 [])] [(0,(1,db)),(3,(1,bS))]), .op none none (.store dc cO 4)]) .ret)
abbrev QRL:AC:= .seq (.seq (.run [.m 10 bP, .o 11 (.aq dw 3), .o 12 (.load cO false 1), .o 13 (.len cY), .o 14 (.bin .lss bS c6), .m 15 cZ, .g 16 15 true (.mv bt), .g 17 15 true (.bin .leq df (.k (.int .i64 20000))), .o 18 (.pick dA dK (.k (.bool false)))]) (.cond dF .skip (.exit 0))) (.seq (.block 1 (.run [.o 21 (.aq dw 3), .o 22 (.load dZ false 1), .m 23 bP, .o 24 (.cb ei ej 4), .o 25 (.load eB true 4), .m 26 bt, .c 27 kQ [eJ,fb], .m 1 fu])) (.run [.m 19 bP, .o 20 (.bin .add dX (.k (.int .i64 1))), .m 5 ep]))
abbrev QRR:AC:= .seq (.seq (.run [.o 5 (.mv (.k (.int .i64 0)))]) (.block 0 (.loop QRL))) (.seq (.run [.m 28 bt, .m 4 fJ]) .ret)
abbrev QRT:AC:= .seq (.run [.o 2 (.box bC), .o 4 (.mv (.k (.int .i64 0)))]) (.seq (.run [.o 6 (.aq dw 2), .o 7 (.load dc false 1), .m 8 bt, .c 9 iA [db,cR], .m 1 dr]) QRR)
abbrev QRZ:AC:= .seq (.run [.o 2 (.mv (.k (.slice .full 0 [])))]) (.seq (.run [.o 3 (.mv (.k (.slice .full 0 [])))]) (.seq (.run [.m 4 cv, .m 5 bC, .o 6 (.app 1 16 fk bP), .m 2 dc]) .ret))
abbrev QSB:AC:= .par [.o 24 (.aq db 11), .o 25 (.load eB false 1), .o 26 (.load cv true 13), .c 27 o6 [eJ,fb], .o 28 (.aq db 12), .o 29 (.load fJ false 1), .o 30 (.load cv true 13), .c 31 o6 [fZ,fW], .o 32 (.aq cR 11), .op none none (.store gH fu 1), .o 33 (.aq cR 12), .op none none (.store gv gd 1)] [(0,0),(1,0),(2,0),(3,0),(4,0),(5,1),(6,1),(7,0),(8,0),(9,0),(10,0),(11,0)]
abbrev QSF:AC:= .seq (.run [.o 15 (.load db true 13), .c 16 oo [dA], .o 8 (.alloc [(.int .i64 0),(.int .i64 0),(.slice .full 0 []),(.str []),(.str []),(.int .i64 0),(.int .i64 0),(.str []),(.slice .full 0 []),(.bool false),(.slice .full 0 []),(.slice .full 0 []),(.slice .full 0 [])]), .op none none (.store cR df 13)]) (.seq (.seq (.run [.o 17 (.aq db 0), .o 18 (.load dK false 1), .o 19 (.aq cv 0), .o 20 (.load dX false 1), .o 21 (.bin .eql dF ep)]) (.cond dZ (.run [.o 22 (.load cv true 13), .c 23 oo [ei], .op none none (.store cR ej 13)]) .skip)) (.seq QSB (.run [.m 34 bP, .o 35 (.load cR true 13), .o 36 (.dg [(.int .i64 0),(.int .i64 0),(.slice .full 0 []),(.str []),(.str []),(.int .i64 0),(.int .i64 0),(.str []),(.slice .full 0 []),(.bool false),(.slice .full 0 []),(.slice .full 0 []),(.slice .full 0 [])] 13 1 [(0,gI)]), .o 37 (.app 13 208 ib gP), .m 5 iC])))
abbrev QSJ:AC:= .seq (.block 1 (.seq (.run [.o 13 (.cb dr cO 13), .o 14 (.load c6 true 13), .o 7 (.alloc [(.int .i64 0),(.int .i64 0),(.slice .full 0 []),(.str []),(.str []),(.int .i64 0),(.int .i64 0),(.str []),(.slice .full 0 []),(.bool false),(.slice .full 0 []),(.slice .full 0 []),(.slice .full 0 [])]), .op none none (.store db cZ 13)]) QSF)) (.run [.o 38 (.bin .add cO (.k (.int .i64 1))), .m 11 iJ])
abbrev QSN:AC:= .block 0 (.loop (.seq (.run [.o 12 (.bin .lss cO bS)]) (.seq (.cond cY .skip (.exit 0)) QSJ)))
abbrev QSR:AC:= .seq (.seq (.run [.m 9 bC, .o 10 (.len dr), .o 11 (.mv (.k (.int .i64 0)))]) QSN) (.seq (.run [.m 39 bP, .m 4 iT]) .ret)
abbrev QST:AC:= .seq (.run [.o 3 (.box bt), .o 4 (.mv (.k (.slice .full 0 [])))]) (.seq (.run [.o 5 (.mv (.k (.slice .full 0 [])))]) QSR)
abbrev QSX:AC:= .seq (.run [(.o 16 (.build [(.int .i64 0),(.int .i64 0)] [(0,(1,(.k (.int .i64 1))))])), .op none none (.store dw df 2)]) .ret
abbrev QT9:AC:= .seq (.block 1 (.seq (.run [.o 22 (.cb dF ep 5), .o 23 (.load ei true 5), .o 5 (.alloc [(.str []),(.slice .full 0 []),(.slice .full 0 []),(.slice .full 0 []),(.slice .full 0 [])]), .op none none (.store bP ej 5)]) (.run [.m 24 cv, .o 25 (.aq bP 0), .o 26 (.load eJ false 1), .o 27 (.dg [(.str [])] 1 1 [(0,fb)]), .o 28 (.app 1 16 eB fu), .m 3 fJ]))) (.run [.o 29 (.bin .add ep (.k (.int .i64 1))), .m 20 fZ])
abbrev QTD:AC:= .block 0 (.loop (.seq (.run [.o 21 (.bin .lss ep dX)]) (.seq (.cond dZ .skip (.exit 0)) QT9)))
abbrev QTI:AC:= .seq (.run [(.o 53 (.build [(.int .i64 0),(.int .i64 0)] [(0,(1,(.k (.int .i64 5))))])), .op none none (.store dw kV 2)]) .ret
abbrev QTT:AC:= .seq (.run [(.o 73 (.build [(.int .i64 0),(.int .i64 0)] [(0,(1,(.k (.int .i64 5))))])), .op none none (.store dw xC 2)]) .ret
abbrev QU2:AC:= .seq (.run [.o 89 (.aq cY 0), .o 90 (.aq Bv 0), .o 91 (.load Dp false 1),(.o 92 (.build [(.int .i64 0),(.int .i64 0)] [(0,(1,(.k (.int .i64 5)))),(1,(1,FQ))])), .op none none (.store dw IC 2)]) .ret
abbrev QU8:AC:= .seq (.block 5 (.seq (.run [.o 80 (.cb xD xE 17), .o 81 (.load Dm true 17), .o 12 (.alloc [(.int .i64 0),(.int .i64 0),(.slice .full 0 []),(.str []),(.str []),(.int .i64 0),(.int .i64 0),(.str []),(.slice .full 0 []),(.bool false),(.slice .full 0 []),(.slice .full 0 []),(.slice .full 0 []),(.int .i64 0),(.int .i64 0),(.int .i64 0),(.int .i64 0)]), .op none none (.store cY Dn 17)]) (.seq (.run [.o 82 (.load bt true 2), .o 83 (.load dr true 5), .m 84 cv, .o 85 (.aq cY 0), .o 86 (.load FL true 13), .c 87 rT [FI,FJ,FK,FM], .o 88 (.un .not FN)]) (.cond FP QU2 .skip)))) (.run [.o 93 (.bin .add xE (.k (.int .i64 1))), .m 78 MW])
abbrev QUC:AC:= .block 4 (.loop (.seq (.run [.o 79 (.bin .lss xE zC)]) (.seq (.cond Dl .skip (.exit 4)) QU8)))
abbrev QUE:AC:= .seq (.seq (.run [.m 66 bS, .c 67 pw [uy], .m 68 uz, .g 69 68 false (.mv bS), .g 70 68 false (.wI 118 [bt]), .d 71 68 false gV [vZ,v7], .o 72 (.pick tt (.k (.bool true)) zz)]) (.cond xB QTT .skip)) (.seq (.run [.m 74 db, .m 75 cR, .c 76 iQ [zA,zB], .o 77 (.len xD), .o 78 (.mv (.k (.int .i64 0)))]) QUC)
abbrev QUJ:AC:= .seq (.block 3 (.seq (.run [.m 61 mM, .o 62 (.cb o8 mM 5), .o 63 (.load pM true 5), .o 9 (.alloc [(.str []),(.slice .full 0 []),(.slice .full 0 []),(.slice .full 0 []),(.slice .full 0 [])]), .m 8 ri, .op none none (.store dr rj 5)]) (.seq (.run [.o 64 (.load dr true 5), .c 65 uZ [rk], .m 10 tr]) QUE))) (.run [.o 94 (.bin .add mM (.k (.int .i64 1))), .m 59 MX])
abbrev QUN:AC:= .block 2 (.loop (.seq (.run [.o 60 (.bin .lss mM ou)]) (.seq (.cond pL .skip (.exit 2)) QUJ)))
abbrev QUR:AC:= .seq (.seq (.run [.o 56 (.aq bt 1), .o 57 (.load mW false 1), .o 58 (.len o8), .o 59 (.mv (.k (.int .i64 0)))]) QUN) (.seq (.run [.o 95 (.build [(.int .i64 0),(.int .i64 0)] []), .op none none (.store dw FR 2)]) .ret)
abbrev QUT:AC:= .seq (.seq (.run [.o 32 (.aq bt 0), .o 33 (.load gH false 1), .c 34 pw [gv], .m 35 ib, .g 36 35 false (.mv cv), .d 37 35 false pw [gP], .o 38 (.pick gI (.k (.bool true)) iC), .m 39 iJ, .g 40 39 false (.mv dc), .g 41 39 false (.bin .lss jm (.k (.int .i64 0))), .o 42 (.pick iT (.k (.bool true)) iY), .m 43 jO, .g 44 43 false (.aq bt 1), .g 45 43 false (.load jP false 1), .g 46 43 false (.mv dc), .g 47 43 false (.cb kB kS 5), .g 48 43 false (.aq lq 1), .g 49 43 false (.load lr false 1), .g 50 43 false (.len lu), .g 51 43 false (.bin .gtr lH (.k (.int .i64 0))), .o 52 (.pick jA (.k (.bool true)) kT)]) (.cond kU QTI .skip)) (.seq (.run [.o 54 (.load bt true 2), .c 55 lV [lI], .m 7 lx]) QUR)
abbrev QUV:AC:= .seq (.seq (.run [.o 17 (.aq bt 1), .o 18 (.load dK false 1), .o 19 (.len dF), .o 20 (.mv (.k (.int .i64 0)))]) QTD) (.seq (.run [.m 30 cv,(.c 31 gU [fW,(.k (.str [109,97,105,110]))]), .m 6 gd]) QUT)
abbrev QUX:AC:= .seq (.seq (.run [.o 13 (.load bt true 2), .c 14 qL [c6], .o 15 (.un .not cZ)]) (.cond dA QSX .skip)) (.seq (.run [.o 3 (.mv (.k (.slice .full 0 [])))]) QUV)
abbrev QUY:AC:= .seq (.run [.o 1 (.box bC), .o 2 (.alloc [(.int .i64 0),(.int .i64 0)])]) QUX
abbrev QV2:AC:= .seq (.run [(.o 9 (.build [(.int .i64 0),(.int .i64 0)] [(0,(1,(.k (.int .i64 1))))])), .op none none (.store dw dr 2)]) .ret
abbrev QVB:AC:= .seq (.run [.o 31 (.aq fk 0), .o 32 (.aq gd 0), .o 33 (.load gH false 1),(.o 34 (.build [(.int .i64 0),(.int .i64 0)] [(0,(1,(.k (.int .i64 6)))),(1,(1,gv))])), .op none none (.store dw ib 2)]) .ret
abbrev QVE:AC:= .seq (.run [.o 18 (.cb cZ df 17), .o 19 (.load dF true 17), .o 4 (.alloc [(.int .i64 0),(.int .i64 0),(.slice .full 0 []),(.str []),(.str []),(.int .i64 0),(.int .i64 0),(.str []),(.slice .full 0 []),(.bool false),(.slice .full 0 []),(.slice .full 0 []),(.slice .full 0 []),(.int .i64 0),(.int .i64 0),(.int .i64 0),(.int .i64 0)]), .op none none (.store fk dX 17)]) (.seq (.run [.o 20 (.aq fk 0), .o 21 (.aq ep 1), .o 22 (.load dZ false 1), .o 23 (.bin .eql ei (.k (.int .i64 4))), .m 24 ej, .g 25 24 true (.load bt true 2), .g 26 24 true (.aq fk 0), .g 27 24 true (.load fb true 13), .d 28 24 true xw [eJ,fu], .g 29 24 true (.un .not fJ), .o 30 (.pick eB fZ (.k (.bool false)))]) (.cond fW QVB .skip))
abbrev QVI:AC:= .seq (.cond dK .skip (.exit 0)) (.seq (.block 1 QVE) (.run [.o 35 (.bin .add df (.k (.int .i64 1))), .m 16 gI]))
abbrev QVM:AC:= .seq (.run [.o 10 (.load bt true 2), .c 11 lV [bS], .o 12 (.cu cO), .o 13 (.aq cY 2), .o 14 (.load c6 false 1), .o 15 (.len cZ), .o 16 (.mv (.k (.int .i64 0)))]) (.block 0 (.loop (.seq (.run [.o 17 (.bin .lss df dA)]) QVI)))
abbrev QVQ:AC:= .seq (.seq (.run [.o 5 (.load bt true 2), .c 6 na [bP], .o 7 (.EZ dc 0 false 1), .o 8 (.bin .neq db (.k (.int .i64 0)))]) (.cond cR QV2 .skip)) (.seq QVM (.seq (.run [.o 36 (.build [(.int .i64 0),(.int .i64 0)] []), .op none none (.store dw gP 2)]) .ret))
abbrev QVR:AC:= .seq (.run [.o 1 (.box bC), .o 2 (.alloc [(.int .i64 0),(.int .i64 0)])]) QVQ
abbrev QVW:AC:= .seq (.run [(.o 14 (.build [(.int .i64 0),(.int .i64 0)] [(0,(1,(.k (.int .i64 1))))])), .op none none (.store dw cZ 2)]) .ret
abbrev QWC:AC:= .seq (.run [.o 47 (.aq dr 0), .o 48 (.aq lq 0), .o 49 (.load lr false 1),(.o 50 (.build [(.int .i64 0),(.int .i64 0)] [(0,(1,(.k (.int .i64 7)))),(1,(1,lu))])), .op none none (.store dw lH 2)]) .ret
abbrev QWF:AC:= .seq (.run [.m 32 dc, .o 33 (.aq dr 0), .o 34 (.aq gv 2), .o 35 (.load ib false 1), .c 36 rI [gH,gI], .m 31 gP, .o 37 (.ext gd 0), .o 38 (.ext gd 1), .m 6 iC, .m 7 iJ]) (.seq (.run [.m 39 db, .o 40 (.un .not iT), .m 41 jm, .g 42 41 false (.mv cv), .g 43 41 false (.load dr true 17), .d 44 41 false xx [jO,jA], .g 45 41 false (.un .not jP), .o 46 (.pick iY (.k (.bool true)) kB)]) (.cond kS QWC .skip))
abbrev QWJ:AC:= .seq (.block 3 (.seq (.run [.o 29 (.cb eJ fu 17), .o 30 (.load fZ true 17), .o 9 (.alloc [(.int .i64 0),(.int .i64 0),(.slice .full 0 []),(.str []),(.str []),(.int .i64 0),(.int .i64 0),(.str []),(.slice .full 0 []),(.bool false),(.slice .full 0 []),(.slice .full 0 []),(.slice .full 0 []),(.int .i64 0),(.int .i64 0),(.int .i64 0),(.int .i64 0)]), .op none none (.store dr fW 17)]) QWF)) (.run [.o 51 (.bin .add fu (.k (.int .i64 1))), .m 27 kT])
abbrev QWN:AC:= .block 2 (.loop (.seq (.run [.o 28 (.bin .lss fu fb)]) (.seq (.cond fJ .skip (.exit 2)) QWJ)))
abbrev QWS:AC:= .seq (.run [(.o 61 (.build [(.int .i64 0),(.int .i64 0)] [(0,(1,(.k (.int .i64 7))))])), .op none none (.store dw ri 2)]) .ret
abbrev QWW:AC:= .seq (.seq (.run [.m 23 cv, .m 24 fk, .c 25 iQ [ej,eB], .o 26 (.len eJ), .o 27 (.mv (.k (.int .i64 0)))]) QWN) (.seq (.run [.m 53 dc, .o 54 (.aq bP 4), .o 55 (.load lI false 1), .c 56 rI [kV,lx], .m 52 mW, .o 57 (.ext kU 0), .o 58 (.ext kU 1), .m 7 ou]) (.seq (.run [.m 59 db, .o 60 (.un .not mM)]) (.cond pL QWS .skip)))
abbrev QWY:AC:= .seq (.run [.o 6 (.mv (.k (.slice .full 0 [])))]) (.seq (.run [.o 7 (.mv (.k (.bool true)))]) QWW)
abbrev QX2:AC:= .seq (.block 1 (.seq (.run [.m 20 dF, .o 21 (.cb df dF 5), .o 22 (.load dZ true 5), .o 5 (.alloc [(.str []),(.slice .full 0 []),(.slice .full 0 []),(.slice .full 0 []),(.slice .full 0 [])]), .m 4 ep, .op none none (.store bP ei 5)]) QWY)) (.run [.o 62 (.bin .add dF (.k (.int .i64 1))), .m 18 pM])
abbrev QX6:AC:= .block 0 (.loop (.seq (.run [.o 19 (.bin .lss dF dK)]) (.seq (.cond dX .skip (.exit 0)) QX2)))
abbrev QXA:AC:= .seq (.seq (.run [.o 15 (.aq bt 1), .o 16 (.load dA false 1), .o 17 (.len df), .o 18 (.mv (.k (.int .i64 0)))]) QX6) (.seq (.run [.o 63 (.build [(.int .i64 0),(.int .i64 0)] []), .op none none (.store dw rj 2)]) .ret)
abbrev QXC:AC:= .seq (.run [.o 10 (.load bt true 2), .c 11 tf [bS], .m 3 cO]) (.seq (.seq (.run [.m 12 cv, .o 13 (.Jh false cY (.k .eI))]) (.cond c6 QVW .skip)) QXA)
abbrev QXD:AC:= .seq (.run [.o 1 (.box bC), .o 2 (.alloc [(.int .i64 0),(.int .i64 0)])]) QXC
abbrev QXH:AC:= .seq (.run [(.o 12 (.build [(.int .i64 0),(.int .i64 0)] [(0,(1,(.k (.int .i64 1))))])), .op none none (.store dw cY 2)]) .ret
abbrev QXP:AC:= .par [.m 21 cv, .o 22 (.aq bP 0), .o 23 (.load ei false 1), .o 24 (.load bt true 2), .o 25 (.aq bP 0), .o 26 (.load eJ false 1), .c 27 ti [eB,fb], .op none none (.A8 dZ ej fu)] [(3,0),(4,0),(5,0),(6,0),(0,0),(1,0),(2,1),(7,0)]
abbrev QXT:AC:= .seq (.block 1 (.seq (.run [.o 19 (.cb dA dK 5), .o 20 (.load dX true 5), .o 5 (.alloc [(.str []),(.slice .full 0 []),(.slice .full 0 []),(.slice .full 0 []),(.slice .full 0 [])]), .op none none (.store bP ep 5)]) QXP)) (.run [.o 28 (.bin .add dK (.k (.int .i64 1))), .m 17 fJ])
abbrev QXX:AC:= .block 0 (.loop (.seq (.run [.o 18 (.bin .lss dK df)]) (.seq (.cond dF .skip (.exit 0)) QXT)))
abbrev QY5:AC:= .seq (.run [.o 54 (.aq db 0), .o 55 (.aq lI 0), .o 56 (.load lx false 1),(.o 57 (.build [(.int .i64 0),(.int .i64 0)] [(0,(1,(.k (.int .i64 8)))),(1,(1,mW))])), .op none none (.store dw o8 2)]) .ret
abbrev QY8:AC:= .seq (.run [.o 37 (.cb gv gI 17), .o 38 (.load iC true 17), .o 7 (.alloc [(.int .i64 0),(.int .i64 0),(.slice .full 0 []),(.str []),(.str []),(.int .i64 0),(.int .i64 0),(.str []),(.slice .full 0 []),(.bool false),(.slice .full 0 []),(.slice .full 0 []),(.slice .full 0 []),(.int .i64 0),(.int .i64 0),(.int .i64 0),(.int .i64 0)]), .op none none (.store db iJ 17)]) (.seq (.run [.o 39 (.aq db 0), .o 40 (.aq iT 1), .o 41 (.load jm false 1), .o 42 (.bin .eql iY (.k (.int .i64 4))), .m 43 jO, .g 44 43 true (.aq db 0), .g 45 43 true (.load jP true 13), .g 46 43 true (.mv cv), .g 47 43 true (.aq db 0), .g 48 43 true (.aq lq 4), .g 49 43 true (.load lr false 1), .g 50 43 true (.yd kS lu (.slice .full 0 [])), .d 51 43 true uv [kB,lH], .g 52 43 true (.un .not kT), .o 53 (.pick jA kU (.k (.bool false)))]) (.cond kV QY5 .skip))
abbrev QYC:AC:= .seq (.cond gP .skip (.exit 2)) (.seq (.block 3 QY8) (.run [.o 58 (.bin .add gI (.k (.int .i64 1))), .m 35 ou]))
abbrev QYG:AC:= .seq (.run [.o 29 (.load bt true 2), .c 30 lV [fZ], .o 31 (.cu fW), .o 32 (.aq gd 2), .o 33 (.load gH false 1), .o 34 (.len gv), .o 35 (.mv (.k (.int .i64 0)))]) (.block 2 (.loop (.seq (.run [.o 36 (.bin .lss gI ib)]) QYC)))
abbrev QYK:AC:= .seq (.seq (.run [.o 14 (.aq bt 1), .o 15 (.load cZ false 1), .o 16 (.len dA), .o 17 (.mv (.k (.int .i64 0)))]) QXX) (.seq QYG (.seq (.run [.o 59 (.build [(.int .i64 0),(.int .i64 0)] []), .op none none (.store dw mM 2)]) .ret))
abbrev QYM:AC:= .seq (.seq (.run [.o 8 (.load bt true 2), .c 9 rS [cR], .o 10 (.EZ dr 0 false 1), .o 11 (.bin .neq bS (.k (.int .i64 0)))]) (.cond cO QXH .skip)) (.seq (.run [.op (some 13) none .wJ, .m 3 c6]) QYK)
abbrev QYN:AC:= .seq (.run [.o 1 (.box bC), .o 2 (.alloc [(.int .i64 0),(.int .i64 0)])]) QYM
abbrev QZ2:AC:= .seq (.run [.m 20 bt, .o 21 (.aq dr 0), .op none none (.store dZ ep 1)]) (.seq (.run [.o 23 (.aq cR 11), .o 24 (.load ej false 1), .m 25 bt, .c 26 kg [eB,eJ], .m 22 fb, .o 27 (.ext ei 0), .o 28 (.ext ei 1), .o 29 (.aq dr 11), .op none none (.store fZ fu 1), .m 1 fJ]) (.seq (.run [.o 31 (.aq cR 12), .o 32 (.load gd false 1), .m 33 bt, .c 34 kg [gH,gv], .m 30 ib, .o 35 (.ext fW 0), .o 36 (.ext fW 1), .o 37 (.aq dr 12), .op none none (.store iC gI 1), .m 1 gP]) (.run [.m 38 dc, .o 39 (.load dr true 13), .o 40 (.dg [(.int .i64 0),(.int .i64 0),(.slice .full 0 []),(.str []),(.str []),(.int .i64 0),(.int .i64 0),(.str []),(.slice .full 0 []),(.bool false),(.slice .full 0 []),(.slice .full 0 []),(.slice .full 0 [])] 13 1 [(0,iT)]), .o 41 (.app 13 208 iJ jm), .m 6 iY])))
abbrev QZ5:AC:= .seq (.run [.o 14 (.cb bS cY 13), .o 15 (.load cZ true 13), .o 8 (.alloc [(.int .i64 0),(.int .i64 0),(.slice .full 0 []),(.str []),(.str []),(.int .i64 0),(.int .i64 0),(.str []),(.slice .full 0 []),(.bool false),(.slice .full 0 []),(.slice .full 0 []),(.slice .full 0 [])]), .op none none (.store cR dA 13)]) (.seq (.run [.m 16 bt, .o 17 (.bin .add df (.k (.int .i64 1))), .m 1 dK]) (.seq (.run [.o 18 (.load cR true 13), .c 19 oo [dF], .o 9 (.alloc [(.int .i64 0),(.int .i64 0),(.slice .full 0 []),(.str []),(.str []),(.int .i64 0),(.int .i64 0),(.str []),(.slice .full 0 []),(.bool false),(.slice .full 0 []),(.slice .full 0 []),(.slice .full 0 [])]), .op none none (.store dr dX 13)]) QZ2))
abbrev QZ9:AC:= .seq (.cond c6 .skip (.exit 0)) (.seq (.block 1 QZ5) (.run [.o 42 (.bin .add cY (.k (.int .i64 1))), .m 12 jO]))
abbrev QZD:AC:= .seq (.run [.m 10 bC, .o 11 (.len bS), .o 12 (.mv (.k (.int .i64 0)))]) (.block 0 (.loop (.seq (.run [.o 13 (.bin .lss cY cO)]) QZ9)))
abbrev QZI:AC:= .seq (.run [.o 4 (.mv (.k (.slice .full 0 []))), .o 5 (.mv (.k (.int .i64 0)))]) (.seq (.run [.o 6 (.mv (.k (.slice .full 0 [])))]) (.seq QZD (.seq (.run [.m 43 dc, .m 44 bt, .m 4 jA, .m 5 jP]) .ret)))
abbrev QZR:AC:= .cond c6 (.seq (.run [.o 2 (.mv (.k (.bool false)))]) .ret) .skip
abbrev QZW:AC:= .seq (.block 1 (.seq (.run [.o 9 (.cb bP db 1), .o 10 (.load dr false 1), .m 4 bS]) (.seq (.run [.m 11 fk, .c 12 o7 [cO], .o 13 (.un .not cY)]) QZR))) (.run [.o 14 (.bin .add db (.k (.int .i64 1))), .m 7 cZ])
abbrev aoa:AC:= .block 0 (.loop (.seq (.run [.o 8 (.bin .lss db dc)]) (.seq (.cond cR .skip (.exit 0)) QZW)))
abbrev aob:AC:= .seq (.seq (.run [.m 5 bC, .o 6 (.len bP), .o 7 (.mv (.k (.int .i64 0)))]) aoa) (.seq (.run [.o 2 (.mv (.k (.bool true)))]) .ret)
abbrev aoc:AC:= .seq (.run [.o 2 (.mv (.k (.bool false)))]) aob
abbrev aod:AC:= .cond df (.seq (.run [.o 2 (.mv (.k (.bool false)))]) .ret) .skip
abbrev aoe:AC:= .seq (.seq (.run [.m 3 bC, .o 4 (.qa cv), .o 5 (.bin .lss fk (.k (.int .i64 1))), .m 6 bP, .g 7 6 false (.mv bC), .g 8 6 false (.qa db), .g 9 6 false (.bin .gtr cR (.k (.int .i64 8))), .o 10 (.pick dc (.k (.bool true)) dr), .m 11 bS, .g 12 11 false (.mv bC), .g 13 11 false (.vJ cY (.k (.int .i64 0))), .d 14 11 false qt [c6], .g 15 11 false (.un .not cZ), .o 16 (.pick cO (.k (.bool true)) dA)]) aod) (.seq (.run [.m 17 bC, .c 18 yx [dK,(.k (.int .i64 0))], .m 19 bC, .o 20 (.qa dX), .o 21 (.bin .eql dF ep), .m 22 dZ, .g 23 22 true (.mv bC), .d 24 22 true wP [ej], .g 25 22 true (.un .not eB), .o 26 (.pick ei eJ (.k (.bool false))), .m 2 fb]) .ret)
abbrev aof:AC:= .seq (.run [.o 2 (.mv (.k (.bool false)))]) aoe
abbrev aog:AC:= .cond dA (.seq (.run [.o 6 (.mv (.k (.bool false)))]) .ret) .skip
abbrev aoh:AC:= .par [.m 29 bC, .o 30 (.cu fZ), .o 31 (.aq fW 0), .o 32 (.load gd false 1), .o 33 (.bin .gtr gH (.k (.int .i64 200))), .m 34 gv, .g 35 34 false (.aq cR 0), .g 36 34 false (.load gI false 1), .g 37 34 false (.mv bC), .g 38 34 false (.cu iC), .g 39 34 false (.aq iJ 0), .g 40 34 false (.load iT false 1), .g 41 34 false (.bin .neq gP jm), .o 42 (.pick ib (.k (.bool true)) iY), .m 43 jO, .g 44 43 false (.aq cR 2), .g 45 43 false (.load jP false 1), .d 46 43 false om [kB], .g 47 43 false (.un .not kS), .o 48 (.pick jA (.k (.bool true)) lq), .m 49 lr, .g 50 49 false (.load cR true 13), .d 51 49 false vU [lH], .g 52 49 false (.un .not kT), .o 53 (.pick lu (.k (.bool true)) kU)] [(0,0),(1,0),(2,0),(3,0),(4,0),(5,0),(6,0),(7,0),(8,0),(9,0),(10,0),(11,0),(12,0),(13,0),(14,0),(15,0),(16,0),(17,0),(18,0),(19,0),(20,0),(21,0),(22,0),(23,0),(24,0)]
abbrev aoi:AC:= .cond kV (.seq (.run [.o 6 (.mv (.k (.bool false)))]) .ret) .skip
abbrev aoj:AC:= .cond vZ (.seq (.run [.o 6 (.mv (.k (.bool false)))]) .ret) .skip
abbrev aok:AC:= .seq (.seq aoh aoi) (.seq (.run [.m 54 bC, .o 55 (.aq cR 11), .o 56 (.load lx false 1), .m 57 dw, .o 58 (.bin .add o8 (.k (.int .i64 1))), .c 59 ln [lI,mW,ou], .o 60 (.un .not mM), .m 61 pL, .g 62 61 false (.mv bC), .g 63 61 false (.aq cR 12), .g 64 61 false (.load rj false 1), .g 65 61 false (.mv dw), .g 66 61 false (.bin .add tr (.k (.int .i64 1))), .d 67 61 false ln [pM,rk,uy], .g 68 61 false (.un .not uz), .o 69 (.pick ri (.k (.bool true)) tt)]) aoj)
abbrev aol:AC:= .seq (.run [.o 20 (.cb df dF 13), .o 21 (.load ep true 13), .o 8 (.alloc [(.int .i64 0),(.int .i64 0),(.slice .full 0 []),(.str []),(.str []),(.int .i64 0),(.int .i64 0),(.str []),(.slice .full 0 []),(.bool false),(.slice .full 0 []),(.slice .full 0 []),(.slice .full 0 [])]), .op none none (.store cR dZ 13)]) (.seq (.run [.m 22 bC, .o 23 (.cu ei), .o 24 (.aq ej 0), .o 25 (.load eB false 1), .o 26 (.bin .add eJ (.k (.int .i64 1))), .o 27 (.cu ei), .o 28 (.aq fu 0), .op none none (.store fJ fb 1)]) aok)
abbrev aom:AC:= .seq (.cond dX .skip (.exit 0)) (.seq (.block 1 aol) (.run [.o 70 (.bin .add dF (.k (.int .i64 1))), .m 18 v7]))
abbrev aon:AC:= .seq (.run [.m 16 bt, .o 17 (.len df), .o 18 (.mv (.k (.int .i64 0)))]) (.block 0 (.loop (.seq (.run [.o 19 (.bin .lss dF dK)]) aom)))
abbrev aoo:AC:= .seq aon (.seq (.run [.o 6 (.mv (.k (.bool true)))]) .ret)
abbrev aop:AC:= .seq (.seq (.run [.m 9 dw, .o 10 (.bin .gtr dr (.k (.int .i64 12))), .m 11 bS, .g 12 11 true (.mv bt), .g 13 11 true (.len cY), .g 14 11 true (.bin .gtr c6 (.k (.int .i64 0))), .o 15 (.pick cO cZ (.k (.bool false)))]) aog) aoo
abbrev aoq:AC:= .seq (.run [.o 6 (.mv (.k (.bool false)))]) aop
abbrev aor:AC:= .cond fk (.seq (.run [.o 2 (.mv (.k (.slice .full 0 [])))]) .ret) .skip
abbrev aos:AC:= .seq (.run [.o 2 (.mv (.k (.slice .full 0 [])))]) (.seq (.seq (.run [.m 3 bC, .nil (some 4) none false cv]) aor) (.seq (.run [.o 5 (.dg [(.str []),(.bool false)] 2 0 []), .m 6 bC, .o 7 (.app 2 24 bP dc), .m 2 db]) .ret))
abbrev aot:AC:= .par [.o 26 (.aq bS 2), .o 27 (.load fb false 1), .c 28 fH [fu], .o 29 (.aq bS 5), .o 30 (.load fZ true 4), .c 31 nN [fW], .o 32 (.aq cO 2), .op none none (.store gH fJ 1), .o 33 (.aq cO 5), .op none none (.store gv gd 4), .o 34 (.aq cO 10), .op none none (.store ib (.k (.slice .full 0 [])) 1)] [(0,0),(1,0),(2,0),(3,0),(4,1),(5,0),(6,0),(7,0),(8,0),(9,0),(10,0),(11,0)]
abbrev aou:AC:= .block 3 (.seq (.run [.o 40 (.cb gP iJ 6), .o 41 (.load jm true 6), .o 13 (.alloc [(.bool false),(.str []),(.int .i64 0),(.int .i64 0),(.str []),(.slice .full 0 [])]), .op none none (.store c6 iY 6)]) (.seq (.run [.o 42 (.aq c6 2), .o 43 (.load jO true 4), .c 44 nN [jA], .o 45 (.aq c6 2), .op none none (.store kB jP 4)]) (.run [.o 46 (.aq cO 10), .o 47 (.load kS false 1), .o 48 (.load c6 true 6), .o 49 (.dg [(.bool false),(.str []),(.int .i64 0),(.int .i64 0),(.str []),(.slice .full 0 [])] 6 1 [(0,lr)]), .o 50 (.app 6 80 lq lu), .o 51 (.aq cO 10), .op none none (.store kT lH 1)])))
abbrev aov:AC:= .seq (.cond iT .skip (.exit 2)) (.seq aou (.run [.o 52 (.bin .add iJ (.k (.int .i64 1))), .m 38 kU]))
abbrev aow:AC:= .seq (.run [.o 35 (.aq bS 10), .o 36 (.load gI false 1), .o 37 (.len gP), .o 38 (.mv (.k (.int .i64 0)))]) (.block 2 (.loop (.seq (.run [.o 39 (.bin .lss iJ iC)]) aov)))
abbrev aox:AC:= .seq aow (.seq (.run [.o 54 (.aq bS 11), .o 55 (.load lI false 1), .m 56 bt, .m 57 dw, .c 58 lG [lx,mW,o8], .m 53 ou, .o 59 (.ext kV 0), .o 60 (.ext kV 1), .o 61 (.aq cO 11), .op none none (.store ri mM 1), .m 1 pL]) (.seq (.run [.o 63 (.aq bS 12), .o 64 (.load rj false 1), .m 65 bt, .m 66 dw, .c 67 lG [rk,tr,uy], .m 62 uz, .o 68 (.ext pM 0), .o 69 (.ext pM 1), .o 70 (.aq cO 12), .op none none (.store v7 tt 1), .m 1 vZ]) (.run [.m 71 cR, .o 72 (.load cO true 13), .o 73 (.dg [(.int .i64 0),(.int .i64 0),(.slice .full 0 []),(.str []),(.str []),(.int .i64 0),(.int .i64 0),(.str []),(.slice .full 0 []),(.bool false),(.slice .full 0 []),(.slice .full 0 []),(.slice .full 0 [])] 13 1 [(0,xB)]), .o 74 (.app 13 208 zz xC), .m 8 zA])))
abbrev aoy:AC:= .seq (.run [.o 22 (.load bS true 13), .o 11 (.alloc [(.int .i64 0),(.int .i64 0),(.slice .full 0 []),(.str []),(.str []),(.int .i64 0),(.int .i64 0),(.str []),(.slice .full 0 []),(.bool false),(.slice .full 0 []),(.slice .full 0 []),(.slice .full 0 [])]), .op none none (.store cO ei 13)]) (.seq (.seq (.run [.m 23 dw]) (.cond ej (.run [.m 24 bt, .o 25 (.aq cO 0), .op none none (.store eJ eB 1)]) .skip)) (.seq aot aox))
abbrev aoz:AC:= .seq (.run [.o 18 (.cb cZ df 13), .o 19 (.load dF true 13), .o 10 (.alloc [(.int .i64 0),(.int .i64 0),(.slice .full 0 []),(.str []),(.str []),(.int .i64 0),(.int .i64 0),(.str []),(.slice .full 0 []),(.bool false),(.slice .full 0 []),(.slice .full 0 []),(.slice .full 0 [])]), .op none none (.store bS dX 13)]) (.seq (.run [.m 20 bt, .o 21 (.bin .add ep (.k (.int .i64 1))), .m 1 dZ]) aoy)
abbrev aoA:AC:= .seq (.cond dK .skip (.exit 0)) (.seq (.block 1 aoz) (.run [.o 75 (.bin .add df (.k (.int .i64 1))), .m 16 zB]))
abbrev aoB:AC:= .seq (.run [.m 14 bC, .o 15 (.len cZ), .o 16 (.mv (.k (.int .i64 0)))]) (.block 0 (.loop (.seq (.run [.o 17 (.bin .lss df dA)]) aoA)))
abbrev aoC:AC:= .seq (.run [.o 6 (.mv (.k (.slice .full 0 []))), .o 7 (.mv (.k (.int .i64 0)))]) (.seq (.run [.o 8 (.mv (.k (.slice .full 0 [])))]) (.seq aoB (.seq (.run [.m 76 cR, .m 77 bt, .m 6 xD, .m 7 zC]) .ret)))
abbrev aoD:AC:= .par [.m 7 bt, .o 8 (.bin .lss db (.k (.int .i64 1))), .m 9 cR, .g 10 9 false (.aq dw 3), .g 11 9 false (.load bS false 1), .g 12 9 false (.len cO), .g 13 9 false (.aq dw 0), .g 14 9 false (.load c6 false 1), .d 15 9 false zu [cZ], .g 16 9 false (.bin .neq cY dA), .o 17 (.pick dr (.k (.bool true)) df)] [(0,0),(1,0),(2,0),(6,0),(7,0),(8,0),(3,0),(4,1),(5,0),(9,0),(10,0)]
abbrev aoE:AC:= .cond dK (.seq (.run [.o 4 (.mv (.k (.bool false)))]) .ret) .skip
abbrev aoF:AC:= .cond fW (.seq (.run [.o 32 (.aq dw 1), .o 33 (.load gH false 1), .o 34 (.bin .eql gv (.k (.int .i64 0))), .m 35 ib, .g 36 35 true (.aq dw 2), .g 37 35 true (.load gP false 1), .d 38 35 true o7 [iC], .o 39 (.pick gI iJ (.k (.bool false))), .m 4 iT]) .ret) .skip
abbrev aoG:AC:= .cond ep (.seq (.run [.o 22 (.aq dw 1), .o 23 (.load ei false 1), .o 24 (.bin .geq ej (.k (.int .i64 0))), .m 25 eB, .g 26 25 true (.aq dw 2), .g 27 25 true (.load fb false 1), .g 28 25 true (.bin .eql fu (.k (.str []))), .o 29 (.pick eJ fJ (.k (.bool false))), .m 4 fZ]) .ret) (.seq (.run [.o 31 (.bin .eql dX (.k (.int .i64 2))), .m 30 gd]) aoF)
abbrev aoH:AC:= .block 0 (.seq (.run [.o 21 (.bin .eql dX (.k (.int .i64 1))), .m 20 dZ]) aoG)
abbrev aoI:AC:= .cond lq (.seq (.run [.o 4 (.mv (.k (.bool false)))]) .ret) .skip
abbrev aoJ:AC:= .cond mM (.seq (.run [.o 4 (.mv (.k (.bool false)))]) .ret) .skip
abbrev aoK:AC:= .seq (.run [.o 53 (.cb lu kT 4), .o 54 (.load kV true 4), .o 6 (.alloc [(.int .i64 0),(.int .i64 0),(.str []),(.slice .full 0 [])]), .op none none (.store dc lI 4)]) (.seq (.run [.o 55 (.load dc true 4), .m 56 bt, .o 57 (.bin .sub mW (.k (.int .i64 1))), .c 58 rG [lx,o8], .o 59 (.un .not ou)]) aoJ)
abbrev aoL:AC:= .seq (.cond kU .skip (.exit 1)) (.seq (.block 2 aoK) (.run [.o 60 (.bin .add kT (.k (.int .i64 1))), .m 51 pL]))
abbrev aoM:AC:= .seq (.run [.o 48 (.aq dw 3), .o 49 (.load lr false 1), .o 50 (.len lu), .o 51 (.mv (.k (.int .i64 0)))]) (.block 1 (.loop (.seq (.run [.o 52 (.bin .lss kT lH)]) aoL)))
abbrev aoN:AC:= .seq aoM (.seq (.run [.o 4 (.mv (.k (.bool true)))]) .ret)
abbrev aoO:AC:= .seq (.seq (.run [.o 40 (.aq dw 1), .o 41 (.load jm false 1), .o 42 (.bin .neq iY (.k (.int .i64 0))), .m 43 jO, .g 44 43 false (.aq dw 2), .g 45 43 false (.load jP false 1), .g 46 43 false (.bin .neq kB (.k (.str []))), .o 47 (.pick jA (.k (.bool true)) kS)]) aoI) aoN
abbrev aoP:AC:= .seq (.run [.o 2 (.box bC), .o 4 (.mv (.k (.bool false)))]) (.seq (.seq aoD aoE) (.seq (.seq (.run [.o 18 (.aq dw 0), .o 19 (.load dF false 1)]) aoH) aoO))
abbrev aoQ:AC:= .block 1 (.seq (.run [.m 10 cR, .m 5 bS]) (.seq (.run [.m 11 bt, .m 12 bC, .m 13 bP, .o 14 (.cb cY c6 1), .o 15 (.load cZ false 1), .o 16 (.bin .eql cO dA)]) (.cond df (.seq (.run [.m 17 bP, .m 4 dK]) .ret) .skip)))
abbrev aoR:AC:= .seq (.cond dr .skip (.exit 0)) (.seq aoQ (.run [.o 18 (.bin .add cR (.k (.int .i64 1))), .m 8 dF]))
abbrev aoS:AC:= .seq (.run [.m 6 bC, .o 7 (.len dc), .o 8 (.mv (.k (.int .i64 0)))]) (.block 0 (.loop (.seq (.run [.o 9 (.bin .lss cR db)]) aoR)))
abbrev aoT:AC:= .seq (.run [(.o 4 (.mv (.k (.int .i64 (-1)))))]) .ret
abbrev aoU:AC:= .seq (.run [.o 4 (.mv (.k (.int .i64 0)))]) (.seq aoS aoT)
abbrev aoV:AC:= .cond cO (.seq (.run [.m 13 bt, .o 14 (.bin .eql c6 (.k (.int .i64 0))), .c 15 kh [cZ], .m 4 dA, .o 5 (.mv (.k (.bool true)))]) .ret) .skip
abbrev aoW:AC:= .cond db (.seq (.run [.m 9 bt, .o 10 (.bin .sub (.k (.int .i64 0)) dr), .m 4 bS, .o 5 (.mv (.k (.bool true)))]) .ret) (.seq (.run [.o 12 (.bin .eql dc (.k (.int .i64 4))), .m 11 cY]) aoV)
abbrev aoX:AC:= .block 0 (.seq (.run [.o 8 (.bin .eql dc (.k (.int .i64 3))), .m 7 cR]) aoW)
abbrev aoY:AC:= .seq (.seq (.run [.m 6 bC]) aoX) (.seq (.run [.o 4 (.mv (.k (.int .i64 0))), .o 5 (.mv (.k (.bool false)))]) .ret)
abbrev aoZ:AC:= .seq (.run [.o 4 (.mv (.k (.int .i64 0))), .o 5 (.mv (.k (.bool false)))]) aoY
abbrev ao0:AC:= .seq (.run [.o 2 (.mv (.k (.bool false)))]) (.seq (.run [.m 3 bC, .o 4 (.bin .neq cv (.k (.int .i64 0))), .m 2 fk]) .ret)
abbrev ao1:AC:= .seq (.run [.o 25 (.bin .eql cR (.k (.int .i64 6))), .m 24 eJ]) (.cond eB .skip (.run [.o 26 (.bin .eql cR (.k (.int .i64 7))), .m 24 fb]))
abbrev ao2:AC:= .cond jO (.seq (.run [.m 44 bt, .o 45 (.bin .neq jP (.k (.int .i64 0))), .m 46 kB, .g 47 46 false (.mv dw), .g 48 46 false (.bin .neq lq (.k (.int .i64 0))), .o 49 (.pick kS (.k (.bool true)) lr), .c 50 kh [lu], .m 6 lH, .o 7 (.mv (.k (.bool true)))]) .ret) .skip
abbrev ao3:AC:= .cond gv (.seq (.run [.m 35 bt, .o 36 (.bin .neq gI (.k (.int .i64 0))), .m 37 gP, .g 38 37 true (.mv dw), .g 39 37 true (.bin .neq iJ (.k (.int .i64 0))), .o 40 (.pick iC iT (.k (.bool false))), .c 41 kh [jm], .m 6 iY, .o 7 (.mv (.k (.bool true)))]) .ret) (.seq (.run [.o 43 (.bin .eql cR (.k (.int .i64 17))), .m 42 jA]) ao2)
abbrev ao4:AC:= .cond eB (.seq (.run [.m 27 bC, .m 28 bt, .m 29 dw, .c 30 vV [fu,fJ,fZ], .o 31 (.ext fW 0), .o 32 (.ext fW 1), .m 6 gd, .m 7 gH]) .ret) (.seq (.run [.o 34 (.bin .eql cR (.k (.int .i64 16))), .m 33 ib]) ao3)
abbrev ao5:AC:= .cond dX (.seq (.run [.m 21 bt, .m 22 dw, .o 23 (.bin .mul dZ ei), .m 6 ej, .o 7 (.mv (.k (.bool true)))]) .ret) (.seq ao1 ao4)
abbrev ao6:AC:= .cond cZ (.seq (.run [.m 16 bt, .m 17 dw, .o 18 (.bin .sub df dK), .m 6 dF, .o 7 (.mv (.k (.bool true)))]) .ret) (.seq (.run [.o 20 (.bin .eql cR (.k (.int .i64 5))), .m 19 ep]) ao5)
abbrev ao7:AC:= .cond dr (.seq (.run [.m 11 bt, .m 12 dw, .o 13 (.bin .add cO cY), .m 6 c6, .o 7 (.mv (.k (.bool true)))]) .ret) (.seq (.run [.o 15 (.bin .eql cR (.k (.int .i64 9))), .m 14 dA]) ao6)
abbrev ao8:AC:= .block 0 (.seq (.run [.o 10 (.bin .eql cR (.k (.int .i64 8))), .m 9 bS]) ao7)
abbrev ao9:AC:= .seq (.run [.o 6 (.mv (.k (.int .i64 0))), .o 7 (.mv (.k (.bool false)))]) (.seq (.seq (.run [.m 8 bC]) ao8) (.seq (.run [.m 51 bC, .m 52 bt, .m 53 dw, .c 54 uw [kT,kU,kV], .o 55 (.ext lI 0), .o 56 (.ext lI 1), .m 6 lx, .m 7 mW]) .ret))
open Go.Proofs
theorem M4:Has Tryz.prog tc 5 [(2,(some (true,4)))] QR2:=⟨Tryz.f56,by kernel_rfl,by kernel_rfl⟩
theorem KF:Has Tryz.prog l9 5 [(2,(some (true,4)))] QR6:=⟨Tryz.f57,by kernel_rfl,by kernel_rfl⟩
theorem M5:Has Tryz.prog wO 12 [(6,(some (true,4)))] QRA:=⟨Tryz.f58,by kernel_rfl,by kernel_rfl⟩
theorem Dq:Has Tryz.prog kQ 29 [(4,none)] QRT:=⟨Tryz.f59,by kernel_rfl,by kernel_rfl⟩
theorem Ax:Has Tryz.prog oj 7 [(2,none)] QRZ:=⟨Tryz.f60,by kernel_rfl,by kernel_rfl⟩
theorem M6:Has Tryz.prog o6 40 [(4,none)] QST:=⟨Tryz.f61,by kernel_rfl,by kernel_rfl⟩
theorem yy:Has Tryz.prog na 96 [(2,(some (true,2)))] QUY:=⟨Tryz.f75,by kernel_rfl,by kernel_rfl⟩
theorem yz:Has Tryz.prog rS 37 [(2,(some (true,2)))] QVR:=⟨Tryz.f76,by kernel_rfl,by kernel_rfl⟩
theorem Ay:Has Tryz.prog xv 64 [(2,(some (true,2)))] QXD:=⟨Tryz.f77,by kernel_rfl,by kernel_rfl⟩
set_option maxRecDepth 20000 in
theorem yA : Has Tryz.prog vT 60 [(2, (some (true, 2)))] QYN := ⟨Tryz.f78, by kernel_rfl, by kernel_rfl⟩
theorem EN:Has Tryz.prog kg 45 [(4,none),(5,none)] QZI:=⟨Tryz.f79,by kernel_rfl,by kernel_rfl⟩
theorem IE:Has Tryz.prog om 15 [(2,none)] aoc:=⟨Tryz.f80,by kernel_rfl,by kernel_rfl⟩
theorem ov:Has Tryz.prog o7 27 [(2,none)] aof:=⟨Tryz.f81,by kernel_rfl,by kernel_rfl⟩
theorem tu:Has Tryz.prog ln 71 [(6,none)] aoq:=⟨Tryz.f82,by kernel_rfl,by kernel_rfl⟩
theorem v8:Has Tryz.prog mL 8 [(2,none)] aos:=⟨Tryz.f83,by kernel_rfl,by kernel_rfl⟩
theorem G7:Has Tryz.prog lG 78 [(6,none),(7,none)] aoC:=⟨Tryz.f84,by kernel_rfl,by kernel_rfl⟩
theorem Cd:Has Tryz.prog rG 61 [(4,none)] aoP:=⟨Tryz.f85,by kernel_rfl,by kernel_rfl⟩
theorem x9:Has Tryz.prog gU 19 [(4,none)] aoU:=⟨Tryz.f86,by kernel_rfl,by kernel_rfl⟩
theorem M7:Has Tryz.prog Bs 16 [(4,none),(5,none)] aoZ:=⟨Tryz.f87,by kernel_rfl,by kernel_rfl⟩
theorem IF:Has Tryz.prog td 5 [(2,none)] ao0:=⟨Tryz.f88,by kernel_rfl,by kernel_rfl⟩
theorem M8:Has Tryz.prog Bt 57 [(6,none),(7,none)] ao9:=⟨Tryz.f89,by kernel_rfl,by kernel_rfl⟩
abbrev apa:AC:= .par [.m 37 bC, .m 38 bC, .o 39 (.cu iJ), .o 40 (.aq iT 2), .o 41 (.load jm false 1), .o 42 (.load dr true 17), .o 43 (.dg [(.int .i64 0),(.int .i64 0),(.slice .full 0 []),(.str []),(.str []),(.int .i64 0),(.int .i64 0),(.str []),(.slice .full 0 []),(.bool false),(.slice .full 0 []),(.slice .full 0 []),(.slice .full 0 []),(.int .i64 0),(.int .i64 0),(.int .i64 0),(.int .i64 0)] 17 1 [(0,jO)]), .o 44 (.app 17 240 iY jA), .o 45 (.cu iC), .o 46 (.aq kB 2), .op none none (.store kS jP 1)] [(1,0),(2,0),(3,0),(4,0),(5,0),(6,0),(7,0),(0,0),(8,0),(9,0),(10,0)]
abbrev apb:AC:= .run [.o 47 (.aq bP 13), .o 48 (.load lq false 1), .m 49 cR, .o 50 (.aq dr 15), .o 51 (.load lH false 1), .o 52 (.aq bP 16), .o 53 (.load kU false 1), .o 54 (.build [(.int .i64 0),(.int .i64 0),(.slice .full 0 []),(.str []),(.str []),(.int .i64 0),(.int .i64 0),(.str []),(.slice .full 0 []),(.bool false),(.slice .full 0 []),(.slice .full 0 []),(.slice .full 0 []),(.int .i64 0),(.int .i64 0),(.int .i64 0),(.int .i64 0)] [(13,(1,lr)),(14,(1,lu)),(15,(1,kT)),(16,(1,kV))]), .o 10 (.alloc [(.int .i64 0),(.int .i64 0),(.slice .full 0 []),(.str []),(.str []),(.int .i64 0),(.int .i64 0),(.str []),(.slice .full 0 []),(.bool false),(.slice .full 0 []),(.slice .full 0 []),(.slice .full 0 []),(.int .i64 0),(.int .i64 0),(.int .i64 0),(.int .i64 0)]), .op none none (.store bS lI 17)]
abbrev apc:AC:= .seq (.seq (.run [.o 55 (.aq db 1), .o 56 (.load lx false 1), .o 57 (.bin .eql mW (.k (.int .i64 6)))]) (.cond o8 (.run [.m 58 cR, .m 59 cR, .o 60 (.aq bS 15), .op none none (.store pL ou 1), .o 61 (.aq bS 16), .op none none (.store ri mM 1)]) .skip)) (.seq (.run [.m 62 bC, .o 63 (.aq db 11), .o 64 (.load rj false 1), .o 65 (.load bS true 17), .c 66 kR [pM,rk,tr]]) (.run [.m 67 bC, .o 68 (.aq db 12), .o 69 (.load tt false 1), .o 70 (.load bS true 17), .c 71 kR [uz,vZ,v7]]))
abbrev apd:AC:= .seq (.seq (.run [.m 27 dc, .o 28 (.bin .add fu (.k (.int .i64 1))), .m 29 bt, .o 30 (.len fZ), .o 31 (.bin .lss fJ fW)]) (.cond gd (.run [.m 32 cR, .o 33 (.load db true 13), .c 34 nO [gv], .o 35 (.bin .add gH ib), .o 36 (.aq dr 15), .op none none (.store gP gI 1)]) .skip)) (.seq apa (.seq apb apc))
abbrev ape:AC:= .seq (.run [.m 15 c6, .o 16 (.cb cO c6 13), .o 17 (.load df true 13), .o 7 (.alloc [(.int .i64 0),(.int .i64 0),(.slice .full 0 []),(.str []),(.str []),(.int .i64 0),(.int .i64 0),(.str []),(.slice .full 0 []),(.bool false),(.slice .full 0 []),(.slice .full 0 []),(.slice .full 0 [])]), .m 6 dA, .op none none (.store db dK 13)]) (.seq (.run [.m 18 bC, .o 19 (.cu dF), .o 20 (.aq dX 2), .o 21 (.load ep false 1), .o 22 (.len dZ), .o 23 (.bin .add ei (.k (.int .i64 1))), .m 8 ej]) (.seq (.run [.o 24 (.load bP true 17), .o 9 (.alloc [(.int .i64 0),(.int .i64 0),(.slice .full 0 []),(.str []),(.str []),(.int .i64 0),(.int .i64 0),(.str []),(.slice .full 0 []),(.bool false),(.slice .full 0 []),(.slice .full 0 []),(.slice .full 0 []),(.int .i64 0),(.int .i64 0),(.int .i64 0),(.int .i64 0)]), .op none none (.store dr eB 17)]) (.seq (.run [.o 25 (.load db true 13), .o 26 (.aq dr 0), .op none none (.store fb eJ 13)]) apd)))
abbrev apf:AC:= .seq (.cond cZ .skip (.exit 0)) (.seq (.block 1 ape) (.run [.o 72 (.bin .add c6 (.k (.int .i64 1))), .m 13 xB]))
abbrev apg:AC:= .seq (.run [.m 11 bt, .o 12 (.len cO), .o 13 (.mv (.k (.int .i64 0)))]) (.block 0 (.loop (.seq (.run [.o 14 (.bin .lss c6 cY)]) apf)))
abbrev aph:AC:= .seq (.run [.o 5 (.box dw)]) apg
abbrev api:AC:= .par [.m 5 bC, .o 6 (.cu bP), .o 7 (.aq dc 3), .o 8 (.load db false 1), .m 9 bt, .o 10 (.cb cR dr 1), .o 11 (.load bS false 1), .m 12 bC, .o 13 (.cu cY), .o 14 (.aq c6 4), .o 15 (.load cZ false 1), .m 16 bt, .o 17 (.cb dA df 1), .o 18 (.load dK false 1), .o 19 (.bin .lss cO dF)] [(0,0),(1,0),(2,0),(3,0),(4,0),(5,0),(6,0),(7,0),(8,0),(9,0),(10,0),(11,0),(12,0),(13,0),(14,0)]
abbrev apj:AC:= .seq (.run [(.o 4 (.mv (.k (.int .i64 (-1)))))]) .ret
abbrev apk:AC:= .seq (.seq api (.cond dX (.seq (.run [.m 20 bC, .o 21 (.cu ep), .o 22 (.aq dZ 3), .o 23 (.load ei false 1), .m 24 bt, .o 25 (.cb ej eB 1), .o 26 (.load eJ false 1), .m 4 fb]) .ret) .skip)) apj
abbrev apl:AC:= .seq (.run [.o 4 (.mv (.k (.int .i64 0)))]) apk
abbrev apm:AC:= .block 1 (.seq (.run [.m 10 cR, .m 5 bS]) (.seq (.run [.m 11 bt, .m 12 bC, .m 13 bP, .o 14 (.cb cY c6 5), .o 15 (.load cZ true 5),(.kb (some 16) none 11 [dA])]) (.cond df (.seq (.run [.m 17 bP, .m 4 dK]) .ret) .skip)))
abbrev apn:AC:= .seq (.cond dr .skip (.exit 0)) (.seq apm (.run [.o 18 (.bin .add cR (.k (.int .i64 1))), .m 8 dF]))
abbrev apo:AC:= .seq (.run [.m 6 bC, .o 7 (.len dc), .o 8 (.mv (.k (.int .i64 0)))]) (.block 0 (.loop (.seq (.run [.o 9 (.bin .lss cR db)]) apn)))
abbrev apq:AC:= .seq (.run [(.o 4 (.mv (.k (.int .i64 (-1)))))]) .ret
abbrev apr:AC:= .seq (.run [.o 4 (.mv (.k (.int .i64 0)))]) (.seq apo apq)
abbrev aps:AC:= .seq (.run [.o 2 (.box bC), .o 3 (.mv (.k (.bool false)))]) (.seq (.run [.o 4 (.aq dw 0), .o 5 (.load fk false 1), .o 6 (.load bt false 1), .o 7 (.bin .eql bP dc), .m 3 db]) .ret)
abbrev apt:AC:= .par [.m 8 bP, .o 9 (.cu cR), .o 10 (.aq dr 2), .o 11 (.load bS false 1), .m 12 bP, .o 13 (.cu cY), .o 14 (.aq c6 1), .o 15 (.load cZ false 1), .m 16 bt, .c 17 gU [dA,df], .o 18 (.cb cO dK 1), .o 19 (.load dF false 1), .m 4 dX] [(4,0),(5,0),(6,0),(7,0),(8,0),(9,0),(0,0),(1,0),(2,0),(3,1),(10,0),(11,0),(12,0)]
abbrev apu:AC:= .seq (.run [.o 4 (.mv (.k .eI))]) (.seq (.run [.m 6 bC, .c 7 lO [dc], .m 5 db]) (.seq apt .ret))
abbrev apv:AC:= .par [.m 30 bC, .m 31 bC, .o 32 (.cu gd), .o 33 (.aq gH 5), .o 34 (.load gv false 1), .m 35 cR, .o 36 (.cu gI), .o 37 (.load gP false 1), .o 38 (.dg [(.int .i64 0)] 1 1 [(0,iC)]), .o 39 (.app 1 8 ib iJ), .o 40 (.cu fW), .o 41 (.aq jm 5), .op none none (.store iY iT 1)] [(1,0),(2,0),(3,0),(4,0),(5,0),(6,0),(7,0),(8,0),(9,0),(0,0),(10,0),(11,0),(12,0)]
abbrev apw:AC:= .seq (.cond fu .skip (.exit 0)) (.seq (.block 1 (.seq (.run [.o 28 (.cb eB fb 1), .o 29 (.load fJ false 1), .m 8 fZ]) apv)) (.run [.o 42 (.bin .add fb (.k (.int .i64 1))), .m 26 jO]))
abbrev agH:AC:= .seq (.run [.o 27 (.bin .lss fb eJ)]) apw
abbrev apx:AC:= .par [.o 44 (.load cv true 4), .m 45 dc, .o 46 (.cu kB), .o 47 (.aq kS 1), .o 48 (.load lq false 1), .m 49 bC, .o 50 (.cu lu), .o 51 (.aq lH 5), .o 52 (.load kT false 1), .c 53 sy [jP,lr,kU], .m 43 kV, .o 54 (.ext jA 0), .o 55 (.ext jA 1), .m 9 lI, .m 10 lx] [(0,0),(1,0),(2,0),(3,0),(4,0),(5,0),(6,0),(7,0),(8,0),(9,0),(10,0),(11,0),(12,0),(13,0),(14,0)]
abbrev apy:AC:= .seq (.run [.m 56 bS, .o 57 (.un .not mW)]) (.cond o8 (.run [.m 58 bC, .o 59 (.cu ou), .o 60 (.aq mM 6), .o 61 (.aq pL 0), .op none none (.store ri (.k (.int .i64 4)) 1)]) .skip)
abbrev agI:AC:= .seq apx (.seq apy (.seq (.run [.m 62 dr, .m 63 bS, .m 4 pM, .m 5 rj]) .ret))
abbrev apz:AC:= .seq (.seq (.run [.m 21 dc, .o 22 (.cu dZ), .o 23 (.aq ei 2), .o 24 (.load ej false 1), .o 25 (.len eB), .o 26 (.mv (.k (.int .i64 0)))]) (.block 0 (.loop agH))) agI
abbrev apA:AC:= .seq (.run [.m 13 bC, .m 14 bC, .o 15 (.cu cZ), .o 16 (.aq dA 5), .o 17 (.load df false 1),(.o 18 (.Gq 1 dK none (some (.k (.int .i64 0))))), .o 19 (.cu c6), .o 20 (.aq dX 5), .op none none (.store ep dF 1)]) apz
abbrev apB:AC:= .seq (.run [.o 3 (.box bt), .o 4 (.mv (.k (.int .i64 0))), .o 5 (.mv (.k (.bool false)))]) (.seq (.run [.m 11 bC, .c 12 lO [cO], .m 6 cY]) apA)
abbrev apC:AC:= .seq (.run [.m 6 bC, .o 7 (.cu dc), .o 8 (.aq db 3), .o 9 (.load cR false 1), .m 10 bt, .c 11 oq [dr,bS]]) (.cond cO (.run [.m 12 bC, .m 13 bC, .o 14 (.cu c6), .o 15 (.aq cZ 6), .o 16 (.aq dA 4), .o 17 (.load df false 1), .m 18 bt, .m 19 dw, .o 20 (.build [(.int .i64 0),(.slice .full 0 [])] [(0,(1,dF)),(1,(1,dX))]), .o 21 (.dg [(.int .i64 0),(.slice .full 0 [])] 2 1 [(0,ep)]), .o 22 (.app 2 32 dK dZ), .o 23 (.cu cY), .o 24 (.aq ej 6), .o 25 (.aq eB 4), .op none none (.store eJ ei 1)]) .skip)
abbrev apD:AC:= .cond ei (.seq (.run [.o 23 (.aq dr 0), .o 24 (.aq ej 0), .o 25 (.load eB false 1), .m 6 eJ, .o 7 (.mv (.k (.bool true)))]) .ret) .skip
abbrev apE:AC:= .seq (.block 1 (.seq (.run [.o 16 (.cb cY cZ 17), .o 17 (.load df true 17), .o 9 (.alloc [(.int .i64 0),(.int .i64 0),(.slice .full 0 []),(.str []),(.str []),(.int .i64 0),(.int .i64 0),(.str []),(.slice .full 0 []),(.bool false),(.slice .full 0 []),(.slice .full 0 []),(.slice .full 0 []),(.int .i64 0),(.int .i64 0),(.int .i64 0),(.int .i64 0)]), .op none none (.store dr dK 17)]) (.seq (.run [.o 18 (.aq dr 0), .o 19 (.aq dF 2), .o 20 (.load dX false 1), .m 21 dw, .c 22 cQ [ep,dZ]]) apD))) (.run [.o 26 (.bin .add cZ (.k (.int .i64 1))), .m 14 fb])
abbrev apG:AC:= .block 0 (.loop (.seq (.run [.o 15 (.bin .lss cZ c6)]) (.seq (.cond dA .skip (.exit 0)) apE)))
abbrev apH:AC:= .seq (.run [(.o 6 (.mv (.k (.int .i64 (-1))))), .o 7 (.mv (.k (.bool true)))]) .ret
abbrev apI:AC:= .seq (.seq (.run [.m 27 bC, .o 28 (.cu fu), .o 29 (.aq fJ 0), .o 30 (.aq fZ 1), .o 31 (.load fW false 1), .m 32 bt, .o 33 (.cb gd gH 5), .o 34 (.aq gv 4), .o 35 (.load ib false 1), .m 36 dw, .c 37 cQ [gI,gP]]) (.cond iC apH .skip)) (.seq (.run [.o 6 (.mv (.k (.int .i64 0))), .o 7 (.mv (.k (.bool false)))]) .ret)
abbrev apJ:AC:= .seq (.seq (.run [.m 10 bC, .m 11 bt, .c 12 iQ [bS,cO], .o 13 (.len cY), .o 14 (.mv (.k (.int .i64 0)))]) apG) apI
abbrev apK:AC:= .seq (.run [.o 6 (.mv (.k (.int .i64 0))), .o 7 (.mv (.k (.bool false)))]) apJ
abbrev apL:AC:= .cond db (.seq (.run [.m 8 bC, .o 9 (.cb cR (.k (.int .i64 0)) 13), .o 10 (.aq dr 0), .o 11 (.load bS false 1), .m 4 cO]) .ret) .skip
abbrev apN:AC:= .seq (.seq (.run [.m 5 bC, .o 6 (.len bP), .o 7 (.bin .gtr dc (.k (.int .i64 0)))]) apL) (.seq (.run [.m 12 bt, .m 4 cY]) .ret)
abbrev apO:AC:= .seq (.run [.o 4 (.mv (.k (.int .i64 0)))]) apN
abbrev apP:AC:= .par [.m 3 bC, .o 4 (.cu cv), .o 5 (.aq fk 4), .o 6 (.load bP false 1), .m 7 bC, .o 8 (.cu db), .o 9 (.aq cR 4), .o 10 (.load dr false 1), .o 11 (.len bS), .o 12 (.bin .sub cO (.k (.int .i64 1))), .o 13 (.cb dc cY 1), .o 14 (.load c6 false 1), .m 2 cZ] [(0,0),(1,0),(2,0),(3,0),(4,0),(5,0),(6,0),(7,0),(8,0),(9,0),(10,0),(11,0),(12,0)]
abbrev apQ:AC:= .seq (.run [.o 2 (.mv (.k .eI))]) (.seq apP .ret)
abbrev apR:AC:= .seq (.run [(.o 13 (.build [(.int .i64 0),(.int .i64 0)] [(0,(1,(.k (.int .i64 4))))])), .o 2 (.mv (.k (.slice .full 0 []))), .op none none (.store cv c6 2)]) .ret
abbrev apS:AC:= .cond dK (.seq (.run [.m 18 fk, .m 19 bC, .o 20 (.qa dX), .o 21 (.build [(.int .i64 0),(.str []),(.int .i64 0),(.int .i64 0)] [(3,(1,ep))]), .o 22 (.dg [(.int .i64 0),(.str []),(.int .i64 0),(.int .i64 0)] 4 1 [(0,dZ)]), .o 23 (.app 4 40 dF ei), .o 24 (.build [(.int .i64 0),(.int .i64 0)] []), .m 2 ej, .op none none (.store cv eB 2)]) .ret) .skip
abbrev apT:AC:= .cond lq (.goto 1) (.seq (.run [.m 51 dr, .c 52 qt [kT], .m 50 kU]) (.cond lH (.goto 2) (.seq (.run [.m 54 dr, .c 55 rJ [lI], .m 53 lx]) (.cond kV (.goto 3) .skip))))
abbrev apU:AC:= .cond fW (.seq (.run [.m 45 dc, .o 46 (.bin .add kB (.k (.int .i64 1))), .m 6 kS]) (.goto 0)) (.seq (.run [.m 48 dr, .o 49 (.bin .eql lr (.k (.int .u8 35))), .m 47 lu]) apT)
abbrev apV:AC:= .block 0 (.seq (.run [.m 31 dr, .o 32 (.bin .eql gd (.k (.int .u8 32))), .m 33 gH, .g 34 33 false (.mv dr), .g 35 33 false (.bin .eql ib (.k (.int .u8 9))), .o 36 (.pick gv (.k (.bool true)) gI), .m 37 gP, .g 38 37 false (.mv dr), .g 39 37 false (.bin .eql iJ (.k (.int .u8 10))), .o 40 (.pick iC (.k (.bool true)) iT), .m 41 jm, .g 42 41 false (.mv dr), .g 43 41 false (.bin .eql jO (.k (.int .u8 13))), .o 44 (.pick iY (.k (.bool true)) jA), .m 30 jP]) apU)
abbrev apW:AC:= .seq (.seq (.run [.m 72 dc, .m 73 bC, .o 74 (.qa xC), .o 75 (.bin .lss xB zA), .m 76 zB, .g 77 76 true (.mv bC), .g 78 76 true (.mv dc), .g 79 76 true (.vJ zC xE), .g 80 76 true (.bin .neq Dl (.k (.int .u8 10))), .o 81 (.pick xD Dm (.k (.bool false)))]) (.cond Dn .skip (.exit 1))) (.block 2 (.run [.m 82 dc, .o 83 (.bin .add FI (.k (.int .i64 1))), .m 6 FJ]))
abbrev apX:AC:= .par [.m 87 bC, .o 88 (.aq bP 3), .o 89 (.load FP false 1), .m 90 dc, .o 91 (.CG FN (some Bv) (some Dp)), .o 92 (.aq bP 0), .op none none (.store IC (.k (.int .i64 1)) 1), .o 93 (.aq bP 1), .op none none (.store MW FQ 1)] [(1,0),(2,0),(5,0),(6,0),(0,0),(3,0),(4,0),(7,0),(8,0)]
abbrev apY:AC:= .seq (.run [.o 94 (.aq bP 1), .o 95 (.load MX false 1), .c 96 wP [FR]]) (.cond S8 (.run [.o 97 (.aq bP 0), .op none none (.store S9 (.k (.int .i64 3)) 1)]) .skip)
abbrev apZ:AC:= .seq (.seq (.run [.m 103 dc, .m 104 bC, .o 105 (.qa Lc), .o 106 (.bin .lss Lb Ld), .m 107 Lf, .g 108 107 true (.mv bC), .g 109 107 true (.mv dc), .g 110 107 true (.vJ Lh Tc), .d 111 107 true rJ [Li], .o 112 (.pick Lg Lj (.k (.bool false)))]) (.cond G1 .skip (.exit 3))) (.block 4 (.run [.m 113 dc, .o 114 (.bin .add Ll (.k (.int .i64 1))), .m 6 Lm]))
abbrev ap0:AC:= .par [.m 115 bC, .o 116 (.aq bP 3), .o 117 (.load G2 false 1), .m 118 dc, .o 119 (.CG Lo (some Lp) (some Lq)), .o 120 (.aq bP 0), .op none none (.store Ls (.k (.int .i64 2)) 1), .o 121 (.aq bP 1), .op none none (.store Lt Lr 1), .o 7 (.mv (.k (.int .i64 2)))] [(1,0),(2,0),(5,0),(6,0),(0,0),(3,0),(4,0),(7,0),(8,0),(9,0)]
abbrev ap1:AC:= .par [.m 148 db, .o 149 (.aq bP 3), .o 150 (.load abA false 1), .o 151 (.build [(.int .i64 0),(.int .i64 0)] [(0,(1,abz)),(1,(1,abB))]), .o 2 (.mv (.k (.slice .full 0 []))), .op none none (.store cv abC 2)] [(0,0),(1,0),(2,0),(3,0),(4,0),(5,0)]
abbrev ap2:AC:= .seq (.seq (.run [.m 141 fk, .o 142 (.len abr), .o 143 (.bin .eql abt (.k (.int .i64 2000)))]) (.cond abu (.goto 5) .skip)) (.seq (.run [.m 144 fk, .o 145 (.load bP true 4), .o 146 (.dg [(.int .i64 0),(.str []),(.int .i64 0),(.int .i64 0)] 4 1 [(0,abw)]), .o 147 (.app 4 40 abv abx), .m 4 aby]) (.seq (.goto 0) (.seq (.label 5) (.seq ap1 .ret))))
abbrev ap3:AC:= .seq (.label 4) (.seq (.run [.o 7 (.mv (.k (.int .i64 4)))]) ap2)
abbrev ap4:AC:= .seq (.run [.o 133 (.aq bP 1), .o 134 (.load Tf false 1), .c 135 MV [Tg], .m 132 Ti, .o 136 (.ext LB 0), .o 137 (.ext LB 1), .o 138 (.aq bP 2), .op none none (.store abo abm 1), .m 8 abn]) (.seq (.run [.o 7 (.mv (.k (.int .i64 4)))]) (.seq (.seq (.run [.m 139 cR, .o 140 (.un .not abp)]) (.cond abq (.goto 5) .skip)) ap3))
abbrev ap5:AC:= .seq (.seq (.run [.o 122 (.aq bP 1), .o 123 (.load Lu false 1), .o 124 (.qa Lv), .o 125 (.bin .gtr Lw (.k (.int .i64 1))), .m 126 Lx, .g 127 126 true (.aq bP 1), .g 128 126 true (.load Ly false 1), .g 129 126 true (.vJ Bw (.k (.int .i64 0))), .g 130 126 true (.bin .eql Lz (.k (.int .u8 48))), .o 131 (.pick Td LA (.k (.bool false)))]) (.cond Te (.goto 5) .skip)) ap4
abbrev ap6:AC:= .seq (.seq (.run [.m 98 dc, .o 99 (.aq bP 3), .o 100 (.load Tb false 1), .o 101 (.bin .sub Ta K8), .o 102 (.bin .gtr K9 (.k (.int .i64 8)))]) (.cond La (.goto 5) .skip)) (.seq (.goto 4) (.seq (.label 3) (.seq (.block 3 (.loop apZ)) (.seq ap0 ap5))))
abbrev ap7:AC:= .seq apY (.seq (.run [.o 7 (.mv (.k (.int .i64 4)))]) ap6)
abbrev ap8:AC:= .seq (.label 1) (.seq (.block 1 (.loop apW)) (.seq (.goto 0) (.seq (.label 2) (.seq (.run [.m 84 bC, .m 85 dc, .c 86 yx [FK,FL], .m 6 FM]) (.seq apX ap7)))))
abbrev ap9:AC:= .seq (.run [.m 62 bC, .o 63 (.aq bP 3), .o 64 (.load rj false 1), .m 65 dc, .o 66 (.CG pM (some rk) (some tr)), .o 67 (.aq bP 1), .op none none (.store uz uy 1)]) (.seq (.run [.o 7 (.mv (.k (.int .i64 2)))]) (.seq (.seq (.run [.m 68 dc, .o 69 (.aq bP 3), .o 70 (.load vZ false 1), .o 71 (.bin .gtr tt v7)]) (.cond zz (.goto 4) .skip)) (.seq (.goto 5) ap8)))
abbrev aqa:AC:= .seq (.seq (.run [.m 27 bC, .m 28 dc, .o 29 (.vJ fu fJ), .m 9 fZ]) apV) (.seq (.run [.o 56 (.aq bP 0), .op none none (.store mW (.k (.int .i64 4)) 1)]) (.seq (.run [.m 57 dc, .m 58 bC, .m 59 dc, .c 60 S3 [ou,mM], .o 61 (.bin .add o8 pL), .m 6 ri]) ap9))
abbrev agJ:AC:= .seq (.seq (.run [.m 14 dc, .m 15 bC, .o 16 (.qa dA), .o 17 (.bin .geq cZ df)]) apS) (.seq (.run [.m 25 dc, .o 26 (.build [(.int .i64 0),(.str []),(.int .i64 0),(.int .i64 0)] [(3,(1,eJ))]), .op none none (.store bP fb 4)]) aqa)
abbrev aqb:AC:= .seq (.seq (.run [.m 10 bC, .o 11 (.qa bS), .o 12 (.bin .gtr cO (.k (.int .i64 100000)))]) (.cond cY apR .skip)) (.seq (.label 0) agJ)
abbrev aqc:AC:= .seq (.run [.o 5 (.alloc [(.int .i64 0),(.str []),(.int .i64 0),(.int .i64 0)])]) (.seq (.run [.o 6 (.mv (.k (.int .i64 0))), .o 7 (.mv (.k (.int .i64 0))), .o 8 (.mv (.k (.bool true)))]) aqb)
abbrev agK:AC:= .seq (.run [.o 4 (.mv (.k (.slice .full 0 [])))]) aqc
abbrev aqd:AC:= .scope agK
abbrev aBV:AC:= .seq (.run [.o 2 (.mv (.k (.slice .full 0 []))), .o 3 (.alloc [(.int .i64 0),(.int .i64 0)])]) aqd
abbrev aqe:AC:= .par [.o 6 (.aq bt 0), .o 7 (.load dc false 1), .o 8 (.aq bt 1), .o 9 (.load cR false 1), .o 10 (.aq bt 2), .o 11 (.load bS false 1), .c 12 oj [cO], .o 13 (.aq bt 3), .o 14 (.load c6 false 1), .o 15 (.aq bt 4), .o 16 (.load dA false 1), .o 17 (.aq bt 5), .o 18 (.load dK true 4), .c 19 ki [dF], .o 20 (.aq bt 9), .o 21 (.load ep false 1), .o 22 (.build [(.int .i64 0),(.int .i64 0),(.slice .full 0 []),(.str []),(.str []),(.int .i64 0),(.int .i64 0),(.str []),(.slice .full 0 []),(.bool false),(.slice .full 0 []),(.slice .full 0 []),(.slice .full 0 [])] [(0,(1,db)),(1,(1,dr)),(2,(1,cY)),(3,(1,cZ)),(4,(1,df)),(5,(4,dX)),(9,(1,dZ))]), .o 3 (.alloc [(.int .i64 0),(.int .i64 0),(.slice .full 0 []),(.str []),(.str []),(.int .i64 0),(.int .i64 0),(.str []),(.slice .full 0 []),(.bool false),(.slice .full 0 []),(.slice .full 0 []),(.slice .full 0 [])]), .op none none (.store cv ei 13)] [(4,0),(5,0),(6,0),(11,0),(12,1),(13,0),(17,0),(0,0),(1,3),(2,0),(3,3),(7,0),(8,3),(9,0),(10,3),(14,0),(15,3),(16,0),(18,0)]
abbrev aqf:AC:= .par [.o 30 (.aq cv 10), .o 31 (.load fW false 1), .o 32 (.aq bP 0), .o 33 (.load gH false 1), .o 34 (.aq bP 1), .o 35 (.load ib false 1), .o 36 (.aq bP 2), .o 37 (.load gP true 4), .c 38 ki [iC], .o 39 (.build [(.bool false),(.str []),(.int .i64 0),(.int .i64 0),(.str []),(.slice .full 0 [])] [(0,(1,gv)),(1,(1,gI)),(2,(4,iJ))]), .o 40 (.dg [(.bool false),(.str []),(.int .i64 0),(.int .i64 0),(.str []),(.slice .full 0 [])] 6 1 [(0,iT)]), .o 41 (.app 6 80 gd jm), .o 42 (.aq cv 10), .op none none (.store jO iY 1)] [(6,0),(7,0),(8,0),(0,0),(1,1),(2,0),(3,1),(4,0),(5,1),(9,0),(10,0),(11,0),(12,0),(13,0)]
abbrev aqg:AC:= .seq (.block 1 (.seq (.run [.o 28 (.cb eB fb 6), .o 29 (.load fJ true 6), .o 5 (.alloc [(.bool false),(.str []),(.int .i64 0),(.int .i64 0),(.str []),(.slice .full 0 [])]), .op none none (.store bP fZ 6)]) aqf)) (.run [.o 43 (.bin .add fb (.k (.int .i64 1))), .m 26 jA])
abbrev aqh:AC:= .block 0 (.loop (.seq (.run [.o 27 (.bin .lss fb eJ)]) (.seq (.cond fu .skip (.exit 0)) aqg)))
abbrev aqi:AC:= .seq (.seq (.run [.o 23 (.aq bt 10), .o 24 (.load ej false 1), .o 25 (.len eB), .o 26 (.mv (.k (.int .i64 0)))]) aqh) (.seq (.run [.o 44 (.load cv true 13), .op none none (.store dw jP 13)]) .ret)
abbrev aqj:AC:= .seq (.run [.o 1 (.box bC), .o 2 (.alloc [(.int .i64 0),(.int .i64 0),(.slice .full 0 []),(.str []),(.str []),(.int .i64 0),(.int .i64 0),(.str []),(.slice .full 0 []),(.bool false),(.slice .full 0 []),(.slice .full 0 []),(.slice .full 0 [])])]) (.seq aqe aqi)
abbrev aqk:AC:= .cond df (.seq (.run [.o 2 (.mv (.k (.bool true)))]) .ret) .skip
abbrev aql:AC:= .block 1 (.seq (.run [.m 9 db, .o 10 (.cb bP db 1), .o 11 (.load bS false 1), .m 3 dr, .m 4 cO]) (.seq (.run [.m 12 bC, .m 13 cv, .o 14 (.Gq 1 cY none (some c6)), .m 15 fk, .c 16 cQ [cZ,dA]]) aqk))
abbrev aqm:AC:= .seq (.cond cR .skip (.exit 0)) (.seq aql (.run [.o 17 (.bin .add db (.k (.int .i64 1))), .m 7 dK]))
abbrev aqn:AC:= .seq (.run [.m 5 bC, .o 6 (.len bP), .o 7 (.mv (.k (.int .i64 0)))]) (.block 0 (.loop (.seq (.run [.o 8 (.bin .lss db dc)]) aqm)))
abbrev aqo:AC:= .seq aqn (.seq (.run [.o 2 (.mv (.k (.bool false)))]) .ret)
abbrev aqp:AC:= .seq (.run [.o 2 (.mv (.k (.bool false)))]) aqo
abbrev aqq:AC:= .seq (.run [.o 4 (.mv (.k (.bool false)))]) (.seq (.run [.m 5 bC, .m 6 bt, .c 7 lW [bP,dc], .o 8 (.bin .geq db (.k (.int .i64 0))), .m 4 cR]) .ret)
abbrev aqr:AC:= .seq (.run [.o 3 (.mv (.k (.bool false)))]) (.seq (.run [.o 4 (.aq bt 0), .o 5 (.load fk false 1), .m 6 bC, .c 7 cQ [bP,dc], .m 3 db]) .ret)
abbrev aqs:AC:= .seq (.run [.o 4 (.mv (.k (.bool false)))]) (.seq (.run [.m 5 bC, .m 6 bt, .c 7 gU [bP,dc], .o 8 (.bin .geq db (.k (.int .i64 0))), .m 4 cR]) .ret)
abbrev aqt:AC:= .par [.m 5 bC, .o 6 (.cu bP), .o 7 (.aq dc 2), .o 8 (.load db false 1), .m 9 bC, .o 10 (.cu dr), .o 11 (.aq bS 3), .o 12 (.load cO false 1), .m 13 bt, .o 14 (.cb cY c6 1), .o 15 (.load cZ false 1), .o 16 (.bin .sub dA (.k (.int .i64 1))), .m 17 bC, .o 18 (.cu dK), .o 19 (.aq dF 4), .o 20 (.load dX false 1), .m 21 bt, .o 22 (.cb ep dZ 1), .o 23 (.load ei false 1), .o 24 (.bin .sub ej (.k (.int .i64 1))), .o 25 (.Gq 17 cR (some df) (some eB)), .m 4 eJ] [(0,0),(1,0),(2,0),(3,0),(4,0),(5,0),(6,0),(7,0),(8,0),(9,0),(10,0),(11,0),(12,0),(13,0),(14,0),(15,0),(16,0),(17,0),(18,0),(19,0),(20,0),(21,0)]
abbrev aqu:AC:= .seq (.run [.o 4 (.mv (.k (.slice .full 0 [])))]) (.seq aqt .ret)
abbrev aqv:AC:= .cond ei (.seq (.run [.o 8 (.mv (.k (.bool false)))]) .ret) .skip
abbrev aqw:AC:= .seq (.run [.o 16 (.cb cY cZ 1), .o 17 (.load df false 1), .m 10 dK]) (.seq (.run [.o 18 (.load fk true 2), .o 19 (.load bP true 5), .m 20 bS, .c 21 xy [dF,dX,ep], .o 22 (.bin .eql dZ (.k (.int .i64 0)))]) aqv)
abbrev aqx:AC:= .seq (.cond dA .skip (.exit 0)) (.seq (.block 1 aqw) (.run [.o 23 (.bin .add cZ (.k (.int .i64 1))), .m 14 ej]))
abbrev aqy:AC:= .seq (.run [.o 11 (.load db true 13), .c 12 tj [cO], .o 13 (.len cY), .o 14 (.mv (.k (.int .i64 0)))]) (.block 0 (.loop (.seq (.run [.o 15 (.bin .lss cZ c6)]) aqx)))
abbrev aqz:AC:= .seq aqy (.seq (.run [.o 24 (.aq db 1), .o 25 (.load eB false 1), .o 26 (.bin .neq eJ (.k (.int .i64 4))), .m 27 fb, .g 28 27 false (.aq db 4), .g 29 27 false (.load fJ false 1), .g 30 27 false (.bin .neq fZ (.k (.str [109,97,105,110]))), .g 31 27 false (.mv fW), .g 32 31 true (.mv dw), .g 33 31 true (.aq db 4), .g 34 31 true (.load gv false 1), .d 35 31 true cQ [gH,ib], .g 36 27 false (.pick gd gI (.k (.bool false))), .o 37 (.pick fu (.k (.bool true)) gP), .m 8 iC]) .ret)
abbrev aqA:AC:= .seq (.run [.o 4 (.box bC), .o 5 (.box bt), .o 7 (.box cv), .o 8 (.mv (.k (.bool false)))]) aqz
abbrev aqB:AC:= .cond dr (.seq (.run [.o 4 (.mv (.k (.bool false)))]) .ret) .skip
abbrev aqC:AC:= .seq (.run [.o 15 (.cb cO c6 5), .o 16 (.load dA true 5), .o 6 (.alloc [(.str []),(.slice .full 0 []),(.slice .full 0 []),(.slice .full 0 []),(.slice .full 0 [])]), .op none none (.store dc df 5)]) (.seq (.run [.o 17 (.aq dc 0), .o 18 (.load dK false 1), .o 19 (.aq cv 4), .o 20 (.load dX false 1), .o 21 (.bin .eql dF ep)]) (.cond dZ (.seq (.run [.o 22 (.aq dc 1), .o 23 (.load ei false 1), .o 24 (.aq cv 10), .o 25 (.load eB false 1), .c 26 xA [ej,eJ], .m 4 fb]) .ret) .skip))
abbrev aqD:AC:= .seq (.cond cZ .skip (.exit 0)) (.seq (.block 1 aqC) (.run [.o 27 (.bin .add c6 (.k (.int .i64 1))), .m 13 fu]))
abbrev aqE:AC:= .seq (.run [.o 10 (.aq dw 1), .o 11 (.load bS false 1), .o 12 (.len cO), .o 13 (.mv (.k (.int .i64 0)))]) (.block 0 (.loop (.seq (.run [.o 14 (.bin .lss c6 cY)]) aqD)))
abbrev aqF:AC:= .seq aqE (.seq (.run [.o 4 (.mv (.k (.bool false)))]) .ret)
abbrev aqG:AC:= .seq (.seq (.run [.o 7 (.aq cv 1), .o 8 (.load db false 1), .o 9 (.bin .neq cR (.k (.int .i64 4)))]) aqB) aqF
abbrev aqH:AC:= .seq (.run [.o 2 (.box bC), .o 3 (.box bt), .o 4 (.mv (.k (.bool false)))]) aqG
abbrev aqI:AC:= .seq (.run [.o 3 (.load bt true 2), .c 4 na [cv], .o 5 (.EZ fk 0 false 1), .o 6 (.bin .neq bP (.k (.int .i64 0)))]) (.cond dc (.seq (.run [.o 2 (.mv (.k .eI))]) .ret) .skip)
abbrev aqJ:AC:= .seq (.run [.o 1 (.box bC), .o 2 (.mv (.k .eI))]) (.seq aqI (.seq (.run [.o 7 (.load bt true 2), .c 8 lV [db], .m 2 cR]) .ret))
abbrev aqK:AC:= .cond df (.seq (.run [.m 17 bC, .m 4 dK, .o 5 (.mv (.k (.bool false)))]) .ret) .skip
abbrev aqL:AC:= .block 1 (.seq (.run [.o 12 (.cb cR bS 1), .o 13 (.load cY false 1), .m 7 c6]) (.seq (.seq (.run [.m 14 bC, .m 15 db, .c 16 cQ [cZ,dA]]) aqK) (.run [.m 18 bC, .m 19 db, .o 20 (.dg [(.str [])] 1 1 [(0,dX)]), .o 21 (.app 1 16 dF ep), .m 0 dZ])))
abbrev aqM:AC:= .seq (.cond cO .skip (.exit 0)) (.seq aqL (.run [.o 22 (.bin .add bS (.k (.int .i64 1))), .m 10 ei]))
abbrev aqN:AC:= .seq (.run [.m 8 bt, .o 9 (.len cR), .o 10 (.mv (.k (.int .i64 0)))]) (.block 0 (.loop (.seq (.run [.o 11 (.bin .lss bS dr)]) aqM)))
abbrev aqO:AC:= .seq aqN (.seq (.run [.m 23 bC, .m 4 ej, .o 5 (.mv (.k (.bool true)))]) .ret)
abbrev aqP:AC:= .seq (.run [.o 4 (.mv (.k (.slice .full 0 []))), .o 5 (.mv (.k (.bool false)))]) aqO
abbrev aqQ:AC:= .seq (.run [.o 11 (.bin .eql dr (.k (.int .i64 7))), .m 10 cO]) (.cond bS .skip (.run [.o 12 (.bin .eql dr (.k (.int .i64 8))), .m 10 cY]))
abbrev aqR:AC:= .cond bS (.seq (.run [.o 13 (.aq cv 16), .o 14 (.load c6 false 1), .o 15 (.bin .neq cZ (.k (.int .i64 0))), .m 4 dA]) .ret) (.seq (.run [.o 17 (.bin .eql dr (.k (.int .i64 10))), .m 16 dK]) (.cond df (.seq (.run [.m 19 bC, .o 20 (.aq cv 13), .o 21 (.load ep false 1), .o 22 (.aq cv 0), .o 23 (.aq ei 3), .o 24 (.load ej false 1), .c 25 pW [dX,dZ,eB], .m 18 eJ, .o 26 (.ext dF 0), .o 27 (.ext dF 1), .m 5 fb, .m 6 fu]) (.seq (.run [.m 28 dc, .m 4 fJ]) .ret)) .skip))
abbrev aqS:AC:= .seq (.seq (.run [.o 7 (.aq cv 0), .o 8 (.aq db 1), .o 9 (.load cR false 1)]) (.block 0 (.seq aqQ aqR))) (.seq (.run [.o 4 (.mv (.k (.bool true)))]) .ret)
abbrev aqT:AC:= .seq (.run [.o 3 (.box bt), .o 4 (.mv (.k (.bool false)))]) aqS
abbrev aqU:AC:= .cond df (.seq (.run [.o 4 (.mv (.k (.slice .full 0 [])))]) .ret) .skip
abbrev aqV:AC:= .seq (.run [.o 43 (.cb iT iY 1), .o 44 (.load jA false 1), .m 12 jP]) (.seq (.run [.o 45 (.aq dw 0), .o 46 (.load kB false 1), .m 47 cY, .c 48 cQ [kS,lq]]) (.cond lr (.run [.m 49 dc, .m 50 cY, .o 51 (.dg [(.str [])] 1 1 [(0,lH)]), .o 52 (.app 1 16 lu kT), .m 6 kU]) .skip))
abbrev aqW:AC:= .seq (.cond jO .skip (.exit 4)) (.seq (.block 5 aqV) (.run [.o 53 (.bin .add iY (.k (.int .i64 1))), .m 41 kV]))
abbrev aqX:AC:= .seq (.run [.o 37 (.aq bS 0), .o 38 (.load iC true 13), .c 39 tj [iJ], .o 40 (.len iT), .o 41 (.mv (.k (.int .i64 0)))]) (.block 4 (.loop (.seq (.run [.o 42 (.bin .lss iY jm)]) aqW)))
abbrev aqY:AC:= .seq (.block 3 (.seq (.run [.o 35 (.cb gd gv 17), .o 36 (.load gI true 17), .o 10 (.alloc [(.int .i64 0),(.int .i64 0),(.slice .full 0 []),(.str []),(.str []),(.int .i64 0),(.int .i64 0),(.str []),(.slice .full 0 []),(.bool false),(.slice .full 0 []),(.slice .full 0 []),(.slice .full 0 []),(.int .i64 0),(.int .i64 0),(.int .i64 0),(.int .i64 0)]), .op none none (.store bS gP 17)]) aqX)) (.run [.o 54 (.bin .add gv (.k (.int .i64 1))), .m 33 lI])
abbrev aqZ:AC:= .block 2 (.loop (.seq (.run [.o 34 (.bin .lss gv gH)]) (.seq (.cond ib .skip (.exit 2)) aqY)))
abbrev aq0:AC:= .seq (.run [.o 25 (.cb dZ ej 1), .o 26 (.load eJ false 1), .m 8 fb]) (.seq (.run [.m 27 bP, .m 28 bP, .m 29 cR, .c 30 jl [fJ,fZ], .c 31 iQ [fu,fW], .o 32 (.len gd), .o 33 (.mv (.k (.int .i64 0)))]) aqZ)
abbrev aq1:AC:= .seq (.cond eB .skip (.exit 0)) (.seq (.block 1 aq0) (.run [.o 55 (.bin .add ej (.k (.int .i64 1))), .m 23 lx]))
abbrev aq2:AC:= .seq (.run [.m 19 bP, .m 20 bt, .c 21 zv [dX,ep], .o 22 (.len dZ), .o 23 (.mv (.k (.int .i64 0)))]) (.block 0 (.loop (.seq (.run [.o 24 (.bin .lss ej ei)]) aq1)))
abbrev aq3:AC:= .seq (.run [.o 17 (.load dw true 2), .c 18 lV [dK], .m 5 dF]) (.seq (.run [.o 6 (.mv (.k (.slice .full 0 [])))]) (.seq aq2 (.seq (.run [.m 56 dc, .c 57 kj [mW]]) (.seq (.run [.m 58 dc, .c 59 kE [ou], .m 4 mM]) .ret))))
abbrev aq4:AC:= .seq (.run [.o 2 (.box bC), .o 4 (.mv (.k (.slice .full 0 [])))]) (.seq (.seq (.run [.o 13 (.load dw true 2), .m 14 bt, .c 15 vW [c6,cZ], .o 16 (.un .not dA)]) aqU) aq3)
abbrev aq5:AC:= .cond ib (.seq (.run [.o 4 (.mv (.k (.bool false)))]) .ret) .skip
abbrev aq6:AC:= .seq (.seq (.run [.m 18 bP, .o 19 (.aq db 1), .o 20 (.load dX false 1), .c 21 cQ [dF,ep], .m 22 dZ, .g 23 22 false (.aq db 1), .g 24 22 false (.load ej false 1), .g 25 22 false (.aq dw 3), .g 26 22 false (.load eJ false 1), .g 27 22 false (.bin .eql eB fb), .o 28 (.pick ei (.k (.bool true)) fu), .m 29 fJ, .g 30 29 false (.mv bt), .g 31 29 false (.aq db 1), .g 32 29 false (.load gd false 1), .d 33 29 false cQ [fW,gH], .o 34 (.pick fZ (.k (.bool true)) gv)]) aq5) (.run [.m 35 bP, .o 36 (.aq db 1), .o 37 (.load gP false 1), .o 38 (.dg [(.str [])] 1 1 [(0,iC)]), .o 39 (.app 1 16 gI iJ), .m 5 iT])
abbrev aq7:AC:= .block 1 (.seq (.run [.o 13 (.cb dr cO 6), .o 14 (.load c6 true 6), .o 7 (.alloc [(.bool false),(.str []),(.int .i64 0),(.int .i64 0),(.str []),(.slice .full 0 [])]), .op none none (.store db cZ 6)]) (.seq (.seq (.run [.o 15 (.aq db 0), .o 16 (.load dA false 1), .o 17 (.un .not df)]) (.cond dK (.exit 1) .skip)) aq6))
abbrev aq8:AC:= .seq (.cond cY .skip (.exit 0)) (.seq aq7 (.run [.o 40 (.bin .add cO (.k (.int .i64 1))), .m 11 jm]))
abbrev aq9:AC:= .seq (.run [.o 8 (.aq dw 10), .o 9 (.load cR false 1), .o 10 (.len dr), .o 11 (.mv (.k (.int .i64 0)))]) (.block 0 (.loop (.seq (.run [.o 12 (.bin .lss cO bS)]) aq8)))
abbrev ara:AC:= .seq aq9 (.seq (.run [.o 4 (.mv (.k (.bool true)))]) .ret)
abbrev arb:AC:= .seq (.run [.o 2 (.box bC), .o 4 (.mv (.k (.bool false)))]) (.seq (.run [.o 5 (.mv (.k (.slice .full 0 [])))]) ara)
abbrev arc:AC:= .seq (.run [.o 2 (.mv (.k (.bool false)))]) (.seq (.run [.m 3 bC, .o 4 (.bin .geq cv (.k (.int .u8 97))), .m 5 fk, .g 6 5 true (.mv bC), .g 7 5 true (.bin .leq dc (.k (.int .u8 122))), .o 8 (.pick bP db (.k (.bool false))), .m 2 cR]) .ret)
abbrev ard:AC:= .seq (.seq (.run [.m 5 bt, .m 6 bC, .o 7 (.qa dc), .o 8 (.bin .lss bP db), .m 9 cR, .g 10 9 true (.mv bC), .g 11 9 true (.mv bt), .g 12 9 true (.vJ bS cO), .d 13 9 true qt [cY], .g 14 9 true (.mv c6), .g 15 14 false (.mv bC), .g 16 14 false (.mv bt), .g 17 14 false (.vJ dA df), .d 18 14 false rJ [dK], .g 19 9 true (.pick cZ (.k (.bool true)) dF), .o 20 (.pick dr dX (.k (.bool false)))]) (.cond ep .skip (.exit 0))) (.block 1 (.run [.m 21 bt, .o 22 (.bin .add dZ (.k (.int .i64 1))), .m 1 ei]))
abbrev arf:AC:= .seq (.run [.o 4 (.mv (.k (.int .i64 0)))]) (.seq (.block 0 (.loop ard)) (.seq (.run [.m 23 bt, .m 4 ej]) .ret))
abbrev arh:AC:= .seq (.run [.o 16 (.bin .eql cv (.k (.str [114,101,97,100]))), .m 4 df]) (.cond fk .skip (.run [.o 17 (.bin .eql cv (.k (.str [112,114,105,110,116]))), .m 4 dK]))
abbrev ari:AC:= .cond fk .skip (.seq (.run [.o 15 (.bin .eql cv (.k (.str [103,111,116,111]))), .m 4 dA]) (.cond fk .skip arh))
abbrev arj:AC:= .cond fk .skip (.seq (.run [.o 14 (.bin .eql cv (.k (.str [114,101,116,117,114,110]))), .m 4 cZ]) ari)
abbrev ark:AC:= .cond fk .skip (.seq (.run [.o 13 (.bin .eql cv (.k (.str [99,111,110,116,105,110,117,101]))), .m 4 c6]) arj)
abbrev arl:AC:= .cond fk .skip (.seq (.run [.o 12 (.bin .eql cv (.k (.str [98,114,101,97,107]))), .m 4 cY]) ark)
abbrev arn:AC:= .cond fk .skip (.seq (.run [.o 11 (.bin .eql cv (.k (.str [119,104,105,108,101]))), .m 4 cO]) arl)
abbrev aro:AC:= .cond fk .skip (.seq (.run [.o 10 (.bin .eql cv (.k (.str [101,108,115,101]))), .m 4 bS]) arn)
abbrev arp:AC:= .cond fk .skip (.seq (.run [.o 9 (.bin .eql cv (.k (.str [105,102]))), .m 4 dr]) aro)
abbrev arq:AC:= .cond fk .skip (.seq (.run [.o 8 (.bin .eql cv (.k (.str [114,101,102]))), .m 4 cR]) arp)
abbrev art:AC:= .cond fk .skip (.seq (.run [.o 7 (.bin .eql cv (.k (.str [118,97,114]))), .m 4 db]) arq)
abbrev aru:AC:= .cond fk .skip (.seq (.run [.o 6 (.bin .eql cv (.k (.str [112,114,111,99]))), .m 4 dc]) art)
abbrev arv:AC:= .cond fk (.seq (.run [.o 2 (.mv (.k (.bool true)))]) .ret) .skip
abbrev arw:AC:= .seq (.seq (.run [.o 5 (.bin .eql cv (.k (.str [103,108,111,98,97,108]))), .m 4 bP]) aru) arv
abbrev arx:AC:= .seq (.seq (.run [.m 3 bC]) (.block 0 arw)) (.seq (.run [.o 2 (.mv (.k (.bool false)))]) .ret)
abbrev ary:AC:= .seq (.run [.o 2 (.mv (.k (.bool false)))]) arx
abbrev arz:AC:= .par [.o 10 (.aq bt 9), .o 11 (.load bS false 1), .o 3 (.mv (.k (.bool false))), .o 4 (.mv (.k (.bool false))), .o 5 (.mv (.k (.bool false))), .m 6 cO, .o 7 (.mv (.k (.bool false))), .o 8 (.mv (.k (.bool false)))] [(0,0),(1,0),(2,0),(3,0),(4,0),(5,0),(6,0),(7,0)]
abbrev arA:AC:= .seq (.run [.o 20 (.bin .eql df (.k (.int .i64 2))), .m 19 ep]) (.cond dX .skip (.run [.o 21 (.bin .eql df (.k (.int .i64 10))), .m 19 dZ]))
abbrev arB:AC:= .seq (.run [.o 38 (.bin .eql df (.k (.int .i64 7))), .m 37 iJ]) (.cond iC .skip (.run [.o 39 (.bin .eql df (.k (.int .i64 8))), .m 37 iT]))
abbrev arC:AC:= .cond iC .skip (.seq (.run [.o 2 (.mv (.k (.bool false)))]) .ret)
abbrev arD:AC:= .seq (.run [.o 34 (.bin .eql df (.k (.int .i64 9))), .m 33 ib]) (.cond gv (.run [.o 35 (.aq bt 9), .o 36 (.load gI false 1), .m 5 gP, .o 6 (.mv (.k (.bool false)))]) (.seq arB arC))
abbrev arE:AC:= .seq (.run [.o 32 (.bin .eql df (.k (.int .i64 6))), .m 31 gH]) (.cond gd (.run [.o 5 (.mv (.k (.bool true))), .o 7 (.mv (.k (.bool true)))]) arD)
abbrev arG:AC:= .seq (.run [.o 30 (.bin .eql df (.k (.int .i64 5))), .m 29 fW]) (.cond fZ (.run [.o 5 (.mv (.k (.bool true))), .o 7 (.mv (.k (.bool true))), .o 8 (.mv (.k (.bool true)))]) arE)
abbrev arH:AC:= .seq (.run [.o 25 (.bin .eql df (.k (.int .i64 4))), .m 24 eJ]) (.cond eB (.run [.o 26 (.aq bt 3), .o 27 (.load fb false 1), .o 28 (.bin .neq fu (.k (.str []))), .m 3 fJ, .o 4 (.mv (.k (.bool true)))]) arG)
abbrev arI:AC:= .seq (.run [.o 23 (.bin .eql df (.k (.int .i64 3))), .m 22 ej]) (.cond ei (.run [.o 5 (.mv (.k (.bool true)))]) arH)
abbrev arJ:AC:= .seq arA (.cond dX (.run [.o 3 (.mv (.k (.bool true)))]) arI)
abbrev arK:AC:= .seq (.run [.o 18 (.bin .eql df (.k (.int .i64 1))), .m 17 dF]) (.cond dK (.run [.o 3 (.mv (.k (.bool true))), .o 5 (.mv (.k (.bool true)))]) arJ)
abbrev arL:AC:= .run [.m 40 dc, .m 41 jm, .g 42 41 false (.mv db), .g 43 41 false (.un .not jO), .g 44 41 false (.mv jA), .g 45 44 true (.aq bt 11), .g 46 44 true (.load kB false 1), .g 47 44 true (.len kS), .g 48 44 true (.bin .gtr lq (.k (.int .i64 0))), .g 49 41 false (.pick jP lr (.k (.bool false))), .o 50 (.pick iY (.k (.bool true)) lu), .m 51 lH, .g 52 51 false (.mv cR), .g 53 51 false (.un .not kU), .g 54 51 false (.mv kV), .g 55 54 true (.aq bt 12), .g 56 54 true (.load lx false 1), .g 57 54 true (.len mW), .g 58 54 true (.bin .gtr o8 (.k (.int .i64 0))), .g 59 51 false (.pick lI ou (.k (.bool false))), .o 60 (.pick kT (.k (.bool true)) mM), .m 61 pL, .g 62 61 false (.mv dr), .g 63 61 false (.un .not pM), .g 64 61 false (.mv rj), .g 65 64 true (.aq bt 10), .g 66 64 true (.load tr false 1), .g 67 64 true (.len uy), .g 68 64 true (.bin .gtr uz (.k (.int .i64 0))), .g 69 61 false (.pick rk tt (.k (.bool false))), .o 70 (.pick ri (.k (.bool true)) vZ)]
abbrev arM:AC:= .cond v7 (.seq (.run [.o 2 (.mv (.k (.bool false)))]) .ret) .skip
abbrev arN:AC:= .cond Bv (.seq (.run [.o 2 (.mv (.k (.bool false)))]) .ret) .skip
abbrev agL:AC:= .seq (.seq (.run [.o 71 (.aq bt 3), .o 72 (.load zz false 1), .m 73 cv, .c 74 qu [xB,xC], .o 75 (.un .not zA), .m 76 zB, .g 77 76 false (.aq bt 4), .g 78 76 false (.load zC false 1), .g 79 76 false (.mv fk), .d 80 76 false qu [xE,Dl], .g 81 76 false (.un .not Dm), .o 82 (.pick xD (.k (.bool true)) Dn), .m 83 FI, .g 84 83 false (.aq bt 5), .g 85 83 false (.load FK true 4), .g 86 83 false (.mv bP), .d 87 83 false tn [FL,FM], .g 88 83 false (.un .not FN), .o 89 (.pick FJ (.k (.bool true)) FP)]) arN) (.seq (.run [.o 90 (.aq bt 10), .o 91 (.load Dp false 1), .c 92 vX [FQ], .m 2 IC]) .ret)
abbrev agM:AC:= .seq (.seq arL arM) agL
abbrev Y2:AC:= .seq (.seq (.run [.o 15 (.aq bt 1), .o 16 (.load dA false 1)]) (.block 0 arK)) agM
abbrev agN:AC:= .seq (.run [.o 12 (.aq bt 1), .o 13 (.load cY false 1), .o 14 (.bin .eql c6 (.k (.int .i64 4))), .m 9 cZ]) Y2
abbrev agO:AC:= .seq arz agN
abbrev arO:AC:= .seq (.run [.o 1 (.box bC), .o 2 (.mv (.k (.bool false)))]) agO
abbrev arP:AC:= .par [.o 15 (.aq bt 3), .o 16 (.load dA false 1), .o 17 (.load bP true 4), .c 18 nN [dK], .o 19 (.dg [(.int .i64 0),(.int .i64 0),(.str []),(.slice .full 0 [])] 4 1 [(0,dF)]), .o 20 (.app 4 56 df dX), .o 21 (.aq bt 3), .op none none (.store dZ ep 1)] [(2,0),(3,0),(0,0),(1,1),(4,0),(5,0),(6,0),(7,0)]
abbrev arQ:AC:= .seq (.block 1 (.seq (.run [.o 13 (.cb dr cO 4), .o 14 (.load c6 true 4), .o 5 (.alloc [(.int .i64 0),(.int .i64 0),(.str []),(.slice .full 0 [])]), .op none none (.store bP cZ 4)]) arP)) (.run [.o 22 (.bin .add cO (.k (.int .i64 1))), .m 11 ei])
abbrev arR:AC:= .block 0 (.loop (.seq (.run [.o 12 (.bin .lss cO bS)]) (.seq (.cond cY .skip (.exit 0)) arQ)))
abbrev arS:AC:= .seq (.seq (.run [.m 9 cv, .o 10 (.len dr), .o 11 (.mv (.k (.int .i64 0)))]) arR) (.seq (.run [.o 23 (.load bt true 4), .op none none (.store dw ej 4)]) .ret)
abbrev arT:AC:= .seq (.run [.o 6 (.aq bt 3), .o 7 (.load dc false 1), .m 3 db]) (.seq (.run [.o 8 (.aq bt 3), .op none none (.store cR (.k (.slice .full 0 [])) 1)]) arS)
abbrev arU:AC:= .seq (.run [.o 1 (.box bC), .o 2 (.alloc [(.int .i64 0),(.int .i64 0),(.str []),(.slice .full 0 [])])]) arT
abbrev arV:AC:= .cond dK (.seq (.run [.o 2 (.mv (.k (.int .i64 2)))]) .ret) .skip
abbrev arW:AC:= .cond bS (.seq (.run [.o 2 (.mv (.k (.int .i64 1)))]) .ret) (.seq (.run [.m 18 bC, .o 19 (.bin .geq dF (.k (.int .i64 5))), .m 20 dX, .g 21 20 true (.mv bC), .g 22 20 true (.bin .leq dZ (.k (.int .i64 17))), .o 23 (.pick ep ei (.k (.bool false))), .m 17 ej]) arV)
abbrev arX:AC:= .cond cv (.seq (.run [.o 2 (.mv (.k (.int .i64 0)))]) .ret) (.seq (.run [.m 11 bC, .o 12 (.bin .eql cO (.k (.int .i64 3))), .m 13 cY, .g 14 13 false (.mv bC), .g 15 13 false (.bin .eql cZ (.k (.int .i64 4))), .o 16 (.pick c6 (.k (.bool true)) dA), .m 10 df]) arW)
abbrev arY:AC:= .block 0 (.seq (.run [.m 4 bC, .o 5 (.bin .eql fk (.k (.int .i64 1))), .m 6 bP, .g 7 6 false (.mv bC), .g 8 6 false (.bin .eql db (.k (.int .i64 2))), .o 9 (.pick dc (.k (.bool true)) cR), .m 3 dr]) arX)
abbrev arZ:AC:= .seq (.run [(.o 2 (.mv (.k (.int .i64 (-1)))))]) .ret
abbrev ar1:AC:= .seq (.run [.o 2 (.mv (.k (.int .i64 0)))]) (.seq arY arZ)
abbrev ar2:AC:= .cond cv (.seq (.run [.o 2 (.mv (.k (.int .i64 1)))]) .ret) .skip
abbrev ar3:AC:= .seq (.seq (.run [.m 3 bC]) ar2) (.seq (.run [.o 2 (.mv (.k (.int .i64 0)))]) .ret)
abbrev ar4:AC:= .seq (.run [.o 2 (.mv (.k (.int .i64 0)))]) ar3
abbrev ar5:AC:= .cond dr (.seq (.run [.o 6 (.mv (.k (.int .i64 0))), .o 7 (.mv (.k (.bool false)))]) .ret) .skip
abbrev ar6:AC:= .cond c6 (.seq (.run [.o 6 (.mv (.k (.int .i64 0))), .o 7 (.mv (.k (.bool true)))]) .ret) .skip
abbrev ar7:AC:= .cond dA (.seq (.run [.m 16 bt, .m 6 df, .o 7 (.mv (.k (.bool true)))]) .ret) .skip
abbrev ar8:AC:= .seq (.run [.m 14 bt,(.o 15 (.bin .eql cZ (.k (.int .i64 (-9223372036854775808)))))]) ar7
abbrev ar9:AC:= .seq ar8 (.seq (.run [.m 17 bt, .o 18 (.bin .sub (.k (.int .i64 0)) dK), .m 6 dF, .o 7 (.mv (.k (.bool true)))]) .ret)
abbrev asa:AC:= .seq (.seq (.run [.m 12 bC, .o 13 (.bin .eql cY (.k (.int .i64 7)))]) ar6) ar9
abbrev asb:AC:= .seq (.run [.m 10 dw,(.o 11 (.bin .eql bS (.k (.int .i64 (-1)))))]) (.cond cO asa .skip)
abbrev asc:AC:= .cond ep (.seq (.run [.m 21 bt, .m 22 dw, .o 23 (.bin .rem dZ ei), .m 6 ej, .o 7 (.mv (.k (.bool true)))]) .ret) .skip
abbrev asd:AC:= .seq (.seq (.run [.m 19 bC, .o 20 (.bin .eql dX (.k (.int .i64 7)))]) asc) (.seq (.run [.m 24 bt, .m 25 dw, .o 26 (.bin .quo eB eJ), .m 6 fb, .o 7 (.mv (.k (.bool true)))]) .ret)
abbrev ase:AC:= .seq (.seq (.run [.m 8 dw, .o 9 (.bin .eql cR (.k (.int .i64 0)))]) ar5) (.seq asb asd)
abbrev asf:AC:= .seq (.run [.o 6 (.mv (.k (.int .i64 0))), .o 7 (.mv (.k (.bool false)))]) ase
abbrev asg:AC:= .cond iT (.seq (.run [.m 41 bt, .m 42 dw, .o 43 (.bin .neq iY jO), .c 44 kh [jA], .m 6 jP, .o 7 (.mv (.k (.bool true)))]) .ret) .skip
abbrev ash:AC:= .cond gv (.seq (.run [.m 35 bt, .m 36 dw, .o 37 (.bin .eql gI gP), .c 38 kh [iC], .m 6 iJ, .o 7 (.mv (.k (.bool true)))]) .ret) (.seq (.run [.o 40 (.bin .eql cR (.k (.int .i64 15))), .m 39 jm]) asg)
abbrev asi:AC:= .cond fu (.seq (.run [.m 29 bt, .m 30 dw, .o 31 (.bin .geq fZ fW), .c 32 kh [gd], .m 6 gH, .o 7 (.mv (.k (.bool true)))]) .ret) (.seq (.run [.o 34 (.bin .eql cR (.k (.int .i64 14))), .m 33 ib]) ash)
abbrev asj:AC:= .cond dZ (.seq (.run [.m 23 bt, .m 24 dw, .o 25 (.bin .gtr ej eB), .c 26 kh [eJ], .m 6 fb, .o 7 (.mv (.k (.bool true)))]) .ret) (.seq (.run [.o 28 (.bin .eql cR (.k (.int .i64 13))), .m 27 fJ]) asi)
abbrev asm:AC:= .cond dA (.seq (.run [.m 17 bt, .m 18 dw, .o 19 (.bin .leq dK dF), .c 20 kh [dX], .m 6 ep, .o 7 (.mv (.k (.bool true)))]) .ret) (.seq (.run [.o 22 (.bin .eql cR (.k (.int .i64 12))), .m 21 ei]) asj)
abbrev asn:AC:= .cond dr (.seq (.run [.m 11 bt, .m 12 dw, .o 13 (.bin .lss cO cY), .c 14 kh [c6], .m 6 cZ, .o 7 (.mv (.k (.bool true)))]) .ret) (.seq (.run [.o 16 (.bin .eql cR (.k (.int .i64 11))), .m 15 df]) asm)
abbrev aso:AC:= .block 0 (.seq (.run [.o 10 (.bin .eql cR (.k (.int .i64 10))), .m 9 bS]) asn)
abbrev asp:AC:= .seq (.seq (.run [.m 8 bC]) aso) (.seq (.run [.o 6 (.mv (.k (.int .i64 0))), .o 7 (.mv (.k (.bool false)))]) .ret)
abbrev asq:AC:= .seq (.run [.o 6 (.mv (.k (.int .i64 0))), .o 7 (.mv (.k (.bool false)))]) asp
abbrev asr:AC:= .seq (.block 1 (.seq (.run [.o 13 (.cb dr cO 13), .o 14 (.load c6 true 13), .o 5 (.alloc [(.int .i64 0),(.int .i64 0),(.slice .full 0 []),(.str []),(.str []),(.int .i64 0),(.int .i64 0),(.str []),(.slice .full 0 []),(.bool false),(.slice .full 0 []),(.slice .full 0 []),(.slice .full 0 [])]), .op none none (.store bP cZ 13)]) (.run [.m 15 cv, .o 16 (.load bP true 13), .c 17 nO [df], .o 18 (.bin .add dA dK), .m 3 dF]))) (.run [.o 19 (.bin .add cO (.k (.int .i64 1))), .m 11 dX])
abbrev ass:AC:= .block 0 (.loop (.seq (.run [.o 12 (.bin .lss cO bS)]) (.seq (.cond cY .skip (.exit 0)) asr)))
abbrev ast:AC:= .seq (.block 3 (.seq (.run [.o 25 (.cb dZ ej 13), .o 26 (.load eJ true 13), .o 7 (.alloc [(.int .i64 0),(.int .i64 0),(.slice .full 0 []),(.str []),(.str []),(.int .i64 0),(.int .i64 0),(.str []),(.slice .full 0 []),(.bool false),(.slice .full 0 []),(.slice .full 0 []),(.slice .full 0 [])]), .op none none (.store db fb 13)]) (.run [.m 27 cv, .o 28 (.load db true 13), .c 29 nO [fJ], .o 30 (.bin .add fu fZ), .m 3 fW]))) (.run [.o 31 (.bin .add ej (.k (.int .i64 1))), .m 23 gd])
abbrev asu:AC:= .block 2 (.loop (.seq (.run [.o 24 (.bin .lss ej ei)]) (.seq (.cond eB .skip (.exit 2)) ast)))
abbrev asv:AC:= .seq (.seq (.run [.o 20 (.aq bt 12), .o 21 (.load ep false 1), .o 22 (.len dZ), .o 23 (.mv (.k (.int .i64 0)))]) asu) (.seq (.run [.m 32 cv, .m 2 gH]) .ret)
abbrev asw:AC:= .seq (.seq (.run [.o 8 (.aq bt 11), .o 9 (.load cR false 1), .o 10 (.len dr), .o 11 (.mv (.k (.int .i64 0)))]) ass) asv
abbrev asx:AC:= .seq (.run [.o 1 (.box bC), .o 2 (.mv (.k (.int .i64 0)))]) (.seq (.run [.o 3 (.mv (.k (.int .i64 1)))]) asw)
abbrev asy:AC:= .seq (.run [.o 4 (.mv (.k (.bool false)))]) (.seq (.run [.m 5 bC, .m 6 bt, .c 7 qv [bP,dc], .o 8 (.bin .geq db (.k (.int .i64 0))), .m 4 cR]) .ret)
abbrev asz:AC:= .seq (.run [.o 2 (.mv (.k (.bool false)))]) (.seq (.run [.m 3 bC, .o 4 (.bin .geq cv (.k (.int .u8 48))), .m 5 fk, .g 6 5 true (.mv bC), .g 7 5 true (.bin .leq dc (.k (.int .u8 57))), .o 8 (.pick bP db (.k (.bool false))), .m 2 cR]) .ret)
abbrev asA:AC:= .par [.o 18 (.aq cv 3), .o 19 (.load dF false 1), .o 20 (.aq bt 3), .o 21 (.load ep false 1), .m 22 fk, .o 23 (.cb dZ ei 4), .o 24 (.load ej true 4), .c 25 ki [eB], .o 26 (.dg [(.int .i64 0),(.int .i64 0),(.str []),(.slice .full 0 [])] 4 1 [(0,eJ)]), .o 27 (.app 4 56 dX fb), .o 28 (.aq cv 3), .op none none (.store fJ fu 1)] [(2,0),(3,0),(4,0),(5,0),(6,0),(7,0),(0,0),(1,1),(8,0),(9,0),(10,0),(11,0)]
abbrev asB:AC:= .seq (.cond df .skip (.exit 0)) (.seq (.block 1 (.seq (.run [.m 17 dA, .m 4 dK]) asA)) (.run [.o 29 (.bin .add dA (.k (.int .i64 1))), .m 15 fZ]))
abbrev asC:AC:= .seq (.run [.o 12 (.aq bt 3), .o 13 (.load cY false 1), .o 14 (.len c6), .o 15 (.mv (.k (.int .i64 0)))]) (.block 0 (.loop (.seq (.run [.o 16 (.bin .lss dA cZ)]) asB)))
abbrev asD:AC:= .seq (.run [.o 1 (.box bC), .o 2 (.alloc [(.int .i64 0),(.int .i64 0),(.str []),(.slice .full 0 [])])]) (.seq (.run [.o 5 (.aq bt 0), .o 6 (.load bP false 1), .o 7 (.aq bt 1), .o 8 (.load db false 1), .o 9 (.aq bt 2), .o 10 (.load dr false 1), .o 11 (.build [(.int .i64 0),(.int .i64 0),(.str []),(.slice .full 0 [])] [(0,(1,dc)),(1,(1,cR)),(2,(1,bS))]), .o 3 (.alloc [(.int .i64 0),(.int .i64 0),(.str []),(.slice .full 0 [])]), .op none none (.store cv cO 4)]) (.seq asC (.seq (.run [.o 30 (.load cv true 4), .op none none (.store dw fW 4)]) .ret)))
open Go.Proofs
theorem wB:Has Tryz.prog ti 60 [(4,none)] aq4:=⟨Tryz.f126,by kernel_rfl,by kernel_rfl⟩
set_option maxRecDepth 20000 in
theorem FU : Has Tryz.prog uv 41 [(4, none)] arb := ⟨Tryz.f127, by kernel_rfl, by kernel_rfl⟩
theorem IG:Has Tryz.prog qt 9 [(2,none)] arc:=⟨Tryz.f128,by kernel_rfl,by kernel_rfl⟩
theorem Pj:Has Tryz.prog yx 24 [(4,none)] arf:=⟨Tryz.f129,by kernel_rfl,by kernel_rfl⟩
theorem M9:Has Tryz.prog wP 18 [(2,none)] ary:=⟨Tryz.f130,by kernel_rfl,by kernel_rfl⟩
theorem G8:Has Tryz.prog vU 93 [(2,none)] arO:=⟨Tryz.f131,by kernel_rfl,by kernel_rfl⟩
theorem KH:Has Tryz.prog nN 24 [(2,(some (true,4)))] arU:=⟨Tryz.f132,by kernel_rfl,by kernel_rfl⟩
theorem KI:Has Tryz.prog zu 24 [(2,none)] ar1:=⟨Tryz.f133,by kernel_rfl,by kernel_rfl⟩
theorem Na:Has Tryz.prog kh 4 [(2,none)] ar4:=⟨Tryz.f134,by kernel_rfl,by kernel_rfl⟩
theorem yB:Has Tryz.prog vV 27 [(6,none),(7,none)] asf:=⟨Tryz.f135,by kernel_rfl,by kernel_rfl⟩
theorem FV:Has Tryz.prog uw 45 [(6,none),(7,none)] asq:=⟨Tryz.f136,by kernel_rfl,by kernel_rfl⟩
theorem KK:Has Tryz.prog nO 33 [(2,none)] asx:=⟨Tryz.f137,by kernel_rfl,by kernel_rfl⟩
theorem ya:Has Tryz.prog oq 9 [(4,none)] asy:=⟨Tryz.f138,by kernel_rfl,by kernel_rfl⟩
theorem KM:Has Tryz.prog rJ 9 [(2,none)] asz:=⟨Tryz.f139,by kernel_rfl,by kernel_rfl⟩
theorem EO:Has Tryz.prog ki 31 [(2,(some (true,4)))] asD:=⟨Tryz.f149,by kernel_rfl,by kernel_rfl⟩
abbrev asE:AC:= .block 1 (.seq (.run [.m 10 cR, .m 5 bS]) (.seq (.run [.m 11 bt, .m 12 bC, .m 13 bP, .o 14 (.cb cY c6 1), .o 15 (.load cZ false 1),(.kb (some 16) none 11 [dA])]) (.cond df (.seq (.run [.m 17 bP, .m 4 dK]) .ret) .skip)))
abbrev asF:AC:= .seq (.cond dr .skip (.exit 0)) (.seq asE (.run [.o 18 (.bin .add cR (.k (.int .i64 1))), .m 8 dF]))
abbrev asG:AC:= .seq (.run [.m 6 bC, .o 7 (.len dc), .o 8 (.mv (.k (.int .i64 0)))]) (.block 0 (.loop (.seq (.run [.o 9 (.bin .lss cR db)]) asF)))
abbrev asH:AC:= .seq (.run [(.o 4 (.mv (.k (.int .i64 (-1)))))]) .ret
abbrev asI:AC:= .seq (.run [.o 4 (.mv (.k (.int .i64 0)))]) (.seq asG asH)
abbrev asJ:AC:= .seq (.seq (.run [.o 31 (.aq bP 0), .o 32 (.load gd false 1)]) (.cond gH (.run [.m 33 cv, .o 34 (.aq bP 1), .o 35 (.load ib false 1), .o 36 (.dg [(.str [])] 1 1 [(0,gI)]), .o 37 (.app 1 16 gv gP), .m 3 iC]) .skip)) (.run [.m 38 cv, .o 39 (.aq bP 2), .o 40 (.load iT true 4), .c 41 tq [jm], .o 42 (.app 1 16 iJ iY), .m 3 jO])
abbrev asK:AC:= .seq (.block 1 (.seq (.run [.o 29 (.cb eJ fu 6), .o 30 (.load fZ true 6), .o 5 (.alloc [(.bool false),(.str []),(.int .i64 0),(.int .i64 0),(.str []),(.slice .full 0 [])]), .op none none (.store bP fW 6)]) asJ)) (.run [.o 43 (.bin .add fu (.k (.int .i64 1))), .m 27 jA])
abbrev asL:AC:= .block 0 (.loop (.seq (.run [.o 28 (.bin .lss fu fb)]) (.seq (.cond fJ .skip (.exit 0)) asK)))
abbrev asM:AC:= .seq (.seq (.run [.o 24 (.aq bt 10), .o 25 (.load eB false 1), .o 26 (.len eJ), .o 27 (.mv (.k (.int .i64 0)))]) asL) (.seq (.run [.m 44 cv, .m 2 jP]) .ret)
abbrev asN:AC:= .seq (.seq (.run [.o 6 (.aq bt 1), .o 7 (.load dc false 1), .o 8 (.bin .neq db (.k (.int .i64 10))), .m 9 cR, .g 10 9 true (.aq bt 3), .g 11 9 true (.load bS false 1), .g 12 9 true (.bin .neq cO (.k (.str []))), .o 13 (.pick dr cY (.k (.bool false)))]) (.cond c6 (.run [.m 14 cv, .o 15 (.aq bt 3), .o 16 (.load dA false 1), .o 17 (.dg [(.str [])] 1 1 [(0,df)]), .o 18 (.app 1 16 cZ dK), .m 3 dF]) .skip)) (.seq (.run [.m 19 cv, .o 20 (.aq bt 5), .o 21 (.load ep true 4), .c 22 tq [dZ], .o 23 (.app 1 16 dX ei), .m 3 ej]) asM)
abbrev asO:AC:= .seq (.run [.o 1 (.box bC), .o 2 (.mv (.k (.slice .full 0 [])))]) (.seq (.run [.o 3 (.mv (.k (.slice .full 0 [])))]) asN)
abbrev asP:AC:= .cond ej (.seq (.run [.o 6 (.mv (.k (.int .i64 3)))]) .ret) .skip
abbrev asQ:AC:= .cond fu (.seq (.run [.o 6 (.mv (.k (.int .i64 2)))]) .ret) .skip
abbrev asR:AC:= .seq (.seq (.run [.o 16 (.aq cR 0), .o 17 (.load df false 1), .m 18 dw, .o 19 (.bin .eql dK dF), .m 20 dX, .g 21 20 true (.aq cR 1), .g 22 20 true (.load dZ false 1), .o 23 (.pick ep ei (.k (.bool false)))]) asP) (.seq (.run [.o 24 (.aq cR 0), .o 25 (.load eB false 1), .m 26 dw, .o 27 (.bin .eql eJ fb)]) asQ)
abbrev asS:AC:= .seq (.block 1 (.seq (.run [.o 14 (.cb bS cY 2), .o 15 (.load cZ true 2), .o 8 (.alloc [(.str []),(.bool false)]), .op none none (.store cR dA 2)]) asR)) (.run [.o 28 (.bin .add cY (.k (.int .i64 1))), .m 12 fJ])
abbrev asT:AC:= .block 0 (.loop (.seq (.run [.o 13 (.bin .lss cY cO)]) (.seq (.cond c6 .skip (.exit 0)) asS)))
abbrev asU:AC:= .cond gH (.seq (.run [.o 6 (.mv (.k (.int .i64 4)))]) .ret) .skip
abbrev asV:AC:= .cond gP (.seq (.run [.o 6 (.mv (.k (.int .i64 1)))]) .ret) .skip
abbrev asW:AC:= .seq (.seq (.run [.o 33 (.aq cv 0), .o 34 (.load gv false 1), .m 35 dw, .c 36 cQ [ib,gI]]) asV) (.seq (.run [.o 6 (.mv (.k (.int .i64 0)))]) .ret)
abbrev asX:AC:= .seq (.seq (.run [.o 9 (.aq fk 1), .o 10 (.load dr false 1), .o 11 (.len bS), .o 12 (.mv (.k (.int .i64 0)))]) asT) (.seq (.seq (.run [.o 29 (.aq fk 2), .o 30 (.load fZ false 1), .m 31 dw, .c 32 cQ [fW,gd]]) asU) asW)
abbrev asY:AC:= .seq (.run [.o 3 (.box bC), .o 4 (.box bt), .o 6 (.mv (.k (.int .i64 0)))]) asX
abbrev asZ:AC:= .cond cO (.seq (.run [.o 4 (.mv (.k (.bool false)))]) .ret) .skip
abbrev as0:AC:= .par [.o 19 (.aq dc 1), .o 20 (.load dX false 1), .m 21 bt, .m 22 bP, .o 23 (.cb dZ ei 6), .o 24 (.aq ej 0), .o 25 (.load eB false 1), .o 26 (.Jg true ep eJ)] [(0,0),(1,0),(2,0),(3,0),(4,0),(5,0),(6,0),(7,0)]
abbrev as1:AC:= .cond fb (.seq (.run [.o 4 (.mv (.k (.bool false)))]) .ret) .skip
abbrev as2:AC:= .seq (.block 1 (.seq (.run [.m 16 cZ, .o 17 (.cb cY cZ 2), .o 18 (.load dK true 2), .o 6 (.alloc [(.str []),(.bool false)]), .m 5 df, .op none none (.store dc dF 2)]) (.seq as0 as1))) (.run [.o 27 (.bin .add cZ (.k (.int .i64 1))), .m 14 fu])
abbrev as3:AC:= .block 0 (.loop (.seq (.run [.o 15 (.bin .lss cZ c6)]) (.seq (.cond dA .skip (.exit 0)) as2)))
abbrev as4:AC:= .seq (.seq (.run [.m 12 bC, .o 13 (.len cY), .o 14 (.mv (.k (.int .i64 0)))]) as3) (.seq (.run [.o 4 (.mv (.k (.bool true)))]) .ret)
abbrev as5:AC:= .seq (.run [.o 4 (.mv (.k (.bool false)))]) (.seq (.seq (.run [.m 7 bC, .o 8 (.len db), .m 9 bt, .o 10 (.len dr), .o 11 (.bin .neq cR bS)]) asZ) as4)
abbrev as6:AC:= .seq (.run [.o 2 (.box bC), .o 3 (.box bt), .o 4 (.mv (.k (.bool false)))]) (.seq (.run [.o 5 (.load dw true 2), .c 6 na [bP], .o 7 (.EZ dc 0 false 1), .o 8 (.bin .eql db (.k (.int .i64 0))), .m 9 cR, .g 10 9 true (.aq dw 1), .g 11 9 true (.load bS false 1), .g 12 9 true (.wI 197 [cv]), .d 13 9 true iR [cO,cY], .o 14 (.pick dr c6 (.k (.bool false))), .m 4 cZ]) .ret)
abbrev as7:AC:= .seq (.run [.o 26 (.cb ei eB 1), .o 27 (.load fb false 1), .m 8 fu]) (.seq (.run [.m 28 bP, .m 29 cR, .c 30 cQ [fJ,fZ], .o 31 (.un .not fW)]) (.cond gd (.run [.m 32 bP, .m 33 cR, .o 34 (.dg [(.str [])] 1 1 [(0,gv)]), .o 35 (.app 1 16 gH ib), .m 5 gI]) .skip))
abbrev as8:AC:= .seq (.cond eJ .skip (.exit 2)) (.seq (.block 3 as7) (.run [.o 36 (.bin .add eB (.k (.int .i64 1))), .m 24 gP]))
abbrev as9:AC:= .seq (.run [.m 17 bC, .m 18 bP, .m 19 dc, .o 20 (.cb dF dX 1), .o 21 (.load ep false 1), .c 22 vY [dK,dZ], .o 23 (.len ei), .o 24 (.mv (.k (.int .i64 0)))]) (.block 2 (.loop (.seq (.run [.o 25 (.bin .lss eB ej)]) as8)))
abbrev ata:AC:= .seq (.seq (.run [.m 11 dc, .m 12 bP, .o 13 (.len cY), .o 14 (.bin .lss cO c6)]) (.cond cZ .skip (.exit 0))) (.seq (.block 1 as9) (.run [.m 15 dc, .o 16 (.bin .add dA (.k (.int .i64 1))), .m 6 df]))
abbrev agP:AC:= .seq (.run [.m 39 bP, .m 4 iT]) .ret
abbrev atb:AC:= .seq (.seq (.run [.o 6 (.mv (.k (.int .i64 0)))]) (.block 0 (.loop ata))) (.seq (.run [.m 37 bP, .c 38 kj [iC]]) agP)
abbrev atc:AC:= .seq (.run [.o 4 (.mv (.k (.slice .full 0 [])))]) (.seq (.run [.m 9 bt, .o 10 (.dg [(.str [])] 1 1 [(0,dr)]), .m 5 bS]) atb)
abbrev atd:AC:= .seq (.run [.o 4 (.mv (.k (.bool false)))]) (.seq (.run [.m 5 bt, .m 6 bP, .g 7 6 true (.mv bC), .d 8 6 true o7 [db], .o 9 (.pick dc cR (.k (.bool false))), .m 10 dr, .g 11 10 false (.mv bt), .g 12 10 false (.un .not cO), .g 13 10 false (.mv cY), .g 14 13 true (.mv bC), .g 15 13 true (.bin .eql cZ (.k (.str []))), .g 16 10 false (.pick c6 dA (.k (.bool false))), .o 17 (.pick bS (.k (.bool true)) df), .m 4 dK]) .ret)
abbrev ate:AC:= .seq (.run [.o 2 (.box bC), .o 4 (.mv (.k (.bool false)))]) (.seq (.run [.m 5 bt, .m 6 bP, .g 7 6 true (.load dw true 4), .d 8 6 true oi [db], .o 9 (.pick dc cR (.k (.bool false))), .m 10 dr, .g 11 10 false (.mv bt), .g 12 10 false (.un .not cO), .g 13 10 false (.mv cY), .g 14 13 true (.load dw true 4), .d 15 13 true zw [cZ], .g 16 10 false (.pick c6 dA (.k (.bool false))), .o 17 (.pick bS (.k (.bool true)) df), .m 4 dK]) .ret)
abbrev atf:AC:= .cond eJ (.seq (.run [.o 2 (.mv (.k (.bool false)))]) .ret) .skip
abbrev atg:AC:= .seq (.run [.o 9 (.cb bP db 6), .o 10 (.load dr true 6), .o 4 (.alloc [(.bool false),(.str []),(.int .i64 0),(.int .i64 0),(.str []),(.slice .full 0 [])]), .op none none (.store fk bS 6)]) (.seq (.run [.o 11 (.aq fk 1), .o 12 (.load cO false 1), .o 13 (.aq fk 0), .o 14 (.load c6 false 1), .c 15 qu [cY,cZ], .o 16 (.un .not dA), .m 17 df, .g 18 17 false (.aq fk 2), .g 19 17 false (.load dF true 4), .g 20 17 false (.aq fk 0), .g 21 17 false (.load ep false 1), .g 22 17 false (.un .not dZ), .d 23 17 false tn [dX,ei], .g 24 17 false (.un .not ej), .o 25 (.pick dK (.k (.bool true)) eB)]) atf)
abbrev ath:AC:= .seq (.cond cR .skip (.exit 0)) (.seq (.block 1 atg) (.run [.o 26 (.bin .add db (.k (.int .i64 1))), .m 7 fb]))
abbrev ati:AC:= .seq (.run [.m 5 bC, .o 6 (.len bP), .o 7 (.mv (.k (.int .i64 0)))]) (.block 0 (.loop (.seq (.run [.o 8 (.bin .lss db dc)]) ath)))
abbrev atj:AC:= .seq ati (.seq (.run [.o 2 (.mv (.k (.bool true)))]) .ret)
abbrev atk:AC:= .seq (.run [.o 2 (.mv (.k (.bool false)))]) atj
abbrev atl:AC:= .block 1 (.seq (.run [.m 10 cR, .m 5 bS]) (.seq (.run [.m 11 bt, .m 12 bC, .m 13 bP, .o 14 (.cb cY c6 1), .o 15 (.load cZ false 1), .o 16 (.bin .eql cO dA)]) (.cond df (.seq (.run [.m 17 bP, .m 4 dK]) .ret) .skip)))
abbrev atm:AC:= .seq (.cond dr .skip (.exit 0)) (.seq atl (.run [.o 18 (.bin .add cR (.k (.int .i64 1))), .m 8 dF]))
abbrev atn:AC:= .seq (.run [.m 6 bC, .o 7 (.len dc), .o 8 (.mv (.k (.int .i64 0)))]) (.block 0 (.loop (.seq (.run [.o 9 (.bin .lss cR db)]) atm)))
abbrev ato:AC:= .seq (.run [(.o 4 (.mv (.k (.int .i64 (-1)))))]) .ret
abbrev atp:AC:= .seq (.run [.o 4 (.mv (.k (.int .i64 0)))]) (.seq atn ato)
abbrev atq:AC:= .cond bP (.seq (.run [.o 2 (.mv (.k (.slice .full 0 [])))]) .ret) .skip
abbrev atr:AC:= .seq (.seq (.run [.o 3 (.load bt true 4), .c 4 oi [cv], .o 5 (.un .not fk)]) atq) (.seq (.run [.o 6 (.load bt true 4),(.c 7 jE [dc,(.k (.slice .full 0 []))]), .m 2 db]) .ret)
abbrev att:AC:= .seq (.run [.o 1 (.box bC), .o 2 (.mv (.k (.slice .full 0 [])))]) atr
abbrev atu:AC:= .seq (.run [.o 4 (.mv (.k (.bool false)))]) (.seq (.run [.m 5 bC, .m 6 bt, .c 7 ij [bP,dc], .o 8 (.bin .geq db (.k (.int .i64 0))), .m 4 cR]) .ret)
abbrev atv:AC:= .seq (.run [.o 2 (.box bC), .o 3 (.mv (.k (.bool false)))]) (.seq (.run [.o 4 (.aq dw 0), .o 5 (.load fk false 1), .o 6 (.load bt false 1), .o 7 (.bin .eql bP dc), .m 3 db]) .ret)
abbrev atw:AC:= .seq (.run [.o 16 (.cb cY cZ 17), .o 17 (.load df true 17), .o 7 (.alloc [(.int .i64 0),(.int .i64 0),(.slice .full 0 []),(.str []),(.str []),(.int .i64 0),(.int .i64 0),(.str []),(.slice .full 0 []),(.bool false),(.slice .full 0 []),(.slice .full 0 []),(.slice .full 0 []),(.int .i64 0),(.int .i64 0),(.int .i64 0),(.int .i64 0)]), .op none none (.store db dK 17)]) (.seq (.run [.o 18 (.aq db 0), .o 19 (.aq dF 1), .o 20 (.load dX false 1), .o 21 (.bin .eql ep (.k (.int .i64 4)))]) (.cond dZ (.run [.m 22 bP, .o 23 (.aq db 0), .o 24 (.aq ej 4), .o 25 (.load eB false 1), .o 26 (.dg [(.str [])] 1 1 [(0,eJ)]), .o 27 (.app 1 16 ei fb), .m 5 fu]) .skip))
abbrev atx:AC:= .seq (.cond dA .skip (.exit 0)) (.seq (.block 1 atw) (.run [.o 28 (.bin .add cZ (.k (.int .i64 1))), .m 14 fJ]))
abbrev aty:AC:= .seq (.run [.m 8 bC, .m 9 bC, .m 10 bt, .c 11 jl [dr,bS], .c 12 iQ [cR,cO], .o 13 (.len cY), .o 14 (.mv (.k (.int .i64 0)))]) (.block 0 (.loop (.seq (.run [.o 15 (.bin .lss cZ c6)]) atx)))
abbrev atz:AC:= .seq (.run [.o 4 (.mv (.k (.slice .full 0 [])))]) (.seq (.run [.o 5 (.mv (.k (.slice .full 0 [])))]) (.seq aty (.seq (.run [.m 29 bP, .c 30 kj [fZ]]) (.seq (.run [.m 31 bP, .c 32 kE [gd], .m 4 gH]) .ret))))
abbrev atA:AC:= .seq (.run [.o 1 (.box bC), .o 2 (.mv (.k (.bool false)))]) (.seq (.run [.o 3 (.aq bt 0), .o 4 (.load cv false 1), .o 5 (.bin .eql fk (.k (.int .i64 0))), .m 6 bP, .g 7 6 true (.aq bt 1), .g 8 6 true (.load db false 1), .g 9 6 true (.bin .eql cR (.k (.int .i64 0))), .o 10 (.pick dc dr (.k (.bool false))), .m 11 bS, .g 12 11 true (.aq bt 2), .g 13 11 true (.load cY false 1), .g 14 11 true (.bin .eql c6 (.k (.str []))), .o 15 (.pick cO cZ (.k (.bool false))), .m 16 dA, .g 17 16 true (.aq bt 3), .g 18 16 true (.load dK false 1), .g 19 16 true (.len dF), .g 20 16 true (.bin .eql dX (.k (.int .i64 0))), .o 21 (.pick df ep (.k (.bool false))), .m 2 dZ]) .ret)
abbrev atB:AC:= .seq (.block 1 (.seq (.run [.o 27 (.cb ej eJ 4), .o 28 (.load fu true 4), .o 6 (.alloc [(.int .i64 0),(.int .i64 0),(.str []),(.slice .full 0 [])]), .op none none (.store dc fJ 4)]) (.run [.o 29 (.load dc true 4), .m 30 bt, .c 31 jE [fZ,fW], .m 1 gd]))) (.run [.o 32 (.bin .add eJ (.k (.int .i64 1))), .m 25 gH])
abbrev atC:AC:= .block 0 (.loop (.seq (.run [.o 26 (.bin .lss eJ eB)]) (.seq (.cond fb .skip (.exit 0)) atB)))
abbrev atD:AC:= .seq (.seq (.run [.o 22 (.aq dw 3), .o 23 (.load ei false 1), .o 24 (.len ej), .o 25 (.mv (.k (.int .i64 0)))]) atC) (.seq (.run [.m 33 bt, .m 4 gv]) .ret)
abbrev atE:AC:= .seq (.seq (.run [.o 7 (.aq dw 0), .o 8 (.load db false 1), .o 9 (.bin .eql cR (.k (.int .i64 2))), .m 10 dr, .g 11 10 true (.mv bt), .g 12 10 true (.aq dw 2), .g 13 10 true (.load cY false 1), .d 14 10 true cQ [cO,c6], .g 15 10 true (.un .not cZ), .o 16 (.pick bS dA (.k (.bool false)))]) (.cond df (.run [.m 17 bt, .o 18 (.aq dw 2), .o 19 (.load dF false 1), .o 20 (.dg [(.str [])] 1 1 [(0,dX)]), .o 21 (.app 1 16 dK ep), .m 1 dZ]) .skip)) atD
abbrev atF:AC:= .seq (.run [.o 2 (.box bC), .o 4 (.mv (.k (.slice .full 0 [])))]) atE
open Go.Proofs
theorem vy:Has Tryz.prog lW 19 [(4,none)] asI:=⟨Tryz.f170,by kernel_rfl,by kernel_rfl⟩
theorem II:Has Tryz.prog tj 45 [(2,none)] asO:=⟨Tryz.f171,by kernel_rfl,by kernel_rfl⟩
theorem IJ:Has Tryz.prog xy 37 [(6,none)] asY:=⟨Tryz.f172,by kernel_rfl,by kernel_rfl⟩
theorem Az:Has Tryz.prog xA 28 [(4,none)] as5:=⟨Tryz.f173,by kernel_rfl,by kernel_rfl⟩
theorem yC:Has Tryz.prog vW 15 [(4,none)] as6:=⟨Tryz.f174,by kernel_rfl,by kernel_rfl⟩
theorem KN:Has Tryz.prog zv 40 [(4,none)] atc:=⟨Tryz.f175,by kernel_rfl,by kernel_rfl⟩
theorem IK:Has Tryz.prog qu 18 [(4,none)] atd:=⟨Tryz.f178,by kernel_rfl,by kernel_rfl⟩
theorem IL:Has Tryz.prog tn 18 [(4,none)] ate:=⟨Tryz.f179,by kernel_rfl,by kernel_rfl⟩
theorem G9:Has Tryz.prog vX 27 [(2,none)] atk:=⟨Tryz.f180,by kernel_rfl,by kernel_rfl⟩
theorem Bz:Has Tryz.prog qv 19 [(4,none)] atp:=⟨Tryz.f181,by kernel_rfl,by kernel_rfl⟩
theorem AA:Has Tryz.prog tq 8 [(2,none)] att:=⟨Tryz.f195,by kernel_rfl,by kernel_rfl⟩
theorem si:Has Tryz.prog iR 9 [(4,none)] atu:=⟨Tryz.f196,by kernel_rfl,by kernel_rfl⟩
theorem EP:Has Tryz.prog pY 8 [(3,none)] atv:=⟨Tryz.f197,by kernel_rfl,by kernel_rfl⟩
theorem Ha:Has Tryz.prog vY 33 [(4,none)] atz:=⟨Tryz.f198,by kernel_rfl,by kernel_rfl⟩
theorem KO:Has Tryz.prog zw 22 [(2,none)] atA:=⟨Tryz.f201,by kernel_rfl,by kernel_rfl⟩
theorem tv:Has Tryz.prog jE 34 [(4,none)] atF:=⟨Tryz.f213,by kernel_rfl,by kernel_rfl⟩
open Go.Proofs
open Go.Proofs
theorem Dr:Has Tryz.prog kR 73 [] aph:=⟨Tryz.f90,by kernel_rfl,by kernel_rfl⟩
theorem BA:Has Tryz.prog qs 27 [(4,none)] apl:=⟨Tryz.f91,by kernel_rfl,by kernel_rfl⟩
theorem tU:Has Tryz.prog ij 19 [(4,none)] apr:=⟨Tryz.f92,by kernel_rfl,by kernel_rfl⟩
theorem AB:Has Tryz.prog mR 8 [(3,none)] aps:=⟨Tryz.f93,by kernel_rfl,by kernel_rfl⟩
set_option maxRecDepth 20000 in
theorem AE : Has Tryz.prog jw 20 [(4, none)] apu := ⟨Tryz.f94, by kernel_rfl, by kernel_rfl⟩
set_option maxRecDepth 20000 in
theorem AG : Has Tryz.prog kK 64 [(4, none), (5, none)] apB := ⟨Tryz.f95, by kernel_rfl, by kernel_rfl⟩
set_option maxRecDepth 20000 in
theorem AH : Has Tryz.prog fc 26 [] apC := ⟨Tryz.f96, by kernel_rfl, by kernel_rfl⟩
theorem ER:Has Tryz.prog pW 38 [(6,none),(7,none)] apK:=⟨Tryz.f97,by kernel_rfl,by kernel_rfl⟩
theorem Ce:Has Tryz.prog rH 13 [(4,none)] apO:=⟨Tryz.f98,by kernel_rfl,by kernel_rfl⟩
set_option maxRecDepth 20000 in
theorem Ct : Has Tryz.prog lO 15 [(2, none)] apQ := ⟨Tryz.f99, by kernel_rfl, by kernel_rfl⟩
theorem FW:Has Tryz.prog oo 45 [(2,(some (true,13)))] aqj:=⟨Tryz.f102,by kernel_rfl,by kernel_rfl⟩
theorem Hb:Has Tryz.prog pw 18 [(2,none)] aqp:=⟨Tryz.f116,by kernel_rfl,by kernel_rfl⟩
theorem tw:Has Tryz.prog gV 9 [(4,none)] aqq:=⟨Tryz.f117,by kernel_rfl,by kernel_rfl⟩
theorem ES:Has Tryz.prog pX 8 [(3,none)] aqr:=⟨Tryz.f118,by kernel_rfl,by kernel_rfl⟩
theorem wa:Has Tryz.prog cQ 9 [(4,none)] aqs:=⟨Tryz.f119,by kernel_rfl,by kernel_rfl⟩
theorem ET:Has Tryz.prog iQ 26 [(4,none)] aqu:=⟨Tryz.f120,by kernel_rfl,by kernel_rfl⟩
theorem Hc:Has Tryz.prog rT 38 [(8,none)] aqA:=⟨Tryz.f121,by kernel_rfl,by kernel_rfl⟩
theorem AJ:Has Tryz.prog xw 28 [(4,none)] aqH:=⟨Tryz.f122,by kernel_rfl,by kernel_rfl⟩
theorem AL:Has Tryz.prog tf 9 [(2,none)] aqJ:=⟨Tryz.f123,by kernel_rfl,by kernel_rfl⟩
theorem KP:Has Tryz.prog rI 24 [(4,none),(5,none)] aqP:=⟨Tryz.f124,by kernel_rfl,by kernel_rfl⟩
theorem qM:Has Tryz.prog xx 29 [(4,none)] aqT:=⟨Tryz.f125,by kernel_rfl,by kernel_rfl⟩
set_option maxRecDepth 8000
open Go.Proofs
@[go_sem] def rU (r:Rd):List D:= [.slice .shared 4 (r.l.map kJ), .int .i64 r.i, .int .i64 r.code, .int .i64 r.MQ, .int .i64 r.n]
set_option maxRecDepth 8000
open Go.Proofs
theorem uA (c:UInt8) (s:St):aE Tryz.prog qt [.int .u8 (c.toNat:Int)] s (.bool (Df c)) s:=by
 refine aE.pure ?_ rfl rfl s
 generalize h:Df c=b
 unfold Df at h
 unfold S0
 refine aE.go IG rfl fun B Q hB hQ=>?_
 have⟨hD,gA,gB,gC⟩:=cd
 repeat' (first
 |simp only[go_sem,hD,gA,gB,gC]
 |(with_reducible first|refine bg fun hc=>?_|refine bh fun hc=>?_|refine bj (fun hc=>?_) fun hc=>?_)<;>(try simp only[hc,bs,↓reduceIte]at h)<;>try simp only[hc]
 |(with_reducible refine aD hQ ?_;exact fM))
theorem IM (c:UInt8) (s:St):aE Tryz.prog rJ [.int .u8 (c.toNat:Int)] s (.bool (GY c)) s:=by
 refine aE.pure ?_ rfl rfl s
 generalize h:GY c=b
 unfold GY at h
 unfold S0
 refine aE.go KM rfl fun B Q hB hQ=>?_
 have⟨hD,gA,gB,gC⟩:=cd
 repeat' (first
 |simp only[go_sem,hD,gA,gB,gC]
 |(with_reducible first|refine bg fun hc=>?_|refine bh fun hc=>?_|refine bj (fun hc=>?_) fun hc=>?_)<;>(try simp only[hc,bs,↓reduceIte]at h)<;>try simp only[hc]
 |(with_reducible refine aD hQ ?_;exact fM))
theorem agQ (t:aF) (s:St):aE Tryz.prog wP [.str t] s (.bool (isWord t)) s:=by
 refine aE.pure ?_ rfl rfl s
 generalize h:isWord t=b
 unfold isWord at h
 unfold S0
 refine aE.go M9 rfl fun B Q hB hQ=>?_
 have⟨hD,gA,gB,gC⟩:=cd
 repeat' (first
 |simp only[go_sem,hD,gA,gB,gC]
 |(with_reducible first|refine bg fun hc=>?_|refine bh fun hc=>?_|refine bj (fun hc=>?_) fun hc=>?_)<;>(try simp only[hc,bs,↓reduceIte]at h)<;>try simp only[hc]
 |(with_reducible refine aD hQ ?_;exact fM))
theorem akN {text:aF} {pos:Nat} (hl:text.length<4611686018427387904) (s:St):aE Tryz.prog yx [.str text, .int .i64 (pos:Int)] s (.int .i64 ((pos+qo (text.drop pos):Nat):Int)) s:=by
 refine aE.pure ?_ rfl rfl s
 unfold S0
 refine aE.go Pj rfl fun B Q hB hQ=>?_
 have⟨hD,gA,gB,gC⟩:=cd
 repeat' (first
 |simp only[go_sem,hD,gA,gB,gC]
 |(with_reducible refine aD hQ ?_;exact bx))
 refine fj 0 0 (bl.ind (ι:=aF×Nat) (fun i=>text.drop i.2=i.1∧i.2+qo i.1=pos+qo (text.drop pos)) (fun i=>i.1.length)
  (fun i=> [(0, .str text),(1, .int .i64 (i.2:Int))]) (fun i=>⟨[],[]⟩) ?_ (text.drop pos,pos) ⟨rfl,rfl⟩)
 rintro⟨rest,k⟩ ⟨h1,h2⟩ IH
 dsimp only at h1 h2
 cases rest with
 |nil=>
  have hD:=drop_nil h1
  simp only[qo,Nat.add_zero]at h2
  rw[← h2]at hQ
  repeat' (first
 |simp only[go_sem,hD,gA,gB,gC]
 |(with_reducible refine aD hQ ?_;exact bx))
 | cons c rest=>
  obtain⟨gA,g2,hD,g4⟩:=drop_cons h1
  have gB:k<4611686018427387904:=by omega
  cases hb:(Df c ||GY c)
  ·simp only [qo,hb,Bool.false_eq_true, ↓reduceIte,Nat.add_zero]at h2
   rw[← h2]at hQ
   simp only[Bool.or_eq_false_iff]at hb
   repeat' (first
 |simp only[go_sem,hD,gA,gB,gC,hb.1,hb.2]
 |(with_reducible refine CU (uA _ _) ?_)
 |(with_reducible refine CU (IM _ _) ?_)
 | (with_reducible refine aD hQ ?_;exact bx))
  ·simp only [qo,hb, ↓reduceIte]at h2
   cases Mh:Df c
   ·rw [Mh,Bool.false_or]at hb
    repeat' (first
 |simp only[go_sem,hD,gA,gB,gC,hb,Mh]
 |(with_reducible refine CU (uA _ _) ?_)
 |(with_reducible refine CU (IM _ _) ?_)
 | (with_reducible refine aD hQ ?_;exact bx))
    refine fj 0 0 (IH (rest,k+1) ⟨g2,by dsimp only;omega⟩ (Nat.lt_succ_self _))
   ·repeat' (first
 |simp only[go_sem,hD,gA,gB,gC,Mh]
 |(with_reducible refine CU (uA _ _) ?_)
 |(with_reducible refine CU (IM _ _) ?_)
 | (with_reducible refine aD hQ ?_;exact bx))
    refine fj 0 0 (IH (rest,k+1) ⟨g2,by dsimp only;omega⟩ (Nat.lt_succ_self _))
def az3 (s:aF):Int×Bool:=match bM 0 s with|some n=>(n,true)|none=>(0,false)
set_option maxRecDepth 8000
open Go.Proofs
def atG (f:Int×Int):List D:= [.int .i64 f.1, .int .i64 f.2]
def abD (text:aF) (out:List pU) (pos:Nat):Tm:= [(0, .str text),(3, .ptr 0 0),(4, .slice (.tok 0) 4 (out.map kJ)),(5, .ptr 1 0),(6, .int .i64 (pos:Int))]
def abE (out:List pU):St:=⟨[[.int .i64 0, .int .i64 0],[.junk, .junk, .junk, .junk]],[some out.length]⟩
def aBy (text:aF) (B:gN) (Q:Exit→Tm→St→Prop) (p:List pU×Int×Int) (N:Nat):Prop:=
 ∀ (n pos:Nat) (rest:aF) (out:List pU),text.drop pos=rest→MR n pos rest out=p→rest.length<n→out.length≤2000→pos≤text.length→n<N→
  lS Tryz.prog B 152 agK (.seq .skip agJ) Q (abD text out pos) (abE out)
attribute [go_sem] abD abE atG
end Go.Abs
namespace Go.Abs
set_option maxRecDepth 8000
open Go.Proofs
def auL (s:aF):Bool:=
 [103,108,111,98,97,108] == s || [112,114,111,99] == s || [118,97,114] == s || [114,101,102] == s || [105,102] == s || [101,108,115,101] == s || [119,104,105,108,101] == s || [98,114,101,97,107] == s || [99,111,110,116,105,110,117,101] == s || [114,101,116,117,114,110] == s || [103,111,116,111] == s || [114,101,97,100] == s || [112,114,105,110,116] == s
def OpR (p:Int×Int):Prop:=0≤p.2∧p.2≤6
abbrev aBz (m:Nat):Prop:=∀ {r:Rd} {p:Ex×Rd},Rd.one m r=some p→∀ {s:St} {o:Nat},s.ah[o]? = some (rU r)→aE Tryz.prog Dj [.ptr o 0] s (.agg (bQ p.1)) ⟨s.ah.set o (rU p.2),s.ay⟩
abbrev aBA (m:Nat):Prop:=∀ {k:Int} {r:Rd} {p:Ex×Rd},Rd.two m k r=some p→∀ {s:St} {o:Nat},s.ah[o]? = some (rU r)→aE Tryz.prog Di [.ptr o 0, .int .i64 k] s (.agg (bQ p.1)) ⟨s.ah.set o (rU p.2),s.ay⟩
@[go_sem] def aBB (z:D) (r:Rd):List D:= [.slice .shared 4 (r.l.map kJ), .int .i64 r.i, .int .i64 r.code, .int .i64 r.MQ,z]
class Cell (z:D):Prop where
 ok:D.ok 0 0 z=true
 fg : ∀ n m,D.fg n m z=z
instance (n:Int):Cell (.int .i64 n):=⟨rfl,fun _ _=>rfl⟩
instance:Cell .junk:=⟨rfl,fun _ _=>rfl⟩
theorem adi (z:D) [h:Cell z] (n m:Nat):D.fg n m z=z:=h.fg n m
attribute [go_sem] adi
def Rd.isO (text:aF) (r:Rd):Option Bool:=if r.good then r.is text else some false
end Go.Abs
namespace Go.Abs
open Go.Proofs
def agR (s:aF):Int×Int:=
 if [42] == s then(6,5)else if [47] == s then(6,6)else if [37] == s then(6,7)else if [43] == s then(5,8)else if [45] == s then(5,9)
 else if [60] == s then(4,10)else if [60,61] == s then(4,11)else if [62] == s then(4,12)else if [62,61] == s then(4,13)
 else if [61,61] == s then(3,14)else if [33,61] == s then(3,15)else if [38,38] == s then(2,16)else if [124,124] == s then(1,17)else(0,0)
def BZ (p:Int×Int):Prop:=(p.2==0)=(p.1==0)
set_option maxRecDepth 8000
open Go.Proofs
theorem JB {r:aF} : Eg r=true↔qo r=r.length:=by
 induction r with
 |nil=>simp[Eg,qo]
 |cons c r ih=>
  simp only[Eg,qo]
  cases h1:Df c<;>cases h2:GY c<;>simp[ih]
theorem Ds (t:aF) (hl:t.length<4611686018427387904) (s:St):aE Tryz.prog o7 [.str t] s (.bool (isName t)) s:=by
 refine aE.pure ?_ rfl rfl s
 have hr:=fun s=>akN (pos:=0) hl s
 simp only[List.drop_zero,Nat.zero_add]at hr
 unfold S0
 cases t with
 |nil=>
  have z:decide (((0:Nat):Int)<1)=true:=rfl
  have z':decide ((0:Int)<1)=true:=rfl
  have e:isName [] = false:=rfl
  rw[e]
  refine aE.go ov rfl fun B Q hB hQ=>?_
  have⟨hD,gA,gB,gC⟩:=cd
  repeat' (first
 |simp only[go_sem,hD,gA,gB,gC,z,z']
 |(with_reducible refine aD hQ ?_;exact bx))
 | cons c r=>
  have l1:decide (((r.length+1:Nat):Int)<1)=false:=by simp;omega
  generalize h:isName (c::r)=p
  simp only[isName]at h
  cases hL:Df c
  ·simp only [hL,Bool.not_false,Bool.or_true, ↓reduceIte]at h
   subst h
   by_cases c8:decide (((r.length+1:Nat):Int) > 8)=true
   ·refine aE.go ov rfl fun B Q hB hQ=> ?_
    have⟨hD,gA,gB,gC⟩:=cd
    repeat' (first
 |simp only[go_sem,hD,gA,gB,gC,l1,c8]
 | (with_reducible refine aD hQ ?_;exact bx))
   ·have c8:decide (((r.length+1:Nat):Int) > 8)=false:=by simpa using c8
    refine aE.go ov rfl fun B Q hB hQ=>?_
    have⟨hD,gA,gB,gC⟩:=cd
    repeat' (first
 |simp only[go_sem,hD,gA,gB,gC,l1,c8,hL]
 |(with_reducible refine CU (uA _ _) ?_)
 | (with_reducible refine aD hQ ?_;exact bx))
  ·simp only [hL,Bool.not_true,Bool.or_false]at h
   by_cases c8:decide (((r.length+1:Nat):Int) > 8)=true
   ·simp only [c8, ↓reduceIte]at h
    subst h
    refine aE.go ov rfl fun B Q hB hQ=>?_
    have⟨hD,gA,gB,gC⟩:=cd
    repeat' (first
 |simp only[go_sem,hD,gA,gB,gC,l1,c8]
 | (with_reducible refine aD hQ ?_;exact bx))
   ·have c8:decide (((r.length+1:Nat):Int) > 8)=false:=by simpa using c8
    simp only[c8,Bool.false_eq_true,↓reduceIte]at h
    have dU:qo (c::r)=qo r+1:=by simp[qo,hL]
    cases hn:Eg r
    ·simp only [hn,Bool.false_eq_true, ↓reduceIte]at h
     have:qo r≠r.length:=fun e=>by rw[JB.2 e]at hn;cases hn
     have e:(((qo (c::r):Nat):Int)==((r.length+1:Nat):Int))=false:=by rw[dU];simp;omega
     subst h
     refine aE.go ov rfl fun B Q hB hQ=>?_
     have⟨hD,gA,gB,gC⟩:=cd
     repeat' (first
 |simp only[go_sem,hD,gA,gB,gC,l1,c8,hL,e]
 |(with_reducible refine CU (uA _ _) ?_)
 |(with_reducible refine CU (hr _) ?_)
 | (with_reducible refine aD hQ ?_;exact bx))
    ·simp only [hn, ↓reduceIte]at h
     have:=JB.1 hn
     have e:(((qo (c::r):Nat):Int)==((r.length+1:Nat):Int))=true:=by rw[dU];simp;omega
     subst h
     refine aE.go ov rfl fun B Q hB hQ=>?_
     have⟨hD,gA,gB,gC⟩:=cd
     repeat' (first
 |simp only[go_sem,hD,gA,gB,gC,l1,c8,hL,e]
 |(with_reducible refine CU (uA _ _) ?_)
 |(with_reducible refine CU (hr _) ?_)
 |(with_reducible refine CU (agQ _ _) ?_)
 |(with_reducible refine aD hQ ?_;exact bx))
theorem PV (op:Int) (s:St):aE Tryz.prog zu [.int .i64 op] s (.int .i64 (po op)) s:=by
 refine aE.pure ?_ rfl rfl s
 unfold S0
 generalize h:po op=p
 unfold po at h
 refine aE.go KI rfl fun B Q hB hQ=>?_
 have⟨hD,gA,gB,gC⟩:=cd
 repeat' (first
 |simp only[go_sem,hD,gA,gB,gC]
 |(with_reducible first|refine bg fun hc=>?_|refine bh fun hc=>?_|refine bj (fun hc=>?_) fun hc=>?_)<;>(try simp only[hc,bs,↓reduceIte]at h)<;>try simp only[hc]
 |(with_reducible refine aD hQ ?_;exact fM))
theorem BB {l:List aF} (hl:l.length<4611686018427387904) (hs : ∀ t∈l,t.length<4611686018427387904) (s:St):aE Tryz.prog om [.slice .shared 1 (l.map encStr)] s (.bool (dS l)) s:=by
 refine aE.pure ?_ (by simp[D.bK,D.ok,fe,Tag.ok]) rfl s
 unfold S0
 generalize h:dS l=p
 refine aE.go IE rfl fun B Q hB hQ=>?_
 have⟨hD,gA,gB,gC⟩:=cd
 repeat' (first
 |simp only[go_sem,hD,gA,gB,gC]
 |(with_reducible first|refine bg fun hc=>?_|refine bh fun hc=>?_|refine bj (fun hc=>?_) fun hc=>?_)<;>(try simp only[hc,bs,↓reduceIte]at h)<;>try simp only[hc]
 |(with_reducible refine aD hQ ?_;exact fM))
 refine fj 0 0 (bl.ind (ι:=List aF×Nat) (fun i=>l.drop i.2=i.1∧dS i.1=p) (fun i=>i.1.length)
  (fun i=> [(5, .slice .shared 1 (l.map encStr)),(6, .int .i64 (l.length:Int)),(7, .int .i64 (i.2:Int))]) (fun i=>⟨[],[]⟩) ?_ (l,0) ⟨rfl,h⟩)
 rintro⟨rest,k⟩ ⟨h1,h⟩ IH
 dsimp only at h1 h
 cases rest with
 |nil=>
  have hD:=drop_nil h1
  simp only[dS]at h
  repeat' (first
 |simp only[go_sem,hD,gA,gB,gC]
 |(with_reducible first|refine bg fun hc=>?_|refine bh fun hc=>?_|refine bj (fun hc=>?_) fun hc=>?_)<;>(try simp only[hc,bs,↓reduceIte]at h)<;>try simp only[hc]
 |(with_reducible refine aD hQ ?_;exact fM))
 |cons t rest=>
  obtain⟨gA,g2,hD,g4⟩:=drop_cons h1
  have gB:k<4611686018427387904:=by omega
  have hn:=Ds t (hs t (List.mem_of_getElem? gA))
  simp only[dS]at h
  repeat' (first
 |simp only[go_sem,hD,gA,gB,gC]
 |(with_reducible refine CU (hn _) ?_)
 |(with_reducible first|refine bg fun hc=>?_|refine bh fun hc=>?_|refine bj (fun hc=>?_) fun hc=>?_)<;>(try simp only[hc,bs,↓reduceIte]at h)<;>try simp only[hc]
 |(with_reducible refine aD hQ ?_;exact fM))
  refine fj 0 0 (IH (rest,k+1) ⟨g2,h⟩ (Nat.lt_succ_self _))
mutual
def Ex.dp (left:Int):Ex→Bool
 |⟨op,n,name,kids⟩=>
  if decide (left<1) ||(kids.length:Int) != po op then false
  else if op==1 then decide (n≥0) && name == []
  else if op==2 then n==0 && isName name
  else if n != 0 || !(name == [])then false
  else Ex.Dt (left - 1) kids
def Ex.Dt (left:Int):List Ex→Bool
 | []=>true
 |x::l=>if !(Ex.dp left x)then false else Ex.Dt left l
end
theorem adj : ∀ (m:Nat) (x:Ex),x.size≤m→x.size<4611686018427387904→x.texts→∀ left:Int,0≤left→left≤100→∀ s:St,aE Tryz.prog rG [.agg (bQ x), .int .i64 left] s (.bool (x.dp left)) s:=by
 intro m
 induction m with
 |zero=>rintro⟨op,v,name,kids⟩ h;simp only[Ex.size]at h;omega
 | succ m ih=>
  rintro⟨op,v,name,kids⟩ h hx ht left h0 Y3 s
  refine aE.pure ?_ (by simp[D.bK,D.ok,jN]) rfl s
  have hlen:kids.length<4611686018427387904:=by simp only[Ex.size]at hx;have:=Ex.dJ kids;omega
  have hn:=Ds name ht.1
  generalize hp:Ex.dp left ⟨op,v,name,kids⟩=p
  simp only[Ex.dp]at hp
  unfold S0
  by_cases tx:left<1
  ·have d1:decide (left<1)=true:=by simpa using tx
   simp only[d1,Bool.true_or,↓reduceIte]at hp
   subst hp
   refine aE.go Cd rfl fun B Q hB hQ=>?_
   have⟨hD,gA,gB,gC⟩:=cd
   repeat' (first
 |simp only[go_sem,hD,gA,gB,gC,d1]
 |(with_reducible refine CU (PV _ _) ?_)
 |(with_reducible refine CU (hn _) ?_)
 | (with_reducible refine aD hQ ?_;exact bx))
  ·have d1:decide (left<1)=false:=by simpa using tx
   have w1:IntKind.wrap .i64 (left - 1)=left - 1:=eD (by omega) (by omega)
   have hk : ∀ y∈kids,∀ s,aE Tryz.prog rG [.agg (bQ y), .int .i64 (left - 1)] s (.bool (y.dp (left - 1))) s:=fun y hy s=>
    ih y (by simp only[Ex.size]at h;have:=Ex.da hy;omega) (by simp only[Ex.size]at hx;have:=Ex.da hy;omega) (Ex.VM ht hy) (left - 1) (by omega) (by omega) s
   simp only[d1,Bool.false_or]at hp
   have h:=hp
   clear hp
   refine aE.go Cd rfl fun B Q hB hQ=>?_
   have⟨hD,gA,gB,gC⟩:=cd
   repeat' (first
 |simp only[go_sem,hD,gA,gB,gC,d1]
 |(with_reducible refine CU (PV _ _) ?_)
 |(with_reducible refine CU (hn _) ?_)
 |(with_reducible first|refine bg fun hc=>?_|refine bh fun hc=>?_|refine bj (fun hc=>?_) fun hc=>?_)<;>(try simp only[hc,bs,↓reduceIte]at h)<;>try simp only[hc]
 | (with_reducible refine aD hQ ?_;(try cases h);simp only [aT,aV,bD,bE,go_sem,hD,gA,gB,gC,d1];repeat' (first | exact Ok.out | with_reducible refine ju ?_ ?_ | (simp;done))))
   all_goals
    refine fj 1 0 (bl.ind (ι:=List Ex×Nat) (fun i=>kids.drop i.2=i.1∧Ex.Dt (left - 1) i.1=p) (fun i=>i.1.length)
     (fun i=> [(1, .int .i64 left),(49, .slice .shared 4 (kids.map bQ)),(50, .int .i64 (kids.length:Int)),(51, .int .i64 (i.2:Int))]) (fun i=>⟨[bQ ⟨op,v,name,kids⟩],[]⟩) ?_ (kids,0) ⟨rfl,h⟩)
    rintro⟨rest,k⟩ ⟨h1,h⟩ IH
    dsimp only at h1 h
    cases rest with
    |nil=>
     have hD:=drop_nil h1
     simp only[Ex.Dt]at h
     repeat' (first
 |simp only[go_sem,hD,gA,gB,gC]
 |(with_reducible first|refine bg fun hc=>?_|refine bh fun hc=>?_|refine bj (fun hc=>?_) fun hc=>?_)<;>(try simp only[hc,bs,↓reduceIte]at h)<;>try simp only[hc]
 |(with_reducible refine aD hQ ?_;exact fM)
 | (cases h;done))
    |cons y rest=>
     obtain⟨gA,g2,hD,g4⟩:=drop_cons h1
     have hy:=hk y (List.mem_of_getElem? gA)
     have gB:k<4611686018427387904:=by omega
     simp only[Ex.Dt]at h
     repeat' (first
 |simp only[go_sem,hD,gA,gB,gC,w1]
 |(with_reducible refine CU (hy _) ?_)
 |(with_reducible first|refine bg fun hc=>?_|refine bh fun hc=>?_|refine bj (fun hc=>?_) fun hc=>?_)<;>(try simp only[hc,bs,↓reduceIte]at h)<;>try simp only[hc]
 |(with_reducible refine aD hQ ?_;(try cases h);simp only[aT,aV,bD,bE,go_sem,hD,gA,gB,gC,w1];try exact bX))
     refine fj 1 0 (IH (rest,k+1) ⟨g2,h⟩ (Nat.lt_succ_self _))
structure Sm.wb (s:Sm):Prop where
 lab : ∀ t∈s.labels,t.length<4611686018427387904
 atH:s.labels.length<4611686018427387904
 name:s.name.length<4611686018427387904
 proc:s.proc.length<4611686018427387904
 x:s.x.size<4611686018427387904
 xt:s.x.texts
 atI:s.args.length<4611686018427387904
 arg : ∀ a∈s.args,a.x.size<4611686018427387904∧a.x.texts∧a.name.length<4611686018427387904
section
variable {v:Sm} {B:gN} {Q:Exit→Tm→St→Prop} {p:Bool}
end
theorem aE.goS {P:Program} {f:FuncId} {nt:Nat} {res:List (Nat×Option (Bool×Nat))} {body:AC} {args:List D} {s:St} {d:D} {s':St} (h0:Has P f nt res body) (hl:Nat.ble args.length nt=true)
 (h : ∀ (B:gN) (Q:Exit→Tm→St→Prop),B.s=s→rf s.ah.length s.ay.length res d s'=Q→Sem P B nt body Q (nV 0 args) s):aE P f args s d s':=by
 obtain⟨fn,hf,hc⟩:=h0
 exact aE.intro ⟨fn,hf,hc⟩ (Nat.le_of_ble_eq_true hl) fun B hB=>h B _ hB rfl
end Go.Abs
namespace Go.Abs
set_option maxRecDepth 8000
open Go.Proofs
theorem BD {x:Ex} (hx:x.size<4611686018427387904) (ht:x.texts) (s:St):aE Tryz.prog oi [.agg (bQ x)] s (.bool (x.dp 20)) s:=by
 refine aE.pure ?_ (by simp[D.bK,D.ok,jN]) rfl s
 have hd:=fun s=>adj _ x (Nat.le_refl _) hx ht 20 (by omega) (by omega) s
 unfold S0
 refine aE.go FT rfl fun B Q hB hQ=>?_
 have⟨hD,gA,gB,gC⟩:=cd
 repeat' (first
 |simp only[go_sem,hD,gA,gB,gC]
 |(with_reducible refine CU (hd _) ?_)
 |(with_reducible refine aD hQ ?_;exact bx))
theorem adk (x:Ex) (s:St):aE Tryz.prog zw [.agg (bQ x)] s (.bool x.none) s:=by
 refine aE.pure ?_ (by simp[D.bK,D.ok,jN]) rfl s
 unfold S0
 generalize h:Ex.none x=p
 unfold Ex.none at h
 refine aE.go KO rfl fun B Q hB hQ=>?_
 have⟨hD,gA,gB,gC⟩:=cd
 repeat' (first
 |simp only[go_sem,hD,gA,gB,gC]
 |(with_reducible first|refine bg fun hc=>?_|refine bh fun hc=>?_|refine bj (fun hc=>?_) fun hc=>?_)<;>(try simp only[hc,bs,↓reduceIte]at h)<;>try simp only[hc]
 |(with_reducible refine aD hQ ?_;exact fM))
def vz (t:aF) (is:Bool):Bool:=(is && isName t) ||(!is && t == [])
theorem FX (t:aF) (is:Bool) (hl:t.length<4611686018427387904) (s:St):aE Tryz.prog qu [.str t, .bool is] s (.bool (vz t is)) s:=by
 refine aE.pure ?_ rfl rfl s
 have hn:=Ds t hl
 unfold S0
 generalize h:vz t is=p
 unfold vz at h
 refine aE.go IK rfl fun B Q hB hQ=>?_
 have⟨hD,gA,gB,gC⟩:=cd
 repeat' (first
 |simp only[go_sem,hD,gA,gB,gC]
 |(with_reducible refine CU (hn _) ?_)
 |(with_reducible first|refine bg fun hc=>?_|refine bh fun hc=>?_|refine bj (fun hc=>?_) fun hc=>?_)<;>(try simp only[hc,bs,↓reduceIte]at h)<;>try simp only[hc]
 |(with_reducible refine aD hQ ?_;exact fM))
def xG (x:Ex) (is:Bool):Bool:=(is && x.dp 20) ||(!is && x.none)
theorem PW {x:Ex} (is:Bool) (hx:x.size<4611686018427387904) (ht:x.texts) (s:St):aE Tryz.prog tn [.agg (bQ x), .bool is] s (.bool (xG x is)) s:=by
 refine aE.pure ?_ (by simp[D.bK,D.ok,jN]) rfl s
 have hm:=BD hx ht
 unfold S0
 generalize h:xG x is=p
 unfold xG at h
 refine aE.go IL rfl fun B Q hB hQ=>?_
 have⟨hD,gA,gB,gC⟩:=cd
 repeat' (first
 |simp only[go_sem,hD,gA,gB,gC]
 |(with_reducible refine CU (hm _) ?_)
 |(with_reducible refine CU (adk _ _) ?_)
 |(with_reducible first|refine bg fun hc=>?_|refine bh fun hc=>?_|refine bj (fun hc=>?_) fun hc=>?_)<;>(try simp only[hc,bs,↓reduceIte]at h)<;>try simp only[hc]
 |(with_reducible refine aD hQ ?_;exact fM))
def qN:List Ar→Bool
 | []=>true
 |a::l=>if !(vz a.name a.ref) || !(xG a.x !a.ref)then false else qN l
theorem Y4 {l:List Ar} (hl:l.length<4611686018427387904) (hs : ∀ a∈l,a.x.size<4611686018427387904∧a.x.texts∧a.name.length<4611686018427387904) (s:St) :
 aE Tryz.prog vX [.slice .shared 6 (l.map eR)] s (.bool (qN l)) s:=by
 refine aE.pure ?_ (by simp[D.bK,D.ok,K6,Tag.ok]) rfl s
 unfold S0
 generalize h:qN l=p
 refine aE.go G9 rfl fun B Q hB hQ=>?_
 have⟨hD,gA,gB,gC⟩:=cd
 repeat' (first
 |simp only[go_sem,hD,gA,gB,gC]
 |(with_reducible first|refine bg fun hc=>?_|refine bh fun hc=>?_|refine bj (fun hc=>?_) fun hc=>?_)<;>(try simp only[hc,bs,↓reduceIte]at h)<;>try simp only[hc]
 |(with_reducible refine aD hQ ?_;exact fM))
 refine fj 0 0 (bl.ind (ι:=List Ar×Nat) (fun i=>l.drop i.2=i.1∧qN i.1=p) (fun i=>i.1.length)
  (fun i=> [(5, .slice .shared 6 (l.map eR)),(6, .int .i64 (l.length:Int)),(7, .int .i64 (i.2:Int))]) (fun i=>⟨[],[]⟩) ?_ (l,0) ⟨rfl,h⟩)
 rintro⟨rest,k⟩ ⟨h1,h⟩ IH
 dsimp only at h1 h
 cases rest with
 |nil=>
  have hD:=drop_nil h1
  simp only[qN]at h
  repeat' (first
 |simp only[go_sem,hD,gA,gB,gC]
 |(with_reducible first|refine bg fun hc=>?_|refine bh fun hc=>?_|refine bj (fun hc=>?_) fun hc=>?_)<;>(try simp only[hc,bs,↓reduceIte]at h)<;>try simp only[hc]
 |(with_reducible refine aD hQ ?_;exact fM))
 |cons a rest=>
  obtain⟨gA,g2,hD,g4⟩:=drop_cons h1
  have gB:k<4611686018427387904:=by omega
  obtain⟨a1,a2,a3⟩:=hs a (List.mem_of_getElem? gA)
  have hn:=fun b s=>FX a.name b a3 s
  have hw:=fun b s=>PW b a1 a2 s
  simp only[qN]at h
  repeat' (first
 |simp only[go_sem,hD,gA,gB,gC]
 |(with_reducible refine CU (hn _ _) ?_)
 |(with_reducible refine CU (hw _ _) ?_)
 |(with_reducible first|refine bg fun hc=>?_|refine bh fun hc=>?_|refine bj (fun hc=>?_) fun hc=>?_)<;>(try simp only[hc,bs,↓reduceIte]at h)<;>try simp only[hc]
 |(with_reducible refine aD hQ ?_;exact fM))
  refine fj 0 0 (IH (rest,k+1) ⟨g2,h⟩ (Nat.lt_succ_self _))
def Sm.flags (s:Sm):Option (Bool×Bool×Bool×Bool×Bool×Bool):=
 if s.kind==1 then some (true,false,true,s.has,false,false)
 else if s.kind==2 ||s.kind==10 then some (true,false,false,s.has,false,false)
 else if s.kind==3 then some (false,false,true,s.has,false,false)
 else if s.kind==4 then some (!(s.name == []),true,false,s.has,false,false)
 else if s.kind==5 then some (false,false,true,s.has,true,true)
 else if s.kind==6 then some (false,false,true,s.has,true,false)
 else if s.kind==9 then some (false,false,s.has,false,false,false)
 else if s.kind==7 ||s.kind==8 then some (false,false,false,s.has,false,false)
 else none
def Sm.LC (s:Sm) (nm pr x:Bool):Bool:=if !(vz s.name nm) || !(vz s.proc pr) || !(xG s.x x)then false else qN s.args
def Sm.LD (s:Sm) (f:Bool×Bool×Bool×Bool×Bool×Bool):Bool:=
 if f.2.2.2.1 ||(!f.2.2.2.2.1 && decide ((s.aM.length:Int) > 0)) ||(!f.2.2.2.2.2 && decide ((s.aL.length:Int) > 0)) ||(!(s.kind==4) && decide ((s.args.length:Int) > 0))then false
 else s.LC f.1 f.2.1 f.2.2.1
def Sm.fields (s:Sm):Bool:=match s.flags with
 |none=>false
 |some f=>s.LD f
section
variable {v:Sm} {B:gN} {Q:Exit→Tm→St→Prop} {p:Bool}
theorem Y5 {nm pr x:Bool} (hf:v.wb) (hB:B.s = ⟨[],[]⟩) (hQ:rf 0 0 [(2,none)] (.bool p) ⟨[],[]⟩=Q) (h:v.LC nm pr x=p) :
 Sem Tryz.prog B 93 agL Q [(1, .ptr 0 0),(3, .bool nm),(4, .bool pr),(5, .bool x)] ⟨[aS v],[]⟩:=by
 have h1:=fun b s=>FX v.name b hf.name s
 have h2:=fun b s=>FX v.proc b hf.proc s
 have h3:=fun b s=>PW b hf.x hf.xt s
 have h4:=fun s=>Y4 hf.atI hf.arg s
 unfold Sm.LC at h
 have⟨hD,gA,gB,gC⟩:=cd
 refine jt ?_
 repeat' (first
 |simp only[go_sem,hD,gA,gB,gC]
 |(with_reducible refine CU (h1 _ _) ?_)
 |(with_reducible refine CU (h2 _ _) ?_)
 |(with_reducible refine CU (h3 _ _) ?_)
 |(with_reducible refine CU (h4 _) ?_)
 |(with_reducible first|refine bg fun hc=>?_|refine bh fun hc=>?_|refine bj (fun hc=>?_) fun hc=>?_)<;>(try simp only[hc,bs,↓reduceIte]at h)<;>try simp only[hc]
 |(with_reducible refine aD hQ ?_;exact fM))
theorem Y6 {nm pr x has th ot ar:Bool} (hf:v.wb) (hB:B.s = ⟨[],[]⟩) (hQ:rf 0 0 [(2,none)] (.bool p) ⟨[],[]⟩=Q) (e:(v.kind==4)=ar) (h:v.LD (nm,pr,x,has,th,ot)=p) :
 Sem Tryz.prog B 93 agM Q [(1, .ptr 0 0),(3, .bool nm),(4, .bool pr),(5, .bool x),(6, .bool has),(7, .bool th),(8, .bool ot),(9, .bool ar)] ⟨[aS v],[]⟩:=by
 simp only[Sm.LD,e]at h
 have⟨hD,gA,gB,gC⟩:=cd
 refine Sem.oh ?_
 repeat' (first
 |simp only[go_sem,hD,gA,gB,gC]
 |(with_reducible first|refine bg fun hc=>?_|refine bh fun hc=>?_|refine bj (fun hc=>?_) fun hc=>?_)<;>(try simp only[hc,bs,↓reduceIte]at h)<;>try simp only[hc]
 |(with_reducible refine aD hQ ?_;(try cases h);simp only[aT,aV,bD,bE,go_sem,hD,gA,gB,gC];repeat' (first|exact Ok.out|with_reducible refine ju ?_ ?_|(simp;done))))
 all_goals
  refine Sem.re _ _ 1 0 (by rw[hB];exact Fb rfl) (by rw[hB];exact Fb rfl) ?_ ?_ (Y5 hf hB hQ h)
  ·(simp only[go_sem,hD,gA,gB,gC];repeat' (first|exact Ok.out|with_reducible refine ju ?_ ?_))
  ·(simp only[go_sem,hD,gA,gB,gC];repeat' (first|exact Ok.out|with_reducible refine ju ?_ ?_))
theorem Y7 {ar:Bool} (hf:v.wb) (hB:B.s = ⟨[],[]⟩) (hQ:rf 0 0 [(2,none)] (.bool p) ⟨[],[]⟩=Q) (e:(v.kind==4)=ar) (h:v.fields=p) :
 Sem Tryz.prog B 93 Y2 Q [(1, .ptr 0 0),(3, .bool false),(4, .bool false),(5, .bool false),(6, .bool v.has),(7, .bool false),(8, .bool false),(9, .bool ar)] ⟨[aS v],[]⟩:=by
 simp only[Sm.fields,Sm.flags]at h
 have⟨hD,gA,gB,gC⟩:=cd
 refine Sem.oh ?_
 repeat' (first
 |simp only[go_sem,hD,gA,gB,gC]
 |(with_reducible first|refine bg fun hc=>?_|refine bh fun hc=>?_|refine bj (fun hc=>?_) fun hc=>?_)<;>(try simp only[hc,bs,↓reduceIte]at h)<;>try simp only[hc]
 |(with_reducible refine aD hQ ?_;(try cases h);simp only[aT,aV,bD,bE,go_sem,hD,gA,gB,gC];repeat' (first|exact Ok.out|with_reducible refine ju ?_ ?_|(simp;done))))
 all_goals
  refine Sem.re _ _ 1 0 (by rw[hB];exact Fb rfl) (by rw[hB];exact Fb rfl) ?_ ?_ (Y6 hf hB hQ e h)
  ·(simp only[go_sem,hD,gA,gB,gC];repeat' (first|exact Ok.out|with_reducible refine ju ?_ ?_))
  ·(simp only[go_sem,hD,gA,gB,gC];repeat' (first|exact Ok.out|with_reducible refine ju ?_ ?_))
end
theorem Y8 {v:Sm} (hf:v.wb) (s:St):aE Tryz.prog vU [.agg (aS v)] s (.bool v.fields) s:=by
 refine aE.pure ?_ (by simp[D.bK,D.ok,pI]) rfl s
 unfold S0
 refine aE.goS G8 rfl fun B Q hB hQ=>?_
 have⟨hD,gA,gB,gC⟩:=cd
 refine Sem.seq (b:=agO) (jt ?_)
 repeat' (first
 |simp only[go_sem,hD,gA,gB,gC]
 |(with_reducible refine aD hQ ?_;exact bx))
 refine Sem.seq (b:=agN) (jt ?_)
 repeat' (first
 |simp only[go_sem,hD,gA,gB,gC]
 |(with_reducible refine aD hQ ?_;exact bx))
 refine Sem.seq (b:=Y2) (jt ?_)
 repeat' (first
 |simp only[go_sem,hD,gA,gB,gC]
 |(with_reducible refine aD hQ ?_;exact bx))
 refine Sem.re _ _ 1 0 (by rw[hB];exact Fb rfl) (by rw[hB];exact Fb rfl) ?_ ?_ (Y7 hf hB hQ rfl rfl)
 ·(simp only[go_sem,hD,gA,gB,gC];repeat' (first|exact Ok.out|with_reducible refine ju ?_ ?_))
 ·(simp only[go_sem,hD,gA,gB,gC];repeat' (first|exact Ok.out|with_reducible refine ju ?_ ?_))
end Go.Abs
namespace Go.Abs
set_option maxRecDepth 8000
open Go.Proofs
def kF (i:It):List D:= [.int .i64 i.s.id, .int .i64 i.s.kind, .slice .shared 1 (i.s.labels.map encStr), .str i.s.name, .str i.s.proc,
 .int .i64 i.s.x.op, .int .i64 i.s.x.n, .str i.s.x.name, .slice .shared 4 (i.s.x.kids.map bQ), .bool i.s.has, .slice .shared 6 (i.s.args.map eR), .slice .shared 13 (i.s.aM.map aS), .slice .shared 13 (i.s.aL.map aS), .int .i64 i.deep, .int .i64 i.cG, .bool i.aL]
theorem agT (i:It):D.bK 0 0 (kF i)=true:=by simp[kF,D.bK,D.ok,Tag.ok,fe,aa7,K6,nz]
theorem akO (n m:Nat) (l:List It):D.lC n m (l.map kF)=l.map kF:=mZ agT n m l
theorem akP (n m:Nat) (i:It):D.gT n m (kF i)=kF i:=iX n m _ (agT i)
theorem akQ (x:It):(kF x).length=16:=nd rfl
theorem agU (x:It):List.take 13 (kF x)=aS x.s:=by simp only[kF,dL];rfl
theorem Y9 (x:It):(kF x)[0]? = some (.int .i64 x.s.id):=nd rfl
theorem VR (x:It):(kF x)[13]? = some (.int .i64 x.deep):=nd rfl
attribute [go_sem] akO akP akQ agU Y9 VR
abbrev az8 (N:Nat):Prop:=∀ (l:List Sm) (deep cG:Int) (aL:Bool) (out:List It),Sm.a7 l<N→0≤deep→deep≤13→out.length≤201→∀ {s:St} {t:Nat},s.ay[t]? = some (some out.length)→
 aE Tryz.prog Pe [.slice .shared 13 (l.map aS), .int .i64 deep, .int .i64 cG, .bool aL, .slice (.tok t) 16 (out.map kF)] s (.slice (.tok t) 16 ((fw deep cG aL out l).map kF)) ⟨s.ah,s.ay.set t (some (fw deep cG aL out l).length)⟩
end Go.Abs
namespace Go.Abs
set_option maxRecDepth 8000
open Go.Proofs
structure Pg.wb (p:Pg):Prop where
 sz:p.size<4611686018427387000
 rl : ∀ t∈p.globals,t.length<4611686018427387904
 mQ : ∀ f∈p.procs,f.name.length<4611686018427387904∧(∀ t∈f.vars,t.length<4611686018427387904)∧(∀ t∈f.fin,t.length<4611686018427387904)∧∀ a∈f.params,a.name.length<4611686018427387904
 items : ∀ i∈p.all,i.s.wb
def gate (nest:Int) (len n:Nat) (r:Bool×Nat):Bool×Nat:=if decide (nest > 12) && decide ((len:Int) > 0)then(false,n)else r
mutual
def Sm.rm (nest:Int) (n:Nat):Sm→Bool×Nat
 |⟨id,kind,labels,name,proc,x,has,args,aM,aL⟩=>
  if decide (((n+1:Nat):Int) > 200) ||id != ((n+1:Nat):Int) || !(dS labels) || !(Sm.fields ⟨id,kind,labels,name,proc,x,has,args,aM,aL⟩)then(false,n+1)
  else if !(gate (nest+1) aM.length (n+1) (Sm.fK (nest+1) (n+1) aM)).1 then(false,(gate (nest+1) aM.length (n+1) (Sm.fK (nest+1) (n+1) aM)).2)
  else gate (nest+1) aL.length (gate (nest+1) aM.length (n+1) (Sm.fK (nest+1) (n+1) aM)).2 (Sm.fK (nest+1) (gate (nest+1) aM.length (n+1) (Sm.fK (nest+1) (n+1) aM)).2 aL)
def Sm.fK (nest:Int) (n:Nat):List Sm→Bool×Nat
 | []=>(true,n)
 |s::l=>if !(Sm.rm nest n s).1 then(false,(Sm.rm nest n s).2)else Sm.fK nest (Sm.rm nest n s).2 l
end
def Sm.iD (nest:Int) (n:Nat) (l:List Sm):Bool×Nat:=gate nest l.length n (Sm.fK nest n l)
theorem IN (nest:Int) (n:Nat) (s:Sm):Sm.rm nest n s =
 if decide (((n+1:Nat):Int) > 200) ||s.id != ((n+1:Nat):Int) || !(dS s.labels) || !(s.fields)then(false,n+1)
 else if !(Sm.iD (nest+1) (n+1) s.aM).1 then(false,(Sm.iD (nest+1) (n+1) s.aM).2)
 else Sm.iD (nest+1) (Sm.iD (nest+1) (n+1) s.aM).2 s.aL:=by
 cases s;simp only[Sm.rm,Sm.iD];rfl
mutual
def Sm.yD:Sm→Prop
 |⟨id,kind,labels,name,proc,x,has,args,aM,aL⟩=>Sm.wb ⟨id,kind,labels,name,proc,x,has,args,aM,aL⟩∧Sm.ly aM∧Sm.ly aL
def Sm.ly:List Sm→Prop
 | []=>True
 |s::l=>s.yD∧Sm.ly l
end
theorem FY (s:Sm):s.yD↔s.wb∧Sm.ly s.aM∧Sm.ly s.aL:=by cases s;simp only[Sm.yD]
theorem He {s:Sm} : ∀ {l:List Sm},Sm.ly l→s∈l→s.yD
 |y::l,h,m=>by
  simp only[Sm.ly]at h
  rcases List.mem_cons.1 m with rfl|m
  ·exact h.1
  ·exact He h.2 m
mutual
theorem adl (nest:Int) (n:Nat) : ∀ s:Sm,n≤201→(Sm.rm nest n s).2≤202∧((Sm.rm nest n s).1=true→(Sm.rm nest n s).2≤200)
 | ⟨id,kind,labels,name,proc,x,has,args,aM,aL⟩,hn=>by
  simp only[Sm.rm]
  split
  ·exact⟨by dsimp only;omega,fun h=>by cases h⟩
  rename_i hc
  simp only[Bool.or_eq_true,decide_eq_true_eq,not_or]at hc
  have Cf:n+1≤200:=by omega
  have g1 : ∀ (nest:Int) (l:List Sm) (m:Nat),m≤200→(Sm.fK nest m l).2≤202∧((Sm.fK nest m l).1=true→(Sm.fK nest m l).2≤200)→
   (gate nest l.length m (Sm.fK nest m l)).2≤202∧((gate nest l.length m (Sm.fK nest m l)).1=true→(gate nest l.length m (Sm.fK nest m l)).2≤200):=by
   intro nest l m hm h
   unfold gate
   split
   ·exact⟨by dsimp only;omega,fun h=>by cases h⟩
   ·exact h
  have h1:=g1 (nest+1) aM (n+1) Cf (Ei (nest+1) (n+1) aM Cf)
  split
  ·exact⟨h1.1,fun h=>by cases h⟩
  rename_i L0
  have h2:=h1.2 (by simpa using L0)
  exact g1 (nest+1) aL _ h2 (Ei (nest+1) _ aL h2)
theorem Ei (nest:Int) (n:Nat) : ∀ l:List Sm,n≤200→(Sm.fK nest n l).2≤202∧((Sm.fK nest n l).1=true→(Sm.fK nest n l).2≤200)
 | [],hn=>by simp only[Sm.fK];exact⟨by omega,fun _=>hn⟩
 |s::l,hn=>by
  simp only[Sm.fK]
  have h1:=adl nest n s (by omega)
  split
  ·exact⟨h1.1,fun h=>by cases h⟩
  rename_i hc
  exact Ei nest _ l (h1.2 (by simpa using hc))
end
theorem IP {nest:Int} {n:Nat} {l:List Sm} (hn:n≤200):(Sm.iD nest n l).2≤202∧((Sm.iD nest n l).1=true→(Sm.iD nest n l).2≤200):=by
 unfold Sm.iD gate
 split
 ·exact⟨by dsimp only;omega,fun h=>by cases h⟩
 ·exact Ei nest n l hn
theorem adn : ∀ (m:Nat) (l:List Sm),Sm.a7 l≤m→Sm.a7 l<4611686018427387000→Sm.ly l→∀ (nest:Int) (n:Nat),0≤nest→nest≤13→n≤200→
 aE Tryz.prog ln [.ptr 0 0, .slice .shared 13 (l.map aS), .int .i64 nest] ⟨[[.int .i64 n]],[]⟩ (.bool (Sm.iD nest n l).1) ⟨[[.int .i64 (Sm.iD nest n l).2]],[]⟩:=by
 intro m
 induction m with
 | zero=>
  intro l h hs hf nest n h0 h13 hn
  cases l with
  |nil=>
   have d1:decide ((0:Int) > 0)=false:=rfl
   have e:Sm.iD nest n [] = (true,n):=by simp[Sm.iD,gate,Sm.fK]
   have z:decide ((0:Int)<0)=false:=rfl
   rw[e]
   refine aE.go tu rfl fun B Q hB hQ=>?_
   have⟨hD,gA,gB,gC⟩:=cd
   repeat' (first
 |simp only[go_sem,hD,gA,gB,gC,d1,z]
 |(with_reducible refine bl.jV ?_)
 |(with_reducible first|refine bg fun hc=>?_|refine bh fun hc=>?_|refine bj (fun hc=>?_) fun hc=>?_)<;>(try simp only[hc,bs,↓reduceIte]at h)<;>try simp only[hc]
 |(with_reducible refine aD hQ ?_;exact bx))
  |cons s l=>simp only[Sm.a7]at h;omega
 |succ m ih=>
  intro l h hs hf nest n h0 h13 hn
  generalize hR:Sm.iD nest n l=R
  have hlen:=Sm.dJ l
  unfold Sm.iD gate at hR
  have h:=hR
  refine aE.go tu rfl fun B Q hB hQ=>?_
  have⟨hD,gA,gB,gC⟩:=cd
  repeat' (first
 |simp only[go_sem,hD,gA,gB,gC]
 |(with_reducible first|refine bg fun hc=>?_|refine bh fun hc=>?_|refine bj (fun hc=>?_) fun hc=>?_)<;>(try simp only[hc,bs,↓reduceIte]at h)<;>try simp only[hc]
 | (with_reducible refine aD hQ ?_;(try cases h);simp only [aT,aV,bD,bE,go_sem,hD,gA,gB,gC];repeat' (first | exact Ok.out | with_reducible refine ju ?_ ?_ | (simp;done))))
  all_goals
   have akR:l≠ []→nest≤12:=by
    intro fm
    have:l.length≠0:=by simpa using fm
    simp_all<;>omega
   refine fj 1 0 (bl.ind (ι:=List Sm×Nat×Nat) (fun i=>l.drop i.2.1=i.1∧Sm.fK nest i.2.2 i.1=R∧i.2.2≤200) (fun i=>i.1.length)
    (fun i=> [(0, .ptr 0 0),(2, .int .i64 nest),(16, .slice .shared 13 (l.map aS)),(17, .int .i64 (l.length:Int)),(18, .int .i64 (i.2.1:Int))]) (fun i=>⟨[[.int .i64 (i.2.2:Int)]],[]⟩) ?_ (l,0,n) ⟨rfl,h,hn⟩)
   rintro⟨rest,k,j⟩ ⟨h1,h,hj⟩ IH
   dsimp only at h1 h hj
   cases rest with
   |nil=>
    have hD:=drop_nil h1
    simp only[Sm.fK]at h
    repeat' (first
 |simp only[go_sem,hD,gA,gB,gC]
 |(with_reducible first|refine bg fun hc=>?_|refine bh fun hc=>?_|refine bj (fun hc=>?_) fun hc=>?_)<;>(try simp only[hc,bs,↓reduceIte]at h)<;>try simp only[hc]
 | (with_reducible refine aD hQ ?_;exact fM))
   | cons s rest=>
    obtain⟨gA,g2,hD,g4⟩:=drop_cons h1
    have gB:k<4611686018427387904:=by omega
    have jf:=List.mem_of_getElem? gA
    have dO:=Sm.da jf
    have aBW:=akR (by rintro rfl;simp at jf)
    obtain⟨GF,hft,hfe⟩:=(FY s).1 (He hf jf)
    have XS:Sm.a7 s.aM<s.size∧Sm.a7 s.aL<s.size:=by cases s;simp only[Sm.size];omega
    have w1:IntKind.wrap .i64 ((j:Int)+1)=((j+1:Nat):Int):=by rw[eD]<;>omega
    have w2:IntKind.wrap .i64 (nest+1)=nest+1:=eD (by omega) (by omega)
    have c1:=fun s=>BB GF.atH GF.lab s
    have c2:=fun s=>Y8 GF s
    simp only[Sm.fK,IN]at h
    by_cases VS:j+1≤200
    ·have r1:=IP (nest:=nest+1) (l:=s.aM) VS
     have c3:=fun s' ho=>(ih s.aM (by omega) (by omega) hft (nest+1) (j+1) (by omega) (by omega) VS).XY (s:=s') (o:=0) (by simp[D.bK,D.ok,nz,Tag.ok]) rfl rfl rfl ho
     by_cases vA:(Sm.iD (nest+1) (j+1) s.aM).1=true
     ·have c4:=fun s' ho=>(ih s.aL (by omega) (by omega) hfe (nest+1) _ (by omega) (by omega) (r1.2 vA)).XY (s:=s') (o:=0) (by simp [D.bK,D.ok,nz,Tag.ok]) rfl rfl rfl ho
      have r2:=IP (nest:=nest+1) (l:=s.aL) (r1.2 vA)
      simp only[vA]at c3
      simp only[vA,Bool.not_true,Bool.false_eq_true,↓reduceIte]at h
      repeat' (first
 |simp only[go_sem,hD,gA,gB,gC,w1,w2,vA]
 |(with_reducible refine CU (c1 _) ?_)
 |(with_reducible refine CU (c2 _) ?_)
 |(with_reducible refine CU (c3 _ rfl) ?_)
 |(with_reducible refine CU (c4 _ rfl) ?_)
 |(with_reducible first|refine bg fun hc=>?_|refine bh fun hc=>?_|refine bj (fun hc=>?_) fun hc=>?_)<;>(try simp only[hc,bs,↓reduceIte]at h)<;>try simp only[hc]
 |(with_reducible refine aD hQ ?_;(try cases h);simp only[aT,aV,bD,bE,go_sem,hD,gA,gB,gC,w1,w2,vA];try exact bX))
      refine fj 1 0 (IH (rest,k+1,(Sm.iD (nest+1) (Sm.iD (nest+1) (j+1) s.aM).2 s.aL).2) ⟨g2,h,r2.2 (by assumption)⟩ (Nat.lt_succ_self _))
     ·have vA:(Sm.iD (nest+1) (j+1) s.aM).1=false:=by simpa using vA
      simp only[vA]at c3
      simp only[vA,Bool.not_false,↓reduceIte]at h
      repeat' (first
 |simp only[go_sem,hD,gA,gB,gC,w1,w2,vA]
 |(with_reducible refine CU (c1 _) ?_)
 |(with_reducible refine CU (c2 _) ?_)
 |(with_reducible refine CU (c3 _ rfl) ?_)
 |(with_reducible first|refine bg fun hc=>?_|refine bh fun hc=>?_|refine bj (fun hc=>?_) fun hc=>?_)<;>(try simp only[hc,bs,↓reduceIte]at h)<;>try simp only[hc]
 | (with_reducible refine aD hQ ?_;(try cases h);simp only [aT,aV,bD,bE,go_sem,hD,gA,gB,gC,w1,w2,vA];try exact bX))
    ·have d1:decide (((j+1:Nat):Int) > 200)=true:=by simp;omega
     simp only[d1,Bool.true_or,Bool.not_false,↓reduceIte]at h
     repeat' (first
 |simp only[go_sem,hD,gA,gB,gC,w1,w2,d1]
 |(with_reducible refine CU (c1 _) ?_)
 |(with_reducible refine CU (c2 _) ?_)
 |(with_reducible first|refine bg fun hc=>?_|refine bh fun hc=>?_|refine bj (fun hc=>?_) fun hc=>?_)<;>(try simp only[hc,bs,↓reduceIte]at h)<;>try simp only[hc]
 |(with_reducible refine aD hQ ?_;(try cases h);simp only[aT,aV,bD,bE,go_sem,hD,gA,gB,gC,w1,w2,d1];try exact bX))
def Pc.fK (n:Nat):List Pc→Bool
 | []=>true
 |f::l=>
  if decide ((f.params.length:Int) > 8) ||decide ((f.vars.length:Int) > 16) || !(isName f.name) || !(dS f.vars) || !(dS f.fin)then false
  else if !(Pm.fD f.params)then false
  else if !(Sm.iD 1 n f.body).1 then false
  else Pc.fK (Sm.iD 1 n f.body).2 l
def Pg.IQ (p:Pg):Bool:=
 if decide ((p.globals.length:Int) > 16) ||decide ((p.procs.length:Int) > 16) || !(dS p.globals)then false
 else Pc.fK 0 p.procs
structure Pg.LF (p:Pg):Prop where
 sz:p.size<4611686018427387000
 rl : ∀ t∈p.globals,t.length<4611686018427387904
 mQ : ∀ f∈p.procs,f.name.length<4611686018427387904∧(∀ t∈f.vars,t.length<4611686018427387904)∧(∀ t∈f.fin,t.length<4611686018427387904)∧∀ a∈f.params,a.name.length<4611686018427387904
 body : ∀ f∈p.procs,Sm.ly f.body
theorem Hg {p:Pg} (hf:p.LF) (s:St):aE Tryz.prog qL [.agg (bJ p)] s (.bool p.IQ) s:=by
 refine aE.pure ?_ (by simp only[D.bK,D.ok,jh];rfl) rfl s
 obtain⟨dO,sB,agV,Eb⟩:=hf
 have sC:Pc.a7 p.procs<4611686018427387000:=by simp only[Pg.size]at dO;omega
 have akS:p.globals.length<4611686018427387904:=by simp only[Pg.size]at dO;omega
 have aBC:p.procs.length<4611686018427387904:=by have:=Pc.dJ p.procs;omega
 have hg:=fun s=>BB akS sB s
 unfold S0
 generalize h:p.IQ=R
 unfold Pg.IQ at h
 refine aE.go MZ rfl fun B Q hB hQ=>?_
 have⟨hD,gA,gB,gC⟩:=cd
 repeat' (first
 |simp only[go_sem,hD,gA,gB,gC]
 |(with_reducible refine CU (hg _) ?_)
 |(with_reducible first|refine bg fun hc=>?_|refine bh fun hc=>?_|refine bj (fun hc=>?_) fun hc=>?_)<;>(try simp only[hc,bs,↓reduceIte]at h)<;>try simp only[hc]
 |(with_reducible refine aD hQ ?_;exact fM))
 refine fj 2 0 (bl.ind (ι:=List Pc×Nat×Nat) (fun i=>p.procs.drop i.2.1=i.1∧Pc.fK i.2.2 i.1=R∧i.2.2≤200) (fun i=>i.1.length)
  (fun i=> [(1, .ptr 0 0),(3, .ptr 1 0),(27, .slice .shared 5 (p.procs.map bG)),(28, .int .i64 (p.procs.length:Int)),(29, .int .i64 (i.2.1:Int))]) (fun i=>⟨[bJ p,[.int .i64 (i.2.2:Int)]],[]⟩) ?_ (p.procs,0,0) ⟨rfl,h,Nat.zero_le _⟩)
 rintro⟨rest,k,n⟩ ⟨h1,h,hn⟩ IH
 dsimp only at h1 h hn
 cases rest with
 |nil=>
  have hD:=drop_nil h1
  simp only[Pc.fK]at h
  repeat' (first
 |simp only[go_sem,hD,gA,gB,gC]
 |(with_reducible first|refine bg fun hc=>?_|refine bh fun hc=>?_|refine bj (fun hc=>?_) fun hc=>?_)<;>(try simp only[hc,bs,↓reduceIte]at h)<;>try simp only[hc]
 |(with_reducible refine aD hQ ?_;exact fM))
 |cons f rest=>
  obtain⟨gA,g2,hD,g4⟩:=drop_cons h1
  have cH:k<4611686018427387904:=by omega
  have jf:=List.mem_of_getElem? gA
  have Cg:=Pc.da jf
  simp only[Pc.size]at Cg
  obtain⟨Ch,hfv,hff,hfp⟩:=agV f jf
  have PX:=Ds f.name Ch
  have hv:=fun s=>BB (by omega) hfv s
  have he:=fun s=>BB (by omega) hff s
  have hb:=fun s' o ho=>(adn _ f.body (Nat.le_refl _) (by omega) (Eb f jf) 1 n (by omega) (by omega) hn).XY (s:=s') (o:=o) (by simp[D.bK,D.ok,nz,Tag.ok]) rfl rfl rfl ho
  have hle:=IP (nest:=1) (l:=f.body) hn
  simp only[Pc.fK]at h
  repeat' (first
 |simp only[go_sem,hD,gA,gB,gC]
 |(with_reducible refine CU (PX _) ?_)
 |(with_reducible refine CU (hv _) ?_)
 |(with_reducible refine CU (he _) ?_)
 |(with_reducible first|refine bg fun hc=>?_|refine bh fun hc=>?_|refine bj (fun hc=>?_) fun hc=>?_)<;>(try simp only[hc,bs,↓reduceIte]at h)<;>try simp only[hc]
 |(with_reducible refine aD hQ ?_;exact fM)
 | (cases h;done))
  refine fj 3 0 (bl.ind (ι:=List Pm×Nat) (fun i=>f.params.drop i.2=i.1∧(if !(Pm.fD i.1)then false else if !(Sm.iD 1 n f.body).1 then false else Pc.fK (Sm.iD 1 n f.body).2 rest)=R) (fun i=>i.1.length)
   (fun i=> [(1, .ptr 0 0),(3, .ptr 1 0),(5, .ptr 2 0),(27, .slice .shared 5 (p.procs.map bG)),(28, .int .i64 (p.procs.length:Int)),(29, .int .i64 (k:Int)),(62, .slice .shared 2 (f.params.map gp)),(63, .int .i64 (f.params.length:Int)),(64, .int .i64 (i.2:Int))]) (fun i=>⟨[bJ p,[.int .i64 (n:Int)],bG f],[]⟩) ?_ (f.params,0) ⟨rfl,h⟩)
  rintro⟨Tj,j⟩ ⟨j1,h⟩ sD
  dsimp only at j1 h
  cases Tj with
  |nil=>
   have hD:=drop_nil j1
   simp only[Pm.fD,Bool.not_true,Bool.false_eq_true,↓reduceIte]at h
   repeat' (first
 |simp only[go_sem,hD,gA,gB,gC]
 |(with_reducible refine CU (hb _ _ rfl) ?_)
 |(with_reducible first|refine bg fun hc=>?_|refine bh fun hc=>?_|refine bj (fun hc=>?_) fun hc=>?_)<;>(try simp only[hc,bs,↓reduceIte]at h)<;>try simp only[hc]
 |(with_reducible refine aD hQ ?_;exact fM)
 | (cases h;done))
   refine dW 2 0 ?_ ?_ (IH (rest,k+1,(Sm.iD 1 n f.body).2) ⟨g2,h,hle.2 (by assumption)⟩ (Nat.lt_succ_self _))
   ·(simp only[go_sem,hD,gA,gB,gC,aH cH];try exact bO)
   ·(simp only[go_sem,hD,gA,gB,gC,aH cH];try exact bO)
  |cons a Tj=>
   obtain⟨gA,b2,hD,b4⟩:=drop_cons j1
   have VS:j<4611686018427387904:=by omega
   have ha:=Ds a.name (hfp a (List.mem_of_getElem? gA))
   simp only[Pm.fD]at h
   repeat' (first
 |simp only[go_sem,hD,gA,gB,gC]
 |(with_reducible refine CU (ha _) ?_)
 |(with_reducible first|refine bg fun hc=>?_|refine bh fun hc=>?_|refine bj (fun hc=>?_) fun hc=>?_)<;>(try simp only[hc,bs,↓reduceIte]at h)<;>try simp only[hc]
 |(with_reducible refine aD hQ ?_;exact fM)
 | (cases h;done))
   refine dW 3 0 ?_ ?_ (sD (Tj,j+1) ⟨b2,h⟩ (Nat.lt_succ_self _))
   ·(simp only[go_sem,hD,gA,gB,gC,aH VS];try exact bO)
   ·(simp only[go_sem,hD,gA,gB,gC,aH VS];try exact bO)
theorem BE {s:aF} (h:isName s=true):s.length≤8:=by
 cases s with
 |nil=>simp
 | cons c r=>
  simp only[isName]at h
  split at h
  ·cases h
  ·rename_i hc
   simp only[Bool.or_eq_true,decide_eq_true_eq,not_or]at hc
   simp only[List.length_cons];omega
theorem qx {t:aF} : ∀ {l:List aF},dS l=true→t∈l→isName t=true
 | s::l,h,m=>by
  simp only[dS]at h
  cases hs:isName s
  ·simp[hs]at h
  ·simp [hs]at h
   rcases List.mem_cons.1 m with rfl|m
   ·exact hs
   ·exact qx h m
theorem Nb {a:Ar} : ∀ {l:List Ar},Ar.fD l=true→a∈l→a.may=true
 | s::l,h,m=>by
  simp only[Ar.fD]at h
  cases hs:s.may
  ·simp[hs]at h
  ·simp [hs]at h
   rcases List.mem_cons.1 m with rfl|m
   ·exact hs
   ·exact Nb h m
theorem JC {a:Pm} : ∀ {l:List Pm},Pm.fD l=true→a∈l→isName a.name=true
 | s::l,h,m=>by
  simp only[Pm.fD]at h
  cases hs:isName s.name
  ·simp[hs]at h
  ·simp [hs]at h
   rcases List.mem_cons.1 m with rfl|m
   ·exact hs
   ·exact JC h m
mutual
theorem Hh : ∀ x:Ex,x.form=true→x.texts
 | ⟨op,n,name,kids⟩,h=>by
  simp only[Ex.form]at h
  split at h
  ·cases h
  ·rename_i hc
   refine⟨?_,Ff kids h⟩
   simp only[Bool.or_eq_true,Bool.and_eq_true,Bool.not_eq_true',not_or,not_and,Bool.not_eq_false]at hc
   cases hn:(name == [])
   ·have:=BE (hc.2 hn);omega
   ·simp at hn;subst hn;simp
theorem Ff : ∀ l:List Ex,Ex.uY l=true→Ex.xr l
 | [],_=>trivial
 | x::l,h=>by
  simp only[Ex.uY]at h
  cases hx:x.form
  ·simp[hx]at h
  ·simp [hx]at h
   exact⟨Hh x hx,Ff l h⟩
end
theorem JD {x:Ex} (h:x.may=true):x.texts:=by
 unfold Ex.may at h
 simp only[Bool.and_eq_true]at h
 exact Hh x h.2
theorem Hi {x:Ex} (h:x.none=true):x.texts:=by
 obtain⟨op,n,name,kids⟩:=x
 simp[Ex.none]at h
 obtain⟨⟨_,h1⟩,h2⟩:=h
 subst h1 h2
 exact⟨by simp,trivial⟩
mutual
theorem VT {deep cG:Int} {aL:Bool} {out:List It} {i:It} : ∀ s:Sm,i∈iF deep cG aL out s→i∈out∨i.s.size≤s.size
 | ⟨id,kind,labels,name,proc,x,has,args,aM,e⟩,h=>by
  simp only[iF]at h
  have key:i∈out++ [(⟨⟨id,kind,labels,name,proc,x,has,args,aM,e⟩,deep,cG,aL⟩:It)]→i∈out∨i.s.size≤(⟨id,kind,labels,name,proc,x,has,args,aM,e⟩:Sm).size:=by
   intro h
   rcases List.mem_append.1 h with h|h
   ·exact .inl h
   ·simp at h;subst h;exact .inr (Nat.le_refl _)
  split at h
  ·rcases yE e h with h | h
   ·rcases yE aM h with h | h
    ·exact key h
    ·right;simp only[Sm.size];omega
   ·right;simp only[Sm.size];omega
  ·exact key h
theorem yE {deep cG:Int} {aL:Bool} {out:List It} {i:It} : ∀ l:List Sm,i∈fw deep cG aL out l→i∈out∨i.s.size<Sm.a7 l
 | [],h=>by simp only[fw]at h;exact .inl h
 | s::l,h=>by
  simp only[fw]at h
  split at h
  ·rcases yE l h with h | h
   ·rcases VT s h with h | h
    ·exact .inl h
    ·right;simp only[Sm.a7];omega
   ·right;simp only[Sm.a7];omega
  ·exact .inl h
end
theorem Nc {i:It} : ∀ (l:List Pc) (out:List It),i∈allM out l→i∈out∨i.s.size<Pc.a7 l
 | [],out,h=>by simp only[allM]at h;exact .inl h
 | f::l,out,h=>by
  have key:i∈out++f.flat→i∈out∨i.s.size<Pc.a7 (f::l):=by
   intro h
   rcases List.mem_append.1 h with h|h
   ·exact .inl h
   ·rcases yE _ h with h | h
    ·simp at h
    ·right;simp only[Pc.a7,Pc.size];omega
  simp only[allM]at h
  split at h
  ·exact key h
  ·rcases Nc l _ h with h | h
   ·exact key h
   ·right;simp only[Pc.a7];omega
theorem Hj {i:It} : ∀ (l:List It) (n:Nat),It.fD n l=true→i∈l→i.s.one=true
 | s::l,n,h,m=>by
  simp only[It.fD]at h
  split at h
  ·cases h
  ·rename_i hc
   simp only[Bool.or_eq_true,Bool.not_eq_true',not_or,Bool.not_eq_false]at hc
   rcases List.mem_cons.1 m with rfl|m
   ·exact hc.2
   ·exact Hj l (n+1) h m
theorem Nd {s:Sm} (h:s.one=true) (hs:s.size<4611686018427387000):s.wb:=by
 unfold Sm.one at h
 split at h
 ·cases h
 split at h
 ·cases h
 split at h
 ·cases h
 split at h
 ·cases h
 rename_i c1 c2 c3 c4
 simp only[Bool.or_eq_true,Bool.and_eq_true,Bool.not_eq_true',not_or,not_and,Bool.not_eq_false,decide_eq_true_eq]at c1 c2 c3 c4
 obtain⟨⟨⟨⟨⟨_,_⟩,atJ⟩,cx⟩,cn⟩,_⟩:=c1
 obtain⟨c21,c22⟩:=c2
 obtain⟨⟨c31,c32⟩,c33⟩:=c3
 have nm : ∀ {t:aF},isName t=true→t.length<4611686018427387904:=fun h=>by have:=BE h;omega
 have dO:1+s.labels.length+s.x.size+Ar.a7 s.args≤s.size:=by cases s;simp only[Sm.size];omega
 have s6:=Ar.dJ s.args
 refine⟨fun t ht=>nm (qx atJ ht),by omega, ?_, ?_,by omega, ?_,by omega,fun a ha=>?_⟩
 ·cases hn:s.hasName
  ·cases he:(s.name == [])
   ·exact nm (c22 ⟨hn,he⟩).2
   ·simp at he;rw[he];simp
  ·exact nm (c21 hn)
 ·cases nu:s.xu
  ·rw [nu]at c31
   have:s.proc = []:=by simpa using c31
   rw[this];simp
  ·exact nm (c32 nu)
 ·cases hx:s.MT
  ·exact Hi (cn hx)
  ·exact JD (cx hx)
 ·have hm:=Nb c4 ha
  have hsa:=Ar.da ha
  unfold Ar.may at hm
  split at hm
  ·simp only [Bool.and_eq_true]at hm
   exact⟨by omega,Hi hm.2,nm hm.1⟩
  ·simp only [Bool.and_eq_true,beq_iff_eq]at hm
   exact⟨by omega,JD hm.2,by rw[hm.1];simp⟩
theorem JE {f:Pc} : ∀ {l:List Pc},Pc.mQ l=true→f∈l→isName f.name=true∧dS f.vars=true∧dS f.fin=true∧Pm.fD f.params=true
 |s::l,h,m=>by
  simp only[Pc.mQ]at h
  split at h
  ·cases h
  split at h
  ·cases h
  rename_i c1 c2
  simp only[Bool.or_eq_true,Bool.not_eq_true',not_or,Bool.not_eq_false]at c1 c2
  rcases List.mem_cons.1 m with rfl|m
  ·exact⟨c1.1.1.1.1,c1.1.2,c1.2,c2⟩
  ·exact JE h m
theorem Za {p:Pg} (h:p.may=true) (hs:p.size<4611686018427387000):p.wb:=by
 unfold Pg.may at h
 split at h
 ·cases h
 split at h
 ·cases h
 split at h
 ·cases h
 rename_i c1 c2 c3
 simp only[Bool.or_eq_true,Bool.not_eq_true',not_or,Bool.not_eq_false]at c1 c2
 have nm : ∀ {t:aF},isName t=true→t.length<4611686018427387904:=fun h=>by have:=BE h;omega
 refine⟨hs,fun t ht=>nm (qx c1.2 ht),fun f hf=>?_,fun i hi=>?_⟩
 ·obtain⟨a,b,c,d⟩:=JE c2 hf
  exact⟨nm a,fun t ht=>nm (qx b ht),fun t ht=>nm (qx c ht),fun t ht=>nm (JC d ht)⟩
 ·refine Nd (Hj _ _ h hi) ?_
  rcases Nc _ _ hi with h1|h1
  ·simp at h1
  ·simp only[Pg.size]at hs;omega
theorem VU {t:aF} (h:isName t=true):t≠ []:=by rintro rfl;cases h
theorem Zb (op n:Int) (name:aF) (kids:List Ex):Ex.form ⟨op,n,name,kids⟩=true↔
 po op=(kids.length:Int)∧(op=1∨n=0)∧0≤n∧(op=2↔name≠ [])∧(name = []∨isName name=true)∧Ex.uY kids=true:=by
 simp only[Ex.form]
 split
 ·rename_i h
  simp only[Bool.or_eq_true,Bool.and_eq_true,bne_iff_ne,ne_eq,decide_eq_true_eq,Bool.not_eq_true']at h
  refine⟨fun h=>(Bool.false_ne_true h).elim,fun⟨h1,h2,h3,h4,h5,_⟩=>?_⟩
  exfalso
  rcases h with (((h|h)|h)|h)|h
  ·exact h h1
  ·rcases h2 with h2 | h2
   ·exact h.1 h2
   ·exact h.2 h2
  ·omega
  ·by_cases h2:op=2<;>cases name<;>simp_all
  ·rcases h5 with h5 | h5
   ·subst h5;simp at h
   ·rw[h5]at h;simp at h
 ·rename_i h
  simp only[Bool.or_eq_true,Bool.and_eq_true,bne_iff_ne,ne_eq,decide_eq_true_eq,Bool.not_eq_true',not_or,not_and,Decidable.not_not,Bool.not_eq_false]at h
  obtain⟨⟨⟨⟨h1,h2⟩,h3⟩,h4⟩,h5⟩:=h
  refine⟨fun h=>⟨h1, ?_,by omega, ?_, ?_,h⟩,fun h=>h.2.2.2.2.2⟩
  ·by_cases h:op=1
   ·exact .inl h
   ·exact .inr (h2 h)
  ·by_cases h2:op=2<;>cases name<;>simp_all
  ·cases name with
   |nil=>exact .inl rfl
   |cons c r=>exact .inr (h5 rfl)
theorem Nf (op n:Int) (name:aF) (kids:List Ex) (k:Int):Ex.dp k ⟨op,n,name,kids⟩=true↔
 1≤k∧(kids.length:Int)=po op∧(if op=1 then 0≤n∧name = []else if op=2 then n=0∧isName name=true else n=0∧name = []∧Ex.Dt (k - 1) kids=true):=by
 simp only[Ex.dp]
 split
 ·rename_i h
  simp only[Bool.or_eq_true,decide_eq_true_eq,bne_iff_ne,ne_eq]at h
  refine⟨fun h=>(Bool.false_ne_true h).elim,fun⟨h1,h2,_⟩=>?_⟩
  rcases h with h|h
  ·omega
  ·exact(h h2).elim
 rename_i h
 simp only[Bool.or_eq_true,decide_eq_true_eq,bne_iff_ne,ne_eq,not_or,Decidable.not_not]at h
 have h1:1≤k:=by omega
 simp only[h1,h.2,true_and]
 by_cases o1:op=1
 ·subst o1
  cases name<;>simp
 ·have o1' : ¬ (op==1)=true:=by simpa using o1
  rw[if_neg o1',if_neg o1]
  by_cases o2:op=2
  ·subst o2;simp
  ·have o2' : ¬ (op==2)=true:=by simpa using o2
   rw[if_neg o2',if_neg o2]
   by_cases hn:n=0
   ·subst hn
    cases name<;>simp
   ·simp[hn]
mutual
theorem abH : ∀ (x:Ex) (k:Int),0≤k→(x.dp k=true↔(x.depth:Int)≤k∧x.form=true)
 | ⟨op,n,name,kids⟩,k,hk=>by
  rw[Nf,Zb]
  have hd:Ex.depth ⟨op,n,name,kids⟩=Ex.rD kids+1:=by simp only[Ex.depth]
  rw[hd]
  by_cases h1:1≤k
  ·have ih:=VV kids (k - 1) (by omega)
   by_cases o1:op=1
   ·subst o1
    have ha:po 1=0:=rfl
    rw[ha,if_pos rfl]
    constructor
    ·rintro⟨_,h2,h3,h4⟩
     have:kids = []:=List.eq_nil_of_length_eq_zero (by omega)
     subst this;subst h4
     simp[Ex.rD,Ex.uY,h3];omega
    ·rintro⟨h2,h3,_,h4,h5,_⟩
     refine⟨h1,h3.symm,h4, ?_⟩
     cases name
     ·rfl
     ·simp at h5
   ·rw [if_neg o1]
    by_cases o2:op=2
    ·subst o2
     have ha:po 2=0:=rfl
     rw[ha,if_pos rfl]
     constructor
     ·rintro⟨_,h2,h3,h4⟩
      have:kids = []:=List.eq_nil_of_length_eq_zero (by omega)
      subst this;subst h3
      have:=VU h4
      simp[Ex.rD,Ex.uY,h4,this];omega
     ·rintro⟨h2,h3,h4,_,h5,h6,_⟩
      refine⟨h1,h3.symm,h4.resolve_left o1, ?_⟩
      exact h6.resolve_left (h5.1 rfl)
    ·rw [if_neg o2,ih]
     constructor
     ·rintro⟨_,h2,h3,h4,h5,h6⟩
      subst h3;subst h4
      exact⟨by omega,h2.symm, .inr rfl,Int.le_refl _,by simp[o2], .inl rfl,h6⟩
     ·rintro⟨h2,h3,h4,_,h5,h6,h7⟩
      refine⟨h1,h3.symm,h4.resolve_left o1, ?_,by omega,h7⟩
      exact Decidable.byContradiction fun h=>o2 (h5.2 h)
  ·constructor
   ·rintro⟨h,_⟩;exact(h1 h).elim
   ·rintro⟨h,_⟩;omega
theorem VV : ∀ (l:List Ex) (k:Int),0≤k→(Ex.Dt k l=true↔(Ex.rD l:Int)≤k∧Ex.uY l=true)
 | [],k,hk=>by simp[Ex.Dt,Ex.rD,Ex.uY,hk]
 | x::l,k,hk=>by
  have h1:=abH x k hk
  have h2:=VV l k hk
  have hd:Ex.rD (x::l)=max x.depth (Ex.rD l):=by simp only[Ex.rD]
  rw[hd]
  simp only[Ex.Dt,Ex.uY]
  cases hx:Ex.dp k x
  ·simp only [Bool.not_false, ↓reduceIte,Bool.false_eq_true,false_iff,not_and]
   intro h3
   have : ¬ ((x.depth:Int)≤k∧x.form=true):=by rw[← h1,hx];simp
   have hf:x.form=false:=by
    cases hf:x.form
    ·rfl
    ·exact(this ⟨by omega,hf⟩).elim
   simp[hf]
  ·have:=h1.1 hx
   simp only[Bool.not_true,Bool.false_eq_true,↓reduceIte,this.2,h2]
   have h3:=this.1
   refine and_congr_left fun _=>?_
   omega
end
theorem Hk (x:Ex):x.dp 20=x.may:=by
 rw[Bool.eq_iff_iff,abH x 20 (by omega)]
 unfold Ex.may
 simp only[Bool.and_eq_true,decide_eq_true_eq]
 refine and_congr_left fun _=>?_
 omega
theorem JF (x:Ex) (b:Bool):xG x b=if b then x.may else x.none:=by
 unfold xG
 rw[Hk]
 cases b<;>simp
theorem JG (t:aF) (b:Bool):vz t b=if b then isName t else t == []:=by
 unfold vz
 cases b<;>simp
theorem Fg : ∀ l:List Ar,qN l=Ar.fD l
 | []=>rfl
 |a::l=>by
  simp only[qN,Ar.fD,Ar.may,JF,JG,Fg l]
  grind
theorem Rk {α:Type} (l:List α):((l.length:Int)==0) = !(decide ((l.length:Int) > 0)):=by
 cases l with
 |nil=>rfl
 |cons a l=>
  have h1:(((a::l).length:Int)==0)=false:=by simp only[List.length_cons,beq_eq_false_iff_ne];omega
  have h2:decide (((a::l).length:Int) > 0)=true:=by simp only[List.length_cons,decide_eq_true_eq];omega
  rw[h1,h2];rfl
theorem Hl (s:Sm):s.one=(dS s.labels && s.fields):=by
 have hk:s.kind=1∨s.kind=2∨s.kind=3∨s.kind=4∨s.kind=5∨s.kind=6∨s.kind=7∨s.kind=8∨s.kind=9∨s.kind=10∨s.kind<1∨s.kind > 10:=by omega
 unfold Sm.one Sm.fields Sm.flags Sm.MT Sm.hasName Sm.xu
 have p1:isName [] = false:=rfl
 rcases hk with h|h|h|h|h|h|h|h|h|h|h|h
 all_goals
  simp only[h,Rk,Fg,JF,JG,Sm.LD,Sm.LC]
  grind
theorem lX : ∀ (a b:List It) (n:Nat),It.fD n (a++b)=(It.fD n a && It.fD (n+a.length) b)
 | [],b,n=>by simp[It.fD]
 |i::a,b,n=>by
  simp only[List.cons_append,It.fD,lX a b (n+1),List.length_cons]
  have:n+1+a.length=n+(a.length+1):=by omega
  rw[this]
  split<;>simp
theorem Hn (n:Nat) (i:It):It.fD n [i] = true↔i.s.id=((n+1:Nat):Int)∧i.deep≤12∧i.s.one=true:=by
 simp only[It.fD]
 split
 ·rename_i h
  simp only[Bool.or_eq_true,bne_iff_ne,ne_eq,decide_eq_true_eq,Bool.not_eq_true']at h
  refine⟨fun h=>(Bool.false_ne_true h).elim,fun⟨h1,h2,h3⟩=>?_⟩
  rcases h with (h|h)|h
  ·exact(h h1).elim
  ·omega
  ·rw[h]at h3;cases h3
 ·rename_i h
  simp only[Bool.or_eq_true,bne_iff_ne,ne_eq,decide_eq_true_eq,Bool.not_eq_true',not_or,Decidable.not_not,Bool.not_eq_false]at h
  exact⟨fun _=>⟨h.1.1,by omega,h.2⟩,fun _=>rfl⟩
mutual
theorem Du (deep cG:Int) (aL:Bool) : ∀ (s:Sm) (out:List It),∃ new,iF deep cG aL out s=out++(⟨s,deep,cG,aL⟩::new)
 | ⟨id,kind,labels,name,proc,x,has,args,aM,e⟩,out=>by
  simp only[iF]
  split
  ·obtain⟨n1,h1⟩:=sE (deep+1) id false aM (out++ [⟨⟨id,kind,labels,name,proc,x,has,args,aM,e⟩,deep,cG,aL⟩])
   obtain⟨n2,h2⟩:=sE (deep+1) id true e (fw (deep+1) id false (out++ [⟨⟨id,kind,labels,name,proc,x,has,args,aM,e⟩,deep,cG,aL⟩]) aM)
   rw[h2,h1]
   exact⟨n1++n2,by simp⟩
  ·exact⟨[],rfl⟩
theorem sE (deep cG:Int) (aL:Bool) : ∀ (l:List Sm) (out:List It),∃ new,fw deep cG aL out l=out++new
 | [],out=>⟨[],by simp[fw]⟩
 | s::l,out=>by
  simp only[fw]
  split
  ·obtain⟨n1,h1⟩:=Du deep cG aL s out
   obtain⟨n2,h2⟩:=sE deep cG aL l (iF deep cG aL out s)
   rw[h2,h1]
   exact⟨⟨s,deep,cG,aL⟩::n1++n2,by simp⟩
  ·exact⟨[],by simp⟩
end
theorem JH {nest:Int} {n:Nat} {s:Sm} (h:(Sm.rm nest n s).1=true) :
 n+1≤200∧s.id=((n+1:Nat):Int)∧s.one=true∧(Sm.iD (nest+1) (n+1) s.aM).1=true∧(Sm.iD (nest+1) (Sm.iD (nest+1) (n+1) s.aM).2 s.aL).1=true∧
 (Sm.rm nest n s).2=(Sm.iD (nest+1) (Sm.iD (nest+1) (n+1) s.aM).2 s.aL).2:=by
 rw[IN]at h ⊢
 split at h
 ·cases h
 rename_i h1
 simp only[Bool.or_eq_true,bne_iff_ne,ne_eq,decide_eq_true_eq,Bool.not_eq_true',not_or,Decidable.not_not,Bool.not_eq_false]at h1
 split at h
 ·cases h
 rename_i h2
 have wx:(Sm.iD (nest+1) (n+1) s.aM).1=true:=by simpa using h2
 refine⟨by omega,h1.1.1.2, ?_,wx,h, ?_⟩
 ·rw[Hl,h1.1.2,h1.2];rfl
 ·rw[if_neg (by simp only[Bool.or_eq_true,bne_iff_ne,ne_eq,decide_eq_true_eq,Bool.not_eq_true',not_or,Decidable.not_not,Bool.not_eq_false];exact h1),if_neg h2]
theorem vB {nest:Int} {n:Nat} {l:List Sm} (h:(Sm.iD nest n l).1=true):(l = []∨nest≤12)∧Sm.iD nest n l=Sm.fK nest n l:=by
 unfold Sm.iD gate at *
 split at h
 ·cases h
 ·rename_i hc
  rw[if_neg hc]
  refine⟨?_,rfl⟩
  simp only[Bool.and_eq_true,decide_eq_true_eq,not_and]at hc
  cases l with
  |nil=>exact .inl rfl
  |cons s l=>right;simp only[List.length_cons]at hc;omega
mutual
theorem VW : ∀ (s:Sm) (nest cG:Int) (aL:Bool) (n:Nat) (out:List It),nest≤12→out.length≤n→n≤200→(Sm.rm nest n s).1=true→
 ∃ new,iF nest cG aL out s=out++new∧It.fD n new=true∧n+new.length=(Sm.rm nest n s).2∧(Sm.rm nest n s).2≤200
 | ⟨id,kind,labels,name,proc,x,has,args,aM,e⟩,nest,cG,aL,n,out,VX,ho,hn,h=>by
  obtain⟨h1,h2,h3,h4,h5,h6⟩:=JH h
  dsimp only at h2 h4 h5 h6
  rw[h6]
  obtain⟨g1,e1⟩:=vB h4
  rw[e1]at h4 h5 ⊢
  obtain⟨g2,e2⟩:=vB h5
  rw[e2]at h5 ⊢
  have pZ:It.fD n [(⟨⟨id,kind,labels,name,proc,x,has,args,aM,e⟩,nest,cG,aL⟩:It)] = true:=(Hn _ _).2 ⟨h2,VX,h3⟩
  obtain⟨n1,k1,k2,k3,k4⟩:=yF aM (nest+1) id false (n+1) (out++ [⟨⟨id,kind,labels,name,proc,x,has,args,aM,e⟩,nest,cG,aL⟩]) g1 (by simp;omega) h1 h4
  obtain⟨n2,j1,j2,j3,j4⟩:=yF e (nest+1) id true _ (out++ [⟨⟨id,kind,labels,name,proc,x,has,args,aM,e⟩,nest,cG,aL⟩]++n1) g2 (by simp;omega) k4 h5
  simp only[iF]
  rw[if_pos (by simpa using VX),k1,j1]
  refine⟨⟨⟨id,kind,labels,name,proc,x,has,args,aM,e⟩,nest,cG,aL⟩::(n1++n2),by simp, ?_, ?_,j4⟩
  ·have:(⟨⟨id,kind,labels,name,proc,x,has,args,aM,e⟩,nest,cG,aL⟩:It)::(n1++n2) = [⟨⟨id,kind,labels,name,proc,x,has,args,aM,e⟩,nest,cG,aL⟩]++n1++n2:=by simp
   rw[this,lX,lX,pZ,Bool.true_and]
   have e3:n+([(⟨⟨id,kind,labels,name,proc,x,has,args,aM,e⟩,nest,cG,aL⟩:It)]++n1).length=(Sm.fK (nest+1) (n+1) aM).2:=by simp;omega
   rw[e3,j2]
   have e4:n + [(⟨⟨id,kind,labels,name,proc,x,has,args,aM,e⟩,nest,cG,aL⟩:It)].length=n+1:=rfl
   rw[e4,k2];rfl
  ·simp only[List.length_cons,List.length_append];omega
theorem yF : ∀ (l:List Sm) (nest cG:Int) (aL:Bool) (n:Nat) (out:List It),(l = []∨nest≤12)→out.length≤n→n≤200→(Sm.fK nest n l).1=true→
 ∃ new,fw nest cG aL out l=out++new∧It.fD n new=true∧n+new.length=(Sm.fK nest n l).2∧(Sm.fK nest n l).2≤200
 | [],nest,cG,aL,n,out,VX,ho,hn,h=>⟨[],by simp[fw],rfl,by simp[Sm.fK],by simpa[Sm.fK]using hn⟩
 |s::l,nest,cG,aL,n,out,VX,ho,hn,h=>by
  have agX:nest≤12:=VX.resolve_left (by simp)
  simp only[Sm.fK]at h ⊢
  split at h
  ·cases h
  rename_i hc
  rw[if_neg hc]
  obtain⟨n1,k1,k2,k3,k4⟩:=VW s nest cG aL n out agX ho hn (by simpa using hc)
  obtain⟨n2,j1,j2,j3,j4⟩:=yF l nest cG aL _ (out++n1) (.inr agX) (by simp;omega) k4 h
  simp only[fw]
  rw[if_pos (by simp only[decide_eq_true_eq];omega),k1,j1]
  refine⟨n1++n2,by simp, ?_,by simp;omega,j4⟩
  rw[lX,k2,k3,j2];rfl
end
mutual
theorem VY : ∀ (s:Sm) (nest cG:Int) (aL:Bool) (n:Nat) (out new:List It),iF nest cG aL out s=out++new→It.fD n new=true→out.length≤n→n+new.length≤200→
 Sm.rm nest n s=(true,n+new.length)∧nest≤12
 | ⟨id,kind,labels,name,proc,x,has,args,aM,e⟩,nest,cG,aL,n,out,new,jj,hm,ho,hn=>by
  obtain⟨n0,h0⟩:=Du nest cG aL ⟨id,kind,labels,name,proc,x,has,args,aM,e⟩ out
  have e0:new = ⟨⟨id,kind,labels,name,proc,x,has,args,aM,e⟩,nest,cG,aL⟩::n0:=List.append_cancel_left (jj.symm.trans h0)
  subst e0
  have akT:(⟨⟨id,kind,labels,name,proc,x,has,args,aM,e⟩,nest,cG,aL⟩:It)::n0 = [⟨⟨id,kind,labels,name,proc,x,has,args,aM,e⟩,nest,cG,aL⟩]++n0:=rfl
  rw[akT,lX,Bool.and_eq_true]at hm
  obtain⟨ow,kl⟩:=hm
  obtain⟨c1,c2,c3⟩:=(Hn _ _).1 ow
  dsimp only at c1 c2 c3
  simp only[List.length_cons]at hn ⊢
  have Zc:fw (nest+1) id true (fw (nest+1) id false (out++ [⟨⟨id,kind,labels,name,proc,x,has,args,aM,e⟩,nest,cG,aL⟩]) aM) e=out++([⟨⟨id,kind,labels,name,proc,x,has,args,aM,e⟩,nest,cG,aL⟩]++n0):=by
   simp only[iF]at jj
   rw[if_pos (by simpa using c2)]at jj
   exact jj
  obtain⟨n1,g1⟩:=sE (nest+1) id false aM (out++ [⟨⟨id,kind,labels,name,proc,x,has,args,aM,e⟩,nest,cG,aL⟩])
  obtain⟨n2,g2⟩:=sE (nest+1) id true e (fw (nest+1) id false (out++ [⟨⟨id,kind,labels,name,proc,x,has,args,aM,e⟩,nest,cG,aL⟩]) aM)
  have en:n0=n1++n2:=by
   rw[g2,g1]at Zc
   simp only[List.append_assoc,List.append_cancel_left_eq]at Zc
   exact Zc.symm
  subst en
  have Zd:It.fD (n+1) (n1++n2)=true:=kl
  rw[lX,Bool.and_eq_true]at Zd
  simp only[List.length_append]at hn ⊢
  obtain⟨r1,r2⟩:=yG aM (nest+1) id false (n+1) _ n1 g1 Zd.1 (by simp;omega) (by omega)
  obtain⟨q1,q2⟩:=yG e (nest+1) id true (n+1+n1.length) _ n2 g2 Zd.2 (by rw[g1];simp;omega) (by omega)
  refine⟨?_,c2⟩
  have gg : ∀ {l:List Sm} {m:Nat} {r:Bool×Nat},Sm.fK (nest+1) m l=r→(l = []∨nest+1≤12)→Sm.iD (nest+1) m l=r:=by
   intro l m r h1 h2
   unfold Sm.iD gate
   rw[if_neg]
   ·exact h1
   ·simp only [Bool.and_eq_true,decide_eq_true_eq,not_and]
    rcases h2 with h2|h2
    ·subst h2;simp
    ·omega
  have t1:=gg r1 r2
  have t2:=gg q1 q2
  rw[IN]
  dsimp only
  rw[t1]
  dsimp only
  rw[t2]
  rw[Hl,Bool.and_eq_true]at c3
  rw[if_neg]
  ·simp;omega
  ·simp only [Bool.or_eq_true,bne_iff_ne,ne_eq,decide_eq_true_eq,Bool.not_eq_true',not_or,Decidable.not_not,Bool.not_eq_false]
   exact⟨⟨⟨by omega,c1⟩,c3.1⟩,c3.2⟩
theorem yG : ∀ (l:List Sm) (nest cG:Int) (aL:Bool) (n:Nat) (out new:List It),fw nest cG aL out l=out++new→It.fD n new=true→out.length≤n→n+new.length≤200→
 Sm.fK nest n l=(true,n+new.length)∧(l = []∨nest≤12)
 | [],nest,cG,aL,n,out,new,jj,hm,ho,hn=>by
  simp only[fw]at jj
  have:new = []:=by simpa using jj
  subst this
  exact⟨by simp[Sm.fK], .inl rfl⟩
 | s::l,nest,cG,aL,n,out,new,jj,hm,ho,hn=>by
  simp only[fw]at jj
  rw[if_pos (by simp only[decide_eq_true_eq];omega)]at jj
  obtain⟨n1,g1⟩:=Du nest cG aL s out
  obtain⟨n2,g2⟩:=sE nest cG aL l (iF nest cG aL out s)
  have en:new=(⟨s,nest,cG,aL⟩::n1)++n2:=by
   rw[g2,g1,List.append_assoc,List.append_cancel_left_eq]at jj
   exact jj.symm
  subst en
  rw[lX,Bool.and_eq_true]at hm
  rw[List.length_append]at hn ⊢
  obtain⟨r1,r2⟩:=VY s nest cG aL n out _ g1 hm.1 ho (by omega)
  obtain⟨q1,q2⟩:=yG l nest cG aL (n+(⟨s,nest,cG,aL⟩::n1:List It).length) _ n2 g2 hm.2 (by rw[g1,List.length_append];omega) (by omega)
  refine⟨?_, .inr r2⟩
  simp only[Sm.fK,r1,Bool.not_true,Bool.false_eq_true,↓reduceIte,q1]
  congr 1;omega
end
theorem Dv : ∀ (l:List Pc) (out:List It),out.length≤200→(Pc.fK out.length l=true↔Pc.mQ l=true∧∃ new,allM out l=out++new∧(out++new).length≤200∧It.fD out.length new=true)
 | [],out,ho=>by simp[Pc.fK,Pc.mQ,allM,It.fD];exact ho
 | f::l,out,ho=>by
  have rp : ∀ (l:List Pc) (out:List It),∃ new,allM out l=out++new:=by
   intro l
   induction l with
   |nil=>intro out;exact⟨[],by simp[allM]⟩
   | cons f l ih=>
    intro out
    simp only[allM]
    split
    ·exact⟨_,rfl⟩
    ·obtain⟨n1,h1⟩:=ih (out++f.flat)
     exact⟨f.flat++n1,by rw[h1,List.append_assoc]⟩
  simp only[Pc.fK,Pc.mQ]
  have akU:(decide ((f.params.length:Int) > 8) ||decide ((f.vars.length:Int) > 16) || !(isName f.name) || !(dS f.vars) || !(dS f.fin))=(!(isName f.name) ||decide ((f.params.length:Int) > 8) ||decide ((f.vars.length:Int) > 16) || !(dS f.vars) || !(dS f.fin)):=by
   cases isName f.name<;>simp
  rw[akU]
  split
  ·simp
  split
  ·simp
  have hg:Sm.iD 1 out.length f.body=Sm.fK 1 out.length f.body:=by unfold Sm.iD gate;rw[if_neg (by simp)]
  rw[hg]
  constructor
  ·intro h
   split at h
   ·cases h
   rename_i hc
   obtain⟨n1,k1,k2,k3,k4⟩:=yF f.body 1 0 false out.length [] (.inr (by omega)) (by simp) ho (by simpa using hc)
   have jj:f.flat=n1:=by unfold Pc.flat;rw[k1];rfl
   rw[← k3, ← List.length_append]at h
   obtain⟨hh,n2,j1,j2,j3⟩:=(Dv l (out++n1) (by rw[List.length_append];omega)).1 h
   refine⟨hh,n1++n2, ?_,by simpa using j2, ?_⟩
   ·simp only [allM,jj]
    rw[if_neg (by simp only[List.length_append,decide_eq_true_eq];omega),j1,List.append_assoc]
   ·rw[lX,k2, ← List.length_append,j3];rfl
  ·rintro⟨hh,new,j1,j2,j3⟩
   simp only[allM]at j1
   split at j1
   ·rename_i hc
    have:new=f.flat:=(List.append_cancel_left j1).symm
    subst this
    simp only[decide_eq_true_eq]at hc
    omega
   rename_i hc
   simp only[decide_eq_true_eq]at hc
   obtain⟨n2,g2⟩:=rp l (out++f.flat)
   have en:new=f.flat++n2:=by
    rw[g2,List.append_assoc]at j1
    exact(List.append_cancel_left j1).symm
   subst en
   rw[lX,Bool.and_eq_true]at j3
   rw[List.length_append,List.length_append]at j2
   obtain⟨r1,_⟩:=yG f.body 1 0 false out.length [] f.flat (by unfold Pc.flat;rfl) j3.1 (by simp) (by omega)
   rw[r1]
   simp only[Bool.not_true,Bool.false_eq_true,↓reduceIte]
   rw[← List.length_append]
   exact(Dv l (out++f.flat) (by rw[List.length_append];omega)).2 ⟨hh,n2,g2,by simp;omega,by rw[List.length_append];exact j3.2⟩
theorem AN (p:Pg):p.IQ=p.may:=by
 have h:=Dv p.procs [] (by simp)
 unfold Pg.IQ Pg.may
 split
 ·rfl
 ·have e:Pc.fK 0 p.procs=(if !(Pc.mQ p.procs)then false else if decide ((p.all.length:Int) > 200)then false else It.fD 0 p.all):=by
   rw[Bool.eq_iff_iff]
   have h':Pc.fK 0 p.procs=true↔_:=h
   rw[h']
   have ha:p.all=allM [] p.procs:=rfl
   constructor
   ·rintro⟨h1,new,h2,h3,h4⟩
    rw[ha,h2,h1]
    simp only[List.nil_append]at h3 ⊢
    simp only[Bool.not_true,Bool.false_eq_true,↓reduceIte]
    rw[if_neg (by simp only[decide_eq_true_eq];omega)]
    exact h4
   ·intro h1
    cases hh:Pc.mQ p.procs
    ·rw[hh]at h1;simp at h1
    ·rw [hh]at h1
     simp only[Bool.not_true,Bool.false_eq_true,↓reduceIte]at h1
     split at h1
     ·cases h1
     ·rename_i hc
      simp only[decide_eq_true_eq]at hc
      exact⟨rfl,p.all,by rw[ha];rfl,by simp;omega,h1⟩
  exact e
mutual
def Ex.tz:Ex→Prop
 |⟨_,n,_,kids⟩=>n≤9223372036854775807∧Ex.zE kids
def Ex.zE:List Ex→Prop
 | []=>True
 |x::l=>x.tz∧Ex.zE l
end
mutual
def Sm.tz:Sm→Prop
 |⟨_,_,_,_,_,x,_,args,aM,aL⟩=>x.tz∧(∀ a∈args,a.x.tz)∧Sm.zE aM∧Sm.zE aL
def Sm.zE:List Sm→Prop
 | []=>True
 |s::l=>s.tz∧Sm.zE l
end
def Pg.tz (p:Pg):Prop:=∀ f∈p.procs,Sm.zE f.body
theorem JI {f:Pc} : ∀ {l:List Pc} {n:Nat},Pc.fK n l=true→f∈l→(isName f.name=true∧dS f.vars=true∧dS f.fin=true∧Pm.fD f.params=true)∧∃ n,(Sm.iD 1 n f.body).1=true
 |g::l,n,h,m=>by
  simp only[Pc.fK]at h
  split at h
  ·cases h
  rename_i c1
  split at h
  ·cases h
  rename_i c2
  split at h
  ·cases h
  rename_i c3
  simp only[Bool.or_eq_true,Bool.not_eq_true',not_or,Bool.not_eq_false]at c1 c2 c3
  rcases List.mem_cons.1 m with rfl|m
  ·exact⟨⟨c1.1.1.2,c1.1.2,c1.2,c2⟩,n,c3⟩
  ·exact JI h m
mutual
theorem Tk : ∀ (s:Sm) (nest:Int) (n:Nat),(Sm.rm nest n s).1=true→s.size<4611686018427387000→s.yD
 |⟨id,kind,labels,name,proc,x,has,args,aM,aL⟩,nest,n,hm,hs=>by
  obtain⟨_,_,h1,h2,h3,_⟩:=JH hm
  rw[FY]
  rw[(vB h2).2]at h2
  rw[(vB h3).2]at h3
  refine⟨Nd h1 hs,wR aM _ _ h2 ?_,wR aL _ _ h3 ?_⟩<;>simp only[Sm.size]at hs<;>omega
theorem wR : ∀ (l:List Sm) (nest:Int) (n:Nat),(Sm.fK nest n l).1=true→Sm.a7 l<4611686018427387000→Sm.ly l
 | [],_,_,_,_=>by simp only[Sm.ly]
 |s::l,nest,n,hm,hs=>by
  simp only[Sm.fK]at hm
  simp only[Sm.a7]at hs
  split at hm
  ·cases hm
  rename_i hc
  simp only[Bool.not_eq_true',Bool.not_eq_false]at hc
  exact⟨Tk s nest n hc (by omega),wR l nest _ hm (by omega)⟩
end
theorem JK {p:Pg} (h:p.may=true) (hs:p.size<4611686018427387000):p.LF:=by
 have hf:=Za h hs
 rw[← AN]at h
 unfold Pg.IQ at h
 split at h
 ·cases h
 refine⟨hf.sz,hf.rl,hf.mQ,fun f m=>?_⟩
 obtain⟨_,n,e⟩:=JI h m
 rw[(vB e).2]at e
 have:=Pc.da m
 simp only[Pg.size]at hs
 exact wR f.body 1 n e (by unfold Pc.size at this;omega)
def It.swap (a b:aF) (i:It):It:=⟨i.s.swap a b,i.deep,i.cG,i.aL⟩
mutual
def Sm.iE:Sm→Nat
 |⟨_,_,_,_,_,_,_,_,aM,aL⟩=>1+Sm.fR aM+Sm.fR aL
def Sm.fR:List Sm→Nat
 | []=>0
 |s::l=>s.iE+Sm.fR l
end
structure Im where
 s:Sm
 proc:Int
 up:Int
 next:Int
 loop:Int
mutual
def Im.one (proc up next loop:Int) (out:List Im):Sm→List Im
 | ⟨id,kind,labels,name,pc,x,has,args,aM,aL⟩=>
  Im.rows proc ((out.length:Int)+1) (if kind==6 then(out.length:Int)+1 else next) (if kind==6 then(out.length:Int)+1 else loop)
   (Im.rows proc ((out.length:Int)+1) (if kind==6 then(out.length:Int)+1 else next) (if kind==6 then(out.length:Int)+1 else loop) (out++ [⟨⟨id,kind,labels,name,pc,x,has,args,aM,aL⟩,proc,up,next,loop⟩]) aM) aL
def Im.rows (proc up next loop:Int) (out:List Im):List Sm→List Im
 | []=>out
 |s::l=>Im.rows proc up next loop (Im.one proc up (if l.length=0 then next else(out.length:Int)+1+(s.iE:Int)) loop out s) l
end
theorem Im.agY (proc up next loop:Int) (out:List Im) (s:Sm):Im.one proc up next loop out s =
 Im.rows proc ((out.length:Int)+1) (if s.kind==6 then(out.length:Int)+1 else next) (if s.kind==6 then(out.length:Int)+1 else loop)
  (Im.rows proc ((out.length:Int)+1) (if s.kind==6 then(out.length:Int)+1 else next) (if s.kind==6 then(out.length:Int)+1 else loop) (out++ [⟨s,proc,up,next,loop⟩]) s.aM) s.aL:=by
 cases s;simp only[Im.one]
mutual
theorem ado (proc up next loop:Int) (out:List Im) : ∀ s:Sm,(Im.one proc up next loop out s).length=out.length+s.iE
 |⟨id,kind,labels,name,pc,x,has,args,aM,aL⟩=>by
  simp only[Im.one,Sm.iE]
  rw[iK,iK]
  simp only[List.length_append,List.length_cons,List.length_nil];omega
theorem iK (proc up next loop:Int) (out:List Im) : ∀ l:List Sm,(Im.rows proc up next loop out l).length=out.length+Sm.fR l
 | []=>rfl
 |s::l=>by
  simp only[Im.rows,Sm.fR]
  rw[iK,ado];omega
end
mutual
theorem FZ : ∀ s:Sm,s.iE≤s.size
 |⟨_,_,labels,_,_,x,_,args,aM,aL⟩=>by
  have:=oR aM;have:=oR aL
  simp only[Sm.iE,Sm.size];omega
theorem oR : ∀ l:List Sm,Sm.fR l≤Sm.a7 l
 | []=>Nat.le_refl _
 |s::l=>by
  have:=FZ s;have:=oR l
  simp only[Sm.fR,Sm.a7];omega
end
structure Sh where
 L:List Im
 lo:List Int
 hi:List Int
def Sh.go (i:Nat) (h:Sh):List Pc→Sh
 | []=>h
 |f::l=>Sh.go (i+1) ⟨Im.rows i 0 (-1) 0 h.L f.body,h.lo++ [(h.L.length:Int)+1],h.hi++ [((Im.rows i 0 (-1) 0 h.L f.body).length:Int)+1]⟩ l
def Pg.bc (p:Pg):Sh:=Sh.go 0 ⟨[],[],[]⟩ p.procs
theorem aE.CF {P:Program} {f:Nat} {args:List D} {s0 s:St} {o off n m:Nat} {row:List D} (h:aE P f args s0 (.ptr o off) s) (ho:s.ah[o]? = some row) (hn:s0.ah.length≤n) (Ci:n≤o) (hm:s0.ay.length≤m) :
 aE P f args s0 (.dN (D.gT n m row) off) (s.cut n m):=by
 intro M0 w0 gh r0 kD Ze ha
 refine(h M0 w0 gh r0 kD Ze ha).mono ?_
 rintro en w ⟨M,d,v0,s',rfl,⟨rfl,rfl⟩,e,r,hv⟩
 have Ab:=hv.CQ
 have se:v0 = .pointer (some ⟨M.mu o,off,none⟩):=hv.ug.1
 have xH:o<s'.ah.length:=(List.getElem?_eq_some_iff.1 ho).1
 obtain⟨vs,T,hh,dO,⟨gD,_⟩,jz⟩:=r.obj o row ho
 replace hh:w.heap[M.mu o]? = some (.cells vs T (0,0)):=hh.cells Ab
 let M':Map:= {M with G:=fun b q=>if b=M.mu o then vs[q]? else M.G b q}
 have VZ : ∀ q,M.G (M.mu o) q=none:=r.jX o xH
 have le:Le M s' M' s':=⟨fun b q v hq=>by
  show(if b=M.mu o then vs[q]? else M.G b q)=some v
  by_cases hb:b=M.mu o
  ·subst hb;rw[VZ]at hq;cases hq
  ·rw[if_neg hb];exact hq,Nat.le_refl _,fun _ _=> .refl _,Nat.le_refl _,fun t n' _ e=>⟨n',e,Nat.le_refl _,fun _=>rfl⟩⟩
 have hD : ∀ q,q<(s'.cut n m).ah.length→q<s'.ah.length∧q≠o:=fun q h=>by rw[lF]at h;omega
 have u5:w0.heap.size≤M.mu o:=e.rY o (.inl (by omega)) xH
 have ec:=e.cut hn hm
 have V0:Le M (s'.cut n m) M' (s'.cut n m):=⟨le.G,Nat.le_refl _,fun _ _=> .refl _,Nat.le_refl _,fun t n' _ e=>⟨n',e,Nat.le_refl _,fun _=>rfl⟩⟩
 have rc:=r.cut n m
 have mF : ∀ b,b≠M.mu o→∀ q,M'.G b q=M.G b q:=fun b hb q=>if_neg hb
 refine⟨M',_,v0,_,rfl,⟨rfl,rfl⟩,⟨ec.le.trans V0,ec.kept,ec.rY,ec.qY,fun b q fm=>?_,ec.size,ec.os,ec.tape,ec.output⟩,⟨fun b q v hq=>?_,fun q ds hq=>?_,fun q hq sb=>?_,rc.inj,fun t n' Jr=>?_,rc.fy,rc.gL⟩, ?_⟩
 ·by_cases hb:b=M.mu o
  ·subst hb;exact .inl u5
  ·rw[mF b hb]at fm;exact ec.rZ b q fm
 ·have kW:(if b=M.mu o then vs[q]? else M.G b q)=some v:=hq
  by_cases hb:b=M.mu o
  ·rw [if_pos hb]at kW
   rw[hb,jo hh]
   exact⟨kW,gD v (Array.mem_of_getElem? kW)⟩
  ·rw [if_neg hb]at kW
   exact r.comm b q v kW
 ·obtain⟨gb,T',h3,h4,h5,h6⟩:=rc.obj q ds hq
  exact⟨gb,T',h3,h4,h5,fun i d v e1 e2=>(h6 i d v e1 e2).mono V0⟩
 ·obtain⟨h3,h4⟩:=hD q hq
  show M'.G (M.mu q) sb=none
  rw[mF _ (fun e=>h4 (r.inj q o h3 xH e))]
  exact r.jX q h3 sb
 ·rcases rc.tok t n' Jr with h3 | ⟨b,cap,z,gb,T',h3,h4,h5,h6,h7⟩
  ·exact .inl h3
  ·refine .inr ⟨b,cap,z,gb,T',h3,h4,h5,h6,fun sb Bp=> ?_,h7.2⟩
   rw[mF _ (fun e=>r.fy t b cap z o (xm ⟨n',Jr⟩) h3 xH e.symm)]
   exact h7.1 sb Bp
 ·rw [se]
  have:=RD.dN (M:=M') (s:=s'.cut n m) (D.gT n m row) off (M.mu o) 0 (fun i d e1=>?_) (fun i d u e1 eu=>?_)
  ·simpa using this
  ·rw [lM,List.getElem?_map,Option.map_eq_some_iff]at e1
   obtain⟨d0,e1,rfl⟩:=e1
   have hi:=(List.getElem?_eq_some_iff.1 e1).1
   refine⟨vs[i]'(by omega), ?_⟩
   show(if M.mu o=M.mu o then vs[0+i]? else _)=_
   rw[if_pos rfl,Nat.zero_add]
   exact Array.getElem?_eq_getElem _
  ·rw [lM,List.getElem?_map,Option.map_eq_some_iff]at e1
   obtain⟨d0,e1,rfl⟩:=e1
   have Cj:(if M.mu o=M.mu o then vs[0+i]? else M.G (M.mu o) (0+i))=some u:=eu
   rw[if_pos rfl,Nat.zero_add]at Cj
   exact((jz i d0 u e1 Cj).fg n m).mono V0
theorem aE.goK {P:Program} {f:FuncId} {res:List (Nat×Option (Bool×Nat))} {body:AC} {args:List D} {s:St} {d:D} {s':St} {nt:Nat} (n m:Nat) (hn:s.ah.length≤n) (hm:s.ay.length≤m) (h0:Has P f nt res body) (hl:Nat.ble args.length nt=true)
 (h : ∀ (B:gN) (Q:Exit→Tm→St→Prop),B.s=s→rf n m res d s'=Q→jJ P B nt body Q (nV 0 args) s):aE P f args s d s':=by
 obtain⟨fn,hf,hc⟩:=h0
 refine bW.K4 (bW.intro (Q:=fun d1 s1=>Wk d1 d∧gY s1.ah s'.ah∧s1.ay=s'.ay) hf hc (Nat.le_of_ble_eq_true hl) fun B hB=>(jt (h B _ hB rfl)).mono fun e tm s1 hr=>?_) fun d1 s1 ⟨h1,h2,h3⟩=>⟨d,s',h1,h2,h3,rfl,rfl⟩
 subst hB
 cases e with
 |normal=>obtain⟨l,h1,h2,h3,h4⟩:=hr;exact⟨l,h1,_,_,hn,hm,h2,h3,h4⟩
 |ret=>obtain⟨l,h1,h2,h3,h4⟩:=hr;exact⟨l,h1,_,_,hn,hm,h2,h3,h4⟩
 |exit id=>exact hr.elim
 |goto l=>exact hr.elim
 |panic ch=>exact hr.elim
 |outgrown=>exact hr.elim
def dM (i:Im):List D:= [.int .i64 i.s.id, .int .i64 i.s.kind, .slice .shared 1 (i.s.labels.map encStr), .str i.s.name, .str i.s.proc,
 .int .i64 i.s.x.op, .int .i64 i.s.x.n, .str i.s.x.name, .slice .shared 4 (i.s.x.kids.map bQ), .bool i.s.has, .slice .shared 6 (i.s.args.map eR), .slice .shared 13 (i.s.aM.map aS), .slice .shared 13 (i.s.aL.map aS), .int .i64 i.proc, .int .i64 i.up, .int .i64 i.next, .int .i64 i.loop]
def cq (n:Int):List D:= [.int .i64 n]
theorem Tl (i:Im):D.bK 0 0 (dM i)=true:=by simp[dM,D.bK,D.ok,Tag.ok,fe,aa7,K6,nz]
theorem LG (l:List Im):D.jd 0 0 (l.map dM)=true:=jg Tl l
theorem abJ (n m:Nat) (l:List Im):D.lC n m (l.map dM)=l.map dM:=mZ Tl n m l
theorem akV (n m:Nat) (i:Im):D.gT n m (dM i)=dM i:=iX n m _ (Tl i)
theorem akW (x:Im):(dM x).length=17:=nd rfl
theorem adp (x:Im):List.take 17 (dM x)=dM x:=nd rfl
theorem agZ (x:Im):List.drop 17 (dM x) = []:=nd rfl
theorem ag0 (x:Im):List.take 13 (dM x)=aS x.s:=by simp only[dM,dL];rfl
theorem Zf (x:Im):(dM x)[0]? = some (.int .i64 x.s.id):=nd rfl
theorem Zg (x:Im):(dM x)[1]? = some (.int .i64 x.s.kind):=nd rfl
theorem Zh (x:Im):(dM x)[4]? = some (.str x.s.proc):=nd rfl
theorem V1 (x:Im):(dM x)[13]? = some (.int .i64 x.proc):=nd rfl
theorem V2 (x:Im):(dM x)[14]? = some (.int .i64 x.up):=nd rfl
theorem V3 (x:Im):(dM x)[15]? = some (.int .i64 x.next):=nd rfl
theorem V4 (x:Im):(dM x)[16]? = some (.int .i64 x.loop):=nd rfl
theorem Tn (s:Sm) (a b c d:Int):dM ⟨s,a,b,c,d⟩ = [.int .i64 s.id, .int .i64 s.kind, .slice .shared 1 (s.labels.map encStr), .str s.name, .str s.proc,
 .int .i64 s.x.op, .int .i64 s.x.n, .str s.x.name, .slice .shared 4 (s.x.kids.map bQ), .bool s.has, .slice .shared 6 (s.args.map eR), .slice .shared 13 (s.aM.map aS), .slice .shared 13 (s.aL.map aS), .int .i64 a, .int .i64 b, .int .i64 c, .int .i64 d]:=nd rfl
theorem abK (n:Int):D.bK 0 0 (cq n)=true:=rfl
theorem kL (l:List Int):D.jd 0 0 (l.map cq)=true:=jg abK l
theorem V5 (n m:Nat) (l:List Int):D.lC n m (l.map cq)=l.map cq:=mZ abK n m l
attribute [go_sem] abJ akV akW adp agZ ag0 Zf Zg Zh V1 V2 V3 V4 V5 cq
theorem ag1 : ∀ n,n<1000000000→∀ v:Sm,v.size≤n→aE Tryz.prog nO [.agg (aS v)] S0 (.int .i64 (v.iE:Int)) S0:=by
 intro n
 induction n with
 |zero=>intro _ v h;obtain⟨_,_,_,_,_,_,_,_,_,_⟩:=v;simp only[Sm.size]at h;omega
 |succ n ih=>
 intro hn v hv
 have dO:Sm.a7 v.aM≤n∧Sm.a7 v.aL≤n∧v.iE=1+Sm.fR v.aM+Sm.fR v.aL:=by
  obtain⟨_,_,_,_,_,_,_,_,_,_⟩:=v
  simp only[Sm.size]at hv;exact⟨by dsimp only;omega,by dsimp only;omega,rfl⟩
 obtain⟨h1,h2,h3⟩:=dO
 have c1:=oR v.aM
 have c2:=oR v.aL
 have l1:=Sm.dJ v.aM
 have l2:=Sm.dJ v.aL
 have hk : ∀ y,y∈v.aM∨y∈v.aL→∀ s,aE Tryz.prog nO [.agg (aS y)] s (.int .i64 (y.iE:Int)) s:=fun y hy s=>
  (ih (by omega) y (by rcases hy with hy|hy<;>(have:=Sm.da hy;omega))).pure (by simp only[D.bK,D.ok,pI];rfl) rfl s
 rw[h3]
 unfold S0
 refine aE.go KK rfl fun B Q hB hQ=>?_
 have⟨hD,gA,gB,gC⟩:=cd
 repeat' (first
 |simp only[go_sem,hD,gA,gB,gC]
 |(with_reducible refine aD hQ ?_;exact bx))
 refine fj 1 0 (bl.ind (ι:=List Sm×Nat×Nat) (fun i=>v.aM.drop i.2.1=i.1∧i.2.2+Sm.fR i.1=1+Sm.fR v.aM) (fun i=>i.1.length)
  (fun i=> [(1, .ptr 0 0),(3, .int .i64 (i.2.2:Int)),(9, .slice .shared 13 (v.aM.map aS)),(10, .int .i64 (v.aM.length:Int)),(11, .int .i64 (i.2.1:Int))]) (fun i=>⟨[aS v],[]⟩) ?_ (v.aM,0,1) ⟨rfl,rfl⟩)
 rintro⟨rest,k,c⟩ ⟨g1,g2⟩ IH
 dsimp only at g1 g2
 cases rest with
 |cons y rest=>
  obtain⟨gA,g3,hD,g4⟩:=drop_cons g1
  have hy:=hk y (.inl (List.mem_of_getElem? gA))
  simp only[Sm.fR]at g2
  have JL:=FZ y
  have E3:=Sm.da (List.mem_of_getElem? gA)
  have w1:IntKind.wrap .i64 ((k:Int)+1)=((k+1:Nat):Int):=by rw[eD]<;>omega
  have w2:IntKind.wrap .i64 ((c:Int)+(y.iE:Int))=((c+y.iE:Nat):Int):=by rw[eD]<;>omega
  repeat' (first
 |simp only[go_sem,hD,gA,gB,gC,w1,w2]
 |(with_reducible refine CU (hy _) ?_)
 |(with_reducible refine aD hQ ?_;exact bx))
  refine fj 1 0 (IH (rest,k+1,c+y.iE) ⟨g3,by dsimp only;omega⟩ (Nat.lt_succ_self _))
 |nil=>
  have hD:=drop_nil g1
  simp only[Sm.fR,Nat.add_zero]at g2
  subst g2
  repeat' (first
 |simp only[go_sem,hD,gA,gB,gC]
 | (with_reducible refine aD hQ ?_;exact bx))
  refine fj 1 0 (bl.ind (ι:=List Sm×Nat×Nat) (fun i=>v.aL.drop i.2.1=i.1∧i.2.2+Sm.fR i.1=1+Sm.fR v.aM+Sm.fR v.aL) (fun i=>i.1.length)
   (fun i=> [(1, .ptr 0 0),(3, .int .i64 (i.2.2:Int)),(21, .slice .shared 13 (v.aL.map aS)),(22, .int .i64 (v.aL.length:Int)),(23, .int .i64 (i.2.1:Int))]) (fun i=>⟨[aS v],[]⟩) ?_ (v.aL,0,1+Sm.fR v.aM) ⟨rfl,rfl⟩)
  rintro⟨rest,k,c⟩ ⟨g1,g2⟩ IH
  dsimp only at g1 g2
  cases rest with
  |cons y rest=>
   obtain⟨gA,g3,hD,g4⟩:=drop_cons g1
   have hy:=hk y (.inr (List.mem_of_getElem? gA))
   simp only[Sm.fR]at g2
   have JL:=FZ y
   have E3:=Sm.da (List.mem_of_getElem? gA)
   have w1:IntKind.wrap .i64 ((k:Int)+1)=((k+1:Nat):Int):=by rw[eD]<;>omega
   have w2:IntKind.wrap .i64 ((c:Int)+(y.iE:Int))=((c+y.iE:Nat):Int):=by rw[eD]<;>omega
   repeat' (first
 |simp only[go_sem,hD,gA,gB,gC,w1,w2]
 |(with_reducible refine CU (hy _) ?_)
 | (with_reducible refine aD hQ ?_;exact bx))
   refine fj 1 0 (IH (rest,k+1,c+y.iE) ⟨g3,by dsimp only;omega⟩ (Nat.lt_succ_self _))
  |nil=>
   have hD:=drop_nil g1
   simp only[Sm.fR,Nat.add_zero]at g2
   subst g2
   repeat' (first
 |simp only[go_sem,hD,gA,gB,gC]
 |(with_reducible refine aD hQ ?_;exact bx))
theorem ag2 {v:Sm} (h:v.size<1000000000) (s:St):aE Tryz.prog nO [.agg (aS v)] s (.int .i64 (v.iE:Int)) s:=
 (ag1 v.size h v (Nat.le_refl _)).pure (by simp only[D.bK,D.ok,pI];rfl) rfl s
end Go.Abs
namespace Go.Abs
set_option maxRecDepth 8000
open Go.Proofs
abbrev jF (g ps:D) (L:List Im) (lo hi:List Int):List D:= [g,ps, .slice (.tok 0) 17 (L.map dM), .slice (.tok 1) 1 (lo.map cq), .slice (.tok 2) 1 (hi.map cq)]
abbrev Zi (proc up next loop:Int):List D:= [.int .i64 0, .int .i64 0, .slice .full 0 [], .str [], .str [], .int .i64 0, .int .i64 0, .str [], .slice .full 0 [], .bool false, .slice .full 0 [], .slice .full 0 [], .slice .full 0 [], .int .i64 proc, .int .i64 up, .int .i64 next, .int .i64 loop]
theorem aE.akX {P:Program} {f:Nat} {args:List D} {g ps:D} {L L':List Im} {lo hi Jo iV:List Int} {a b c a' b' c':Option Nat}
 (h:aE P f (.ptr 0 0::args) ⟨[jF g ps L lo hi],[a,b,c]⟩ (.tuple []) ⟨[jF g ps L' Jo iV],[a',b',c']⟩)
 (ha:D.bK 0 0 args=true) (hg:D.ok 0 0 g=true) (hp:D.ok 0 0 ps=true)
 {s:St} {o:Nat} (ho:s.ah[o]? = some (jF g ps L lo hi)) (ht:s.ay = [a,b,c]):aE P f (.ptr o 0::args) s (.tuple []) ⟨s.ah.set o (jF g ps L' Jo iV),[a',b',c']⟩:=by
 have hr : ∀ (L:List Im) (lo hi:List Int),D.eQ [o] [0,1,2] (jF g ps L lo hi)=jF g ps L lo hi:=fun L lo hi=>by
  simp[D.eQ,D.cJ,Tag.cJ,sg _ _ _ hg,sg _ _ _ hp,jT _ _ _ (LG L),jT _ _ _ (kL lo),jT _ _ _ (kL hi)]
 have hk : ∀ (L:List Im) (lo hi:List Int),D.bK 1 3 (jF g ps L lo hi)=true:=fun L lo hi=>by
  simp[D.bK,D.ok,Tag.ok,Iw (Nat.zero_le 1) (Nat.zero_le 3) _ hg,Iw (Nat.zero_le 1) (Nat.zero_le 3) _ hp,nL (Nat.zero_le 1) (Nat.zero_le 3) _ (LG L),nL (Nat.zero_le 1) (Nat.zero_le 3) _ (kL lo),nL (Nat.zero_le 1) (Nat.zero_le 3) _ (kL hi)]
 refine bW.frame [o] [0,1,2] h (by simp) (by decide) (by simpa using (List.getElem?_eq_some_iff.1 ho).1) (by rw[ht];simp) rfl (fun i o' ds e1 e2=>?_) rfl (fun i t' e1=>?_)
  (by simp[D.eQ,D.cJ,fL _ _ _ ha])
  (by simp[D.bK,D.ok,jk (Nat.zero_le 1) (Nat.zero_le 3) _ ha]) ?_
 ·cases i with
  |zero=>simp only[List.getElem?_cons_zero,Option.some.injEq]at e1 e2;subst e1;subst e2;exact⟨by rw[hr];exact ho,hk L lo hi⟩
  |succ i=>simp at e1
 ·rw [ht]
  match i,e1 with
  | 0,e1=>simp at e1;subst e1;rfl
  | 1,e1=>simp at e1;subst e1;rfl
  | 2,e1=>simp at e1;subst e1;rfl
  |i+3,e1=>simp at e1
 ·rintro _ _ ⟨rfl,rfl⟩
  refine⟨by simp[D.back,D.cJ,D.eQ], ?_⟩
  have:=hr L' Jo iV
  simp[St.back,lk,kv,this,ht]
abbrev abL (N:Nat):Prop:=∀ (l:List Sm) (proc up next loop:Int) (out:List Im) (g ps:D) (lo hi:List Int) (b c:Option Nat),Sm.a7 l<N→out.length+Sm.fR l<1000000000→D.ok 0 0 g=true→D.ok 0 0 ps=true→
 ∀ {s:St} {o:Nat},s.ah[o]? = some (jF g ps out lo hi)→s.ay = [some out.length,b,c]→
 aE Tryz.prog kR [.ptr o 0, .slice .shared 13 (l.map aS), .agg (Zi proc up next loop)] s (.tuple []) ⟨s.ah.set o (jF g ps (Im.rows proc up next loop out l) lo hi),[some (Im.rows proc up next loop out l).length,b,c]⟩
theorem akY {N:Nat} (ih:abL N) {l:List Sm} {proc up next loop:Int} {out:List Im} {g ps:D} {lo hi:List Int} {b c:Option Nat} (hs:Sm.a7 l<N+1) (hc:out.length+Sm.fR l<1000000000) (hg:D.ok 0 0 g=true) (hp:D.ok 0 0 ps=true) (hN:N<1000000000) :
 aE Tryz.prog kR [.ptr 0 0, .slice .shared 13 (l.map aS), .agg (Zi proc up next loop)] ⟨[jF g ps out lo hi],[some out.length,b,c]⟩ (.tuple []) ⟨[jF g ps (Im.rows proc up next loop out l) lo hi],[some (Im.rows proc up next loop out l).length,b,c]⟩:=by
 obtain⟨R,hR⟩ : ∃ R,R=Im.rows proc up next loop out l:=⟨_,rfl⟩
 have hlR:R.length=out.length+Sm.fR l:=by rw[hR,iK]
 rw[← hR]
 have k1 : ∀ n m,D.fg n m g=g:=fun n m=>SO n m _ hg
 have k2 : ∀ n m,D.fg n m ps=ps:=fun n m=>SO n m _ hp
 refine aE.go Dr rfl fun B Q hB hQ=>?_
 have⟨hD,gA,gB,gC⟩:=cd
 repeat' (first
 |simp only[go_sem,hD,gA,gB,gC,k1,k2]
 |(with_reducible first|refine bg fun hc=>?_|refine bh fun hc=>?_|refine bj (fun hc=>?_) fun hc=>?_)<;>(try simp only[hc,bs,↓reduceIte]at h)<;>try simp only[hc]
 |(with_reducible refine aD hQ ?_;simp only[aT,aV,bD,bE,go_sem,hD,gA,gB,gC,k1,k2];try exact bX))
 refine dW 2 3 ?_ ?_ (bl.ind (ι:=List Sm×Nat×List Im) (fun i=>l.drop i.2.1=i.1∧Im.rows proc up next loop i.2.2 i.1=R∧i.2.2.length+Sm.fR i.1=out.length+Sm.fR l) (fun i=>i.1.length)
  (fun i=> [(0, .ptr 0 0),(1, .slice .shared 13 (l.map aS)),(5, .ptr 1 0),(11, .slice .shared 13 (l.map aS)),(12, .int .i64 (l.length:Int)),(13, .int .i64 (i.2.1:Int))]) (fun i=>⟨[jF g ps i.2.2 lo hi,Zi proc up next loop],[some i.2.2.length,b,c]⟩) ?_ (l,0,out) ⟨rfl,hR.symm,rfl⟩)
 ·(simp only[go_sem,hD,gA,gB,gC,k1,k2];try exact bO)
 ·(simp only[go_sem,hD,gA,gB,gC,k1,k2];try exact bO)
 rintro⟨rest,k,dd⟩ ⟨h1,h2,h3⟩ IH
 dsimp only at h1 h2 h3
 have hlen:l.length<1000000000:=by have:=Sm.dJ l;omega
 cases rest with
 |nil=>
  have hD:=drop_nil h1
  simp only[Im.rows]at h2
  subst h2
  repeat' (first
 |simp only[go_sem,hD,gA,gB,gC,k1,k2]
 |(with_reducible first|refine bg fun hc=>?_|refine bh fun hc=>?_|refine bj (fun hc=>?_) fun hc=>?_)<;>(try simp only[hc,bs,↓reduceIte]at h)<;>try simp only[hc]
 |(with_reducible refine aD hQ ?_;simp only[aT,aV,bD,bE,go_sem,hD,gA,gB,gC,k1,k2];try exact bX))
 | cons v rest=>
  obtain⟨gA,g2,hD,g4⟩:=drop_cons h1
  have cH:k<4611686018427387904:=by omega
  have hv:=Sm.da (List.mem_of_getElem? gA)
  have vl:Sm.a7 v.aM<N∧Sm.a7 v.aL<N∧v.iE=1+Sm.fR v.aM+Sm.fR v.aL:=by
   obtain⟨_,_,_,_,_,_,_,_,_,_⟩:=v
   simp only[Sm.size]at hv
   exact⟨by dsimp only;omega,by dsimp only;omega,rfl⟩
  obtain⟨Ah,Mf,hv3⟩:=vl
  simp only[Sm.fR]at h3
  simp only[Im.rows,Im.agY]at h2
  have gB:(dd.length+1)*241≤bp:=by unfold bp;omega
  have PY:IntKind.wrap .i64 ((dd.length:Int)+1)=(dd.length:Int)+1:=eD (by omega) (by omega)
  have vC:IntKind.wrap .i64 ((k:Int)+1)=((k+1:Nat):Int):=by rw[eD]<;>omega
  have hw3:IntKind.wrap .i64 ((dd.length:Int)+1+(v.iE:Int))=(dd.length:Int)+1+(v.iE:Int):=eD (by omega) (by omega)
  have dO:=fun s=>ag2 (v:=v) (by omega) s
  simp only[dL]at dO
  have xe:rest.length=l.length - (k+1):=by rw[← g2,List.length_drop]
  by_cases aBD:k+1<l.length
  ·have d1:decide (((k+1:Nat):Int)<(l.length:Int))=true:=by simp;omega
   have e1:(rest.length=0)=False:=by simp;intro h;rw[h]at xe;simp at xe;omega
   by_cases V6:v.kind=6
   ·have d2:(v.kind==6)=true:=by simp [V6]
    simp only[e1,d2,↓reduceIte,Bool.false_eq_true]at h2
    have f1:=fun {s:St} {o:Nat}=>@ih v.aM proc ((dd.length:Int)+1) ((dd.length:Int)+1) ((dd.length:Int)+1) (dd++ [⟨v,proc,up,((dd.length:Int)+1+(v.iE:Int)),loop⟩]) g ps lo hi b c Ah (by simp;omega) hg hp s o
    have f2:=fun {s:St} {o:Nat}=>@ih v.aL proc ((dd.length:Int)+1) ((dd.length:Int)+1) ((dd.length:Int)+1) _ g ps lo hi b c Mf (by rw[iK proc ((dd.length:Int)+1) ((dd.length:Int)+1) ((dd.length:Int)+1) (dd++ [⟨v,proc,up,((dd.length:Int)+1+(v.iE:Int)),loop⟩]) v.aM];simp;omega) hg hp s o
    have hl:(Im.rows proc ((dd.length:Int)+1) ((dd.length:Int)+1) ((dd.length:Int)+1) (Im.rows proc ((dd.length:Int)+1) ((dd.length:Int)+1) ((dd.length:Int)+1) (dd++ [⟨v,proc,up,((dd.length:Int)+1+(v.iE:Int)),loop⟩]) v.aM) v.aL).length=dd.length+v.iE:=by rw[iK,iK];simp;omega
    simp only[jF,List.map_append,List.map_cons,List.map_nil,Tn,List.length_append,List.length_cons,List.length_nil]at f1
    repeat' (first
 |simp only[go_sem,hD,gA,gB,gC,k1,k2,PY,vC,hw3,d1,d2,dL]
 |(with_reducible refine CU (dO _) ?_)
 |(with_reducible refine CU (f1 (by with_unfolding_all rfl) (by with_unfolding_all rfl)) ?_)
 |(with_reducible refine CU (f2 (by with_unfolding_all rfl) (by with_unfolding_all rfl)) ?_)
 | (with_reducible refine aD hQ ?_;exact bx))
    refine dW 2 3 ?_ ?_ (IH (rest,k+1,_) ⟨g2,h2,by dsimp only;rw[hl];omega⟩ (Nat.lt_succ_self _))
    ·(simp only[go_sem,hD,gA,gB,gC,vC,k1,k2];try exact bO)
    ·(simp only[go_sem,hD,gA,gB,gC,vC,k1,k2];try exact bO)
   ·have d2:(v.kind==6)=false:=by simp [V6]
    simp only[e1,d2,↓reduceIte,Bool.false_eq_true]at h2
    have f1:=fun {s:St} {o:Nat}=>@ih v.aM proc ((dd.length:Int)+1) ((dd.length:Int)+1+(v.iE:Int)) loop (dd++ [⟨v,proc,up,((dd.length:Int)+1+(v.iE:Int)),loop⟩]) g ps lo hi b c Ah (by simp;omega) hg hp s o
    have f2:=fun {s:St} {o:Nat}=>@ih v.aL proc ((dd.length:Int)+1) ((dd.length:Int)+1+(v.iE:Int)) loop _ g ps lo hi b c Mf (by rw[iK proc ((dd.length:Int)+1) ((dd.length:Int)+1+(v.iE:Int)) loop (dd++ [⟨v,proc,up,((dd.length:Int)+1+(v.iE:Int)),loop⟩]) v.aM];simp;omega) hg hp s o
    have hl:(Im.rows proc ((dd.length:Int)+1) ((dd.length:Int)+1+(v.iE:Int)) loop (Im.rows proc ((dd.length:Int)+1) ((dd.length:Int)+1+(v.iE:Int)) loop (dd++ [⟨v,proc,up,((dd.length:Int)+1+(v.iE:Int)),loop⟩]) v.aM) v.aL).length=dd.length+v.iE:=by rw[iK,iK];simp;omega
    simp only[jF,List.map_append,List.map_cons,List.map_nil,Tn,List.length_append,List.length_cons,List.length_nil]at f1
    repeat' (first
 |simp only[go_sem,hD,gA,gB,gC,k1,k2,PY,vC,hw3,d1,d2,dL]
 |(with_reducible refine CU (dO _) ?_)
 |(with_reducible refine CU (f1 (by with_unfolding_all rfl) (by with_unfolding_all rfl)) ?_)
 |(with_reducible refine CU (f2 (by with_unfolding_all rfl) (by with_unfolding_all rfl)) ?_)
 | (with_reducible refine aD hQ ?_;exact bx))
    refine dW 2 3 ?_ ?_ (IH (rest,k+1,_) ⟨g2,h2,by dsimp only;rw[hl];omega⟩ (Nat.lt_succ_self _))
    ·(simp only[go_sem,hD,gA,gB,gC,vC,k1,k2];try exact bO)
    ·(simp only[go_sem,hD,gA,gB,gC,vC,k1,k2];try exact bO)
  ·have d1:decide (((k+1:Nat):Int)<(l.length:Int))=false:=by simp;omega
   have e1:(rest.length=0)=True:=by simp only[eq_iff_iff,iff_true];omega
   by_cases V6:v.kind=6
   ·have d2:(v.kind==6)=true:=by simp [V6]
    simp only[e1,d2,↓reduceIte,Bool.false_eq_true]at h2
    have f1:=fun {s:St} {o:Nat}=>@ih v.aM proc ((dd.length:Int)+1) ((dd.length:Int)+1) ((dd.length:Int)+1) (dd++ [⟨v,proc,up,next,loop⟩]) g ps lo hi b c Ah (by simp;omega) hg hp s o
    have f2:=fun {s:St} {o:Nat}=>@ih v.aL proc ((dd.length:Int)+1) ((dd.length:Int)+1) ((dd.length:Int)+1) _ g ps lo hi b c Mf (by rw[iK proc ((dd.length:Int)+1) ((dd.length:Int)+1) ((dd.length:Int)+1) (dd++ [⟨v,proc,up,next,loop⟩]) v.aM];simp;omega) hg hp s o
    have hl:(Im.rows proc ((dd.length:Int)+1) ((dd.length:Int)+1) ((dd.length:Int)+1) (Im.rows proc ((dd.length:Int)+1) ((dd.length:Int)+1) ((dd.length:Int)+1) (dd++ [⟨v,proc,up,next,loop⟩]) v.aM) v.aL).length=dd.length+v.iE:=by rw[iK,iK];simp;omega
    simp only[jF,List.map_append,List.map_cons,List.map_nil,Tn,List.length_append,List.length_cons,List.length_nil]at f1
    repeat' (first
 |simp only[go_sem,hD,gA,gB,gC,k1,k2,PY,vC,hw3,d1,d2,dL]
 |(with_reducible refine CU (dO _) ?_)
 |(with_reducible refine CU (f1 (by with_unfolding_all rfl) (by with_unfolding_all rfl)) ?_)
 |(with_reducible refine CU (f2 (by with_unfolding_all rfl) (by with_unfolding_all rfl)) ?_)
 | (with_reducible refine aD hQ ?_;exact bx))
    refine dW 2 3 ?_ ?_ (IH (rest,k+1,_) ⟨g2,h2,by dsimp only;rw[hl];omega⟩ (Nat.lt_succ_self _))
    ·(simp only[go_sem,hD,gA,gB,gC,vC,k1,k2];try exact bO)
    ·(simp only[go_sem,hD,gA,gB,gC,vC,k1,k2];try exact bO)
   ·have d2:(v.kind==6)=false:=by simp [V6]
    simp only[e1,d2,↓reduceIte,Bool.false_eq_true]at h2
    have f1:=fun {s:St} {o:Nat}=>@ih v.aM proc ((dd.length:Int)+1) next loop (dd++ [⟨v,proc,up,next,loop⟩]) g ps lo hi b c Ah (by simp;omega) hg hp s o
    have f2:=fun {s:St} {o:Nat}=>@ih v.aL proc ((dd.length:Int)+1) next loop _ g ps lo hi b c Mf (by rw[iK proc ((dd.length:Int)+1) next loop (dd++ [⟨v,proc,up,next,loop⟩]) v.aM];simp;omega) hg hp s o
    have hl:(Im.rows proc ((dd.length:Int)+1) next loop (Im.rows proc ((dd.length:Int)+1) next loop (dd++ [⟨v,proc,up,next,loop⟩]) v.aM) v.aL).length=dd.length+v.iE:=by rw[iK,iK];simp;omega
    simp only[jF,List.map_append,List.map_cons,List.map_nil,Tn,List.length_append,List.length_cons,List.length_nil]at f1
    repeat' (first
 |simp only[go_sem,hD,gA,gB,gC,k1,k2,PY,vC,hw3,d1,d2,dL]
 |(with_reducible refine CU (dO _) ?_)
 |(with_reducible refine CU (f1 (by with_unfolding_all rfl) (by with_unfolding_all rfl)) ?_)
 |(with_reducible refine CU (f2 (by with_unfolding_all rfl) (by with_unfolding_all rfl)) ?_)
 | (with_reducible refine aD hQ ?_;exact bx))
    refine dW 2 3 ?_ ?_ (IH (rest,k+1,_) ⟨g2,h2,by dsimp only;rw[hl];omega⟩ (Nat.lt_succ_self _))
    ·(simp only[go_sem,hD,gA,gB,gC,vC,k1,k2];try exact bO)
    ·(simp only[go_sem,hD,gA,gB,gC,vC,k1,k2];try exact bO)
theorem adq : ∀ N,N<1000000000→abL N:=by
 intro N
 induction N with
 |zero=>exact fun _ l proc up next loop out g ps lo hi b c h=>absurd h (Nat.not_lt_zero _)
 |succ N ih=>
  intro h l proc up next loop out g ps lo hi b c hs hc hg hp s o ho ht
  exact(akY (ih (by omega)) hs hc hg hp (by omega)).akX (by simp[D.bK,D.ok,Tag.ok,nz,D.jd]) hg hp ho ht
def ga (p:Pg):List D:= [.slice .shared 1 (p.globals.map encStr), .slice .shared 5 (p.procs.map bG), .slice .shared 17 (p.bc.L.map dM), .slice .shared 1 (p.bc.lo.map cq), .slice .shared 1 (p.bc.hi.map cq)]
theorem o9 (p:Pg):ga p = [.slice .shared 1 (p.globals.map encStr), .slice .shared 5 (p.procs.map bG), .slice .shared 17 (p.bc.L.map dM), .slice .shared 1 (p.bc.lo.map cq), .slice .shared 1 (p.bc.hi.map cq)]:=nd rfl
theorem we (p:Pg):D.bK 0 0 (ga p)=true:=by simp[ga,D.bK,D.ok,Tag.ok,fe,yv,LG,kL]
theorem Hp (p:Pg):bJ p = [.slice .shared 1 (p.globals.map encStr), .slice .shared 5 (p.procs.map bG)]:=nd rfl
theorem akZ {p:Pg} (hs:Pc.a7 p.procs<1000000000):aE Tryz.prog lV [.agg (bJ p)] S0 (.ptr 1 0) ⟨[bJ p,jF (.slice .shared 1 (p.globals.map encStr)) (.slice .shared 5 (p.procs.map bG)) p.bc.L p.bc.lo p.bc.hi],[some p.bc.L.length,some p.bc.lo.length,some p.bc.hi.length]⟩:=by
 have hlen:p.procs.length<1000000000:=by have:=Pc.dJ p.procs;omega
 obtain⟨R,hR⟩ : ∃ R,R=p.bc:=⟨_,rfl⟩
 have hR':=hR
 unfold Pg.bc at hR'
 unfold S0
 rw[Hp, ← hR]
 refine aE.goK 2 3 (Nat.zero_le _) (Nat.zero_le _) M3 rfl fun B Q hB hQ=>?_
 have⟨hD,gA,gB,gC⟩:=cd
 repeat' (first
 |simp only[go_sem,hD,gA,gB,gC,Hp]
 |(with_reducible refine aD hQ ?_;exact bx))
 refine bl.ur 1 2 17 rfl rfl ?_
 simp only[go_sem,hD,gA,gB,gC]
 refine bl.ur 1 3 1 rfl rfl ?_
 simp only[go_sem,hD,gA,gB,gC]
 refine bl.ur 1 4 1 rfl rfl ?_
 simp only[go_sem,hD,gA,gB,gC]
 refine dW 2 3 ?_ ?_ (bl.ind (ι:=List Pc×Nat×Sh×Nat×Nat) (fun i=>p.procs.drop i.2.1=i.1∧Sh.go i.2.1 i.2.2.1 i.1=R∧i.2.2.1.L.length+Pc.a7 i.1≤Pc.a7 p.procs∧i.2.2.1.lo.length=i.2.1∧i.2.2.1.hi.length=i.2.1∧i.2.2.2.1=i.2.2.1.lo.length∧i.2.2.2.2=i.2.2.1.hi.length) (fun i=>i.1.length)
  (fun i=> [(1, .ptr 0 0),(3, .ptr 1 0),(10, .slice .shared 5 (p.procs.map bG)),(11, .int .i64 (p.procs.length:Int)),(12, .int .i64 (i.2.1:Int))]) (fun i=>⟨[[.slice .shared 1 (p.globals.map encStr), .slice .shared 5 (p.procs.map bG)],jF (.slice .shared 1 (p.globals.map encStr)) (.slice .shared 5 (p.procs.map bG)) i.2.2.1.L i.2.2.1.lo i.2.2.1.hi],[some i.2.2.1.L.length,some i.2.2.2.1,some i.2.2.2.2]⟩) ?_ (p.procs,0,⟨[],[],[]⟩,0,0) ⟨rfl,hR'.symm,by simp,rfl,rfl,rfl,rfl⟩)
 ·(simp only[go_sem,hD,gA,gB,gC,jF];try exact bO)
 ·(simp only[go_sem,hD,gA,gB,gC,jF];try exact bO)
 rintro⟨rest,k,h,n1,n2⟩ ⟨h1,h2,h3,h4,h5,h6,h7⟩ IH
 dsimp only at h1 h2 h3 h4 h5 h6 h7
 subst h6 h7
 cases rest with
 |nil=>
  have hD:=drop_nil h1
  simp only[Sh.go]at h2
  rw[← h2]at hQ
  repeat' (first
 |simp only[go_sem,hD,gA,gB,gC,jF]
 |(with_reducible refine aD hQ ?_;exact bx))
 |cons f rest=>
  obtain⟨gA,g2,hD,g4⟩:=drop_cons h1
  have cH:k<4611686018427387904:=by omega
  simp only[Pc.a7,Pc.size]at h3
  simp only[Sh.go]at h2
  have c1:=oR f.body
  have gB:(h.lo.length+1)*9≤bp:=by unfold bp;omega
  have atK:(h.hi.length+1)*9≤bp:=by unfold bp;omega
  have PY:IntKind.wrap .i64 ((h.L.length:Int)+1)=(h.L.length:Int)+1:=eD (by omega) (by omega)
  have hl:(Im.rows (k:Int) 0 (-1) 0 h.L f.body).length=h.L.length+Sm.fR f.body:=iK ..
  have vC:IntKind.wrap .i64 (((Im.rows (k:Int) 0 (-1) 0 h.L f.body).length:Int)+1)=((Im.rows (k:Int) 0 (-1) 0 h.L f.body).length:Int)+1:=eD (by omega) (by omega)
  have hr:=fun {s:St} {o:Nat}=>@adq (Sm.a7 f.body+1) (by omega) f.body (k:Int) 0 (-1) 0 h.L (.slice .shared 1 (p.globals.map encStr)) (.slice .shared 5 (p.procs.map bG)) (h.lo++ [(h.L.length:Int)+1]) h.hi (some (h.lo.length+1)) (some h.hi.length) (Nat.lt_succ_self _) (by omega) (by simp[D.ok,Tag.ok,fe]) (by simp[D.ok,Tag.ok,yv]) s o
  simp only[jF,List.map_append,List.map_cons,List.map_nil,cq]at hr
  repeat' (first
 |simp only[go_sem,hD,gA,gB,gC,PY,vC,atK,jF]
 |(with_reducible refine CU (hr (by with_unfolding_all rfl) (by with_unfolding_all rfl)) ?_)
 |(with_reducible refine aD hQ ?_;exact bx))
  refine dW 2 3 ?_ ?_ (IH (rest,k+1,⟨Im.rows (k:Int) 0 (-1) 0 h.L f.body,h.lo++ [(h.L.length:Int)+1],h.hi++ [((Im.rows (k:Int) 0 (-1) 0 h.L f.body).length:Int)+1]⟩,_,_) ⟨g2,h2,by dsimp only;rw[hl];omega,by simp[h4],by simp[h5],by simp,by simp⟩ (Nat.lt_succ_self _))
  ·(simp only[go_sem,hD,gA,gB,gC,jF,aH cH,List.map_append,List.map_cons,List.map_nil,cq];try exact bO)
  ·(simp only[go_sem,hD,gA,gB,gC,jF,aH cH,List.map_append,List.map_cons,List.map_nil,cq];try exact bO)
theorem Ej {p:Pg} (hs:Pc.a7 p.procs<1000000000) (s:St):aE Tryz.prog lV [.agg (bJ p)] s (.dN (ga p) 0) s:=by
 refine aE.pure ?_ (by simp only[D.bK,D.ok,jh];rfl) (by simp only[D.ok,we]) s
 have h:=(akZ hs).CF (n:=0) (m:=0) rfl (Nat.le_refl _) (Nat.zero_le _) (Nat.le_refl _)
 simpa[D.gT,D.fg,Tag.fg,MP,aa8,abJ,V5,St.cut,ga,S0]using h
def ja (x:aF) (k:Int):List aF→Int
 | []=> -1
 |s::l=>if x==s then k else ja x (k+1) l
def fv (l:List aF) (x:aF):Bool:=decide (ja x 0 l≥0)
def lY {α:Type} (b:α→Bool) (k:Int):List α→Int
 | []=> -1
 |s::l=>if b s then k else lY b (k+1) l
theorem PZ (x:aF) : ∀ (l:List aF) (k:Int),0≤k→(ja x k l≥0↔x∈l)
 | [],k,h=>by simp[ja]
 | s::l,k,h=>by
  by_cases e:x=s
  ·simp[ja,e];omega
  ·have e':(x==s)=false:=by simp [e]
   simp only[ja,e',Bool.false_eq_true,if_false,List.mem_cons,e,false_or]
   exact PZ x l (k+1) (by omega)
theorem gJ (l:List aF) (x:aF):fv l x=true↔x∈l:=by
 simp only[fv,decide_eq_true_eq];exact PZ x l 0 (Int.le_refl 0)
theorem IS {α:Type} (b:α→Bool) : ∀ (l:List α) (k:Int),0≤k→(lY b k l≥0↔l.any b=true)
 | [],k,h=>by simp[lY]
 | s::l,k,h=>by
  by_cases e:b s=true
  ·simp[lY,e];omega
  ·have e':b s=false:=by simpa using e
   simp only[lY,e',Bool.false_eq_true,if_false,List.any_cons,Bool.or_eq_true,false_or]
   exact IS b l (k+1) (by omega)
theorem Ek {l:List aF} (hl:l.length<4611686018427387904) (x:aF) (s:St):aE Tryz.prog gU [.slice .shared 1 (l.map encStr), .str x] s (.int .i64 (ja x 0 l)) s:=by
 refine aE.pure ?_ (by simp[D.bK,D.ok,Tag.ok,fe]) rfl s
 generalize h:ja x 0 l=p
 unfold S0
 refine aE.go x9 rfl fun B Q hB hQ=>?_
 have⟨hD,gA,gB,gC⟩:=cd
 repeat' (first
 |simp only[go_sem,hD,gA,gB,gC]
 |(with_reducible first|refine bg fun hc=>?_|refine bh fun hc=>?_|refine bj (fun hc=>?_) fun hc=>?_)<;>(try simp only[hc,bs,↓reduceIte]at h)<;>try simp only[hc]
 |(with_reducible refine aD hQ ?_;exact fM))
 refine fj 0 0 (bl.ind (ι:=List aF×Nat) (fun i=>l.drop i.2=i.1∧ja x (i.2:Int) i.1=p) (fun i=>i.1.length)
  (fun i=> [(0, .slice .shared 1 (l.map encStr)),(1, .str x),(7, .int .i64 (l.length:Int)),(8, .int .i64 (i.2:Int))]) (fun i=>⟨[],[]⟩) ?_ (l,0) ⟨rfl,h⟩)
 rintro⟨rest,k⟩ ⟨h1,h⟩ IH
 dsimp only at h1 h
 cases rest with
 |nil=>
  have hD:=drop_nil h1
  simp only[ja]at h
  repeat' (first
 |simp only[go_sem,hD,gA,gB,gC]
 |(with_reducible first|refine bg fun hc=>?_|refine bh fun hc=>?_|refine bj (fun hc=>?_) fun hc=>?_)<;>(try simp only[hc,bs,↓reduceIte]at h)<;>try simp only[hc]
 |(with_reducible refine aD hQ ?_;exact fM))
 |cons a rest=>
  obtain⟨gA,g2,hD,g4⟩:=drop_cons h1
  have cH:k<4611686018427387904:=by omega
  simp only[ja]at h
  repeat' (first
 |simp only[go_sem,hD,gA,gB,gC]
 |(with_reducible first|refine bg fun hc=>?_|refine bh fun hc=>?_|refine bj (fun hc=>?_) fun hc=>?_)<;>(try simp only[hc,bs,↓reduceIte]at h)<;>try simp only[hc]
 |(with_reducible refine aD hQ ?_;exact fM))
  refine dW 0 0 ?_ ?_ (IH (rest,k+1) ⟨g2,h⟩ (Nat.lt_succ_self _))
  ·(simp only[go_sem,hD,gA,gB,gC,aH cH];try exact bO)
  ·(simp only[go_sem,hD,gA,gB,gC,aH cH];try exact bO)
theorem tB {l:List aF} (hl:l.length<4611686018427387904) (x:aF) (s:St):aE Tryz.prog cQ [.slice .shared 1 (l.map encStr), .str x] s (.bool (fv l x)) s:=by
 refine aE.pure ?_ (by simp[D.bK,D.ok,Tag.ok,fe]) rfl s
 have hi:=fun s=>Ek hl x s
 unfold S0
 refine aE.go wa rfl fun B Q hB hQ=>?_
 have⟨hD,gA,gB,gC⟩:=cd
 repeat' (first
 |simp only[go_sem,hD,gA,gB,gC,fv]
 |(with_reducible refine CU (hi _) ?_)
 |(with_reducible first|refine bg fun hc=>?_|refine bh fun hc=>?_|refine bj (fun hc=>?_) fun hc=>?_)<;>(try simp only[hc,bs,↓reduceIte]at h)<;>try simp only[hc]
 |(with_reducible refine aD hQ ?_;simp only[aT,aV,bD,bE,go_sem,hD,gA,gB,gC,fv];try exact bX))
theorem aE.wk1 {P:Program} {f:Nat} {d d':D} {r:List D} {s s':St} {x:D} (h:aE P f (d'::r) s x s') (hw:Wk d d'):aE P f (d::r) s x s':=bW.o5 (.cons hw (j9.refl r)) h
theorem km {l:List aF} (hl:l.length<4611686018427387904) (x:aF) (g:Tag) (s:St):aE Tryz.prog cQ [.slice g 1 (l.map encStr), .str x] s (.bool (fv l x)) s:=
 (tB hl x s).wk1 (Wk.shared _ _ _)
theorem Ng (x:aF) (z:Nat) (g:Tag) (s:St):aE Tryz.prog cQ [.slice g z [], .str x] s (.bool false) s:=
 (tB (l:= []) (by simp) x s).wk1 (Wk.nil _ _ _)
theorem Dw {l:List aF} (hl:l.length<4611686018427387904) {f:Nat} {row:List D} {b:aF→Bool} (wC:D.bK 0 0 row=true) (he:enters Tryz.prog f=true)
 (hb : ∀ x∈l,aE Tryz.prog f ([.str x]++ [.ptr 0 0]) ⟨[row],[]⟩ (.bool (b x)) ⟨[row],[]⟩) :
 aE Tryz.prog lW [.slice .shared 1 (l.map encStr), .ie f [.ptr 0 0]] ⟨[row],[]⟩ (.int .i64 (lY b 0 l)) ⟨[row],[]⟩:=by
 generalize h:lY b 0 l=p
 have k1 : ∀ n m,D.gT n m row=row:=fun n m=>iX n m _ wC
 refine aE.go vy rfl fun B Q hB hQ=>?_
 have⟨hD,gA,gB,gC⟩:=cd
 repeat' (first
 |simp only[go_sem,hD,gA,gB,gC,k1]
 |(with_reducible first|refine bg fun hc=>?_|refine bh fun hc=>?_|refine bj (fun hc=>?_) fun hc=>?_)<;>(try simp only[hc,bs,↓reduceIte]at h)<;>try simp only[hc]
 |(with_reducible refine aD hQ ?_;(try cases h);simp only[aT,aV,bD,bE,go_sem,hD,gA,gB,gC,k1];try exact bX))
 refine dW 1 0 ?_ ?_ (bl.ind (ι:=List aF×Nat) (fun i=>l.drop i.2=i.1∧lY b (i.2:Int) i.1=p) (fun i=>i.1.length)
  (fun i=> [(0, .slice .shared 1 (l.map encStr)),(1, .ie f [.ptr 0 0]),(7, .int .i64 (l.length:Int)),(8, .int .i64 (i.2:Int))]) (fun i=>⟨[row],[]⟩) ?_ (l,0) ⟨rfl,h⟩)
 ·(simp only[go_sem,hD,gA,gB,gC,k1];try exact bO)
 ·(simp only[go_sem,hD,gA,gB,gC,k1];try exact bO)
 rintro⟨rest,k⟩ ⟨h1,h⟩ IH
 dsimp only at h1 h
 cases rest with
 |nil=>
  have hD:=drop_nil h1
  simp only[lY]at h
  repeat' (first
 |simp only[go_sem,hD,gA,gB,gC,k1]
 |(with_reducible first|refine bg fun hc=>?_|refine bh fun hc=>?_|refine bj (fun hc=>?_) fun hc=>?_)<;>(try simp only[hc,bs,↓reduceIte]at h)<;>try simp only[hc]
 |(with_reducible refine aD hQ ?_;(try cases h);simp only[aT,aV,bD,bE,go_sem,hD,gA,gB,gC,k1];try exact bX))
 |cons a rest=>
  obtain⟨gA,g2,hD,g4⟩:=drop_cons h1
  have cH:k<4611686018427387904:=by omega
  have hba:=hb a (List.mem_of_getElem? gA)
  simp only[lY]at h
  repeat' (first
 |simp only[go_sem,hD,gA,gB,gC,k1]
 |(with_reducible refine CV.use (he) (hba) ?_)
 |(with_reducible first|refine bg fun hc=>?_|refine bh fun hc=>?_|refine bj (fun hc=>?_) fun hc=>?_)<;>(try simp only[hc,bs,↓reduceIte]at h)<;>try simp only[hc]
 |(with_reducible refine aD hQ ?_;(try cases h);simp only[aT,aV,bD,bE,go_sem,hD,gA,gB,gC,k1];try exact bX))
  refine dW 1 0 ?_ ?_ (IH (rest,k+1) ⟨g2,h⟩ (Nat.lt_succ_self _))
  ·(simp only[go_sem,hD,gA,gB,gC,k1,aH cH];try exact bO)
  ·(simp only[go_sem,hD,gA,gB,gC,k1,aH cH];try exact bO)
theorem Dx {P:Program} {g f:Nat} {row:List D} {rows:List (List D)} {z:Nat} {d:D} (h:aE P g [.slice .shared z rows, .ie f [.ptr 0 0]] ⟨[row],[]⟩ d ⟨[row],[]⟩) (wC:D.bK 0 0 row=true) (hw:D.jd 0 0 rows=true) (hd:D.ok 0 0 d=true) {s:St} {o:Nat} (ho:s.ah[o]? = some row) :
 aE P g [.slice .shared z rows, .ie f [.ptr o 0]] s d s:=by
 refine bW.frame [o] [] h (by simp) List.nodup_nil (by simpa using (List.getElem?_eq_some_iff.1 ho).1) (by simp) rfl (fun i o' ds e1 e2=>?_) rfl (by simp) (by simp[D.eQ,D.cJ,Tag.cJ,jT _ _ _ hw])
  (by simp[D.bK,D.ok,Tag.ok,nL (Nat.zero_le 1) (Nat.le_refl 0) _ hw]) ?_
 ·cases i with
  |zero=>simp at e1 e2;subst e1;subst e2;exact⟨by rw[fL _ _ _ wC];exact ho,jk (Nat.zero_le 1) (Nat.le_refl 0) _ wC⟩
  |succ i=>simp at e1
 ·rintro _ _ ⟨rfl,rfl⟩
  refine⟨sg _ _ _ hd, ?_⟩
  have:s.ah.set o row=s.ah:=by
   apply List.ext_getElem?
   intro i
   rw[List.getElem?_set]
   split
   ·rename_i e;subst e;rw [ho];split
    ·rfl
    ·rename_i hh;exact absurd (List.getElem?_eq_some_iff.1 ho).1 hh
   ·rfl
  simp[St.back,lk,fL _ _ _ wC,this]
theorem AP {l:List aF} (hl:l.length<4611686018427387904) {f:Nat} {row:List D} {b:aF→Bool} (wC:D.bK 0 0 row=true) (he:enters Tryz.prog f=true)
 (hb : ∀ x∈l,aE Tryz.prog f ([.str x]++ [.ptr 0 0]) ⟨[row],[]⟩ (.bool (b x)) ⟨[row],[]⟩) :
 aE Tryz.prog gV [.slice .shared 1 (l.map encStr), .ie f [.ptr 0 0]] ⟨[row],[]⟩ (.bool (l.any b)) ⟨[row],[]⟩:=by
 have k1 : ∀ n m,D.gT n m row=row:=fun n m=>iX n m _ wC
 have hi:=Dw hl wC he hb
 have e:decide (lY b 0 l≥0)=l.any b:=by
  have:=IS b l 0 (Int.le_refl 0)
  cases hh:l.any b<;>simp_all
 refine aE.go tw rfl fun B Q hB hQ=>?_
 have⟨hD,gA,gB,gC⟩:=cd
 repeat' (first
 |simp only[go_sem,hD,gA,gB,gC,k1,e]
 |(with_reducible refine CU (hi) ?_)
 |(with_reducible first|refine bg fun hc=>?_|refine bh fun hc=>?_|refine bj (fun hc=>?_) fun hc=>?_)<;>(try simp only[hc,bs,↓reduceIte]at h)<;>try simp only[hc]
 |(with_reducible refine aD hQ ?_;simp only[aT,aV,bD,bE,go_sem,hD,gA,gB,gC,k1,e];try exact bX))
theorem AQ {l:List aF} (hl:l.length<4611686018427387904) {f:Nat} {row:List D} {b:aF→Bool} (wC:D.bK 0 0 row=true) (he:enters Tryz.prog f=true)
 (hb : ∀ x∈l,aE Tryz.prog f ([.str x]++ [.ptr 0 0]) ⟨[row],[]⟩ (.bool (b x)) ⟨[row],[]⟩) {s:St} {o:Nat} (ho:s.ah[o]? = some row) :
 aE Tryz.prog gV [.slice .shared 1 (l.map encStr), .ie f [.ptr o 0]] s (.bool (l.any b)) s:=
 Dx (AP hl wC he hb) wC (fe l) rfl ho
theorem xI {l:List Pc} (hl:l.length<4611686018427387904) {f:Nat} {row:List D} {b:Pc→Bool} (wC:D.bK 0 0 row=true) (he:enters Tryz.prog f=true)
 (hb : ∀ x∈l,aE Tryz.prog f ([.agg (bG x)]++ [.ptr 0 0]) ⟨[row],[]⟩ (.bool (b x)) ⟨[row],[]⟩) :
 aE Tryz.prog ij [.slice .shared 5 (l.map bG), .ie f [.ptr 0 0]] ⟨[row],[]⟩ (.int .i64 (lY b 0 l)) ⟨[row],[]⟩:=by
 generalize h:lY b 0 l=p
 have k1 : ∀ n m,D.gT n m row=row:=fun n m=>iX n m _ wC
 refine aE.go tU rfl fun B Q hB hQ=>?_
 have⟨hD,gA,gB,gC⟩:=cd
 repeat' (first
 |simp only[go_sem,hD,gA,gB,gC,k1]
 |(with_reducible first|refine bg fun hc=>?_|refine bh fun hc=>?_|refine bj (fun hc=>?_) fun hc=>?_)<;>(try simp only[hc,bs,↓reduceIte]at h)<;>try simp only[hc]
 |(with_reducible refine aD hQ ?_;(try cases h);simp only[aT,aV,bD,bE,go_sem,hD,gA,gB,gC,k1];try exact bX))
 refine dW 1 0 ?_ ?_ (bl.ind (ι:=List Pc×Nat) (fun i=>l.drop i.2=i.1∧lY b (i.2:Int) i.1=p) (fun i=>i.1.length)
  (fun i=> [(0, .slice .shared 5 (l.map bG)),(1, .ie f [.ptr 0 0]),(7, .int .i64 (l.length:Int)),(8, .int .i64 (i.2:Int))]) (fun i=>⟨[row],[]⟩) ?_ (l,0) ⟨rfl,h⟩)
 ·(simp only[go_sem,hD,gA,gB,gC,k1];try exact bO)
 ·(simp only[go_sem,hD,gA,gB,gC,k1];try exact bO)
 rintro⟨rest,k⟩ ⟨h1,h⟩ IH
 dsimp only at h1 h
 cases rest with
 |nil=>
  have hD:=drop_nil h1
  simp only[lY]at h
  repeat' (first
 |simp only[go_sem,hD,gA,gB,gC,k1]
 |(with_reducible first|refine bg fun hc=>?_|refine bh fun hc=>?_|refine bj (fun hc=>?_) fun hc=>?_)<;>(try simp only[hc,bs,↓reduceIte]at h)<;>try simp only[hc]
 |(with_reducible refine aD hQ ?_;(try cases h);simp only[aT,aV,bD,bE,go_sem,hD,gA,gB,gC,k1];try exact bX))
 |cons a rest=>
  obtain⟨gA,g2,hD,g4⟩:=drop_cons h1
  have cH:k<4611686018427387904:=by omega
  have hba:=hb a (List.mem_of_getElem? gA)
  simp only[lY]at h
  repeat' (first
 |simp only[go_sem,hD,gA,gB,gC,k1]
 |(with_reducible refine CV.use (he) (hba) ?_)
 |(with_reducible first|refine bg fun hc=>?_|refine bh fun hc=>?_|refine bj (fun hc=>?_) fun hc=>?_)<;>(try simp only[hc,bs,↓reduceIte]at h)<;>try simp only[hc]
 |(with_reducible refine aD hQ ?_;(try cases h);simp only[aT,aV,bD,bE,go_sem,hD,gA,gB,gC,k1];try exact bX))
  refine dW 1 0 ?_ ?_ (IH (rest,k+1) ⟨g2,h⟩ (Nat.lt_succ_self _))
  ·(simp only[go_sem,hD,gA,gB,gC,k1,aH cH];try exact bO)
  ·(simp only[go_sem,hD,gA,gB,gC,k1,aH cH];try exact bO)
theorem Cv {l:List Pc} (hl:l.length<4611686018427387904) {f:Nat} {row:List D} {b:Pc→Bool} (wC:D.bK 0 0 row=true) (he:enters Tryz.prog f=true)
 (hb : ∀ x∈l,aE Tryz.prog f ([.agg (bG x)]++ [.ptr 0 0]) ⟨[row],[]⟩ (.bool (b x)) ⟨[row],[]⟩) :
 aE Tryz.prog iR [.slice .shared 5 (l.map bG), .ie f [.ptr 0 0]] ⟨[row],[]⟩ (.bool (l.any b)) ⟨[row],[]⟩:=by
 have k1 : ∀ n m,D.gT n m row=row:=fun n m=>iX n m _ wC
 have hi:=xI hl wC he hb
 have e:decide (lY b 0 l≥0)=l.any b:=by
  have:=IS b l 0 (Int.le_refl 0)
  cases hh:l.any b<;>simp_all
 refine aE.go si rfl fun B Q hB hQ=>?_
 have⟨hD,gA,gB,gC⟩:=cd
 repeat' (first
 |simp only[go_sem,hD,gA,gB,gC,k1,e]
 |(with_reducible refine CU (hi) ?_)
 |(with_reducible first|refine bg fun hc=>?_|refine bh fun hc=>?_|refine bj (fun hc=>?_) fun hc=>?_)<;>(try simp only[hc,bs,↓reduceIte]at h)<;>try simp only[hc]
 |(with_reducible refine aD hQ ?_;simp only[aT,aV,bD,bE,go_sem,hD,gA,gB,gC,k1,e];try exact bX))
mutual
def Sm.pre:Sm→List Sm
 |⟨id,kind,labels,name,pc,x,has,args,aM,aL⟩=>⟨id,kind,labels,name,pc,x,has,args,aM,aL⟩::(Sm.bZ aM++Sm.bZ aL)
def Sm.bZ:List Sm→List Sm
 | []=> []
 |s::l=>s.pre++Sm.bZ l
end
def Pg.pre (p:Pg):List Sm:=(p.procs.map fun f=>Sm.bZ f.body).flatten
theorem Sm.mN (s:Sm):s.pre=s::(Sm.bZ s.aM++Sm.bZ s.aL):=by cases s;simp only[Sm.pre]
mutual
theorem adr (proc up next loop:Int) (out:List Im) : ∀ s:Sm,∃ e:List Im,Im.one proc up next loop out s=out++e∧e.map Im.s=s.pre
 |⟨id,kind,labels,name,pc,x,has,args,aM,aL⟩=>by
  simp only[Im.one,Sm.pre]
  obtain⟨e1,h1,k1⟩:=BF proc ((out.length:Int)+1) (if kind==6 then(out.length:Int)+1 else next) (if kind==6 then(out.length:Int)+1 else loop) (out++ [⟨⟨id,kind,labels,name,pc,x,has,args,aM,aL⟩,proc,up,next,loop⟩]) aM
  obtain⟨e2,h2,k2⟩:=BF proc ((out.length:Int)+1) (if kind==6 then(out.length:Int)+1 else next) (if kind==6 then(out.length:Int)+1 else loop) (Im.rows proc ((out.length:Int)+1) (if kind==6 then(out.length:Int)+1 else next) (if kind==6 then(out.length:Int)+1 else loop) (out++ [⟨⟨id,kind,labels,name,pc,x,has,args,aM,aL⟩,proc,up,next,loop⟩]) aM) aL
  refine⟨⟨⟨id,kind,labels,name,pc,x,has,args,aM,aL⟩,proc,up,next,loop⟩::(e1++e2), ?_, ?_⟩
  ·rw[h2,h1];simp
  ·simp[k1,k2]
theorem BF (proc up next loop:Int) (out:List Im) : ∀ l:List Sm,∃ e:List Im,Im.rows proc up next loop out l=out++e∧e.map Im.s=Sm.bZ l
 | []=>⟨[],by simp[Im.rows],rfl⟩
 |s::l=>by
  simp only[Im.rows,Sm.bZ]
  obtain⟨e1,h1,k1⟩:=adr proc up (if l.length=0 then next else(out.length:Int)+1+(s.iE:Int)) loop out s
  obtain⟨e2,h2,k2⟩:=BF proc up next loop (Im.one proc up (if l.length=0 then next else(out.length:Int)+1+(s.iE:Int)) loop out s) l
  refine⟨e1++e2, ?_,by simp[k1,k2]⟩
  rw[h2,h1];simp
end
theorem V7 : ∀ (l:List Pc) (n:Nat) (h:Sh),h.lo.length=n→h.hi.length=n→
 ∃ e lo hi,Sh.go n h l = ⟨h.L++e,h.lo++lo,h.hi++hi⟩∧e.map Im.s=(l.map fun f=>Sm.bZ f.body).flatten∧lo.length=l.length∧hi.length=l.length∧
  ∀ (i:Nat) (f:Pc),l[i]? = some f→∃ a b e' PA:List Im,lo[i]? = some (((h.L++a).length:Int)+1)∧hi[i]? = some (((h.L++a++b).length:Int)+1)∧b.map Im.s=Sm.bZ f.body∧e=a++b++e'
 | [],n,h,hl,hh=>⟨[],[],[],by simp[Sh.go],rfl,rfl,rfl,fun i f h=>by simp at h⟩
 | f::l,n,h,hl,hh=>by
  simp only[Sh.go]
  obtain⟨e1,h1,k1⟩:=BF (n:Int) 0 (-1) 0 h.L f.body
  obtain⟨e2,lo,hi,h2,k2,h3,h4,h5⟩:=V7 l (n+1) ⟨Im.rows (n:Int) 0 (-1) 0 h.L f.body,h.lo++ [(h.L.length:Int)+1],h.hi++ [((Im.rows (n:Int) 0 (-1) 0 h.L f.body).length:Int)+1]⟩ (by simp[hl]) (by simp[hh])
  refine⟨e1++e2,((h.L.length:Int)+1)::lo,(((Im.rows (n:Int) 0 (-1) 0 h.L f.body).length:Int)+1)::hi, ?_,by simp[k1,k2],by simp[h3],by simp[h4],fun i g iV=>?_⟩
  ·rw[h2,h1];simp
  ·cases i with
   |zero=>
    simp only[List.getElem?_cons_zero,Option.some.injEq]at iV
    subst iV
    exact⟨[],e1,e2,[],by simp,by rw[h1];simp,k1,by simp⟩
   |succ i=>
    simp only[List.getElem?_cons_succ]at iV
    obtain⟨a,b,e',PA,g1,g2,g3,g4⟩:=h5 i g iV
    refine⟨e1++a,b,e',PA, ?_, ?_,g3,by rw[g4];simp⟩
    ·rw[List.getElem?_cons_succ,g1,h1];simp
    ·rw[List.getElem?_cons_succ,g2,h1];simp
theorem oT (p:Pg):p.bc.L.map Im.s=p.pre∧∀ (i:Nat) (f:Pc),p.procs[i]? = some f→∃ a b e:List Im,p.bc.lo[i]? = some ((a.length:Int)+1)∧p.bc.hi[i]? = some (((a++b).length:Int)+1)∧b.map Im.s=Sm.bZ f.body∧p.bc.L=a++b++e:=by
 obtain⟨e,lo,hi,h1,h2,h3,h4,h5⟩:=V7 p.procs 0 ⟨[],[],[]⟩ rfl rfl
 unfold Pg.bc
 rw[h1]
 refine⟨by simpa[Pg.pre]using h2,fun i f hf=>?_⟩
 obtain⟨a,b,e',_,g1,g2,g3,g4⟩:=h5 i f hf
 exact⟨a,b,e',by simpa using g1,by simpa using g2,g3,by simpa using g4⟩
def Pg.at (p:Pg) (name:aF):Int:=lY (fun f:Pc=>f.name==name) 0 p.procs
theorem ads (name:aF) (f:Pc):aE Tryz.prog mR ([.agg (bG f)]++ [.ptr 0 0]) ⟨[[.str name]],[]⟩ (.bool (f.name==name)) ⟨[[.str name]],[]⟩:=by
 show aE Tryz.prog mR [.agg (bG f), .ptr 0 0] _ _ _
 refine aE.go AB rfl fun B Q hB hQ=>?_
 have⟨hD,gA,gB,gC⟩:=cd
 repeat' (first
 |simp only[go_sem,hD,gA,gB,gC]
 |(with_reducible refine aD hQ ?_;exact bx))
theorem Hq {p:Pg} (hs:p.procs.length<4611686018427387904) (name:aF) (s:St):aE Tryz.prog jl [.dN (ga p) 0, .str name] s (.int .i64 (p.at name)) s:=by
 refine aE.pure ?_ (by simp[D.bK,D.ok,we]) rfl s
 have hi:=fun {s:St} {o:Nat} (ho:s.ah[o]? = some [.str name])=>Dx (xI (l:=p.procs) (f:=mR) (row:= [.str name]) (b:=fun f:Pc=>f.name==name) hs rfl (by with_unfolding_all rfl) (fun x _=>ads name x)) rfl (yv _) rfl ho
 have iV:=fun {s:St} {o:Nat} (ho:s.ah[o]? = some [.str name])=>(show aE Tryz.prog ij [.slice .shared 5 (p.procs.map bG), .ie 93 [.ptr o 0]] s (.int .i64 (p.at name)) s from hi ho)
 unfold S0
 rw[o9]
 refine aE.go Cs rfl fun B Q hB hQ=>?_
 have⟨hD,gA,gB,gC⟩:=cd
 repeat' (first
 |simp only[go_sem,hD,gA,gB,gC]
 |(with_reducible refine CU (iV (by with_unfolding_all rfl)) ?_)
 |(with_reducible refine aD hQ ?_;exact bx))
theorem V8 : ∀ (l:List Pc) (n:Nat) (h:Sh),(Sh.go n h l).L.length≤h.L.length+Pc.a7 l
 | [],n,h=>by simp[Sh.go]
 |f::l,n,h=>by
  simp only[Sh.go]
  refine Nat.le_trans (V8 l _ _) ?_
  have:=iK (n:Int) 0 (-1) 0 h.L f.body
  have:=oR f.body
  simp only[Pc.a7,Pc.size];omega
theorem qy (p:Pg):p.bc.L.length≤Pc.a7 p.procs:=by have:=V8 p.procs 0 ⟨[],[],[]⟩;simpa[Pg.bc]using this
theorem ag4 {p:Pg} {i:Nat} (hs:Pc.a7 p.procs<1000000000) {a b e:List Im} (h1:p.bc.lo[i]? = some ((a.length:Int)+1)) (h2:p.bc.hi[i]? = some (((a++b).length:Int)+1)) (h4:p.bc.L=a++b++e) (s:St) :
 aE Tryz.prog iQ [.dN (ga p) 0, .int .i64 (i:Int)] s (.slice .shared 17 (b.map dM)) s:=by
 refine aE.pure ?_ (by simp[D.bK,D.ok,we]) (by simp[D.ok,Tag.ok,LG]) s
 have hL:p.bc.L.length<1000000000:=Nat.lt_of_le_of_lt (qy p) hs
 have l1:(i:Int)<(p.bc.lo.length:Int):=by have:=(List.getElem?_eq_some_iff.1 h1).1;omega
 have l2:(i:Int)<(p.bc.hi.length:Int):=by have:=(List.getElem?_eq_some_iff.1 h2).1;omega
 have hab:a.length+b.length≤p.bc.L.length:=by rw[h4];simp
 have w1:IntKind.wrap .i64 ((a.length:Int)+1 - 1)=(a.length:Int):=by rw[show(a.length:Int)+1 - 1=(a.length:Int) by omega];exact eD (by omega) (by omega)
 have w2:IntKind.wrap .i64 (((a.length+b.length:Nat):Int)+1 - 1)=((a.length+b.length:Nat):Int):=by rw[show((a.length+b.length:Nat):Int)+1 - 1=((a.length+b.length:Nat):Int) by omega];exact eD (by omega) (by omega)
 have c1:((a.length:Int)≤((a.length+b.length:Nat):Int))=True:=by simp only[eq_iff_iff,iff_true];omega
 have c2:(((a.length+b.length:Nat):Int)≤(p.bc.L.length:Int))=True:=by simp only[eq_iff_iff,iff_true];omega
 have hb:List.drop a.length (List.take (a.length+b.length) (List.map dM p.bc.L))=List.map dM b:=by rw[h4];simp[List.map_append,List.take_append,List.drop_append]
 unfold S0
 rw[o9]
 refine aE.go ET rfl fun B Q hB hQ=>?_
 have⟨hD,gA,gB,gC⟩:=cd
 repeat' (first
 |simp only[go_sem,hD,gA,gB,gC,h1,h2,List.length_append,w1,w2,c1,c2,or_true,true_and,and_self,ite_self,Int.toNat_natCast,hb]
 |(with_reducible first|refine bg fun hc=>?_|refine bh fun hc=>?_|refine bj (fun hc=>?_) fun hc=>?_)<;>(try simp only[hc,bs,↓reduceIte]at h)<;>try simp only[hc]
 |(with_reducible refine aD hQ ?_;(try cases h);simp only[aT,aV,bD,bE,go_sem,hD,gA,gB,gC,h1,h2,List.length_append,w1,w2,c1,c2,or_true,true_and,and_self,ite_self,Int.toNat_natCast,hb];try exact bX)
 |(cases h;done))
theorem Zj {p:Pg} {i:Nat} {f:Pc} (hf:p.procs[i]? = some f) (hs:Pc.a7 p.procs<1000000000) : ∃ it:List Im,it.map Im.s=Sm.bZ f.body∧∀ s,aE Tryz.prog iQ [.dN (ga p) 0, .int .i64 (i:Int)] s (.slice .shared 17 (it.map dM)) s:=by
 obtain⟨a,b,e,h1,h2,h3,h4⟩:=(oT p).2 i f hf
 exact⟨b,h3,ag4 hs h1 h2 h4⟩
mutual
def Ex.nP (out:List aF):Ex→List aF
 |⟨op,_,name,kids⟩=>Ex.mS (if op==2 && !(fv out name)then out++ [name]else out) kids
def Ex.mS (out:List aF):List Ex→List aF
 | []=>out
 |x::l=>Ex.mS (Ex.nP out x) l
end
def Ex.names (x:Ex):List aF:=if x.may then x.nP []else []
mutual
theorem uB (out:List aF) : ∀ x:Ex,(Ex.nP out x).length≤out.length+x.size
 |⟨op,n,name,kids⟩=>by
  simp only[Ex.nP,Ex.size]
  have h:=JM (if op==2 && !(fv out name)then out++ [name]else out) kids
  refine Nat.le_trans h ?_
  split<;>simp<;>omega
theorem JM (out:List aF) : ∀ l:List Ex,(Ex.mS out l).length≤out.length+Ex.a7 l
 | []=>by simp[Ex.mS,Ex.a7]
 |x::l=>by
  simp only[Ex.mS,Ex.a7]
  have h1:=uB out x
  have h2:=JM (Ex.nP out x) l
  omega
end
def u6 (out:List aF) (x:aF):List aF:=if fv out x then out else out++ [x]
def ak0 (x:aF):List aF→Bool
 | []=>false
 |s::l=>if s==x then true else ak0 x l
abbrev V9 (N:Nat):Prop:=∀ (x:Ex),x.size≤N→∀ out:List aF,out.length+x.size≤1000000000→∀ {s:St} {t:Nat},s.ay[t]? = some (some out.length)→
 aE Tryz.prog jE [.agg (bQ x), .slice (.tok t) 1 (out.map encStr)] s (.slice (.tok t) 1 ((x.nP out).map encStr)) ⟨s.ah,s.ay.set t (some (x.nP out).length)⟩
theorem ag5 {N:Nat} (ih:V9 N) {op m:Int} {name:aF} {kids:List Ex} (h:Ex.size ⟨op,m,name,kids⟩≤N+1) {out:List aF} (ho:out.length+Ex.size ⟨op,m,name,kids⟩≤1000000000) :
 aE Tryz.prog jE [.agg (bQ ⟨op,m,name,kids⟩), .slice (.tok 0) 1 (out.map encStr)] ⟨[],[some out.length]⟩ (.slice (.tok 0) 1 ((Ex.nP out ⟨op,m,name,kids⟩).map encStr)) ⟨[],[some (Ex.nP out ⟨op,m,name,kids⟩).length]⟩:=by
 obtain⟨R,hG⟩ : ∃ R,Ex.nP out ⟨op,m,name,kids⟩=R:=⟨_,rfl⟩
 rw[hG]
 simp only[Ex.nP]at hG
 simp only[Ex.size]at h ho
 have hlen:kids.length<1000000000:=by have:=Ex.dJ kids;omega
 have hk : ∀ y∈kids,∀ out:List aF,out.length+y.size≤1000000000→∀ {s:St} {t:Nat},s.ay[t]? = some (some out.length)→
  aE Tryz.prog jE [.agg (bQ y), .slice (.tok t) 1 (out.map encStr)] s (.slice (.tok t) 1 ((y.nP out).map encStr)) ⟨s.ah,s.ay.set t (some (y.nP out).length)⟩:=fun y hy out ho=>
  ih y (by have:=Ex.da hy;omega) out ho
 refine aE.go tv rfl fun B Q hB hQ=>?_
 have⟨hD,gA,gB,gC⟩:=cd
 have gB:(out.length+1)*17≤bp:=by unfold bp;omega
 rcases Bool.eq_false_or_eq_true (op==2)with b1|b1
 ·rcases Bool.eq_false_or_eq_true (fv out name)with b2 | b2
  ·simp only [b1,b2,Bool.not_true,Bool.and_false,Bool.false_eq_true,if_false]at hG
   repeat' (first
 |simp only[go_sem,hD,gA,gB,gC,b1,b2]
 |(with_reducible refine CU (km (l:=out) (by omega) name _ _) ?_)
 | (with_reducible refine aD hQ ?_;exact bx))
   refine fj 1 1 (bl.ind (ι:=List Ex×Nat×List aF×Nat) (fun i=>kids.drop i.2.1=i.1∧Ex.mS i.2.2.1 i.1=R∧i.2.2.1.length+Ex.a7 i.1≤1000000000∧i.2.2.2=i.2.2.1.length) (fun i=>i.1.length)
    (fun i=> [(1, .slice (.tok 0) 1 (i.2.2.1.map encStr)),(2, .ptr 0 0),(23, .slice .shared 4 (kids.map bQ)),(24, .int .i64 (kids.length:Int)),(25, .int .i64 (i.2.1:Int))]) (fun i=>⟨[bQ ⟨op,m,name,kids⟩],[some i.2.2.2]⟩) ?_ (kids,0,out,out.length) ⟨rfl,hG,by simp;omega,by simp⟩)
   rintro⟨rest,k,dd,n'⟩ ⟨h1,h2,h3,h4⟩ IH
   dsimp only at h1 h2 h3 h4
   subst h4
   cases rest with
   |nil=>
    have hD:=drop_nil h1
    simp only[Ex.mS]at h2
    subst h2
    repeat' (first
 |simp only[go_sem,hD,gA,gB,gC]
 | (with_reducible refine aD hQ ?_;exact bx))
   |cons y rest=>
    obtain⟨gA,g2,hD,g4⟩:=drop_cons h1
    have cH:k<4611686018427387904:=by omega
    simp only[Ex.mS]at h2
    simp only[Ex.a7]at h3
    have hy:=fun {s:St} {t:Nat} (ht:s.ay[t]? = some (some dd.length))=>hk y (List.mem_of_getElem? gA) dd (by omega) ht
    have hl:=uB dd y
    repeat' (first
 |simp only[go_sem,hD,gA,gB,gC]
 |(with_reducible refine CU (hy (by with_unfolding_all rfl)) ?_)
 | (with_reducible refine aD hQ ?_;exact bx))
    refine dW 1 1 ?_ ?_ (IH (rest,k+1,_,_) ⟨g2,h2,by dsimp only;omega,rfl⟩ (Nat.lt_succ_self _))
    ·(simp only[go_sem,hD,gA,gB,gC,aH cH];try exact bO)
    ·(simp only[go_sem,hD,gA,gB,gC,aH cH];try exact bO)
  ·simp only [b1,b2,Bool.not_false,Bool.and_true,if_true]at hG
   repeat' (first
 |simp only[go_sem,hD,gA,gB,gC,b1,b2]
 |(with_reducible refine CU (km (l:=out) (by omega) name _ _) ?_)
 | (with_reducible refine aD hQ ?_;exact bx))
   refine dW 1 1 ?_ ?_ (bl.ind (ι:=List Ex×Nat×List aF×Nat) (fun i=>kids.drop i.2.1=i.1∧Ex.mS i.2.2.1 i.1=R∧i.2.2.1.length+Ex.a7 i.1≤1000000000∧i.2.2.2=i.2.2.1.length) (fun i=>i.1.length)
    (fun i=> [(1, .slice (.tok 0) 1 (i.2.2.1.map encStr)),(2, .ptr 0 0),(23, .slice .shared 4 (kids.map bQ)),(24, .int .i64 (kids.length:Int)),(25, .int .i64 (i.2.1:Int))]) (fun i=>⟨[bQ ⟨op,m,name,kids⟩],[some i.2.2.2]⟩) ?_ (kids,0,(out++ [name]),(out.length+1)) ⟨rfl,hG,by simp;omega,by simp⟩)
   ·(simp only[go_sem,hD,gA,gB,gC,List.map_append,List.map_cons,List.map_nil,List.length_append,List.length_cons,List.length_nil,encStr];try exact bO)
   ·(simp only[go_sem,hD,gA,gB,gC,List.map_append,List.map_cons,List.map_nil,List.length_append,List.length_cons,List.length_nil,encStr];try exact bO)
   rintro⟨rest,k,dd,n'⟩ ⟨h1,h2,h3,h4⟩ IH
   dsimp only at h1 h2 h3 h4
   subst h4
   cases rest with
   |nil=>
    have hD:=drop_nil h1
    simp only[Ex.mS]at h2
    subst h2
    repeat' (first
 |simp only[go_sem,hD,gA,gB,gC]
 | (with_reducible refine aD hQ ?_;exact bx))
   |cons y rest=>
    obtain⟨gA,g2,hD,g4⟩:=drop_cons h1
    have cH:k<4611686018427387904:=by omega
    simp only[Ex.mS]at h2
    simp only[Ex.a7]at h3
    have hy:=fun {s:St} {t:Nat} (ht:s.ay[t]? = some (some dd.length))=>hk y (List.mem_of_getElem? gA) dd (by omega) ht
    have hl:=uB dd y
    repeat' (first
 |simp only[go_sem,hD,gA,gB,gC]
 |(with_reducible refine CU (hy (by with_unfolding_all rfl)) ?_)
 | (with_reducible refine aD hQ ?_;exact bx))
    refine dW 1 1 ?_ ?_ (IH (rest,k+1,_,_) ⟨g2,h2,by dsimp only;omega,rfl⟩ (Nat.lt_succ_self _))
    ·(simp only[go_sem,hD,gA,gB,gC,aH cH];try exact bO)
    ·(simp only[go_sem,hD,gA,gB,gC,aH cH];try exact bO)
 ·simp only [b1,Bool.false_and,Bool.false_eq_true,if_false]at hG
  repeat' (first
 |simp only[go_sem,hD,gA,gB,gC,b1]
 | (with_reducible refine aD hQ ?_;exact bx))
  refine fj 1 1 (bl.ind (ι:=List Ex×Nat×List aF×Nat) (fun i=>kids.drop i.2.1=i.1∧Ex.mS i.2.2.1 i.1=R∧i.2.2.1.length+Ex.a7 i.1≤1000000000∧i.2.2.2=i.2.2.1.length) (fun i=>i.1.length)
   (fun i=> [(1, .slice (.tok 0) 1 (i.2.2.1.map encStr)),(2, .ptr 0 0),(23, .slice .shared 4 (kids.map bQ)),(24, .int .i64 (kids.length:Int)),(25, .int .i64 (i.2.1:Int))]) (fun i=>⟨[bQ ⟨op,m,name,kids⟩],[some i.2.2.2]⟩) ?_ (kids,0,out,out.length) ⟨rfl,hG,by simp;omega,by simp⟩)
  rintro⟨rest,k,dd,n'⟩ ⟨h1,h2,h3,h4⟩ IH
  dsimp only at h1 h2 h3 h4
  subst h4
  cases rest with
  |nil=>
   have hD:=drop_nil h1
   simp only[Ex.mS]at h2
   subst h2
   repeat' (first
 |simp only[go_sem,hD,gA,gB,gC]
 | (with_reducible refine aD hQ ?_;exact bx))
  |cons y rest=>
   obtain⟨gA,g2,hD,g4⟩:=drop_cons h1
   have cH:k<4611686018427387904:=by omega
   simp only[Ex.mS]at h2
   simp only[Ex.a7]at h3
   have hy:=fun {s:St} {t:Nat} (ht:s.ay[t]? = some (some dd.length))=>hk y (List.mem_of_getElem? gA) dd (by omega) ht
   have hl:=uB dd y
   repeat' (first
 |simp only[go_sem,hD,gA,gB,gC]
 |(with_reducible refine CU (hy (by with_unfolding_all rfl)) ?_)
 | (with_reducible refine aD hQ ?_;exact bx))
   refine dW 1 1 ?_ ?_ (IH (rest,k+1,_,_) ⟨g2,h2,by dsimp only;omega,rfl⟩ (Nat.lt_succ_self _))
   ·(simp only[go_sem,hD,gA,gB,gC,aH cH];try exact bO)
   ·(simp only[go_sem,hD,gA,gB,gC,aH cH];try exact bO)
theorem Zk : ∀ N,V9 N:=by
 intro N
 induction N with
 |zero=>rintro⟨op,m,name,kids⟩ h;simp only[Ex.size]at h;omega
 |succ N ih=>
  rintro⟨op,m,name,kids⟩ h out ho s t ht
  exact(ag5 ih h ho).anP (pre:= [_]) (post:= []) (by simp only[D.bK,D.ok,jN];rfl) rfl (fe out) (fe _) ht
abbrev auM (N:Nat):Prop:=∀ (x:Ex),x.size≤N→∀ out:List aF,out.length+x.size≤1000000000→∀ {s:St} {t:Nat},s.ay[t]? = some (some out.length)→
 aE Tryz.prog Pf [.agg (bQ x), .slice (.tok t) 1 (out.map encStr)] s (.slice (.tok t) 1 ((x.nP out).map encStr)) ⟨s.ah,s.ay.set t (some (x.nP out).length)⟩
theorem Wa {op m:Int} {name:aF} {kids:List Ex} (h:Ex.form ⟨op,m,name,kids⟩=true) (h2:(op==2)=true):kids = []:=by
 have e:op=2:=by simpa using h2
 subst e
 simp only[Ex.form]at h
 split at h
 ·cases h
 ·rename_i hh
  simp only[Bool.or_eq_true,not_or,bne_iff_ne,ne_eq,Decidable.not_not]at hh
  have:=hh.1.1.1.1
  have e:po 2=0:=rfl
  rw[e]at this
  exact List.length_eq_zero_iff.1 (by omega)
theorem Zl {op m:Int} {name:aF} {kids:List Ex} (hf:(op==2)=true→kids = []) (ho:Ex.size ⟨op,m,name,kids⟩≤1000000000) (s:St) :
 aE Tryz.prog jE [.agg (bQ ⟨op,m,name,kids⟩), .slice .full 0 []] s (.slice .shared 1 ((Ex.nP [] ⟨op,m,name,kids⟩).map encStr)) s:=by
 refine aE.pure ?_ (by simp only[D.bK,D.ok,jN];rfl) (by simp only[D.ok,Tag.ok,fe];rfl) s
 obtain⟨R,hG⟩ : ∃ R,Ex.nP [] ⟨op,m,name,kids⟩=R:=⟨_,rfl⟩
 rw[hG]
 simp only[Ex.nP]at hG
 simp only[Ex.size]at ho
 have hlen:kids.length<1000000000:=by have:=Ex.dJ kids;omega
 have hk : ∀ y∈kids,∀ out:List aF,out.length+y.size≤1000000000→∀ {s:St} {t:Nat},s.ay[t]? = some (some out.length)→
  aE Tryz.prog jE [.agg (bQ y), .slice (.tok t) 1 (out.map encStr)] s (.slice (.tok t) 1 ((y.nP out).map encStr)) ⟨s.ah,s.ay.set t (some (y.nP out).length)⟩:=fun y hy out ho=>
  Zk y.size y (Nat.le_refl _) out ho
 unfold S0
 rcases Bool.eq_false_or_eq_true (op==2)with b1|b1
 ·have hk0:=hf b1
  subst hk0
  have e:fv [] name=false:=rfl
  simp only[b1,e,Bool.not_false,Bool.and_true,if_true,Ex.mS,List.nil_append]at hG
  subst hG
  refine aE.go tv rfl fun B Q hB hQ=>?_
  have⟨hD,gA,gB,gC⟩:=cd
  have gB:17≤bp:=by unfold bp;omega
  repeat' (first
 |simp only[go_sem,hD,gA,gB,gC,b1,List.map_nil,List.map_cons,List.length_nil,encStr,Int.natCast_zero,Int.lt_irrefl,decide_false]
 |(with_reducible refine CU (Ng name _ _ _) ?_)
 |(with_reducible refine bl.jV ?_)
 |(with_reducible refine aD hQ ?_;exact bx))
 ·simp only [b1,Bool.false_and,Bool.false_eq_true,if_false]at hG
  refine aE.go tv rfl fun B Q hB hQ=>?_
  have⟨hD,gA,gB,gC⟩:=cd
  repeat' (first
 |simp only[go_sem,hD,gA,gB,gC,b1]
 | (with_reducible refine aD hQ ?_;exact bx))
  refine bl.s7 1 1 rfl ?_
  simp only[go_sem,hD,gA,gB,gC]
  refine fj 1 1 (bl.ind (ι:=List Ex×Nat×List aF×Nat) (fun i=>kids.drop i.2.1=i.1∧Ex.mS i.2.2.1 i.1=R∧i.2.2.1.length+Ex.a7 i.1≤1000000000∧i.2.2.2=i.2.2.1.length) (fun i=>i.1.length)
   (fun i=> [(1, .slice (.tok 0) 1 (i.2.2.1.map encStr)),(2, .ptr 0 0),(23, .slice .shared 4 (kids.map bQ)),(24, .int .i64 (kids.length:Int)),(25, .int .i64 (i.2.1:Int))]) (fun i=>⟨[bQ ⟨op,m,name,kids⟩],[some i.2.2.2]⟩) ?_ (kids,0,[],0) ⟨rfl,hG,by simp;omega,by simp⟩)
  rintro⟨rest,k,dd,n'⟩ ⟨h1,h2,h3,h4⟩ IH
  dsimp only at h1 h2 h3 h4
  subst h4
  cases rest with
  |nil=>
   have hD:=drop_nil h1
   simp only[Ex.mS]at h2
   subst h2
   repeat' (first
 |simp only[go_sem,hD,gA,gB,gC]
 | (with_reducible refine aD hQ ?_;exact bx))
  |cons y rest=>
   obtain⟨gA,g2,hD,g4⟩:=drop_cons h1
   have cH:k<4611686018427387904:=by omega
   simp only[Ex.mS]at h2
   simp only[Ex.a7]at h3
   have hy:=fun {s:St} {t:Nat} (ht:s.ay[t]? = some (some dd.length))=>hk y (List.mem_of_getElem? gA) dd (by omega) ht
   have hl:=uB dd y
   repeat' (first
 |simp only[go_sem,hD,gA,gB,gC]
 |(with_reducible refine CU (hy (by with_unfolding_all rfl)) ?_)
 | (with_reducible refine aD hQ ?_;exact bx))
   refine dW 1 1 ?_ ?_ (IH (rest,k+1,_,_) ⟨g2,h2,by dsimp only;omega,rfl⟩ (Nat.lt_succ_self _))
   ·(simp only[go_sem,hD,gA,gB,gC,aH cH];try exact bO)
   ·(simp only[go_sem,hD,gA,gB,gC,aH cH];try exact bO)
theorem ox {x:Ex} (hx:x.size≤1000000000) (ht:x.texts) (s:St):aE Tryz.prog tq [.agg (bQ x)] s (.slice .shared 1 (x.names.map encStr)) s:=by
 refine aE.pure ?_ (by simp only[D.bK,D.ok,jN];rfl) (by simp only[D.ok,Tag.ok,fe];rfl) s
 have hm:=fun s=>BD (x:=x) (by omega) ht s
 simp only[Hk]at hm
 unfold Ex.names
 unfold S0
 cases hb:x.may
 ·simp only [hb]at hm
  simp only[Bool.false_eq_true,if_false,List.map_nil]
  refine aE.go AA rfl fun B Q hB hQ=>?_
  have⟨hD,gA,gB,gC⟩:=cd
  repeat' (first
 |simp only[go_sem,hD,gA,gB,gC]
 |(with_reducible refine CU (hm _) ?_)
 |(with_reducible refine aD hQ ?_;exact bx))
 ·simp only [hb]at hm
  simp only[if_true]
  have hg : ∀ s,aE Tryz.prog jE [.agg (bQ x), .slice .full 0 []] s (.slice .shared 1 ((x.nP []).map encStr)) s:=by
   intro s
   obtain⟨op,m,name,kids⟩:=x
   exact Zl (fun h2=>Wa (by simp only[Ex.may,Bool.and_eq_true]at hb;exact hb.2) h2) hx s
  refine aE.go AA rfl fun B Q hB hQ=>?_
  have⟨hD,gA,gB,gC⟩:=cd
  repeat' (first
 |simp only[go_sem,hD,gA,gB,gC]
 |(with_reducible refine CU (hm _) ?_)
 |(with_reducible refine CU (hg _) ?_)
 |(with_reducible refine aD hQ ?_;exact bx))
end Go.Abs
