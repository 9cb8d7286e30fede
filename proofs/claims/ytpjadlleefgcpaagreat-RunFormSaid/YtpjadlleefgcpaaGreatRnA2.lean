/-
  What is proved here: part 2 of the road to the claim (Codes1, Have1, Codes2, Have2, Codes3, Codes4, Have4, Codes5, Have5, Have3, MirLex, MirMay, Prs, Lex1, Lex2, RefLex1, Prs2, Ref1, Ref2, RefMay2, Flat1, Flat2, Flat3, Sl1, MirFlat2, Sl2, TMay1, TMay2, RefMay3, RefMay4, TMay3, TMay4, MayFine, MayEq, Nm1, Nm2, Nm3, MayEq2, Sc1, Sc2, Sc3, ScP).
  No conditions.
-/
import Derived.Test.YtpjadlleefgcpaaGreatRnA1
import Derived.Test.YtpjadlleefgcpaaGreatProg
import Derived.KernelRfl

set_option linter.unusedSimpArgs false
set_option linter.unusedVariables false
namespace Go.Abs
abbrev Q7Q:AC:= .seq (.run [.o 1 (.box bu),(.o 2 (.mv (.k (.val (.complex .f64 0 0)))))]) (.seq (.run [.o 3 (.aq bx 1), .o 4 (.load cz false 1), .o 5 (.ql (.ofInt .f64) fB fB), .o 6 (.aq bx 2), .o 7 (.load dz false 1), .o 8 (.ql (.ofInt .f64) dd dd), .o 9 (.ql .G3 bZ cZ), .m 2 dA]) .ret)
abbrev Q7S:AC:= .run [(.o 3 (.du [(.str [])] 1 1 [(0,(.k (.str [118])))])), .c 4 qJ [(.k (.int .i64 2))],(.o 5 (.build [(.int .i64 0),(.int .i64 0),(.slice .full 0 []),(.str []),(.str []),(.int .i64 0),(.int .i64 0),(.str []),(.slice .full 0 []),(.bool false),(.slice .full 0 []),(.slice .full 0 []),(.slice .full 0 [])] [(0,(1,(.k (.int .i64 1)))),(1,(1,(.k (.int .i64 1)))),(3,(1,(.k (.str [118])))),(5,(4,fB))])), .c 6 qJ [(.k (.int .i64 3))], .o 7 (.build [(.bool false),(.str []),(.int .i64 0),(.int .i64 0),(.str []),(.slice .full 0 [])] [(2,(4,dz))]),(.o 8 (.build [(.bool false),(.str []),(.int .i64 0),(.int .i64 0),(.str []),(.slice .full 0 [])] [(0,(1,(.k (.bool true)))),(1,(1,(.k (.str [118]))))])), .o 9 (.du [(.bool false),(.str []),(.int .i64 0),(.int .i64 0),(.str []),(.slice .full 0 [])] 6 2 [(0,dd),(1,cZ)]),(.o 10 (.build [(.int .i64 0),(.int .i64 0),(.slice .full 0 []),(.str []),(.str []),(.int .i64 0),(.int .i64 0),(.str []),(.slice .full 0 []),(.bool false),(.slice .full 0 []),(.slice .full 0 []),(.slice .full 0 [])] [(0,(1,(.k (.int .i64 2)))),(1,(1,(.k (.int .i64 4)))),(3,(1,(.k (.str [103])))),(4,(1,(.k (.str [112])))),(10,(1,dA))])),(.c 11 kN [(.k (.str [118]))]),(.o 12 (.build [(.int .i64 0),(.int .i64 0),(.slice .full 0 []),(.str []),(.str []),(.int .i64 0),(.int .i64 0),(.str []),(.slice .full 0 []),(.bool false),(.slice .full 0 []),(.slice .full 0 []),(.slice .full 0 [])] [(0,(1,(.k (.int .i64 3)))),(1,(1,(.k (.int .i64 3)))),(5,(4,dg))])),(.c 13 kN [(.k (.str [103]))]),(.o 14 (.build [(.int .i64 0),(.int .i64 0),(.slice .full 0 []),(.str []),(.str []),(.int .i64 0),(.int .i64 0),(.str []),(.slice .full 0 []),(.bool false),(.slice .full 0 []),(.slice .full 0 []),(.slice .full 0 [])] [(0,(1,(.k (.int .i64 4)))),(1,(1,(.k (.int .i64 3)))),(5,(4,de))])), .o 15 (.du [(.int .i64 0),(.int .i64 0),(.slice .full 0 []),(.str []),(.str []),(.int .i64 0),(.int .i64 0),(.str []),(.slice .full 0 []),(.bool false),(.slice .full 0 []),(.slice .full 0 []),(.slice .full 0 [])] 13 4 [(0,bZ),(1,bX),(2,c6),(3,cO)]),(.o 16 (.build [(.str []),(.slice .full 0 []),(.slice .full 0 []),(.slice .full 0 []),(.slice .full 0 [])] [(0,(1,(.k (.str [109,97,105,110])))),(2,(1,cz)),(3,(1,dE))])), .o 1 (.alloc [(.str []),(.slice .full 0 []),(.slice .full 0 []),(.slice .full 0 []),(.slice .full 0 [])]), .op none none (.store bx dn 5)]
abbrev Q7T:AC:= .run [(.o 17 (.build [(.str []),(.bool false)] [(0,(1,(.k (.str [120]))))])),(.o 18 (.build [(.str []),(.bool false)] [(0,(1,(.k (.str [121])))),(1,(1,(.k (.bool true))))])), .o 19 (.du [(.str []),(.bool false)] 2 2 [(0,dG),(1,dF)]),(.o 20 (.du [(.str [])] 1 1 [(0,(.k (.str [101])))])),(.c 21 kN [(.k (.str [121]))]),(.c 22 kN [(.k (.str [120]))]), .c 23 ub [(.k (.int .i64 8)),eo,ey],(.o 24 (.build [(.int .i64 0),(.int .i64 0),(.slice .full 0 []),(.str []),(.str []),(.int .i64 0),(.int .i64 0),(.str []),(.slice .full 0 []),(.bool false),(.slice .full 0 []),(.slice .full 0 []),(.slice .full 0 [])] [(0,(1,(.k (.int .i64 5)))),(1,(1,(.k (.int .i64 1)))),(3,(1,(.k (.str [121])))),(5,(4,ep))])),(.c 25 kN [(.k (.str [121]))]), .c 26 qJ [(.k (.int .i64 9))], .c 27 ub [(.k (.int .i64 12)),eI,fk],(.o 28 (.build [(.int .i64 0),(.int .i64 0),(.slice .full 0 []),(.str []),(.str []),(.int .i64 0),(.int .i64 0),(.str []),(.slice .full 0 []),(.bool false),(.slice .full 0 []),(.slice .full 0 []),(.slice .full 0 [])] [(0,(1,(.k (.int .i64 7)))),(1,(1,(.k (.int .i64 10)))),(3,(1,(.k (.str [101]))))])), .o 29 (.du [(.int .i64 0),(.int .i64 0),(.slice .full 0 []),(.str []),(.str []),(.int .i64 0),(.int .i64 0),(.str []),(.slice .full 0 []),(.bool false),(.slice .full 0 []),(.slice .full 0 []),(.slice .full 0 [])] 13 1 [(0,gb)]),(.o 30 (.build [(.int .i64 0),(.int .i64 0),(.slice .full 0 []),(.str []),(.str []),(.int .i64 0),(.int .i64 0),(.str []),(.slice .full 0 []),(.bool false),(.slice .full 0 []),(.slice .full 0 []),(.slice .full 0 [])] [(0,(1,(.k (.int .i64 6)))),(1,(1,(.k (.int .i64 5)))),(5,(4,fm)),(11,(1,gd))])),(.c 31 kN [(.k (.str [121]))]),(.o 32 (.build [(.int .i64 0),(.int .i64 0),(.slice .full 0 []),(.str []),(.str []),(.int .i64 0),(.int .i64 0),(.str []),(.slice .full 0 []),(.bool false),(.slice .full 0 []),(.slice .full 0 []),(.slice .full 0 [])] [(0,(1,(.k (.int .i64 8)))),(1,(1,(.k (.int .i64 9)))),(9,(1,(.k (.bool true)))),(5,(4,gp))])), .o 33 (.du [(.int .i64 0),(.int .i64 0),(.slice .full 0 []),(.str []),(.str []),(.int .i64 0),(.int .i64 0),(.str []),(.slice .full 0 []),(.bool false),(.slice .full 0 []),(.slice .full 0 []),(.slice .full 0 [])] 13 3 [(0,eH),(1,gD),(2,gL)]),(.o 34 (.build [(.str []),(.slice .full 0 []),(.slice .full 0 []),(.slice .full 0 []),(.slice .full 0 [])] [(0,(1,(.k (.str [112])))),(1,(1,ei)),(4,(1,ew)),(3,(1,gE))])), .o 2 (.alloc [(.str []),(.slice .full 0 []),(.slice .full 0 []),(.slice .full 0 []),(.slice .full 0 [])]), .op none none (.store dv iA 5)]
abbrev Q7V:AC:= .seq (.run [(.o 35 (.du [(.str [])] 1 1 [(0,(.k (.str [103])))])), .o 36 (.load bx true 5), .o 37 (.load dv true 5), .o 38 (.du [(.str []),(.slice .full 0 []),(.slice .full 0 []),(.slice .full 0 []),(.slice .full 0 [])] 5 2 [(0,ie),(1,iY)]), .o 39 (.build [(.slice .full 0 []),(.slice .full 0 [])] [(0,(1,gM)),(1,(1,jN))]), .op none none (.store bu jy 2)]) .ret
abbrev Q7Y:AC:= .seq (.run [.o 0 (.alloc [(.slice .full 0 []),(.slice .full 0 [])])]) (.seq Q7S (.seq Q7T Q7V))
abbrev Q88:AC:= .seq (.seq (.run [.m 6 bZ, .m 7 bu, .o 8 (.len dd), .o 9 (.bin .lss dz cZ), .m 10 dA, .g 11 10 true (.mv bx), .g 12 10 true (.bin .leq dg (.k (.int .i64 20000))), .o 13 (.pick bX c6 (.k (.bool false)))]) (.cond de .skip (.exit 0))) (.seq (.block 1 (.run [.m 16 bu, .m 17 bZ, .o 18 (.cq dn dG 1), .o 19 (.load dF false 1), .m 20 bx, .c 21 ga [ei,ew], .m 1 eo])) (.run [.m 14 bZ, .o 15 (.bin .add cO (.k (.int .i64 1))), .m 5 dE]))
abbrev Q8E:AC:= .seq (.seq (.run [.o 5 (.mv (.k (.int .i64 0)))]) (.block 0 (.loop Q88))) (.seq (.run [.m 22 bx, .m 4 ey]) .ret)
abbrev Q8F:AC:= .seq (.run [.o 4 (.mv (.k (.int .i64 0)))]) Q8E
abbrev Q8K:AC:= .cond de (.seq (.run [.o 4 (.mv (.k (.int .i64 20001)))]) .ret) .skip
abbrev Q8O:AC:= .seq (.seq (.run [.m 5 bx, .o 6 (.bin .gtr bZ (.k (.int .i64 20000))), .m 7 dz, .g 8 7 false (.mv bu), .g 9 7 false (.uv cZ), .g 10 7 false (.mv bx), .g 11 7 false (.bin .sub (.k (.int .i64 20000)) bX), .g 12 7 false (.bin .geq dA dg), .o 13 (.pick dd (.k (.bool true)) c6)]) Q8K) (.seq (.run [.m 14 bx, .o 15 (.bin .add cO (.k (.int .i64 1))), .m 16 bu, .o 17 (.uv dn), .o 18 (.bin .add dE dG), .m 4 dF]) .ret)
abbrev Q8P:AC:= .seq (.run [.o 4 (.mv (.k (.int .i64 0)))]) Q8O
abbrev Q8W:AC:= .par [.o 22 (.aq dz 4), .o 23 (.load ey false 1), .o 24 (.aq dz 3), .o 25 (.load eH false 1), .o 26 (.aq dz 2), .o 27 (.load fk false 1), .o 28 (.aq dz 5), .o 29 (.load gb true 4), .m 30 bx, .c 31 jL [gd,gD], .c 32 jo [fm,gp], .c 33 ga [eI,gL], .c 34 ga [ep,gE], .m 1 iA] [(6,0),(7,0),(8,0),(9,0),(4,0),(5,1),(10,0),(2,0),(3,2),(11,0),(0,0),(1,3),(12,0),(13,0)]
abbrev Q91:AC:= .par [.o 46 (.aq dz 10), .o 47 (.load lV false 1), .m 48 dd, .o 49 (.cq mL lu 6), .o 50 (.aq lx 1), .o 51 (.load lW false 1), .o 52 (.aq dz 10), .o 53 (.load lh false 1), .m 54 dd, .o 55 (.cq ly lX 6), .o 56 (.aq lY 2), .o 57 (.load n6 true 4), .m 58 bx, .c 59 jL [pk,oG], .c 60 ga [lg,mM], .m 1 p7] [(6,0),(7,0),(8,0),(9,0),(10,0),(11,0),(12,0),(13,0),(0,0),(1,1),(2,0),(3,0),(4,0),(5,1),(14,0),(15,0)]
abbrev Q95:AC:= .seq (.seq (.run [.m 35 dd, .o 36 (.aq dz 10), .o 37 (.load ie false 1), .o 38 (.len iY), .o 39 (.bin .lss gM jN), .m 40 jy, .g 41 40 true (.mv bx), .g 42 40 true (.bin .leq jO (.k (.int .i64 20000))), .o 43 (.pick kd kF (.k (.bool false)))]) (.cond kq .skip (.exit 2))) (.seq (.block 3 Q91) (.run [.m 44 dd, .o 45 (.bin .add lf (.k (.int .i64 1))), .m 7 lU]))
abbrev Q99:AC:= .par [.o 61 (.aq dz 12), .o 62 (.load rI false 1), .o 63 (.aq dz 11), .o 64 (.load rJ false 1), .m 65 bx, .c 66 kv [rK,uR], .c 67 kv [qR,wH], .m 1 wI] [(2,0),(3,0),(4,0),(5,0),(0,0),(1,1),(6,0),(7,0)]
abbrev Q9A:AC:= .seq (.seq (.run [.o 7 (.mv (.k (.int .i64 0)))]) (.block 2 (.loop Q95))) Q99
abbrev Q9F:AC:= .seq (.block 1 (.seq (.run [.m 18 bu, .m 19 bZ, .o 20 (.cq dF ei 13), .o 21 (.load ew true 13), .o 6 (.alloc [(.int .i64 0),(.int .i64 0),(.slice .full 0 []),(.str []),(.str []),(.int .i64 0),(.int .i64 0),(.str []),(.slice .full 0 []),(.bool false),(.slice .full 0 []),(.slice .full 0 []),(.slice .full 0 [])]), .op none none (.store dz eo 13)]) (.seq Q8W Q9A))) (.run [.m 16 bZ, .o 17 (.bin .add dn (.k (.int .i64 1))), .m 5 dG])
abbrev Q9G:AC:= .seq (.seq (.run [.m 8 bZ, .m 9 bu, .o 10 (.len dA), .o 11 (.bin .lss cZ bX), .m 12 dg, .g 13 12 true (.mv bx), .g 14 12 true (.bin .leq de (.k (.int .i64 20000))), .o 15 (.pick c6 cO (.k (.bool false)))]) (.cond dE .skip (.exit 0))) Q9F
abbrev Q9M:AC:= .seq (.seq (.run [.o 5 (.mv (.k (.int .i64 0)))]) (.block 0 (.loop Q9G))) (.seq (.run [.m 68 bx, .m 4 uS]) .ret)
abbrev Q9N:AC:= .seq (.run [.o 4 (.mv (.k (.int .i64 0)))]) Q9M
abbrev Q9U:AC:= .par [.m 17 cz, .m 18 cz, .o 19 (.bO dF), .o 20 (.aq ei 3), .o 21 (.load ew false 1), .m 22 cz, .o 23 (.bO ey), .o 24 (.aq ep 2), .o 25 (.load eH false 1), .o 26 (.len eI), .o 27 (.bin .add fk (.k (.int .i64 1))), .o 28 (.du [(.int .i64 0)] 1 1 [(0,fm)]), .o 29 (.app 1 8 eo gb), .o 30 (.bO dG), .o 31 (.aq gD 3), .op none none (.store gp gd 1)] [(1,0),(2,0),(3,0),(4,0),(5,0),(6,0),(7,0),(8,0),(9,0),(10,0),(11,0),(12,0),(0,0),(13,0),(14,0),(15,0)]
abbrev Q9W:AC:= .par [.m 38 cz, .m 39 cz, .o 40 (.bO jy), .o 41 (.aq kd 4), .o 42 (.load jO false 1), .m 43 cz, .o 44 (.bO kq), .o 45 (.aq lf 2), .o 46 (.load lU false 1), .o 47 (.len lV), .o 48 (.bin .add mL (.k (.int .i64 1))), .o 49 (.du [(.int .i64 0)] 1 1 [(0,lu)]), .o 50 (.app 1 8 kF lx), .o 51 (.bO jN), .o 52 (.aq lg 4), .op none none (.store lh lW 1)] [(1,0),(2,0),(3,0),(4,0),(5,0),(6,0),(7,0),(8,0),(9,0),(10,0),(11,0),(12,0),(0,0),(13,0),(14,0),(15,0)]
abbrev Q9X:AC:= .seq (.run [.m 32 cz, .o 33 (.aq bZ 3), .o 34 (.load gE false 1), .m 35 fB,(.o 36 (.build [(.int .i64 0),(.int .i64 0),(.slice .full 0 []),(.str []),(.str []),(.int .i64 0),(.int .i64 0),(.str []),(.slice .full 0 []),(.bool false),(.slice .full 0 []),(.slice .full 0 []),(.slice .full 0 []),(.int .i64 0),(.int .i64 0),(.int .i64 0),(.int .i64 0)] [(13,(1,gM)),(15,(1,(.k (.int .i64 (-1)))))])), .c 37 jM [gL,iA,ie]]) Q9W
abbrev QA2:AC:= .seq (.block 1 (.seq (.run [.m 14 c6, .o 15 (.cq bX c6 5), .o 16 (.load dE true 5), .o 5 (.alloc [(.str []),(.slice .full 0 []),(.slice .full 0 []),(.slice .full 0 []),(.slice .full 0 [])]), .m 4 cO, .op none none (.store bZ dn 5)]) (.seq Q9U Q9X))) (.run [.o 53 (.bin .add c6 (.k (.int .i64 1))), .m 12 ly])
abbrev QA6:AC:= .block 0 (.loop (.seq (.run [.o 13 (.bin .lss c6 dg)]) (.seq (.cond de .skip (.exit 0)) QA2)))
abbrev QAA:AC:= .seq (.seq (.run [.o 9 (.aq bx 1), .o 10 (.load dA false 1), .o 11 (.len bX), .o 12 (.mv (.k (.int .i64 0)))]) QA6) (.seq (.run [.m 54 cz, .m 2 lX]) .ret)
abbrev QAC:AC:= .seq (.run [.o 1 (.box bu), .o 2 (.mv (.k .dN))]) (.seq (.run [.o 6 (.load bx true 2), .o 7 (.build [(.slice .full 0 []),(.slice .full 0 []),(.slice .full 0 []),(.slice .full 0 []),(.slice .full 0 [])] [(0,(2,dz))]), .o 8 (.box dd), .m 3 cZ]) QAA)
abbrev QAF:AC:= .par [.m 22 bx, .m 23 bu, .o 24 (.bO ep), .o 25 (.aq eH 0), .o 26 (.load eI false 1), .o 27 (.bO fk), .o 28 (.aq fm 0), .o 29 (.load gb true 2), .o 30 (.aq dA 0), .o 31 (.load gD false 1), .c 32 uL [gd,gp], .m 33 cz, .o 34 (.build [(.int .i64 0),(.slice .full 0 []),(.slice .full 0 []),(.int .i64 0)] [(0,(1,ey)),(1,(1,gL)),(3,(1,gE))]), .o 35 (.box iA), .m 10 gM] [(1,0),(2,0),(3,0),(4,0),(5,0),(6,0),(7,0),(8,0),(9,0),(10,0),(0,0),(11,0),(12,0),(13,0),(14,0)]
abbrev QAG:AC:= .par [.m 36 bX, .m 37 bX, .o 38 (.bO iY), .o 39 (.aq jN 2), .o 40 (.load jy false 1), .m 41 bu, .o 42 (.bO jO), .o 43 (.aq kF 1), .o 44 (.load kq false 1), .o 45 (.app 1 8 kd lf), .m 46 dv, .o 47 (.app 1 8 lU lV), .o 48 (.bO ie), .o 49 (.aq lu 2), .op none none (.store lx mL 1)] [(1,0),(2,0),(3,0),(4,0),(5,0),(6,0),(7,0),(8,0),(9,0),(10,0),(11,0),(0,0),(12,0),(13,0),(14,0)]
abbrev QAO:AC:= .seq (.cond lX .skip (.exit 0)) (.seq (.block 1 (.run [.m 55 bX, .m 56 bX, .o 57 (.bO n6), .o 58 (.aq pk 2), .o 59 (.load oG false 1), .o 60 (.alloc [(.int .i64 0)]), .o 61 (.du [.dN] 1 1 [(0,p7)]), .o 62 (.app 1 8 mM rI), .o 63 (.bO lY), .o 64 (.aq rJ 2), .op none none (.store rK qR 1)])) (.run [.o 65 (.bin .add ly (.k (.int .i64 1))), .m 53 uR]))
abbrev QAP:AC:= .seq (.run [.o 54 (.bin .lss ly lh)]) QAO
abbrev QAW:AC:= .seq (.run [.m 66 bu, .m 67 bu, .o 68 (.bO wI), .o 69 (.aq uS 4), .o 70 (.load yk false 1), .m 71 bX, .o 72 (.du [.dN] 1 1 [(0,CA)]), .o 73 (.app 1 8 yl Aq), .o 74 (.bO wH), .o 75 (.aq CC 4), .op none none (.store CD As 1)]) (.seq (.run [.m 76 bu, .o 77 (.bO Au), .o 78 (.aq CF 0), .o 79 (.load ym false 1), .m 80 bx, .c 81 oB [EF,EG], .m 8 EH]) .ret)
abbrev QAX:AC:= .seq (.seq (.run [.o 50 (.aq dA 2), .o 51 (.load lW false 1), .o 52 (.len lg), .o 53 (.mv (.k (.int .i64 0)))]) (.block 0 (.loop QAP))) QAW
abbrev QB1:AC:= .seq (.run [.o 8 (.mv (.k (.int .i64 0)))]) (.seq (.run [.m 11 bu, .o 12 (.bO dg), .o 13 (.aq c6 0), .o 14 (.load de false 1), .o 15 (.bO cO), .o 16 (.aq dE 0), .o 17 (.aq dn 1), .o 18 (.load dG false 1), .m 19 bx, .o 20 (.cq dF ei 5), .o 21 (.load ew true 5), .o 9 (.alloc [(.str []),(.slice .full 0 []),(.slice .full 0 []),(.slice .full 0 []),(.slice .full 0 [])]), .op none none (.store dA eo 5)]) (.seq QAF (.seq QAG QAX)))
abbrev QB5:AC:= .seq (.run [.o 3 (.box bx), .o 4 (.mv (.k (.int .i64 0)))]) (.seq (.run [.m 5 bu, .o 6 (.bO bZ), .o 7 (.aq dz 0), .o 8 (.aq dd 1), .o 9 (.load cZ false 1), .o 10 (.tU 76 [cz]), .c 11 fW [dA,bX], .m 4 dg]) .ret)
abbrev QBG:AC:= .seq (.run [.o 18 (.aq dd 0), .o 19 (.load dF false 1)]) (.cond ei (.seq (.run [.m 20 bZ, .m 21 bu, .o 22 (.aq dd 1), .o 23 (.load ey false 1), .c 24 ix [eo,ep], .o 25 (.du [.dN] 1 1 [(0,eH)]), .o 26 (.app 1 8 ew eI), .m 5 fk]) (.exit 1)) .skip)
abbrev QBK:AC:= .seq (.run [(.o 4 (.mv (.k (.int .i64 (-1)))))]) .ret
abbrev QBR:AC:= .seq (.run [.m 28 bu, .o 29 (.aq dd 2), .o 30 (.load gd true 4), .c 31 jF [gb,gD], .m 27 gp, .o 32 (.ext fm 0), .o 33 (.ext fm 1), .m 8 gL, .m 9 gE]) (.seq (.seq (.run [.m 34 dA, .o 35 (.un .not iA)]) (.cond gM QBK .skip)) (.seq (.run [.m 36 cZ, .o 10 (.alloc [(.int .i64 0)]), .op none none (.store bX ie 1)]) (.run [.m 37 bZ, .o 38 (.du [.dN] 1 1 [(0,bX)]), .o 39 (.app 1 8 iY jN), .m 5 jy])))
abbrev QBW:AC:= .seq (.block 1 (.seq (.run [.o 16 (.cq c6 cO 6), .o 17 (.load dn true 6), .o 7 (.alloc [(.bool false),(.str []),(.int .i64 0),(.int .i64 0),(.str []),(.slice .full 0 [])]), .op none none (.store dd dG 6)]) (.seq QBG QBR))) (.run [.o 40 (.bin .add cO (.k (.int .i64 1))), .m 14 kd])
abbrev QBY:AC:= .seq (.run [.o 15 (.bin .lss cO de)]) (.seq (.cond dE .skip (.exit 0)) QBW)
abbrev QC5:AC:= .seq (.run [(.o 4 (.mv (.k (.int .i64 (-1)))))]) .ret
abbrev QC7:AC:= .cond lV (.seq (.run [.m 47 bu, .o 48 (.bO mL), .o 49 (.aq lu 6), .o 50 (.aq lx 0), .op none none (.store lW (.k (.int .i64 5)) 1)]) QC5) .skip
abbrev QCA:AC:= .par [.m 55 bu, .m 56 bu, .o 57 (.bO n6), .o 58 (.aq pk 0), .o 59 (.load oG false 1), .o 60 (.aq cz 4), .o 61 (.load p7 false 1), .c 62 ic [mM,rI], .m 63 bZ, .o 64 (.aq cz 0), .o 65 (.load rK false 1), .c 66 iT [lY,qR,rJ,uR], .m 4 wH] [(1,0),(2,0),(3,0),(4,0),(5,0),(6,0),(7,0),(0,0),(8,0),(9,0),(10,1),(11,0),(12,0)]
abbrev QCD:AC:= .seq (.seq (.run [.m 41 bu, .o 42 (.bO jO), .o 43 (.aq kF 4), .o 44 (.load kq false 1), .o 45 (.len lf), .o 46 (.bin .gtr lU (.k (.int .i64 100)))]) QC7) (.seq (.run [.m 51 bu, .o 52 (.aq cz 0), .o 53 (.load lh false 1),(.c 54 dV [lg,ly,(.k (.slice .full 0 []))])]) (.seq QCA .ret))
abbrev QCE:AC:= .seq (.seq (.run [.o 11 (.aq cz 10), .o 12 (.load dg false 1), .o 13 (.len c6), .o 14 (.mv (.k (.int .i64 0)))]) (.block 0 (.loop QBY))) QCD
abbrev QCG:AC:= .seq (.run [.o 3 (.box bx), .o 4 (.mv (.k (.int .i64 0)))]) (.seq (.run [.o 5 (.mv (.k (.slice .full 0 [])))]) QCE)
abbrev QCM:AC:= .seq (.run [.m 10 bu, .o 11 (.aq cz 0), .o 12 (.load dg false 1),(.c 13 dV [bX,c6,(.k (.slice .full 0 []))])]) (.seq (.run [.o 4 (.mv (.k (.int .i64 0)))]) .ret)
abbrev QCW:AC:= .seq (.seq (.run [.m 21 dz]) (.cond eo (.run [.m 22 bu, .o 23 (.aq cz 0), .o 24 (.load ep false 1), .m 25 bZ, .o 26 (.du [(.int .i64 0)] 1 1 [(0,eI)]), .c 27 dV [ey,eH,fk]]) .skip)) (.seq (.run [.m 28 bZ, .m 4 gb]) .ret)
abbrev QCZ:AC:= .seq (.run [.o 3 (.box bx), .o 4 (.mv (.k (.int .i64 0)))]) (.seq (.seq (.run [.o 7 (.aq cz 9), .o 8 (.load dd false 1), .o 9 (.un .not cZ)]) (.cond dA QCM .skip)) (.seq (.run [.m 15 bu, .o 16 (.aq cz 5), .o 17 (.load dn true 4), .c 18 jF [dE,dG], .m 14 dF, .o 19 (.ext cO 0), .o 20 (.ext cO 1), .m 5 ei, .m 6 ew]) QCW))
abbrev QD5:AC:= .par [.m 21 bu, .o 22 (.bO eo), .o 23 (.aq ey 0), .o 24 (.load ep false 1), .o 25 (.bO eH), .o 26 (.aq eI 2), .o 27 (.load fk false 1), .o 28 (.aq cz 16), .o 29 (.load gb false 1), .o 30 (.bin .sub gd (.k (.int .i64 1))), .o 31 (.cq fm gD 17), .o 32 (.aq gp 15), .o 33 (.load gL false 1), .m 4 gE] [(0,0),(1,0),(2,0),(3,0),(4,0),(5,0),(6,0),(7,0),(8,0),(9,0),(10,0),(11,0),(12,0),(13,0)]
abbrev QDF:AC:= .par [.m 49 bu, .o 50 (.bO lx), .o 51 (.aq lW 0), .o 52 (.load lg false 1), .o 53 (.aq cz 13), .o 54 (.load ly false 1), .o 55 (.aq bZ 3), .o 56 (.load lY false 1), .c 57 og [lh,lX,n6], .m 48 pk, .o 58 (.ext lu 0), .o 59 (.ext lu 1), .m 6 oG, .m 7 mM] [(0,0),(1,0),(2,0),(3,0),(4,0),(5,0),(6,0),(7,0),(8,0),(9,0),(10,0),(11,0),(12,0),(13,0)]
abbrev QDL:AC:= .par [.m 63 bu, .o 64 (.bO rJ), .o 65 (.aq rK 6), .o 66 (.aq uR 2), .o 67 (.load wH false 1), .m 68 bu, .o 69 (.bO uS), .o 70 (.aq yk 2), .o 71 (.load yl false 1), .o 72 (.len CA), .o 73 (.bin .geq wI Aq)] [(0,0),(1,0),(2,0),(3,0),(4,0),(5,0),(6,0),(7,0),(8,0),(9,0),(10,0)]
abbrev QDO:AC:= .seq (.run [(.o 4 (.mv (.k (.int .i64 (-1)))))]) .ret
abbrev QDQ:AC:= .cond As (.seq (.run [.m 74 bu, .o 75 (.bO CC), .o 76 (.aq CD 6), .o 77 (.aq Au 0), .op none none (.store CF (.k (.int .i64 3)) 1)]) QDO) .skip
abbrev QDS:AC:= .par [.m 78 bu, .o 79 (.bO ym), .o 80 (.aq EF 2), .o 81 (.load EG false 1), .m 82 bu, .o 83 (.bO H9), .o 84 (.aq Ia 6), .o 85 (.aq Ib 2), .o 86 (.load Ic false 1), .o 87 (.cq EH Ie 1), .o 88 (.load Ig false 1), .m 8 Ih] [(0,0),(1,0),(2,0),(3,0),(4,0),(5,0),(6,0),(7,0),(8,0),(9,0),(10,0),(11,0)]
abbrev QE0:AC:= .seq (.run [.m 89 bu, .o 90 (.bO CG), .o 91 (.aq EI 6), .o 92 (.aq Ii 2), .o 93 (.load Np false 1), .o 94 (.bin .add Td (.k (.int .i64 1))), .o 95 (.bO CG), .o 96 (.aq Tf 6), .o 97 (.aq aaT 2), .op none none (.store aaU Te 1)]) (.seq (.run [.m 98 bu, .o 99 (.aq bZ 3), .o 100 (.load aaW false 1), .c 101 ix [aaV,Vn], .m 102 cZ, .o 103 (.bO Vo), .op none none (.store Vq Vp 1)]) (.seq (.run [.m 104 bu, .o 105 (.aq bZ 0), .o 106 (.load Vs false 1), .m 107 cZ, .o 108 (.du [(.int .i64 0)] 1 1 [(0,Vu)]), .c 109 dV [Vr,Vt,Vv]]) (.seq (.run [.o 110 (.aq cz 15), .o 111 (.load Vw false 1), .m 4 Vx]) .ret)))
abbrev QE5:AC:= .cond kF (.seq (.run [.m 44 bu, .o 45 (.aq bZ 0), .o 46 (.load lU false 1),(.c 47 dV [lf,lV,(.k (.slice .full 0 []))])]) (.seq QDF (.seq (.run [.m 60 dz, .m 4 p7]) .ret))) (.seq (.run [.o 62 (.bin .eql cO (.k (.int .i64 2))), .m 61 qR]) (.cond rI (.seq (.seq QDL QDQ) (.seq QDS QE0)) .skip))
abbrev QE7:AC:= .cond iA (.seq (.run [.m 36 bu, .o 37 (.aq bZ 0), .o 38 (.load iY false 1),(.c 39 dV [ie,jN,(.k (.slice .full 0 []))])]) (.seq (.run [.o 40 (.aq cz 16), .o 41 (.load kd false 1), .m 4 jO]) .ret)) (.seq (.run [.o 43 (.bin .eql cO (.k (.int .i64 10))), .m 42 kq]) QE5)
abbrev QE9:AC:= .cond dE (.seq (.run [.m 17 bu, .o 18 (.aq bZ 0), .o 19 (.load dF false 1),(.c 20 dV [dG,ei,(.k (.slice .full 0 []))])]) (.seq QD5 .ret)) (.seq (.run [.o 35 (.bin .eql cO (.k (.int .i64 8))), .m 34 gM]) QE7)
abbrev QEB:AC:= .block 0 (.seq (.run [.o 16 (.bin .eql cO (.k (.int .i64 7))), .m 15 dn]) QE9)
abbrev QEG:AC:= .seq (.run [(.o 4 (.mv (.k (.int .i64 (-1)))))]) .ret
abbrev QEX:AC:= .seq (.seq (.run [.m 153 dA, .o 154 (.bin .neq aeV (.k (.int .i64 0)))]) (.cond aeW (.seq (.run [.o 155 (.aq bZ 11), .o 156 (.load aeX false 1), .o 157 (.aq cz 15), .o 158 (.load aeZ false 1), .c 159 pF [aeY,ae0], .m 4 ae1]) .ret) .skip)) (.seq (.run [.o 160 (.aq bZ 12), .o 161 (.load ae2 false 1), .o 162 (.aq cz 15), .o 163 (.load ae4 false 1), .c 164 pF [ae3,ae5], .m 4 ae6]) .ret)
abbrev QF4:AC:= .cond ae7 (.seq (.run [.m 167 dA, .o 168 (.bin .neq ae9 (.k (.int .i64 0)))]) (.cond afa (.seq (.run [.o 169 (.aq bZ 11), .o 170 (.load afb false 1), .o 171 (.aq bZ 0), .o 172 (.load afd false 1), .c 173 pF [afc,afe], .m 4 aff]) .ret) .skip)) .skip
abbrev QF6:AC:= .cond aeT QEX (.seq (.run [.o 166 (.bin .eql DB (.k (.int .i64 6))), .m 165 ae8]) QF4)
abbrev QF8:AC:= .cond aeF (.run [.m 139 bu, .m 140 bu, .o 141 (.bO aeI), .o 142 (.aq aeJ 6), .o 143 (.aq aeK 3), .o 144 (.load aeL false 1), .m 145 dA, .o 146 (.du [(.int .i64 0)] 1 1 [(0,aeN)]), .o 147 (.app 1 8 aeM aeO), .o 148 (.bO aeH), .o 149 (.aq aeQ 6), .o 150 (.aq aeR 3), .op none none (.store aeS aeP 1)]) (.seq (.run [.o 152 (.bin .eql DB (.k (.int .i64 5))), .m 151 aeU]) QF6)
abbrev QFA:AC:= .cond VM (.run [.m 131 bu, .o 132 (.aq bZ 3), .o 133 (.load aeA false 1), .c 134 ix [aez,aeB], .m 135 dA, .o 136 (.bO aeC), .op none none (.store aeE aeD 1)]) (.seq (.run [.o 138 (.bin .eql DB (.k (.int .i64 3))), .m 137 aeG]) QF8)
abbrev QFC:AC:= .block 1 (.seq (.run [.o 130 (.bin .eql DB (.k (.int .i64 1))), .m 129 VN]) QFA)
abbrev QFI:AC:= .seq (.seq (.run [.m 119 bX, .o 120 (.un .not VE)]) (.cond VF QEG .skip)) (.seq (.run [.m 121 bu, .o 122 (.aq bZ 0), .o 123 (.load VH false 1), .m 124 dA, .o 125 (.du [(.int .i64 0)] 1 1 [(0,VJ)]), .c 126 dV [VG,VI,VK]]) (.seq (.seq (.run [.o 127 (.aq bZ 1), .o 128 (.load VL false 1)]) QFC) (.seq (.run [.o 174 (.aq cz 15), .o 175 (.load afg false 1), .m 4 afh]) .ret)))
abbrev QFM:AC:= .seq (.run [.o 3 (.box bx), .o 4 (.mv (.k (.int .i64 0)))]) (.seq (.run [.o 11 (.aq cz 0), .o 12 (.load dg true 13), .o 5 (.alloc [(.int .i64 0),(.int .i64 0),(.slice .full 0 []),(.str []),(.str []),(.int .i64 0),(.int .i64 0),(.str []),(.slice .full 0 []),(.bool false),(.slice .full 0 []),(.slice .full 0 []),(.slice .full 0 [])]), .op none none (.store bZ c6 13)]) (.seq (.seq (.run [.o 13 (.aq bZ 1), .o 14 (.load de false 1)]) QEB) (.seq (.run [.m 113 bu, .o 114 (.aq bZ 5), .o 115 (.load Vz true 4), .c 116 jF [Vy,VA], .m 112 VB, .o 117 (.ext Nq 0), .o 118 (.ext Nq 1), .m 9 VC, .m 10 VD]) QFI)))
abbrev QFP:AC:= .par [.m 12 bu, .m 13 bu, .o 14 (.bO de), .o 15 (.aq cO 4), .o 16 (.load dE false 1), .m 17 bu, .o 18 (.bO dG), .o 19 (.aq dF 4), .o 20 (.load ei false 1), .o 21 (.len ew), .o 22 (.bin .sub eo (.k (.int .i64 1))), .o 23 (.C9 1 dn none (some ey)), .o 24 (.bO c6), .o 25 (.aq eH 4), .op none none (.store eI ep 1)] [(0,0),(1,0),(2,0),(3,0),(4,0),(5,0),(6,0),(7,0),(8,0),(9,0),(10,0),(11,0),(12,0),(13,0),(14,0)]
abbrev QFT:AC:= .seq (.run [(.o 4 (.mv (.k (.int .i64 (-1)))))]) .ret
abbrev QFV:AC:= .cond fm (.seq (.run [.m 28 bu, .o 29 (.bO gb), .o 30 (.aq gd 6), .o 31 (.aq gD 0), .op none none (.store gp (.k (.int .i64 1)) 1)]) QFT) .skip
abbrev QG4:AC:= .seq (.seq (.run [.o 43 (.aq dz 0), .o 44 (.aq kq 3), .o 45 (.load lf false 1), .o 46 (.bin .neq lU (.k (.str [])))]) (.cond lV (.run [.m 47 bu, .o 48 (.aq dz 0), .o 49 (.aq lu 3), .o 50 (.load lx false 1), .c 51 ix [mL,lW], .m 52 bx, .o 53 (.bO lg), .op none none (.store ly lh 1)]) .skip)) (.seq (.run [.o 54 (.aq dz 15), .o 55 (.load lX false 1), .m 4 lY]) .ret)
abbrev QG6:AC:= .seq (.seq (.run [.m 26 bZ, .o 27 (.bin .eql fk (.k (.int .i64 0)))]) QFV) (.seq (.run [.m 32 bu, .o 33 (.bO gL), .o 34 (.aq gE 0), .o 35 (.load iA false 1), .o 36 (.bO gM), .o 37 (.aq ie 2), .o 38 (.load iY false 1), .m 39 bZ, .o 40 (.bin .sub jy (.k (.int .i64 1))), .o 41 (.cq jN kd 17), .o 42 (.load jO true 17), .o 6 (.alloc [(.int .i64 0),(.int .i64 0),(.slice .full 0 []),(.str []),(.str []),(.int .i64 0),(.int .i64 0),(.str []),(.slice .full 0 []),(.bool false),(.slice .full 0 []),(.slice .full 0 []),(.slice .full 0 []),(.int .i64 0),(.int .i64 0),(.int .i64 0),(.int .i64 0)]), .op none none (.store dz kF 17)]) QG4)
abbrev QG9:AC:= .seq (.run [.o 4 (.mv (.k (.int .i64 0)))]) (.seq (.run [.m 7 bu, .c 8 kx [dd], .o 9 (.bO cZ), .o 10 (.aq dA 3), .o 11 (.load bX false 1), .m 5 dg]) (.seq QFP QG6))
abbrev QGD:AC:= .seq (.run [(.o 7 (.build [(.int .i64 0),(.int .i64 0)] [(0,(1,(.k (.int .i64 1))))])), .op none none (.store dv dd 2)]) .ret
abbrev QGV:AC:= .seq (.seq (.run [.o 20 (.aq cz 0), .o 21 (.load ew false 1), .o 22 (.bin .eql eo (.k (.int .i64 0)))]) (.cond ey (.run [.o 23 (.load bx true 2), .c 24 tf [ep], .op none none (.store cz eH 2)]) .skip)) (.seq (.run [.o 25 (.load cz true 2), .op none none (.store dv eI 2)]) .ret)
abbrev QGW:AC:= .seq (.seq (.run [.o 15 (.aq cz 0), .o 16 (.load dE false 1), .o 17 (.bin .eql dn (.k (.int .i64 0)))]) (.cond dG (.run [.o 18 (.load bx true 2), .c 19 uM [dF], .op none none (.store cz ei 2)]) .skip)) QGV
abbrev QGX:AC:= .seq (.seq (.run [.o 10 (.aq cz 0), .o 11 (.load bX false 1), .o 12 (.bin .eql dg (.k (.int .i64 0)))]) (.cond c6 (.run [.o 13 (.load bx true 2), .c 14 pQ [de], .op none none (.store cz cO 2)]) .skip)) QGW
abbrev QH0:AC:= .seq (.run [.o 1 (.box bu), .o 2 (.alloc [(.int .i64 0),(.int .i64 0)])]) (.seq (.seq (.run [.o 4 (.load bx true 2), .c 5 qI [fB], .o 6 (.un .not bZ)]) (.cond dz QGD .skip)) (.seq (.run [.o 8 (.load bx true 2), .c 9 lA [cZ], .o 3 (.alloc [(.int .i64 0),(.int .i64 0)]), .op none none (.store cz dA 2)]) QGX))
abbrev QH2:AC:= .par [.m 7 bx, .o 8 (.bin .lss dd (.k (.int .i64 1))), .m 9 cZ, .g 10 9 false (.aq dv 3), .g 11 9 false (.load bX false 1), .g 12 9 false (.len dg), .g 13 9 false (.aq dv 0), .g 14 9 false (.load de false 1), .d 15 9 false wD [cO], .g 16 9 false (.bin .neq c6 dE), .o 17 (.pick dA (.k (.bool true)) dn)] [(0,0),(1,0),(2,0),(6,0),(7,0),(8,0),(3,0),(4,1),(5,0),(9,0),(10,0)]
abbrev QH5:AC:= .cond dG (.seq (.run [.o 4 (.mv (.k (.bool false)))]) .ret) .skip
abbrev QHE:AC:= .cond gD (.seq (.run [.o 32 (.aq dv 1), .o 33 (.load gL false 1), .o 34 (.bin .eql gE (.k (.int .i64 0))), .m 35 iA, .g 36 35 true (.aq dv 2), .g 37 35 true (.load ie false 1), .d 38 35 true nC [iY], .o 39 (.pick gM jN (.k (.bool false))), .m 4 jy]) .ret) .skip
abbrev QHG:AC:= .cond ew (.seq (.run [.o 22 (.aq dv 1), .o 23 (.load ey false 1), .o 24 (.bin .geq ep (.k (.int .i64 0))), .m 25 eH, .g 26 25 true (.aq dv 2), .g 27 25 true (.load fk false 1), .g 28 25 true (.bin .eql fm (.k (.str []))), .o 29 (.pick eI gb (.k (.bool false))), .m 4 gd]) .ret) (.seq (.run [.o 31 (.bin .eql ei (.k (.int .i64 2))), .m 30 gp]) QHE)
abbrev QHI:AC:= .block 0 (.seq (.run [.o 21 (.bin .eql ei (.k (.int .i64 1))), .m 20 eo]) QHG)
abbrev QHN:AC:= .cond mL (.seq (.run [.o 4 (.mv (.k (.bool false)))]) .ret) .skip
abbrev QHW:AC:= .cond mM (.seq (.run [.o 4 (.mv (.k (.bool false)))]) .ret) .skip
abbrev QHY:AC:= .seq (.run [.o 53 (.cq lx lg 4), .o 54 (.load ly true 4), .o 6 (.alloc [(.int .i64 0),(.int .i64 0),(.str []),(.slice .full 0 [])]), .op none none (.store dz lX 4)]) (.seq (.run [.o 55 (.load dz true 4), .m 56 bx, .o 57 (.bin .sub n6 (.k (.int .i64 1))), .c 58 pE [lY,pk], .o 59 (.un .not oG)]) QHW)
abbrev QI2:AC:= .seq (.cond lh .skip (.exit 1)) (.seq (.block 2 QHY) (.run [.o 60 (.bin .add lg (.k (.int .i64 1))), .m 51 p7]))
abbrev QI6:AC:= .seq (.run [.o 48 (.aq dv 3), .o 49 (.load lu false 1), .o 50 (.len lx), .o 51 (.mv (.k (.int .i64 0)))]) (.block 1 (.loop (.seq (.run [.o 52 (.bin .lss lg lW)]) QI2)))
abbrev QI9:AC:= .seq QI6 (.seq (.run [.o 4 (.mv (.k (.bool true)))]) .ret)
abbrev QIA:AC:= .seq (.seq (.run [.o 40 (.aq dv 1), .o 41 (.load kd false 1), .o 42 (.bin .neq jO (.k (.int .i64 0))), .m 43 kF, .g 44 43 false (.aq dv 2), .g 45 43 false (.load lf false 1), .g 46 43 false (.bin .neq lU (.k (.str []))), .o 47 (.pick kq (.k (.bool true)) lV)]) QHN) QI9
abbrev QID:AC:= .seq (.run [.o 2 (.box bu), .o 4 (.mv (.k (.bool false)))]) (.seq (.seq QH2 QH5) (.seq (.seq (.run [.o 18 (.aq dv 0), .o 19 (.load dF false 1)]) QHI) QIA))
open Go.Proofs
theorem Gp:Has Tryz.prog wA 10 [(2,none)] Q7Q:=⟨Tryz.f38,by kernel_rfl,by kernel_rfl⟩
theorem Gq:Has Tryz.prog wB 40 [(0,(some (true,2)))] Q7Y:=⟨Tryz.f39,by kernel_rfl,by kernel_rfl⟩
theorem zu:Has Tryz.prog jo 23 [(4,none)] Q8F:=⟨Tryz.f40,by kernel_rfl,by kernel_rfl⟩
theorem oH:Has Tryz.prog ga 19 [(4,none)] Q8P:=⟨Tryz.f41,by kernel_rfl,by kernel_rfl⟩
theorem rn:Has Tryz.prog kv 69 [(4,none)] Q9N:=⟨Tryz.f42,by kernel_rfl,by kernel_rfl⟩
theorem Ik:Has Tryz.prog kD 55 [(2,none)] QAC:=⟨Tryz.f43,by kernel_rfl,by kernel_rfl⟩
theorem yn:Has Tryz.prog iT 82 [(8,none)] QB1:=⟨Tryz.f44,by kernel_rfl,by kernel_rfl⟩
theorem zv:Has Tryz.prog ic 12 [(4,none)] QB5:=⟨Tryz.f45,by kernel_rfl,by kernel_rfl⟩
theorem yo:Has Tryz.prog oA 67 [(4,none)] QCG:=⟨Tryz.f46,by kernel_rfl,by kernel_rfl⟩
theorem xl:Has Tryz.prog nY 29 [(4,none)] QCZ:=⟨Tryz.f47,by kernel_rfl,by kernel_rfl⟩
theorem gN:Has Tryz.prog p6 176 [(4,none)] QFM:=⟨Tryz.f48,by kernel_rfl,by kernel_rfl⟩
theorem qh:Has Tryz.prog nZ 56 [(4,none)] QG9:=⟨Tryz.f49,by kernel_rfl,by kernel_rfl⟩
theorem nM:Has Tryz.prog wC 26 [(2,(some (true,2)))] QH0:=⟨Tryz.f53,by kernel_rfl,by kernel_rfl⟩
theorem zk:Has Tryz.prog pE 61 [(4,none)] QID:=⟨Tryz.f55,by kernel_rfl,by kernel_rfl⟩
abbrev QIM:AC:= .cond de (.seq (.run [.o 2 (.mv (.k (.bool false)))]) .ret) .skip
abbrev QIR:AC:= .seq (.block 1 (.seq (.run [.o 9 (.cq bZ dd 1), .o 10 (.load dA false 1), .m 4 bX]) (.seq (.run [.m 11 fB, .c 12 nC [dg], .o 13 (.un .not c6)]) QIM))) (.run [.o 14 (.bin .add dd (.k (.int .i64 1))), .m 7 cO])
abbrev QIV:AC:= .block 0 (.loop (.seq (.run [.o 8 (.bin .lss dd dz)]) (.seq (.cond cZ .skip (.exit 0)) QIR)))
abbrev QIZ:AC:= .seq (.seq (.run [.m 5 bu, .o 6 (.len bZ), .o 7 (.mv (.k (.int .i64 0)))]) QIV) (.seq (.run [.o 2 (.mv (.k (.bool true)))]) .ret)
abbrev QJ0:AC:= .seq (.run [.o 2 (.mv (.k (.bool false)))]) QIZ
abbrev QJ5:AC:= .cond dn (.seq (.run [.o 2 (.mv (.k (.bool false)))]) .ret) .skip
abbrev QJ9:AC:= .seq (.seq (.run [.m 3 bu, .o 4 (.uv cz), .o 5 (.bin .lss fB (.k (.int .i64 1))), .m 6 bZ, .g 7 6 false (.mv bu), .g 8 6 false (.uv dd), .g 9 6 false (.bin .gtr cZ (.k (.int .i64 8))), .o 10 (.pick dz (.k (.bool true)) dA), .m 11 bX, .g 12 11 false (.mv bu), .g 13 11 false (.zJ c6 (.k (.int .i64 0))), .d 14 11 false qK [de], .g 15 11 false (.un .not cO), .o 16 (.pick dg (.k (.bool true)) dE)]) QJ5) (.seq (.run [.m 17 bu, .c 18 An [dG,(.k (.int .i64 0))], .m 19 bu, .o 20 (.uv ei), .o 21 (.bin .eql dF ew), .m 22 eo, .g 23 22 true (.mv bu), .d 24 22 true yh [ep], .g 25 22 true (.un .not eH), .o 26 (.pick ey eI (.k (.bool false))), .m 2 fk]) .ret)
abbrev QJA:AC:= .seq (.run [.o 2 (.mv (.k (.bool false)))]) QJ9
abbrev QJF:AC:= .cond dE (.seq (.run [.o 6 (.mv (.k (.bool false)))]) .ret) .skip
abbrev QJM:AC:= .par [.m 29 bu, .o 30 (.bO gd), .o 31 (.aq gD 0), .o 32 (.load gp false 1), .o 33 (.bin .gtr gL (.k (.int .i64 200))), .m 34 gE, .g 35 34 false (.aq cZ 0), .g 36 34 false (.load gM false 1), .g 37 34 false (.mv bu), .g 38 34 false (.bO iY), .g 39 34 false (.aq jN 0), .g 40 34 false (.load jy false 1), .g 41 34 false (.bin .neq ie kd), .o 42 (.pick iA (.k (.bool true)) jO), .m 43 kF, .g 44 43 false (.aq cZ 2), .g 45 43 false (.load lf false 1), .d 46 43 false mJ [lU], .g 47 43 false (.un .not lV), .o 48 (.pick kq (.k (.bool true)) mL), .m 49 lu, .g 50 49 false (.load cZ true 13), .d 51 49 false ti [lW], .g 52 49 false (.un .not lg), .o 53 (.pick lx (.k (.bool true)) lh)] [(0,0),(1,0),(2,0),(3,0),(4,0),(5,0),(6,0),(7,0),(8,0),(9,0),(10,0),(11,0),(12,0),(13,0),(14,0),(15,0),(16,0),(17,0),(18,0),(19,0),(20,0),(21,0),(22,0),(23,0),(24,0)]
abbrev QJP:AC:= .cond ly (.seq (.run [.o 6 (.mv (.k (.bool false)))]) .ret) .skip
abbrev QJU:AC:= .cond yk (.seq (.run [.o 6 (.mv (.k (.bool false)))]) .ret) .skip
abbrev QJW:AC:= .seq (.seq QJM QJP) (.seq (.run [.m 54 bu, .o 55 (.aq cZ 11), .o 56 (.load lY false 1), .m 57 dv, .o 58 (.bin .add pk (.k (.int .i64 1))), .c 59 kb [lX,n6,oG], .o 60 (.un .not mM), .m 61 p7, .g 62 61 false (.mv bu), .g 63 61 false (.aq cZ 12), .g 64 61 false (.load rJ false 1), .g 65 61 false (.mv dv), .g 66 61 false (.bin .add uR (.k (.int .i64 1))), .d 67 61 false kb [qR,rK,wH], .g 68 61 false (.un .not wI), .o 69 (.pick rI (.k (.bool true)) uS)]) QJU)
abbrev QJY:AC:= .seq (.run [.o 20 (.cq dn dF 13), .o 21 (.load ew true 13), .o 8 (.alloc [(.int .i64 0),(.int .i64 0),(.slice .full 0 []),(.str []),(.str []),(.int .i64 0),(.int .i64 0),(.str []),(.slice .full 0 []),(.bool false),(.slice .full 0 []),(.slice .full 0 []),(.slice .full 0 [])]), .op none none (.store cZ eo 13)]) (.seq (.run [.m 22 bu, .o 23 (.bO ey), .o 24 (.aq ep 0), .o 25 (.load eH false 1), .o 26 (.bin .add eI (.k (.int .i64 1))), .o 27 (.bO ey), .o 28 (.aq fm 0), .op none none (.store gb fk 1)]) QJW)
abbrev QK2:AC:= .seq (.cond ei .skip (.exit 0)) (.seq (.block 1 QJY) (.run [.o 70 (.bin .add dF (.k (.int .i64 1))), .m 18 yl]))
abbrev QK6:AC:= .seq (.run [.m 16 bx, .o 17 (.len dn), .o 18 (.mv (.k (.int .i64 0)))]) (.block 0 (.loop (.seq (.run [.o 19 (.bin .lss dF dG)]) QK2)))
abbrev QK9:AC:= .seq QK6 (.seq (.run [.o 6 (.mv (.k (.bool true)))]) .ret)
abbrev QKA:AC:= .seq (.seq (.run [.m 9 dv, .o 10 (.bin .gtr dA (.k (.int .i64 12))), .m 11 bX, .g 12 11 true (.mv bx), .g 13 11 true (.len c6), .g 14 11 true (.bin .gtr de (.k (.int .i64 0))), .o 15 (.pick dg cO (.k (.bool false)))]) QJF) QK9
abbrev QKB:AC:= .seq (.run [.o 6 (.mv (.k (.bool false)))]) QKA
abbrev QKE:AC:= .seq (.run [.m 3 bu,(.o 4 (.build [(.int .i64 0),(.int .i64 0),(.str []),(.slice .full 0 [])] [(0,(1,(.k (.int .i64 1)))),(1,(1,cz))])), .op none none (.store dv fB 4)]) .ret
abbrev QKF:AC:= .seq (.run [.o 2 (.alloc [(.int .i64 0),(.int .i64 0),(.str []),(.slice .full 0 [])])]) QKE
abbrev QKI:AC:= .seq (.run [.m 3 bu,(.o 4 (.build [(.int .i64 0),(.int .i64 0),(.str []),(.slice .full 0 [])] [(0,(1,(.k (.int .i64 2)))),(2,(1,cz))])), .op none none (.store dv fB 4)]) .ret
abbrev QKJ:AC:= .seq (.run [.o 2 (.alloc [(.int .i64 0),(.int .i64 0),(.str []),(.slice .full 0 [])])]) QKI
abbrev QKN:AC:= .seq (.run [.o 4 (.box bx), .o 5 (.box dv), .o 6 (.alloc [(.int .i64 0),(.int .i64 0),(.str []),(.slice .full 0 [])])]) (.seq (.run [.m 7 bu, .o 8 (.load fB true 4), .o 9 (.load bZ true 4), .o 10 (.du [(.int .i64 0),(.int .i64 0),(.str []),(.slice .full 0 [])] 4 2 [(0,cZ),(1,dA)]), .o 11 (.build [(.int .i64 0),(.int .i64 0),(.str []),(.slice .full 0 [])] [(0,(1,dd)),(3,(1,bX))]), .op none none (.store dz dg 4)]) .ret)
abbrev QKY:AC:= .seq (.seq (.run [.m 10 bZ, .o 11 (.aq dv 3), .o 12 (.load dg false 1), .o 13 (.len c6), .o 14 (.bin .lss bX de), .m 15 cO, .g 16 15 true (.mv bx), .g 17 15 true (.bin .leq dn (.k (.int .i64 20000))), .o 18 (.pick dE dG (.k (.bool false)))]) (.cond dF .skip (.exit 0))) (.seq (.block 1 (.run [.o 21 (.aq dv 3), .o 22 (.load eo false 1), .m 23 bZ, .o 24 (.cq ey ep 4), .o 25 (.load eH true 4), .m 26 bx, .c 27 jL [eI,fk], .m 1 fm])) (.run [.m 19 bZ, .o 20 (.bin .add ei (.k (.int .i64 1))), .m 5 ew]))
abbrev QL4:AC:= .seq (.seq (.run [.o 5 (.mv (.k (.int .i64 0)))]) (.block 0 (.loop QKY))) (.seq (.run [.m 28 bx, .m 4 gb]) .ret)
abbrev QL6:AC:= .seq (.run [.o 2 (.box bu), .o 4 (.mv (.k (.int .i64 0)))]) (.seq (.run [.o 6 (.aq dv 2), .o 7 (.load dz false 1), .m 8 bx, .c 9 ga [dd,cZ], .m 1 dA]) QL4)
abbrev QLJ:AC:= .par [.m 37 bu, .m 38 bu, .o 39 (.bO jN), .o 40 (.aq jy 2), .o 41 (.load kd false 1), .o 42 (.load dA true 17), .o 43 (.du [(.int .i64 0),(.int .i64 0),(.slice .full 0 []),(.str []),(.str []),(.int .i64 0),(.int .i64 0),(.str []),(.slice .full 0 []),(.bool false),(.slice .full 0 []),(.slice .full 0 []),(.slice .full 0 []),(.int .i64 0),(.int .i64 0),(.int .i64 0),(.int .i64 0)] 17 1 [(0,kF)]), .o 44 (.app 17 240 jO kq), .o 45 (.bO iY), .o 46 (.aq lU 2), .op none none (.store lV lf 1)] [(1,0),(2,0),(3,0),(4,0),(5,0),(6,0),(7,0),(0,0),(8,0),(9,0),(10,0)]
abbrev QLK:AC:= .run [.o 47 (.aq bZ 13), .o 48 (.load mL false 1), .m 49 cZ, .o 50 (.aq dA 15), .o 51 (.load lW false 1), .o 52 (.aq bZ 16), .o 53 (.load lh false 1), .o 54 (.build [(.int .i64 0),(.int .i64 0),(.slice .full 0 []),(.str []),(.str []),(.int .i64 0),(.int .i64 0),(.str []),(.slice .full 0 []),(.bool false),(.slice .full 0 []),(.slice .full 0 []),(.slice .full 0 []),(.int .i64 0),(.int .i64 0),(.int .i64 0),(.int .i64 0)] [(13,(1,lu)),(14,(1,lx)),(15,(1,lg)),(16,(1,ly))]), .o 10 (.alloc [(.int .i64 0),(.int .i64 0),(.slice .full 0 []),(.str []),(.str []),(.int .i64 0),(.int .i64 0),(.str []),(.slice .full 0 []),(.bool false),(.slice .full 0 []),(.slice .full 0 []),(.slice .full 0 []),(.int .i64 0),(.int .i64 0),(.int .i64 0),(.int .i64 0)]), .op none none (.store bX lX 17)]
abbrev QLS:AC:= .seq (.seq (.run [.o 55 (.aq dd 1), .o 56 (.load lY false 1), .o 57 (.bin .eql n6 (.k (.int .i64 6)))]) (.cond pk (.run [.m 58 cZ, .m 59 cZ, .o 60 (.aq bX 15), .op none none (.store p7 oG 1), .o 61 (.aq bX 16), .op none none (.store rI mM 1)]) .skip)) (.seq (.run [.m 62 bu, .o 63 (.aq dd 11), .o 64 (.load rJ false 1), .o 65 (.load bX true 17), .c 66 jM [qR,rK,uR]]) (.run [.m 67 bu, .o 68 (.aq dd 12), .o 69 (.load uS false 1), .o 70 (.load bX true 17), .c 71 jM [wI,yk,yl]]))
abbrev QLV:AC:= .seq (.seq (.run [.m 27 dz, .o 28 (.bin .add fm (.k (.int .i64 1))), .m 29 bx, .o 30 (.len gd), .o 31 (.bin .lss gb gD)]) (.cond gp (.run [.m 32 cZ, .o 33 (.load dd true 13), .c 34 lT [gE], .o 35 (.bin .add gL iA), .o 36 (.aq dA 15), .op none none (.store ie gM 1)]) .skip)) (.seq QLJ (.seq QLK QLS))
abbrev QLZ:AC:= .seq (.run [.m 15 de, .o 16 (.cq dg de 13), .o 17 (.load dn true 13), .o 7 (.alloc [(.int .i64 0),(.int .i64 0),(.slice .full 0 []),(.str []),(.str []),(.int .i64 0),(.int .i64 0),(.str []),(.slice .full 0 []),(.bool false),(.slice .full 0 []),(.slice .full 0 []),(.slice .full 0 [])]), .m 6 dE, .op none none (.store dd dG 13)]) (.seq (.run [.m 18 bu, .o 19 (.bO dF), .o 20 (.aq ei 2), .o 21 (.load ew false 1), .o 22 (.len eo), .o 23 (.bin .add ey (.k (.int .i64 1))), .m 8 ep]) (.seq (.run [.o 24 (.load bZ true 17), .o 9 (.alloc [(.int .i64 0),(.int .i64 0),(.slice .full 0 []),(.str []),(.str []),(.int .i64 0),(.int .i64 0),(.str []),(.slice .full 0 []),(.bool false),(.slice .full 0 []),(.slice .full 0 []),(.slice .full 0 []),(.int .i64 0),(.int .i64 0),(.int .i64 0),(.int .i64 0)]), .op none none (.store dA eH 17)]) (.seq (.run [.o 25 (.load dd true 13), .o 26 (.aq dA 0), .op none none (.store fk eI 13)]) QLV)))
abbrev QM3:AC:= .seq (.cond cO .skip (.exit 0)) (.seq (.block 1 QLZ) (.run [.o 72 (.bin .add de (.k (.int .i64 1))), .m 13 Aq]))
abbrev QM7:AC:= .seq (.run [.m 11 bx, .o 12 (.len dg), .o 13 (.mv (.k (.int .i64 0)))]) (.block 0 (.loop (.seq (.run [.o 14 (.bin .lss de c6)]) QM3)))
abbrev QM8:AC:= .seq (.run [.o 5 (.box dv)]) QM7
abbrev QMD:AC:= .cond dA (.seq (.run [.o 4 (.mv (.k (.slice .full 0 [])))]) .ret) .skip
abbrev QMK:AC:= .par [.o 21 (.aq dv 0), .o 22 (.load eo false 1), .c 23 kj [ey], .o 24 (.load dz true 5), .c 25 sf [eH], .o 26 (.app 1 16 ep eI), .m 4 fk] [(0,0),(1,0),(2,0),(3,1),(4,0),(5,0),(6,0)]
abbrev QMR:AC:= .seq (.block 1 (.seq (.run [.o 15 (.cq dg de 5), .o 16 (.load dE true 5), .o 6 (.alloc [(.str []),(.slice .full 0 []),(.slice .full 0 []),(.slice .full 0 []),(.slice .full 0 [])]), .op none none (.store dz dn 5)]) (.seq (.run [.o 17 (.aq dz 0), .o 18 (.load dG false 1), .m 19 bx, .o 20 (.bin .eql dF ei)]) (.cond ew (.seq QMK .ret) .skip)))) (.run [.o 27 (.bin .add de (.k (.int .i64 1))), .m 13 fm])
abbrev QMV:AC:= .block 0 (.loop (.seq (.run [.o 14 (.bin .lss de c6)]) (.seq (.cond cO .skip (.exit 0)) QMR)))
abbrev QMZ:AC:= .seq (.seq (.run [.o 10 (.aq dv 1), .o 11 (.load bX false 1), .o 12 (.len dg), .o 13 (.mv (.k (.int .i64 0)))]) QMV) (.seq (.run [.o 4 (.mv (.k (.slice .full 0 [])))]) .ret)
abbrev QN1:AC:= .seq (.run [.o 2 (.box bu), .o 4 (.mv (.k (.slice .full 0 [])))]) (.seq (.seq (.run [.o 7 (.load dv true 2), .c 8 qI [dd], .o 9 (.un .not cZ)]) QMD) QMZ)
abbrev QN3:AC:= .par [.m 5 bu, .o 6 (.bO bZ), .o 7 (.aq dz 3), .o 8 (.load dd false 1), .m 9 bx, .o 10 (.cq cZ dA 1), .o 11 (.load bX false 1), .m 12 bu, .o 13 (.bO c6), .o 14 (.aq de 4), .o 15 (.load cO false 1), .m 16 bx, .o 17 (.cq dE dn 1), .o 18 (.load dG false 1), .o 19 (.bin .lss dg dF)] [(0,0),(1,0),(2,0),(3,0),(4,0),(5,0),(6,0),(7,0),(8,0),(9,0),(10,0),(11,0),(12,0),(13,0),(14,0)]
abbrev QN9:AC:= .seq (.run [(.o 4 (.mv (.k (.int .i64 (-1)))))]) .ret
abbrev QNA:AC:= .seq (.seq QN3 (.cond ei (.seq (.run [.m 20 bu, .o 21 (.bO ew), .o 22 (.aq eo 3), .o 23 (.load ey false 1), .m 24 bx, .o 25 (.cq ep eH 1), .o 26 (.load eI false 1), .m 4 fk]) .ret) .skip)) QN9
abbrev QNB:AC:= .seq (.run [.o 4 (.mv (.k (.int .i64 0)))]) QNA
abbrev QNN:AC:= .block 1 (.seq (.run [.m 10 cZ, .m 5 bX]) (.seq (.run [.m 11 bx, .m 12 bu, .m 13 bZ, .o 14 (.cq c6 de 5), .o 15 (.load cO true 5),(.jb (some 16) none 11 [dE])]) (.cond dn (.seq (.run [.m 17 bZ, .m 4 dG]) .ret) .skip)))
abbrev QNQ:AC:= .seq (.cond dA .skip (.exit 0)) (.seq QNN (.run [.o 18 (.bin .add cZ (.k (.int .i64 1))), .m 8 dF]))
abbrev QNU:AC:= .seq (.run [.m 6 bu, .o 7 (.len dz), .o 8 (.mv (.k (.int .i64 0)))]) (.block 0 (.loop (.seq (.run [.o 9 (.bin .lss cZ dd)]) QNQ)))
abbrev QNW:AC:= .seq (.run [(.o 4 (.mv (.k (.int .i64 (-1)))))]) .ret
abbrev QNY:AC:= .seq (.run [.o 4 (.mv (.k (.int .i64 0)))]) (.seq QNU QNW)
abbrev QO2:AC:= .seq (.run [.o 2 (.box bu), .o 3 (.mv (.k (.bool false)))]) (.seq (.run [.o 4 (.aq dv 0), .o 5 (.load fB false 1), .o 6 (.load bx false 1), .o 7 (.bin .eql bZ dz), .m 3 dd]) .ret)
abbrev QO5:AC:= .par [.m 8 bZ, .o 9 (.bO cZ), .o 10 (.aq dA 2), .o 11 (.load bX false 1), .m 12 bZ, .o 13 (.bO c6), .o 14 (.aq de 1), .o 15 (.load cO false 1), .m 16 bx, .c 17 fO [dE,dn], .o 18 (.cq dg dG 1), .o 19 (.load dF false 1), .m 4 ei] [(4,0),(5,0),(6,0),(7,0),(8,0),(9,0),(0,0),(1,0),(2,0),(3,1),(10,0),(11,0),(12,0)]
abbrev QO8:AC:= .seq (.run [.o 4 (.mv (.k .dN))]) (.seq (.run [.m 6 bu, .c 7 kx [dz], .m 5 dd]) (.seq QO5 .ret))
abbrev QOG:AC:= .par [.m 30 bu, .m 31 bu, .o 32 (.bO gp), .o 33 (.aq gL 5), .o 34 (.load gE false 1), .m 35 cZ, .o 36 (.bO gM), .o 37 (.load ie false 1), .o 38 (.du [(.int .i64 0)] 1 1 [(0,iY)]), .o 39 (.app 1 8 iA jN), .o 40 (.bO gD), .o 41 (.aq kd 5), .op none none (.store jO jy 1)] [(1,0),(2,0),(3,0),(4,0),(5,0),(6,0),(7,0),(8,0),(9,0),(0,0),(10,0),(11,0),(12,0)]
abbrev QOL:AC:= .seq (.cond fm .skip (.exit 0)) (.seq (.block 1 (.seq (.run [.o 28 (.cq eH fk 1), .o 29 (.load gb false 1), .m 8 gd]) QOG)) (.run [.o 42 (.bin .add fk (.k (.int .i64 1))), .m 26 kF]))
abbrev QOM:AC:= .seq (.run [.o 27 (.bin .lss fk eI)]) QOL
abbrev QOQ:AC:= .par [.o 44 (.load cz true 4), .m 45 dz, .o 46 (.bO lU), .o 47 (.aq lV 1), .o 48 (.load mL false 1), .m 49 bu, .o 50 (.bO lx), .o 51 (.aq lW 5), .o 52 (.load lg false 1), .c 53 vK [lf,lu,lh], .m 43 ly, .o 54 (.ext kq 0), .o 55 (.ext kq 1), .m 9 lX, .m 10 lY] [(0,0),(1,0),(2,0),(3,0),(4,0),(5,0),(6,0),(7,0),(8,0),(9,0),(10,0),(11,0),(12,0),(13,0),(14,0)]
abbrev QOU:AC:= .seq (.run [.m 56 bX, .o 57 (.un .not n6)]) (.cond pk (.run [.m 58 bu, .o 59 (.bO oG), .o 60 (.aq mM 6), .o 61 (.aq p7 0), .op none none (.store rI (.k (.int .i64 4)) 1)]) .skip)
abbrev QOY:AC:= .seq QOQ (.seq QOU (.seq (.run [.m 62 dA, .m 63 bX, .m 4 qR, .m 5 rJ]) .ret))
abbrev QOZ:AC:= .seq (.seq (.run [.m 21 dz, .o 22 (.bO eo), .o 23 (.aq ey 2), .o 24 (.load ep false 1), .o 25 (.len eH), .o 26 (.mv (.k (.int .i64 0)))]) (.block 0 (.loop QOM))) QOY
abbrev QP0:AC:= .seq (.run [.m 13 bu, .m 14 bu, .o 15 (.bO cO), .o 16 (.aq dE 5), .o 17 (.load dn false 1),(.o 18 (.C9 1 dG none (some (.k (.int .i64 0))))), .o 19 (.bO de), .o 20 (.aq ei 5), .op none none (.store ew dF 1)]) QOZ
abbrev QP2:AC:= .seq (.run [.o 3 (.box bx), .o 4 (.mv (.k (.int .i64 0))), .o 5 (.mv (.k (.bool false)))]) (.seq (.run [.m 11 bu, .c 12 kx [dg], .m 6 c6]) QP0)
abbrev QP6:AC:= .seq (.run [.m 6 bu, .o 7 (.bO dz), .o 8 (.aq dd 3), .o 9 (.load cZ false 1), .m 10 bx, .c 11 mK [dA,bX]]) (.cond dg (.run [.m 12 bu, .m 13 bu, .o 14 (.bO de), .o 15 (.aq cO 6), .o 16 (.aq dE 4), .o 17 (.load dn false 1), .m 18 bx, .m 19 dv, .o 20 (.build [(.int .i64 0),(.slice .full 0 [])] [(0,(1,dF)),(1,(1,ei))]), .o 21 (.du [(.int .i64 0),(.slice .full 0 [])] 2 1 [(0,ew)]), .o 22 (.app 2 32 dG eo), .o 23 (.bO c6), .o 24 (.aq ep 6), .o 25 (.aq eH 4), .op none none (.store eI ey 1)]) .skip)
abbrev QPF:AC:= .cond ey (.seq (.run [.o 23 (.aq dA 0), .o 24 (.aq ep 0), .o 25 (.load eH false 1), .m 6 eI, .o 7 (.mv (.k (.bool true)))]) .ret) .skip
abbrev QPK:AC:= .seq (.block 1 (.seq (.run [.o 16 (.cq c6 cO 17), .o 17 (.load dn true 17), .o 9 (.alloc [(.int .i64 0),(.int .i64 0),(.slice .full 0 []),(.str []),(.str []),(.int .i64 0),(.int .i64 0),(.str []),(.slice .full 0 []),(.bool false),(.slice .full 0 []),(.slice .full 0 []),(.slice .full 0 []),(.int .i64 0),(.int .i64 0),(.int .i64 0),(.int .i64 0)]), .op none none (.store dA dG 17)]) (.seq (.run [.o 18 (.aq dA 0), .o 19 (.aq dF 2), .o 20 (.load ei false 1), .m 21 dv, .c 22 bY [ew,eo]]) QPF))) (.run [.o 26 (.bin .add cO (.k (.int .i64 1))), .m 14 fk])
abbrev QPO:AC:= .block 0 (.loop (.seq (.run [.o 15 (.bin .lss cO de)]) (.seq (.cond dE .skip (.exit 0)) QPK)))
abbrev QPS:AC:= .seq (.run [(.o 6 (.mv (.k (.int .i64 (-1))))), .o 7 (.mv (.k (.bool true)))]) .ret
abbrev QPX:AC:= .seq (.seq (.run [.m 27 bu, .o 28 (.bO fm), .o 29 (.aq gb 0), .o 30 (.aq gd 1), .o 31 (.load gD false 1), .m 32 bx, .o 33 (.cq gp gL 5), .o 34 (.aq gE 4), .o 35 (.load iA false 1), .m 36 dv, .c 37 bY [gM,ie]]) (.cond iY QPS .skip)) (.seq (.run [.o 6 (.mv (.k (.int .i64 0))), .o 7 (.mv (.k (.bool false)))]) .ret)
abbrev QPY:AC:= .seq (.seq (.run [.m 10 bu, .m 11 bx, .c 12 gB [bX,dg], .o 13 (.len c6), .o 14 (.mv (.k (.int .i64 0)))]) QPO) QPX
abbrev QPZ:AC:= .seq (.run [.o 6 (.mv (.k (.int .i64 0))), .o 7 (.mv (.k (.bool false)))]) QPY
abbrev QQ4:AC:= .cond dd (.seq (.run [.m 8 bu, .o 9 (.cq cZ (.k (.int .i64 0)) 13), .o 10 (.aq dA 0), .o 11 (.load bX false 1), .m 4 dg]) .ret) .skip
abbrev QQ8:AC:= .seq (.seq (.run [.m 5 bu, .o 6 (.len bZ), .o 7 (.bin .gtr dz (.k (.int .i64 0)))]) QQ4) (.seq (.run [.m 12 bx, .m 4 c6]) .ret)
abbrev QQ9:AC:= .seq (.run [.o 4 (.mv (.k (.int .i64 0)))]) QQ8
abbrev QQB:AC:= .par [.m 3 bu, .o 4 (.bO cz), .o 5 (.aq fB 4), .o 6 (.load bZ false 1), .m 7 bu, .o 8 (.bO dd), .o 9 (.aq cZ 4), .o 10 (.load dA false 1), .o 11 (.len bX), .o 12 (.bin .sub dg (.k (.int .i64 1))), .o 13 (.cq dz c6 1), .o 14 (.load de false 1), .m 2 cO] [(0,0),(1,0),(2,0),(3,0),(4,0),(5,0),(6,0),(7,0),(8,0),(9,0),(10,0),(11,0),(12,0)]
abbrev QQD:AC:= .seq (.run [.o 2 (.mv (.k .dN))]) (.seq QQB .ret)
abbrev QQH:AC:= .seq (.run [(.o 16 (.build [(.int .i64 0),(.int .i64 0)] [(0,(1,(.k (.int .i64 1))))])), .op none none (.store dv dn 2)]) .ret
abbrev QQT:AC:= .seq (.block 1 (.seq (.run [.o 22 (.cq dF ew 5), .o 23 (.load ey true 5), .o 5 (.alloc [(.str []),(.slice .full 0 []),(.slice .full 0 []),(.slice .full 0 []),(.slice .full 0 [])]), .op none none (.store bZ ep 5)]) (.run [.m 24 cz, .o 25 (.aq bZ 0), .o 26 (.load eI false 1), .o 27 (.du [(.str [])] 1 1 [(0,fk)]), .o 28 (.app 1 16 eH fm), .m 3 gb]))) (.run [.o 29 (.bin .add ew (.k (.int .i64 1))), .m 20 gd])
abbrev QQX:AC:= .block 0 (.loop (.seq (.run [.o 21 (.bin .lss ew ei)]) (.seq (.cond eo .skip (.exit 0)) QQT)))
abbrev QR2:AC:= .seq (.run [(.o 53 (.build [(.int .i64 0),(.int .i64 0)] [(0,(1,(.k (.int .i64 5))))])), .op none none (.store dv ly 2)]) .ret
abbrev QRD:AC:= .seq (.run [(.o 73 (.build [(.int .i64 0),(.int .i64 0)] [(0,(1,(.k (.int .i64 5))))])), .op none none (.store dv As 2)]) .ret
abbrev QRM:AC:= .seq (.run [.o 89 (.aq c6 0), .o 90 (.aq CG 0), .o 91 (.load EI false 1),(.o 92 (.build [(.int .i64 0),(.int .i64 0)] [(0,(1,(.k (.int .i64 5)))),(1,(1,Ii))])), .op none none (.store dv Np 2)]) .ret
abbrev QRS:AC:= .seq (.block 5 (.seq (.run [.o 80 (.cq Au ym 17), .o 81 (.load EG true 17), .o 12 (.alloc [(.int .i64 0),(.int .i64 0),(.slice .full 0 []),(.str []),(.str []),(.int .i64 0),(.int .i64 0),(.str []),(.slice .full 0 []),(.bool false),(.slice .full 0 []),(.slice .full 0 []),(.slice .full 0 []),(.int .i64 0),(.int .i64 0),(.int .i64 0),(.int .i64 0)]), .op none none (.store c6 EH 17)]) (.seq (.run [.o 82 (.load bx true 2), .o 83 (.load dA true 5), .m 84 cz, .o 85 (.aq c6 0), .o 86 (.load Ic true 13), .c 87 pR [H9,Ia,Ib,Ie], .o 88 (.un .not Ig)]) (.cond Ih QRM .skip)))) (.run [.o 93 (.bin .add ym (.k (.int .i64 1))), .m 78 Td])
abbrev QRW:AC:= .block 4 (.loop (.seq (.run [.o 79 (.bin .lss ym CF)]) (.seq (.cond EF .skip (.exit 4)) QRS)))
abbrev QRY:AC:= .seq (.seq (.run [.m 66 bX, .c 67 nL [wH], .m 68 wI, .g 69 68 false (.mv bX), .g 70 68 false (.tU 130 [bx]), .d 71 68 false fP [yk,yl], .o 72 (.pick uS (.k (.bool true)) CA)]) (.cond Aq QRD .skip)) (.seq (.run [.m 74 dd, .m 75 cZ, .c 76 gB [CC,CD], .o 77 (.len Au), .o 78 (.mv (.k (.int .i64 0)))]) QRW)
abbrev QS3:AC:= .seq (.block 3 (.seq (.run [.m 61 mM, .o 62 (.cq pk mM 5), .o 63 (.load qR true 5), .o 9 (.alloc [(.str []),(.slice .full 0 []),(.slice .full 0 []),(.slice .full 0 []),(.slice .full 0 [])]), .m 8 rI, .op none none (.store dA rJ 5)]) (.seq (.run [.o 64 (.load dA true 5), .c 65 sf [rK], .m 10 uR]) QRY))) (.run [.o 94 (.bin .add mM (.k (.int .i64 1))), .m 59 Te])
abbrev QS7:AC:= .block 2 (.loop (.seq (.run [.o 60 (.bin .lss mM oG)]) (.seq (.cond p7 .skip (.exit 2)) QS3)))
abbrev QSB:AC:= .seq (.seq (.run [.o 56 (.aq bx 1), .o 57 (.load n6 false 1), .o 58 (.len pk), .o 59 (.mv (.k (.int .i64 0)))]) QS7) (.seq (.run [.o 95 (.build [(.int .i64 0),(.int .i64 0)] []), .op none none (.store dv Tf 2)]) .ret)
abbrev QSD:AC:= .seq (.seq (.run [.o 32 (.aq bx 0), .o 33 (.load gL false 1), .c 34 nL [gE], .m 35 iA, .g 36 35 false (.mv cz), .d 37 35 false nL [ie], .o 38 (.pick gM (.k (.bool true)) iY), .m 39 jN, .g 40 39 false (.mv dz), .g 41 39 false (.bin .lss kd (.k (.int .i64 0))), .o 42 (.pick jy (.k (.bool true)) jO), .m 43 kF, .g 44 43 false (.aq bx 1), .g 45 43 false (.load lf false 1), .g 46 43 false (.mv dz), .g 47 43 false (.cq lU lV 5), .g 48 43 false (.aq mL 1), .g 49 43 false (.load lu false 1), .g 50 43 false (.len lx), .g 51 43 false (.bin .gtr lW (.k (.int .i64 0))), .o 52 (.pick kq (.k (.bool true)) lg)]) (.cond lh QR2 .skip)) (.seq (.run [.o 54 (.load bx true 2), .c 55 kD [lX], .m 7 lY]) QSB)
abbrev QSF:AC:= .seq (.seq (.run [.o 17 (.aq bx 1), .o 18 (.load dG false 1), .o 19 (.len dF), .o 20 (.mv (.k (.int .i64 0)))]) QQX) (.seq (.run [.m 30 cz,(.c 31 fO [gD,(.k (.str [109,97,105,110]))]), .m 6 gp]) QSD)
abbrev QSH:AC:= .seq (.seq (.run [.o 13 (.load bx true 2), .c 14 qI [de], .o 15 (.un .not cO)]) (.cond dE QQH .skip)) (.seq (.run [.o 3 (.mv (.k (.slice .full 0 [])))]) QSF)
abbrev QSI:AC:= .seq (.run [.o 1 (.box bu), .o 2 (.alloc [(.int .i64 0),(.int .i64 0)])]) QSH
abbrev QSM:AC:= .seq (.run [(.o 9 (.build [(.int .i64 0),(.int .i64 0)] [(0,(1,(.k (.int .i64 1))))])), .op none none (.store dv dA 2)]) .ret
abbrev QSV:AC:= .seq (.run [.o 31 (.aq fB 0), .o 32 (.aq gp 0), .o 33 (.load gL false 1),(.o 34 (.build [(.int .i64 0),(.int .i64 0)] [(0,(1,(.k (.int .i64 6)))),(1,(1,gE))])), .op none none (.store dv iA 2)]) .ret
abbrev QSY:AC:= .seq (.run [.o 18 (.cq cO dn 17), .o 19 (.load dF true 17), .o 4 (.alloc [(.int .i64 0),(.int .i64 0),(.slice .full 0 []),(.str []),(.str []),(.int .i64 0),(.int .i64 0),(.str []),(.slice .full 0 []),(.bool false),(.slice .full 0 []),(.slice .full 0 []),(.slice .full 0 []),(.int .i64 0),(.int .i64 0),(.int .i64 0),(.int .i64 0)]), .op none none (.store fB ei 17)]) (.seq (.run [.o 20 (.aq fB 0), .o 21 (.aq ew 1), .o 22 (.load eo false 1), .o 23 (.bin .eql ey (.k (.int .i64 4))), .m 24 ep, .g 25 24 true (.load bx true 2), .g 26 24 true (.aq fB 0), .g 27 24 true (.load fk true 13), .d 28 24 true uN [eI,fm], .g 29 24 true (.un .not gb), .o 30 (.pick eH gd (.k (.bool false)))]) (.cond gD QSV .skip))
abbrev QT2:AC:= .seq (.cond dG .skip (.exit 0)) (.seq (.block 1 QSY) (.run [.o 35 (.bin .add dn (.k (.int .i64 1))), .m 16 gM]))
abbrev QT6:AC:= .seq (.run [.o 10 (.load bx true 2), .c 11 kD [bX], .o 12 (.bO dg), .o 13 (.aq c6 2), .o 14 (.load de false 1), .o 15 (.len cO), .o 16 (.mv (.k (.int .i64 0)))]) (.block 0 (.loop (.seq (.run [.o 17 (.bin .lss dn dE)]) QT2)))
abbrev QTA:AC:= .seq (.seq (.run [.o 5 (.load bx true 2), .c 6 lA [bZ], .o 7 (.BT dz 0 false 1), .o 8 (.bin .neq dd (.k (.int .i64 0)))]) (.cond cZ QSM .skip)) (.seq QT6 (.seq (.run [.o 36 (.build [(.int .i64 0),(.int .i64 0)] []), .op none none (.store dv ie 2)]) .ret))
abbrev QTB:AC:= .seq (.run [.o 1 (.box bu), .o 2 (.alloc [(.int .i64 0),(.int .i64 0)])]) QTA
abbrev QTG:AC:= .seq (.run [(.o 14 (.build [(.int .i64 0),(.int .i64 0)] [(0,(1,(.k (.int .i64 1))))])), .op none none (.store dv cO 2)]) .ret
abbrev QTW:AC:= .seq (.run [.o 47 (.aq dA 0), .o 48 (.aq mL 0), .o 49 (.load lu false 1),(.o 50 (.build [(.int .i64 0),(.int .i64 0)] [(0,(1,(.k (.int .i64 7)))),(1,(1,lx))])), .op none none (.store dv lW 2)]) .ret
abbrev QTZ:AC:= .seq (.run [.m 32 dz, .o 33 (.aq dA 0), .o 34 (.aq gE 2), .o 35 (.load iA false 1), .c 36 pG [gL,gM], .m 31 ie, .o 37 (.ext gp 0), .o 38 (.ext gp 1), .m 6 iY, .m 7 jN]) (.seq (.run [.m 39 dd, .o 40 (.un .not jy), .m 41 kd, .g 42 41 false (.mv cz), .g 43 41 false (.load dA true 17), .d 44 41 false uO [kF,kq], .g 45 41 false (.un .not lf), .o 46 (.pick jO (.k (.bool true)) lU)]) (.cond lV QTW .skip))
abbrev QU3:AC:= .seq (.block 3 (.seq (.run [.o 29 (.cq eI fm 17), .o 30 (.load gd true 17), .o 9 (.alloc [(.int .i64 0),(.int .i64 0),(.slice .full 0 []),(.str []),(.str []),(.int .i64 0),(.int .i64 0),(.str []),(.slice .full 0 []),(.bool false),(.slice .full 0 []),(.slice .full 0 []),(.slice .full 0 []),(.int .i64 0),(.int .i64 0),(.int .i64 0),(.int .i64 0)]), .op none none (.store dA gD 17)]) QTZ)) (.run [.o 51 (.bin .add fm (.k (.int .i64 1))), .m 27 lg])
abbrev QU7:AC:= .block 2 (.loop (.seq (.run [.o 28 (.bin .lss fm fk)]) (.seq (.cond gb .skip (.exit 2)) QU3)))
abbrev QUC:AC:= .seq (.run [(.o 61 (.build [(.int .i64 0),(.int .i64 0)] [(0,(1,(.k (.int .i64 7))))])), .op none none (.store dv rI 2)]) .ret
abbrev QUG:AC:= .seq (.seq (.run [.m 23 cz, .m 24 fB, .c 25 gB [ep,eH], .o 26 (.len eI), .o 27 (.mv (.k (.int .i64 0)))]) QU7) (.seq (.run [.m 53 dz, .o 54 (.aq bZ 4), .o 55 (.load lX false 1), .c 56 pG [ly,lY], .m 52 n6, .o 57 (.ext lh 0), .o 58 (.ext lh 1), .m 7 oG]) (.seq (.run [.m 59 dd, .o 60 (.un .not mM)]) (.cond p7 QUC .skip)))
abbrev QUI:AC:= .seq (.run [.o 6 (.mv (.k (.slice .full 0 [])))]) (.seq (.run [.o 7 (.mv (.k (.bool true)))]) QUG)
abbrev QUM:AC:= .seq (.block 1 (.seq (.run [.m 20 dF, .o 21 (.cq dn dF 5), .o 22 (.load eo true 5), .o 5 (.alloc [(.str []),(.slice .full 0 []),(.slice .full 0 []),(.slice .full 0 []),(.slice .full 0 [])]), .m 4 ew, .op none none (.store bZ ey 5)]) QUI)) (.run [.o 62 (.bin .add dF (.k (.int .i64 1))), .m 18 qR])
abbrev QUQ:AC:= .block 0 (.loop (.seq (.run [.o 19 (.bin .lss dF dG)]) (.seq (.cond ei .skip (.exit 0)) QUM)))
abbrev QUU:AC:= .seq (.seq (.run [.o 15 (.aq bx 1), .o 16 (.load dE false 1), .o 17 (.len dn), .o 18 (.mv (.k (.int .i64 0)))]) QUQ) (.seq (.run [.o 63 (.build [(.int .i64 0),(.int .i64 0)] []), .op none none (.store dv rJ 2)]) .ret)
abbrev QUW:AC:= .seq (.run [.o 10 (.load bx true 2), .c 11 qL [bX], .m 3 dg]) (.seq (.seq (.run [.m 12 cz, .o 13 (.Fg false c6 (.k .dN))]) (.cond de QTG .skip)) QUU)
abbrev QUX:AC:= .seq (.run [.o 1 (.box bu), .o 2 (.alloc [(.int .i64 0),(.int .i64 0)])]) QUW
abbrev QV1:AC:= .seq (.run [(.o 12 (.build [(.int .i64 0),(.int .i64 0)] [(0,(1,(.k (.int .i64 1))))])), .op none none (.store dv c6 2)]) .ret
abbrev QV9:AC:= .par [.m 21 cz, .o 22 (.aq bZ 0), .o 23 (.load ey false 1), .o 24 (.load bx true 2), .o 25 (.aq bZ 0), .o 26 (.load eI false 1), .c 27 qM [eH,fk], .op none none (.xP eo ep fm)] [(3,0),(4,0),(5,0),(6,0),(0,0),(1,0),(2,1),(7,0)]
abbrev QVD:AC:= .seq (.block 1 (.seq (.run [.o 19 (.cq dE dG 5), .o 20 (.load ei true 5), .o 5 (.alloc [(.str []),(.slice .full 0 []),(.slice .full 0 []),(.slice .full 0 []),(.slice .full 0 [])]), .op none none (.store bZ ew 5)]) QV9)) (.run [.o 28 (.bin .add dG (.k (.int .i64 1))), .m 17 gb])
abbrev QVH:AC:= .block 0 (.loop (.seq (.run [.o 18 (.bin .lss dG dn)]) (.seq (.cond dF .skip (.exit 0)) QVD)))
abbrev QVP:AC:= .seq (.run [.o 54 (.aq dd 0), .o 55 (.aq lX 0), .o 56 (.load lY false 1),(.o 57 (.build [(.int .i64 0),(.int .i64 0)] [(0,(1,(.k (.int .i64 8)))),(1,(1,n6))])), .op none none (.store dv pk 2)]) .ret
abbrev QVS:AC:= .seq (.run [.o 37 (.cq gE gM 17), .o 38 (.load iY true 17), .o 7 (.alloc [(.int .i64 0),(.int .i64 0),(.slice .full 0 []),(.str []),(.str []),(.int .i64 0),(.int .i64 0),(.str []),(.slice .full 0 []),(.bool false),(.slice .full 0 []),(.slice .full 0 []),(.slice .full 0 []),(.int .i64 0),(.int .i64 0),(.int .i64 0),(.int .i64 0)]), .op none none (.store dd jN 17)]) (.seq (.run [.o 39 (.aq dd 0), .o 40 (.aq jy 1), .o 41 (.load kd false 1), .o 42 (.bin .eql jO (.k (.int .i64 4))), .m 43 kF, .g 44 43 true (.aq dd 0), .g 45 43 true (.load lf true 13), .g 46 43 true (.mv cz), .g 47 43 true (.aq dd 0), .g 48 43 true (.aq mL 4), .g 49 43 true (.load lu false 1), .g 50 43 true (.vr lV lx (.slice .full 0 [])), .d 51 43 true rG [lU,lW], .g 52 43 true (.un .not lg), .o 53 (.pick kq lh (.k (.bool false)))]) (.cond ly QVP .skip))
abbrev QVW:AC:= .seq (.cond ie .skip (.exit 2)) (.seq (.block 3 QVS) (.run [.o 58 (.bin .add gM (.k (.int .i64 1))), .m 35 oG]))
abbrev QW0:AC:= .seq (.run [.o 29 (.load bx true 2), .c 30 kD [gd], .o 31 (.bO gD), .o 32 (.aq gp 2), .o 33 (.load gL false 1), .o 34 (.len gE), .o 35 (.mv (.k (.int .i64 0)))]) (.block 2 (.loop (.seq (.run [.o 36 (.bin .lss gM iA)]) QVW)))
abbrev QW4:AC:= .seq (.seq (.run [.o 14 (.aq bx 1), .o 15 (.load cO false 1), .o 16 (.len dE), .o 17 (.mv (.k (.int .i64 0)))]) QVH) (.seq QW0 (.seq (.run [.o 59 (.build [(.int .i64 0),(.int .i64 0)] []), .op none none (.store dv mM 2)]) .ret))
abbrev QW6:AC:= .seq (.seq (.run [.o 8 (.load bx true 2), .c 9 pQ [cZ], .o 10 (.BT dA 0 false 1), .o 11 (.bin .neq bX (.k (.int .i64 0)))]) (.cond dg QV1 .skip)) (.seq (.run [.op (some 13) none .tV, .m 3 de]) QW4)
abbrev QW7:AC:= .seq (.run [.o 1 (.box bu), .o 2 (.alloc [(.int .i64 0),(.int .i64 0)])]) QW6
abbrev QWI:AC:= .cond dG (.seq (.run [.o 2 (.mv (.k (.int .i64 2)))]) .ret) .skip
abbrev QWK:AC:= .cond bX (.seq (.run [.o 2 (.mv (.k (.int .i64 1)))]) .ret) (.seq (.run [.m 18 bu, .o 19 (.bin .geq dF (.k (.int .i64 5))), .m 20 ei, .g 21 20 true (.mv bu), .g 22 20 true (.bin .leq eo (.k (.int .i64 17))), .o 23 (.pick ew ey (.k (.bool false))), .m 17 ep]) QWI)
abbrev QWM:AC:= .cond cz (.seq (.run [.o 2 (.mv (.k (.int .i64 0)))]) .ret) (.seq (.run [.m 11 bu, .o 12 (.bin .eql dg (.k (.int .i64 3))), .m 13 c6, .g 14 13 false (.mv bu), .g 15 13 false (.bin .eql cO (.k (.int .i64 4))), .o 16 (.pick de (.k (.bool true)) dE), .m 10 dn]) QWK)
abbrev QWO:AC:= .block 0 (.seq (.run [.m 4 bu, .o 5 (.bin .eql fB (.k (.int .i64 1))), .m 6 bZ, .g 7 6 false (.mv bu), .g 8 6 false (.bin .eql dd (.k (.int .i64 2))), .o 9 (.pick dz (.k (.bool true)) cZ), .m 3 dA]) QWM)
abbrev QWQ:AC:= .seq (.run [(.o 2 (.mv (.k (.int .i64 (-1)))))]) .ret
abbrev QWS:AC:= .seq (.run [.o 2 (.mv (.k (.int .i64 0)))]) (.seq QWO QWQ)
open Go.Proofs
theorem EJ:Has Tryz.prog mJ 15 [(2,none)] QJ0:=⟨Tryz.f64,by kernel_rfl,by kernel_rfl⟩
theorem mN:Has Tryz.prog nC 27 [(2,none)] QJA:=⟨Tryz.f65,by kernel_rfl,by kernel_rfl⟩
theorem qS:Has Tryz.prog kb 71 [(6,none)] QKB:=⟨Tryz.f66,by kernel_rfl,by kernel_rfl⟩
theorem Il:Has Tryz.prog qJ 5 [(2,(some (true,4)))] QKF:=⟨Tryz.f68,by kernel_rfl,by kernel_rfl⟩
theorem Gr:Has Tryz.prog kN 5 [(2,(some (true,4)))] QKJ:=⟨Tryz.f69,by kernel_rfl,by kernel_rfl⟩
theorem Io:Has Tryz.prog ub 12 [(6,(some (true,4)))] QKN:=⟨Tryz.f70,by kernel_rfl,by kernel_rfl⟩
theorem Av:Has Tryz.prog jL 29 [(4,none)] QL6:=⟨Tryz.f71,by kernel_rfl,by kernel_rfl⟩
theorem Aw:Has Tryz.prog jM 73 [] QM8:=⟨Tryz.f72,by kernel_rfl,by kernel_rfl⟩
theorem EK:Has Tryz.prog uL 28 [(4,none)] QN1:=⟨Tryz.f73,by kernel_rfl,by kernel_rfl⟩
theorem yp:Has Tryz.prog oB 27 [(4,none)] QNB:=⟨Tryz.f74,by kernel_rfl,by kernel_rfl⟩
theorem rh:Has Tryz.prog fW 19 [(4,none)] QNY:=⟨Tryz.f75,by kernel_rfl,by kernel_rfl⟩
theorem xm:Has Tryz.prog lj 8 [(3,none)] QO2:=⟨Tryz.f76,by kernel_rfl,by kernel_rfl⟩
theorem xn:Has Tryz.prog ix 20 [(4,none)] QO8:=⟨Tryz.f77,by kernel_rfl,by kernel_rfl⟩
theorem xo:Has Tryz.prog jF 64 [(4,none),(5,none)] QP2:=⟨Tryz.f78,by kernel_rfl,by kernel_rfl⟩
theorem xp:Has Tryz.prog dV 26 [] QP6:=⟨Tryz.f79,by kernel_rfl,by kernel_rfl⟩
theorem BJ:Has Tryz.prog og 38 [(6,none),(7,none)] QPZ:=⟨Tryz.f80,by kernel_rfl,by kernel_rfl⟩
theorem zl:Has Tryz.prog pF 13 [(4,none)] QQ9:=⟨Tryz.f81,by kernel_rfl,by kernel_rfl⟩
theorem zw:Has Tryz.prog kx 15 [(2,none)] QQD:=⟨Tryz.f82,by kernel_rfl,by kernel_rfl⟩
theorem vL:Has Tryz.prog lA 96 [(2,(some (true,2)))] QSI:=⟨Tryz.f95,by kernel_rfl,by kernel_rfl⟩
theorem vM:Has Tryz.prog pQ 37 [(2,(some (true,2)))] QTB:=⟨Tryz.f96,by kernel_rfl,by kernel_rfl⟩
theorem xq:Has Tryz.prog uM 64 [(2,(some (true,2)))] QUX:=⟨Tryz.f97,by kernel_rfl,by kernel_rfl⟩
theorem vN:Has Tryz.prog tf 60 [(2,(some (true,2)))] QW7:=⟨Tryz.f98,by kernel_rfl,by kernel_rfl⟩
theorem Gs:Has Tryz.prog wD 24 [(2,none)] QWS:=⟨Tryz.f99,by kernel_rfl,by kernel_rfl⟩
abbrev QWW:AC:= .seq (.run [.o 2 (.mv (.k (.bool false)))]) (.seq (.run [.m 3 bu, .o 4 (.bin .geq cz (.k (.int .u8 97))), .m 5 fB, .g 6 5 true (.mv bu), .g 7 5 true (.bin .leq dz (.k (.int .u8 122))), .o 8 (.pick bZ dd (.k (.bool false))), .m 2 cZ]) .ret)
abbrev QX3:AC:= .seq (.seq (.run [.m 5 bx, .m 6 bu, .o 7 (.uv dz), .o 8 (.bin .lss bZ dd), .m 9 cZ, .g 10 9 true (.mv bu), .g 11 9 true (.mv bx), .g 12 9 true (.zJ bX dg), .d 13 9 true qK [c6], .g 14 9 true (.mv de), .g 15 14 false (.mv bu), .g 16 14 false (.mv bx), .g 17 14 false (.zJ dE dn), .d 18 14 false wE [dG], .g 19 9 true (.pick cO (.k (.bool true)) dF), .o 20 (.pick dA ei (.k (.bool false)))]) (.cond ew .skip (.exit 0))) (.block 1 (.run [.m 21 bx, .o 22 (.bin .add eo (.k (.int .i64 1))), .m 1 ey]))
abbrev QX9:AC:= .seq (.run [.o 4 (.mv (.k (.int .i64 0)))]) (.seq (.block 0 (.loop QX3)) (.seq (.run [.m 23 bx, .m 4 ep]) .ret))
abbrev QXQ:AC:= .seq (.run [.o 16 (.bin .eql cz (.k (.str [114,101,97,100]))), .m 4 dn]) (.cond fB .skip (.run [.o 17 (.bin .eql cz (.k (.str [112,114,105,110,116]))), .m 4 dG]))
abbrev QXT:AC:= .cond fB .skip (.seq (.run [.o 15 (.bin .eql cz (.k (.str [103,111,116,111]))), .m 4 dE]) (.cond fB .skip QXQ))
abbrev QXV:AC:= .cond fB .skip (.seq (.run [.o 14 (.bin .eql cz (.k (.str [114,101,116,117,114,110]))), .m 4 cO]) QXT)
abbrev QXX:AC:= .cond fB .skip (.seq (.run [.o 13 (.bin .eql cz (.k (.str [99,111,110,116,105,110,117,101]))), .m 4 de]) QXV)
abbrev QXZ:AC:= .cond fB .skip (.seq (.run [.o 12 (.bin .eql cz (.k (.str [98,114,101,97,107]))), .m 4 c6]) QXX)
abbrev QY1:AC:= .cond fB .skip (.seq (.run [.o 11 (.bin .eql cz (.k (.str [119,104,105,108,101]))), .m 4 dg]) QXZ)
abbrev QY3:AC:= .cond fB .skip (.seq (.run [.o 10 (.bin .eql cz (.k (.str [101,108,115,101]))), .m 4 bX]) QY1)
abbrev QY5:AC:= .cond fB .skip (.seq (.run [.o 9 (.bin .eql cz (.k (.str [105,102]))), .m 4 dA]) QY3)
abbrev QY7:AC:= .cond fB .skip (.seq (.run [.o 8 (.bin .eql cz (.k (.str [114,101,102]))), .m 4 cZ]) QY5)
abbrev QY9:AC:= .cond fB .skip (.seq (.run [.o 7 (.bin .eql cz (.k (.str [118,97,114]))), .m 4 dd]) QY7)
abbrev QYB:AC:= .cond fB .skip (.seq (.run [.o 6 (.bin .eql cz (.k (.str [112,114,111,99]))), .m 4 dz]) QY9)
abbrev QYF:AC:= .cond fB (.seq (.run [.o 2 (.mv (.k (.bool true)))]) .ret) .skip
abbrev QYG:AC:= .seq (.seq (.run [.o 5 (.bin .eql cz (.k (.str [103,108,111,98,97,108]))), .m 4 bZ]) QYB) QYF
abbrev QYL:AC:= .seq (.seq (.run [.m 3 bu]) (.block 0 QYG)) (.seq (.run [.o 2 (.mv (.k (.bool false)))]) .ret)
abbrev QYM:AC:= .seq (.run [.o 2 (.mv (.k (.bool false)))]) QYL
abbrev QYO:AC:= .par [.o 10 (.aq bx 9), .o 11 (.load bX false 1), .o 3 (.mv (.k (.bool false))), .o 4 (.mv (.k (.bool false))), .o 5 (.mv (.k (.bool false))), .m 6 dg, .o 7 (.mv (.k (.bool false))), .o 8 (.mv (.k (.bool false)))] [(0,0),(1,0),(2,0),(3,0),(4,0),(5,0),(6,0),(7,0)]
abbrev QYW:AC:= .seq (.run [.o 20 (.bin .eql dn (.k (.int .i64 2))), .m 19 ew]) (.cond ei .skip (.run [.o 21 (.bin .eql dn (.k (.int .i64 10))), .m 19 eo]))
abbrev QZB:AC:= .seq (.run [.o 38 (.bin .eql dn (.k (.int .i64 7))), .m 37 jN]) (.cond iY .skip (.run [.o 39 (.bin .eql dn (.k (.int .i64 8))), .m 37 jy]))
abbrev QZE:AC:= .cond iY .skip (.seq (.run [.o 2 (.mv (.k (.bool false)))]) .ret)
abbrev QZH:AC:= .seq (.run [.o 34 (.bin .eql dn (.k (.int .i64 9))), .m 33 iA]) (.cond gE (.run [.o 35 (.aq bx 9), .o 36 (.load gM false 1), .m 5 ie, .o 6 (.mv (.k (.bool false)))]) (.seq QZB QZE))
abbrev QZJ:AC:= .seq (.run [.o 32 (.bin .eql dn (.k (.int .i64 6))), .m 31 gL]) (.cond gp (.run [.o 5 (.mv (.k (.bool true))), .o 7 (.mv (.k (.bool true)))]) QZH)
abbrev QZL:AC:= .seq (.run [.o 30 (.bin .eql dn (.k (.int .i64 5))), .m 29 gD]) (.cond gd (.run [.o 5 (.mv (.k (.bool true))), .o 7 (.mv (.k (.bool true))), .o 8 (.mv (.k (.bool true)))]) QZJ)
abbrev QZN:AC:= .seq (.run [.o 25 (.bin .eql dn (.k (.int .i64 4))), .m 24 eI]) (.cond eH (.run [.o 26 (.aq bx 3), .o 27 (.load fk false 1), .o 28 (.bin .neq fm (.k (.str []))), .m 3 gb, .o 4 (.mv (.k (.bool true)))]) QZL)
abbrev QZP:AC:= .seq (.run [.o 23 (.bin .eql dn (.k (.int .i64 3))), .m 22 ep]) (.cond ey (.run [.o 5 (.mv (.k (.bool true)))]) QZN)
abbrev QZR:AC:= .seq QYW (.cond ei (.run [.o 3 (.mv (.k (.bool true)))]) QZP)
abbrev QZT:AC:= .seq (.run [.o 18 (.bin .eql dn (.k (.int .i64 1))), .m 17 dF]) (.cond dG (.run [.o 3 (.mv (.k (.bool true))), .o 5 (.mv (.k (.bool true)))]) QZR)
abbrev QZW:AC:= .run [.m 40 dz, .m 41 kd, .g 42 41 false (.mv dd), .g 43 41 false (.un .not kF), .g 44 41 false (.mv kq), .g 45 44 true (.aq bx 11), .g 46 44 true (.load lU false 1), .g 47 44 true (.len lV), .g 48 44 true (.bin .gtr mL (.k (.int .i64 0))), .g 49 41 false (.pick lf lu (.k (.bool false))), .o 50 (.pick jO (.k (.bool true)) lx), .m 51 lW, .g 52 51 false (.mv cZ), .g 53 51 false (.un .not lh), .g 54 51 false (.mv ly), .g 55 54 true (.aq bx 12), .g 56 54 true (.load lY false 1), .g 57 54 true (.len n6), .g 58 54 true (.bin .gtr pk (.k (.int .i64 0))), .g 59 51 false (.pick lX oG (.k (.bool false))), .o 60 (.pick lg (.k (.bool true)) mM), .m 61 p7, .g 62 61 false (.mv dA), .g 63 61 false (.un .not qR), .g 64 61 false (.mv rJ), .g 65 64 true (.aq bx 10), .g 66 64 true (.load uR false 1), .g 67 64 true (.len wH), .g 68 64 true (.bin .gtr wI (.k (.int .i64 0))), .g 69 61 false (.pick rK uS (.k (.bool false))), .o 70 (.pick rI (.k (.bool true)) yk)]
abbrev QZZ:AC:= .cond yl (.seq (.run [.o 2 (.mv (.k (.bool false)))]) .ret) .skip
abbrev aic:AC:= .cond CG (.seq (.run [.o 2 (.mv (.k (.bool false)))]) .ret) .skip
abbrev aaZ:AC:= .seq (.seq (.run [.o 71 (.aq bx 3), .o 72 (.load CA false 1), .m 73 cz, .c 74 oD [Aq,As], .o 75 (.un .not CC), .m 76 CD, .g 77 76 false (.aq bx 4), .g 78 76 false (.load CF false 1), .g 79 76 false (.mv fB), .d 80 76 false oD [ym,EF], .g 81 76 false (.un .not EG), .o 82 (.pick Au (.k (.bool true)) EH), .m 83 H9, .g 84 83 false (.aq bx 5), .g 85 83 false (.load Ib true 4), .g 86 83 false (.mv bZ), .d 87 83 false qN [Ic,Ie], .g 88 83 false (.un .not Ig), .o 89 (.pick Ia (.k (.bool true)) Ih)]) aic) (.seq (.run [.o 90 (.aq bx 10), .o 91 (.load EI false 1), .c 92 tj [Ii], .m 2 Np]) .ret)
abbrev aa0:AC:= .seq (.seq QZW QZZ) aaZ
abbrev Tg:AC:= .seq (.seq (.run [.o 15 (.aq bx 1), .o 16 (.load dE false 1)]) (.block 0 QZT)) aa0
abbrev aa1:AC:= .seq (.run [.o 12 (.aq bx 1), .o 13 (.load c6 false 1), .o 14 (.bin .eql de (.k (.int .i64 4))), .m 9 cO]) Tg
abbrev aa2:AC:= .seq QYO aa1
abbrev aid:AC:= .seq (.run [.o 1 (.box bu), .o 2 (.mv (.k (.bool false)))]) aa2
abbrev aie:AC:= .seq (.block 1 (.seq (.run [.o 13 (.cq dA dg 13), .o 14 (.load de true 13), .o 5 (.alloc [(.int .i64 0),(.int .i64 0),(.slice .full 0 []),(.str []),(.str []),(.int .i64 0),(.int .i64 0),(.str []),(.slice .full 0 []),(.bool false),(.slice .full 0 []),(.slice .full 0 []),(.slice .full 0 [])]), .op none none (.store bZ cO 13)]) (.run [.m 15 cz, .o 16 (.load bZ true 13), .c 17 lT [dn], .o 18 (.bin .add dE dG), .m 3 dF]))) (.run [.o 19 (.bin .add dg (.k (.int .i64 1))), .m 11 ei])
abbrev aif:AC:= .block 0 (.loop (.seq (.run [.o 12 (.bin .lss dg bX)]) (.seq (.cond c6 .skip (.exit 0)) aie)))
abbrev aih:AC:= .seq (.block 3 (.seq (.run [.o 25 (.cq eo ep 13), .o 26 (.load eI true 13), .o 7 (.alloc [(.int .i64 0),(.int .i64 0),(.slice .full 0 []),(.str []),(.str []),(.int .i64 0),(.int .i64 0),(.str []),(.slice .full 0 []),(.bool false),(.slice .full 0 []),(.slice .full 0 []),(.slice .full 0 [])]), .op none none (.store dd fk 13)]) (.run [.m 27 cz, .o 28 (.load dd true 13), .c 29 lT [gb], .o 30 (.bin .add fm gd), .m 3 gD]))) (.run [.o 31 (.bin .add ep (.k (.int .i64 1))), .m 23 gp])
abbrev aii:AC:= .block 2 (.loop (.seq (.run [.o 24 (.bin .lss ep ey)]) (.seq (.cond eH .skip (.exit 2)) aih)))
abbrev aij:AC:= .seq (.seq (.run [.o 20 (.aq bx 12), .o 21 (.load ew false 1), .o 22 (.len eo), .o 23 (.mv (.k (.int .i64 0)))]) aii) (.seq (.run [.m 32 cz, .m 2 gL]) .ret)
abbrev aik:AC:= .seq (.seq (.run [.o 8 (.aq bx 11), .o 9 (.load cZ false 1), .o 10 (.len dA), .o 11 (.mv (.k (.int .i64 0)))]) aif) aij
abbrev ail:AC:= .seq (.run [.o 1 (.box bu), .o 2 (.mv (.k (.int .i64 0)))]) (.seq (.run [.o 3 (.mv (.k (.int .i64 1)))]) aik)
abbrev aim:AC:= .cond fB (.seq (.run [.o 2 (.mv (.k (.slice .full 0 [])))]) .ret) .skip
abbrev ain:AC:= .seq (.run [.o 2 (.mv (.k (.slice .full 0 [])))]) (.seq (.seq (.run [.m 3 bu, .nil (some 4) none false cz]) aim) (.seq (.run [.o 5 (.du [(.str [])] 1 0 []), .m 6 bu, .o 7 (.app 1 16 bZ dz), .m 2 dd]) .ret))
abbrev aio:AC:= .seq (.block 1 (.seq (.run [.o 11 (.cq dd dA 2), .o 12 (.load dg true 2), .o 5 (.alloc [(.str []),(.bool false)]), .op none none (.store bZ c6 2)]) (.run [.m 13 cz, .o 14 (.aq bZ 0), .o 15 (.load cO false 1), .o 16 (.du [(.str [])] 1 1 [(0,dE)]), .o 17 (.app 1 16 de dn), .m 3 dG]))) (.run [.o 18 (.bin .add dA (.k (.int .i64 1))), .m 9 dF])
abbrev aip:AC:= .block 0 (.loop (.seq (.run [.o 10 (.bin .lss dA cZ)]) (.seq (.cond bX .skip (.exit 0)) aio)))
abbrev aiq:AC:= .seq (.seq (.run [.o 6 (.aq bx 1), .o 7 (.load dz false 1), .o 8 (.len dd), .o 9 (.mv (.k (.int .i64 0)))]) aip) (.seq (.run [.m 19 cz, .o 20 (.aq bx 2), .o 21 (.load ew false 1), .o 22 (.app 1 16 ei eo), .m 2 ey]) .ret)
abbrev air:AC:= .seq (.run [.o 1 (.box bu), .o 2 (.mv (.k (.slice .full 0 [])))]) (.seq (.run [.o 3 (.mv (.k (.slice .full 0 [])))]) aiq)
abbrev ais:AC:= .block 1 (.seq (.run [.m 10 cZ, .m 5 bX]) (.seq (.run [.m 11 bx, .m 12 bu, .m 13 bZ, .o 14 (.cq c6 de 1), .o 15 (.load cO false 1), .o 16 (.bin .eql dg dE)]) (.cond dn (.seq (.run [.m 17 bZ, .m 4 dG]) .ret) .skip)))
abbrev ait:AC:= .seq (.cond dA .skip (.exit 0)) (.seq ais (.run [.o 18 (.bin .add cZ (.k (.int .i64 1))), .m 8 dF]))
abbrev aiu:AC:= .seq (.run [.m 6 bu, .o 7 (.len dz), .o 8 (.mv (.k (.int .i64 0)))]) (.block 0 (.loop (.seq (.run [.o 9 (.bin .lss cZ dd)]) ait)))
abbrev aiv:AC:= .seq (.run [(.o 4 (.mv (.k (.int .i64 (-1)))))]) .ret
abbrev aiw:AC:= .seq (.run [.o 4 (.mv (.k (.int .i64 0)))]) (.seq aiu aiv)
abbrev aix:AC:= .cond bX (.seq (.run [.o 6 (.mv (.k (.int .i64 0))), .o 7 (.mv (.k (.bool false)))]) .ret) .skip
abbrev aiy:AC:= .seq (.run [.o 3 (.box bu), .o 6 (.mv (.k (.int .i64 0))), .o 7 (.mv (.k (.bool false)))]) (.seq (.seq (.run [.o 8 (.load cz true 4), .c 9 mI [cZ], .o 10 (.un .not dA)]) aix) (.seq (.run [.o 11 (.load cz true 4), .m 12 bx, .m 13 dv, .c 14 kO [dg,c6,de], .o 15 (.ext cO 0), .o 16 (.ext cO 1), .m 6 dE, .m 7 dn]) .ret))
abbrev aiz:AC:= .seq (.run [.o 4 (.mv (.k (.bool false)))]) (.seq (.run [.m 5 bu, .m 6 bx, .c 7 oE [bZ,dz], .o 8 (.bin .geq dd (.k (.int .i64 0))), .m 4 cZ]) .ret)
abbrev aiA:AC:= .par [.m 5 bu, .o 6 (.bO bZ), .o 7 (.aq dz 2), .o 8 (.load dd false 1), .m 9 bu, .o 10 (.bO dA), .o 11 (.aq bX 3), .o 12 (.load dg false 1), .m 13 bx, .o 14 (.cq c6 de 1), .o 15 (.load cO false 1), .o 16 (.bin .sub dE (.k (.int .i64 1))), .m 17 bu, .o 18 (.bO dG), .o 19 (.aq dF 4), .o 20 (.load ei false 1), .m 21 bx, .o 22 (.cq ew eo 1), .o 23 (.load ey false 1), .o 24 (.bin .sub ep (.k (.int .i64 1))), .o 25 (.C9 17 cZ (some dn) (some eH)), .m 4 eI] [(0,0),(1,0),(2,0),(3,0),(4,0),(5,0),(6,0),(7,0),(8,0),(9,0),(10,0),(11,0),(12,0),(13,0),(14,0),(15,0),(16,0),(17,0),(18,0),(19,0),(20,0),(21,0)]
abbrev aiB:AC:= .seq (.run [.o 4 (.mv (.k (.slice .full 0 [])))]) (.seq aiA .ret)
abbrev aiC:AC:= .seq (.run [.o 4 (.mv (.k (.bool false)))]) (.seq (.run [.m 5 bu, .m 6 bx, .c 7 fO [bZ,dz], .o 8 (.bin .geq dd (.k (.int .i64 0))), .m 4 cZ]) .ret)
abbrev aiD:AC:= .cond dn (.seq (.run [.o 2 (.mv (.k (.bool true)))]) .ret) .skip
abbrev aiE:AC:= .block 1 (.seq (.run [.m 9 dd, .o 10 (.cq bZ dd 1), .o 11 (.load bX false 1), .m 3 dA, .m 4 dg]) (.seq (.run [.m 12 bu, .m 13 cz, .o 14 (.C9 1 c6 none (some de)), .m 15 fB, .c 16 bY [cO,dE]]) aiD))
abbrev aiF:AC:= .seq (.cond cZ .skip (.exit 0)) (.seq aiE (.run [.o 17 (.bin .add dd (.k (.int .i64 1))), .m 7 dG]))
abbrev aiG:AC:= .seq (.run [.m 5 bu, .o 6 (.len bZ), .o 7 (.mv (.k (.int .i64 0)))]) (.block 0 (.loop (.seq (.run [.o 8 (.bin .lss dd dz)]) aiF)))
abbrev aiH:AC:= .seq aiG (.seq (.run [.o 2 (.mv (.k (.bool false)))]) .ret)
abbrev aiI:AC:= .seq (.run [.o 2 (.mv (.k (.bool false)))]) aiH
abbrev aiJ:AC:= .seq (.run [.o 4 (.mv (.k (.bool false)))]) (.seq (.run [.m 5 bu, .m 6 bx, .c 7 kE [bZ,dz], .o 8 (.bin .geq dd (.k (.int .i64 0))), .m 4 cZ]) .ret)
abbrev aiK:AC:= .seq (.run [.o 3 (.mv (.k (.bool false)))]) (.seq (.run [.o 4 (.aq bx 0), .o 5 (.load fB false 1), .m 6 bu, .c 7 bY [bZ,dz], .m 3 dd]) .ret)
abbrev aiL:AC:= .cond ey (.seq (.run [.o 8 (.mv (.k (.bool false)))]) .ret) .skip
abbrev aiM:AC:= .seq (.run [.o 16 (.cq c6 cO 1), .o 17 (.load dn false 1), .m 10 dG]) (.seq (.run [.o 18 (.load fB true 2), .o 19 (.load bZ true 5), .m 20 bX, .c 21 uP [dF,ei,ew], .o 22 (.bin .eql eo (.k (.int .i64 0)))]) aiL)
abbrev aiN:AC:= .seq (.cond dE .skip (.exit 0)) (.seq (.block 1 aiM) (.run [.o 23 (.bin .add cO (.k (.int .i64 1))), .m 14 ep]))
abbrev aiO:AC:= .seq (.run [.o 11 (.load dd true 13), .c 12 qO [dg], .o 13 (.len c6), .o 14 (.mv (.k (.int .i64 0)))]) (.block 0 (.loop (.seq (.run [.o 15 (.bin .lss cO de)]) aiN)))
abbrev aiP:AC:= .seq aiO (.seq (.run [.o 24 (.aq dd 1), .o 25 (.load eH false 1), .o 26 (.bin .neq eI (.k (.int .i64 4))), .m 27 fk, .g 28 27 false (.aq dd 4), .g 29 27 false (.load gb false 1), .g 30 27 false (.bin .neq gd (.k (.str [109,97,105,110]))), .g 31 27 false (.mv gD), .g 32 31 true (.mv dv), .g 33 31 true (.aq dd 4), .g 34 31 true (.load gE false 1), .d 35 31 true bY [gL,iA], .g 36 27 false (.pick gp gM (.k (.bool false))), .o 37 (.pick fm (.k (.bool true)) ie), .m 8 iY]) .ret)
abbrev aiQ:AC:= .seq (.run [.o 4 (.box bu), .o 5 (.box bx), .o 7 (.box cz), .o 8 (.mv (.k (.bool false)))]) aiP
abbrev aiR:AC:= .cond dA (.seq (.run [.o 4 (.mv (.k (.bool false)))]) .ret) .skip
abbrev aiS:AC:= .seq (.run [.o 15 (.cq dg de 5), .o 16 (.load dE true 5), .o 6 (.alloc [(.str []),(.slice .full 0 []),(.slice .full 0 []),(.slice .full 0 []),(.slice .full 0 [])]), .op none none (.store dz dn 5)]) (.seq (.run [.o 17 (.aq dz 0), .o 18 (.load dG false 1), .o 19 (.aq cz 4), .o 20 (.load ei false 1), .o 21 (.bin .eql dF ew)]) (.cond eo (.seq (.run [.o 22 (.aq dz 1), .o 23 (.load ey false 1), .o 24 (.aq cz 10), .o 25 (.load eH false 1), .c 26 uQ [ep,eI], .m 4 fk]) .ret) .skip))
abbrev aiT:AC:= .seq (.cond cO .skip (.exit 0)) (.seq (.block 1 aiS) (.run [.o 27 (.bin .add de (.k (.int .i64 1))), .m 13 fm]))
abbrev aiU:AC:= .seq (.run [.o 10 (.aq dv 1), .o 11 (.load bX false 1), .o 12 (.len dg), .o 13 (.mv (.k (.int .i64 0)))]) (.block 0 (.loop (.seq (.run [.o 14 (.bin .lss de c6)]) aiT)))
abbrev aiV:AC:= .seq aiU (.seq (.run [.o 4 (.mv (.k (.bool false)))]) .ret)
abbrev aiW:AC:= .seq (.seq (.run [.o 7 (.aq cz 1), .o 8 (.load dd false 1), .o 9 (.bin .neq cZ (.k (.int .i64 4)))]) aiR) aiV
abbrev aiX:AC:= .seq (.run [.o 2 (.box bu), .o 3 (.box bx), .o 4 (.mv (.k (.bool false)))]) aiW
abbrev aiY:AC:= .seq (.run [.o 3 (.load bx true 2), .c 4 lA [cz], .o 5 (.BT fB 0 false 1), .o 6 (.bin .neq bZ (.k (.int .i64 0)))]) (.cond dz (.seq (.run [.o 2 (.mv (.k .dN))]) .ret) .skip)
abbrev aiZ:AC:= .seq (.run [.o 1 (.box bu), .o 2 (.mv (.k .dN))]) (.seq aiY (.seq (.run [.o 7 (.load bx true 2), .c 8 kD [dd], .m 2 cZ]) .ret))
abbrev ai0:AC:= .cond dn (.seq (.run [.m 17 bu, .m 4 dG, .o 5 (.mv (.k (.bool false)))]) .ret) .skip
abbrev ai1:AC:= .block 1 (.seq (.run [.o 12 (.cq cZ bX 1), .o 13 (.load c6 false 1), .m 7 de]) (.seq (.seq (.run [.m 14 bu, .m 15 dd, .c 16 bY [cO,dE]]) ai0) (.run [.m 18 bu, .m 19 dd, .o 20 (.du [(.str [])] 1 1 [(0,ei)]), .o 21 (.app 1 16 dF ew), .m 0 eo])))
abbrev ai2:AC:= .seq (.cond dg .skip (.exit 0)) (.seq ai1 (.run [.o 22 (.bin .add bX (.k (.int .i64 1))), .m 10 ey]))
abbrev ai3:AC:= .seq (.run [.m 8 bx, .o 9 (.len cZ), .o 10 (.mv (.k (.int .i64 0)))]) (.block 0 (.loop (.seq (.run [.o 11 (.bin .lss bX dA)]) ai2)))
abbrev ai4:AC:= .seq ai3 (.seq (.run [.m 23 bu, .m 4 ep, .o 5 (.mv (.k (.bool true)))]) .ret)
abbrev ai5:AC:= .seq (.run [.o 4 (.mv (.k (.slice .full 0 []))), .o 5 (.mv (.k (.bool false)))]) ai4
abbrev ai6:AC:= .seq (.run [.o 11 (.bin .eql dA (.k (.int .i64 7))), .m 10 dg]) (.cond bX .skip (.run [.o 12 (.bin .eql dA (.k (.int .i64 8))), .m 10 c6]))
abbrev ai7:AC:= .cond bX (.seq (.run [.o 13 (.aq cz 16), .o 14 (.load de false 1), .o 15 (.bin .neq cO (.k (.int .i64 0))), .m 4 dE]) .ret) (.seq (.run [.o 17 (.bin .eql dA (.k (.int .i64 10))), .m 16 dG]) (.cond dn (.seq (.run [.m 19 bu, .o 20 (.aq cz 13), .o 21 (.load ew false 1), .o 22 (.aq cz 0), .o 23 (.aq ey 3), .o 24 (.load ep false 1), .c 25 og [ei,eo,eH], .m 18 eI, .o 26 (.ext dF 0), .o 27 (.ext dF 1), .m 5 fk, .m 6 fm]) (.seq (.run [.m 28 dz, .m 4 gb]) .ret)) .skip))
abbrev ai8:AC:= .seq (.seq (.run [.o 7 (.aq cz 0), .o 8 (.aq dd 1), .o 9 (.load cZ false 1)]) (.block 0 (.seq ai6 ai7))) (.seq (.run [.o 4 (.mv (.k (.bool true)))]) .ret)
abbrev ai9:AC:= .seq (.run [.o 3 (.box bx), .o 4 (.mv (.k (.bool false)))]) ai8
abbrev aja:AC:= .cond dn (.seq (.run [.o 4 (.mv (.k (.slice .full 0 [])))]) .ret) .skip
abbrev ajb:AC:= .seq (.run [.o 43 (.cq jy jO 1), .o 44 (.load kq false 1), .m 12 lf]) (.seq (.run [.o 45 (.aq dv 0), .o 46 (.load lU false 1), .m 47 c6, .c 48 bY [lV,mL]]) (.cond lu (.run [.m 49 dz, .m 50 c6, .o 51 (.du [(.str [])] 1 1 [(0,lW)]), .o 52 (.app 1 16 lx lg), .m 6 lh]) .skip))
abbrev ajc:AC:= .seq (.cond kF .skip (.exit 4)) (.seq (.block 5 ajb) (.run [.o 53 (.bin .add jO (.k (.int .i64 1))), .m 41 ly]))
abbrev ajd:AC:= .seq (.run [.o 37 (.aq bX 0), .o 38 (.load iY true 13), .c 39 qO [jN], .o 40 (.len jy), .o 41 (.mv (.k (.int .i64 0)))]) (.block 4 (.loop (.seq (.run [.o 42 (.bin .lss jO kd)]) ajc)))
abbrev aje:AC:= .seq (.block 3 (.seq (.run [.o 35 (.cq gp gE 17), .o 36 (.load gM true 17), .o 10 (.alloc [(.int .i64 0),(.int .i64 0),(.slice .full 0 []),(.str []),(.str []),(.int .i64 0),(.int .i64 0),(.str []),(.slice .full 0 []),(.bool false),(.slice .full 0 []),(.slice .full 0 []),(.slice .full 0 []),(.int .i64 0),(.int .i64 0),(.int .i64 0),(.int .i64 0)]), .op none none (.store bX ie 17)]) ajd)) (.run [.o 54 (.bin .add gE (.k (.int .i64 1))), .m 33 lX])
abbrev ajf:AC:= .block 2 (.loop (.seq (.run [.o 34 (.bin .lss gE gL)]) (.seq (.cond iA .skip (.exit 2)) aje)))
abbrev ajg:AC:= .seq (.run [.o 25 (.cq eo ep 1), .o 26 (.load eI false 1), .m 8 fk]) (.seq (.run [.m 27 bZ, .m 28 bZ, .m 29 cZ, .c 30 ic [gb,gd], .c 31 gB [fm,gD], .o 32 (.len gp), .o 33 (.mv (.k (.int .i64 0)))]) ajf)
abbrev ajh:AC:= .seq (.cond eH .skip (.exit 0)) (.seq (.block 1 ajg) (.run [.o 55 (.bin .add ep (.k (.int .i64 1))), .m 23 lY]))
abbrev aji:AC:= .seq (.run [.m 19 bZ, .m 20 bx, .c 21 wF [ei,ew], .o 22 (.len eo), .o 23 (.mv (.k (.int .i64 0)))]) (.block 0 (.loop (.seq (.run [.o 24 (.bin .lss ep ey)]) ajh)))
abbrev ajj:AC:= .seq (.run [.o 17 (.load dv true 2), .c 18 kD [dG], .m 5 dF]) (.seq (.run [.o 6 (.mv (.k (.slice .full 0 [])))]) (.seq aji (.seq (.run [.m 56 dz, .c 57 jg [n6]]) (.seq (.run [.m 58 dz, .c 59 jA [oG], .m 4 mM]) .ret))))
abbrev ajk:AC:= .seq (.run [.o 2 (.box bu), .o 4 (.mv (.k (.slice .full 0 [])))]) (.seq (.seq (.run [.o 13 (.load dv true 2), .m 14 bx, .c 15 tn [de,cO], .o 16 (.un .not dE)]) aja) ajj)
abbrev ajl:AC:= .cond iA (.seq (.run [.o 4 (.mv (.k (.bool false)))]) .ret) .skip
abbrev ajm:AC:= .seq (.seq (.run [.m 18 bZ, .o 19 (.aq dd 1), .o 20 (.load ei false 1), .c 21 bY [dF,ew], .m 22 eo, .g 23 22 false (.aq dd 1), .g 24 22 false (.load ep false 1), .g 25 22 false (.aq dv 3), .g 26 22 false (.load eI false 1), .g 27 22 false (.bin .eql eH fk), .o 28 (.pick ey (.k (.bool true)) fm), .m 29 gb, .g 30 29 false (.mv bx), .g 31 29 false (.aq dd 1), .g 32 29 false (.load gp false 1), .d 33 29 false bY [gD,gL], .o 34 (.pick gd (.k (.bool true)) gE)]) ajl) (.run [.m 35 bZ, .o 36 (.aq dd 1), .o 37 (.load ie false 1), .o 38 (.du [(.str [])] 1 1 [(0,iY)]), .o 39 (.app 1 16 gM jN), .m 5 jy])
abbrev ajn:AC:= .block 1 (.seq (.run [.o 13 (.cq dA dg 6), .o 14 (.load de true 6), .o 7 (.alloc [(.bool false),(.str []),(.int .i64 0),(.int .i64 0),(.str []),(.slice .full 0 [])]), .op none none (.store dd cO 6)]) (.seq (.seq (.run [.o 15 (.aq dd 0), .o 16 (.load dE false 1), .o 17 (.un .not dn)]) (.cond dG (.exit 1) .skip)) ajm))
abbrev ajo:AC:= .seq (.cond c6 .skip (.exit 0)) (.seq ajn (.run [.o 40 (.bin .add dg (.k (.int .i64 1))), .m 11 kd]))
abbrev ajp:AC:= .seq (.run [.o 8 (.aq dv 10), .o 9 (.load cZ false 1), .o 10 (.len dA), .o 11 (.mv (.k (.int .i64 0)))]) (.block 0 (.loop (.seq (.run [.o 12 (.bin .lss dg bX)]) ajo)))
abbrev ajq:AC:= .seq ajp (.seq (.run [.o 4 (.mv (.k (.bool true)))]) .ret)
abbrev ajr:AC:= .seq (.run [.o 2 (.box bu), .o 4 (.mv (.k (.bool false)))]) (.seq (.run [.o 5 (.mv (.k (.slice .full 0 [])))]) ajq)
abbrev ajs:AC:= .seq (.run [.o 2 (.mv (.k (.bool false)))]) (.seq (.run [.m 3 bu, .o 4 (.bin .geq cz (.k (.int .u8 48))), .m 5 fB, .g 6 5 true (.mv bu), .g 7 5 true (.bin .leq dz (.k (.int .u8 57))), .o 8 (.pick bZ dd (.k (.bool false))), .m 2 cZ]) .ret)
abbrev ajt:AC:= .seq (.run [.o 4 (.mv (.k (.bool false)))]) (.seq (.run [.m 5 bx, .m 6 bZ, .g 7 6 true (.mv bu), .d 8 6 true nC [dd], .o 9 (.pick dz cZ (.k (.bool false))), .m 10 dA, .g 11 10 false (.mv bx), .g 12 10 false (.un .not dg), .g 13 10 false (.mv c6), .g 14 13 true (.mv bu), .g 15 13 true (.bin .eql cO (.k (.str []))), .g 16 10 false (.pick de dE (.k (.bool false))), .o 17 (.pick bX (.k (.bool true)) dn), .m 4 dG]) .ret)
abbrev aju:AC:= .seq (.run [.o 2 (.box bu), .o 4 (.mv (.k (.bool false)))]) (.seq (.run [.m 5 bx, .m 6 bZ, .g 7 6 true (.load dv true 4), .d 8 6 true mI [dd], .o 9 (.pick dz cZ (.k (.bool false))), .m 10 dA, .g 11 10 false (.mv bx), .g 12 10 false (.un .not dg), .g 13 10 false (.mv c6), .g 14 13 true (.load dv true 4), .d 15 13 true wG [cO], .g 16 10 false (.pick de dE (.k (.bool false))), .o 17 (.pick bX (.k (.bool true)) dn), .m 4 dG]) .ret)
abbrev ajv:AC:= .cond eI (.seq (.run [.o 2 (.mv (.k (.bool false)))]) .ret) .skip
abbrev ajw:AC:= .seq (.run [.o 9 (.cq bZ dd 6), .o 10 (.load dA true 6), .o 4 (.alloc [(.bool false),(.str []),(.int .i64 0),(.int .i64 0),(.str []),(.slice .full 0 [])]), .op none none (.store fB bX 6)]) (.seq (.run [.o 11 (.aq fB 1), .o 12 (.load dg false 1), .o 13 (.aq fB 0), .o 14 (.load de false 1), .c 15 oD [c6,cO], .o 16 (.un .not dE), .m 17 dn, .g 18 17 false (.aq fB 2), .g 19 17 false (.load dF true 4), .g 20 17 false (.aq fB 0), .g 21 17 false (.load ew false 1), .g 22 17 false (.un .not eo), .d 23 17 false qN [ei,ey], .g 24 17 false (.un .not ep), .o 25 (.pick dG (.k (.bool true)) eH)]) ajv)
abbrev ajx:AC:= .seq (.cond cZ .skip (.exit 0)) (.seq (.block 1 ajw) (.run [.o 26 (.bin .add dd (.k (.int .i64 1))), .m 7 fk]))
abbrev ajy:AC:= .seq (.run [.m 5 bu, .o 6 (.len bZ), .o 7 (.mv (.k (.int .i64 0)))]) (.block 0 (.loop (.seq (.run [.o 8 (.bin .lss dd dz)]) ajx)))
abbrev ajz:AC:= .seq ajy (.seq (.run [.o 2 (.mv (.k (.bool true)))]) .ret)
abbrev ajA:AC:= .seq (.run [.o 2 (.mv (.k (.bool false)))]) ajz
abbrev ajB:AC:= .cond gp (.seq (.run [.m 32 dv, .m 33 cZ, .o 34 (.cq gL gE 1), .o 35 (.load iA false 1), .m 6 gM, .o 7 (.mv (.k (.bool true)))]) .ret) .skip
abbrev ajC:AC:= .seq (.run [.m 20 bx, .o 21 (.aq cz 2), .o 22 (.load eo false 1), .c 23 fO [ew,ey], .m 8 ep]) (.seq (.run [.m 24 cZ, .o 25 (.bin .geq eH (.k (.int .i64 0))), .m 26 eI, .g 27 26 true (.mv cZ), .g 28 26 true (.mv dv), .g 29 26 true (.len gb), .g 30 26 true (.bin .lss fm gd), .o 31 (.pick fk gD (.k (.bool false)))]) ajB)
abbrev ajD:AC:= .seq ajC (.seq (.run [.o 6 (.mv (.k (.int .i64 0))), .o 7 (.mv (.k (.bool true)))]) .ret)
abbrev ajE:AC:= .cond cO (.seq (.run [.o 16 (.aq cz 1), .o 17 (.load dn false 1), .m 6 dG, .o 7 (.mv (.k (.bool true)))]) .ret) (.seq (.run [.o 19 (.bin .eql de (.k (.int .i64 2))), .m 18 ei]) (.cond dF ajD .skip))
abbrev ajF:AC:= .block 0 (.seq (.run [.o 15 (.bin .eql de (.k (.int .i64 1))), .m 14 dE]) ajE)
abbrev ajG:AC:= .cond mL (.seq (.run [.o 6 (.mv (.k (.int .i64 0))), .o 7 (.mv (.k (.bool false)))]) .ret) .skip
abbrev ajH:AC:= .cond uR (.seq (.run [.o 6 (.mv (.k (.int .i64 0))), .o 7 (.mv (.k (.bool true)))]) .ret) .skip
abbrev ajI:AC:= .cond Aq (.seq (.run [.o 6 (.mv (.k (.int .i64 1))), .o 7 (.mv (.k (.bool true)))]) .ret) .skip
abbrev ajJ:AC:= .cond Ib (.seq (.run [.o 6 (.mv (.k (.int .i64 0))), .o 7 (.mv (.k (.bool false)))]) .ret) .skip
abbrev ajK:AC:= .seq (.seq (.run [.o 66 (.aq cz 0), .o 67 (.load wH false 1), .o 68 (.bin .eql wI (.k (.int .i64 17))), .m 69 uS, .g 70 69 true (.mv dA), .d 71 69 true qP [yl], .o 72 (.pick yk CA (.k (.bool false)))]) ajI) (.seq (.run [.o 74 (.aq cz 3), .o 75 (.load CC false 1), .o 76 (.cq CD (.k (.int .i64 1)) 4), .o 77 (.load Au true 4), .m 78 bx, .m 79 dv, .c 80 kO [CF,ym,EF], .m 73 EG, .o 81 (.ext As 0), .o 82 (.ext As 1), .m 11 EH, .m 10 H9]) (.seq (.seq (.run [.m 83 bX, .o 84 (.un .not Ia)]) ajJ) (.seq (.run [.o 85 (.aq cz 0), .o 86 (.load Ic false 1), .m 87 dA, .m 88 dg, .c 89 yj [Ie,Ig,Ih], .o 90 (.ext CG 0), .o 91 (.ext CG 1), .m 6 EI, .m 7 Ii]) .ret)))
abbrev ajL:AC:= .seq (.seq (.run [.o 58 (.aq cz 0), .o 59 (.load oG false 1), .o 60 (.bin .eql mM (.k (.int .i64 16))), .m 61 p7, .g 62 61 true (.mv dA), .d 63 61 true qP [qR], .g 64 61 true (.un .not rJ), .o 65 (.pick rI rK (.k (.bool false)))]) ajH) ajK
abbrev ajM:AC:= .seq (.seq (.run [.o 48 (.aq cz 3), .o 49 (.load lu false 1), .o 50 (.len lx), .o 51 (.bin .eql lW (.k (.int .i64 1)))]) (.cond lg (.seq (.run [.o 52 (.aq cz 0), .o 53 (.load lh false 1), .m 54 dA, .c 55 yi [ly,lX], .o 56 (.ext lY 0), .o 57 (.ext lY 1), .m 6 n6, .m 7 pk]) .ret) .skip)) ajL
abbrev ajN:AC:= .seq (.seq (.run [.o 12 (.aq cz 0), .o 13 (.load c6 false 1)]) ajF) (.seq (.run [.o 37 (.aq cz 3), .o 38 (.load iY false 1), .o 39 (.cq jN (.k (.int .i64 0)) 4), .o 40 (.load jy true 4), .m 41 bx, .m 42 dv, .c 43 kO [kd,jO,kF], .m 36 kq, .o 44 (.ext ie 0), .o 45 (.ext ie 1), .m 9 lf, .m 10 lU]) (.seq (.seq (.run [.m 46 bX, .o 47 (.un .not lV)]) ajG) ajM))
abbrev ajO:AC:= .seq (.run [.o 3 (.box bu), .o 6 (.mv (.k (.int .i64 0))), .o 7 (.mv (.k (.bool false)))]) ajN
abbrev ajP:AC:= .block 1 (.seq (.run [.m 10 cZ, .m 5 bX]) (.seq (.run [.m 11 bx, .m 12 bu, .m 13 bZ, .o 14 (.cq c6 de 1), .o 15 (.load cO false 1), .o 16 (.bin .eql dg dE)]) (.cond dn (.seq (.run [.m 17 bZ, .m 4 dG]) .ret) .skip)))
abbrev ajQ:AC:= .seq (.cond dA .skip (.exit 0)) (.seq ajP (.run [.o 18 (.bin .add cZ (.k (.int .i64 1))), .m 8 dF]))
abbrev ajR:AC:= .seq (.run [.m 6 bu, .o 7 (.len dz), .o 8 (.mv (.k (.int .i64 0)))]) (.block 0 (.loop (.seq (.run [.o 9 (.bin .lss cZ dd)]) ajQ)))
abbrev ajS:AC:= .seq (.run [(.o 4 (.mv (.k (.int .i64 (-1)))))]) .ret
abbrev ajT:AC:= .seq (.run [.o 4 (.mv (.k (.int .i64 0)))]) (.seq ajR ajS)
abbrev ajU:AC:= .block 1 (.seq (.run [.m 10 cZ, .m 5 bX]) (.seq (.run [.m 11 bx, .m 12 bu, .m 13 bZ, .o 14 (.cq c6 de 1), .o 15 (.load cO false 1),(.jb (some 16) none 11 [dE])]) (.cond dn (.seq (.run [.m 17 bZ, .m 4 dG]) .ret) .skip)))
abbrev ajV:AC:= .seq (.cond dA .skip (.exit 0)) (.seq ajU (.run [.o 18 (.bin .add cZ (.k (.int .i64 1))), .m 8 dF]))
abbrev ajW:AC:= .seq (.run [.m 6 bu, .o 7 (.len dz), .o 8 (.mv (.k (.int .i64 0)))]) (.block 0 (.loop (.seq (.run [.o 9 (.bin .lss cZ dd)]) ajV)))
abbrev ajX:AC:= .seq (.run [(.o 4 (.mv (.k (.int .i64 (-1)))))]) .ret
abbrev ajY:AC:= .seq (.run [.o 4 (.mv (.k (.int .i64 0)))]) (.seq ajW ajX)
abbrev ajZ:AC:= .seq (.seq (.run [.o 31 (.aq bZ 0), .o 32 (.load gp false 1)]) (.cond gL (.run [.m 33 cz, .o 34 (.aq bZ 1), .o 35 (.load iA false 1), .o 36 (.du [(.str [])] 1 1 [(0,gM)]), .o 37 (.app 1 16 gE ie), .m 3 iY]) .skip)) (.run [.m 38 cz, .o 39 (.aq bZ 2), .o 40 (.load jy true 4), .c 41 qQ [kd], .o 42 (.app 1 16 jN jO), .m 3 kF])
abbrev aj0:AC:= .seq (.block 1 (.seq (.run [.o 29 (.cq eI fm 6), .o 30 (.load gd true 6), .o 5 (.alloc [(.bool false),(.str []),(.int .i64 0),(.int .i64 0),(.str []),(.slice .full 0 [])]), .op none none (.store bZ gD 6)]) ajZ)) (.run [.o 43 (.bin .add fm (.k (.int .i64 1))), .m 27 kq])
abbrev aj1:AC:= .block 0 (.loop (.seq (.run [.o 28 (.bin .lss fm fk)]) (.seq (.cond gb .skip (.exit 0)) aj0)))
abbrev aj2:AC:= .seq (.seq (.run [.o 24 (.aq bx 10), .o 25 (.load eH false 1), .o 26 (.len eI), .o 27 (.mv (.k (.int .i64 0)))]) aj1) (.seq (.run [.m 44 cz, .m 2 lf]) .ret)
abbrev aj3:AC:= .seq (.seq (.run [.o 6 (.aq bx 1), .o 7 (.load dz false 1), .o 8 (.bin .neq dd (.k (.int .i64 10))), .m 9 cZ, .g 10 9 true (.aq bx 3), .g 11 9 true (.load bX false 1), .g 12 9 true (.bin .neq dg (.k (.str []))), .o 13 (.pick dA c6 (.k (.bool false)))]) (.cond de (.run [.m 14 cz, .o 15 (.aq bx 3), .o 16 (.load dE false 1), .o 17 (.du [(.str [])] 1 1 [(0,dn)]), .o 18 (.app 1 16 cO dG), .m 3 dF]) .skip)) (.seq (.run [.m 19 cz, .o 20 (.aq bx 5), .o 21 (.load ew true 4), .c 22 qQ [eo], .o 23 (.app 1 16 ei ey), .m 3 ep]) aj2)
abbrev aj4:AC:= .seq (.run [.o 1 (.box bu), .o 2 (.mv (.k (.slice .full 0 [])))]) (.seq (.run [.o 3 (.mv (.k (.slice .full 0 [])))]) aj3)
abbrev aj5:AC:= .cond ep (.seq (.run [.o 6 (.mv (.k (.int .i64 3)))]) .ret) .skip
abbrev aj6:AC:= .cond fm (.seq (.run [.o 6 (.mv (.k (.int .i64 2)))]) .ret) .skip
abbrev aj7:AC:= .seq (.seq (.run [.o 16 (.aq cZ 0), .o 17 (.load dn false 1), .m 18 dv, .o 19 (.bin .eql dG dF), .m 20 ei, .g 21 20 true (.aq cZ 1), .g 22 20 true (.load eo false 1), .o 23 (.pick ew ey (.k (.bool false)))]) aj5) (.seq (.run [.o 24 (.aq cZ 0), .o 25 (.load eH false 1), .m 26 dv, .o 27 (.bin .eql eI fk)]) aj6)
abbrev aj8:AC:= .seq (.block 1 (.seq (.run [.o 14 (.cq bX c6 2), .o 15 (.load cO true 2), .o 8 (.alloc [(.str []),(.bool false)]), .op none none (.store cZ dE 2)]) aj7)) (.run [.o 28 (.bin .add c6 (.k (.int .i64 1))), .m 12 gb])
abbrev aj9:AC:= .block 0 (.loop (.seq (.run [.o 13 (.bin .lss c6 dg)]) (.seq (.cond de .skip (.exit 0)) aj8)))
abbrev aka:AC:= .cond gL (.seq (.run [.o 6 (.mv (.k (.int .i64 4)))]) .ret) .skip
abbrev akb:AC:= .cond ie (.seq (.run [.o 6 (.mv (.k (.int .i64 1)))]) .ret) .skip
abbrev akc:AC:= .seq (.seq (.run [.o 33 (.aq cz 0), .o 34 (.load gE false 1), .m 35 dv, .c 36 bY [iA,gM]]) akb) (.seq (.run [.o 6 (.mv (.k (.int .i64 0)))]) .ret)
abbrev akd:AC:= .seq (.seq (.run [.o 9 (.aq fB 1), .o 10 (.load dA false 1), .o 11 (.len bX), .o 12 (.mv (.k (.int .i64 0)))]) aj9) (.seq (.seq (.run [.o 29 (.aq fB 2), .o 30 (.load gd false 1), .m 31 dv, .c 32 bY [gD,gp]]) aka) akc)
abbrev ake:AC:= .seq (.run [.o 3 (.box bu), .o 4 (.box bx), .o 6 (.mv (.k (.int .i64 0)))]) akd
abbrev akf:AC:= .cond dg (.seq (.run [.o 4 (.mv (.k (.bool false)))]) .ret) .skip
abbrev akg:AC:= .par [.o 19 (.aq dz 1), .o 20 (.load ei false 1), .m 21 bx, .m 22 bZ, .o 23 (.cq eo ey 6), .o 24 (.aq ep 0), .o 25 (.load eH false 1), .o 26 (.Ff true ew eI)] [(0,0),(1,0),(2,0),(3,0),(4,0),(5,0),(6,0),(7,0)]
abbrev akh:AC:= .cond fk (.seq (.run [.o 4 (.mv (.k (.bool false)))]) .ret) .skip
abbrev aki:AC:= .seq (.block 1 (.seq (.run [.m 16 cO, .o 17 (.cq c6 cO 2), .o 18 (.load dG true 2), .o 6 (.alloc [(.str []),(.bool false)]), .m 5 dn, .op none none (.store dz dF 2)]) (.seq akg akh))) (.run [.o 27 (.bin .add cO (.k (.int .i64 1))), .m 14 fm])
abbrev akj:AC:= .block 0 (.loop (.seq (.run [.o 15 (.bin .lss cO de)]) (.seq (.cond dE .skip (.exit 0)) aki)))
abbrev akk:AC:= .seq (.seq (.run [.m 12 bu, .o 13 (.len c6), .o 14 (.mv (.k (.int .i64 0)))]) akj) (.seq (.run [.o 4 (.mv (.k (.bool true)))]) .ret)
abbrev akl:AC:= .seq (.run [.o 4 (.mv (.k (.bool false)))]) (.seq (.seq (.run [.m 7 bu, .o 8 (.len dd), .m 9 bx, .o 10 (.len dA), .o 11 (.bin .neq cZ bX)]) akf) akk)
abbrev akm:AC:= .seq (.run [.o 2 (.box bu), .o 3 (.box bx), .o 4 (.mv (.k (.bool false)))]) (.seq (.run [.o 5 (.load dv true 2), .c 6 lA [bZ], .o 7 (.BT dz 0 false 1), .o 8 (.bin .eql dd (.k (.int .i64 0))), .m 9 cZ, .g 10 9 true (.aq dv 1), .g 11 9 true (.load bX false 1), .g 12 9 true (.tU 191 [cz]), .d 13 9 true gC [dg,c6], .o 14 (.pick dA de (.k (.bool false))), .m 4 cO]) .ret)
abbrev akn:AC:= .seq (.run [.o 26 (.cq ey eH 1), .o 27 (.load fk false 1), .m 8 fm]) (.seq (.run [.m 28 bZ, .m 29 cZ, .c 30 bY [gb,gd], .o 31 (.un .not gD)]) (.cond gp (.run [.m 32 bZ, .m 33 cZ, .o 34 (.du [(.str [])] 1 1 [(0,gE)]), .o 35 (.app 1 16 gL iA), .m 5 gM]) .skip))
abbrev ako:AC:= .seq (.cond eI .skip (.exit 2)) (.seq (.block 3 akn) (.run [.o 36 (.bin .add eH (.k (.int .i64 1))), .m 24 ie]))
abbrev akp:AC:= .seq (.run [.m 17 bu, .m 18 bZ, .m 19 dz, .o 20 (.cq dF ei 1), .o 21 (.load ew false 1), .c 22 tq [dG,eo], .o 23 (.len ey), .o 24 (.mv (.k (.int .i64 0)))]) (.block 2 (.loop (.seq (.run [.o 25 (.bin .lss eH ep)]) ako)))
abbrev akq:AC:= .seq (.seq (.run [.m 11 dz, .m 12 bZ, .o 13 (.len c6), .o 14 (.bin .lss dg de)]) (.cond cO .skip (.exit 0))) (.seq (.block 1 akp) (.run [.m 15 dz, .o 16 (.bin .add dE (.k (.int .i64 1))), .m 6 dn]))
abbrev aa3:AC:= .seq (.run [.m 39 bZ, .m 4 jy]) .ret
abbrev akr:AC:= .seq (.seq (.run [.o 6 (.mv (.k (.int .i64 0)))]) (.block 0 (.loop akq))) (.seq (.run [.m 37 bZ, .c 38 jg [iY]]) aa3)
abbrev aks:AC:= .seq (.run [.o 4 (.mv (.k (.slice .full 0 [])))]) (.seq (.run [.m 9 bx, .o 10 (.du [(.str [])] 1 1 [(0,dA)]), .m 5 bX]) akr)
abbrev akt:AC:= .seq (.run [.o 1 (.box bu), .o 2 (.mv (.k (.bool false)))]) (.seq (.run [.o 3 (.aq bx 0), .o 4 (.load cz false 1), .o 5 (.bin .eql fB (.k (.int .i64 0))), .m 6 bZ, .g 7 6 true (.aq bx 1), .g 8 6 true (.load dd false 1), .g 9 6 true (.bin .eql cZ (.k (.int .i64 0))), .o 10 (.pick dz dA (.k (.bool false))), .m 11 bX, .g 12 11 true (.aq bx 2), .g 13 11 true (.load c6 false 1), .g 14 11 true (.bin .eql de (.k (.str []))), .o 15 (.pick dg cO (.k (.bool false))), .m 16 dE, .g 17 16 true (.aq bx 3), .g 18 16 true (.load dG false 1), .g 19 16 true (.len dF), .g 20 16 true (.bin .eql ei (.k (.int .i64 0))), .o 21 (.pick dn ew (.k (.bool false))), .m 2 eo]) .ret)
abbrev aku:AC:= .cond dg (.seq (.run [.m 13 bx, .o 14 (.bin .eql de (.k (.int .i64 0))), .c 15 jh [cO], .m 4 dE, .o 5 (.mv (.k (.bool true)))]) .ret) .skip
abbrev akv:AC:= .cond dd (.seq (.run [.m 9 bx, .o 10 (.bin .sub (.k (.int .i64 0)) dA), .m 4 bX, .o 5 (.mv (.k (.bool true)))]) .ret) (.seq (.run [.o 12 (.bin .eql dz (.k (.int .i64 4))), .m 11 c6]) aku)
abbrev akw:AC:= .block 0 (.seq (.run [.o 8 (.bin .eql dz (.k (.int .i64 3))), .m 7 cZ]) akv)
abbrev akx:AC:= .seq (.seq (.run [.m 6 bu]) akw) (.seq (.run [.o 4 (.mv (.k (.int .i64 0))), .o 5 (.mv (.k (.bool false)))]) .ret)
abbrev aky:AC:= .seq (.run [.o 4 (.mv (.k (.int .i64 0))), .o 5 (.mv (.k (.bool false)))]) akx
abbrev akz:AC:= .seq (.run [.o 2 (.mv (.k (.bool false)))]) (.seq (.run [.m 3 bu, .o 4 (.bin .neq cz (.k (.int .i64 0))), .m 2 fB]) .ret)
abbrev akA:AC:= .seq (.run [.o 25 (.bin .eql cZ (.k (.int .i64 6))), .m 24 eI]) (.cond eH .skip (.run [.o 26 (.bin .eql cZ (.k (.int .i64 7))), .m 24 fk]))
abbrev akB:AC:= .cond kF (.seq (.run [.m 44 bx, .o 45 (.bin .neq lf (.k (.int .i64 0))), .m 46 lU, .g 47 46 false (.mv dv), .g 48 46 false (.bin .neq mL (.k (.int .i64 0))), .o 49 (.pick lV (.k (.bool true)) lu), .c 50 jh [lx], .m 6 lW, .o 7 (.mv (.k (.bool true)))]) .ret) .skip
abbrev akC:AC:= .cond gE (.seq (.run [.m 35 bx, .o 36 (.bin .neq gM (.k (.int .i64 0))), .m 37 ie, .g 38 37 true (.mv dv), .g 39 37 true (.bin .neq jN (.k (.int .i64 0))), .o 40 (.pick iY jy (.k (.bool false))), .c 41 jh [kd], .m 6 jO, .o 7 (.mv (.k (.bool true)))]) .ret) (.seq (.run [.o 43 (.bin .eql cZ (.k (.int .i64 17))), .m 42 kq]) akB)
abbrev akD:AC:= .cond eH (.seq (.run [.m 27 bu, .m 28 bx, .m 29 dv, .c 30 tr [fm,gb,gd], .o 31 (.ext gD 0), .o 32 (.ext gD 1), .m 6 gp, .m 7 gL]) .ret) (.seq (.run [.o 34 (.bin .eql cZ (.k (.int .i64 16))), .m 33 iA]) akC)
abbrev akE:AC:= .cond ei (.seq (.run [.m 21 bx, .m 22 dv, .o 23 (.bin .mul eo ey), .m 6 ep, .o 7 (.mv (.k (.bool true)))]) .ret) (.seq akA akD)
abbrev akF:AC:= .cond cO (.seq (.run [.m 16 bx, .m 17 dv, .o 18 (.bin .sub dn dG), .m 6 dF, .o 7 (.mv (.k (.bool true)))]) .ret) (.seq (.run [.o 20 (.bin .eql cZ (.k (.int .i64 5))), .m 19 ew]) akE)
abbrev akG:AC:= .cond dA (.seq (.run [.m 11 bx, .m 12 dv, .o 13 (.bin .add dg c6), .m 6 de, .o 7 (.mv (.k (.bool true)))]) .ret) (.seq (.run [.o 15 (.bin .eql cZ (.k (.int .i64 9))), .m 14 dE]) akF)
abbrev akH:AC:= .block 0 (.seq (.run [.o 10 (.bin .eql cZ (.k (.int .i64 8))), .m 9 bX]) akG)
abbrev akI:AC:= .seq (.run [.o 6 (.mv (.k (.int .i64 0))), .o 7 (.mv (.k (.bool false)))]) (.seq (.seq (.run [.m 8 bu]) akH) (.seq (.run [.m 51 bu, .m 52 bx, .m 53 dv, .c 54 rH [lg,lh,ly], .o 55 (.ext lX 0), .o 56 (.ext lX 1), .m 6 lY, .m 7 n6]) .ret))
abbrev akJ:AC:= .cond bZ (.seq (.run [.o 2 (.mv (.k (.slice .full 0 [])))]) .ret) .skip
abbrev akK:AC:= .seq (.seq (.run [.o 3 (.load bx true 4), .c 4 mI [cz], .o 5 (.un .not fB)]) akJ) (.seq (.run [.o 6 (.load bx true 4),(.c 7 iD [dz,(.k (.slice .full 0 []))]), .m 2 dd]) .ret)
abbrev akL:AC:= .seq (.run [.o 1 (.box bu), .o 2 (.mv (.k (.slice .full 0 [])))]) akK
abbrev akM:AC:= .seq (.run [.o 4 (.mv (.k (.bool false)))]) (.seq (.run [.m 5 bu, .m 6 bx, .c 7 fW [bZ,dz], .o 8 (.bin .geq dd (.k (.int .i64 0))), .m 4 cZ]) .ret)
abbrev akN:AC:= .seq (.run [.o 2 (.box bu), .o 3 (.mv (.k (.bool false)))]) (.seq (.run [.o 4 (.aq dv 0), .o 5 (.load fB false 1), .o 6 (.load bx false 1), .o 7 (.bin .eql bZ dz), .m 3 dd]) .ret)
abbrev akO:AC:= .seq (.run [.o 16 (.cq c6 cO 17), .o 17 (.load dn true 17), .o 7 (.alloc [(.int .i64 0),(.int .i64 0),(.slice .full 0 []),(.str []),(.str []),(.int .i64 0),(.int .i64 0),(.str []),(.slice .full 0 []),(.bool false),(.slice .full 0 []),(.slice .full 0 []),(.slice .full 0 []),(.int .i64 0),(.int .i64 0),(.int .i64 0),(.int .i64 0)]), .op none none (.store dd dG 17)]) (.seq (.run [.o 18 (.aq dd 0), .o 19 (.aq dF 1), .o 20 (.load ei false 1), .o 21 (.bin .eql ew (.k (.int .i64 4)))]) (.cond eo (.run [.m 22 bZ, .o 23 (.aq dd 0), .o 24 (.aq ep 4), .o 25 (.load eH false 1), .o 26 (.du [(.str [])] 1 1 [(0,eI)]), .o 27 (.app 1 16 ey fk), .m 5 fm]) .skip))
abbrev akP:AC:= .seq (.cond dE .skip (.exit 0)) (.seq (.block 1 akO) (.run [.o 28 (.bin .add cO (.k (.int .i64 1))), .m 14 gb]))
abbrev akQ:AC:= .seq (.run [.m 8 bu, .m 9 bu, .m 10 bx, .c 11 ic [dA,bX], .c 12 gB [cZ,dg], .o 13 (.len c6), .o 14 (.mv (.k (.int .i64 0)))]) (.block 0 (.loop (.seq (.run [.o 15 (.bin .lss cO de)]) akP)))
abbrev akR:AC:= .seq (.run [.o 4 (.mv (.k (.slice .full 0 [])))]) (.seq (.run [.o 5 (.mv (.k (.slice .full 0 [])))]) (.seq akQ (.seq (.run [.m 29 bZ, .c 30 jg [gd]]) (.seq (.run [.m 31 bZ, .c 32 jA [gp], .m 4 gL]) .ret))))
open Go.Proofs
theorem yr:Has Tryz.prog oE 19 [(4,none)] ajT:=⟨Tryz.f146,by kernel_rfl,by kernel_rfl⟩
theorem sK:Has Tryz.prog kE 19 [(4,none)] ajY:=⟨Tryz.f167,by kernel_rfl,by kernel_rfl⟩
theorem EL:Has Tryz.prog qO 45 [(2,none)] aj4:=⟨Tryz.f168,by kernel_rfl,by kernel_rfl⟩
theorem EM:Has Tryz.prog uP 37 [(6,none)] ake:=⟨Tryz.f169,by kernel_rfl,by kernel_rfl⟩
theorem xr:Has Tryz.prog uQ 28 [(4,none)] akl:=⟨Tryz.f170,by kernel_rfl,by kernel_rfl⟩
theorem vO:Has Tryz.prog tn 15 [(4,none)] akm:=⟨Tryz.f171,by kernel_rfl,by kernel_rfl⟩
theorem Gt:Has Tryz.prog wF 40 [(4,none)] aks:=⟨Tryz.f172,by kernel_rfl,by kernel_rfl⟩
theorem Gu:Has Tryz.prog wG 22 [(2,none)] akt:=⟨Tryz.f175,by kernel_rfl,by kernel_rfl⟩
theorem Ip:Has Tryz.prog yi 16 [(4,none),(5,none)] aky:=⟨Tryz.f176,by kernel_rfl,by kernel_rfl⟩
theorem EN:Has Tryz.prog qP 5 [(2,none)] akz:=⟨Tryz.f177,by kernel_rfl,by kernel_rfl⟩
theorem Iq:Has Tryz.prog yj 57 [(6,none),(7,none)] akI:=⟨Tryz.f178,by kernel_rfl,by kernel_rfl⟩
theorem xu:Has Tryz.prog qQ 8 [(2,none)] akL:=⟨Tryz.f189,by kernel_rfl,by kernel_rfl⟩
theorem p8:Has Tryz.prog gC 9 [(4,none)] akM:=⟨Tryz.f190,by kernel_rfl,by kernel_rfl⟩
theorem BK:Has Tryz.prog oi 8 [(3,none)] akN:=⟨Tryz.f191,by kernel_rfl,by kernel_rfl⟩
theorem DE:Has Tryz.prog tq 33 [(4,none)] akR:=⟨Tryz.f192,by kernel_rfl,by kernel_rfl⟩
abbrev akS:AC:= .cond cz (.seq (.run [.o 2 (.mv (.k (.int .i64 1)))]) .ret) .skip
abbrev akT:AC:= .seq (.seq (.run [.m 3 bu]) akS) (.seq (.run [.o 2 (.mv (.k (.int .i64 0)))]) .ret)
abbrev akU:AC:= .seq (.run [.o 2 (.mv (.k (.int .i64 0)))]) akT
abbrev akV:AC:= .cond dA (.seq (.run [.o 6 (.mv (.k (.int .i64 0))), .o 7 (.mv (.k (.bool false)))]) .ret) .skip
abbrev akW:AC:= .cond de (.seq (.run [.o 6 (.mv (.k (.int .i64 0))), .o 7 (.mv (.k (.bool true)))]) .ret) .skip
abbrev akX:AC:= .cond dE (.seq (.run [.m 16 bx, .m 6 dn, .o 7 (.mv (.k (.bool true)))]) .ret) .skip
abbrev akY:AC:= .seq (.run [.m 14 bx,(.o 15 (.bin .eql cO (.k (.int .i64 (-9223372036854775808)))))]) akX
abbrev akZ:AC:= .seq akY (.seq (.run [.m 17 bx, .o 18 (.bin .sub (.k (.int .i64 0)) dG), .m 6 dF, .o 7 (.mv (.k (.bool true)))]) .ret)
abbrev ak0:AC:= .seq (.seq (.run [.m 12 bu, .o 13 (.bin .eql c6 (.k (.int .i64 7)))]) akW) akZ
abbrev ak1:AC:= .seq (.run [.m 10 dv,(.o 11 (.bin .eql bX (.k (.int .i64 (-1)))))]) (.cond dg ak0 .skip)
abbrev ak2:AC:= .cond ew (.seq (.run [.m 21 bx, .m 22 dv, .o 23 (.bin .rem eo ey), .m 6 ep, .o 7 (.mv (.k (.bool true)))]) .ret) .skip
abbrev ak3:AC:= .seq (.seq (.run [.m 19 bu, .o 20 (.bin .eql ei (.k (.int .i64 7)))]) ak2) (.seq (.run [.m 24 bx, .m 25 dv, .o 26 (.bin .quo eH eI), .m 6 fk, .o 7 (.mv (.k (.bool true)))]) .ret)
abbrev ak4:AC:= .seq (.seq (.run [.m 8 dv, .o 9 (.bin .eql cZ (.k (.int .i64 0)))]) akV) (.seq ak1 ak3)
abbrev ak5:AC:= .seq (.run [.o 6 (.mv (.k (.int .i64 0))), .o 7 (.mv (.k (.bool false)))]) ak4
abbrev ak6:AC:= .cond jy (.seq (.run [.m 41 bx, .m 42 dv, .o 43 (.bin .neq jO kF), .c 44 jh [kq], .m 6 lf, .o 7 (.mv (.k (.bool true)))]) .ret) .skip
abbrev ak7:AC:= .cond gE (.seq (.run [.m 35 bx, .m 36 dv, .o 37 (.bin .eql gM ie), .c 38 jh [iY], .m 6 jN, .o 7 (.mv (.k (.bool true)))]) .ret) (.seq (.run [.o 40 (.bin .eql cZ (.k (.int .i64 15))), .m 39 kd]) ak6)
abbrev ak8:AC:= .cond fm (.seq (.run [.m 29 bx, .m 30 dv, .o 31 (.bin .geq gd gD), .c 32 jh [gp], .m 6 gL, .o 7 (.mv (.k (.bool true)))]) .ret) (.seq (.run [.o 34 (.bin .eql cZ (.k (.int .i64 14))), .m 33 iA]) ak7)
abbrev ak9:AC:= .cond eo (.seq (.run [.m 23 bx, .m 24 dv, .o 25 (.bin .gtr ep eH), .c 26 jh [eI], .m 6 fk, .o 7 (.mv (.k (.bool true)))]) .ret) (.seq (.run [.o 28 (.bin .eql cZ (.k (.int .i64 13))), .m 27 gb]) ak8)
abbrev ala:AC:= .cond dE (.seq (.run [.m 17 bx, .m 18 dv, .o 19 (.bin .leq dG dF), .c 20 jh [ei], .m 6 ew, .o 7 (.mv (.k (.bool true)))]) .ret) (.seq (.run [.o 22 (.bin .eql cZ (.k (.int .i64 12))), .m 21 ey]) ak9)
abbrev alb:AC:= .cond dA (.seq (.run [.m 11 bx, .m 12 dv, .o 13 (.bin .lss dg c6), .c 14 jh [de], .m 6 cO, .o 7 (.mv (.k (.bool true)))]) .ret) (.seq (.run [.o 16 (.bin .eql cZ (.k (.int .i64 11))), .m 15 dn]) ala)
abbrev alc:AC:= .block 0 (.seq (.run [.o 10 (.bin .eql cZ (.k (.int .i64 10))), .m 9 bX]) alb)
abbrev ald:AC:= .seq (.seq (.run [.m 8 bu]) alc) (.seq (.run [.o 6 (.mv (.k (.int .i64 0))), .o 7 (.mv (.k (.bool false)))]) .ret)
abbrev ale:AC:= .seq (.run [.o 6 (.mv (.k (.int .i64 0))), .o 7 (.mv (.k (.bool false)))]) ald
abbrev alf:AC:= .seq (.block 1 (.seq (.run [.o 27 (.cq ep eI 4), .o 28 (.load fm true 4), .o 6 (.alloc [(.int .i64 0),(.int .i64 0),(.str []),(.slice .full 0 [])]), .op none none (.store dz gb 4)]) (.run [.o 29 (.load dz true 4), .m 30 bx, .c 31 iD [gd,gD], .m 1 gp]))) (.run [.o 32 (.bin .add eI (.k (.int .i64 1))), .m 25 gL])
abbrev alg:AC:= .block 0 (.loop (.seq (.run [.o 26 (.bin .lss eI eH)]) (.seq (.cond fk .skip (.exit 0)) alf)))
abbrev alh:AC:= .seq (.seq (.run [.o 22 (.aq dv 3), .o 23 (.load ey false 1), .o 24 (.len ep), .o 25 (.mv (.k (.int .i64 0)))]) alg) (.seq (.run [.m 33 bx, .m 4 gE]) .ret)
abbrev ali:AC:= .seq (.seq (.run [.o 7 (.aq dv 0), .o 8 (.load dd false 1), .o 9 (.bin .eql cZ (.k (.int .i64 2))), .m 10 dA, .g 11 10 true (.mv bx), .g 12 10 true (.aq dv 2), .g 13 10 true (.load c6 false 1), .d 14 10 true bY [dg,de], .g 15 10 true (.un .not cO), .o 16 (.pick bX dE (.k (.bool false)))]) (.cond dn (.run [.m 17 bx, .o 18 (.aq dv 2), .o 19 (.load dF false 1), .o 20 (.du [(.str [])] 1 1 [(0,ei)]), .o 21 (.app 1 16 dG ew), .m 1 eo]) .skip)) alh
abbrev alj:AC:= .seq (.run [.o 2 (.box bu), .o 4 (.mv (.k (.slice .full 0 [])))]) ali
open Go.Proofs
theorem Ir:Has Tryz.prog jh 4 [(2,none)] akU:=⟨Tryz.f195,by kernel_rfl,by kernel_rfl⟩
theorem vP:Has Tryz.prog tr 27 [(6,none),(7,none)] ak5:=⟨Tryz.f196,by kernel_rfl,by kernel_rfl⟩
theorem CI:Has Tryz.prog rH 45 [(6,none),(7,none)] ale:=⟨Tryz.f197,by kernel_rfl,by kernel_rfl⟩
theorem qT:Has Tryz.prog iD 34 [(4,none)] alj:=⟨Tryz.f207,by kernel_rfl,by kernel_rfl⟩
open Go.Proofs
theorem EO:Has Tryz.prog qK 9 [(2,none)] QWW:=⟨Tryz.f104,by kernel_rfl,by kernel_rfl⟩
theorem J3:Has Tryz.prog An 24 [(4,none)] QX9:=⟨Tryz.f105,by kernel_rfl,by kernel_rfl⟩
theorem Is:Has Tryz.prog yh 18 [(2,none)] QYM:=⟨Tryz.f106,by kernel_rfl,by kernel_rfl⟩
theorem DF:Has Tryz.prog ti 93 [(2,none)] aid:=⟨Tryz.f107,by kernel_rfl,by kernel_rfl⟩
theorem Gv:Has Tryz.prog lT 33 [(2,none)] ail:=⟨Tryz.f108,by kernel_rfl,by kernel_rfl⟩
theorem o8:Has Tryz.prog kj 8 [(2,none)] ain:=⟨Tryz.f109,by kernel_rfl,by kernel_rfl⟩
theorem Gw:Has Tryz.prog sf 23 [(2,none)] air:=⟨Tryz.f110,by kernel_rfl,by kernel_rfl⟩
theorem vm:Has Tryz.prog fO 19 [(4,none)] aiw:=⟨Tryz.f111,by kernel_rfl,by kernel_rfl⟩
theorem B9:Has Tryz.prog vK 17 [(6,none),(7,none)] aiy:=⟨Tryz.f112,by kernel_rfl,by kernel_rfl⟩
theorem vn:Has Tryz.prog mK 9 [(4,none)] aiz:=⟨Tryz.f113,by kernel_rfl,by kernel_rfl⟩
theorem BL:Has Tryz.prog gB 26 [(4,none)] aiB:=⟨Tryz.f114,by kernel_rfl,by kernel_rfl⟩
theorem tt:Has Tryz.prog bY 9 [(4,none)] aiC:=⟨Tryz.f115,by kernel_rfl,by kernel_rfl⟩
theorem DG:Has Tryz.prog nL 18 [(2,none)] aiI:=⟨Tryz.f128,by kernel_rfl,by kernel_rfl⟩
theorem qU:Has Tryz.prog fP 9 [(4,none)] aiJ:=⟨Tryz.f129,by kernel_rfl,by kernel_rfl⟩
theorem BM:Has Tryz.prog oh 8 [(3,none)] aiK:=⟨Tryz.f130,by kernel_rfl,by kernel_rfl⟩
theorem DH:Has Tryz.prog pR 38 [(8,none)] aiQ:=⟨Tryz.f131,by kernel_rfl,by kernel_rfl⟩
theorem xv:Has Tryz.prog uN 28 [(4,none)] aiX:=⟨Tryz.f132,by kernel_rfl,by kernel_rfl⟩
theorem xw:Has Tryz.prog qL 9 [(2,none)] aiZ:=⟨Tryz.f133,by kernel_rfl,by kernel_rfl⟩
theorem Gx:Has Tryz.prog pG 24 [(4,none),(5,none)] ai5:=⟨Tryz.f134,by kernel_rfl,by kernel_rfl⟩
theorem oX:Has Tryz.prog uO 29 [(4,none)] ai9:=⟨Tryz.f135,by kernel_rfl,by kernel_rfl⟩
theorem tO:Has Tryz.prog qM 60 [(4,none)] ajk:=⟨Tryz.f136,by kernel_rfl,by kernel_rfl⟩
theorem CJ:Has Tryz.prog rG 41 [(4,none)] ajr:=⟨Tryz.f137,by kernel_rfl,by kernel_rfl⟩
theorem Gy:Has Tryz.prog wE 9 [(2,none)] ajs:=⟨Tryz.f141,by kernel_rfl,by kernel_rfl⟩
theorem EP:Has Tryz.prog oD 18 [(4,none)] ajt:=⟨Tryz.f142,by kernel_rfl,by kernel_rfl⟩
theorem ER:Has Tryz.prog qN 18 [(4,none)] aju:=⟨Tryz.f143,by kernel_rfl,by kernel_rfl⟩
theorem DI:Has Tryz.prog tj 27 [(2,none)] ajA:=⟨Tryz.f144,by kernel_rfl,by kernel_rfl⟩
theorem nT:Has Tryz.prog kO 92 [(6,none),(7,none)] ajO:=⟨Tryz.f145,by kernel_rfl,by kernel_rfl⟩
def Ax (c:UInt8):Bool:=decide ((c.toNat:Int)≥97) && decide ((c.toNat:Int)≤122)
def DJ (c:UInt8):Bool:=decide ((c.toNat:Int)≥48) && decide ((c.toNat:Int)≤57)
def isB (c:UInt8):Bool:=(c.toNat:Int)==32 ||(c.toNat:Int)==9 ||(c.toNat:Int)==10 ||(c.toNat:Int)==13
def oI:aF→Nat
 | []=>0
 |c::r=>if Ax c ||DJ c then oI r+1 else 0
def aa4:aF→Nat
 | []=>0
 |c::r=>if DJ c then aa4 r+1 else 0
def Nr:aF→Nat
 | []=>0
 |c::r=>if(c.toNat:Int) != 10 then Nr r+1 else 0
def isWord (s:aF):Bool:=
 s == [103,108,111,98,97,108] ||s == [112,114,111,99] ||s == [118,97,114] ||s == [114,101,102] ||s == [105,102] ||s == [101,108,115,101] ||s == [119,104,105,108,101] ||s == [98,114,101,97,107] ||s == [99,111,110,116,105,110,117,101] ||s == [114,101,116,117,114,110] ||s == [103,111,116,111] ||s == [114,101,97,100] ||s == [112,114,105,110,116]
def afi (s:aF):Bool:=s == [61,61] ||s == [33,61] ||s == [60,61] ||s == [62,61] ||s == [38,38] ||s == [124,124]
def VO (c:UInt8):Bool:=
 (c.toNat:Int)==40 ||(c.toNat:Int)==41 ||(c.toNat:Int)==123 ||(c.toNat:Int)==125 ||(c.toNat:Int)==44 ||(c.toNat:Int)==59 ||(c.toNat:Int)==58 ||(c.toNat:Int)==61 ||
 (c.toNat:Int)==33 ||(c.toNat:Int)==60 ||(c.toNat:Int)==62 ||(c.toNat:Int)==43 ||(c.toNat:Int)==45 ||(c.toNat:Int)==42 ||(c.toNat:Int)==47 ||(c.toNat:Int)==37
def VP:aF→Nat
 | []=>0
 | [c]=>if VO c then 1 else 0
 |c::d::_=>if afi [c,d]then 2 else if VO c then 1 else 0
def bJ:Int→aF→Option Int
 |n,[]=>some n
 |n,c::r=>if n > (9223372036854775807 - ((c.toNat:Int) - 48)) / 10 then none else bJ (n*10+((c.toNat:Int) - 48)) r
def alk (pos:Nat):aF→pC ⊕ Int
 | []=> .inr 2
 | c::r=>
  if Ax c then
   let s:=(c::r).take (oI (c::r))
   if s.length > 8 then .inr 4 else .inl ⟨if isWord s then 3 else 1,s,0,pos⟩
  else if DJ c then
   let s:=(c::r).take (aa4 (c::r))
   if s.length > 1∧(c.toNat:Int)=48 then .inr 2 else
   match bJ 0 s with
   |some n=> .inl ⟨2,s,n,pos⟩
   |none=> .inr 4
  else
   if VP (c::r)=0 then .inr 2 else .inl ⟨4,(c::r).take (VP (c::r)),0,pos⟩
def Ns:Nat→Nat→aF→List pC→List pC×Int×Int
 | 0,_,_,_=>([],0,0)
 |_+1,pos,[],out=>(out++ [⟨0,[],0,pos⟩],0,0)
 | n+1,pos,c::r,out=>
  if isB c then Ns n (pos+1) r out
  else if(c.toNat:Int)==35 then Ns n (pos+Nr (c::r)) ((c::r).drop (Nr (c::r))) out
  else match alk pos (c::r)with
   | .inr e=>([],e,pos)
   | .inl t=>if out.length=2000 then([],4,pos)else Ns n (pos+t.text.length) ((c::r).drop t.text.length) (out++ [t])
def xx (text:aF):List pC×Int×Int:=if text.length > 100000 then([],4,0)else Ns (text.length+1) 0 text []
def Bl:aF→Bool
 | []=>true
 |c::r=>if !(Ax c) && !(DJ c)then false else Bl r
def isName:aF→Bool
 | []=>false
 |c::r=>if decide (((r.length+1:Nat):Int) > 8) || !(Ax c)then false else if Bl r then !(isWord (c::r))else false
def nN (op:Int):Int:=if op==1 ||op==2 then 0 else if op==3 ||op==4 then 1 else if decide (op≥5) && decide (op≤17)then 2 else -1
mutual
def Ex.form:Ex→Bool
 |⟨op,n,name,kids⟩=>
  if nN op != (kids.length:Int) ||(op != 1 && n != 0) ||decide (n<0) || !((op==2) == !(name == [])) ||(!(name == []) && !(isName name))then false else Ex.sg kids
def Ex.sg:List Ex→Bool
 | []=>true
 |x::l=>if !(Ex.form x)then false else Ex.sg l
end
mutual
def Ex.texts:Ex→Prop
 |⟨_,_,name,kids⟩=>name.length<4611686018427387904∧Ex.uU kids
def Ex.uU:List Ex→Prop
 | []=>True
 |x::l=>x.texts∧Ex.uU l
end
theorem Ex.DK {x:Ex} : ∀ {l:List Ex},Ex.uU l→x∈l→x.texts
 |y::l,h,m=>by
  rcases List.mem_cons.1 m with rfl|m
  ·exact h.1
  ·exact Ex.DK h.2 m
theorem Ex.PZ {op n:Int} {name:aF} {kids:List Ex} (h:Ex.texts ⟨op,n,name,kids⟩) {y:Ex} (m:y∈kids):y.texts:=Ex.DK h.2 m
def Ex.may (x:Ex):Bool:=decide (((min x.depth 21:Nat):Int)≤20) && x.form
def Ex.none (x:Ex):Bool:=x.op==0 && x.n==0 && x.name == [] && (x.kids.length:Int)==0
def eU:List aF→Bool
 | []=>true
 |s::l=>if !(isName s)then false else eU l
def Ar.may (a:Ar):Bool:=if a.ref then isName a.name && a.x.none else a.name == [] && a.x.may
def Ar.fD:List Ar→Bool
 | []=>true
 |a::l=>if !(a.may)then false else Ar.fD l
def Sm.Nt (s:Sm):Bool:=s.kind==1 ||s.kind==3 ||s.kind==5 ||s.kind==6 ||(s.kind==9 && s.has)
def Sm.hasName (s:Sm):Bool:=s.kind==1 ||s.kind==2 ||s.kind==10
def Sm.xy (s:Sm):Bool:=s.kind==4
def Sm.one (s:Sm):Bool:=
 if decide (s.kind<1) ||decide (s.kind > 10) || !(eU s.labels) ||(s.Nt && !(s.x.may)) ||(!(s.Nt) && !(s.x.none)) ||(s.has && s.kind != 9)then false
 else if(s.hasName && !(isName s.name)) ||(!(s.hasName) && !(s.name == []) && !(s.xy && isName s.name))then false
 else if !(s.xy == !(s.proc == [])) ||(s.xy && !(isName s.proc)) ||(!(s.xy) && decide ((s.args.length:Int) > 0))then false
 else if !(Ar.fD s.args)then false
 else((s.aY.length:Int)==0 ||s.kind==5 ||s.kind==6) && ((s.aW.length:Int)==0 ||s.kind==5)
structure It where
 s:Sm
 deep:Int
 dh:Int
 aW:Bool
mutual
def jW (deep dh:Int) (aW:Bool) (out:List It):Sm→List It
 |⟨id,kind,labels,name,proc,x,has,args,aY,e⟩=>
  if decide (deep≤12)then fH (deep+1) id true (fH (deep+1) id false (out++ [⟨⟨id,kind,labels,name,proc,x,has,args,aY,e⟩,deep,dh,aW⟩]) aY) e
  else out++ [⟨⟨id,kind,labels,name,proc,x,has,args,aY,e⟩,deep,dh,aW⟩]
def fH (deep dh:Int) (aW:Bool) (out:List It):List Sm→List It
 | []=>out
 |s::l=>if decide ((out.length:Int)≤200)then fH deep dh aW (jW deep dh aW out s) l else out
end
def Pc.flat (f:Pc):List It:=fH 1 0 false [] f.body
def allM (out:List It):List Pc→List It
 | []=>out
 |f::l=>if decide (((out++f.flat).length:Int) > 200)then out++f.flat else allM (out++f.flat) l
def Pg.all (p:Pg):List It:=allM [] p.procs
def Pm.fD:List Pm→Bool
 | []=>true
 |a::l=>if !(isName a.name)then false else Pm.fD l
def Pc.oY:List Pc→Bool
 | []=>true
 |f::l=>
  if !(isName f.name) ||decide ((f.params.length:Int) > 8) ||decide ((f.vars.length:Int) > 16) || !(eU f.vars) || !(eU f.fin)then false
  else if !(Pm.fD f.params)then false else Pc.oY l
def It.fD (n:Nat):List It→Bool
 | []=>true
 |i::l=>if i.s.id != ((n+1:Nat):Int) ||decide (i.deep > 12) || !(i.s.one)then false else It.fD (n+1) l
def Pg.may (p:Pg):Bool:=
 if decide ((p.globals.length:Int) > 16) ||decide ((p.procs.length:Int) > 16) || !(eU p.globals)then false
 else if !(Pc.oY p.procs)then false
 else if decide ((p.all.length:Int) > 200)then false else It.fD 0 p.all
open Go.Proofs
@[go_sem] def atv (r:Rd):List D:= [.slice .shared 4 (r.l.map jE), .int .i64 r.i, .int .i64 r.code, .int .i64 r.H8, .int .i64 r.n]
set_option maxRecDepth 8000
open Go.Proofs
theorem rL (c:UInt8) (s:St):aG Tryz.prog qK [.int .u8 (c.toNat:Int)] s (.bool (Ax c)) s:=by
 refine aG.pure ?_ rfl rfl s
 generalize h:Ax c=b
 unfold Ax at h
 unfold S0
 refine aG.go EO rfl fun B Q hB hQ=>?_
 have⟨hD,hY,hZ,gA⟩:=bS
 repeat' (first
 |simp only[go_sem,hD,hY,hZ,gA]
 |(with_reducible first|refine bm fun hc=>?_|refine bn fun hc=>?_|refine bo (fun hc=>?_) fun hc=>?_)<;>(try simp only[hc,bs,↓reduceIte]at h)<;>try simp only[hc]
 |(with_reducible refine aE hQ ?_;exact fV))
theorem ES (c:UInt8) (s:St):aG Tryz.prog wE [.int .u8 (c.toNat:Int)] s (.bool (DJ c)) s:=by
 refine aG.pure ?_ rfl rfl s
 generalize h:DJ c=b
 unfold DJ at h
 unfold S0
 refine aG.go Gy rfl fun B Q hB hQ=>?_
 have⟨hD,hY,hZ,gA⟩:=bS
 repeat' (first
 |simp only[go_sem,hD,hY,hZ,gA]
 |(with_reducible first|refine bm fun hc=>?_|refine bn fun hc=>?_|refine bo (fun hc=>?_) fun hc=>?_)<;>(try simp only[hc,bs,↓reduceIte]at h)<;>try simp only[hc]
 |(with_reducible refine aE hQ ?_;exact fV))
theorem aa5 (t:aF) (s:St):aG Tryz.prog yh [.str t] s (.bool (isWord t)) s:=by
 refine aG.pure ?_ rfl rfl s
 generalize h:isWord t=b
 unfold isWord at h
 unfold S0
 refine aG.go Is rfl fun B Q hB hQ=>?_
 have⟨hD,hY,hZ,gA⟩:=bS
 repeat' (first
 |simp only[go_sem,hD,hY,hZ,gA]
 |(with_reducible first|refine bm fun hc=>?_|refine bn fun hc=>?_|refine bo (fun hc=>?_) fun hc=>?_)<;>(try simp only[hc,bs,↓reduceIte]at h)<;>try simp only[hc]
 |(with_reducible refine aE hQ ?_;exact fV))
theorem afj {text:aF} {pos:Nat} (hl:text.length<4611686018427387904) (s:St):aG Tryz.prog An [.str text, .int .i64 (pos:Int)] s (.int .i64 ((pos+oI (text.drop pos):Nat):Int)) s:=by
 refine aG.pure ?_ rfl rfl s
 unfold S0
 refine aG.go J3 rfl fun B Q hB hQ=>?_
 have⟨hD,hY,hZ,gA⟩:=bS
 repeat' (first
 |simp only[go_sem,hD,hY,hZ,gA]
 |(with_reducible refine aE hQ ?_;exact bg))
 refine fi 0 0 (bq.ind (ι:=aF×Nat) (fun i=>text.drop i.2=i.1∧i.2+oI i.1=pos+oI (text.drop pos)) (fun i=>i.1.length)
  (fun i=> [(0, .str text),(1, .int .i64 (i.2:Int))]) (fun i=>⟨[],[]⟩) ?_ (text.drop pos,pos) ⟨rfl,rfl⟩)
 rintro⟨rest,k⟩ ⟨h1,h2⟩ IH
 dsimp only at h1 h2
 cases rest with
 |nil=>
  have hD:=drop_nil h1
  simp only[oI,Nat.add_zero]at h2
  rw[← h2]at hQ
  repeat' (first
 |simp only[go_sem,hD,hY,hZ,gA]
 |(with_reducible refine aE hQ ?_;exact bg))
 | cons c rest=>
  obtain⟨hY,g2,hD,g4⟩:=drop_cons h1
  have hZ:k<4611686018427387904:=by omega
  cases hb:(Ax c ||DJ c)
  ·simp only [oI,hb,Bool.false_eq_true, ↓reduceIte,Nat.add_zero]at h2
   rw[← h2]at hQ
   simp only[Bool.or_eq_false_iff]at hb
   repeat' (first
 |simp only[go_sem,hD,hY,hZ,gA,hb.1,hb.2]
 |(with_reducible refine CU (rL _ _) ?_)
 |(with_reducible refine CU (ES _ _) ?_)
 | (with_reducible refine aE hQ ?_;exact bg))
  ·simp only [oI,hb, ↓reduceIte]at h2
   cases Hw:Ax c
   ·rw [Hw,Bool.false_or]at hb
    repeat' (first
 |simp only[go_sem,hD,hY,hZ,gA,hb,Hw]
 |(with_reducible refine CU (rL _ _) ?_)
 |(with_reducible refine CU (ES _ _) ?_)
 | (with_reducible refine aE hQ ?_;exact bg))
    refine fi 0 0 (IH (rest,k+1) ⟨g2,by dsimp only;omega⟩ (Nat.lt_succ_self _))
   ·repeat' (first
 |simp only[go_sem,hD,hY,hZ,gA,Hw]
 |(with_reducible refine CU (rL _ _) ?_)
 |(with_reducible refine CU (ES _ _) ?_)
 | (with_reducible refine aE hQ ?_;exact bg))
    refine fi 0 0 (IH (rest,k+1) ⟨g2,by dsimp only;omega⟩ (Nat.lt_succ_self _))
def ar7 (s:aF):Int×Bool:=match bJ 0 s with|some n=>(n,true)|none=>(0,false)
open Go.Proofs
def alm (f:Int×Int):List D:= [.int .i64 f.1, .int .i64 f.2]
def afk (text:aF) (out:List pC) (pos:Nat):Tm:= [(0, .str text),(3, .ptr 0 0),(4, .slice (.tok 0) 4 (out.map jE)),(5, .ptr 1 0),(6, .int .i64 (pos:Int))]
def afl (out:List pC):St:=⟨[[.int .i64 0, .int .i64 0],[.junk, .junk, .junk, .junk]],[some out.length]⟩
attribute [go_sem] afk afl alm
end Go.Abs
namespace Go.Abs
set_option maxRecDepth 8000
open Go.Proofs
def amd (s:aF):Bool:=
 [103,108,111,98,97,108] == s || [112,114,111,99] == s || [118,97,114] == s || [114,101,102] == s || [105,102] == s || [101,108,115,101] == s || [119,104,105,108,101] == s || [98,114,101,97,107] == s || [99,111,110,116,105,110,117,101] == s || [114,101,116,117,114,110] == s || [103,111,116,111] == s || [114,101,97,100] == s || [112,114,105,110,116] == s
def OpR (p:Int×Int):Prop:=0≤p.2∧p.2≤6
@[go_sem] def atw (z:D) (r:Rd):List D:= [.slice .shared 4 (r.l.map jE), .int .i64 r.i, .int .i64 r.code, .int .i64 r.H8,z]
class Cell (z:D):Prop where
 ok:D.ok 0 0 z=true
 fg : ∀ n m,D.fg n m z=z
instance (n:Int):Cell (.int .i64 n):=⟨rfl,fun _ _=>rfl⟩
instance:Cell .junk:=⟨rfl,fun _ _=>rfl⟩
theorem XH (z:D) [h:Cell z] (n m:Nat):D.fg n m z=z:=h.fg n m
attribute [go_sem] XH
def Rd.isO (text:aF) (r:Rd):Option Bool:=if r.good then r.is text else some false
end Go.Abs
namespace Go.Abs
open Go.Proofs
def aa6 (s:aF):Int×Int:=
 if [42] == s then(6,5)else if [47] == s then(6,6)else if [37] == s then(6,7)else if [43] == s then(5,8)else if [45] == s then(5,9)
 else if [60] == s then(4,10)else if [60,61] == s then(4,11)else if [62] == s then(4,12)else if [62,61] == s then(4,13)
 else if [61,61] == s then(3,14)else if [33,61] == s then(3,15)else if [38,38] == s then(2,16)else if [124,124] == s then(1,17)else(0,0)
def BZ (p:Int×Int):Prop:=(p.2==0)=(p.1==0)
set_option maxRecDepth 8000
open Go.Proofs
structure Sm.tu (s:Sm):Prop where
 VQ : ∀ t∈s.labels,t.length<4611686018427387904
 aln:s.labels.length<4611686018427387904
 name:s.name.length<4611686018427387904
 proc:s.proc.length<4611686018427387904
 x:s.x.size<4611686018427387904
 xt:s.x.texts
 alo:s.args.length<4611686018427387904
 arg : ∀ a∈s.args,a.x.size<4611686018427387904∧a.x.texts∧a.name.length<4611686018427387904
section
variable {v:Sm} {B:fM} {Q:Exit→Tm→St→Prop} {p:Bool}
end
theorem aG.goS {P:Program} {f:FuncId} {nt:Nat} {res:List (Nat×Option (Bool×Nat))} {body:AC} {args:List D} {s:St} {d:D} {s':St} (h0:Has P f nt res body) (hl:Nat.ble args.length nt=true)
 (h : ∀ (B:fM) (Q:Exit→Tm→St→Prop),B.s=s→ph s.ah.length s.av.length res d s'=Q→Sem P B nt body Q (ml 0 args) s):aG P f args s d s':=by
 obtain⟨fn,hf,hc⟩:=h0
 exact aG.intro ⟨fn,hf,hc⟩ (Nat.le_of_ble_eq_true hl) fun B hB=>h B _ hB rfl
end Go.Abs
namespace Go.Abs
set_option maxRecDepth 8000
open Go.Proofs
def dq (i:Im):List D:= [.int .i64 i.s.id, .int .i64 i.s.kind, .slice .shared 1 (i.s.labels.map encStr), .str i.s.name, .str i.s.proc,
 .int .i64 i.s.x.op, .int .i64 i.s.x.n, .str i.s.x.name, .slice .shared 4 (i.s.x.kids.map bW), .bool i.s.has, .slice .shared 6 (i.s.args.map eg), .slice .shared 13 (i.s.aY.map bk), .slice .shared 13 (i.s.aW.map bk), .int .i64 i.proc, .int .i64 i.up, .int .i64 i.next, .int .i64 i.loop]
def cr (n:Int):List D:= [.int .i64 n]
theorem Nu (i:Im):D.bI 0 0 (dq i)=true:=by simp[dq,D.bI,D.ok,Tag.ok,eQ,U2,GQ,qE]
theorem GU (l:List Im):D.gR 0 0 (l.map dq)=true:=gV Nu l
theorem VR (n m:Nat) (l:List Im):D.kg n m (l.map dq)=l.map dq:=lz Nu n m l
theorem afm (n m:Nat) (i:Im):D.gf n m (dq i)=dq i:=gK n m _ (Nu i)
theorem afn (x:Im):(dq x).length=17:=nd rfl
theorem XI (x:Im):List.take 17 (dq x)=dq x:=nd rfl
theorem aa7 (x:Im):List.drop 17 (dq x) = []:=nd rfl
theorem aa8 (x:Im):List.take 13 (dq x)=bk x.s:=by simp only[dq,eO];rfl
theorem Ti (x:Im):(dq x)[0]? = some (.int .i64 x.s.id):=nd rfl
theorem Tj (x:Im):(dq x)[1]? = some (.int .i64 x.s.kind):=nd rfl
theorem Tk (x:Im):(dq x)[4]? = some (.str x.s.proc):=nd rfl
theorem P0 (x:Im):(dq x)[13]? = some (.int .i64 x.proc):=nd rfl
theorem P2 (x:Im):(dq x)[14]? = some (.int .i64 x.up):=nd rfl
theorem P3 (x:Im):(dq x)[15]? = some (.int .i64 x.next):=nd rfl
theorem P4 (x:Im):(dq x)[16]? = some (.int .i64 x.loop):=nd rfl
theorem Nv (s:Sm) (a b c d:Int):dq ⟨s,a,b,c,d⟩ = [.int .i64 s.id, .int .i64 s.kind, .slice .shared 1 (s.labels.map encStr), .str s.name, .str s.proc,
 .int .i64 s.x.op, .int .i64 s.x.n, .str s.x.name, .slice .shared 4 (s.x.kids.map bW), .bool s.has, .slice .shared 6 (s.args.map eg), .slice .shared 13 (s.aY.map bk), .slice .shared 13 (s.aW.map bk), .int .i64 a, .int .i64 b, .int .i64 c, .int .i64 d]:=nd rfl
theorem VS (n:Int):D.bI 0 0 (cr n)=true:=rfl
theorem jG (l:List Int):D.gR 0 0 (l.map cr)=true:=gV VS l
theorem P5 (n m:Nat) (l:List Int):D.kg n m (l.map cr)=l.map cr:=lz VS n m l
attribute [go_sem] VR afm afn XI aa7 aa8 Ti Tj Tk P0 P2 P3 P4 P5 cr
theorem aa9 : ∀ n,n<1000000000→∀ v:Sm,v.size≤n→aG Tryz.prog lT [.agg (bk v)] S0 (.int .i64 (v.jf:Int)) S0:=by
 intro n
 induction n with
 |zero=>intro _ v h;obtain⟨_,_,_,_,_,_,_,_,_,_⟩:=v;simp only[Sm.size]at h;omega
 |succ n ih=>
 intro hn v hv
 have dK:Sm.a8 v.aY≤n∧Sm.a8 v.aW≤n∧v.jf=1+Sm.iM v.aY+Sm.iM v.aW:=by
  obtain⟨_,_,_,_,_,_,_,_,_,_⟩:=v
  simp only[Sm.size]at hv;exact⟨by dsimp only;omega,by dsimp only;omega,rfl⟩
 obtain⟨h1,h2,h3⟩:=dK
 have c1:=ni v.aY
 have c2:=ni v.aW
 have l1:=Sm.eR v.aY
 have l2:=Sm.eR v.aW
 have hk : ∀ y,y∈v.aY∨y∈v.aW→∀ s,aG Tryz.prog lT [.agg (bk y)] s (.int .i64 (y.jf:Int)) s:=fun y hy s=>
  (ih (by omega) y (by rcases hy with hy|hy<;>(have:=Sm.dr hy;omega))).pure (by simp only[D.bI,D.ok,qD];rfl) rfl s
 rw[h3]
 unfold S0
 refine aG.go Gv rfl fun B Q hB hQ=>?_
 have⟨hD,hY,hZ,gA⟩:=bS
 repeat' (first
 |simp only[go_sem,hD,hY,hZ,gA]
 |(with_reducible refine aE hQ ?_;exact bg))
 refine fi 1 0 (bq.ind (ι:=List Sm×Nat×Nat) (fun i=>v.aY.drop i.2.1=i.1∧i.2.2+Sm.iM i.1=1+Sm.iM v.aY) (fun i=>i.1.length)
  (fun i=> [(1, .ptr 0 0),(3, .int .i64 (i.2.2:Int)),(9, .slice .shared 13 (v.aY.map bk)),(10, .int .i64 (v.aY.length:Int)),(11, .int .i64 (i.2.1:Int))]) (fun i=>⟨[bk v],[]⟩) ?_ (v.aY,0,1) ⟨rfl,rfl⟩)
 rintro⟨rest,k,c⟩ ⟨g1,g2⟩ IH
 dsimp only at g1 g2
 cases rest with
 |cons y rest=>
  obtain⟨hY,g3,hD,g4⟩:=drop_cons g1
  have hy:=hk y (.inl (List.mem_of_getElem? hY))
  simp only[Sm.iM]at g2
  have hcy:=Cy y
  have Fl:=Sm.dr (List.mem_of_getElem? hY)
  have w1:IntKind.wrap .i64 ((k:Int)+1)=((k+1:Nat):Int):=by rw[ek]<;>omega
  have w2:IntKind.wrap .i64 ((c:Int)+(y.jf:Int))=((c+y.jf:Nat):Int):=by rw[ek]<;>omega
  repeat' (first
 |simp only[go_sem,hD,hY,hZ,gA,w1,w2]
 |(with_reducible refine CU (hy _) ?_)
 |(with_reducible refine aE hQ ?_;exact bg))
  refine fi 1 0 (IH (rest,k+1,c+y.jf) ⟨g3,by dsimp only;omega⟩ (Nat.lt_succ_self _))
 |nil=>
  have hD:=drop_nil g1
  simp only[Sm.iM,Nat.add_zero]at g2
  subst g2
  repeat' (first
 |simp only[go_sem,hD,hY,hZ,gA]
 | (with_reducible refine aE hQ ?_;exact bg))
  refine fi 1 0 (bq.ind (ι:=List Sm×Nat×Nat) (fun i=>v.aW.drop i.2.1=i.1∧i.2.2+Sm.iM i.1=1+Sm.iM v.aY+Sm.iM v.aW) (fun i=>i.1.length)
   (fun i=> [(1, .ptr 0 0),(3, .int .i64 (i.2.2:Int)),(21, .slice .shared 13 (v.aW.map bk)),(22, .int .i64 (v.aW.length:Int)),(23, .int .i64 (i.2.1:Int))]) (fun i=>⟨[bk v],[]⟩) ?_ (v.aW,0,1+Sm.iM v.aY) ⟨rfl,rfl⟩)
  rintro⟨rest,k,c⟩ ⟨g1,g2⟩ IH
  dsimp only at g1 g2
  cases rest with
  |cons y rest=>
   obtain⟨hY,g3,hD,g4⟩:=drop_cons g1
   have hy:=hk y (.inr (List.mem_of_getElem? hY))
   simp only[Sm.iM]at g2
   have hcy:=Cy y
   have Fl:=Sm.dr (List.mem_of_getElem? hY)
   have w1:IntKind.wrap .i64 ((k:Int)+1)=((k+1:Nat):Int):=by rw[ek]<;>omega
   have w2:IntKind.wrap .i64 ((c:Int)+(y.jf:Int))=((c+y.jf:Nat):Int):=by rw[ek]<;>omega
   repeat' (first
 |simp only[go_sem,hD,hY,hZ,gA,w1,w2]
 |(with_reducible refine CU (hy _) ?_)
 | (with_reducible refine aE hQ ?_;exact bg))
   refine fi 1 0 (IH (rest,k+1,c+y.jf) ⟨g3,by dsimp only;omega⟩ (Nat.lt_succ_self _))
  |nil=>
   have hD:=drop_nil g1
   simp only[Sm.iM,Nat.add_zero]at g2
   subst g2
   repeat' (first
 |simp only[go_sem,hD,hY,hZ,gA]
 |(with_reducible refine aE hQ ?_;exact bg))
theorem abb {v:Sm} (h:v.size<1000000000) (s:St):aG Tryz.prog lT [.agg (bk v)] s (.int .i64 (v.jf:Int)) s:=
 (aa9 v.size h v (Nat.le_refl _)).pure (by simp only[D.bI,D.ok,qD];rfl) rfl s
end Go.Abs
namespace Go.Abs
set_option maxRecDepth 8000
open Go.Proofs
abbrev iE (g ps:D) (L:List Im) (lo hi:List Int):List D:= [g,ps, .slice (.tok 0) 17 (L.map dq), .slice (.tok 1) 1 (lo.map cr), .slice (.tok 2) 1 (hi.map cr)]
abbrev Tl (proc up next loop:Int):List D:= [.int .i64 0, .int .i64 0, .slice .full 0 [], .str [], .str [], .int .i64 0, .int .i64 0, .str [], .slice .full 0 [], .bool false, .slice .full 0 [], .slice .full 0 [], .slice .full 0 [], .int .i64 proc, .int .i64 up, .int .i64 next, .int .i64 loop]
theorem aG.afo {P:Program} {f:Nat} {args:List D} {g ps:D} {L L':List Im} {lo hi Fs gI:List Int} {a b c a' b' c':Option Nat}
 (h:aG P f (.ptr 0 0::args) ⟨[iE g ps L lo hi],[a,b,c]⟩ (.tuple []) ⟨[iE g ps L' Fs gI],[a',b',c']⟩)
 (ha:D.bI 0 0 args=true) (hg:D.ok 0 0 g=true) (hp:D.ok 0 0 ps=true)
 {s:St} {o:Nat} (ho:s.ah[o]? = some (iE g ps L lo hi)) (ht:s.av = [a,b,c]):aG P f (.ptr o 0::args) s (.tuple []) ⟨s.ah.set o (iE g ps L' Fs gI),[a',b',c']⟩:=by
 have hr : ∀ (L:List Im) (lo hi:List Int),D.eD [o] [0,1,2] (iE g ps L lo hi)=iE g ps L lo hi:=fun L lo hi=>by
  simp[D.eD,D.cL,Tag.cL,pZ _ _ _ hg,pZ _ _ _ hp,iS _ _ _ (GU L),iS _ _ _ (jG lo),iS _ _ _ (jG hi)]
 have hk : ∀ (L:List Im) (lo hi:List Int),D.bI 1 3 (iE g ps L lo hi)=true:=fun L lo hi=>by
  simp[D.bI,D.ok,Tag.ok,Ez (Nat.zero_le 1) (Nat.zero_le 3) _ hg,Ez (Nat.zero_le 1) (Nat.zero_le 3) _ hp,lR (Nat.zero_le 1) (Nat.zero_le 3) _ (GU L),lR (Nat.zero_le 1) (Nat.zero_le 3) _ (jG lo),lR (Nat.zero_le 1) (Nat.zero_le 3) _ (jG hi)]
 refine bG.frame [o] [0,1,2] h (by simp) (by decide) (by simpa using (List.getElem?_eq_some_iff.1 ho).1) (by rw[ht];simp) rfl (fun i o' ds e1 e2=>?_) rfl (fun i t' e1=>?_)
  (by simp[D.eD,D.cL,fp _ _ _ ha])
  (by simp[D.bI,D.ok,ib (Nat.zero_le 1) (Nat.zero_le 3) _ ha]) ?_
 ·cases i with
  |zero=>simp only[List.getElem?_cons_zero,Option.some.injEq]at e1 e2;subst e1;subst e2;exact⟨by rw[hr];exact ho,hk L lo hi⟩
  |succ i=>simp at e1
 ·rw [ht]
  match i,e1 with
  | 0,e1=>simp at e1;subst e1;rfl
  | 1,e1=>simp at e1;subst e1;rfl
  | 2,e1=>simp at e1;subst e1;rfl
  |i+3,e1=>simp at e1
 ·rintro _ _ ⟨rfl,rfl⟩
  refine⟨by simp[D.back,D.cL,D.eD], ?_⟩
  have:=hr L' Fs gI
  simp[St.back,kn,ki,this,ht]
abbrev VT (N:Nat):Prop:=∀ (l:List Sm) (proc up next loop:Int) (out:List Im) (g ps:D) (lo hi:List Int) (b c:Option Nat),Sm.a8 l<N→out.length+Sm.iM l<1000000000→D.ok 0 0 g=true→D.ok 0 0 ps=true→
 ∀ {s:St} {o:Nat},s.ah[o]? = some (iE g ps out lo hi)→s.av = [some out.length,b,c]→
 aG Tryz.prog jM [.ptr o 0, .slice .shared 13 (l.map bk), .agg (Tl proc up next loop)] s (.tuple []) ⟨s.ah.set o (iE g ps (Im.rows proc up next loop out l) lo hi),[some (Im.rows proc up next loop out l).length,b,c]⟩
theorem afp {N:Nat} (ih:VT N) {l:List Sm} {proc up next loop:Int} {out:List Im} {g ps:D} {lo hi:List Int} {b c:Option Nat} (hs:Sm.a8 l<N+1) (hc:out.length+Sm.iM l<1000000000) (hg:D.ok 0 0 g=true) (hp:D.ok 0 0 ps=true) (hN:N<1000000000) :
 aG Tryz.prog jM [.ptr 0 0, .slice .shared 13 (l.map bk), .agg (Tl proc up next loop)] ⟨[iE g ps out lo hi],[some out.length,b,c]⟩ (.tuple []) ⟨[iE g ps (Im.rows proc up next loop out l) lo hi],[some (Im.rows proc up next loop out l).length,b,c]⟩:=by
 obtain⟨R,hR⟩ : ∃ R,R=Im.rows proc up next loop out l:=⟨_,rfl⟩
 have hlR:R.length=out.length+Sm.iM l:=by rw[hR,gn]
 rw[← hR]
 have k1 : ∀ n m,D.fg n m g=g:=fun n m=>M9 n m _ hg
 have k2 : ∀ n m,D.fg n m ps=ps:=fun n m=>M9 n m _ hp
 refine aG.go Aw rfl fun B Q hB hQ=>?_
 have⟨hD,hY,hZ,gA⟩:=bS
 repeat' (first
 |simp only[go_sem,hD,hY,hZ,gA,k1,k2]
 |(with_reducible first|refine bm fun hc=>?_|refine bn fun hc=>?_|refine bo (fun hc=>?_) fun hc=>?_)<;>(try simp only[hc,bs,↓reduceIte]at h)<;>try simp only[hc]
 |(with_reducible refine aE hQ ?_;simp only[aR,aS,bC,bD,go_sem,hD,hY,hZ,gA,k1,k2];try exact cb))
 refine fj 2 3 ?_ ?_ (bq.ind (ι:=List Sm×Nat×List Im) (fun i=>l.drop i.2.1=i.1∧Im.rows proc up next loop i.2.2 i.1=R∧i.2.2.length+Sm.iM i.1=out.length+Sm.iM l) (fun i=>i.1.length)
  (fun i=> [(0, .ptr 0 0),(1, .slice .shared 13 (l.map bk)),(5, .ptr 1 0),(11, .slice .shared 13 (l.map bk)),(12, .int .i64 (l.length:Int)),(13, .int .i64 (i.2.1:Int))]) (fun i=>⟨[iE g ps i.2.2 lo hi,Tl proc up next loop],[some i.2.2.length,b,c]⟩) ?_ (l,0,out) ⟨rfl,hR.symm,rfl⟩)
 ·(simp only[go_sem,hD,hY,hZ,gA,k1,k2];try exact cv)
 ·(simp only[go_sem,hD,hY,hZ,gA,k1,k2];try exact cv)
 rintro⟨rest,k,ct⟩ ⟨h1,h2,h3⟩ IH
 dsimp only at h1 h2 h3
 have hlen:l.length<1000000000:=by have:=Sm.eR l;omega
 cases rest with
 |nil=>
  have hD:=drop_nil h1
  simp only[Im.rows]at h2
  subst h2
  repeat' (first
 |simp only[go_sem,hD,hY,hZ,gA,k1,k2]
 |(with_reducible first|refine bm fun hc=>?_|refine bn fun hc=>?_|refine bo (fun hc=>?_) fun hc=>?_)<;>(try simp only[hc,bs,↓reduceIte]at h)<;>try simp only[hc]
 |(with_reducible refine aE hQ ?_;simp only[aR,aS,bC,bD,go_sem,hD,hY,hZ,gA,k1,k2];try exact cb))
 | cons v rest=>
  obtain⟨hY,g2,hD,g4⟩:=drop_cons h1
  have cf:k<4611686018427387904:=by omega
  have hv:=Sm.dr (List.mem_of_getElem? hY)
  have sA:Sm.a8 v.aY<N∧Sm.a8 v.aW<N∧v.jf=1+Sm.iM v.aY+Sm.iM v.aW:=by
   obtain⟨_,_,_,_,_,_,_,_,_,_⟩:=v
   simp only[Sm.size]at hv
   exact⟨by dsimp only;omega,by dsimp only;omega,rfl⟩
  obtain⟨xc,Hu,hv3⟩:=sA
  simp only[Sm.iM]at h3
  simp only[Im.rows,Im.aav]at h2
  have hZ:(ct.length+1)*241≤bH:=by unfold bH;omega
  have Kz:IntKind.wrap .i64 ((ct.length:Int)+1)=(ct.length:Int)+1:=ek (by omega) (by omega)
  have sL:IntKind.wrap .i64 ((k:Int)+1)=((k+1:Nat):Int):=by rw[ek]<;>omega
  have VU:IntKind.wrap .i64 ((ct.length:Int)+1+(v.jf:Int))=(ct.length:Int)+1+(v.jf:Int):=ek (by omega) (by omega)
  have dK:=fun s=>abb (v:=v) (by omega) s
  simp only[eO]at dK
  have zY:rest.length=l.length - (k+1):=by rw[← g2,List.length_drop]
  by_cases atx:k+1<l.length
  ·have d1:decide (((k+1:Nat):Int)<(l.length:Int))=true:=by simp;omega
   have e1:(rest.length=0)=False:=by simp;intro h;rw[h]at zY;simp at zY;omega
   by_cases P6:v.kind=6
   ·have d2:(v.kind==6)=true:=by simp [P6]
    simp only[e1,d2,↓reduceIte,Bool.false_eq_true]at h2
    have f1:=fun {s:St} {o:Nat}=>@ih v.aY proc ((ct.length:Int)+1) ((ct.length:Int)+1) ((ct.length:Int)+1) (ct++ [⟨v,proc,up,((ct.length:Int)+1+(v.jf:Int)),loop⟩]) g ps lo hi b c xc (by simp;omega) hg hp s o
    have f2:=fun {s:St} {o:Nat}=>@ih v.aW proc ((ct.length:Int)+1) ((ct.length:Int)+1) ((ct.length:Int)+1) _ g ps lo hi b c Hu (by rw[gn proc ((ct.length:Int)+1) ((ct.length:Int)+1) ((ct.length:Int)+1) (ct++ [⟨v,proc,up,((ct.length:Int)+1+(v.jf:Int)),loop⟩]) v.aY];simp;omega) hg hp s o
    have hl:(Im.rows proc ((ct.length:Int)+1) ((ct.length:Int)+1) ((ct.length:Int)+1) (Im.rows proc ((ct.length:Int)+1) ((ct.length:Int)+1) ((ct.length:Int)+1) (ct++ [⟨v,proc,up,((ct.length:Int)+1+(v.jf:Int)),loop⟩]) v.aY) v.aW).length=ct.length+v.jf:=by rw[gn,gn];simp;omega
    simp only[iE,List.map_append,List.map_cons,List.map_nil,Nv,List.length_append,List.length_cons,List.length_nil]at f1
    repeat' (first
 |simp only[go_sem,hD,hY,hZ,gA,k1,k2,Kz,sL,VU,d1,d2,eO]
 |(with_reducible refine CU (dK _) ?_)
 |(with_reducible refine CU (f1 (by with_unfolding_all rfl) (by with_unfolding_all rfl)) ?_)
 |(with_reducible refine CU (f2 (by with_unfolding_all rfl) (by with_unfolding_all rfl)) ?_)
 | (with_reducible refine aE hQ ?_;exact bg))
    refine fj 2 3 ?_ ?_ (IH (rest,k+1,_) ⟨g2,h2,by dsimp only;rw[hl];omega⟩ (Nat.lt_succ_self _))
    ·(simp only[go_sem,hD,hY,hZ,gA,sL,k1,k2];try exact cv)
    ·(simp only[go_sem,hD,hY,hZ,gA,sL,k1,k2];try exact cv)
   ·have d2:(v.kind==6)=false:=by simp [P6]
    simp only[e1,d2,↓reduceIte,Bool.false_eq_true]at h2
    have f1:=fun {s:St} {o:Nat}=>@ih v.aY proc ((ct.length:Int)+1) ((ct.length:Int)+1+(v.jf:Int)) loop (ct++ [⟨v,proc,up,((ct.length:Int)+1+(v.jf:Int)),loop⟩]) g ps lo hi b c xc (by simp;omega) hg hp s o
    have f2:=fun {s:St} {o:Nat}=>@ih v.aW proc ((ct.length:Int)+1) ((ct.length:Int)+1+(v.jf:Int)) loop _ g ps lo hi b c Hu (by rw[gn proc ((ct.length:Int)+1) ((ct.length:Int)+1+(v.jf:Int)) loop (ct++ [⟨v,proc,up,((ct.length:Int)+1+(v.jf:Int)),loop⟩]) v.aY];simp;omega) hg hp s o
    have hl:(Im.rows proc ((ct.length:Int)+1) ((ct.length:Int)+1+(v.jf:Int)) loop (Im.rows proc ((ct.length:Int)+1) ((ct.length:Int)+1+(v.jf:Int)) loop (ct++ [⟨v,proc,up,((ct.length:Int)+1+(v.jf:Int)),loop⟩]) v.aY) v.aW).length=ct.length+v.jf:=by rw[gn,gn];simp;omega
    simp only[iE,List.map_append,List.map_cons,List.map_nil,Nv,List.length_append,List.length_cons,List.length_nil]at f1
    repeat' (first
 |simp only[go_sem,hD,hY,hZ,gA,k1,k2,Kz,sL,VU,d1,d2,eO]
 |(with_reducible refine CU (dK _) ?_)
 |(with_reducible refine CU (f1 (by with_unfolding_all rfl) (by with_unfolding_all rfl)) ?_)
 |(with_reducible refine CU (f2 (by with_unfolding_all rfl) (by with_unfolding_all rfl)) ?_)
 | (with_reducible refine aE hQ ?_;exact bg))
    refine fj 2 3 ?_ ?_ (IH (rest,k+1,_) ⟨g2,h2,by dsimp only;rw[hl];omega⟩ (Nat.lt_succ_self _))
    ·(simp only[go_sem,hD,hY,hZ,gA,sL,k1,k2];try exact cv)
    ·(simp only[go_sem,hD,hY,hZ,gA,sL,k1,k2];try exact cv)
  ·have d1:decide (((k+1:Nat):Int)<(l.length:Int))=false:=by simp;omega
   have e1:(rest.length=0)=True:=by simp only[eq_iff_iff,iff_true];omega
   by_cases P6:v.kind=6
   ·have d2:(v.kind==6)=true:=by simp [P6]
    simp only[e1,d2,↓reduceIte,Bool.false_eq_true]at h2
    have f1:=fun {s:St} {o:Nat}=>@ih v.aY proc ((ct.length:Int)+1) ((ct.length:Int)+1) ((ct.length:Int)+1) (ct++ [⟨v,proc,up,next,loop⟩]) g ps lo hi b c xc (by simp;omega) hg hp s o
    have f2:=fun {s:St} {o:Nat}=>@ih v.aW proc ((ct.length:Int)+1) ((ct.length:Int)+1) ((ct.length:Int)+1) _ g ps lo hi b c Hu (by rw[gn proc ((ct.length:Int)+1) ((ct.length:Int)+1) ((ct.length:Int)+1) (ct++ [⟨v,proc,up,next,loop⟩]) v.aY];simp;omega) hg hp s o
    have hl:(Im.rows proc ((ct.length:Int)+1) ((ct.length:Int)+1) ((ct.length:Int)+1) (Im.rows proc ((ct.length:Int)+1) ((ct.length:Int)+1) ((ct.length:Int)+1) (ct++ [⟨v,proc,up,next,loop⟩]) v.aY) v.aW).length=ct.length+v.jf:=by rw[gn,gn];simp;omega
    simp only[iE,List.map_append,List.map_cons,List.map_nil,Nv,List.length_append,List.length_cons,List.length_nil]at f1
    repeat' (first
 |simp only[go_sem,hD,hY,hZ,gA,k1,k2,Kz,sL,VU,d1,d2,eO]
 |(with_reducible refine CU (dK _) ?_)
 |(with_reducible refine CU (f1 (by with_unfolding_all rfl) (by with_unfolding_all rfl)) ?_)
 |(with_reducible refine CU (f2 (by with_unfolding_all rfl) (by with_unfolding_all rfl)) ?_)
 | (with_reducible refine aE hQ ?_;exact bg))
    refine fj 2 3 ?_ ?_ (IH (rest,k+1,_) ⟨g2,h2,by dsimp only;rw[hl];omega⟩ (Nat.lt_succ_self _))
    ·(simp only[go_sem,hD,hY,hZ,gA,sL,k1,k2];try exact cv)
    ·(simp only[go_sem,hD,hY,hZ,gA,sL,k1,k2];try exact cv)
   ·have d2:(v.kind==6)=false:=by simp [P6]
    simp only[e1,d2,↓reduceIte,Bool.false_eq_true]at h2
    have f1:=fun {s:St} {o:Nat}=>@ih v.aY proc ((ct.length:Int)+1) next loop (ct++ [⟨v,proc,up,next,loop⟩]) g ps lo hi b c xc (by simp;omega) hg hp s o
    have f2:=fun {s:St} {o:Nat}=>@ih v.aW proc ((ct.length:Int)+1) next loop _ g ps lo hi b c Hu (by rw[gn proc ((ct.length:Int)+1) next loop (ct++ [⟨v,proc,up,next,loop⟩]) v.aY];simp;omega) hg hp s o
    have hl:(Im.rows proc ((ct.length:Int)+1) next loop (Im.rows proc ((ct.length:Int)+1) next loop (ct++ [⟨v,proc,up,next,loop⟩]) v.aY) v.aW).length=ct.length+v.jf:=by rw[gn,gn];simp;omega
    simp only[iE,List.map_append,List.map_cons,List.map_nil,Nv,List.length_append,List.length_cons,List.length_nil]at f1
    repeat' (first
 |simp only[go_sem,hD,hY,hZ,gA,k1,k2,Kz,sL,VU,d1,d2,eO]
 |(with_reducible refine CU (dK _) ?_)
 |(with_reducible refine CU (f1 (by with_unfolding_all rfl) (by with_unfolding_all rfl)) ?_)
 |(with_reducible refine CU (f2 (by with_unfolding_all rfl) (by with_unfolding_all rfl)) ?_)
 | (with_reducible refine aE hQ ?_;exact bg))
    refine fj 2 3 ?_ ?_ (IH (rest,k+1,_) ⟨g2,h2,by dsimp only;rw[hl];omega⟩ (Nat.lt_succ_self _))
    ·(simp only[go_sem,hD,hY,hZ,gA,sL,k1,k2];try exact cv)
    ·(simp only[go_sem,hD,hY,hZ,gA,sL,k1,k2];try exact cv)
theorem XK : ∀ N,N<1000000000→VT N:=by
 intro N
 induction N with
 |zero=>exact fun _ l proc up next loop out g ps lo hi b c h=>absurd h (Nat.not_lt_zero _)
 |succ N ih=>
  intro h l proc up next loop out g ps lo hi b c hs hc hg hp s o ho ht
  exact(afp (ih (by omega)) hs hc hg hp (by omega)).afo (by simp[D.bI,D.ok,Tag.ok,qE,D.gR]) hg hp ho ht
def fl (p:Pg):List D:= [.slice .shared 1 (p.globals.map encStr), .slice .shared 5 (p.procs.map cj), .slice .shared 17 (p.aX.L.map dq), .slice .shared 1 (p.aX.lo.map cr), .slice .shared 1 (p.aX.hi.map cr)]
theorem nD (p:Pg):fl p = [.slice .shared 1 (p.globals.map encStr), .slice .shared 5 (p.procs.map cj), .slice .shared 17 (p.aX.L.map dq), .slice .shared 1 (p.aX.lo.map cr), .slice .shared 1 (p.aX.hi.map cr)]:=nd rfl
theorem tv (p:Pg):D.bI 0 0 (fl p)=true:=by simp[fl,D.bI,D.ok,Tag.ok,eQ,vG,GU,jG]
theorem DL (p:Pg):cG p = [.slice .shared 1 (p.globals.map encStr), .slice .shared 5 (p.procs.map cj)]:=nd rfl
theorem afq {p:Pg} (hs:Pc.a8 p.procs<1000000000):aG Tryz.prog kD [.agg (cG p)] S0 (.ptr 1 0) ⟨[cG p,iE (.slice .shared 1 (p.globals.map encStr)) (.slice .shared 5 (p.procs.map cj)) p.aX.L p.aX.lo p.aX.hi],[some p.aX.L.length,some p.aX.lo.length,some p.aX.hi.length]⟩:=by
 have hlen:p.procs.length<1000000000:=by have:=Pc.eR p.procs;omega
 obtain⟨R,hR⟩ : ∃ R,R=p.aX:=⟨_,rfl⟩
 have hR':=hR
 unfold Pg.aX at hR'
 unfold S0
 rw[DL, ← hR]
 refine aG.goK 2 3 (Nat.zero_le _) (Nat.zero_le _) Ik rfl fun B Q hB hQ=>?_
 have⟨hD,hY,hZ,gA⟩:=bS
 repeat' (first
 |simp only[go_sem,hD,hY,hZ,gA,DL]
 |(with_reducible refine aE hQ ?_;exact bg))
 refine bq.Cw 1 2 17 rfl rfl ?_
 simp only[go_sem,hD,hY,hZ,gA]
 refine bq.Cw 1 3 1 rfl rfl ?_
 simp only[go_sem,hD,hY,hZ,gA]
 refine bq.Cw 1 4 1 rfl rfl ?_
 simp only[go_sem,hD,hY,hZ,gA]
 refine fj 2 3 ?_ ?_ (bq.ind (ι:=List Pc×Nat×Sh×Nat×Nat) (fun i=>p.procs.drop i.2.1=i.1∧Sh.go i.2.1 i.2.2.1 i.1=R∧i.2.2.1.L.length+Pc.a8 i.1≤Pc.a8 p.procs∧i.2.2.1.lo.length=i.2.1∧i.2.2.1.hi.length=i.2.1∧i.2.2.2.1=i.2.2.1.lo.length∧i.2.2.2.2=i.2.2.1.hi.length) (fun i=>i.1.length)
  (fun i=> [(1, .ptr 0 0),(3, .ptr 1 0),(10, .slice .shared 5 (p.procs.map cj)),(11, .int .i64 (p.procs.length:Int)),(12, .int .i64 (i.2.1:Int))]) (fun i=>⟨[[.slice .shared 1 (p.globals.map encStr), .slice .shared 5 (p.procs.map cj)],iE (.slice .shared 1 (p.globals.map encStr)) (.slice .shared 5 (p.procs.map cj)) i.2.2.1.L i.2.2.1.lo i.2.2.1.hi],[some i.2.2.1.L.length,some i.2.2.2.1,some i.2.2.2.2]⟩) ?_ (p.procs,0,⟨[],[],[]⟩,0,0) ⟨rfl,hR'.symm,by simp,rfl,rfl,rfl,rfl⟩)
 ·(simp only[go_sem,hD,hY,hZ,gA,iE];try exact cv)
 ·(simp only[go_sem,hD,hY,hZ,gA,iE];try exact cv)
 rintro⟨rest,k,h,n1,n2⟩ ⟨h1,h2,h3,h4,h5,h6,h7⟩ IH
 dsimp only at h1 h2 h3 h4 h5 h6 h7
 subst h6 h7
 cases rest with
 |nil=>
  have hD:=drop_nil h1
  simp only[Sh.go]at h2
  rw[← h2]at hQ
  repeat' (first
 |simp only[go_sem,hD,hY,hZ,gA,iE]
 |(with_reducible refine aE hQ ?_;exact bg))
 |cons f rest=>
  obtain⟨hY,g2,hD,g4⟩:=drop_cons h1
  have cf:k<4611686018427387904:=by omega
  simp only[Pc.a8,Pc.size]at h3
  simp only[Sh.go]at h2
  have c1:=ni f.body
  have hZ:(h.lo.length+1)*9≤bH:=by unfold bH;omega
  have alq:(h.hi.length+1)*9≤bH:=by unfold bH;omega
  have Kz:IntKind.wrap .i64 ((h.L.length:Int)+1)=(h.L.length:Int)+1:=ek (by omega) (by omega)
  have hl:(Im.rows (k:Int) 0 (-1) 0 h.L f.body).length=h.L.length+Sm.iM f.body:=gn ..
  have sL:IntKind.wrap .i64 (((Im.rows (k:Int) 0 (-1) 0 h.L f.body).length:Int)+1)=((Im.rows (k:Int) 0 (-1) 0 h.L f.body).length:Int)+1:=ek (by omega) (by omega)
  have hr:=fun {s:St} {o:Nat}=>@XK (Sm.a8 f.body+1) (by omega) f.body (k:Int) 0 (-1) 0 h.L (.slice .shared 1 (p.globals.map encStr)) (.slice .shared 5 (p.procs.map cj)) (h.lo++ [(h.L.length:Int)+1]) h.hi (some (h.lo.length+1)) (some h.hi.length) (Nat.lt_succ_self _) (by omega) (by simp[D.ok,Tag.ok,eQ]) (by simp[D.ok,Tag.ok,vG]) s o
  simp only[iE,List.map_append,List.map_cons,List.map_nil,cr]at hr
  repeat' (first
 |simp only[go_sem,hD,hY,hZ,gA,Kz,sL,alq,iE]
 |(with_reducible refine CU (hr (by with_unfolding_all rfl) (by with_unfolding_all rfl)) ?_)
 |(with_reducible refine aE hQ ?_;exact bg))
  refine fj 2 3 ?_ ?_ (IH (rest,k+1,⟨Im.rows (k:Int) 0 (-1) 0 h.L f.body,h.lo++ [(h.L.length:Int)+1],h.hi++ [((Im.rows (k:Int) 0 (-1) 0 h.L f.body).length:Int)+1]⟩,_,_) ⟨g2,h2,by dsimp only;rw[hl];omega,by simp[h4],by simp[h5],by simp,by simp⟩ (Nat.lt_succ_self _))
  ·(simp only[go_sem,hD,hY,hZ,gA,iE,aJ cf,List.map_append,List.map_cons,List.map_nil,cr];try exact cv)
  ·(simp only[go_sem,hD,hY,hZ,gA,iE,aJ cf,List.map_append,List.map_cons,List.map_nil,cr];try exact cv)
theorem Bm {p:Pg} (hs:Pc.a8 p.procs<1000000000) (s:St):aG Tryz.prog kD [.agg (cG p)] s (.dt (fl p) 0) s:=by
 refine aG.pure ?_ (by simp only[D.bI,D.ok,kp];rfl) (by simp only[D.ok,tv]) s
 have h:=(afq hs).zI (n:=0) (m:=0) rfl (Nat.le_refl _) (Nat.zero_le _) (Nat.le_refl _)
 simpa[D.gf,D.fg,Tag.fg,PR,U3,VR,P5,St.cut,fl,S0]using h
def iN (x:aF) (k:Int):List aF→Int
 | []=> -1
 |s::l=>if x==s then k else iN x (k+1) l
def fe (l:List aF) (x:aF):Bool:=decide (iN x 0 l≥0)
def kG {α:Type} (b:α→Bool) (k:Int):List α→Int
 | []=> -1
 |s::l=>if b s then k else kG b (k+1) l
theorem KA (x:aF) : ∀ (l:List aF) (k:Int),0≤k→(iN x k l≥0↔x∈l)
 | [],k,h=>by simp[iN]
 | s::l,k,h=>by
  by_cases e:x=s
  ·simp[iN,e];omega
  ·have e':(x==s)=false:=by simp [e]
   simp only[iN,e',Bool.false_eq_true,if_false,List.mem_cons,e,false_or]
   exact KA x l (k+1) (by omega)
theorem iO (l:List aF) (x:aF):fe l x=true↔x∈l:=by
 simp only[fe,decide_eq_true_eq];exact KA x l 0 (Int.le_refl 0)
theorem ET {α:Type} (b:α→Bool) : ∀ (l:List α) (k:Int),0≤k→(kG b k l≥0↔l.any b=true)
 | [],k,h=>by simp[kG]
 | s::l,k,h=>by
  by_cases e:b s=true
  ·simp[kG,e];omega
  ·have e':b s=false:=by simpa using e
   simp only[kG,e',Bool.false_eq_true,if_false,List.any_cons,Bool.or_eq_true,false_or]
   exact ET b l (k+1) (by omega)
theorem Bn {l:List aF} (hl:l.length<4611686018427387904) (x:aF) (s:St):aG Tryz.prog fO [.slice .shared 1 (l.map encStr), .str x] s (.int .i64 (iN x 0 l)) s:=by
 refine aG.pure ?_ (by simp[D.bI,D.ok,Tag.ok,eQ]) rfl s
 generalize h:iN x 0 l=p
 unfold S0
 refine aG.go vm rfl fun B Q hB hQ=>?_
 have⟨hD,hY,hZ,gA⟩:=bS
 repeat' (first
 |simp only[go_sem,hD,hY,hZ,gA]
 |(with_reducible first|refine bm fun hc=>?_|refine bn fun hc=>?_|refine bo (fun hc=>?_) fun hc=>?_)<;>(try simp only[hc,bs,↓reduceIte]at h)<;>try simp only[hc]
 |(with_reducible refine aE hQ ?_;exact fV))
 refine fi 0 0 (bq.ind (ι:=List aF×Nat) (fun i=>l.drop i.2=i.1∧iN x (i.2:Int) i.1=p) (fun i=>i.1.length)
  (fun i=> [(0, .slice .shared 1 (l.map encStr)),(1, .str x),(7, .int .i64 (l.length:Int)),(8, .int .i64 (i.2:Int))]) (fun i=>⟨[],[]⟩) ?_ (l,0) ⟨rfl,h⟩)
 rintro⟨rest,k⟩ ⟨h1,h⟩ IH
 dsimp only at h1 h
 cases rest with
 |nil=>
  have hD:=drop_nil h1
  simp only[iN]at h
  repeat' (first
 |simp only[go_sem,hD,hY,hZ,gA]
 |(with_reducible first|refine bm fun hc=>?_|refine bn fun hc=>?_|refine bo (fun hc=>?_) fun hc=>?_)<;>(try simp only[hc,bs,↓reduceIte]at h)<;>try simp only[hc]
 |(with_reducible refine aE hQ ?_;exact fV))
 |cons a rest=>
  obtain⟨hY,g2,hD,g4⟩:=drop_cons h1
  have cf:k<4611686018427387904:=by omega
  simp only[iN]at h
  repeat' (first
 |simp only[go_sem,hD,hY,hZ,gA]
 |(with_reducible first|refine bm fun hc=>?_|refine bn fun hc=>?_|refine bo (fun hc=>?_) fun hc=>?_)<;>(try simp only[hc,bs,↓reduceIte]at h)<;>try simp only[hc]
 |(with_reducible refine aE hQ ?_;exact fV))
  refine fj 0 0 ?_ ?_ (IH (rest,k+1) ⟨g2,h⟩ (Nat.lt_succ_self _))
  ·(simp only[go_sem,hD,hY,hZ,gA,aJ cf];try exact cv)
  ·(simp only[go_sem,hD,hY,hZ,gA,aJ cf];try exact cv)
theorem qV {l:List aF} (hl:l.length<4611686018427387904) (x:aF) (s:St):aG Tryz.prog bY [.slice .shared 1 (l.map encStr), .str x] s (.bool (fe l x)) s:=by
 refine aG.pure ?_ (by simp[D.bI,D.ok,Tag.ok,eQ]) rfl s
 have hi:=fun s=>Bn hl x s
 unfold S0
 refine aG.go tt rfl fun B Q hB hQ=>?_
 have⟨hD,hY,hZ,gA⟩:=bS
 repeat' (first
 |simp only[go_sem,hD,hY,hZ,gA,fe]
 |(with_reducible refine CU (hi _) ?_)
 |(with_reducible first|refine bm fun hc=>?_|refine bn fun hc=>?_|refine bo (fun hc=>?_) fun hc=>?_)<;>(try simp only[hc,bs,↓reduceIte]at h)<;>try simp only[hc]
 |(with_reducible refine aE hQ ?_;simp only[aR,aS,bC,bD,go_sem,hD,hY,hZ,gA,fe];try exact cb))
theorem aG.VV {P:Program} {f:Nat} {d d':D} {r:List D} {s s':St} {x:D} (h:aG P f (d'::r) s x s') (hw:Wk d d'):aG P f (d::r) s x s':=bG.pg (.cons hw (iZ.refl r)) h
theorem ji {l:List aF} (hl:l.length<4611686018427387904) (x:aF) (g:Tag) (s:St):aG Tryz.prog bY [.slice g 1 (l.map encStr), .str x] s (.bool (fe l x)) s:=
 (qV hl x s).VV (Wk.shared _ _ _)
theorem Iu (x:aF) (z:Nat) (g:Tag) (s:St):aG Tryz.prog bY [.slice g z [], .str x] s (.bool false) s:=
 (qV (l:= []) (by simp) x s).VV (Wk.nil _ _ _)
theorem Ay {l:List aF} (hl:l.length<4611686018427387904) {f:Nat} {row:List D} {b:aF→Bool} (tP:D.bI 0 0 row=true) (he:enters Tryz.prog f=true)
 (hb : ∀ x∈l,aG Tryz.prog f ([.str x]++ [.ptr 0 0]) ⟨[row],[]⟩ (.bool (b x)) ⟨[row],[]⟩) :
 aG Tryz.prog kE [.slice .shared 1 (l.map encStr), .fS f [.ptr 0 0]] ⟨[row],[]⟩ (.int .i64 (kG b 0 l)) ⟨[row],[]⟩:=by
 generalize h:kG b 0 l=p
 have k1 : ∀ n m,D.gf n m row=row:=fun n m=>gK n m _ tP
 refine aG.go sK rfl fun B Q hB hQ=>?_
 have⟨hD,hY,hZ,gA⟩:=bS
 repeat' (first
 |simp only[go_sem,hD,hY,hZ,gA,k1]
 |(with_reducible first|refine bm fun hc=>?_|refine bn fun hc=>?_|refine bo (fun hc=>?_) fun hc=>?_)<;>(try simp only[hc,bs,↓reduceIte]at h)<;>try simp only[hc]
 |(with_reducible refine aE hQ ?_;(try cases h);simp only[aR,aS,bC,bD,go_sem,hD,hY,hZ,gA,k1];try exact cb))
 refine fj 1 0 ?_ ?_ (bq.ind (ι:=List aF×Nat) (fun i=>l.drop i.2=i.1∧kG b (i.2:Int) i.1=p) (fun i=>i.1.length)
  (fun i=> [(0, .slice .shared 1 (l.map encStr)),(1, .fS f [.ptr 0 0]),(7, .int .i64 (l.length:Int)),(8, .int .i64 (i.2:Int))]) (fun i=>⟨[row],[]⟩) ?_ (l,0) ⟨rfl,h⟩)
 ·(simp only[go_sem,hD,hY,hZ,gA,k1];try exact cv)
 ·(simp only[go_sem,hD,hY,hZ,gA,k1];try exact cv)
 rintro⟨rest,k⟩ ⟨h1,h⟩ IH
 dsimp only at h1 h
 cases rest with
 |nil=>
  have hD:=drop_nil h1
  simp only[kG]at h
  repeat' (first
 |simp only[go_sem,hD,hY,hZ,gA,k1]
 |(with_reducible first|refine bm fun hc=>?_|refine bn fun hc=>?_|refine bo (fun hc=>?_) fun hc=>?_)<;>(try simp only[hc,bs,↓reduceIte]at h)<;>try simp only[hc]
 |(with_reducible refine aE hQ ?_;(try cases h);simp only[aR,aS,bC,bD,go_sem,hD,hY,hZ,gA,k1];try exact cb))
 |cons a rest=>
  obtain⟨hY,g2,hD,g4⟩:=drop_cons h1
  have cf:k<4611686018427387904:=by omega
  have hba:=hb a (List.mem_of_getElem? hY)
  simp only[kG]at h
  repeat' (first
 |simp only[go_sem,hD,hY,hZ,gA,k1]
 |(with_reducible refine CV.use (he) (hba) ?_)
 |(with_reducible first|refine bm fun hc=>?_|refine bn fun hc=>?_|refine bo (fun hc=>?_) fun hc=>?_)<;>(try simp only[hc,bs,↓reduceIte]at h)<;>try simp only[hc]
 |(with_reducible refine aE hQ ?_;(try cases h);simp only[aR,aS,bC,bD,go_sem,hD,hY,hZ,gA,k1];try exact cb))
  refine fj 1 0 ?_ ?_ (IH (rest,k+1) ⟨g2,h⟩ (Nat.lt_succ_self _))
  ·(simp only[go_sem,hD,hY,hZ,gA,k1,aJ cf];try exact cv)
  ·(simp only[go_sem,hD,hY,hZ,gA,k1,aJ cf];try exact cv)
theorem Az {P:Program} {g f:Nat} {row:List D} {rows:List (List D)} {z:Nat} {d:D} (h:aG P g [.slice .shared z rows, .fS f [.ptr 0 0]] ⟨[row],[]⟩ d ⟨[row],[]⟩) (tP:D.bI 0 0 row=true) (hw:D.gR 0 0 rows=true) (hd:D.ok 0 0 d=true) {s:St} {o:Nat} (ho:s.ah[o]? = some row) :
 aG P g [.slice .shared z rows, .fS f [.ptr o 0]] s d s:=by
 refine bG.frame [o] [] h (by simp) List.nodup_nil (by simpa using (List.getElem?_eq_some_iff.1 ho).1) (by simp) rfl (fun i o' ds e1 e2=>?_) rfl (by simp) (by simp[D.eD,D.cL,Tag.cL,iS _ _ _ hw])
  (by simp[D.bI,D.ok,Tag.ok,lR (Nat.zero_le 1) (Nat.le_refl 0) _ hw]) ?_
 ·cases i with
  |zero=>simp at e1 e2;subst e1;subst e2;exact⟨by rw[fp _ _ _ tP];exact ho,ib (Nat.zero_le 1) (Nat.le_refl 0) _ tP⟩
  |succ i=>simp at e1
 ·rintro _ _ ⟨rfl,rfl⟩
  refine⟨pZ _ _ _ hd, ?_⟩
  have:s.ah.set o row=s.ah:=by
   apply List.ext_getElem?
   intro i
   rw[List.getElem?_set]
   split
   ·rename_i e;subst e;rw [ho];split
    ·rfl
    ·rename_i hh;exact absurd (List.getElem?_eq_some_iff.1 ho).1 hh
   ·rfl
  simp[St.back,kn,fp _ _ _ tP,this]
theorem xA {l:List aF} (hl:l.length<4611686018427387904) {f:Nat} {row:List D} {b:aF→Bool} (tP:D.bI 0 0 row=true) (he:enters Tryz.prog f=true)
 (hb : ∀ x∈l,aG Tryz.prog f ([.str x]++ [.ptr 0 0]) ⟨[row],[]⟩ (.bool (b x)) ⟨[row],[]⟩) :
 aG Tryz.prog fP [.slice .shared 1 (l.map encStr), .fS f [.ptr 0 0]] ⟨[row],[]⟩ (.bool (l.any b)) ⟨[row],[]⟩:=by
 have k1 : ∀ n m,D.gf n m row=row:=fun n m=>gK n m _ tP
 have hi:=Ay hl tP he hb
 have e:decide (kG b 0 l≥0)=l.any b:=by
  have:=ET b l 0 (Int.le_refl 0)
  cases hh:l.any b<;>simp_all
 refine aG.go qU rfl fun B Q hB hQ=>?_
 have⟨hD,hY,hZ,gA⟩:=bS
 repeat' (first
 |simp only[go_sem,hD,hY,hZ,gA,k1,e]
 |(with_reducible refine CU (hi) ?_)
 |(with_reducible first|refine bm fun hc=>?_|refine bn fun hc=>?_|refine bo (fun hc=>?_) fun hc=>?_)<;>(try simp only[hc,bs,↓reduceIte]at h)<;>try simp only[hc]
 |(with_reducible refine aE hQ ?_;simp only[aR,aS,bC,bD,go_sem,hD,hY,hZ,gA,k1,e];try exact cb))
theorem xB {l:List aF} (hl:l.length<4611686018427387904) {f:Nat} {row:List D} {b:aF→Bool} (tP:D.bI 0 0 row=true) (he:enters Tryz.prog f=true)
 (hb : ∀ x∈l,aG Tryz.prog f ([.str x]++ [.ptr 0 0]) ⟨[row],[]⟩ (.bool (b x)) ⟨[row],[]⟩) {s:St} {o:Nat} (ho:s.ah[o]? = some row) :
 aG Tryz.prog fP [.slice .shared 1 (l.map encStr), .fS f [.ptr o 0]] s (.bool (l.any b)) s:=
 Az (xA hl tP he hb) tP (eQ l) rfl ho
theorem uV {l:List Pc} (hl:l.length<4611686018427387904) {f:Nat} {row:List D} {b:Pc→Bool} (tP:D.bI 0 0 row=true) (he:enters Tryz.prog f=true)
 (hb : ∀ x∈l,aG Tryz.prog f ([.agg (cj x)]++ [.ptr 0 0]) ⟨[row],[]⟩ (.bool (b x)) ⟨[row],[]⟩) :
 aG Tryz.prog fW [.slice .shared 5 (l.map cj), .fS f [.ptr 0 0]] ⟨[row],[]⟩ (.int .i64 (kG b 0 l)) ⟨[row],[]⟩:=by
 generalize h:kG b 0 l=p
 have k1 : ∀ n m,D.gf n m row=row:=fun n m=>gK n m _ tP
 refine aG.go rh rfl fun B Q hB hQ=>?_
 have⟨hD,hY,hZ,gA⟩:=bS
 repeat' (first
 |simp only[go_sem,hD,hY,hZ,gA,k1]
 |(with_reducible first|refine bm fun hc=>?_|refine bn fun hc=>?_|refine bo (fun hc=>?_) fun hc=>?_)<;>(try simp only[hc,bs,↓reduceIte]at h)<;>try simp only[hc]
 |(with_reducible refine aE hQ ?_;(try cases h);simp only[aR,aS,bC,bD,go_sem,hD,hY,hZ,gA,k1];try exact cb))
 refine fj 1 0 ?_ ?_ (bq.ind (ι:=List Pc×Nat) (fun i=>l.drop i.2=i.1∧kG b (i.2:Int) i.1=p) (fun i=>i.1.length)
  (fun i=> [(0, .slice .shared 5 (l.map cj)),(1, .fS f [.ptr 0 0]),(7, .int .i64 (l.length:Int)),(8, .int .i64 (i.2:Int))]) (fun i=>⟨[row],[]⟩) ?_ (l,0) ⟨rfl,h⟩)
 ·(simp only[go_sem,hD,hY,hZ,gA,k1];try exact cv)
 ·(simp only[go_sem,hD,hY,hZ,gA,k1];try exact cv)
 rintro⟨rest,k⟩ ⟨h1,h⟩ IH
 dsimp only at h1 h
 cases rest with
 |nil=>
  have hD:=drop_nil h1
  simp only[kG]at h
  repeat' (first
 |simp only[go_sem,hD,hY,hZ,gA,k1]
 |(with_reducible first|refine bm fun hc=>?_|refine bn fun hc=>?_|refine bo (fun hc=>?_) fun hc=>?_)<;>(try simp only[hc,bs,↓reduceIte]at h)<;>try simp only[hc]
 |(with_reducible refine aE hQ ?_;(try cases h);simp only[aR,aS,bC,bD,go_sem,hD,hY,hZ,gA,k1];try exact cb))
 |cons a rest=>
  obtain⟨hY,g2,hD,g4⟩:=drop_cons h1
  have cf:k<4611686018427387904:=by omega
  have hba:=hb a (List.mem_of_getElem? hY)
  simp only[kG]at h
  repeat' (first
 |simp only[go_sem,hD,hY,hZ,gA,k1]
 |(with_reducible refine CV.use (he) (hba) ?_)
 |(with_reducible first|refine bm fun hc=>?_|refine bn fun hc=>?_|refine bo (fun hc=>?_) fun hc=>?_)<;>(try simp only[hc,bs,↓reduceIte]at h)<;>try simp only[hc]
 |(with_reducible refine aE hQ ?_;(try cases h);simp only[aR,aS,bC,bD,go_sem,hD,hY,hZ,gA,k1];try exact cb))
  refine fj 1 0 ?_ ?_ (IH (rest,k+1) ⟨g2,h⟩ (Nat.lt_succ_self _))
  ·(simp only[go_sem,hD,hY,hZ,gA,k1,aJ cf];try exact cv)
  ·(simp only[go_sem,hD,hY,hZ,gA,k1,aJ cf];try exact cv)
theorem zz {l:List Pc} (hl:l.length<4611686018427387904) {f:Nat} {row:List D} {b:Pc→Bool} (tP:D.bI 0 0 row=true) (he:enters Tryz.prog f=true)
 (hb : ∀ x∈l,aG Tryz.prog f ([.agg (cj x)]++ [.ptr 0 0]) ⟨[row],[]⟩ (.bool (b x)) ⟨[row],[]⟩) :
 aG Tryz.prog gC [.slice .shared 5 (l.map cj), .fS f [.ptr 0 0]] ⟨[row],[]⟩ (.bool (l.any b)) ⟨[row],[]⟩:=by
 have k1 : ∀ n m,D.gf n m row=row:=fun n m=>gK n m _ tP
 have hi:=uV hl tP he hb
 have e:decide (kG b 0 l≥0)=l.any b:=by
  have:=ET b l 0 (Int.le_refl 0)
  cases hh:l.any b<;>simp_all
 refine aG.go p8 rfl fun B Q hB hQ=>?_
 have⟨hD,hY,hZ,gA⟩:=bS
 repeat' (first
 |simp only[go_sem,hD,hY,hZ,gA,k1,e]
 |(with_reducible refine CU (hi) ?_)
 |(with_reducible first|refine bm fun hc=>?_|refine bn fun hc=>?_|refine bo (fun hc=>?_) fun hc=>?_)<;>(try simp only[hc,bs,↓reduceIte]at h)<;>try simp only[hc]
 |(with_reducible refine aE hQ ?_;simp only[aR,aS,bC,bD,go_sem,hD,hY,hZ,gA,k1,e];try exact cb))
mutual
def Sm.pre:Sm→List Sm
 |⟨id,kind,labels,name,pc,x,has,args,aY,aW⟩=>⟨id,kind,labels,name,pc,x,has,args,aY,aW⟩::(Sm.cT aY++Sm.cT aW)
def Sm.cT:List Sm→List Sm
 | []=> []
 |s::l=>s.pre++Sm.cT l
end
def Pg.pre (p:Pg):List Sm:=(p.procs.map fun f=>Sm.cT f.body).flatten
theorem Sm.pH (s:Sm):s.pre=s::(Sm.cT s.aY++Sm.cT s.aW):=by cases s;simp only[Sm.pre]
mutual
theorem XL (proc up next loop:Int) (out:List Im) : ∀ s:Sm,∃ e:List Im,Im.one proc up next loop out s=out++e∧e.map Im.s=s.pre
 |⟨id,kind,labels,name,pc,x,has,args,aY,aW⟩=>by
  simp only[Im.one,Sm.pre]
  obtain⟨e1,h1,k1⟩:=yu proc ((out.length:Int)+1) (if kind==6 then(out.length:Int)+1 else next) (if kind==6 then(out.length:Int)+1 else loop) (out++ [⟨⟨id,kind,labels,name,pc,x,has,args,aY,aW⟩,proc,up,next,loop⟩]) aY
  obtain⟨e2,h2,k2⟩:=yu proc ((out.length:Int)+1) (if kind==6 then(out.length:Int)+1 else next) (if kind==6 then(out.length:Int)+1 else loop) (Im.rows proc ((out.length:Int)+1) (if kind==6 then(out.length:Int)+1 else next) (if kind==6 then(out.length:Int)+1 else loop) (out++ [⟨⟨id,kind,labels,name,pc,x,has,args,aY,aW⟩,proc,up,next,loop⟩]) aY) aW
  refine⟨⟨⟨id,kind,labels,name,pc,x,has,args,aY,aW⟩,proc,up,next,loop⟩::(e1++e2), ?_, ?_⟩
  ·rw[h2,h1];simp
  ·simp[k1,k2]
theorem yu (proc up next loop:Int) (out:List Im) : ∀ l:List Sm,∃ e:List Im,Im.rows proc up next loop out l=out++e∧e.map Im.s=Sm.cT l
 | []=>⟨[],by simp[Im.rows],rfl⟩
 |s::l=>by
  simp only[Im.rows,Sm.cT]
  obtain⟨e1,h1,k1⟩:=XL proc up (if l.length=0 then next else(out.length:Int)+1+(s.jf:Int)) loop out s
  obtain⟨e2,h2,k2⟩:=yu proc up next loop (Im.one proc up (if l.length=0 then next else(out.length:Int)+1+(s.jf:Int)) loop out s) l
  refine⟨e1++e2, ?_,by simp[k1,k2]⟩
  rw[h2,h1];simp
end
theorem P7 : ∀ (l:List Pc) (n:Nat) (h:Sh),h.lo.length=n→h.hi.length=n→
 ∃ e lo hi,Sh.go n h l = ⟨h.L++e,h.lo++lo,h.hi++hi⟩∧e.map Im.s=(l.map fun f=>Sm.cT f.body).flatten∧lo.length=l.length∧hi.length=l.length∧
  ∀ (i:Nat) (f:Pc),l[i]? = some f→∃ a b e' Kf:List Im,lo[i]? = some (((h.L++a).length:Int)+1)∧hi[i]? = some (((h.L++a++b).length:Int)+1)∧b.map Im.s=Sm.cT f.body∧e=a++b++e'
 | [],n,h,hl,hh=>⟨[],[],[],by simp[Sh.go],rfl,rfl,rfl,fun i f h=>by simp at h⟩
 | f::l,n,h,hl,hh=>by
  simp only[Sh.go]
  obtain⟨e1,h1,k1⟩:=yu (n:Int) 0 (-1) 0 h.L f.body
  obtain⟨e2,lo,hi,h2,k2,h3,h4,h5⟩:=P7 l (n+1) ⟨Im.rows (n:Int) 0 (-1) 0 h.L f.body,h.lo++ [(h.L.length:Int)+1],h.hi++ [((Im.rows (n:Int) 0 (-1) 0 h.L f.body).length:Int)+1]⟩ (by simp[hl]) (by simp[hh])
  refine⟨e1++e2,((h.L.length:Int)+1)::lo,(((Im.rows (n:Int) 0 (-1) 0 h.L f.body).length:Int)+1)::hi, ?_,by simp[k1,k2],by simp[h3],by simp[h4],fun i g gI=>?_⟩
  ·rw[h2,h1];simp
  ·cases i with
   |zero=>
    simp only[List.getElem?_cons_zero,Option.some.injEq]at gI
    subst gI
    exact⟨[],e1,e2,[],by simp,by rw[h1];simp,k1,by simp⟩
   |succ i=>
    simp only[List.getElem?_cons_succ]at gI
    obtain⟨a,b,e',Kf,g1,g2,g3,g4⟩:=h5 i g gI
    refine⟨e1++a,b,e',Kf, ?_, ?_,g3,by rw[g4];simp⟩
    ·rw[List.getElem?_cons_succ,g1,h1];simp
    ·rw[List.getElem?_cons_succ,g2,h1];simp
theorem nj (p:Pg):p.aX.L.map Im.s=p.pre∧∀ (i:Nat) (f:Pc),p.procs[i]? = some f→∃ a b e:List Im,p.aX.lo[i]? = some ((a.length:Int)+1)∧p.aX.hi[i]? = some (((a++b).length:Int)+1)∧b.map Im.s=Sm.cT f.body∧p.aX.L=a++b++e:=by
 obtain⟨e,lo,hi,h1,h2,h3,h4,h5⟩:=P7 p.procs 0 ⟨[],[],[]⟩ rfl rfl
 unfold Pg.aX
 rw[h1]
 refine⟨by simpa[Pg.pre]using h2,fun i f hf=>?_⟩
 obtain⟨a,b,e',_,g1,g2,g3,g4⟩:=h5 i f hf
 exact⟨a,b,e',by simpa using g1,by simpa using g2,g3,by simpa using g4⟩
def Pg.at (p:Pg) (name:aF):Int:=kG (fun f:Pc=>f.name==name) 0 p.procs
theorem XM (name:aF) (f:Pc):aG Tryz.prog lj ([.agg (cj f)]++ [.ptr 0 0]) ⟨[[.str name]],[]⟩ (.bool (f.name==name)) ⟨[[.str name]],[]⟩:=by
 show aG Tryz.prog lj [.agg (cj f), .ptr 0 0] _ _ _
 refine aG.go xm rfl fun B Q hB hQ=>?_
 have⟨hD,hY,hZ,gA⟩:=bS
 repeat' (first
 |simp only[go_sem,hD,hY,hZ,gA]
 |(with_reducible refine aE hQ ?_;exact bg))
theorem DM {p:Pg} (hs:p.procs.length<4611686018427387904) (name:aF) (s:St):aG Tryz.prog ic [.dt (fl p) 0, .str name] s (.int .i64 (p.at name)) s:=by
 refine aG.pure ?_ (by simp[D.bI,D.ok,tv]) rfl s
 have hi:=fun {s:St} {o:Nat} (ho:s.ah[o]? = some [.str name])=>Az (uV (l:=p.procs) (f:=lj) (row:= [.str name]) (b:=fun f:Pc=>f.name==name) hs rfl (by with_unfolding_all rfl) (fun x _=>XM name x)) rfl (vG _) rfl ho
 have gI:=fun {s:St} {o:Nat} (ho:s.ah[o]? = some [.str name])=>(show aG Tryz.prog fW [.slice .shared 5 (p.procs.map cj), .fS 76 [.ptr o 0]] s (.int .i64 (p.at name)) s from hi ho)
 unfold S0
 rw[nD]
 refine aG.go zv rfl fun B Q hB hQ=>?_
 have⟨hD,hY,hZ,gA⟩:=bS
 repeat' (first
 |simp only[go_sem,hD,hY,hZ,gA]
 |(with_reducible refine CU (gI (by with_unfolding_all rfl)) ?_)
 |(with_reducible refine aE hQ ?_;exact bg))
theorem P8 : ∀ (l:List Pc) (n:Nat) (h:Sh),(Sh.go n h l).L.length≤h.L.length+Pc.a8 l
 | [],n,h=>by simp[Sh.go]
 |f::l,n,h=>by
  simp only[Sh.go]
  refine Nat.le_trans (P8 l _ _) ?_
  have:=gn (n:Int) 0 (-1) 0 h.L f.body
  have:=ni f.body
  simp only[Pc.a8,Pc.size];omega
theorem oJ (p:Pg):p.aX.L.length≤Pc.a8 p.procs:=by have:=P8 p.procs 0 ⟨[],[],[]⟩;simpa[Pg.aX]using this
theorem abe {p:Pg} {i:Nat} (hs:Pc.a8 p.procs<1000000000) {a b e:List Im} (h1:p.aX.lo[i]? = some ((a.length:Int)+1)) (h2:p.aX.hi[i]? = some (((a++b).length:Int)+1)) (h4:p.aX.L=a++b++e) (s:St) :
 aG Tryz.prog gB [.dt (fl p) 0, .int .i64 (i:Int)] s (.slice .shared 17 (b.map dq)) s:=by
 refine aG.pure ?_ (by simp[D.bI,D.ok,tv]) (by simp[D.ok,Tag.ok,GU]) s
 have hL:p.aX.L.length<1000000000:=Nat.lt_of_le_of_lt (oJ p) hs
 have l1:(i:Int)<(p.aX.lo.length:Int):=by have:=(List.getElem?_eq_some_iff.1 h1).1;omega
 have l2:(i:Int)<(p.aX.hi.length:Int):=by have:=(List.getElem?_eq_some_iff.1 h2).1;omega
 have VW:a.length+b.length≤p.aX.L.length:=by rw[h4];simp
 have w1:IntKind.wrap .i64 ((a.length:Int)+1 - 1)=(a.length:Int):=by rw[show(a.length:Int)+1 - 1=(a.length:Int) by omega];exact ek (by omega) (by omega)
 have w2:IntKind.wrap .i64 (((a.length+b.length:Nat):Int)+1 - 1)=((a.length+b.length:Nat):Int):=by rw[show((a.length+b.length:Nat):Int)+1 - 1=((a.length+b.length:Nat):Int) by omega];exact ek (by omega) (by omega)
 have c1:((a.length:Int)≤((a.length+b.length:Nat):Int))=True:=by simp only[eq_iff_iff,iff_true];omega
 have c2:(((a.length+b.length:Nat):Int)≤(p.aX.L.length:Int))=True:=by simp only[eq_iff_iff,iff_true];omega
 have hb:List.drop a.length (List.take (a.length+b.length) (List.map dq p.aX.L))=List.map dq b:=by rw[h4];simp[List.map_append,List.take_append,List.drop_append]
 unfold S0
 rw[nD]
 refine aG.go BL rfl fun B Q hB hQ=>?_
 have⟨hD,hY,hZ,gA⟩:=bS
 repeat' (first
 |simp only[go_sem,hD,hY,hZ,gA,h1,h2,List.length_append,w1,w2,c1,c2,or_true,true_and,and_self,ite_self,Int.toNat_natCast,hb]
 |(with_reducible first|refine bm fun hc=>?_|refine bn fun hc=>?_|refine bo (fun hc=>?_) fun hc=>?_)<;>(try simp only[hc,bs,↓reduceIte]at h)<;>try simp only[hc]
 |(with_reducible refine aE hQ ?_;(try cases h);simp only[aR,aS,bC,bD,go_sem,hD,hY,hZ,gA,h1,h2,List.length_append,w1,w2,c1,c2,or_true,true_and,and_self,ite_self,Int.toNat_natCast,hb];try exact cb)
 |(cases h;done))
theorem Tn {p:Pg} {i:Nat} {f:Pc} (hf:p.procs[i]? = some f) (hs:Pc.a8 p.procs<1000000000) : ∃ it:List Im,it.map Im.s=Sm.cT f.body∧∀ s,aG Tryz.prog gB [.dt (fl p) 0, .int .i64 (i:Int)] s (.slice .shared 17 (it.map dq)) s:=by
 obtain⟨a,b,e,h1,h2,h3,h4⟩:=(nj p).2 i f hf
 exact⟨b,h3,abe hs h1 h2 h4⟩
theorem FD {r:aF} : Bl r=true↔oI r=r.length:=by
 induction r with
 |nil=>simp[Bl,oI]
 |cons c r ih=>
  simp only[Bl,oI]
  cases h1:Ax c<;>cases h2:DJ c<;>simp[ih]
theorem AA (t:aF) (hl:t.length<4611686018427387904) (s:St):aG Tryz.prog nC [.str t] s (.bool (isName t)) s:=by
 refine aG.pure ?_ rfl rfl s
 have hr:=fun s=>afj (pos:=0) hl s
 simp only[List.drop_zero,Nat.zero_add]at hr
 unfold S0
 cases t with
 |nil=>
  have z:decide (((0:Nat):Int)<1)=true:=rfl
  have z':decide ((0:Int)<1)=true:=rfl
  have e:isName [] = false:=rfl
  rw[e]
  refine aG.go mN rfl fun B Q hB hQ=>?_
  have⟨hD,hY,hZ,gA⟩:=bS
  repeat' (first
 |simp only[go_sem,hD,hY,hZ,gA,z,z']
 |(with_reducible refine aE hQ ?_;exact bg))
 | cons c r=>
  have l1:decide (((r.length+1:Nat):Int)<1)=false:=by simp;omega
  generalize h:isName (c::r)=p
  simp only[isName]at h
  cases hL:Ax c
  ·simp only [hL,Bool.not_false,Bool.or_true, ↓reduceIte]at h
   subst h
   by_cases c8:decide (((r.length+1:Nat):Int) > 8)=true
   ·refine aG.go mN rfl fun B Q hB hQ=> ?_
    have⟨hD,hY,hZ,gA⟩:=bS
    repeat' (first
 |simp only[go_sem,hD,hY,hZ,gA,l1,c8]
 | (with_reducible refine aE hQ ?_;exact bg))
   ·have c8:decide (((r.length+1:Nat):Int) > 8)=false:=by simpa using c8
    refine aG.go mN rfl fun B Q hB hQ=>?_
    have⟨hD,hY,hZ,gA⟩:=bS
    repeat' (first
 |simp only[go_sem,hD,hY,hZ,gA,l1,c8,hL]
 |(with_reducible refine CU (rL _ _) ?_)
 | (with_reducible refine aE hQ ?_;exact bg))
  ·simp only [hL,Bool.not_true,Bool.or_false]at h
   by_cases c8:decide (((r.length+1:Nat):Int) > 8)=true
   ·simp only [c8, ↓reduceIte]at h
    subst h
    refine aG.go mN rfl fun B Q hB hQ=>?_
    have⟨hD,hY,hZ,gA⟩:=bS
    repeat' (first
 |simp only[go_sem,hD,hY,hZ,gA,l1,c8]
 | (with_reducible refine aE hQ ?_;exact bg))
   ·have c8:decide (((r.length+1:Nat):Int) > 8)=false:=by simpa using c8
    simp only[c8,Bool.false_eq_true,↓reduceIte]at h
    have dC:oI (c::r)=oI r+1:=by simp[oI,hL]
    cases hn:Bl r
    ·simp only [hn,Bool.false_eq_true, ↓reduceIte]at h
     have:oI r≠r.length:=fun e=>by rw[FD.2 e]at hn;cases hn
     have e:(((oI (c::r):Nat):Int)==((r.length+1:Nat):Int))=false:=by rw[dC];simp;omega
     subst h
     refine aG.go mN rfl fun B Q hB hQ=>?_
     have⟨hD,hY,hZ,gA⟩:=bS
     repeat' (first
 |simp only[go_sem,hD,hY,hZ,gA,l1,c8,hL,e]
 |(with_reducible refine CU (rL _ _) ?_)
 |(with_reducible refine CU (hr _) ?_)
 | (with_reducible refine aE hQ ?_;exact bg))
    ·simp only [hn, ↓reduceIte]at h
     have:=FD.1 hn
     have e:(((oI (c::r):Nat):Int)==((r.length+1:Nat):Int))=true:=by rw[dC];simp;omega
     subst h
     refine aG.go mN rfl fun B Q hB hQ=>?_
     have⟨hD,hY,hZ,gA⟩:=bS
     repeat' (first
 |simp only[go_sem,hD,hY,hZ,gA,l1,c8,hL,e]
 |(with_reducible refine CU (rL _ _) ?_)
 |(with_reducible refine CU (hr _) ?_)
 |(with_reducible refine CU (aa5 _ _) ?_)
 |(with_reducible refine aE hQ ?_;exact bg))
theorem KB (op:Int) (s:St):aG Tryz.prog wD [.int .i64 op] s (.int .i64 (nN op)) s:=by
 refine aG.pure ?_ rfl rfl s
 unfold S0
 generalize h:nN op=p
 unfold nN at h
 refine aG.go Gs rfl fun B Q hB hQ=>?_
 have⟨hD,hY,hZ,gA⟩:=bS
 repeat' (first
 |simp only[go_sem,hD,hY,hZ,gA]
 |(with_reducible first|refine bm fun hc=>?_|refine bn fun hc=>?_|refine bo (fun hc=>?_) fun hc=>?_)<;>(try simp only[hc,bs,↓reduceIte]at h)<;>try simp only[hc]
 |(with_reducible refine aE hQ ?_;exact fV))
theorem yv {l:List aF} (hl:l.length<4611686018427387904) (hs : ∀ t∈l,t.length<4611686018427387904) (s:St):aG Tryz.prog mJ [.slice .shared 1 (l.map encStr)] s (.bool (eU l)) s:=by
 refine aG.pure ?_ (by simp[D.bI,D.ok,eQ,Tag.ok]) rfl s
 unfold S0
 generalize h:eU l=p
 refine aG.go EJ rfl fun B Q hB hQ=>?_
 have⟨hD,hY,hZ,gA⟩:=bS
 repeat' (first
 |simp only[go_sem,hD,hY,hZ,gA]
 |(with_reducible first|refine bm fun hc=>?_|refine bn fun hc=>?_|refine bo (fun hc=>?_) fun hc=>?_)<;>(try simp only[hc,bs,↓reduceIte]at h)<;>try simp only[hc]
 |(with_reducible refine aE hQ ?_;exact fV))
 refine fi 0 0 (bq.ind (ι:=List aF×Nat) (fun i=>l.drop i.2=i.1∧eU i.1=p) (fun i=>i.1.length)
  (fun i=> [(5, .slice .shared 1 (l.map encStr)),(6, .int .i64 (l.length:Int)),(7, .int .i64 (i.2:Int))]) (fun i=>⟨[],[]⟩) ?_ (l,0) ⟨rfl,h⟩)
 rintro⟨rest,k⟩ ⟨h1,h⟩ IH
 dsimp only at h1 h
 cases rest with
 |nil=>
  have hD:=drop_nil h1
  simp only[eU]at h
  repeat' (first
 |simp only[go_sem,hD,hY,hZ,gA]
 |(with_reducible first|refine bm fun hc=>?_|refine bn fun hc=>?_|refine bo (fun hc=>?_) fun hc=>?_)<;>(try simp only[hc,bs,↓reduceIte]at h)<;>try simp only[hc]
 |(with_reducible refine aE hQ ?_;exact fV))
 |cons t rest=>
  obtain⟨hY,g2,hD,g4⟩:=drop_cons h1
  have hZ:k<4611686018427387904:=by omega
  have hn:=AA t (hs t (List.mem_of_getElem? hY))
  simp only[eU]at h
  repeat' (first
 |simp only[go_sem,hD,hY,hZ,gA]
 |(with_reducible refine CU (hn _) ?_)
 |(with_reducible first|refine bm fun hc=>?_|refine bn fun hc=>?_|refine bo (fun hc=>?_) fun hc=>?_)<;>(try simp only[hc,bs,↓reduceIte]at h)<;>try simp only[hc]
 |(with_reducible refine aE hQ ?_;exact fV))
  refine fi 0 0 (IH (rest,k+1) ⟨g2,h⟩ (Nat.lt_succ_self _))
mutual
def Ex.dp (left:Int):Ex→Bool
 |⟨op,n,name,kids⟩=>
  if decide (left<1) ||(kids.length:Int) != nN op then false
  else if op==1 then decide (n≥0) && name == []
  else if op==2 then n==0 && isName name
  else if n != 0 || !(name == [])then false
  else Ex.AB (left - 1) kids
def Ex.AB (left:Int):List Ex→Bool
 | []=>true
 |x::l=>if !(Ex.dp left x)then false else Ex.AB left l
end
theorem XN : ∀ (m:Nat) (x:Ex),x.size≤m→x.size<4611686018427387904→x.texts→∀ left:Int,0≤left→left≤100→∀ s:St,aG Tryz.prog pE [.agg (bW x), .int .i64 left] s (.bool (x.dp left)) s:=by
 intro m
 induction m with
 |zero=>rintro⟨op,v,name,kids⟩ h;simp only[Ex.size]at h;omega
 | succ m ih=>
  rintro⟨op,v,name,kids⟩ h hx ht left h0 To s
  refine aG.pure ?_ (by simp[D.bI,D.ok,lr]) rfl s
  have hlen:kids.length<4611686018427387904:=by simp only[Ex.size]at hx;have:=Ex.eR kids;omega
  have hn:=AA name ht.1
  generalize hp:Ex.dp left ⟨op,v,name,kids⟩=p
  simp only[Ex.dp]at hp
  unfold S0
  by_cases uW:left<1
  ·have d1:decide (left<1)=true:=by simpa using uW
   simp only[d1,Bool.true_or,↓reduceIte]at hp
   subst hp
   refine aG.go zk rfl fun B Q hB hQ=>?_
   have⟨hD,hY,hZ,gA⟩:=bS
   repeat' (first
 |simp only[go_sem,hD,hY,hZ,gA,d1]
 |(with_reducible refine CU (KB _ _) ?_)
 |(with_reducible refine CU (hn _) ?_)
 | (with_reducible refine aE hQ ?_;exact bg))
  ·have d1:decide (left<1)=false:=by simpa using uW
   have w1:IntKind.wrap .i64 (left - 1)=left - 1:=ek (by omega) (by omega)
   have hk : ∀ y∈kids,∀ s,aG Tryz.prog pE [.agg (bW y), .int .i64 (left - 1)] s (.bool (y.dp (left - 1))) s:=fun y hy s=>
    ih y (by simp only[Ex.size]at h;have:=Ex.dr hy;omega) (by simp only[Ex.size]at hx;have:=Ex.dr hy;omega) (Ex.PZ ht hy) (left - 1) (by omega) (by omega) s
   simp only[d1,Bool.false_or]at hp
   have h:=hp
   clear hp
   refine aG.go zk rfl fun B Q hB hQ=>?_
   have⟨hD,hY,hZ,gA⟩:=bS
   repeat' (first
 |simp only[go_sem,hD,hY,hZ,gA,d1]
 |(with_reducible refine CU (KB _ _) ?_)
 |(with_reducible refine CU (hn _) ?_)
 |(with_reducible first|refine bm fun hc=>?_|refine bn fun hc=>?_|refine bo (fun hc=>?_) fun hc=>?_)<;>(try simp only[hc,bs,↓reduceIte]at h)<;>try simp only[hc]
 | (with_reducible refine aE hQ ?_;(try cases h);simp only [aR,aS,bC,bD,go_sem,hD,hY,hZ,gA,d1];repeat' (first | exact Ok.out | with_reducible refine iJ ?_ ?_ | (simp;done))))
   all_goals
    refine fi 1 0 (bq.ind (ι:=List Ex×Nat) (fun i=>kids.drop i.2=i.1∧Ex.AB (left - 1) i.1=p) (fun i=>i.1.length)
     (fun i=> [(1, .int .i64 left),(49, .slice .shared 4 (kids.map bW)),(50, .int .i64 (kids.length:Int)),(51, .int .i64 (i.2:Int))]) (fun i=>⟨[bW ⟨op,v,name,kids⟩],[]⟩) ?_ (kids,0) ⟨rfl,h⟩)
    rintro⟨rest,k⟩ ⟨h1,h⟩ IH
    dsimp only at h1 h
    cases rest with
    |nil=>
     have hD:=drop_nil h1
     simp only[Ex.AB]at h
     repeat' (first
 |simp only[go_sem,hD,hY,hZ,gA]
 |(with_reducible first|refine bm fun hc=>?_|refine bn fun hc=>?_|refine bo (fun hc=>?_) fun hc=>?_)<;>(try simp only[hc,bs,↓reduceIte]at h)<;>try simp only[hc]
 |(with_reducible refine aE hQ ?_;exact fV)
 | (cases h;done))
    |cons y rest=>
     obtain⟨hY,g2,hD,g4⟩:=drop_cons h1
     have hy:=hk y (List.mem_of_getElem? hY)
     have hZ:k<4611686018427387904:=by omega
     simp only[Ex.AB]at h
     repeat' (first
 |simp only[go_sem,hD,hY,hZ,gA,w1]
 |(with_reducible refine CU (hy _) ?_)
 |(with_reducible first|refine bm fun hc=>?_|refine bn fun hc=>?_|refine bo (fun hc=>?_) fun hc=>?_)<;>(try simp only[hc,bs,↓reduceIte]at h)<;>try simp only[hc]
 |(with_reducible refine aE hQ ?_;(try cases h);simp only[aR,aS,bC,bD,go_sem,hD,hY,hZ,gA,w1];try exact cb))
     refine fi 1 0 (IH (rest,k+1) ⟨g2,h⟩ (Nat.lt_succ_self _))
theorem yw {x:Ex} (hx:x.size<4611686018427387904) (ht:x.texts) (s:St):aG Tryz.prog mI [.agg (bW x)] s (.bool (x.dp 20)) s:=by
 refine aG.pure ?_ (by simp[D.bI,D.ok,lr]) rfl s
 have hd:=fun s=>XN _ x (Nat.le_refl _) hx ht 20 (by omega) (by omega) s
 unfold S0
 refine aG.go CH rfl fun B Q hB hQ=>?_
 have⟨hD,hY,hZ,gA⟩:=bS
 repeat' (first
 |simp only[go_sem,hD,hY,hZ,gA]
 |(with_reducible refine CU (hd _) ?_)
 |(with_reducible refine aE hQ ?_;exact bg))
theorem XO (x:Ex) (s:St):aG Tryz.prog wG [.agg (bW x)] s (.bool x.none) s:=by
 refine aG.pure ?_ (by simp[D.bI,D.ok,lr]) rfl s
 unfold S0
 generalize h:Ex.none x=p
 unfold Ex.none at h
 refine aG.go Gu rfl fun B Q hB hQ=>?_
 have⟨hD,hY,hZ,gA⟩:=bS
 repeat' (first
 |simp only[go_sem,hD,hY,hZ,gA]
 |(with_reducible first|refine bm fun hc=>?_|refine bn fun hc=>?_|refine bo (fun hc=>?_) fun hc=>?_)<;>(try simp only[hc,bs,↓reduceIte]at h)<;>try simp only[hc]
 |(with_reducible refine aE hQ ?_;exact fV))
def sM (t:aF) (is:Bool):Bool:=(is && isName t) ||(!is && t == [])
theorem CK (t:aF) (is:Bool) (hl:t.length<4611686018427387904) (s:St):aG Tryz.prog oD [.str t, .bool is] s (.bool (sM t is)) s:=by
 refine aG.pure ?_ rfl rfl s
 have hn:=AA t hl
 unfold S0
 generalize h:sM t is=p
 unfold sM at h
 refine aG.go EP rfl fun B Q hB hQ=>?_
 have⟨hD,hY,hZ,gA⟩:=bS
 repeat' (first
 |simp only[go_sem,hD,hY,hZ,gA]
 |(with_reducible refine CU (hn _) ?_)
 |(with_reducible first|refine bm fun hc=>?_|refine bn fun hc=>?_|refine bo (fun hc=>?_) fun hc=>?_)<;>(try simp only[hc,bs,↓reduceIte]at h)<;>try simp only[hc]
 |(with_reducible refine aE hQ ?_;exact fV))
def uX (x:Ex) (is:Bool):Bool:=(is && x.dp 20) ||(!is && x.none)
theorem KD {x:Ex} (is:Bool) (hx:x.size<4611686018427387904) (ht:x.texts) (s:St):aG Tryz.prog qN [.agg (bW x), .bool is] s (.bool (uX x is)) s:=by
 refine aG.pure ?_ (by simp[D.bI,D.ok,lr]) rfl s
 have hm:=yw hx ht
 unfold S0
 generalize h:uX x is=p
 unfold uX at h
 refine aG.go ER rfl fun B Q hB hQ=>?_
 have⟨hD,hY,hZ,gA⟩:=bS
 repeat' (first
 |simp only[go_sem,hD,hY,hZ,gA]
 |(with_reducible refine CU (hm _) ?_)
 |(with_reducible refine CU (XO _ _) ?_)
 |(with_reducible first|refine bm fun hc=>?_|refine bn fun hc=>?_|refine bo (fun hc=>?_) fun hc=>?_)<;>(try simp only[hc,bs,↓reduceIte]at h)<;>try simp only[hc]
 |(with_reducible refine aE hQ ?_;exact fV))
def oZ:List Ar→Bool
 | []=>true
 |a::l=>if !(sM a.name a.ref) || !(uX a.x !a.ref)then false else oZ l
theorem Tp {l:List Ar} (hl:l.length<4611686018427387904) (hs : ∀ a∈l,a.x.size<4611686018427387904∧a.x.texts∧a.name.length<4611686018427387904) (s:St) :
 aG Tryz.prog tj [.slice .shared 6 (l.map eg)] s (.bool (oZ l)) s:=by
 refine aG.pure ?_ (by simp[D.bI,D.ok,GQ,Tag.ok]) rfl s
 unfold S0
 generalize h:oZ l=p
 refine aG.go DI rfl fun B Q hB hQ=>?_
 have⟨hD,hY,hZ,gA⟩:=bS
 repeat' (first
 |simp only[go_sem,hD,hY,hZ,gA]
 |(with_reducible first|refine bm fun hc=>?_|refine bn fun hc=>?_|refine bo (fun hc=>?_) fun hc=>?_)<;>(try simp only[hc,bs,↓reduceIte]at h)<;>try simp only[hc]
 |(with_reducible refine aE hQ ?_;exact fV))
 refine fi 0 0 (bq.ind (ι:=List Ar×Nat) (fun i=>l.drop i.2=i.1∧oZ i.1=p) (fun i=>i.1.length)
  (fun i=> [(5, .slice .shared 6 (l.map eg)),(6, .int .i64 (l.length:Int)),(7, .int .i64 (i.2:Int))]) (fun i=>⟨[],[]⟩) ?_ (l,0) ⟨rfl,h⟩)
 rintro⟨rest,k⟩ ⟨h1,h⟩ IH
 dsimp only at h1 h
 cases rest with
 |nil=>
  have hD:=drop_nil h1
  simp only[oZ]at h
  repeat' (first
 |simp only[go_sem,hD,hY,hZ,gA]
 |(with_reducible first|refine bm fun hc=>?_|refine bn fun hc=>?_|refine bo (fun hc=>?_) fun hc=>?_)<;>(try simp only[hc,bs,↓reduceIte]at h)<;>try simp only[hc]
 |(with_reducible refine aE hQ ?_;exact fV))
 |cons a rest=>
  obtain⟨hY,g2,hD,g4⟩:=drop_cons h1
  have hZ:k<4611686018427387904:=by omega
  obtain⟨a1,a2,a3⟩:=hs a (List.mem_of_getElem? hY)
  have hn:=fun b s=>CK a.name b a3 s
  have hw:=fun b s=>KD b a1 a2 s
  simp only[oZ]at h
  repeat' (first
 |simp only[go_sem,hD,hY,hZ,gA]
 |(with_reducible refine CU (hn _ _) ?_)
 |(with_reducible refine CU (hw _ _) ?_)
 |(with_reducible first|refine bm fun hc=>?_|refine bn fun hc=>?_|refine bo (fun hc=>?_) fun hc=>?_)<;>(try simp only[hc,bs,↓reduceIte]at h)<;>try simp only[hc]
 |(with_reducible refine aE hQ ?_;exact fV))
  refine fi 0 0 (IH (rest,k+1) ⟨g2,h⟩ (Nat.lt_succ_self _))
def Sm.flags (s:Sm):Option (Bool×Bool×Bool×Bool×Bool×Bool):=
 if s.kind==1 then some (true,false,true,s.has,false,false)
 else if s.kind==2 ||s.kind==10 then some (true,false,false,s.has,false,false)
 else if s.kind==3 then some (false,false,true,s.has,false,false)
 else if s.kind==4 then some (!(s.name == []),true,false,s.has,false,false)
 else if s.kind==5 then some (false,false,true,s.has,true,true)
 else if s.kind==6 then some (false,false,true,s.has,true,false)
 else if s.kind==9 then some (false,false,s.has,false,false,false)
 else if s.kind==7 ||s.kind==8 then some (false,false,false,s.has,false,false)
 else none
def Sm.GV (s:Sm) (nm pr x:Bool):Bool:=if !(sM s.name nm) || !(sM s.proc pr) || !(uX s.x x)then false else oZ s.args
def Sm.GX (s:Sm) (f:Bool×Bool×Bool×Bool×Bool×Bool):Bool:=
 if f.2.2.2.1 ||(!f.2.2.2.2.1 && decide ((s.aY.length:Int) > 0)) ||(!f.2.2.2.2.2 && decide ((s.aW.length:Int) > 0)) ||(!(s.kind==4) && decide ((s.args.length:Int) > 0))then false
 else s.GV f.1 f.2.1 f.2.2.1
def Sm.fields (s:Sm):Bool:=match s.flags with
 |none=>false
 |some f=>s.GX f
section
variable {v:Sm} {B:fM} {Q:Exit→Tm→St→Prop} {p:Bool}
theorem Tq {nm pr x:Bool} (hf:v.tu) (hB:B.s = ⟨[],[]⟩) (hQ:ph 0 0 [(2,none)] (.bool p) ⟨[],[]⟩=Q) (h:v.GV nm pr x=p) :
 Sem Tryz.prog B 93 aaZ Q [(1, .ptr 0 0),(3, .bool nm),(4, .bool pr),(5, .bool x)] ⟨[bk v],[]⟩:=by
 have h1:=fun b s=>CK v.name b hf.name s
 have h2:=fun b s=>CK v.proc b hf.proc s
 have h3:=fun b s=>KD b hf.x hf.xt s
 have h4:=fun s=>Tp hf.alo hf.arg s
 unfold Sm.GV at h
 have⟨hD,hY,hZ,gA⟩:=bS
 refine il ?_
 repeat' (first
 |simp only[go_sem,hD,hY,hZ,gA]
 |(with_reducible refine CU (h1 _ _) ?_)
 |(with_reducible refine CU (h2 _ _) ?_)
 |(with_reducible refine CU (h3 _ _) ?_)
 |(with_reducible refine CU (h4 _) ?_)
 |(with_reducible first|refine bm fun hc=>?_|refine bn fun hc=>?_|refine bo (fun hc=>?_) fun hc=>?_)<;>(try simp only[hc,bs,↓reduceIte]at h)<;>try simp only[hc]
 |(with_reducible refine aE hQ ?_;exact fV))
theorem Tr {nm pr x has th ot ar:Bool} (hf:v.tu) (hB:B.s = ⟨[],[]⟩) (hQ:ph 0 0 [(2,none)] (.bool p) ⟨[],[]⟩=Q) (e:(v.kind==4)=ar) (h:v.GX (nm,pr,x,has,th,ot)=p) :
 Sem Tryz.prog B 93 aa0 Q [(1, .ptr 0 0),(3, .bool nm),(4, .bool pr),(5, .bool x),(6, .bool has),(7, .bool th),(8, .bool ot),(9, .bool ar)] ⟨[bk v],[]⟩:=by
 simp only[Sm.GX,e]at h
 have⟨hD,hY,hZ,gA⟩:=bS
 refine Sem.mH ?_
 repeat' (first
 |simp only[go_sem,hD,hY,hZ,gA]
 |(with_reducible first|refine bm fun hc=>?_|refine bn fun hc=>?_|refine bo (fun hc=>?_) fun hc=>?_)<;>(try simp only[hc,bs,↓reduceIte]at h)<;>try simp only[hc]
 |(with_reducible refine aE hQ ?_;(try cases h);simp only[aR,aS,bC,bD,go_sem,hD,hY,hZ,gA];repeat' (first|exact Ok.out|with_reducible refine iJ ?_ ?_|(simp;done))))
 all_goals
  refine Sem.re _ _ 1 0 (by rw[hB];exact B7 rfl) (by rw[hB];exact B7 rfl) ?_ ?_ (Tq hf hB hQ h)
  ·(simp only[go_sem,hD,hY,hZ,gA];repeat' (first|exact Ok.out|with_reducible refine iJ ?_ ?_))
  ·(simp only[go_sem,hD,hY,hZ,gA];repeat' (first|exact Ok.out|with_reducible refine iJ ?_ ?_))
theorem Ts {ar:Bool} (hf:v.tu) (hB:B.s = ⟨[],[]⟩) (hQ:ph 0 0 [(2,none)] (.bool p) ⟨[],[]⟩=Q) (e:(v.kind==4)=ar) (h:v.fields=p) :
 Sem Tryz.prog B 93 Tg Q [(1, .ptr 0 0),(3, .bool false),(4, .bool false),(5, .bool false),(6, .bool v.has),(7, .bool false),(8, .bool false),(9, .bool ar)] ⟨[bk v],[]⟩:=by
 simp only[Sm.fields,Sm.flags]at h
 have⟨hD,hY,hZ,gA⟩:=bS
 refine Sem.mH ?_
 repeat' (first
 |simp only[go_sem,hD,hY,hZ,gA]
 |(with_reducible first|refine bm fun hc=>?_|refine bn fun hc=>?_|refine bo (fun hc=>?_) fun hc=>?_)<;>(try simp only[hc,bs,↓reduceIte]at h)<;>try simp only[hc]
 |(with_reducible refine aE hQ ?_;(try cases h);simp only[aR,aS,bC,bD,go_sem,hD,hY,hZ,gA];repeat' (first|exact Ok.out|with_reducible refine iJ ?_ ?_|(simp;done))))
 all_goals
  refine Sem.re _ _ 1 0 (by rw[hB];exact B7 rfl) (by rw[hB];exact B7 rfl) ?_ ?_ (Tr hf hB hQ e h)
  ·(simp only[go_sem,hD,hY,hZ,gA];repeat' (first|exact Ok.out|with_reducible refine iJ ?_ ?_))
  ·(simp only[go_sem,hD,hY,hZ,gA];repeat' (first|exact Ok.out|with_reducible refine iJ ?_ ?_))
end
theorem Tt {v:Sm} (hf:v.tu) (s:St):aG Tryz.prog ti [.agg (bk v)] s (.bool v.fields) s:=by
 refine aG.pure ?_ (by simp[D.bI,D.ok,qD]) rfl s
 unfold S0
 refine aG.goS DF rfl fun B Q hB hQ=>?_
 have⟨hD,hY,hZ,gA⟩:=bS
 refine Sem.seq (b:=aa2) (il ?_)
 repeat' (first
 |simp only[go_sem,hD,hY,hZ,gA]
 |(with_reducible refine aE hQ ?_;exact bg))
 refine Sem.seq (b:=aa1) (il ?_)
 repeat' (first
 |simp only[go_sem,hD,hY,hZ,gA]
 |(with_reducible refine aE hQ ?_;exact bg))
 refine Sem.seq (b:=Tg) (il ?_)
 repeat' (first
 |simp only[go_sem,hD,hY,hZ,gA]
 |(with_reducible refine aE hQ ?_;exact bg))
 refine Sem.re _ _ 1 0 (by rw[hB];exact B7 rfl) (by rw[hB];exact B7 rfl) ?_ ?_ (Ts hf hB hQ rfl rfl)
 ·(simp only[go_sem,hD,hY,hZ,gA];repeat' (first|exact Ok.out|with_reducible refine iJ ?_ ?_))
 ·(simp only[go_sem,hD,hY,hZ,gA];repeat' (first|exact Ok.out|with_reducible refine iJ ?_ ?_))
end Go.Abs
namespace Go.Abs
set_option maxRecDepth 8000
open Go.Proofs
def jB (i:It):List D:= [.int .i64 i.s.id, .int .i64 i.s.kind, .slice .shared 1 (i.s.labels.map encStr), .str i.s.name, .str i.s.proc,
 .int .i64 i.s.x.op, .int .i64 i.s.x.n, .str i.s.x.name, .slice .shared 4 (i.s.x.kids.map bW), .bool i.s.has, .slice .shared 6 (i.s.args.map eg), .slice .shared 13 (i.s.aY.map bk), .slice .shared 13 (i.s.aW.map bk), .int .i64 i.deep, .int .i64 i.dh, .bool i.aW]
theorem abg (i:It):D.bI 0 0 (jB i)=true:=by simp[jB,D.bI,D.ok,Tag.ok,eQ,U2,GQ,qE]
theorem afr (n m:Nat) (l:List It):D.kg n m (l.map jB)=l.map jB:=lz abg n m l
theorem afs (n m:Nat) (i:It):D.gf n m (jB i)=jB i:=gK n m _ (abg i)
theorem aft (x:It):(jB x).length=16:=nd rfl
theorem abh (x:It):List.take 13 (jB x)=bk x.s:=by simp only[jB,eO];rfl
theorem Tv (x:It):(jB x)[0]? = some (.int .i64 x.s.id):=nd rfl
theorem P9 (x:It):(jB x)[13]? = some (.int .i64 x.deep):=nd rfl
attribute [go_sem] afr afs aft abh Tv P9
abbrev asd (N:Nat):Prop:=∀ (l:List Sm) (deep dh:Int) (aW:Bool) (out:List It),Sm.a8 l<N→0≤deep→deep≤13→out.length≤201→∀ {s:St} {t:Nat},s.av[t]? = some (some out.length)→
 aG Tryz.prog J0 [.slice .shared 13 (l.map bk), .int .i64 deep, .int .i64 dh, .bool aW, .slice (.tok t) 16 (out.map jB)] s (.slice (.tok t) 16 ((fH deep dh aW out l).map jB)) ⟨s.ah,s.av.set t (some (fH deep dh aW out l).length)⟩
end Go.Abs
namespace Go.Abs
set_option maxRecDepth 8000
open Go.Proofs
structure Pg.tu (p:Pg):Prop where
 sz:p.size<4611686018427387000
 tw : ∀ t∈p.globals,t.length<4611686018427387904
 oY : ∀ f∈p.procs,f.name.length<4611686018427387904∧(∀ t∈f.vars,t.length<4611686018427387904)∧(∀ t∈f.fin,t.length<4611686018427387904)∧∀ a∈f.params,a.name.length<4611686018427387904
 items : ∀ i∈p.all,i.s.tu
def gate (nest:Int) (len n:Nat) (r:Bool×Nat):Bool×Nat:=if decide (nest > 12) && decide ((len:Int) > 0)then(false,n)else r
mutual
def Sm.po (nest:Int) (n:Nat):Sm→Bool×Nat
 |⟨id,kind,labels,name,proc,x,has,args,aY,aW⟩=>
  if decide (((n+1:Nat):Int) > 200) ||id != ((n+1:Nat):Int) || !(eU labels) || !(Sm.fields ⟨id,kind,labels,name,proc,x,has,args,aY,aW⟩)then(false,n+1)
  else if !(gate (nest+1) aY.length (n+1) (Sm.e8 (nest+1) (n+1) aY)).1 then(false,(gate (nest+1) aY.length (n+1) (Sm.e8 (nest+1) (n+1) aY)).2)
  else gate (nest+1) aW.length (gate (nest+1) aY.length (n+1) (Sm.e8 (nest+1) (n+1) aY)).2 (Sm.e8 (nest+1) (gate (nest+1) aY.length (n+1) (Sm.e8 (nest+1) (n+1) aY)).2 aW)
def Sm.e8 (nest:Int) (n:Nat):List Sm→Bool×Nat
 | []=>(true,n)
 |s::l=>if !(Sm.po nest n s).1 then(false,(Sm.po nest n s).2)else Sm.e8 nest (Sm.po nest n s).2 l
end
def Sm.gh (nest:Int) (n:Nat) (l:List Sm):Bool×Nat:=gate nest l.length n (Sm.e8 nest n l)
theorem EU (nest:Int) (n:Nat) (s:Sm):Sm.po nest n s =
 if decide (((n+1:Nat):Int) > 200) ||s.id != ((n+1:Nat):Int) || !(eU s.labels) || !(s.fields)then(false,n+1)
 else if !(Sm.gh (nest+1) (n+1) s.aY).1 then(false,(Sm.gh (nest+1) (n+1) s.aY).2)
 else Sm.gh (nest+1) (Sm.gh (nest+1) (n+1) s.aY).2 s.aW:=by
 cases s;simp only[Sm.po,Sm.gh];rfl
mutual
def Sm.vQ:Sm→Prop
 |⟨id,kind,labels,name,proc,x,has,args,aY,aW⟩=>Sm.tu ⟨id,kind,labels,name,proc,x,has,args,aY,aW⟩∧Sm.ke aY∧Sm.ke aW
def Sm.ke:List Sm→Prop
 | []=>True
 |s::l=>s.vQ∧Sm.ke l
end
theorem CM (s:Sm):s.vQ↔s.tu∧Sm.ke s.aY∧Sm.ke s.aW:=by cases s;simp only[Sm.vQ]
theorem DO {s:Sm} : ∀ {l:List Sm},Sm.ke l→s∈l→s.vQ
 |y::l,h,m=>by
  simp only[Sm.ke]at h
  rcases List.mem_cons.1 m with rfl|m
  ·exact h.1
  ·exact DO h.2 m
mutual
theorem XP (nest:Int) (n:Nat) : ∀ s:Sm,n≤201→(Sm.po nest n s).2≤202∧((Sm.po nest n s).1=true→(Sm.po nest n s).2≤200)
 | ⟨id,kind,labels,name,proc,x,has,args,aY,aW⟩,hn=>by
  simp only[Sm.po]
  split
  ·exact⟨by dsimp only;omega,fun h=>by cases h⟩
  rename_i hc
  simp only[Bool.or_eq_true,decide_eq_true_eq,not_or]at hc
  have zm:n+1≤200:=by omega
  have g1 : ∀ (nest:Int) (l:List Sm) (m:Nat),m≤200→(Sm.e8 nest m l).2≤202∧((Sm.e8 nest m l).1=true→(Sm.e8 nest m l).2≤200)→
   (gate nest l.length m (Sm.e8 nest m l)).2≤202∧((gate nest l.length m (Sm.e8 nest m l)).1=true→(gate nest l.length m (Sm.e8 nest m l)).2≤200):=by
   intro nest l m hm h
   unfold gate
   split
   ·exact⟨by dsimp only;omega,fun h=>by cases h⟩
   ·exact h
  have h1:=g1 (nest+1) aY (n+1) zm (Bo (nest+1) (n+1) aY zm)
  split
  ·exact⟨h1.1,fun h=>by cases h⟩
  rename_i Hg
  have h2:=h1.2 (by simpa using Hg)
  exact g1 (nest+1) aW _ h2 (Bo (nest+1) _ aW h2)
theorem Bo (nest:Int) (n:Nat) : ∀ l:List Sm,n≤200→(Sm.e8 nest n l).2≤202∧((Sm.e8 nest n l).1=true→(Sm.e8 nest n l).2≤200)
 | [],hn=>by simp only[Sm.e8];exact⟨by omega,fun _=>hn⟩
 |s::l,hn=>by
  simp only[Sm.e8]
  have h1:=XP nest n s (by omega)
  split
  ·exact⟨h1.1,fun h=>by cases h⟩
  rename_i hc
  exact Bo nest _ l (h1.2 (by simpa using hc))
end
theorem EV {nest:Int} {n:Nat} {l:List Sm} (hn:n≤200):(Sm.gh nest n l).2≤202∧((Sm.gh nest n l).1=true→(Sm.gh nest n l).2≤200):=by
 unfold Sm.gh gate
 split
 ·exact⟨by dsimp only;omega,fun h=>by cases h⟩
 ·exact Bo nest n l hn
theorem XQ : ∀ (m:Nat) (l:List Sm),Sm.a8 l≤m→Sm.a8 l<4611686018427387000→Sm.ke l→∀ (nest:Int) (n:Nat),0≤nest→nest≤13→n≤200→
 aG Tryz.prog kb [.ptr 0 0, .slice .shared 13 (l.map bk), .int .i64 nest] ⟨[[.int .i64 n]],[]⟩ (.bool (Sm.gh nest n l).1) ⟨[[.int .i64 (Sm.gh nest n l).2]],[]⟩:=by
 intro m
 induction m with
 | zero=>
  intro l h hs hf nest n h0 h13 hn
  cases l with
  |nil=>
   have d1:decide ((0:Int) > 0)=false:=rfl
   have e:Sm.gh nest n [] = (true,n):=by simp[Sm.gh,gate,Sm.e8]
   have z:decide ((0:Int)<0)=false:=rfl
   rw[e]
   refine aG.go qS rfl fun B Q hB hQ=>?_
   have⟨hD,hY,hZ,gA⟩:=bS
   repeat' (first
 |simp only[go_sem,hD,hY,hZ,gA,d1,z]
 |(with_reducible refine bq.kC ?_)
 |(with_reducible first|refine bm fun hc=>?_|refine bn fun hc=>?_|refine bo (fun hc=>?_) fun hc=>?_)<;>(try simp only[hc,bs,↓reduceIte]at h)<;>try simp only[hc]
 |(with_reducible refine aE hQ ?_;exact bg))
  |cons s l=>simp only[Sm.a8]at h;omega
 |succ m ih=>
  intro l h hs hf nest n h0 h13 hn
  generalize hR:Sm.gh nest n l=R
  have hlen:=Sm.eR l
  unfold Sm.gh gate at hR
  have h:=hR
  refine aG.go qS rfl fun B Q hB hQ=>?_
  have⟨hD,hY,hZ,gA⟩:=bS
  repeat' (first
 |simp only[go_sem,hD,hY,hZ,gA]
 |(with_reducible first|refine bm fun hc=>?_|refine bn fun hc=>?_|refine bo (fun hc=>?_) fun hc=>?_)<;>(try simp only[hc,bs,↓reduceIte]at h)<;>try simp only[hc]
 | (with_reducible refine aE hQ ?_;(try cases h);simp only [aR,aS,bC,bD,go_sem,hD,hY,hZ,gA];repeat' (first | exact Ok.out | with_reducible refine iJ ?_ ?_ | (simp;done))))
  all_goals
   have afu:l≠ []→nest≤12:=by
    intro eK
    have:l.length≠0:=by simpa using eK
    simp_all<;>omega
   refine fi 1 0 (bq.ind (ι:=List Sm×Nat×Nat) (fun i=>l.drop i.2.1=i.1∧Sm.e8 nest i.2.2 i.1=R∧i.2.2≤200) (fun i=>i.1.length)
    (fun i=> [(0, .ptr 0 0),(2, .int .i64 nest),(16, .slice .shared 13 (l.map bk)),(17, .int .i64 (l.length:Int)),(18, .int .i64 (i.2.1:Int))]) (fun i=>⟨[[.int .i64 (i.2.2:Int)]],[]⟩) ?_ (l,0,n) ⟨rfl,h,hn⟩)
   rintro⟨rest,k,j⟩ ⟨h1,h,hj⟩ IH
   dsimp only at h1 h hj
   cases rest with
   |nil=>
    have hD:=drop_nil h1
    simp only[Sm.e8]at h
    repeat' (first
 |simp only[go_sem,hD,hY,hZ,gA]
 |(with_reducible first|refine bm fun hc=>?_|refine bn fun hc=>?_|refine bo (fun hc=>?_) fun hc=>?_)<;>(try simp only[hc,bs,↓reduceIte]at h)<;>try simp only[hc]
 | (with_reducible refine aE hQ ?_;exact fV))
   | cons s rest=>
    obtain⟨hY,g2,hD,g4⟩:=drop_cons h1
    have hZ:k<4611686018427387904:=by omega
    have gU:=List.mem_of_getElem? hY
    have dK:=Sm.dr gU
    have atK:=afu (by rintro rfl;simp at gU)
    obtain⟨Dl,hft,hfe⟩:=(CM s).1 (DO hf gU)
    have RC:Sm.a8 s.aY<s.size∧Sm.a8 s.aW<s.size:=by cases s;simp only[Sm.size];omega
    have w1:IntKind.wrap .i64 ((j:Int)+1)=((j+1:Nat):Int):=by rw[ek]<;>omega
    have w2:IntKind.wrap .i64 (nest+1)=nest+1:=ek (by omega) (by omega)
    have c1:=fun s=>yv Dl.aln Dl.VQ s
    have c2:=fun s=>Tt Dl s
    simp only[Sm.e8,EU]at h
    by_cases Qa:j+1≤200
    ·have r1:=EV (nest:=nest+1) (l:=s.aY) Qa
     have c3:=fun s' ho=>(ih s.aY (by omega) (by omega) hft (nest+1) (j+1) (by omega) (by omega) Qa).RJ (s:=s') (o:=0) (by simp[D.bI,D.ok,qE,Tag.ok]) rfl rfl rfl ho
     by_cases vH:(Sm.gh (nest+1) (j+1) s.aY).1=true
     ·have c4:=fun s' ho=>(ih s.aW (by omega) (by omega) hfe (nest+1) _ (by omega) (by omega) (r1.2 vH)).RJ (s:=s') (o:=0) (by simp [D.bI,D.ok,qE,Tag.ok]) rfl rfl rfl ho
      have r2:=EV (nest:=nest+1) (l:=s.aW) (r1.2 vH)
      simp only[vH]at c3
      simp only[vH,Bool.not_true,Bool.false_eq_true,↓reduceIte]at h
      repeat' (first
 |simp only[go_sem,hD,hY,hZ,gA,w1,w2,vH]
 |(with_reducible refine CU (c1 _) ?_)
 |(with_reducible refine CU (c2 _) ?_)
 |(with_reducible refine CU (c3 _ rfl) ?_)
 |(with_reducible refine CU (c4 _ rfl) ?_)
 |(with_reducible first|refine bm fun hc=>?_|refine bn fun hc=>?_|refine bo (fun hc=>?_) fun hc=>?_)<;>(try simp only[hc,bs,↓reduceIte]at h)<;>try simp only[hc]
 |(with_reducible refine aE hQ ?_;(try cases h);simp only[aR,aS,bC,bD,go_sem,hD,hY,hZ,gA,w1,w2,vH];try exact cb))
      refine fi 1 0 (IH (rest,k+1,(Sm.gh (nest+1) (Sm.gh (nest+1) (j+1) s.aY).2 s.aW).2) ⟨g2,h,r2.2 (by assumption)⟩ (Nat.lt_succ_self _))
     ·have vH:(Sm.gh (nest+1) (j+1) s.aY).1=false:=by simpa using vH
      simp only[vH]at c3
      simp only[vH,Bool.not_false,↓reduceIte]at h
      repeat' (first
 |simp only[go_sem,hD,hY,hZ,gA,w1,w2,vH]
 |(with_reducible refine CU (c1 _) ?_)
 |(with_reducible refine CU (c2 _) ?_)
 |(with_reducible refine CU (c3 _ rfl) ?_)
 |(with_reducible first|refine bm fun hc=>?_|refine bn fun hc=>?_|refine bo (fun hc=>?_) fun hc=>?_)<;>(try simp only[hc,bs,↓reduceIte]at h)<;>try simp only[hc]
 | (with_reducible refine aE hQ ?_;(try cases h);simp only [aR,aS,bC,bD,go_sem,hD,hY,hZ,gA,w1,w2,vH];try exact cb))
    ·have d1:decide (((j+1:Nat):Int) > 200)=true:=by simp;omega
     simp only[d1,Bool.true_or,Bool.not_false,↓reduceIte]at h
     repeat' (first
 |simp only[go_sem,hD,hY,hZ,gA,w1,w2,d1]
 |(with_reducible refine CU (c1 _) ?_)
 |(with_reducible refine CU (c2 _) ?_)
 |(with_reducible first|refine bm fun hc=>?_|refine bn fun hc=>?_|refine bo (fun hc=>?_) fun hc=>?_)<;>(try simp only[hc,bs,↓reduceIte]at h)<;>try simp only[hc]
 |(with_reducible refine aE hQ ?_;(try cases h);simp only[aR,aS,bC,bD,go_sem,hD,hY,hZ,gA,w1,w2,d1];try exact cb))
def Pc.e8 (n:Nat):List Pc→Bool
 | []=>true
 |f::l=>
  if decide ((f.params.length:Int) > 8) ||decide ((f.vars.length:Int) > 16) || !(isName f.name) || !(eU f.vars) || !(eU f.fin)then false
  else if !(Pm.fD f.params)then false
  else if !(Sm.gh 1 n f.body).1 then false
  else Pc.e8 (Sm.gh 1 n f.body).2 l
def Pg.EW (p:Pg):Bool:=
 if decide ((p.globals.length:Int) > 16) ||decide ((p.procs.length:Int) > 16) || !(eU p.globals)then false
 else Pc.e8 0 p.procs
structure Pg.GY (p:Pg):Prop where
 sz:p.size<4611686018427387000
 tw : ∀ t∈p.globals,t.length<4611686018427387904
 oY : ∀ f∈p.procs,f.name.length<4611686018427387904∧(∀ t∈f.vars,t.length<4611686018427387904)∧(∀ t∈f.fin,t.length<4611686018427387904)∧∀ a∈f.params,a.name.length<4611686018427387904
 body : ∀ f∈p.procs,Sm.ke f.body
theorem Iv {p:Pg} (hf:p.GY) (s:St):aG Tryz.prog qI [.agg (cG p)] s (.bool p.EW) s:=by
 refine aG.pure ?_ (by simp only[D.bI,D.ok,kp];rfl) rfl s
 obtain⟨dK,qW,abi,Be⟩:=hf
 have qX:Pc.a8 p.procs<4611686018427387000:=by simp only[Pg.size]at dK;omega
 have afv:p.globals.length<4611686018427387904:=by simp only[Pg.size]at dK;omega
 have aty:p.procs.length<4611686018427387904:=by have:=Pc.eR p.procs;omega
 have hg:=fun s=>yv afv qW s
 unfold S0
 generalize h:p.EW=R
 unfold Pg.EW at h
 refine aG.go Ij rfl fun B Q hB hQ=>?_
 have⟨hD,hY,hZ,gA⟩:=bS
 repeat' (first
 |simp only[go_sem,hD,hY,hZ,gA]
 |(with_reducible refine CU (hg _) ?_)
 |(with_reducible first|refine bm fun hc=>?_|refine bn fun hc=>?_|refine bo (fun hc=>?_) fun hc=>?_)<;>(try simp only[hc,bs,↓reduceIte]at h)<;>try simp only[hc]
 |(with_reducible refine aE hQ ?_;exact fV))
 refine fi 2 0 (bq.ind (ι:=List Pc×Nat×Nat) (fun i=>p.procs.drop i.2.1=i.1∧Pc.e8 i.2.2 i.1=R∧i.2.2≤200) (fun i=>i.1.length)
  (fun i=> [(1, .ptr 0 0),(3, .ptr 1 0),(27, .slice .shared 5 (p.procs.map cj)),(28, .int .i64 (p.procs.length:Int)),(29, .int .i64 (i.2.1:Int))]) (fun i=>⟨[cG p,[.int .i64 (i.2.2:Int)]],[]⟩) ?_ (p.procs,0,0) ⟨rfl,h,Nat.zero_le _⟩)
 rintro⟨rest,k,n⟩ ⟨h1,h,hn⟩ IH
 dsimp only at h1 h hn
 cases rest with
 |nil=>
  have hD:=drop_nil h1
  simp only[Pc.e8]at h
  repeat' (first
 |simp only[go_sem,hD,hY,hZ,gA]
 |(with_reducible first|refine bm fun hc=>?_|refine bn fun hc=>?_|refine bo (fun hc=>?_) fun hc=>?_)<;>(try simp only[hc,bs,↓reduceIte]at h)<;>try simp only[hc]
 |(with_reducible refine aE hQ ?_;exact fV))
 |cons f rest=>
  obtain⟨hY,g2,hD,g4⟩:=drop_cons h1
  have cf:k<4611686018427387904:=by omega
  have gU:=List.mem_of_getElem? hY
  have zn:=Pc.dr gU
  simp only[Pc.size]at zn
  obtain⟨zo,hfv,hff,hfp⟩:=abi f gU
  have hnm:=AA f.name zo
  have hv:=fun s=>yv (by omega) hfv s
  have he:=fun s=>yv (by omega) hff s
  have hb:=fun s' o ho=>(XQ _ f.body (Nat.le_refl _) (by omega) (Be f gU) 1 n (by omega) (by omega) hn).RJ (s:=s') (o:=o) (by simp[D.bI,D.ok,qE,Tag.ok]) rfl rfl rfl ho
  have hle:=EV (nest:=1) (l:=f.body) hn
  simp only[Pc.e8]at h
  repeat' (first
 |simp only[go_sem,hD,hY,hZ,gA]
 |(with_reducible refine CU (hnm _) ?_)
 |(with_reducible refine CU (hv _) ?_)
 |(with_reducible refine CU (he _) ?_)
 |(with_reducible first|refine bm fun hc=>?_|refine bn fun hc=>?_|refine bo (fun hc=>?_) fun hc=>?_)<;>(try simp only[hc,bs,↓reduceIte]at h)<;>try simp only[hc]
 |(with_reducible refine aE hQ ?_;exact fV)
 | (cases h;done))
  refine fi 3 0 (bq.ind (ι:=List Pm×Nat) (fun i=>f.params.drop i.2=i.1∧(if !(Pm.fD i.1)then false else if !(Sm.gh 1 n f.body).1 then false else Pc.e8 (Sm.gh 1 n f.body).2 rest)=R) (fun i=>i.1.length)
   (fun i=> [(1, .ptr 0 0),(3, .ptr 1 0),(5, .ptr 2 0),(27, .slice .shared 5 (p.procs.map cj)),(28, .int .i64 (p.procs.length:Int)),(29, .int .i64 (k:Int)),(62, .slice .shared 2 (f.params.map iu)),(63, .int .i64 (f.params.length:Int)),(64, .int .i64 (i.2:Int))]) (fun i=>⟨[cG p,[.int .i64 (n:Int)],cj f],[]⟩) ?_ (f.params,0) ⟨rfl,h⟩)
  rintro⟨Nw,j⟩ ⟨j1,h⟩ DP
  dsimp only at j1 h
  cases Nw with
  |nil=>
   have hD:=drop_nil j1
   simp only[Pm.fD,Bool.not_true,Bool.false_eq_true,↓reduceIte]at h
   repeat' (first
 |simp only[go_sem,hD,hY,hZ,gA]
 |(with_reducible refine CU (hb _ _ rfl) ?_)
 |(with_reducible first|refine bm fun hc=>?_|refine bn fun hc=>?_|refine bo (fun hc=>?_) fun hc=>?_)<;>(try simp only[hc,bs,↓reduceIte]at h)<;>try simp only[hc]
 |(with_reducible refine aE hQ ?_;exact fV)
 | (cases h;done))
   refine fj 2 0 ?_ ?_ (IH (rest,k+1,(Sm.gh 1 n f.body).2) ⟨g2,h,hle.2 (by assumption)⟩ (Nat.lt_succ_self _))
   ·(simp only[go_sem,hD,hY,hZ,gA,aJ cf];try exact cv)
   ·(simp only[go_sem,hD,hY,hZ,gA,aJ cf];try exact cv)
  |cons a Nw=>
   obtain⟨hY,b2,hD,b4⟩:=drop_cons j1
   have Qa:j<4611686018427387904:=by omega
   have ha:=AA a.name (hfp a (List.mem_of_getElem? hY))
   simp only[Pm.fD]at h
   repeat' (first
 |simp only[go_sem,hD,hY,hZ,gA]
 |(with_reducible refine CU (ha _) ?_)
 |(with_reducible first|refine bm fun hc=>?_|refine bn fun hc=>?_|refine bo (fun hc=>?_) fun hc=>?_)<;>(try simp only[hc,bs,↓reduceIte]at h)<;>try simp only[hc]
 |(with_reducible refine aE hQ ?_;exact fV)
 | (cases h;done))
   refine fj 3 0 ?_ ?_ (DP (Nw,j+1) ⟨b2,h⟩ (Nat.lt_succ_self _))
   ·(simp only[go_sem,hD,hY,hZ,gA,aJ Qa];try exact cv)
   ·(simp only[go_sem,hD,hY,hZ,gA,aJ Qa];try exact cv)
theorem yx {s:aF} (h:isName s=true):s.length≤8:=by
 cases s with
 |nil=>simp
 | cons c r=>
  simp only[isName]at h
  split at h
  ·cases h
  ·rename_i hc
   simp only[Bool.or_eq_true,decide_eq_true_eq,not_or]at hc
   simp only[List.length_cons];omega
theorem oK {t:aF} : ∀ {l:List aF},eU l=true→t∈l→isName t=true
 | s::l,h,m=>by
  simp only[eU]at h
  cases hs:isName s
  ·simp[hs]at h
  ·simp [hs]at h
   rcases List.mem_cons.1 m with rfl|m
   ·exact hs
   ·exact oK h m
theorem Iw {a:Ar} : ∀ {l:List Ar},Ar.fD l=true→a∈l→a.may=true
 | s::l,h,m=>by
  simp only[Ar.fD]at h
  cases hs:s.may
  ·simp[hs]at h
  ·simp [hs]at h
   rcases List.mem_cons.1 m with rfl|m
   ·exact hs
   ·exact Iw h m
theorem FE {a:Pm} : ∀ {l:List Pm},Pm.fD l=true→a∈l→isName a.name=true
 | s::l,h,m=>by
  simp only[Pm.fD]at h
  cases hs:isName s.name
  ·simp[hs]at h
  ·simp [hs]at h
   rcases List.mem_cons.1 m with rfl|m
   ·exact hs
   ·exact FE h m
mutual
theorem DQ : ∀ x:Ex,x.form=true→x.texts
 | ⟨op,n,name,kids⟩,h=>by
  simp only[Ex.form]at h
  split at h
  ·cases h
  ·rename_i hc
   refine⟨?_,Ca kids h⟩
   simp only[Bool.or_eq_true,Bool.and_eq_true,Bool.not_eq_true',not_or,not_and,Bool.not_eq_false]at hc
   cases hn:(name == [])
   ·have:=yx (hc.2 hn);omega
   ·simp at hn;subst hn;simp
theorem Ca : ∀ l:List Ex,Ex.sg l=true→Ex.uU l
 | [],_=>trivial
 | x::l,h=>by
  simp only[Ex.sg]at h
  cases hx:x.form
  ·simp[hx]at h
  ·simp [hx]at h
   exact⟨DQ x hx,Ca l h⟩
end
theorem FF {x:Ex} (h:x.may=true):x.texts:=by
 unfold Ex.may at h
 simp only[Bool.and_eq_true]at h
 exact DQ x h.2
theorem DR {x:Ex} (h:x.none=true):x.texts:=by
 obtain⟨op,n,name,kids⟩:=x
 simp[Ex.none]at h
 obtain⟨⟨_,h1⟩,h2⟩:=h
 subst h1 h2
 exact⟨by simp,trivial⟩
mutual
theorem Qb {deep dh:Int} {aW:Bool} {out:List It} {i:It} : ∀ s:Sm,i∈jW deep dh aW out s→i∈out∨i.s.size≤s.size
 | ⟨id,kind,labels,name,proc,x,has,args,aY,e⟩,h=>by
  simp only[jW]at h
  have key:i∈out++ [(⟨⟨id,kind,labels,name,proc,x,has,args,aY,e⟩,deep,dh,aW⟩:It)]→i∈out∨i.s.size≤(⟨id,kind,labels,name,proc,x,has,args,aY,e⟩:Sm).size:=by
   intro h
   rcases List.mem_append.1 h with h|h
   ·exact .inl h
   ·simp at h;subst h;exact .inr (Nat.le_refl _)
  split at h
  ·rcases vR e h with h | h
   ·rcases vR aY h with h | h
    ·exact key h
    ·right;simp only[Sm.size];omega
   ·right;simp only[Sm.size];omega
  ·exact key h
theorem vR {deep dh:Int} {aW:Bool} {out:List It} {i:It} : ∀ l:List Sm,i∈fH deep dh aW out l→i∈out∨i.s.size<Sm.a8 l
 | [],h=>by simp only[fH]at h;exact .inl h
 | s::l,h=>by
  simp only[fH]at h
  split at h
  ·rcases vR l h with h | h
   ·rcases Qb s h with h | h
    ·exact .inl h
    ·right;simp only[Sm.a8];omega
   ·right;simp only[Sm.a8];omega
  ·exact .inl h
end
theorem Ix {i:It} : ∀ (l:List Pc) (out:List It),i∈allM out l→i∈out∨i.s.size<Pc.a8 l
 | [],out,h=>by simp only[allM]at h;exact .inl h
 | f::l,out,h=>by
  have key:i∈out++f.flat→i∈out∨i.s.size<Pc.a8 (f::l):=by
   intro h
   rcases List.mem_append.1 h with h|h
   ·exact .inl h
   ·rcases vR _ h with h | h
    ·simp at h
    ·right;simp only[Pc.a8,Pc.size];omega
  simp only[allM]at h
  split at h
  ·exact key h
  ·rcases Ix l _ h with h | h
   ·exact key h
   ·right;simp only[Pc.a8];omega
theorem DS {i:It} : ∀ (l:List It) (n:Nat),It.fD n l=true→i∈l→i.s.one=true
 | s::l,n,h,m=>by
  simp only[It.fD]at h
  split at h
  ·cases h
  ·rename_i hc
   simp only[Bool.or_eq_true,Bool.not_eq_true',not_or,Bool.not_eq_false]at hc
   rcases List.mem_cons.1 m with rfl|m
   ·exact hc.2
   ·exact DS l (n+1) h m
theorem Iy {s:Sm} (h:s.one=true) (hs:s.size<4611686018427387000):s.tu:=by
 unfold Sm.one at h
 split at h
 ·cases h
 split at h
 ·cases h
 split at h
 ·cases h
 split at h
 ·cases h
 rename_i c1 c2 c3 c4
 simp only[Bool.or_eq_true,Bool.and_eq_true,Bool.not_eq_true',not_or,not_and,Bool.not_eq_false,decide_eq_true_eq]at c1 c2 c3 c4
 obtain⟨⟨⟨⟨⟨_,_⟩,alr⟩,cx⟩,cn⟩,_⟩:=c1
 obtain⟨c21,c22⟩:=c2
 obtain⟨⟨c31,c32⟩,c33⟩:=c3
 have nm : ∀ {t:aF},isName t=true→t.length<4611686018427387904:=fun h=>by have:=yx h;omega
 have dK:1+s.labels.length+s.x.size+Ar.a8 s.args≤s.size:=by cases s;simp only[Sm.size];omega
 have Aj:=Ar.eR s.args
 refine⟨fun t ht=>nm (oK alr ht),by omega, ?_, ?_,by omega, ?_,by omega,fun a ha=>?_⟩
 ·cases hn:s.hasName
  ·cases he:(s.name == [])
   ·exact nm (c22 ⟨hn,he⟩).2
   ·simp at he;rw[he];simp
  ·exact nm (c21 hn)
 ·cases oc:s.xy
  ·rw [oc]at c31
   have:s.proc = []:=by simpa using c31
   rw[this];simp
  ·exact nm (c32 oc)
 ·cases hx:s.Nt
  ·exact DR (cn hx)
  ·exact FF (cx hx)
 ·have hm:=Iw c4 ha
  have VX:=Ar.dr ha
  unfold Ar.may at hm
  split at hm
  ·simp only [Bool.and_eq_true]at hm
   exact⟨by omega,DR hm.2,nm hm.1⟩
  ·simp only [Bool.and_eq_true,beq_iff_eq]at hm
   exact⟨by omega,FF hm.2,by rw[hm.1];simp⟩
theorem FG {f:Pc} : ∀ {l:List Pc},Pc.oY l=true→f∈l→isName f.name=true∧eU f.vars=true∧eU f.fin=true∧Pm.fD f.params=true
 |s::l,h,m=>by
  simp only[Pc.oY]at h
  split at h
  ·cases h
  split at h
  ·cases h
  rename_i c1 c2
  simp only[Bool.or_eq_true,Bool.not_eq_true',not_or,Bool.not_eq_false]at c1 c2
  rcases List.mem_cons.1 m with rfl|m
  ·exact⟨c1.1.1.1.1,c1.1.2,c1.2,c2⟩
  ·exact FG h m
theorem Tw {p:Pg} (h:p.may=true) (hs:p.size<4611686018427387000):p.tu:=by
 unfold Pg.may at h
 split at h
 ·cases h
 split at h
 ·cases h
 split at h
 ·cases h
 rename_i c1 c2 c3
 simp only[Bool.or_eq_true,Bool.not_eq_true',not_or,Bool.not_eq_false]at c1 c2
 have nm : ∀ {t:aF},isName t=true→t.length<4611686018427387904:=fun h=>by have:=yx h;omega
 refine⟨hs,fun t ht=>nm (oK c1.2 ht),fun f hf=>?_,fun i hi=>?_⟩
 ·obtain⟨a,b,c,d⟩:=FG c2 hf
  exact⟨nm a,fun t ht=>nm (oK b ht),fun t ht=>nm (oK c ht),fun t ht=>nm (FE d ht)⟩
 ·refine Iy (DS _ _ h hi) ?_
  rcases Ix _ _ hi with h1|h1
  ·simp at h1
  ·simp only[Pg.size]at hs;omega
theorem Qc {t:aF} (h:isName t=true):t≠ []:=by rintro rfl;cases h
theorem Tx (op n:Int) (name:aF) (kids:List Ex):Ex.form ⟨op,n,name,kids⟩=true↔
 nN op=(kids.length:Int)∧(op=1∨n=0)∧0≤n∧(op=2↔name≠ [])∧(name = []∨isName name=true)∧Ex.sg kids=true:=by
 simp only[Ex.form]
 split
 ·rename_i h
  simp only[Bool.or_eq_true,Bool.and_eq_true,bne_iff_ne,ne_eq,decide_eq_true_eq,Bool.not_eq_true']at h
  refine⟨fun h=>(Bool.false_ne_true h).elim,fun⟨h1,h2,h3,h4,h5,_⟩=>?_⟩
  exfalso
  rcases h with (((h|h)|h)|h)|h
  ·exact h h1
  ·rcases h2 with h2 | h2
   ·exact h.1 h2
   ·exact h.2 h2
  ·omega
  ·by_cases h2:op=2<;>cases name<;>simp_all
  ·rcases h5 with h5 | h5
   ·subst h5;simp at h
   ·rw[h5]at h;simp at h
 ·rename_i h
  simp only[Bool.or_eq_true,Bool.and_eq_true,bne_iff_ne,ne_eq,decide_eq_true_eq,Bool.not_eq_true',not_or,not_and,Decidable.not_not,Bool.not_eq_false]at h
  obtain⟨⟨⟨⟨h1,h2⟩,h3⟩,h4⟩,h5⟩:=h
  refine⟨fun h=>⟨h1, ?_,by omega, ?_, ?_,h⟩,fun h=>h.2.2.2.2.2⟩
  ·by_cases h:op=1
   ·exact .inl h
   ·exact .inr (h2 h)
  ·by_cases h2:op=2<;>cases name<;>simp_all
  ·cases name with
   |nil=>exact .inl rfl
   |cons c r=>exact .inr (h5 rfl)
theorem Iz (op n:Int) (name:aF) (kids:List Ex) (k:Int):Ex.dp k ⟨op,n,name,kids⟩=true↔
 1≤k∧(kids.length:Int)=nN op∧(if op=1 then 0≤n∧name = []else if op=2 then n=0∧isName name=true else n=0∧name = []∧Ex.AB (k - 1) kids=true):=by
 simp only[Ex.dp]
 split
 ·rename_i h
  simp only[Bool.or_eq_true,decide_eq_true_eq,bne_iff_ne,ne_eq]at h
  refine⟨fun h=>(Bool.false_ne_true h).elim,fun⟨h1,h2,_⟩=>?_⟩
  rcases h with h|h
  ·omega
  ·exact(h h2).elim
 rename_i h
 simp only[Bool.or_eq_true,decide_eq_true_eq,bne_iff_ne,ne_eq,not_or,Decidable.not_not]at h
 have h1:1≤k:=by omega
 simp only[h1,h.2,true_and]
 by_cases o1:op=1
 ·subst o1
  cases name<;>simp
 ·have o1' : ¬ (op==1)=true:=by simpa using o1
  rw[if_neg o1',if_neg o1]
  by_cases o2:op=2
  ·subst o2;simp
  ·have o2' : ¬ (op==2)=true:=by simpa using o2
   rw[if_neg o2',if_neg o2]
   by_cases hn:n=0
   ·subst hn
    cases name<;>simp
   ·simp[hn]
mutual
theorem VY : ∀ (x:Ex) (k:Int),0≤k→(x.dp k=true↔(x.depth:Int)≤k∧x.form=true)
 | ⟨op,n,name,kids⟩,k,hk=>by
  rw[Iz,Tx]
  have hd:Ex.depth ⟨op,n,name,kids⟩=Ex.pD kids+1:=by simp only[Ex.depth]
  rw[hd]
  by_cases h1:1≤k
  ·have ih:=Qd kids (k - 1) (by omega)
   by_cases o1:op=1
   ·subst o1
    have ha:nN 1=0:=rfl
    rw[ha,if_pos rfl]
    constructor
    ·rintro⟨_,h2,h3,h4⟩
     have:kids = []:=List.eq_nil_of_length_eq_zero (by omega)
     subst this;subst h4
     simp[Ex.pD,Ex.sg,h3];omega
    ·rintro⟨h2,h3,_,h4,h5,_⟩
     refine⟨h1,h3.symm,h4, ?_⟩
     cases name
     ·rfl
     ·simp at h5
   ·rw [if_neg o1]
    by_cases o2:op=2
    ·subst o2
     have ha:nN 2=0:=rfl
     rw[ha,if_pos rfl]
     constructor
     ·rintro⟨_,h2,h3,h4⟩
      have:kids = []:=List.eq_nil_of_length_eq_zero (by omega)
      subst this;subst h3
      have:=Qc h4
      simp[Ex.pD,Ex.sg,h4,this];omega
     ·rintro⟨h2,h3,h4,_,h5,h6,_⟩
      refine⟨h1,h3.symm,h4.resolve_left o1, ?_⟩
      exact h6.resolve_left (h5.1 rfl)
    ·rw [if_neg o2,ih]
     constructor
     ·rintro⟨_,h2,h3,h4,h5,h6⟩
      subst h3;subst h4
      exact⟨by omega,h2.symm, .inr rfl,Int.le_refl _,by simp[o2], .inl rfl,h6⟩
     ·rintro⟨h2,h3,h4,_,h5,h6,h7⟩
      refine⟨h1,h3.symm,h4.resolve_left o1, ?_,by omega,h7⟩
      exact Decidable.byContradiction fun h=>o2 (h5.2 h)
  ·constructor
   ·rintro⟨h,_⟩;exact(h1 h).elim
   ·rintro⟨h,_⟩;omega
theorem Qd : ∀ (l:List Ex) (k:Int),0≤k→(Ex.AB k l=true↔(Ex.pD l:Int)≤k∧Ex.sg l=true)
 | [],k,hk=>by simp[Ex.AB,Ex.pD,Ex.sg,hk]
 | x::l,k,hk=>by
  have h1:=VY x k hk
  have h2:=Qd l k hk
  have hd:Ex.pD (x::l)=max x.depth (Ex.pD l):=by simp only[Ex.pD]
  rw[hd]
  simp only[Ex.AB,Ex.sg]
  cases hx:Ex.dp k x
  ·simp only [Bool.not_false, ↓reduceIte,Bool.false_eq_true,false_iff,not_and]
   intro h3
   have : ¬ ((x.depth:Int)≤k∧x.form=true):=by rw[← h1,hx];simp
   have hf:x.form=false:=by
    cases hf:x.form
    ·rfl
    ·exact(this ⟨by omega,hf⟩).elim
   simp[hf]
  ·have:=h1.1 hx
   simp only[Bool.not_true,Bool.false_eq_true,↓reduceIte,this.2,h2]
   have h3:=this.1
   refine and_congr_left fun _=>?_
   omega
end
theorem DT (x:Ex):x.dp 20=x.may:=by
 rw[Bool.eq_iff_iff,VY x 20 (by omega)]
 unfold Ex.may
 simp only[Bool.and_eq_true,decide_eq_true_eq]
 refine and_congr_left fun _=>?_
 omega
theorem FH (x:Ex) (b:Bool):uX x b=if b then x.may else x.none:=by
 unfold uX
 rw[DT]
 cases b<;>simp
theorem FI (t:aF) (b:Bool):sM t b=if b then isName t else t == []:=by
 unfold sM
 cases b<;>simp
theorem Cb : ∀ l:List Ar,oZ l=Ar.fD l
 | []=>rfl
 |a::l=>by
  simp only[oZ,Ar.fD,Ar.may,FH,FI,Cb l]
  grind
theorem LJ {α:Type} (l:List α):((l.length:Int)==0) = !(decide ((l.length:Int) > 0)):=by
 cases l with
 |nil=>rfl
 |cons a l=>
  have h1:(((a::l).length:Int)==0)=false:=by simp only[List.length_cons,beq_eq_false_iff_ne];omega
  have h2:decide (((a::l).length:Int) > 0)=true:=by simp only[List.length_cons,decide_eq_true_eq];omega
  rw[h1,h2];rfl
theorem DU (s:Sm):s.one=(eU s.labels && s.fields):=by
 have hk:s.kind=1∨s.kind=2∨s.kind=3∨s.kind=4∨s.kind=5∨s.kind=6∨s.kind=7∨s.kind=8∨s.kind=9∨s.kind=10∨s.kind<1∨s.kind > 10:=by omega
 unfold Sm.one Sm.fields Sm.flags Sm.Nt Sm.hasName Sm.xy
 have p1:isName [] = false:=rfl
 rcases hk with h|h|h|h|h|h|h|h|h|h|h|h
 all_goals
  simp only[h,LJ,Cb,FH,FI,Sm.GX,Sm.GV]
  grind
mutual
def Ex.lZ (out:List aF):Ex→List aF
 |⟨op,_,name,kids⟩=>Ex.lk (if op==2 && !(fe out name)then out++ [name]else out) kids
def Ex.lk (out:List aF):List Ex→List aF
 | []=>out
 |x::l=>Ex.lk (Ex.lZ out x) l
end
def Ex.names (x:Ex):List aF:=if x.may then x.lZ []else []
mutual
theorem rM (out:List aF) : ∀ x:Ex,(Ex.lZ out x).length≤out.length+x.size
 |⟨op,n,name,kids⟩=>by
  simp only[Ex.lZ,Ex.size]
  have h:=FJ (if op==2 && !(fe out name)then out++ [name]else out) kids
  refine Nat.le_trans h ?_
  split<;>simp<;>omega
theorem FJ (out:List aF) : ∀ l:List Ex,(Ex.lk out l).length≤out.length+Ex.a8 l
 | []=>by simp[Ex.lk,Ex.a8]
 |x::l=>by
  simp only[Ex.lk,Ex.a8]
  have h1:=rM out x
  have h2:=FJ (Ex.lZ out x) l
  omega
end
def Bp (out:List aF) (x:aF):List aF:=if fe out x then out else out++ [x]
def afw (x:aF):List aF→Bool
 | []=>false
 |s::l=>if s==x then true else afw x l
abbrev Qe (N:Nat):Prop:=∀ (x:Ex),x.size≤N→∀ out:List aF,out.length+x.size≤1000000000→∀ {s:St} {t:Nat},s.av[t]? = some (some out.length)→
 aG Tryz.prog iD [.agg (bW x), .slice (.tok t) 1 (out.map encStr)] s (.slice (.tok t) 1 ((x.lZ out).map encStr)) ⟨s.ah,s.av.set t (some (x.lZ out).length)⟩
theorem abl {N:Nat} (ih:Qe N) {op m:Int} {name:aF} {kids:List Ex} (h:Ex.size ⟨op,m,name,kids⟩≤N+1) {out:List aF} (ho:out.length+Ex.size ⟨op,m,name,kids⟩≤1000000000) :
 aG Tryz.prog iD [.agg (bW ⟨op,m,name,kids⟩), .slice (.tok 0) 1 (out.map encStr)] ⟨[],[some out.length]⟩ (.slice (.tok 0) 1 ((Ex.lZ out ⟨op,m,name,kids⟩).map encStr)) ⟨[],[some (Ex.lZ out ⟨op,m,name,kids⟩).length]⟩:=by
 obtain⟨R,hG⟩ : ∃ R,Ex.lZ out ⟨op,m,name,kids⟩=R:=⟨_,rfl⟩
 rw[hG]
 simp only[Ex.lZ]at hG
 simp only[Ex.size]at h ho
 have hlen:kids.length<1000000000:=by have:=Ex.eR kids;omega
 have hk : ∀ y∈kids,∀ out:List aF,out.length+y.size≤1000000000→∀ {s:St} {t:Nat},s.av[t]? = some (some out.length)→
  aG Tryz.prog iD [.agg (bW y), .slice (.tok t) 1 (out.map encStr)] s (.slice (.tok t) 1 ((y.lZ out).map encStr)) ⟨s.ah,s.av.set t (some (y.lZ out).length)⟩:=fun y hy out ho=>
  ih y (by have:=Ex.dr hy;omega) out ho
 refine aG.go qT rfl fun B Q hB hQ=>?_
 have⟨hD,hY,hZ,gA⟩:=bS
 have hZ:(out.length+1)*17≤bH:=by unfold bH;omega
 rcases Bool.eq_false_or_eq_true (op==2)with b1|b1
 ·rcases Bool.eq_false_or_eq_true (fe out name)with b2 | b2
  ·simp only [b1,b2,Bool.not_true,Bool.and_false,Bool.false_eq_true,if_false]at hG
   repeat' (first
 |simp only[go_sem,hD,hY,hZ,gA,b1,b2]
 |(with_reducible refine CU (ji (l:=out) (by omega) name _ _) ?_)
 | (with_reducible refine aE hQ ?_;exact bg))
   refine fi 1 1 (bq.ind (ι:=List Ex×Nat×List aF×Nat) (fun i=>kids.drop i.2.1=i.1∧Ex.lk i.2.2.1 i.1=R∧i.2.2.1.length+Ex.a8 i.1≤1000000000∧i.2.2.2=i.2.2.1.length) (fun i=>i.1.length)
    (fun i=> [(1, .slice (.tok 0) 1 (i.2.2.1.map encStr)),(2, .ptr 0 0),(23, .slice .shared 4 (kids.map bW)),(24, .int .i64 (kids.length:Int)),(25, .int .i64 (i.2.1:Int))]) (fun i=>⟨[bW ⟨op,m,name,kids⟩],[some i.2.2.2]⟩) ?_ (kids,0,out,out.length) ⟨rfl,hG,by simp;omega,by simp⟩)
   rintro⟨rest,k,ct,n'⟩ ⟨h1,h2,h3,h4⟩ IH
   dsimp only at h1 h2 h3 h4
   subst h4
   cases rest with
   |nil=>
    have hD:=drop_nil h1
    simp only[Ex.lk]at h2
    subst h2
    repeat' (first
 |simp only[go_sem,hD,hY,hZ,gA]
 | (with_reducible refine aE hQ ?_;exact bg))
   |cons y rest=>
    obtain⟨hY,g2,hD,g4⟩:=drop_cons h1
    have cf:k<4611686018427387904:=by omega
    simp only[Ex.lk]at h2
    simp only[Ex.a8]at h3
    have hy:=fun {s:St} {t:Nat} (ht:s.av[t]? = some (some ct.length))=>hk y (List.mem_of_getElem? hY) ct (by omega) ht
    have hl:=rM ct y
    repeat' (first
 |simp only[go_sem,hD,hY,hZ,gA]
 |(with_reducible refine CU (hy (by with_unfolding_all rfl)) ?_)
 | (with_reducible refine aE hQ ?_;exact bg))
    refine fj 1 1 ?_ ?_ (IH (rest,k+1,_,_) ⟨g2,h2,by dsimp only;omega,rfl⟩ (Nat.lt_succ_self _))
    ·(simp only[go_sem,hD,hY,hZ,gA,aJ cf];try exact cv)
    ·(simp only[go_sem,hD,hY,hZ,gA,aJ cf];try exact cv)
  ·simp only [b1,b2,Bool.not_false,Bool.and_true,if_true]at hG
   repeat' (first
 |simp only[go_sem,hD,hY,hZ,gA,b1,b2]
 |(with_reducible refine CU (ji (l:=out) (by omega) name _ _) ?_)
 | (with_reducible refine aE hQ ?_;exact bg))
   refine fj 1 1 ?_ ?_ (bq.ind (ι:=List Ex×Nat×List aF×Nat) (fun i=>kids.drop i.2.1=i.1∧Ex.lk i.2.2.1 i.1=R∧i.2.2.1.length+Ex.a8 i.1≤1000000000∧i.2.2.2=i.2.2.1.length) (fun i=>i.1.length)
    (fun i=> [(1, .slice (.tok 0) 1 (i.2.2.1.map encStr)),(2, .ptr 0 0),(23, .slice .shared 4 (kids.map bW)),(24, .int .i64 (kids.length:Int)),(25, .int .i64 (i.2.1:Int))]) (fun i=>⟨[bW ⟨op,m,name,kids⟩],[some i.2.2.2]⟩) ?_ (kids,0,(out++ [name]),(out.length+1)) ⟨rfl,hG,by simp;omega,by simp⟩)
   ·(simp only[go_sem,hD,hY,hZ,gA,List.map_append,List.map_cons,List.map_nil,List.length_append,List.length_cons,List.length_nil,encStr];try exact cv)
   ·(simp only[go_sem,hD,hY,hZ,gA,List.map_append,List.map_cons,List.map_nil,List.length_append,List.length_cons,List.length_nil,encStr];try exact cv)
   rintro⟨rest,k,ct,n'⟩ ⟨h1,h2,h3,h4⟩ IH
   dsimp only at h1 h2 h3 h4
   subst h4
   cases rest with
   |nil=>
    have hD:=drop_nil h1
    simp only[Ex.lk]at h2
    subst h2
    repeat' (first
 |simp only[go_sem,hD,hY,hZ,gA]
 | (with_reducible refine aE hQ ?_;exact bg))
   |cons y rest=>
    obtain⟨hY,g2,hD,g4⟩:=drop_cons h1
    have cf:k<4611686018427387904:=by omega
    simp only[Ex.lk]at h2
    simp only[Ex.a8]at h3
    have hy:=fun {s:St} {t:Nat} (ht:s.av[t]? = some (some ct.length))=>hk y (List.mem_of_getElem? hY) ct (by omega) ht
    have hl:=rM ct y
    repeat' (first
 |simp only[go_sem,hD,hY,hZ,gA]
 |(with_reducible refine CU (hy (by with_unfolding_all rfl)) ?_)
 | (with_reducible refine aE hQ ?_;exact bg))
    refine fj 1 1 ?_ ?_ (IH (rest,k+1,_,_) ⟨g2,h2,by dsimp only;omega,rfl⟩ (Nat.lt_succ_self _))
    ·(simp only[go_sem,hD,hY,hZ,gA,aJ cf];try exact cv)
    ·(simp only[go_sem,hD,hY,hZ,gA,aJ cf];try exact cv)
 ·simp only [b1,Bool.false_and,Bool.false_eq_true,if_false]at hG
  repeat' (first
 |simp only[go_sem,hD,hY,hZ,gA,b1]
 | (with_reducible refine aE hQ ?_;exact bg))
  refine fi 1 1 (bq.ind (ι:=List Ex×Nat×List aF×Nat) (fun i=>kids.drop i.2.1=i.1∧Ex.lk i.2.2.1 i.1=R∧i.2.2.1.length+Ex.a8 i.1≤1000000000∧i.2.2.2=i.2.2.1.length) (fun i=>i.1.length)
   (fun i=> [(1, .slice (.tok 0) 1 (i.2.2.1.map encStr)),(2, .ptr 0 0),(23, .slice .shared 4 (kids.map bW)),(24, .int .i64 (kids.length:Int)),(25, .int .i64 (i.2.1:Int))]) (fun i=>⟨[bW ⟨op,m,name,kids⟩],[some i.2.2.2]⟩) ?_ (kids,0,out,out.length) ⟨rfl,hG,by simp;omega,by simp⟩)
  rintro⟨rest,k,ct,n'⟩ ⟨h1,h2,h3,h4⟩ IH
  dsimp only at h1 h2 h3 h4
  subst h4
  cases rest with
  |nil=>
   have hD:=drop_nil h1
   simp only[Ex.lk]at h2
   subst h2
   repeat' (first
 |simp only[go_sem,hD,hY,hZ,gA]
 | (with_reducible refine aE hQ ?_;exact bg))
  |cons y rest=>
   obtain⟨hY,g2,hD,g4⟩:=drop_cons h1
   have cf:k<4611686018427387904:=by omega
   simp only[Ex.lk]at h2
   simp only[Ex.a8]at h3
   have hy:=fun {s:St} {t:Nat} (ht:s.av[t]? = some (some ct.length))=>hk y (List.mem_of_getElem? hY) ct (by omega) ht
   have hl:=rM ct y
   repeat' (first
 |simp only[go_sem,hD,hY,hZ,gA]
 |(with_reducible refine CU (hy (by with_unfolding_all rfl)) ?_)
 | (with_reducible refine aE hQ ?_;exact bg))
   refine fj 1 1 ?_ ?_ (IH (rest,k+1,_,_) ⟨g2,h2,by dsimp only;omega,rfl⟩ (Nat.lt_succ_self _))
   ·(simp only[go_sem,hD,hY,hZ,gA,aJ cf];try exact cv)
   ·(simp only[go_sem,hD,hY,hZ,gA,aJ cf];try exact cv)
theorem Ty : ∀ N,Qe N:=by
 intro N
 induction N with
 |zero=>rintro⟨op,m,name,kids⟩ h;simp only[Ex.size]at h;omega
 |succ N ih=>
  rintro⟨op,m,name,kids⟩ h out ho s t ht
  exact(abl ih h ho).ahN (pre:= [_]) (post:= []) (by simp only[D.bI,D.ok,lr];rfl) rfl (eQ out) (eQ _) ht
abbrev ame (N:Nat):Prop:=∀ (x:Ex),x.size≤N→∀ out:List aF,out.length+x.size≤1000000000→∀ {s:St} {t:Nat},s.av[t]? = some (some out.length)→
 aG Tryz.prog J1 [.agg (bW x), .slice (.tok t) 1 (out.map encStr)] s (.slice (.tok t) 1 ((x.lZ out).map encStr)) ⟨s.ah,s.av.set t (some (x.lZ out).length)⟩
theorem Qf {op m:Int} {name:aF} {kids:List Ex} (h:Ex.form ⟨op,m,name,kids⟩=true) (h2:(op==2)=true):kids = []:=by
 have e:op=2:=by simpa using h2
 subst e
 simp only[Ex.form]at h
 split at h
 ·cases h
 ·rename_i hh
  simp only[Bool.or_eq_true,not_or,bne_iff_ne,ne_eq,Decidable.not_not]at hh
  have:=hh.1.1.1.1
  have e:nN 2=0:=rfl
  rw[e]at this
  exact List.length_eq_zero_iff.1 (by omega)
theorem Tz {op m:Int} {name:aF} {kids:List Ex} (hf:(op==2)=true→kids = []) (ho:Ex.size ⟨op,m,name,kids⟩≤1000000000) (s:St) :
 aG Tryz.prog iD [.agg (bW ⟨op,m,name,kids⟩), .slice .full 0 []] s (.slice .shared 1 ((Ex.lZ [] ⟨op,m,name,kids⟩).map encStr)) s:=by
 refine aG.pure ?_ (by simp only[D.bI,D.ok,lr];rfl) (by simp only[D.ok,Tag.ok,eQ];rfl) s
 obtain⟨R,hG⟩ : ∃ R,Ex.lZ [] ⟨op,m,name,kids⟩=R:=⟨_,rfl⟩
 rw[hG]
 simp only[Ex.lZ]at hG
 simp only[Ex.size]at ho
 have hlen:kids.length<1000000000:=by have:=Ex.eR kids;omega
 have hk : ∀ y∈kids,∀ out:List aF,out.length+y.size≤1000000000→∀ {s:St} {t:Nat},s.av[t]? = some (some out.length)→
  aG Tryz.prog iD [.agg (bW y), .slice (.tok t) 1 (out.map encStr)] s (.slice (.tok t) 1 ((y.lZ out).map encStr)) ⟨s.ah,s.av.set t (some (y.lZ out).length)⟩:=fun y hy out ho=>
  Ty y.size y (Nat.le_refl _) out ho
 unfold S0
 rcases Bool.eq_false_or_eq_true (op==2)with b1|b1
 ·have hk0:=hf b1
  subst hk0
  have e:fe [] name=false:=rfl
  simp only[b1,e,Bool.not_false,Bool.and_true,if_true,Ex.lk,List.nil_append]at hG
  subst hG
  refine aG.go qT rfl fun B Q hB hQ=>?_
  have⟨hD,hY,hZ,gA⟩:=bS
  have hZ:17≤bH:=by unfold bH;omega
  repeat' (first
 |simp only[go_sem,hD,hY,hZ,gA,b1,List.map_nil,List.map_cons,List.length_nil,encStr,Int.natCast_zero,Int.lt_irrefl,decide_false]
 |(with_reducible refine CU (Iu name _ _ _) ?_)
 |(with_reducible refine bq.kC ?_)
 |(with_reducible refine aE hQ ?_;exact bg))
 ·simp only [b1,Bool.false_and,Bool.false_eq_true,if_false]at hG
  refine aG.go qT rfl fun B Q hB hQ=>?_
  have⟨hD,hY,hZ,gA⟩:=bS
  repeat' (first
 |simp only[go_sem,hD,hY,hZ,gA,b1]
 | (with_reducible refine aE hQ ?_;exact bg))
  refine bq.wx 1 1 rfl ?_
  simp only[go_sem,hD,hY,hZ,gA]
  refine fi 1 1 (bq.ind (ι:=List Ex×Nat×List aF×Nat) (fun i=>kids.drop i.2.1=i.1∧Ex.lk i.2.2.1 i.1=R∧i.2.2.1.length+Ex.a8 i.1≤1000000000∧i.2.2.2=i.2.2.1.length) (fun i=>i.1.length)
   (fun i=> [(1, .slice (.tok 0) 1 (i.2.2.1.map encStr)),(2, .ptr 0 0),(23, .slice .shared 4 (kids.map bW)),(24, .int .i64 (kids.length:Int)),(25, .int .i64 (i.2.1:Int))]) (fun i=>⟨[bW ⟨op,m,name,kids⟩],[some i.2.2.2]⟩) ?_ (kids,0,[],0) ⟨rfl,hG,by simp;omega,by simp⟩)
  rintro⟨rest,k,ct,n'⟩ ⟨h1,h2,h3,h4⟩ IH
  dsimp only at h1 h2 h3 h4
  subst h4
  cases rest with
  |nil=>
   have hD:=drop_nil h1
   simp only[Ex.lk]at h2
   subst h2
   repeat' (first
 |simp only[go_sem,hD,hY,hZ,gA]
 | (with_reducible refine aE hQ ?_;exact bg))
  |cons y rest=>
   obtain⟨hY,g2,hD,g4⟩:=drop_cons h1
   have cf:k<4611686018427387904:=by omega
   simp only[Ex.lk]at h2
   simp only[Ex.a8]at h3
   have hy:=fun {s:St} {t:Nat} (ht:s.av[t]? = some (some ct.length))=>hk y (List.mem_of_getElem? hY) ct (by omega) ht
   have hl:=rM ct y
   repeat' (first
 |simp only[go_sem,hD,hY,hZ,gA]
 |(with_reducible refine CU (hy (by with_unfolding_all rfl)) ?_)
 | (with_reducible refine aE hQ ?_;exact bg))
   refine fj 1 1 ?_ ?_ (IH (rest,k+1,_,_) ⟨g2,h2,by dsimp only;omega,rfl⟩ (Nat.lt_succ_self _))
   ·(simp only[go_sem,hD,hY,hZ,gA,aJ cf];try exact cv)
   ·(simp only[go_sem,hD,hY,hZ,gA,aJ cf];try exact cv)
theorem mP {x:Ex} (hx:x.size≤1000000000) (ht:x.texts) (s:St):aG Tryz.prog qQ [.agg (bW x)] s (.slice .shared 1 (x.names.map encStr)) s:=by
 refine aG.pure ?_ (by simp only[D.bI,D.ok,lr];rfl) (by simp only[D.ok,Tag.ok,eQ];rfl) s
 have hm:=fun s=>yw (x:=x) (by omega) ht s
 simp only[DT]at hm
 unfold Ex.names
 unfold S0
 cases hb:x.may
 ·simp only [hb]at hm
  simp only[Bool.false_eq_true,if_false,List.map_nil]
  refine aG.go xu rfl fun B Q hB hQ=>?_
  have⟨hD,hY,hZ,gA⟩:=bS
  repeat' (first
 |simp only[go_sem,hD,hY,hZ,gA]
 |(with_reducible refine CU (hm _) ?_)
 |(with_reducible refine aE hQ ?_;exact bg))
 ·simp only [hb]at hm
  simp only[if_true]
  have hg : ∀ s,aG Tryz.prog iD [.agg (bW x), .slice .full 0 []] s (.slice .shared 1 ((x.lZ []).map encStr)) s:=by
   intro s
   obtain⟨op,m,name,kids⟩:=x
   exact Tz (fun h2=>Qf (by simp only[Ex.may,Bool.and_eq_true]at hb;exact hb.2) h2) hx s
  refine aG.go xu rfl fun B Q hB hQ=>?_
  have⟨hD,hY,hZ,gA⟩:=bS
  repeat' (first
 |simp only[go_sem,hD,hY,hZ,gA]
 |(with_reducible refine CU (hm _) ?_)
 |(with_reducible refine CU (hg _) ?_)
 |(with_reducible refine aE hQ ?_;exact bg))
def Ar.said (out:List aF):List Ar→List aF
 | []=>out
 |a::l=>Ar.said ((if a.ref then out++ [a.name]else out)++a.x.names) l
def Sm.sh (v:Sm):List aF:=if v.kind != 10 && v.name != []then [v.name]else []
def Sm.said (v:Sm):List aF:=Ar.said (v.sh++v.x.names) v.args
theorem kP (x:Ex):x.names.length≤x.size:=by
 unfold Ex.names
 split
 ·simpa using rM [] x
 ·exact Nat.zero_le _
def Ar.uU:List Ar→Prop
 | []=>True
 |a::l=>a.x.texts∧Ar.uU l
def Sm.mQ (v:Sm):Prop:=v.x.texts∧(∀ a∈v.args,a.x.texts)∧v.x.size+Ar.a8 v.args<1000000
theorem kr {l nx:List aF} {n:Nat} (hn:n=l.length) (h:l.length+nx.length≤1000000000) {g:Tag} (o:List (List D)) :
 gZ 1 16 (.slice (.tok 0) 1 (l.map encStr)) (.slice g 1 (nx.map encStr)) ⟨o,[some n]⟩=some (.slice (.tok 0) 1 ((l++nx).map encStr),⟨o,[some (l++nx).length]⟩):=by
 subst hn
 have:=oz (size:=1) (bytes:=16) (t:=0) (rows:=l.map encStr) (new:=nx.map encStr) (g:=g) (s:=⟨o,[some l.length]⟩) (by simp only[List.length_map];unfold bH;omega) (by simp)
 rw[this]
 simp
theorem AE {v:Sm} (hv:v.mQ) (s:St):aG Tryz.prog qO [.agg (bk v)] s (.slice .shared 1 (v.said.map encStr)) s:=by
 refine aG.pure ?_ (by simp only[D.bI,D.ok,qD];rfl) (by simp only[D.ok,Tag.ok,eQ];rfl) s
 obtain⟨AG,sN,dK⟩:=hv
 obtain⟨R,hG⟩ : ∃ R,v.said=R:=⟨_,rfl⟩
 rw[hG]
 simp only[Sm.said]at hG
 have hlen:v.args.length<1000000000:=by have:=Ar.eR v.args;omega
 have hx:=fun s=>mP (x:=v.x) (by omega) AG s
 have KE:=kP v.x
 unfold S0
 refine aG.go EL rfl fun B Q hB hQ=>?_
 have⟨hD,hY,hZ,gA⟩:=bS
 have hZ:17≤bH:=by unfold bH;omega
 by_cases hb:(v.kind != 10 && v.name != [])=true
 ·simp only [Sm.sh,hb,if_true]at hG
  rw[Bool.and_eq_true]at hb
  obtain⟨b1,b2⟩:=hb
  have eA:=kr (l:= [v.name]) (nx:=v.x.names) (n:=1) rfl (by simp;omega) (g:= .shared)
  simp only[List.map_append,List.map_cons,List.map_nil,encStr]at eA
  have b3:(v.name == [])=false:=by simpa using b2
  repeat' (first
 |simp only[go_sem,hD,hY,hZ,gA,b1,b2,b3,eA]
 |(with_reducible refine CU (hx _) ?_)
 | (with_reducible refine aE hQ ?_;exact bg))
  refine fj 1 1 ?_ ?_ (bq.ind (ι:=List Ar×Nat×List aF×Nat) (fun i=>v.args.drop i.2.1=i.1∧Ar.said i.2.2.1 i.1=R∧i.2.2.1.length+Ar.a8 i.1≤2000000∧i.2.2.2=i.2.2.1.length) (fun i=>i.1.length)
   (fun i=> [(3, .slice (.tok 0) 1 (i.2.2.1.map encStr)),(1, .ptr 0 0),(25, .slice .shared 6 (v.args.map eg)),(26, .int .i64 (v.args.length:Int)),(27, .int .i64 (i.2.1:Int))]) (fun i=>⟨[bk v],[some i.2.2.2]⟩) ?_ (v.args,0,([v.name]++v.x.names),(v.x.names.length+1)) ⟨rfl,hG,by simp at KE ⊢;omega,by simp⟩)
  ·(simp only[go_sem,hD,hY,hZ,gA,List.map_append,List.map_cons,List.map_nil,encStr];try exact cv)
  ·(simp only[go_sem,hD,hY,hZ,gA,List.map_append,List.map_cons,List.map_nil,encStr];try exact cv)
  rintro⟨rest,k,out,n'⟩ ⟨h1,h2,h3,h4⟩ IH
  dsimp only at h1 h2 h3 h4
  subst h4
  cases rest with
  |nil=>
   have hD:=drop_nil h1
   simp only[Ar.said]at h2
   subst h2
   repeat' (first
 |simp only[go_sem,hD,hY,hZ,gA]
 | (with_reducible refine aE hQ ?_;exact bg))
  | cons a rest=>
   obtain⟨hY,g2,hD,g4⟩:=drop_cons h1
   have cf:k<4611686018427387904:=by omega
   simp only[Ar.said]at h2
   simp only[Ar.a8]at h3
   have vS:=fun s=>mP (x:=a.x) (by have:=Ar.dr (List.mem_of_getElem? hY);omega) (sN a (List.mem_of_getElem? hY)) s
   have hl:=kP a.x
   have hZ:(out.length+1)*17≤bH:=by unfold bH;omega
   rcases Bool.eq_false_or_eq_true a.ref with b1|b1
   ·simp only [b1,if_true]at h2
    have eA:=kr (l:=out++ [a.name]) (nx:=a.x.names) (n:=out.length+1) (by simp) (by simp;omega) (g:= .shared)
    simp only[List.map_append,List.map_cons,List.map_nil,encStr]at eA
    repeat' (first
 |simp only[go_sem,hD,hY,hZ,gA,b1,eA]
 |(with_reducible refine CU (vS _) ?_)
 | (with_reducible refine aE hQ ?_;exact bg))
    refine fj 1 1 ?_ ?_ (IH (rest,k+1,out++ [a.name]++a.x.names,_) ⟨g2,h2,by simp;omega,by simp<;>omega⟩ (Nat.lt_succ_self _))
    ·(simp only[go_sem,hD,hY,hZ,gA,aJ cf,List.map_append,List.map_cons,List.map_nil,encStr];try exact cv)
    ·(simp only[go_sem,hD,hY,hZ,gA,aJ cf,List.map_append,List.map_cons,List.map_nil,encStr];try exact cv)
   ·simp only [b1,Bool.false_eq_true,if_false]at h2
    have eA:=kr (l:=out) (nx:=a.x.names) rfl (by omega) (g:= .shared)
    repeat' (first
 |simp only[go_sem,hD,hY,hZ,gA,b1,eA]
 |(with_reducible refine CU (vS _) ?_)
 | (with_reducible refine aE hQ ?_;exact bg))
    refine fj 1 1 ?_ ?_ (IH (rest,k+1,out++a.x.names,_) ⟨g2,h2,by simp;omega,by simp<;>omega⟩ (Nat.lt_succ_self _))
    ·(simp only[go_sem,hD,hY,hZ,gA,aJ cf];try exact cv)
    ·(simp only[go_sem,hD,hY,hZ,gA,aJ cf];try exact cv)
 ·simp only [Sm.sh,hb,Bool.false_eq_true,if_false,List.nil_append]at hG
  have rk:(v.kind != 10 && v.name != [])=false:=by simpa using hb
  obtain⟨nx,hnx⟩ : ∃ nx,nx=v.x.names:=⟨_,rfl⟩
  rw[← hnx]at hG KE
  simp only[← hnx]at hx
  by_cases Ht:nx = []
  ·subst Ht
   simp only[List.map_nil]at hx
   have eA : ∀ o:List (List D),gZ 1 16 (.slice .full 0 []) (.slice .shared 1 []) ⟨o,[]⟩=some (.slice .full 0 [],⟨o,[]⟩):=fun o=>by simp[gZ,bH]
   have HB:(v.kind != 10)=false∨(v.kind != 10)=true∧(v.name != [])=false:=by
    cases h1:(v.kind != 10)
    ·exact .inl rfl
    ·rw[h1]at rk;exact .inr ⟨rfl,by simpa using rk⟩
   rcases HB with b1|⟨b1,b2⟩
   ·rcases Bool.eq_false_or_eq_true (v.name != [])with b2 | b2
    all_goals
     have b3:(v.name == []) = !(v.name != []):=by simp only[bne,Bool.not_not]
     rw[b2]at b3
     repeat' (first
 |simp only[go_sem,hD,hY,hZ,gA,b1,b2,b3,Bool.not_true,Bool.not_false,eA]
 |(with_reducible refine CU (hx _) ?_)
 | (with_reducible refine aE hQ ?_;simp only [aR,aS,bC,bD,go_sem,hD,hY,hZ,gA];repeat' (first | exact Ok.out | with_reducible refine iJ ?_ ?_ | (simp;done))))
    all_goals
     refine bq.wx 3 1 rfl ?_
     simp only[go_sem,hD,hY,hZ,gA]
     refine fi 1 1 (bq.ind (ι:=List Ar×Nat×List aF×Nat) (fun i=>v.args.drop i.2.1=i.1∧Ar.said i.2.2.1 i.1=R∧i.2.2.1.length+Ar.a8 i.1≤2000000∧i.2.2.2=i.2.2.1.length) (fun i=>i.1.length)
      (fun i=> [(3, .slice (.tok 0) 1 (i.2.2.1.map encStr)),(1, .ptr 0 0),(25, .slice .shared 6 (v.args.map eg)),(26, .int .i64 (v.args.length:Int)),(27, .int .i64 (i.2.1:Int))]) (fun i=>⟨[bk v],[some i.2.2.2]⟩) ?_ (v.args,0,[],0) ⟨rfl,hG,by simp at KE ⊢;omega,by simp⟩)
     rintro⟨rest,k,out,n'⟩ ⟨h1,h2,h3,h4⟩ IH
     dsimp only at h1 h2 h3 h4
     subst h4
     cases rest with
     |nil=>
      have hD:=drop_nil h1
      simp only[Ar.said]at h2
      subst h2
      repeat' (first
 |simp only[go_sem,hD,hY,hZ,gA]
 |(with_reducible refine aE hQ ?_;exact bg))
     | cons a rest=>
      obtain⟨hY,g2,hD,g4⟩:=drop_cons h1
      have cf:k<4611686018427387904:=by omega
      simp only[Ar.said]at h2
      simp only[Ar.a8]at h3
      have vS:=fun s=>mP (x:=a.x) (by have:=Ar.dr (List.mem_of_getElem? hY);omega) (sN a (List.mem_of_getElem? hY)) s
      have hl:=kP a.x
      have hZ:(out.length+1)*17≤bH:=by unfold bH;omega
      rcases Bool.eq_false_or_eq_true a.ref with b1|b1
      ·simp only [b1,if_true]at h2
       have eA:=kr (l:=out++ [a.name]) (nx:=a.x.names) (n:=out.length+1) (by simp) (by simp;omega) (g:= .shared)
       simp only[List.map_append,List.map_cons,List.map_nil,encStr]at eA
       repeat' (first
 |simp only[go_sem,hD,hY,hZ,gA,b1,eA]
 |(with_reducible refine CU (vS _) ?_)
 |(with_reducible refine aE hQ ?_;exact bg))
       refine fj 1 1 ?_ ?_ (IH (rest,k+1,out++ [a.name]++a.x.names,_) ⟨g2,h2,by simp;omega,by simp<;>omega⟩ (Nat.lt_succ_self _))
       ·(simp only[go_sem,hD,hY,hZ,gA,aJ cf,List.map_append,List.map_cons,List.map_nil,encStr];try exact cv)
       ·(simp only[go_sem,hD,hY,hZ,gA,aJ cf,List.map_append,List.map_cons,List.map_nil,encStr];try exact cv)
      ·simp only [b1,Bool.false_eq_true,if_false]at h2
       have eA:=kr (l:=out) (nx:=a.x.names) rfl (by omega) (g:= .shared)
       repeat' (first
 |simp only[go_sem,hD,hY,hZ,gA,b1,eA]
 |(with_reducible refine CU (vS _) ?_)
 | (with_reducible refine aE hQ ?_;exact bg))
       refine fj 1 1 ?_ ?_ (IH (rest,k+1,out++a.x.names,_) ⟨g2,h2,by simp;omega,by simp<;>omega⟩ (Nat.lt_succ_self _))
       ·(simp only[go_sem,hD,hY,hZ,gA,aJ cf];try exact cv)
       ·(simp only[go_sem,hD,hY,hZ,gA,aJ cf];try exact cv)
   ·have b3:(v.name == [])=true:=by simpa using b2
    repeat' (first
 |simp only[go_sem,hD,hY,hZ,gA,b1,b2,b3,eA]
 |(with_reducible refine CU (hx _) ?_)
 | (with_reducible refine aE hQ ?_;exact bg))
    refine bq.wx 3 1 rfl ?_
    simp only[go_sem,hD,hY,hZ,gA]
    refine fi 1 1 (bq.ind (ι:=List Ar×Nat×List aF×Nat) (fun i=>v.args.drop i.2.1=i.1∧Ar.said i.2.2.1 i.1=R∧i.2.2.1.length+Ar.a8 i.1≤2000000∧i.2.2.2=i.2.2.1.length) (fun i=>i.1.length)
     (fun i=> [(3, .slice (.tok 0) 1 (i.2.2.1.map encStr)),(1, .ptr 0 0),(25, .slice .shared 6 (v.args.map eg)),(26, .int .i64 (v.args.length:Int)),(27, .int .i64 (i.2.1:Int))]) (fun i=>⟨[bk v],[some i.2.2.2]⟩) ?_ (v.args,0,[],0) ⟨rfl,hG,by simp at KE ⊢;omega,by simp⟩)
    rintro⟨rest,k,out,n'⟩ ⟨h1,h2,h3,h4⟩ IH
    dsimp only at h1 h2 h3 h4
    subst h4
    cases rest with
    |nil=>
     have hD:=drop_nil h1
     simp only[Ar.said]at h2
     subst h2
     repeat' (first
 |simp only[go_sem,hD,hY,hZ,gA]
 | (with_reducible refine aE hQ ?_;exact bg))
    | cons a rest=>
     obtain⟨hY,g2,hD,g4⟩:=drop_cons h1
     have cf:k<4611686018427387904:=by omega
     simp only[Ar.said]at h2
     simp only[Ar.a8]at h3
     have vS:=fun s=>mP (x:=a.x) (by have:=Ar.dr (List.mem_of_getElem? hY);omega) (sN a (List.mem_of_getElem? hY)) s
     have hl:=kP a.x
     have hZ:(out.length+1)*17≤bH:=by unfold bH;omega
     rcases Bool.eq_false_or_eq_true a.ref with b1|b1
     ·simp only [b1,if_true]at h2
      have eA:=kr (l:=out++ [a.name]) (nx:=a.x.names) (n:=out.length+1) (by simp) (by simp;omega) (g:= .shared)
      simp only[List.map_append,List.map_cons,List.map_nil,encStr]at eA
      repeat' (first
 |simp only[go_sem,hD,hY,hZ,gA,b1,eA]
 |(with_reducible refine CU (vS _) ?_)
 |(with_reducible refine aE hQ ?_;exact bg))
      refine fj 1 1 ?_ ?_ (IH (rest,k+1,out++ [a.name]++a.x.names,_) ⟨g2,h2,by simp;omega,by simp<;>omega⟩ (Nat.lt_succ_self _))
      ·(simp only[go_sem,hD,hY,hZ,gA,aJ cf,List.map_append,List.map_cons,List.map_nil,encStr];try exact cv)
      ·(simp only[go_sem,hD,hY,hZ,gA,aJ cf,List.map_append,List.map_cons,List.map_nil,encStr];try exact cv)
     ·simp only [b1,Bool.false_eq_true,if_false]at h2
      have eA:=kr (l:=out) (nx:=a.x.names) rfl (by omega) (g:= .shared)
      repeat' (first
 |simp only[go_sem,hD,hY,hZ,gA,b1,eA]
 |(with_reducible refine CU (vS _) ?_)
 | (with_reducible refine aE hQ ?_;exact bg))
      refine fj 1 1 ?_ ?_ (IH (rest,k+1,out++a.x.names,_) ⟨g2,h2,by simp;omega,by simp<;>omega⟩ (Nat.lt_succ_self _))
      ·(simp only[go_sem,hD,hY,hZ,gA,aJ cf];try exact cv)
      ·(simp only[go_sem,hD,hY,hZ,gA,aJ cf];try exact cv)
  ·have eA : ∀ o:List (List D),gZ 1 16 (.slice .full 0 []) (.slice .shared 1 (nx.map encStr)) ⟨o,[]⟩=some (.slice (.tok 0) 1 (nx.map encStr),⟨o,[some nx.length]⟩):=fun o=>by
    have:nx.length*17≤bH:=by unfold bH;omega
    cases nx with
    |nil=>exact absurd rfl Ht
    |cons a r=>simp only[List.length_cons]at this;simp[gZ,this]
   have HB:(v.kind != 10)=false∨(v.kind != 10)=true∧(v.name != [])=false:=by
    cases h1:(v.kind != 10)
    ·exact .inl rfl
    ·rw[h1]at rk;exact .inr ⟨rfl,by simpa using rk⟩
   rcases HB with b1|⟨b1,b2⟩
   ·rcases Bool.eq_false_or_eq_true (v.name != [])with b2 | b2
    all_goals
     have b3:(v.name == []) = !(v.name != []):=by simp only[bne,Bool.not_not]
     rw[b2]at b3
     repeat' (first
 |simp only[go_sem,hD,hY,hZ,gA,b1,b2,b3,Bool.not_true,Bool.not_false,eA]
 |(with_reducible refine CU (hx _) ?_)
 | (with_reducible refine aE hQ ?_;simp only [aR,aS,bC,bD,go_sem,hD,hY,hZ,gA];repeat' (first | exact Ok.out | with_reducible refine iJ ?_ ?_ | (simp;done))))
    all_goals
     refine fi 1 1 (bq.ind (ι:=List Ar×Nat×List aF×Nat) (fun i=>v.args.drop i.2.1=i.1∧Ar.said i.2.2.1 i.1=R∧i.2.2.1.length+Ar.a8 i.1≤2000000∧i.2.2.2=i.2.2.1.length) (fun i=>i.1.length)
      (fun i=> [(3, .slice (.tok 0) 1 (i.2.2.1.map encStr)),(1, .ptr 0 0),(25, .slice .shared 6 (v.args.map eg)),(26, .int .i64 (v.args.length:Int)),(27, .int .i64 (i.2.1:Int))]) (fun i=>⟨[bk v],[some i.2.2.2]⟩) ?_ (v.args,0,nx,_) ⟨rfl,hG,by simp at KE ⊢;omega,by simp⟩)
     rintro⟨rest,k,out,n'⟩ ⟨h1,h2,h3,h4⟩ IH
     dsimp only at h1 h2 h3 h4
     subst h4
     cases rest with
     |nil=>
      have hD:=drop_nil h1
      simp only[Ar.said]at h2
      subst h2
      repeat' (first
 |simp only[go_sem,hD,hY,hZ,gA]
 |(with_reducible refine aE hQ ?_;exact bg))
     | cons a rest=>
      obtain⟨hY,g2,hD,g4⟩:=drop_cons h1
      have cf:k<4611686018427387904:=by omega
      simp only[Ar.said]at h2
      simp only[Ar.a8]at h3
      have vS:=fun s=>mP (x:=a.x) (by have:=Ar.dr (List.mem_of_getElem? hY);omega) (sN a (List.mem_of_getElem? hY)) s
      have hl:=kP a.x
      have hZ:(out.length+1)*17≤bH:=by unfold bH;omega
      rcases Bool.eq_false_or_eq_true a.ref with b1|b1
      ·simp only [b1,if_true]at h2
       have eA:=kr (l:=out++ [a.name]) (nx:=a.x.names) (n:=out.length+1) (by simp) (by simp;omega) (g:= .shared)
       simp only[List.map_append,List.map_cons,List.map_nil,encStr]at eA
       repeat' (first
 |simp only[go_sem,hD,hY,hZ,gA,b1,eA]
 |(with_reducible refine CU (vS _) ?_)
 |(with_reducible refine aE hQ ?_;exact bg))
       refine fj 1 1 ?_ ?_ (IH (rest,k+1,out++ [a.name]++a.x.names,_) ⟨g2,h2,by simp;omega,by simp<;>omega⟩ (Nat.lt_succ_self _))
       ·(simp only[go_sem,hD,hY,hZ,gA,aJ cf,List.map_append,List.map_cons,List.map_nil,encStr];try exact cv)
       ·(simp only[go_sem,hD,hY,hZ,gA,aJ cf,List.map_append,List.map_cons,List.map_nil,encStr];try exact cv)
      ·simp only [b1,Bool.false_eq_true,if_false]at h2
       have eA:=kr (l:=out) (nx:=a.x.names) rfl (by omega) (g:= .shared)
       repeat' (first
 |simp only[go_sem,hD,hY,hZ,gA,b1,eA]
 |(with_reducible refine CU (vS _) ?_)
 | (with_reducible refine aE hQ ?_;exact bg))
       refine fj 1 1 ?_ ?_ (IH (rest,k+1,out++a.x.names,_) ⟨g2,h2,by simp;omega,by simp<;>omega⟩ (Nat.lt_succ_self _))
       ·(simp only[go_sem,hD,hY,hZ,gA,aJ cf];try exact cv)
       ·(simp only[go_sem,hD,hY,hZ,gA,aJ cf];try exact cv)
   ·have b3:(v.name == [])=true:=by simpa using b2
    repeat' (first
 |simp only[go_sem,hD,hY,hZ,gA,b1,b2,b3,eA]
 |(with_reducible refine CU (hx _) ?_)
 | (with_reducible refine aE hQ ?_;exact bg))
    refine fi 1 1 (bq.ind (ι:=List Ar×Nat×List aF×Nat) (fun i=>v.args.drop i.2.1=i.1∧Ar.said i.2.2.1 i.1=R∧i.2.2.1.length+Ar.a8 i.1≤2000000∧i.2.2.2=i.2.2.1.length) (fun i=>i.1.length)
     (fun i=> [(3, .slice (.tok 0) 1 (i.2.2.1.map encStr)),(1, .ptr 0 0),(25, .slice .shared 6 (v.args.map eg)),(26, .int .i64 (v.args.length:Int)),(27, .int .i64 (i.2.1:Int))]) (fun i=>⟨[bk v],[some i.2.2.2]⟩) ?_ (v.args,0,nx,_) ⟨rfl,hG,by simp at KE ⊢;omega,by simp⟩)
    rintro⟨rest,k,out,n'⟩ ⟨h1,h2,h3,h4⟩ IH
    dsimp only at h1 h2 h3 h4
    subst h4
    cases rest with
    |nil=>
     have hD:=drop_nil h1
     simp only[Ar.said]at h2
     subst h2
     repeat' (first
 |simp only[go_sem,hD,hY,hZ,gA]
 | (with_reducible refine aE hQ ?_;exact bg))
    | cons a rest=>
     obtain⟨hY,g2,hD,g4⟩:=drop_cons h1
     have cf:k<4611686018427387904:=by omega
     simp only[Ar.said]at h2
     simp only[Ar.a8]at h3
     have vS:=fun s=>mP (x:=a.x) (by have:=Ar.dr (List.mem_of_getElem? hY);omega) (sN a (List.mem_of_getElem? hY)) s
     have hl:=kP a.x
     have hZ:(out.length+1)*17≤bH:=by unfold bH;omega
     rcases Bool.eq_false_or_eq_true a.ref with b1|b1
     ·simp only [b1,if_true]at h2
      have eA:=kr (l:=out++ [a.name]) (nx:=a.x.names) (n:=out.length+1) (by simp) (by simp;omega) (g:= .shared)
      simp only[List.map_append,List.map_cons,List.map_nil,encStr]at eA
      repeat' (first
 |simp only[go_sem,hD,hY,hZ,gA,b1,eA]
 |(with_reducible refine CU (vS _) ?_)
 |(with_reducible refine aE hQ ?_;exact bg))
      refine fj 1 1 ?_ ?_ (IH (rest,k+1,out++ [a.name]++a.x.names,_) ⟨g2,h2,by simp;omega,by simp<;>omega⟩ (Nat.lt_succ_self _))
      ·(simp only[go_sem,hD,hY,hZ,gA,aJ cf,List.map_append,List.map_cons,List.map_nil,encStr];try exact cv)
      ·(simp only[go_sem,hD,hY,hZ,gA,aJ cf,List.map_append,List.map_cons,List.map_nil,encStr];try exact cv)
     ·simp only [b1,Bool.false_eq_true,if_false]at h2
      have eA:=kr (l:=out) (nx:=a.x.names) rfl (by omega) (g:= .shared)
      repeat' (first
 |simp only[go_sem,hD,hY,hZ,gA,b1,eA]
 |(with_reducible refine CU (vS _) ?_)
 |(with_reducible refine aE hQ ?_;exact bg))
      refine fj 1 1 ?_ ?_ (IH (rest,k+1,out++a.x.names,_) ⟨g2,h2,by simp;omega,by simp<;>omega⟩ (Nat.lt_succ_self _))
      ·(simp only[go_sem,hD,hY,hZ,gA,aJ cf];try exact cv)
      ·(simp only[go_sem,hD,hY,hZ,gA,aJ cf];try exact cv)
theorem kH : ∀ (a b:List It) (n:Nat),It.fD n (a++b)=(It.fD n a && It.fD (n+a.length) b)
 | [],b,n=>by simp[It.fD]
 |i::a,b,n=>by
  simp only[List.cons_append,It.fD,kH a b (n+1),List.length_cons]
  have:n+1+a.length=n+(a.length+1):=by omega
  rw[this]
  split<;>simp
theorem DV (n:Nat) (i:It):It.fD n [i] = true↔i.s.id=((n+1:Nat):Int)∧i.deep≤12∧i.s.one=true:=by
 simp only[It.fD]
 split
 ·rename_i h
  simp only[Bool.or_eq_true,bne_iff_ne,ne_eq,decide_eq_true_eq,Bool.not_eq_true']at h
  refine⟨fun h=>(Bool.false_ne_true h).elim,fun⟨h1,h2,h3⟩=>?_⟩
  rcases h with (h|h)|h
  ·exact(h h1).elim
  ·omega
  ·rw[h]at h3;cases h3
 ·rename_i h
  simp only[Bool.or_eq_true,bne_iff_ne,ne_eq,decide_eq_true_eq,Bool.not_eq_true',not_or,Decidable.not_not,Bool.not_eq_false]at h
  exact⟨fun _=>⟨h.1.1,by omega,h.2⟩,fun _=>rfl⟩
mutual
theorem AH (deep dh:Int) (aW:Bool) : ∀ (s:Sm) (out:List It),∃ new,jW deep dh aW out s=out++(⟨s,deep,dh,aW⟩::new)
 | ⟨id,kind,labels,name,proc,x,has,args,aY,e⟩,out=>by
  simp only[jW]
  split
  ·obtain⟨n1,h1⟩:=qi (deep+1) id false aY (out++ [⟨⟨id,kind,labels,name,proc,x,has,args,aY,e⟩,deep,dh,aW⟩])
   obtain⟨n2,h2⟩:=qi (deep+1) id true e (fH (deep+1) id false (out++ [⟨⟨id,kind,labels,name,proc,x,has,args,aY,e⟩,deep,dh,aW⟩]) aY)
   rw[h2,h1]
   exact⟨n1++n2,by simp⟩
  ·exact⟨[],rfl⟩
theorem qi (deep dh:Int) (aW:Bool) : ∀ (l:List Sm) (out:List It),∃ new,fH deep dh aW out l=out++new
 | [],out=>⟨[],by simp[fH]⟩
 | s::l,out=>by
  simp only[fH]
  split
  ·obtain⟨n1,h1⟩:=AH deep dh aW s out
   obtain⟨n2,h2⟩:=qi deep dh aW l (jW deep dh aW out s)
   rw[h2,h1]
   exact⟨⟨s,deep,dh,aW⟩::n1++n2,by simp⟩
  ·exact⟨[],by simp⟩
end
theorem FK {nest:Int} {n:Nat} {s:Sm} (h:(Sm.po nest n s).1=true) :
 n+1≤200∧s.id=((n+1:Nat):Int)∧s.one=true∧(Sm.gh (nest+1) (n+1) s.aY).1=true∧(Sm.gh (nest+1) (Sm.gh (nest+1) (n+1) s.aY).2 s.aW).1=true∧
 (Sm.po nest n s).2=(Sm.gh (nest+1) (Sm.gh (nest+1) (n+1) s.aY).2 s.aW).2:=by
 rw[EU]at h ⊢
 split at h
 ·cases h
 rename_i h1
 simp only[Bool.or_eq_true,bne_iff_ne,ne_eq,decide_eq_true_eq,Bool.not_eq_true',not_or,Decidable.not_not,Bool.not_eq_false]at h1
 split at h
 ·cases h
 rename_i h2
 have tG:(Sm.gh (nest+1) (n+1) s.aY).1=true:=by simpa using h2
 refine⟨by omega,h1.1.1.2, ?_,tG,h, ?_⟩
 ·rw[DU,h1.1.2,h1.2];rfl
 ·rw[if_neg (by simp only[Bool.or_eq_true,bne_iff_ne,ne_eq,decide_eq_true_eq,Bool.not_eq_true',not_or,Decidable.not_not,Bool.not_eq_false];exact h1),if_neg h2]
theorem sO {nest:Int} {n:Nat} {l:List Sm} (h:(Sm.gh nest n l).1=true):(l = []∨nest≤12)∧Sm.gh nest n l=Sm.e8 nest n l:=by
 unfold Sm.gh gate at *
 split at h
 ·cases h
 ·rename_i hc
  rw[if_neg hc]
  refine⟨?_,rfl⟩
  simp only[Bool.and_eq_true,decide_eq_true_eq,not_and]at hc
  cases l with
  |nil=>exact .inl rfl
  |cons s l=>right;simp only[List.length_cons]at hc;omega
mutual
theorem Qg : ∀ (s:Sm) (nest dh:Int) (aW:Bool) (n:Nat) (out:List It),nest≤12→out.length≤n→n≤200→(Sm.po nest n s).1=true→
 ∃ new,jW nest dh aW out s=out++new∧It.fD n new=true∧n+new.length=(Sm.po nest n s).2∧(Sm.po nest n s).2≤200
 | ⟨id,kind,labels,name,proc,x,has,args,aY,e⟩,nest,dh,aW,n,out,Qh,ho,hn,h=>by
  obtain⟨h1,h2,h3,h4,h5,h6⟩:=FK h
  dsimp only at h2 h4 h5 h6
  rw[h6]
  obtain⟨g1,e1⟩:=sO h4
  rw[e1]at h4 h5 ⊢
  obtain⟨g2,e2⟩:=sO h5
  rw[e2]at h5 ⊢
  have o9:It.fD n [(⟨⟨id,kind,labels,name,proc,x,has,args,aY,e⟩,nest,dh,aW⟩:It)] = true:=(DV _ _).2 ⟨h2,Qh,h3⟩
  obtain⟨n1,k1,k2,k3,k4⟩:=vT aY (nest+1) id false (n+1) (out++ [⟨⟨id,kind,labels,name,proc,x,has,args,aY,e⟩,nest,dh,aW⟩]) g1 (by simp;omega) h1 h4
  obtain⟨n2,j1,j2,j3,j4⟩:=vT e (nest+1) id true _ (out++ [⟨⟨id,kind,labels,name,proc,x,has,args,aY,e⟩,nest,dh,aW⟩]++n1) g2 (by simp;omega) k4 h5
  simp only[jW]
  rw[if_pos (by simpa using Qh),k1,j1]
  refine⟨⟨⟨id,kind,labels,name,proc,x,has,args,aY,e⟩,nest,dh,aW⟩::(n1++n2),by simp, ?_, ?_,j4⟩
  ·have:(⟨⟨id,kind,labels,name,proc,x,has,args,aY,e⟩,nest,dh,aW⟩:It)::(n1++n2) = [⟨⟨id,kind,labels,name,proc,x,has,args,aY,e⟩,nest,dh,aW⟩]++n1++n2:=by simp
   rw[this,kH,kH,o9,Bool.true_and]
   have e3:n+([(⟨⟨id,kind,labels,name,proc,x,has,args,aY,e⟩,nest,dh,aW⟩:It)]++n1).length=(Sm.e8 (nest+1) (n+1) aY).2:=by simp;omega
   rw[e3,j2]
   have e4:n + [(⟨⟨id,kind,labels,name,proc,x,has,args,aY,e⟩,nest,dh,aW⟩:It)].length=n+1:=rfl
   rw[e4,k2];rfl
  ·simp only[List.length_cons,List.length_append];omega
theorem vT : ∀ (l:List Sm) (nest dh:Int) (aW:Bool) (n:Nat) (out:List It),(l = []∨nest≤12)→out.length≤n→n≤200→(Sm.e8 nest n l).1=true→
 ∃ new,fH nest dh aW out l=out++new∧It.fD n new=true∧n+new.length=(Sm.e8 nest n l).2∧(Sm.e8 nest n l).2≤200
 | [],nest,dh,aW,n,out,Qh,ho,hn,h=>⟨[],by simp[fH],rfl,by simp[Sm.e8],by simpa[Sm.e8]using hn⟩
 |s::l,nest,dh,aW,n,out,Qh,ho,hn,h=>by
  have abn:nest≤12:=Qh.resolve_left (by simp)
  simp only[Sm.e8]at h ⊢
  split at h
  ·cases h
  rename_i hc
  rw[if_neg hc]
  obtain⟨n1,k1,k2,k3,k4⟩:=Qg s nest dh aW n out abn ho hn (by simpa using hc)
  obtain⟨n2,j1,j2,j3,j4⟩:=vT l nest dh aW _ (out++n1) (.inr abn) (by simp;omega) k4 h
  simp only[fH]
  rw[if_pos (by simp only[decide_eq_true_eq];omega),k1,j1]
  refine⟨n1++n2,by simp, ?_,by simp;omega,j4⟩
  rw[kH,k2,k3,j2];rfl
end
mutual
theorem Qi : ∀ (s:Sm) (nest dh:Int) (aW:Bool) (n:Nat) (out new:List It),jW nest dh aW out s=out++new→It.fD n new=true→out.length≤n→n+new.length≤200→
 Sm.po nest n s=(true,n+new.length)∧nest≤12
 | ⟨id,kind,labels,name,proc,x,has,args,aY,e⟩,nest,dh,aW,n,out,new,iR,hm,ho,hn=>by
  obtain⟨n0,h0⟩:=AH nest dh aW ⟨id,kind,labels,name,proc,x,has,args,aY,e⟩ out
  have e0:new = ⟨⟨id,kind,labels,name,proc,x,has,args,aY,e⟩,nest,dh,aW⟩::n0:=List.append_cancel_left (iR.symm.trans h0)
  subst e0
  have afx:(⟨⟨id,kind,labels,name,proc,x,has,args,aY,e⟩,nest,dh,aW⟩:It)::n0 = [⟨⟨id,kind,labels,name,proc,x,has,args,aY,e⟩,nest,dh,aW⟩]++n0:=rfl
  rw[afx,kH,Bool.and_eq_true]at hm
  obtain⟨mR,jj⟩:=hm
  obtain⟨c1,c2,c3⟩:=(DV _ _).1 mR
  dsimp only at c1 c2 c3
  simp only[List.length_cons]at hn ⊢
  have TA:fH (nest+1) id true (fH (nest+1) id false (out++ [⟨⟨id,kind,labels,name,proc,x,has,args,aY,e⟩,nest,dh,aW⟩]) aY) e=out++([⟨⟨id,kind,labels,name,proc,x,has,args,aY,e⟩,nest,dh,aW⟩]++n0):=by
   simp only[jW]at iR
   rw[if_pos (by simpa using c2)]at iR
   exact iR
  obtain⟨n1,g1⟩:=qi (nest+1) id false aY (out++ [⟨⟨id,kind,labels,name,proc,x,has,args,aY,e⟩,nest,dh,aW⟩])
  obtain⟨n2,g2⟩:=qi (nest+1) id true e (fH (nest+1) id false (out++ [⟨⟨id,kind,labels,name,proc,x,has,args,aY,e⟩,nest,dh,aW⟩]) aY)
  have en:n0=n1++n2:=by
   rw[g2,g1]at TA
   simp only[List.append_assoc,List.append_cancel_left_eq]at TA
   exact TA.symm
  subst en
  have TB:It.fD (n+1) (n1++n2)=true:=jj
  rw[kH,Bool.and_eq_true]at TB
  simp only[List.length_append]at hn ⊢
  obtain⟨r1,r2⟩:=vU aY (nest+1) id false (n+1) _ n1 g1 TB.1 (by simp;omega) (by omega)
  obtain⟨q1,q2⟩:=vU e (nest+1) id true (n+1+n1.length) _ n2 g2 TB.2 (by rw[g1];simp;omega) (by omega)
  refine⟨?_,c2⟩
  have gg : ∀ {l:List Sm} {m:Nat} {r:Bool×Nat},Sm.e8 (nest+1) m l=r→(l = []∨nest+1≤12)→Sm.gh (nest+1) m l=r:=by
   intro l m r h1 h2
   unfold Sm.gh gate
   rw[if_neg]
   ·exact h1
   ·simp only [Bool.and_eq_true,decide_eq_true_eq,not_and]
    rcases h2 with h2|h2
    ·subst h2;simp
    ·omega
  have t1:=gg r1 r2
  have t2:=gg q1 q2
  rw[EU]
  dsimp only
  rw[t1]
  dsimp only
  rw[t2]
  rw[DU,Bool.and_eq_true]at c3
  rw[if_neg]
  ·simp;omega
  ·simp only [Bool.or_eq_true,bne_iff_ne,ne_eq,decide_eq_true_eq,Bool.not_eq_true',not_or,Decidable.not_not,Bool.not_eq_false]
   exact⟨⟨⟨by omega,c1⟩,c3.1⟩,c3.2⟩
theorem vU : ∀ (l:List Sm) (nest dh:Int) (aW:Bool) (n:Nat) (out new:List It),fH nest dh aW out l=out++new→It.fD n new=true→out.length≤n→n+new.length≤200→
 Sm.e8 nest n l=(true,n+new.length)∧(l = []∨nest≤12)
 | [],nest,dh,aW,n,out,new,iR,hm,ho,hn=>by
  simp only[fH]at iR
  have:new = []:=by simpa using iR
  subst this
  exact⟨by simp[Sm.e8], .inl rfl⟩
 | s::l,nest,dh,aW,n,out,new,iR,hm,ho,hn=>by
  simp only[fH]at iR
  rw[if_pos (by simp only[decide_eq_true_eq];omega)]at iR
  obtain⟨n1,g1⟩:=AH nest dh aW s out
  obtain⟨n2,g2⟩:=qi nest dh aW l (jW nest dh aW out s)
  have en:new=(⟨s,nest,dh,aW⟩::n1)++n2:=by
   rw[g2,g1,List.append_assoc,List.append_cancel_left_eq]at iR
   exact iR.symm
  subst en
  rw[kH,Bool.and_eq_true]at hm
  rw[List.length_append]at hn ⊢
  obtain⟨r1,r2⟩:=Qi s nest dh aW n out _ g1 hm.1 ho (by omega)
  obtain⟨q1,q2⟩:=vU l nest dh aW (n+(⟨s,nest,dh,aW⟩::n1:List It).length) _ n2 g2 hm.2 (by rw[g1,List.length_append];omega) (by omega)
  refine⟨?_, .inr r2⟩
  simp only[Sm.e8,r1,Bool.not_true,Bool.false_eq_true,↓reduceIte,q1]
  congr 1;omega
end
theorem AJ : ∀ (l:List Pc) (out:List It),out.length≤200→(Pc.e8 out.length l=true↔Pc.oY l=true∧∃ new,allM out l=out++new∧(out++new).length≤200∧It.fD out.length new=true)
 | [],out,ho=>by simp[Pc.e8,Pc.oY,allM,It.fD];exact ho
 | f::l,out,ho=>by
  have pw : ∀ (l:List Pc) (out:List It),∃ new,allM out l=out++new:=by
   intro l
   induction l with
   |nil=>intro out;exact⟨[],by simp[allM]⟩
   | cons f l ih=>
    intro out
    simp only[allM]
    split
    ·exact⟨_,rfl⟩
    ·obtain⟨n1,h1⟩:=ih (out++f.flat)
     exact⟨f.flat++n1,by rw[h1,List.append_assoc]⟩
  simp only[Pc.e8,Pc.oY]
  have afy:(decide ((f.params.length:Int) > 8) ||decide ((f.vars.length:Int) > 16) || !(isName f.name) || !(eU f.vars) || !(eU f.fin))=(!(isName f.name) ||decide ((f.params.length:Int) > 8) ||decide ((f.vars.length:Int) > 16) || !(eU f.vars) || !(eU f.fin)):=by
   cases isName f.name<;>simp
  rw[afy]
  split
  ·simp
  split
  ·simp
  have hg:Sm.gh 1 out.length f.body=Sm.e8 1 out.length f.body:=by unfold Sm.gh gate;rw[if_neg (by simp)]
  rw[hg]
  constructor
  ·intro h
   split at h
   ·cases h
   rename_i hc
   obtain⟨n1,k1,k2,k3,k4⟩:=vT f.body 1 0 false out.length [] (.inr (by omega)) (by simp) ho (by simpa using hc)
   have iR:f.flat=n1:=by unfold Pc.flat;rw[k1];rfl
   rw[← k3, ← List.length_append]at h
   obtain⟨hh,n2,j1,j2,j3⟩:=(AJ l (out++n1) (by rw[List.length_append];omega)).1 h
   refine⟨hh,n1++n2, ?_,by simpa using j2, ?_⟩
   ·simp only [allM,iR]
    rw[if_neg (by simp only[List.length_append,decide_eq_true_eq];omega),j1,List.append_assoc]
   ·rw[kH,k2, ← List.length_append,j3];rfl
  ·rintro⟨hh,new,j1,j2,j3⟩
   simp only[allM]at j1
   split at j1
   ·rename_i hc
    have:new=f.flat:=(List.append_cancel_left j1).symm
    subst this
    simp only[decide_eq_true_eq]at hc
    omega
   rename_i hc
   simp only[decide_eq_true_eq]at hc
   obtain⟨n2,g2⟩:=pw l (out++f.flat)
   have en:new=f.flat++n2:=by
    rw[g2,List.append_assoc]at j1
    exact(List.append_cancel_left j1).symm
   subst en
   rw[kH,Bool.and_eq_true]at j3
   rw[List.length_append,List.length_append]at j2
   obtain⟨r1,_⟩:=vU f.body 1 0 false out.length [] f.flat (by unfold Pc.flat;rfl) j3.1 (by simp) (by omega)
   rw[r1]
   simp only[Bool.not_true,Bool.false_eq_true,↓reduceIte]
   rw[← List.length_append]
   exact(AJ l (out++f.flat) (by rw[List.length_append];omega)).2 ⟨hh,n2,g2,by simp;omega,by rw[List.length_append];exact j3.2⟩
theorem Bq (p:Pg):p.EW=p.may:=by
 have h:=AJ p.procs [] (by simp)
 unfold Pg.EW Pg.may
 split
 ·rfl
 ·have e:Pc.e8 0 p.procs=(if !(Pc.oY p.procs)then false else if decide ((p.all.length:Int) > 200)then false else It.fD 0 p.all):=by
   rw[Bool.eq_iff_iff]
   have h':Pc.e8 0 p.procs=true↔_:=h
   rw[h']
   have ha:p.all=allM [] p.procs:=rfl
   constructor
   ·rintro⟨h1,new,h2,h3,h4⟩
    rw[ha,h2,h1]
    simp only[List.nil_append]at h3 ⊢
    simp only[Bool.not_true,Bool.false_eq_true,↓reduceIte]
    rw[if_neg (by simp only[decide_eq_true_eq];omega)]
    exact h4
   ·intro h1
    cases hh:Pc.oY p.procs
    ·rw[hh]at h1;simp at h1
    ·rw [hh]at h1
     simp only[Bool.not_true,Bool.false_eq_true,↓reduceIte]at h1
     split at h1
     ·cases h1
     ·rename_i hc
      simp only[decide_eq_true_eq]at hc
      exact⟨rfl,p.all,by rw[ha];rfl,by simp;omega,h1⟩
  exact e
def alu (x:aF):List aF→Bool
 | []=>false
 |s::l=>if x==s then true else alu x l
def pI (pre:List aF):List aF→Bool
 | []=>false
 |s::l=>if fe pre s then true else pI (pre++ [s]) l
def fv (l:List aF):Bool:=pI [] l
theorem Qj {l:List aF} {k:Nat} {a:aF} (h:l[k]? = some a):l.take (k+1)=l.take k++ [a]:=by rw[List.take_add_one,h];rfl
theorem CO {l:List aF} (hl:l.length<4611686018427387904) (g:Tag) (s:St):aG Tryz.prog nL [.slice g 1 (l.map encStr)] s (.bool (fv l)) s:=by
 refine aG.VV (d':= .slice .shared 1 (l.map encStr)) ?_ (Wk.shared _ _ _)
 refine aG.pure ?_ (by simp[D.bI,D.ok,Tag.ok,eQ]) rfl s
 generalize h:fv l=p
 simp only[fv]at h
 unfold S0
 refine aG.go DG rfl fun B Q hB hQ=>?_
 have⟨hD,hY,hZ,gA⟩:=bS
 repeat' (first
 |simp only[go_sem,hD,hY,hZ,gA]
 |(with_reducible first|refine bm fun hc=>?_|refine bn fun hc=>?_|refine bo (fun hc=>?_) fun hc=>?_)<;>(try simp only[hc,bs,↓reduceIte]at h)<;>try simp only[hc]
 |(with_reducible refine aE hQ ?_;exact fV))
 refine fi 0 0 (bq.ind (ι:=List aF×Nat) (fun i=>l.drop i.2=i.1∧pI (l.take i.2) i.1=p) (fun i=>i.1.length)
  (fun i=> [(0, .slice .shared 1 (l.map encStr)),(5, .slice .shared 1 (l.map encStr)),(6, .int .i64 (l.length:Int)),(7, .int .i64 (i.2:Int))]) (fun i=>⟨[],[]⟩) ?_ (l,0) ⟨rfl,h⟩)
 rintro⟨rest,k⟩ ⟨h1,h⟩ IH
 dsimp only at h1 h
 cases rest with
 |nil=>
  have hD:=drop_nil h1
  simp only[pI]at h
  repeat' (first
 |simp only[go_sem,hD,hY,hZ,gA]
 |(with_reducible first|refine bm fun hc=>?_|refine bn fun hc=>?_|refine bo (fun hc=>?_) fun hc=>?_)<;>(try simp only[hc,bs,↓reduceIte]at h)<;>try simp only[hc]
 |(with_reducible refine aE hQ ?_;exact fV))
 |cons a rest=>
  obtain⟨hY,g2,hD,g4⟩:=drop_cons h1
  have cf:k<4611686018427387904:=by omega
  simp only[pI]at h
  have hc:=ji (l:=l.take k) (by rw[List.length_take];omega) a
  have e1:List.drop 0 (List.take k (l.map encStr))=(l.take k).map encStr:=by simp[List.map_take]
  have c1:((0:Int)≤(k:Int))=True:=by simp
  have c2:((k:Int)≤(l.length:Int))=True:=by simp only[eq_iff_iff,iff_true];omega
  have e2:List.take k (l.map encStr)=(l.take k).map encStr:=by simp[List.map_take]
  repeat' (first
 |simp only[go_sem,hD,hY,hZ,gA,e1,e2,c1,c2,or_true,true_and,and_self,ite_self,Int.toNat_natCast,List.drop_zero]
 |(with_reducible refine CU (hc _ _) ?_)
 |(with_reducible first|refine bm fun hc=>?_|refine bn fun hc=>?_|refine bo (fun hc=>?_) fun hc=>?_)<;>(try simp only[hc,bs,↓reduceIte]at h)<;>try simp only[hc]
 |(with_reducible refine aE hQ ?_;(try cases h);simp only[aR,aS,bC,bD,go_sem,hD,hY,hZ,gA,e1,e2,c1,c2,or_true,true_and,and_self,ite_self,Int.toNat_natCast,List.drop_zero];try exact cb))
  refine fj 0 0 ?_ ?_ (IH (rest,k+1) ⟨g2,by dsimp only;rw[Qj (by assumption)];exact h⟩ (Nat.lt_succ_self _))
  ·(simp only[go_sem,hD,hY,hZ,gA,aJ cf];try exact cv)
  ·(simp only[go_sem,hD,hY,hZ,gA,aJ cf];try exact cv)
def vV (vars globals:List aF) (name:aF):List Pm→Int
 | []=>if fe vars name then 4 else if fe globals name then 1 else 0
 |a::l=>if a.name==name then(if a.ref then 3 else 2)else vV vars globals name l
def Pc.k8 (p:Pg) (f:Pc) (name:aF):Int:=vV f.vars p.globals name f.params
theorem IA {p:Pg} {f:Pc} (hp:f.params.length<1000000000) (hv:f.vars.length<1000000000) (hg:p.globals.length<1000000000) (name:aF) (s:St):aG Tryz.prog uP [.agg (cG p), .agg (cj f), .str name] s (.int .i64 (f.k8 p name)) s:=by
 refine aG.pure ?_ (by simp[D.bI,D.ok,kp,yf]) rfl s
 have rm:=ji (l:=f.vars) (by omega) name
 have tG:=ji (l:=p.globals) (by omega) name
 generalize h:f.k8 p name=q
 simp only[Pc.k8]at h
 unfold S0
 refine aG.go EM rfl fun B Q hB hQ=>?_
 have⟨hD,hY,hZ,gA⟩:=bS
 repeat' (first
 |simp only[go_sem,hD,hY,hZ,gA]
 |(with_reducible refine aE hQ ?_;exact bg))
 refine fi 2 0 (bq.ind (ι:=List Pm×Nat) (fun i=>f.params.drop i.2=i.1∧vV f.vars p.globals name i.1=q) (fun i=>i.1.length)
  (fun i=> [(2, .str name),(3, .ptr 0 0),(4, .ptr 1 0),(10, .slice .shared 2 (f.params.map iu)),(11, .int .i64 (f.params.length:Int)),(12, .int .i64 (i.2:Int))]) (fun i=>⟨[cG p,cj f],[]⟩) ?_ (f.params,0) ⟨rfl,h⟩)
 rintro⟨rest,k⟩ ⟨h1,h⟩ IH
 dsimp only at h1 h
 cases rest with
 | nil=>
  have hD:=drop_nil h1
  simp only[vV]at h
  rcases Bool.eq_false_or_eq_true (fe f.vars name)with b1|b1
  ·simp only [b1,if_true]at h
   subst h
   repeat' (first
 |simp only[go_sem,hD,hY,hZ,gA,b1]
 |(with_reducible refine CU (rm _ _) ?_)
 |(with_reducible refine CU (tG _ _) ?_)
 | (with_reducible refine aE hQ ?_;exact bg))
  ·simp only [b1,Bool.false_eq_true,if_false]at h
   rcases Bool.eq_false_or_eq_true (fe p.globals name)with b2|b2
   ·simp only [b2,if_true]at h
    subst h
    repeat' (first
 |simp only[go_sem,hD,hY,hZ,gA,b1,b2]
 |(with_reducible refine CU (rm _ _) ?_)
 |(with_reducible refine CU (tG _ _) ?_)
 | (with_reducible refine aE hQ ?_;exact bg))
   ·simp only [b2,Bool.false_eq_true,if_false]at h
    subst h
    repeat' (first
 |simp only[go_sem,hD,hY,hZ,gA,b1,b2]
 |(with_reducible refine CU (rm _ _) ?_)
 |(with_reducible refine CU (tG _ _) ?_)
 |(with_reducible refine aE hQ ?_;exact bg))
 | cons a rest=>
  obtain⟨hY,g2,hD,g4⟩:=drop_cons h1
  have cf:k<4611686018427387904:=by omega
  simp only[vV]at h
  rcases Bool.eq_false_or_eq_true (a.name==name)with b1|b1
  ·simp only [b1,if_true]at h
   rcases Bool.eq_false_or_eq_true a.ref with b2|b2
   ·simp only [b2,if_true]at h
    subst h
    repeat' (first
 |simp only[go_sem,hD,hY,hZ,gA,b1,b2]
 | (with_reducible refine aE hQ ?_;exact bg))
   ·simp only [b2,Bool.false_eq_true,if_false]at h
    subst h
    repeat' (first
 |simp only[go_sem,hD,hY,hZ,gA,b1,b2]
 | (with_reducible refine aE hQ ?_;exact bg))
  ·simp only [b1,Bool.false_eq_true,if_false]at h
   repeat' (first
 |simp only[go_sem,hD,hY,hZ,gA,b1]
 | (with_reducible refine aE hQ ?_;exact bg))
   refine fj 2 0 ?_ ?_ (IH (rest,k+1) ⟨g2,h⟩ (Nat.lt_succ_self _))
   ·(simp only[go_sem,hD,hY,hZ,gA,aJ cf];try exact cv)
   ·(simp only[go_sem,hD,hY,hZ,gA,aJ cf];try exact cv)
def iF (name:aF):List Pc→Option Pc
 | []=>none
 |f::l=>if f.name==name then some f else iF name l
def Pg.find (p:Pg) (name:aF):Option Pc:=iF name p.procs
def pc0:Pc:=⟨[],[],[],[],[]⟩
def amf (r:Option Pc):D:= .tuple [.agg (cj (r.getD pc0)), .bool r.isSome]
def Pc.sP (f:Pc):List aF:=f.params.map (·.name)
def Pc.own (f:Pc):List aF:=f.sP++f.vars
theorem VZ {f:Pc} (hp:f.params.length<1000000) (hv:f.vars.length<1000000) (s:St):aG Tryz.prog sf [.agg (cj f)] s (.slice .shared 1 (f.own.map encStr)) s:=by
 refine aG.pure ?_ (by simp[D.bI,D.ok,yf]) (by simp only[D.ok,Tag.ok,eQ];rfl) s
 generalize hR:f.own=R
 simp only[Pc.own]at hR
 unfold S0
 refine aG.go Gw rfl fun B Q hB hQ=>?_
 have⟨hD,hY,hZ,gA⟩:=bS
 repeat' (first
 |simp only[go_sem,hD,hY,hZ,gA]
 |(with_reducible refine aE hQ ?_;exact bg))
 refine bq.wx 3 1 rfl ?_
 simp only[go_sem,hD,hY,hZ,gA]
 refine fi 1 1 (bq.ind (ι:=List Pm×Nat×List aF×Nat) (fun i=>f.params.drop i.2.1=i.1∧i.2.2.1++i.1.map (·.name)=f.sP∧i.2.2.2=i.2.2.1.length) (fun i=>i.1.length)
  (fun i=> [(1, .ptr 0 0),(3, .slice (.tok 0) 1 (i.2.2.1.map encStr)),(7, .slice .shared 2 (f.params.map iu)),(8, .int .i64 (f.params.length:Int)),(9, .int .i64 (i.2.1:Int))]) (fun i=>⟨[cj f],[some i.2.2.2]⟩) ?_ (f.params,0,[],0) ⟨rfl,rfl,rfl⟩)
 rintro⟨rest,k,out,n⟩ ⟨h1,h2,h3⟩ IH
 dsimp only at h1 h2 h3
 subst h3
 have hlo:out.length+rest.length<1000000:=by
  have:=congrArg List.length h2
  simp only[List.length_append,List.length_map,Pc.sP]at this
  omega
 cases rest with
 |nil=>
  have hD:=drop_nil h1
  simp only[List.map_nil,List.append_nil]at h2
  subst hR
  rw[← h2]at hQ
  have eA:=kr (l:=out) (nx:=f.vars) rfl (by omega) (g:= .shared)
  repeat' (first
 |simp only[go_sem,hD,hY,hZ,gA,eA]
 |(with_reducible refine aE hQ ?_;exact bg))
 |cons a rest=>
  obtain⟨hY,g2,hD,g4⟩:=drop_cons h1
  have cf:k<4611686018427387904:=by omega
  have hZ:(out.length+1)*17≤bH:=by unfold bH;omega
  repeat' (first
 |simp only[go_sem,hD,hY,hZ,gA]
 |(with_reducible refine aE hQ ?_;exact bg))
  refine fj 1 1 ?_ ?_ (IH (rest,k+1,out++ [a.name],out.length+1) ⟨g2,by rw[← h2];simp,by simp⟩ (Nat.lt_succ_self _))
  ·(simp only[go_sem,hD,hY,hZ,gA,aJ cf,List.map_append,List.map_cons,List.map_nil,encStr];try exact cv)
  ·(simp only[go_sem,hD,hY,hZ,gA,aJ cf,List.map_append,List.map_cons,List.map_nil,encStr];try exact cv)
def lK:aF:= [109,97,105,110]
def Sm.known (p:Pg) (f:Pc) (procs:List aF) (v:Sm):Bool:=
 !(v.said.any fun n=>f.k8 p n==0) && (v.kind != 4 ||(v.proc != lK && fe procs v.proc))
structure Pc.Small (p:Pg) (f:Pc):Prop where
 par:f.params.length<1000000
 vars:f.vars.length<1000000
 tw:p.globals.length<1000000
def Br (p:Pg) (f:Pc):List aF→Bool
 | []=>true
 |n::l=>if f.k8 p n==0 then false else Br p f l
theorem FL (p:Pg) (f:Pc) : ∀ l,Br p f l = !(l.any fun n=>f.k8 p n==0)
 | []=>rfl
 |n::l=>by
  simp only[Br,List.any_cons,FL p f l]
  cases (f.k8 p n==0)<;>simp
theorem IB (v:Sm) (h:v.mQ):v.said.length<3000000:=by
 have : ∀ (l:List Ar) (out:List aF),(Ar.said out l).length≤out.length+2*Ar.a8 l:=by
  intro l
  induction l with
  |nil=>intro out;simp[Ar.said]
  |cons a l ih=>
   intro out
   simp only[Ar.said,Ar.a8]
   refine Nat.le_trans (ih _) ?_
   have:=kP a.x
   have:1≤a.x.size:=by obtain⟨_,_,_,_⟩:=a.x;simp[Ex.size]
   simp only[List.length_append]
   split<;>simp<;>omega
 have h1:=this v.args (v.sh++v.x.names)
 have h2:=kP v.x
 have h3:=h.2.2
 have h4:v.sh.length≤1:=by unfold Sm.sh;split<;>simp
 simp only[List.length_append]at h1
 unfold Sm.said
 omega
theorem XR {p:Pg} {f:Pc} {procs:List aF} {v:Sm} (hs:f.Small p) (xC:procs.length<1000000) (hv:v.mQ) (s:St):aG Tryz.prog pR [.agg (cG p), .agg (cj f), .slice .shared 1 (procs.map encStr), .agg (bk v)] s (.bool (v.known p f procs)) s:=by
 refine aG.pure ?_ (by simp[D.bI,D.ok,kp,yf,qD,Tag.ok,eQ]) rfl s
 have hn:=fun s=>AE hv s
 have hk:=fun n s=>IA (p:=p) (f:=f) (by have:=hs.par;omega) (by have:=hs.vars;omega) (by have:=hs.tw;omega) n s
 have abo:=ji (l:=procs) (by omega) v.proc
 have hl:=IB v hv
 generalize h:v.known p f procs=q
 simp only[Sm.known, ← FL]at h
 unfold S0
 refine aG.go DH rfl fun B Q hB hQ=>?_
 have⟨hD,hY,hZ,gA⟩:=bS
 repeat' (first
 |simp only[go_sem,hD,hY,hZ,gA]
 |(with_reducible refine CU (hn _) ?_)
 |(with_reducible refine aE hQ ?_;exact bg))
 refine fi 3 0 (bq.ind (ι:=List aF×Nat) (fun i=>v.said.drop i.2=i.1∧(Br p f i.1 && (v.kind != 4 ||(v.proc != lK && fe procs v.proc)))=q) (fun i=>i.1.length)
  (fun i=> [(2, .slice .shared 1 (procs.map encStr)),(4, .ptr 0 0),(5, .ptr 1 0),(7, .ptr 2 0),(12, .slice .shared 1 (v.said.map encStr)),(13, .int .i64 (v.said.length:Int)),(14, .int .i64 (i.2:Int))]) (fun i=>⟨[cG p,cj f,bk v],[]⟩) ?_ (v.said,0) ⟨rfl,h⟩)
 rintro⟨rest,k⟩ ⟨h1,h⟩ IH
 dsimp only at h1 h
 cases rest with
 | nil=>
  have hD:=drop_nil h1
  simp only[Br,Bool.true_and]at h
  rcases Bool.eq_false_or_eq_true (v.kind != 4)with b1|b1
  ·simp only [b1,Bool.true_or]at h
   subst h
   repeat' (first
 |simp only[go_sem,hD,hY,hZ,gA,b1]
 | (with_reducible refine aE hQ ?_;exact bg))
  ·simp only [b1,Bool.false_or]at h
   rcases Bool.eq_false_or_eq_true (v.proc != lK)with b2|b2
   ·simp only [b2,Bool.true_and]at h
    unfold lK at b2
    have b3:(v.proc == [109,97,105,110]) = !(v.proc != [109,97,105,110]):=by simp only[bne,Bool.not_not]
    rw[b2]at b3
    simp only[Bool.not_true,Bool.not_false]at b3
    subst h
    repeat' (first
 |simp only[go_sem,hD,hY,hZ,gA,b1,b2,b3]
 |(with_reducible refine CU (abo _ _) ?_)
 | (with_reducible refine aE hQ ?_;exact bg))
   ·simp only [b2,Bool.false_and]at h
    unfold lK at b2
    have b3:(v.proc == [109,97,105,110]) = !(v.proc != [109,97,105,110]):=by simp only[bne,Bool.not_not]
    rw[b2]at b3
    simp only[Bool.not_true,Bool.not_false]at b3
    subst h
    repeat' (first
 |simp only[go_sem,hD,hY,hZ,gA,b1,b2,b3]
 |(with_reducible refine CU (abo _ _) ?_)
 |(with_reducible refine aE hQ ?_;exact bg))
 | cons a rest=>
  obtain⟨hY,g2,hD,g4⟩:=drop_cons h1
  have cf:k<4611686018427387904:=by omega
  simp only[Br]at h
  rcases Bool.eq_false_or_eq_true (f.k8 p a==0)with b1|b1
  ·simp only [b1,if_true,Bool.false_and]at h
   subst h
   repeat' (first
 |simp only[go_sem,hD,hY,hZ,gA,b1]
 |(with_reducible refine CU (hk _ _) ?_)
 | (with_reducible refine aE hQ ?_;exact bg))
  ·simp only [b1,Bool.false_eq_true,if_false]at h
   repeat' (first
 |simp only[go_sem,hD,hY,hZ,gA,b1]
 |(with_reducible refine CU (hk _ _) ?_)
 | (with_reducible refine aE hQ ?_;exact bg))
   refine fj 3 0 ?_ ?_ (IH (rest,k+1) ⟨g2,h⟩ (Nat.lt_succ_self _))
   ·(simp only[go_sem,hD,hY,hZ,gA,aJ cf];try exact cv)
   ·(simp only[go_sem,hD,hY,hZ,gA,aJ cf];try exact cv)
theorem KF : ∀ (l pre:List aF),pI pre l=true↔(∃ x∈l,x∈pre)∨¬ l.Nodup
 | [],pre=>by simp[pI]
 | s::l,pre=>by
  simp only[pI]
  by_cases h:fe pre s=true
  ·simp only [h,if_true,true_iff]
   exact .inl ⟨s,List.mem_cons_self,(iO _ _).1 h⟩
  ·have h':s∉pre:=fun m=>h ((iO _ _).2 m)
   simp only[h,if_false,Bool.false_eq_true]
   rw[KF l (pre++ [s])]
   simp only[List.mem_append,List.mem_singleton,List.mem_cons,List.nodup_cons,exists_eq_or_imp]
   constructor
   ·rintro(⟨x,m,h1 | h1⟩ | h1)
    ·exact .inl (.inr ⟨x,m,h1⟩)
    ·have h1:x=s:=by simpa using h1
     subst h1;exact .inr fun h=>h.1 m
    ·exact .inr fun h=>h1 h.2
   ·rintro((h1 | ⟨x,m,h1⟩) | h1)
    ·exact absurd h1 h'
    ·exact .inl ⟨x,m, .inl h1⟩
    ·by_cases m:s∈l
     ·exact .inl ⟨s,m, .inr (.inl rfl)⟩
     ·exact .inr fun h=>h1 ⟨m,h⟩
theorem FM (l:List aF):fv l=true↔¬ l.Nodup:=by
 unfold fv;rw[KF];simp
theorem Qk (a b:List aF):fv (a++b)=(fv a ||(fv b ||b.any (fe a))):=by
 have h:fv (a++b)=true↔(fv a ||(fv b ||b.any (fe a)))=true:=by
  rw[FM,List.nodup_append]
  simp only[Bool.or_eq_true,FM,List.any_eq_true,iO]
  constructor
  ·intro h
   by_cases ha:a.Nodup
   ·by_cases hb:b.Nodup
    ·refine .inr (.inr (Classical.byContradiction fun hn=>h ⟨ha,hb,fun x hx y hy e=>hn ⟨y,hy,e ▸ hx⟩⟩))
    ·exact .inr (.inl hb)
   ·exact .inl ha
  ·rintro(h | h | ⟨x,h1,h2⟩) ⟨h3,h4,h5⟩
   ·exact h h3
   ·exact h h4
   ·exact h5 x h2 x h1 rfl
 cases h1:fv (a++b)<;>cases h2:(fv a ||(fv b ||b.any (fe a)))<;>simp_all
theorem IC (name:aF) : ∀ (l:List Pc) (k:Nat),(iF name l=none∧iN name (k:Int) (l.map (·.name)) = -1)∨∃ f j,iF name l=some f∧l[j]? = some f∧iN name (k:Int) (l.map (·.name))=((k+j:Nat):Int)
 | [],k=> .inl ⟨rfl,rfl⟩
 | f::l,k=>by
  by_cases h:f.name=name
  ·subst h
   refine .inr ⟨f,0,by simp[iF],rfl,by simp[iN]⟩
  ·have h1:(f.name==name)=false:=by simp [h]
   have h2:(name==f.name)=false:=by simp[Ne.symm h]
   simp only[iF,h1,Bool.false_eq_true,if_false,List.map_cons,iN,h2]
   rcases IC name l (k+1)with ⟨g1,g2⟩|⟨g,j,g1,g2,g3⟩
   ·exact .inl ⟨g1,by rw[← g2];rfl⟩
   ·refine .inr ⟨g,j+1,g1,by simpa using g2, ?_⟩
    rw[show((k:Int)+1)=((k+1:Nat):Int)from rfl,g3]
    congr 1;omega
theorem rN {name:aF} {f:Pc} : ∀ {l:List Pc},iF name l=some f→f∈l∧f.name=name
 |g::l,h=>by
  simp only[iF]at h
  split at h
  ·rename_i e;cases h;exact⟨List.mem_cons_self,by simpa using e⟩
  ·have:=rN h;exact⟨List.mem_cons_of_mem _ this.1,this.2⟩
mutual
theorem Ql (deep dh:Int) (aW:Bool) (out:List It) : ∀ s:Sm,∃ e,jW deep dh aW out s=out++e
 | ⟨id,kind,labels,name,proc,x,has,args,aY,e⟩=>by
  simp only[jW]
  split
  ·obtain⟨e1,h1⟩:=sQ (deep+1) id false (out++ [⟨⟨id,kind,labels,name,proc,x,has,args,aY,e⟩,deep,dh,aW⟩]) aY
   obtain⟨e2,h2⟩:=sQ (deep+1) id true (fH (deep+1) id false (out++ [⟨⟨id,kind,labels,name,proc,x,has,args,aY,e⟩,deep,dh,aW⟩]) aY) e
   rw[h2,h1]
   exact⟨_,by rw[List.append_assoc,List.append_assoc]⟩
  ·exact⟨_,rfl⟩
theorem sQ (deep dh:Int) (aW:Bool) (out:List It) : ∀ l:List Sm,∃ e,fH deep dh aW out l=out++e
 | []=>⟨[],by simp[fH]⟩
 | s::l=>by
  simp only[fH]
  split
  ·obtain⟨e1,h1⟩:=Ql deep dh aW out s
   obtain⟨e2,h2⟩:=sQ deep dh aW (jW deep dh aW out s) l
   rw[h2,h1]
   exact⟨_,by rw[List.append_assoc]⟩
  ·exact⟨[],by simp⟩
end
mutual
theorem Qm (deep dh:Int) (aW:Bool) (out:List It) : ∀ s:Sm,(jW deep dh aW out s).length≤200→(∀ i∈jW deep dh aW out s,i.deep≤12)→(jW deep dh aW out s).map It.s=out.map It.s++s.pre
 | ⟨id,kind,labels,name,proc,x,has,args,aY,e⟩,h1,h2=>by
  simp only[jW,Sm.pre]at h1 h2 ⊢
  by_cases hd:deep≤12
  ·simp only [hd,decide_true,if_true]at h1 h2 ⊢
   obtain⟨e2,g2⟩:=sQ (deep+1) id true (fH (deep+1) id false (out++ [⟨⟨id,kind,labels,name,proc,x,has,args,aY,e⟩,deep,dh,aW⟩]) aY) e
   have k1:(fH (deep+1) id false (out++ [⟨⟨id,kind,labels,name,proc,x,has,args,aY,e⟩,deep,dh,aW⟩]) aY).length≤200:=by
    rw[g2,List.length_append]at h1;omega
   have k2 : ∀ i∈fH (deep+1) id false (out++ [⟨⟨id,kind,labels,name,proc,x,has,args,aY,e⟩,deep,dh,aW⟩]) aY,i.deep≤12:=fun i m=>h2 i (by rw[g2];exact List.mem_append_left _ m)
   rw[vW (deep+1) id true _ e h1 h2,vW (deep+1) id false _ aY k1 k2]
   simp
  ·simp only [hd,decide_false,Bool.false_eq_true,if_false]at h1 h2
   exact absurd (h2 _ (List.mem_append_right _ (List.mem_singleton.2 rfl))) (by simpa using hd)
theorem vW (deep dh:Int) (aW:Bool) (out:List It) : ∀ l:List Sm,(fH deep dh aW out l).length≤200→(∀ i∈fH deep dh aW out l,i.deep≤12)→(fH deep dh aW out l).map It.s=out.map It.s++Sm.cT l
 | [],h1,h2=>by simp[fH,Sm.cT]
 | s::l,h1,h2=>by
  simp only[fH,Sm.cT]at h1 h2 ⊢
  by_cases hc:(out.length:Int)≤200
  ·simp only [hc,decide_true,if_true]at h1 h2 ⊢
   obtain⟨e2,g2⟩:=sQ deep dh aW (jW deep dh aW out s) l
   have k1:(jW deep dh aW out s).length≤200:=by rw[g2,List.length_append]at h1;omega
   have k2 : ∀ i∈jW deep dh aW out s,i.deep≤12:=fun i m=>h2 i (by rw[g2];exact List.mem_append_left _ m)
   rw[vW deep dh aW _ l h1 h2,Qm deep dh aW out s k1 k2]
   simp
  ·simp only [hc,decide_false,Bool.false_eq_true,if_false]at h1
   omega
end
theorem ID : ∀ (l:List Pc) (out:List It),(allM out l).length≤200→(∀ i∈allM out l,i.deep≤12)→(∀ f∈l,f.flat.map It.s=Sm.cT f.body)∧(allM out l).map It.s=out.map It.s++(l.map fun f=>Sm.cT f.body).flatten
 | [],out,h1,h2=>⟨fun f m=>(by cases m),by simp[allM]⟩
 | f::l,out,h1,h2=>by
  simp only[allM]at h1 h2 ⊢
  by_cases hc:(((out++f.flat).length:Nat):Int) > 200
  ·simp only[hc,decide_true,if_true]at h1;omega
  ·simp only [hc,decide_false,Bool.false_eq_true,if_false]at h1 h2 ⊢
   obtain⟨k1,k2⟩:=ID l (out++f.flat) h1 h2
   have pw : ∀ (l:List Pc) (out:List It),∃ e,allM out l=out++e:=by
    intro l
    induction l with
    |nil=>intro out;exact⟨[],by simp[allM]⟩
    |cons g l ih=>
     intro out
     simp only[allM]
     split
     ·exact⟨_,rfl⟩
     ·obtain⟨e,h⟩:=ih (out++g.flat);exact⟨g.flat++e,by rw[h];simp⟩
   obtain⟨e,he⟩:=pw l (out++f.flat)
   have k3:f.flat.map It.s=Sm.cT f.body:=by
    have:=vW 1 0 false [] f.body (by
     have:f.flat.length≤200:=by simp only[List.length_append]at hc;omega
     exact this) (fun i m=>h2 i (by rw[he];exact List.mem_append_left _ (List.mem_append_right _ m)))
    simpa[Pc.flat]using this
   refine⟨fun g m=>?_, ?_⟩
   ·rcases List.mem_cons.1 m with rfl | m
    ·exact k3
    ·exact k1 g m
   ·rw[k2];simp[k3]
theorem AL : ∀ (l:List It) (n:Nat),It.fD n l=true→(∀ i∈l,i.deep≤12)∧∀ (j:Nat) (i:It),l[j]? = some i→i.s.id=((n+j+1:Nat):Int)
 | [],n,h=>⟨fun i m=>(by cases m),fun j i h=>by simp at h⟩
 | a::l,n,h=>by
  simp only[It.fD]at h
  split at h
  ·cases h
  ·rename_i c
   simp only[Bool.or_eq_true,not_or,bne_iff_ne,ne_eq,Decidable.not_not,decide_eq_true_eq,Int.not_lt,gt_iff_lt]at c
   obtain⟨k1,k2⟩:=AL l (n+1) h
   refine⟨fun i m=>?_,fun j i hj=>?_⟩
   ·rcases List.mem_cons.1 m with rfl | m
    ·exact c.1.2
    ·exact k1 i m
   ·cases j with
    |zero=>simp at hj;subst hj;rw[c.1.1]
    |succ j=>simp at hj;rw[k2 j i hj];congr 1;omega
theorem EX {p:Pg} (h:p.may=true):p.all.length≤200∧It.fD 0 p.all=true:=by
 unfold Pg.may at h
 split at h
 ·cases h
 ·split at h
  ·cases h
  ·split at h
   ·cases h
   ·rename_i c
    exact⟨by simp only[decide_eq_true_eq,Int.not_lt,gt_iff_lt]at c;omega,h⟩
theorem IE {p:Pg} (h:p.may=true):(∀ f∈p.procs,f.flat.map It.s=Sm.cT f.body)∧p.all.map It.s=p.pre:=by
 obtain⟨h1,h2⟩:=EX h
 have:=ID p.procs [] h1 (AL _ 0 h2).1
 simpa[Pg.pre,Pg.all]using this
theorem IF {p:Pg} (h:p.may=true) {i:Nat} {v:Sm} (hv:p.pre[i]? = some v):v.id=((i+1:Nat):Int):=by
 rw[← (IE h).2,List.getElem?_map,Option.map_eq_some_iff]at hv
 obtain⟨it,h1,rfl⟩:=hv
 have:=(AL _ 0 (EX h).2).2 i it h1
 rw[this];congr 1;omega
end Go.Abs
