/-
  What is proved here: part 2 of the road to the claim (Codes4, Have4, Codes5, Have5, Have3, Frz, MirLex, MirMay, Prs, Lex1, Lex2, RefLex1, Prs2, Ref1, Ref2, Ref3, RefMay1, RefMay2, Flat1, Flat2, Flat3, Sl1, MirFlat2, Sl2, TMay1, TMay2, RefMay3, RefMay4, TMay3, TMay4, MayFine, MayEq, Nm1, Nm2, Nm3).
  No conditions.
-/
import Derived.Test.YtiopamakecmpkaaGreatCkO1
import Derived.Test.YtiopamakecmpkaaGreatProg
import Derived.KernelRfl

set_option linter.unusedSimpArgs false
set_option linter.unusedVariables false

/-! Codes4 -/

namespace Go.Abs
abbrev afA:AC:= .block 1 (.seq (.run [.m 10 bY, .m 5 bL]) (.seq (.run [.m 11 a8, .m 12 aQ, .m 13 bf, .o 14 (.cu b7 bT 5), .o 15 (.load bK true 5),(.gY (some 16) none 11 [cq])]) (.cond b8 (.seq (.run [.m 17 bf, .m 4 cJ]) .ret) .skip)))
abbrev afB:AC:= .seq (.cond cv .skip (.exit 0)) (.seq afA (.run [.o 18 (.bin .add bY (.k (.int .i64 1))), .m 8 cD]))
abbrev afC:AC:= .seq (.run [.m 6 aQ, .o 7 (.len bG), .o 8 (.mv (.k (.int .i64 0)))]) (.block 0 (.loop (.seq (.run [.o 9 (.bin .lss bY bF)]) afB)))
abbrev afD:AC:= .seq (.run [(.o 4 (.mv (.k (.int .i64 (-1)))))]) .ret
abbrev afE:AC:= .seq (.run [.o 4 (.mv (.k (.int .i64 0)))]) (.seq afC afD)
abbrev afF:AC:= .seq (.run [.o 2 (.box aQ), .o 3 (.mv (.k (.bool false)))]) (.seq (.run [.o 4 (.av dr 0), .o 5 (.load cQ false 1), .o 6 (.load a8 false 1), .o 7 (.bin .eql bf bG), .m 3 bF]) .ret)
abbrev afG:AC:= .seq (.run [.m 16 aQ, .c 17 eg [b8,(.k (.int .i64 3))]]) (.seq (.run [.o 4 (.mv (.k (.str [])))]) .ret)
abbrev afH:AC:= .seq (.run [.m 20 aQ, .c 21 eg [dh,(.k (.int .i64 4))]]) (.seq (.run [.o 4 (.mv (.k (.str [])))]) .ret)
abbrev afI:AC:= .seq (.seq (.run [.m 18 a8, .o 19 (.un .not cD)]) (.cond cZ afH .skip)) (.seq (.run [.m 22 aQ, .o 23 (.c6 dv), .o 24 (.av dB 1), .o 25 (.load de false 1), .o 26 (.bin .add c7 (.k (.int .i64 1))), .o 27 (.c6 dv), .o 28 (.av dR 1), .op none none (.store eJ eh 1)]) (.seq (.run [.o 29 (.av bf 1), .o 30 (.load eK false 1), .m 4 fi]) .ret))
abbrev afJ:AC:= .seq (.seq (.run [.m 8 aQ, .c 9 cm [bY], .o 10 (.un .not cv), .m 11 bL, .g 12 11 false (.av bf 0), .g 13 11 false (.load b7 false 1), .g 14 11 false (.bin .neq bT (.k (.int .i64 1))), .o 15 (.pick bS (.k (.bool true)) bK)]) (.cond cq afG .skip)) afI
abbrev afK:AC:= .seq (.run [.o 4 (.mv (.k (.str [])))]) (.seq (.run [.m 6 aQ, .c 7 dd [bG], .o 5 (.alloc [(.int .i64 0),(.str []),(.int .i64 0),(.int .i64 0)]), .op none none (.store bf bF 4)]) afJ)
abbrev afL:AC:= .seq (.run [.m 4 aQ, .m 5 a8, .c 6 dc [cQ,bf], .o 7 (.un .not bG)]) (.cond bF (.run [.m 8 aQ, .c 9 eg [bY,(.k (.int .i64 3))]]) .skip)
abbrev afM:AC:= .cond de (.seq (.run [.m 25 aQ, .o 26 (.c6 c7), .o 27 (.av eh 1), .o 28 (.load dR false 1), .o 29 (.bin .add eJ (.k (.int .i64 1))), .o 30 (.c6 c7), .o 31 (.av fi 1), .op none none (.store fb eK 1)]) (.seq (.run [.m 32 bY, .m 33 cv, .m 6 fj, .m 7 ff]) .ret)) .skip
abbrev afN:AC:= .seq (.seq (.run [.m 15 aQ,(.c 16 fc [cq,(.k (.str [125]))]), .m 17 b8, .g 18 17 true (.mv dr), .g 19 17 true (.mv cD), .g 20 19 false (.mv cv), .g 21 19 false (.len dh), .g 22 19 false (.bin .eql dt (.k (.int .i64 0))), .g 23 17 true (.pick cZ (.k (.bool true)) dv), .o 24 (.pick cJ dB (.k (.bool false)))]) afM) (.seq (.run [.m 34 aQ, .m 35 a8, .c 36 mH [fx,fu], .o 10 (.alloc [(.int .i64 0),(.int .i64 0),(.slice .full 0 []),(.str []),(.str []),(.int .i64 0),(.int .i64 0),(.str []),(.slice .full 0 []),(.bool false),(.slice .full 0 []),(.slice .full 0 []),(.slice .full 0 [])]), .op none none (.store bL fz 13)]) (.seq (.run [.m 37 cv, .o 38 (.av bL 2), .op none none (.store gx fX 1)]) (.run [.m 39 bY, .o 40 (.load bL true 13), .o 41 (.cP [(.int .i64 0),(.int .i64 0),(.slice .full 0 []),(.str []),(.str []),(.int .i64 0),(.int .i64 0),(.str []),(.slice .full 0 []),(.bool false),(.slice .full 0 []),(.slice .full 0 []),(.slice .full 0 [])] 13 1 [(0,gT)]), .o 42 (.app 13 208 gm gK), .m 8 iA])))
abbrev afO:AC:= .block 0 (.loop (.seq (.seq (.run [.m 11 aQ, .c 12 cm [bS]]) (.cond b7 .skip (.exit 0))) (.block 1 (.seq (.run [.m 13 aQ, .c 14 lC [bT], .m 9 bK]) afN))))
abbrev afP:AC:= .seq afO (.seq (.run [.o 6 (.mv (.k (.slice .full 0 []))), .o 7 (.mv (.k (.slice .full 0 [])))]) .ret)
abbrev afQ:AC:= .seq (.run [.o 6 (.mv (.k (.slice .full 0 []))), .o 7 (.mv (.k (.slice .full 0 [])))]) (.seq (.run [.o 8 (.mv (.k (.slice .full 0 [])))]) afP)
abbrev afR:AC:= .par [.o 15 (.av a8 3), .o 16 (.load cq false 1), .o 17 (.load bf true 4), .c 18 kW [cJ], .o 19 (.cP [(.int .i64 0),(.int .i64 0),(.str []),(.slice .full 0 [])] 4 1 [(0,cD)]), .o 20 (.app 4 56 b8 cZ), .o 21 (.av a8 3), .op none none (.store dt dh 1)] [(2,0),(3,0),(0,0),(1,1),(4,0),(5,0),(6,0),(7,0)]
abbrev afS:AC:= .seq (.block 1 (.seq (.run [.o 13 (.cu cv bS 4), .o 14 (.load bT true 4), .o 5 (.alloc [(.int .i64 0),(.int .i64 0),(.str []),(.slice .full 0 [])]), .op none none (.store bf bK 4)]) afR)) (.run [.o 22 (.bin .add bS (.k (.int .i64 1))), .m 11 dv])
abbrev afT:AC:= .block 0 (.loop (.seq (.run [.o 12 (.bin .lss bS bL)]) (.seq (.cond b7 .skip (.exit 0)) afS)))
abbrev afU:AC:= .seq (.seq (.run [.m 9 bE, .o 10 (.len cv), .o 11 (.mv (.k (.int .i64 0)))]) afT) (.seq (.run [.o 23 (.load a8 true 4), .op none none (.store dr dB 4)]) .ret)
abbrev afV:AC:= .seq (.run [.o 6 (.av a8 3), .o 7 (.load bG false 1), .m 3 bF]) (.seq (.run [.o 8 (.av a8 3), .op none none (.store bY (.k (.slice .full 0 [])) 1)]) afU)
abbrev afW:AC:= .seq (.run [.o 1 (.box aQ), .o 2 (.alloc [(.int .i64 0),(.int .i64 0),(.str []),(.slice .full 0 [])])]) afV
abbrev afX:AC:= .seq (.run [.o 1 (.box aQ), .o 2 (.mv (.k (.bool false)))]) (.seq (.run [.o 3 (.load a8 true 4), .c 4 oe [bE,(.k (.int .i64 20))], .o 5 (.bin .leq cQ (.k (.int .i64 20))), .m 6 bf, .g 7 6 true (.load a8 true 4), .d 8 6 true og [bF], .o 9 (.pick bG bY (.k (.bool false))), .m 2 cv]) .ret)
abbrev afY:AC:= .seq (.run [.o 2 (.mv (.k (.bool false)))]) (.seq (.run [.m 3 aQ, .o 4 (.bin .geq bE (.k (.int .u8 97))), .m 5 cQ, .g 6 5 true (.mv aQ), .g 7 5 true (.bin .leq bG (.k (.int .u8 122))), .o 8 (.pick bf bF (.k (.bool false))), .m 2 bY]) .ret)
abbrev afZ:AC:= .seq (.run [.o 2 (.mv (.k (.bool false)))]) (.seq (.run [.m 3 aQ, .o 4 (.bin .geq bE (.k (.int .u8 48))), .m 5 cQ, .g 6 5 true (.mv aQ), .g 7 5 true (.bin .leq bG (.k (.int .u8 57))), .o 8 (.pick bf bF (.k (.bool false))), .m 2 bY]) .ret)
abbrev af0:AC:= .cond bT (.seq (.run [.o 2 (.mv (.k (.bool true)))]) .ret) .skip
abbrev af1:AC:= .seq (.block 1 (.seq (.run [.o 9 (.cu bf bF 1), .o 10 (.load cv false 1), .m 4 bL]) (.seq (.run [.m 11 cQ, .m 12 aQ, .o 13 (.bin .eql bS b7)]) af0))) (.run [.o 14 (.bin .add bF (.k (.int .i64 1))), .m 7 bK])
abbrev af2:AC:= .block 0 (.loop (.seq (.run [.o 8 (.bin .lss bF bG)]) (.seq (.cond bY .skip (.exit 0)) af1)))
abbrev af3:AC:= .seq (.seq (.run [.c 5 sI [], .o 6 (.len bf), .o 7 (.mv (.k (.int .i64 0)))]) af2) (.seq (.run [.o 2 (.mv (.k (.bool false)))]) .ret)
abbrev af4:AC:= .seq (.run [.o 2 (.mv (.k (.bool false)))]) af3
abbrev af5:AC:= .seq (.run [.o 1 (.box aQ), .o 2 (.mv (.k (.bool false)))]) (.seq (.run [.o 3 (.av a8 0), .o 4 (.load bE false 1), .o 5 (.bin .eql cQ (.k (.int .i64 0))), .m 6 bf, .g 7 6 true (.av a8 1), .g 8 6 true (.load bF false 1), .g 9 6 true (.bin .eql bY (.k (.int .i64 0))), .o 10 (.pick bG cv (.k (.bool false))), .m 11 bL, .g 12 11 true (.av a8 2), .g 13 11 true (.load b7 false 1), .g 14 11 true (.bin .eql bT (.k (.str []))), .o 15 (.pick bS bK (.k (.bool false))), .m 16 cq, .g 17 16 true (.av a8 3), .g 18 16 true (.load cJ false 1), .g 19 16 true (.len cD), .g 20 16 true (.bin .eql cZ (.k (.int .i64 0))), .o 21 (.pick b8 dh (.k (.bool false))), .m 2 dt]) .ret)
abbrev af6:AC:= .cond cQ (.seq (.run [.o 5 (.av a8 1), .o 6 (.load bf false 1), .c 7 jM [bG], .m 8 bF, .g 9 8 true (.av a8 2), .g 10 8 true (.load cv true 4), .d 11 8 true qu [bL], .o 12 (.pick bY bS (.k (.bool false))), .m 2 b7]) .ret) .skip
abbrev af7:AC:= .seq (.seq (.run [.o 3 (.av a8 0), .o 4 (.load bE false 1)]) af6) (.seq (.run [.o 13 (.av a8 1), .o 14 (.load bT false 1), .o 15 (.bin .eql bK (.k (.str []))), .m 16 cq, .g 17 16 true (.av a8 2), .g 18 16 true (.load cJ true 4), .d 19 16 true nJ [cD], .o 20 (.pick b8 cZ (.k (.bool false))), .m 2 dh]) .ret)
abbrev af8:AC:= .seq (.run [.o 1 (.box aQ), .o 2 (.mv (.k (.bool false)))]) af7
abbrev af9:AC:= .seq (.run [.o 1 (.box aQ), .o 2 (.mv (.k (.bool false)))]) (.seq (.run [.o 3 (.load a8 true 4), .c 4 oh [bE,(.k (.int .i64 20))], .m 2 cQ]) .ret)
abbrev aga:AC:= .seq (.run [.o 1 (.box aQ), .o 2 (.mv (.k (.bool false)))]) (.seq (.run [.o 3 (.av a8 0), .o 4 (.load bE false 1), .o 5 (.bin .eql cQ (.k (.int .i64 0))), .m 6 bf, .g 7 6 true (.av a8 1), .g 8 6 true (.load bF false 1), .g 9 6 true (.bin .eql bY (.k (.int .i64 0))), .o 10 (.pick bG cv (.k (.bool false))), .m 11 bL, .g 12 11 true (.av a8 2), .g 13 11 true (.load b7 false 1), .g 14 11 true (.bin .eql bT (.k (.str []))), .o 15 (.pick bS bK (.k (.bool false))), .m 16 cq, .g 17 16 true (.av a8 3), .g 18 16 true (.load cJ false 1), .g 19 16 true (.len cD), .g 20 16 true (.bin .eql cZ (.k (.int .i64 0))), .o 21 (.pick b8 dh (.k (.bool false))), .m 2 dt]) .ret)
abbrev agb:AC:= .seq (.block 1 (.seq (.run [.o 27 (.cu dB c7 4), .o 28 (.load dR true 4), .o 6 (.alloc [(.int .i64 0),(.int .i64 0),(.str []),(.slice .full 0 [])]), .op none none (.store bG eJ 4)]) (.run [.o 29 (.load bG true 4), .m 30 a8, .c 31 gN [eK,fi], .m 1 fb]))) (.run [.o 32 (.bin .add c7 (.k (.int .i64 1))), .m 25 fj])
abbrev agc:AC:= .block 0 (.loop (.seq (.run [.o 26 (.bin .lss c7 de)]) (.seq (.cond eh .skip (.exit 0)) agb)))
abbrev agd:AC:= .seq (.seq (.run [.o 22 (.av dr 3), .o 23 (.load dv false 1), .o 24 (.len dB), .o 25 (.mv (.k (.int .i64 0)))]) agc) (.seq (.run [.m 33 a8, .m 4 ff]) .ret)
abbrev age:AC:= .seq (.seq (.run [.o 7 (.av dr 0), .o 8 (.load bF false 1), .o 9 (.bin .eql bY (.k (.int .i64 2))), .m 10 cv, .g 11 10 true (.mv a8), .g 12 10 true (.av dr 2), .g 13 10 true (.load b7 false 1), .d 14 10 true bQ [bS,bT], .g 15 10 true (.un .not bK), .o 16 (.pick bL cq (.k (.bool false)))]) (.cond b8 (.run [.m 17 a8, .o 18 (.av dr 2), .o 19 (.load cD false 1), .o 20 (.cP [(.str [])] 1 1 [(0,cZ)]), .o 21 (.app 1 16 cJ dh), .m 1 dt]) .skip)) agd
abbrev agf:AC:= .seq (.run [.o 2 (.box aQ), .o 4 (.mv (.k (.slice .full 0 [])))]) age
abbrev agh:AC:= .par [.m 4 aQ, .c 5 cm [cQ], .m 6 bf, .g 7 6 true (.mv aQ), .d 8 6 true dd [bF], .g 9 6 true (.oH bY 0 false 1), .g 10 6 true (.bin .eql cv (.k (.int .i64 1))), .o 11 (.pick bG bL (.k (.bool false))), .m 12 bS, .g 13 12 true (.mv aQ), .g 14 12 true (.c6 bT), .g 15 12 true (.av bK 0), .g 16 12 true (.load cq false 1), .g 17 12 true (.mv aQ), .g 18 12 true (.c6 cJ), .g 19 12 true (.av cD 1), .g 20 12 true (.load cZ false 1), .g 21 12 true (.bin .add dh (.k (.int .i64 1))), .g 22 12 true (.cu b8 dt 4), .g 23 12 true (.av dv 0), .g 24 12 true (.load dB false 1), .g 25 12 true (.bin .eql de (.k (.int .i64 4))), .o 26 (.pick b7 c7 (.k (.bool false))), .m 27 eh, .g 28 27 true (.mv aQ), .g 29 27 true (.c6 eJ), .g 30 27 true (.av eK 0), .g 31 27 true (.load fi false 1), .g 32 27 true (.mv aQ), .g 33 27 true (.c6 fj), .g 34 27 true (.av ff 1), .g 35 27 true (.load fx false 1), .g 36 27 true (.bin .add fu (.k (.int .i64 1))), .g 37 27 true (.cu fb fz 4), .g 38 27 true (.av fX 1), .g 39 27 true (.load gx false 1), .g 40 27 true (.bin .eql gm (.k (.str [58]))), .o 41 (.pick dR gT (.k (.bool false)))] [(0,0),(1,0),(2,0),(3,0),(4,0),(5,0),(6,0),(7,0),(8,0),(9,0),(10,0),(11,0),(12,0),(13,0),(14,0),(15,0),(16,0),(17,0),(18,0),(19,0),(20,0),(21,0),(22,0),(23,0),(24,0),(25,0),(26,0),(27,0),(28,0),(29,0),(30,0),(31,0),(32,0),(33,0),(34,0),(35,0),(36,0),(37,0)]
abbrev agi:AC:= .block 1 (.seq (.run [.m 42 bE, .m 43 aQ, .c 44 dd [iL], .o 45 (.oH jo 1 false 1), .o 46 (.cP [(.str [])] 1 1 [(0,jD)]), .o 47 (.app 1 16 iA jE), .m 3 j9]) (.run [.m 48 aQ, .o 49 (.c6 jb), .o 50 (.av jq 1), .o 51 (.load kX false 1), .o 52 (.bin .add kb (.k (.int .i64 2))), .o 53 (.c6 jb), .o 54 (.av ku 1), .op none none (.store kY kr 1)]))
abbrev agj:AC:= .block 0 (.loop (.seq (.seq agh (.cond gK .skip (.exit 0))) agi))
abbrev agk:AC:= .seq (.run [.o 2 (.mv (.k (.slice .full 0 [])))]) (.seq (.run [.o 3 (.mv (.k (.slice .full 0 [])))]) (.seq agj (.seq (.run [.m 55 bE, .m 2 lF]) .ret)))
end Go.Abs

/-! Have4 -/

namespace Go.Abs
open Go.Proofs
theorem pJ:Has Tryz.prog fB 19 [(4,none)] afE:=⟨Tryz.f166,by kernel_rfl,by kernel_rfl⟩
theorem vd:Has Tryz.prog kg 8 [(3,none)] afF:=⟨Tryz.f167,by kernel_rfl,by kernel_rfl⟩
theorem ve:Has Tryz.prog dU 31 [(4,none)] afK:=⟨Tryz.f170,by kernel_rfl,by kernel_rfl⟩
theorem vf:Has Tryz.prog cH 10 [] afL:=⟨Tryz.f171,by kernel_rfl,by kernel_rfl⟩
theorem oN:Has Tryz.prog fO 43 [(6,none),(7,none)] afQ:=⟨Tryz.f172,by kernel_rfl,by kernel_rfl⟩
theorem DF:Has Tryz.prog kW 24 [(2,(some (true,4)))] afW:=⟨Tryz.f173,by kernel_rfl,by kernel_rfl⟩
theorem zF:Has Tryz.prog nJ 10 [(2,none)] afX:=⟨Tryz.f174,by kernel_rfl,by kernel_rfl⟩
theorem B1:Has Tryz.prog ph 9 [(2,none)] afY:=⟨Tryz.f177,by kernel_rfl,by kernel_rfl⟩
theorem B2:Has Tryz.prog sH 9 [(2,none)] afZ:=⟨Tryz.f178,by kernel_rfl,by kernel_rfl⟩
theorem DG:Has Tryz.prog uA 15 [(2,none)] af4:=⟨Tryz.f179,by kernel_rfl,by kernel_rfl⟩
theorem DH:Has Tryz.prog qu 22 [(2,none)] af5:=⟨Tryz.f180,by kernel_rfl,by kernel_rfl⟩
theorem Fh:Has Tryz.prog vV 21 [(2,none)] af8:=⟨Tryz.f181,by kernel_rfl,by kernel_rfl⟩
theorem zG:Has Tryz.prog nK 5 [(2,none)] af9:=⟨Tryz.f190,by kernel_rfl,by kernel_rfl⟩
theorem DI:Has Tryz.prog uB 22 [(2,none)] aga:=⟨Tryz.f191,by kernel_rfl,by kernel_rfl⟩
theorem pw:Has Tryz.prog gN 34 [(4,none)] agf:=⟨Tryz.f192,by kernel_rfl,by kernel_rfl⟩
theorem s4:Has Tryz.prog lC 56 [(2,none)] agk:=⟨Tryz.f204,by kernel_rfl,by kernel_rfl⟩
end Go.Abs

/-! Codes5 -/

namespace Go.Abs
abbrev agl:AC:= .cond bL (.seq (.run [.m 11 aQ, .c 12 eg [bS,(.k (.int .i64 3))]]) (.seq (.run [.o 13 (.build [(.int .i64 0),(.int .i64 0),(.slice .full 0 []),(.str []),(.str []),(.int .i64 0),(.int .i64 0),(.str []),(.slice .full 0 []),(.bool false),(.slice .full 0 []),(.slice .full 0 []),(.slice .full 0 [])] []), .op none none (.store cQ bT 13)]) .ret)) .skip
abbrev agm:AC:= .cond eK (.seq (.run [.m 30 aQ, .c 31 eg [fi,(.k (.int .i64 4))]]) (.seq (.run [.o 32 (.build [(.int .i64 0),(.int .i64 0),(.slice .full 0 []),(.str []),(.str []),(.int .i64 0),(.int .i64 0),(.str []),(.slice .full 0 []),(.bool false),(.slice .full 0 []),(.slice .full 0 []),(.slice .full 0 [])] []), .op none none (.store cQ fj 13)]) .ret)) .skip
abbrev agn:AC:= .seq (.run [.m 56 aQ, .c 57 kh [mI],(.o 58 (.build [(.int .i64 0),(.int .i64 0),(.slice .full 0 []),(.str []),(.str []),(.int .i64 0),(.int .i64 0),(.str []),(.slice .full 0 []),(.bool false),(.slice .full 0 []),(.slice .full 0 []),(.slice .full 0 [])] [(1,(1,(.k (.int .i64 6)))),(5,(4,nu))])), .o 6 (.alloc [(.int .i64 0),(.int .i64 0),(.slice .full 0 []),(.str []),(.str []),(.int .i64 0),(.int .i64 0),(.str []),(.slice .full 0 []),(.bool false),(.slice .full 0 []),(.slice .full 0 []),(.slice .full 0 [])]), .op none none (.store bG mJ 13)]) (.seq (.run [.m 59 aQ, .m 60 a8, .c 61 ic [kZ,oE], .o 62 (.av bG 11), .op none none (.store p9 p8 1)]) (.seq (.run [.o 63 (.load bG true 13), .op none none (.store cQ qa 13)]) .ret))
abbrev ago:AC:= .cond jq (.seq (.run [.m 51 aQ, .m 52 a8, .c 53 lE [kb,kr], .op none none (.store cQ ku 13)]) .ret) (.seq (.run [.o 55 (.bin .eql jb (.k (.str [119,104,105,108,101]))), .m 54 lF]) (.cond kY agn .skip))
abbrev agp:AC:= .block 0 (.seq (.run [.o 50 (.bin .eql jb (.k (.str [105,102]))), .m 49 kX]) ago)
abbrev agq:AC:= .seq (.run [.m 64 aQ, .o 65 (.av bf 1), .o 66 (.load uD false 1), .c 67 l8 [rj,vW], .o 7 (.alloc [(.int .i64 0),(.int .i64 0),(.slice .full 0 []),(.str []),(.str []),(.int .i64 0),(.int .i64 0),(.str []),(.slice .full 0 []),(.bool false),(.slice .full 0 []),(.slice .full 0 []),(.slice .full 0 [])]), .op none none (.store bF uE 13)]) (.seq (.run [.m 68 aQ,(.c 69 cH [uF,(.k (.str [59]))])]) (.seq (.run [.o 70 (.load bF true 13), .op none none (.store cQ vX 13)]) .ret))
abbrev agr:AC:= .seq (.seq (.run [.o 35 (.av bf 0), .o 36 (.load fu false 1), .o 37 (.bin .eql fz (.k (.int .i64 1)))]) (.cond fX (.seq (.run [.m 38 aQ, .c 39 l7 [gx], .op none none (.store cQ gm 13)]) .ret) .skip)) (.seq (.run [.m 40 aQ, .o 41 (.c6 gT), .o 42 (.av gK 1), .o 43 (.load iA false 1), .o 44 (.bin .add iL (.k (.int .i64 1))), .o 45 (.c6 gT), .o 46 (.av jD 1), .op none none (.store jE jo 1)]) (.seq (.seq (.run [.o 47 (.av bf 1), .o 48 (.load j9 false 1)]) agp) agq))
abbrev ags:AC:= .seq (.seq (.run [.m 21 aQ, .o 22 (.c6 dt), .o 23 (.av dv 4), .o 24 (.load dB false 1), .o 25 (.bin .gtr de (.k (.int .i64 200))), .m 26 c7, .g 27 26 false (.mv a8), .g 28 26 false (.bin .gtr dR (.k (.int .i64 12))), .o 29 (.pick eh (.k (.bool true)) eJ)]) agm) (.seq (.run [.m 33 aQ, .c 34 dd [ff], .o 5 (.alloc [(.int .i64 0),(.str []),(.int .i64 0),(.int .i64 0)]), .op none none (.store bf fx 4)]) agr)
abbrev agt:AC:= .seq (.seq (.run [.m 8 aQ, .c 9 lD [bY], .o 10 (.un .not cv)]) agl) (.seq (.run [.m 14 aQ, .o 15 (.c6 bK), .o 16 (.av cq 4), .o 17 (.load b8 false 1), .o 18 (.bin .add cJ (.k (.int .i64 1))), .o 19 (.c6 bK), .o 20 (.av cZ 4), .op none none (.store dh cD 1)]) ags)
abbrev agu:AC:= .seq (.run [.o 4 (.alloc [(.int .i64 0),(.int .i64 0),(.slice .full 0 []),(.str []),(.str []),(.int .i64 0),(.int .i64 0),(.str []),(.slice .full 0 []),(.bool false),(.slice .full 0 []),(.slice .full 0 []),(.slice .full 0 [])])]) agt
abbrev agv:AC:= .cond cv (.seq (.run [.o 4 (.mv (.k (.int .i64 1)))]) .ret) .skip
abbrev agw:AC:= .block 1 (.seq (.run [.o 22 (.av dr 3), .o 23 (.load dv false 1), .m 24 bG, .o 25 (.cu dB de 4), .o 26 (.load c7 true 4), .m 27 a8, .o 28 (.bin .sub dR (.k (.int .i64 1))), .c 29 oe [eh,eJ], .m 7 eK]) (.seq (.run [.m 30 bF, .m 31 bf, .o 32 (.bin .gtr fi fb)]) (.cond fj (.run [.m 33 bF, .m 5 ff]) .skip)))
abbrev agx:AC:= .seq (.seq (.run [.m 10 bG, .o 11 (.av dr 3), .o 12 (.load bS false 1), .o 13 (.len b7), .o 14 (.bin .lss bL bT), .m 15 bK, .g 16 15 true (.mv bf), .g 17 15 true (.mv a8), .g 18 15 true (.bin .lss b8 cJ), .o 19 (.pick cq cD (.k (.bool false)))]) (.cond cZ .skip (.exit 0))) (.seq agw (.run [.m 20 bG, .o 21 (.bin .add dh (.k (.int .i64 1))), .m 6 dt]))
abbrev agy:AC:= .seq (.seq (.run [.o 6 (.mv (.k (.int .i64 0)))]) (.block 0 (.loop agx))) (.seq (.run [.m 34 bf, .o 35 (.bin .add fx (.k (.int .i64 1))), .m 4 fu]) .ret)
abbrev agz:AC:= .seq (.seq (.run [.m 8 a8, .o 9 (.bin .eql bY (.k (.int .i64 0)))]) agv) (.seq (.run [.o 5 (.mv (.k (.int .i64 0)))]) agy)
abbrev agA:AC:= .seq (.run [.o 2 (.box aQ), .o 4 (.mv (.k (.int .i64 0)))]) agz
abbrev agB:AC:= .par [.o 4 (.av a8 0), .o 5 (.load cQ false 1), .c 6 sJ [bf], .o 7 (.av a8 3), .o 8 (.load bF false 1), .o 9 (.len bY), .o 10 (.bin .neq bG cv), .m 11 bL, .g 12 11 false (.av a8 0), .g 13 11 false (.load b7 false 1), .g 14 11 false (.bin .neq bT (.k (.int .i64 1))), .g 15 11 false (.mv bK), .g 16 15 true (.av a8 1), .g 17 15 true (.load b8 false 1), .g 18 15 true (.bin .neq cJ (.k (.int .i64 0))), .g 19 11 false (.pick cq cD (.k (.bool false))), .o 20 (.pick bS (.k (.bool true)) cZ), .m 21 dh, .g 22 21 false (.av a8 1), .g 23 21 false (.load dv false 1), .g 24 21 false (.bin .lss dB (.k (.int .i64 0))), .o 25 (.pick dt (.k (.bool true)) de), .m 26 c7, .g 27 26 false (.av a8 0), .g 28 26 false (.load dR false 1), .g 29 26 false (.bin .eql eJ (.k (.int .i64 2))), .g 30 26 false (.av a8 2), .g 31 26 false (.load fi false 1), .g 32 26 false (.bin .neq fb (.k (.str []))), .g 33 26 false (.w9 true eK fj), .o 34 (.pick eh (.k (.bool true)) ff), .m 35 fx, .g 36 35 false (.av a8 2), .g 37 35 false (.load fz false 1), .g 38 35 false (.bin .neq fX (.k (.str []))), .g 39 35 false (.mv gx), .g 40 39 true (.av a8 2), .g 41 39 true (.load gT false 1), .d 42 39 true jM [gK], .g 43 39 true (.un .not iA), .g 44 35 false (.pick gm iL (.k (.bool false))), .o 45 (.pick fu (.k (.bool true)) jo)] [(0,0),(1,0),(2,0),(3,0),(4,1),(5,0),(6,0),(7,0),(8,0),(9,0),(10,0),(11,0),(12,0),(13,0),(14,0),(15,0),(16,0),(17,0),(18,0),(19,0),(20,0),(21,0),(22,0),(23,0),(24,0),(25,0),(26,0),(27,0),(28,0),(29,0),(30,0),(31,0),(32,0),(33,0),(34,0),(35,0),(36,0),(37,0),(38,0),(39,0),(40,0),(41,0)]
abbrev agC:AC:= .cond jD (.seq (.run [.o 2 (.mv (.k (.bool false)))]) .ret) .skip
abbrev agD:AC:= .cond mJ (.seq (.run [.o 2 (.mv (.k (.bool false)))]) .ret) .skip
abbrev agE:AC:= .seq (.block 1 (.seq (.run [.m 51 jq, .m 3 kb]) (.seq (.run [.o 52 (.av a8 3), .o 53 (.load kr false 1), .m 54 bE, .o 55 (.cu ku kY 4), .o 56 (.load lF true 4), .c 57 og [mI], .o 58 (.un .not nu)]) agD))) (.run [.o 59 (.bin .add jq (.k (.int .i64 1))), .m 49 kZ])
abbrev agF:AC:= .block 0 (.loop (.seq (.run [.o 50 (.bin .lss jq jb)]) (.seq (.cond kX .skip (.exit 0)) agE)))
abbrev agG:AC:= .seq (.seq (.run [.o 46 (.av a8 3), .o 47 (.load jE false 1), .o 48 (.len j9), .o 49 (.mv (.k (.int .i64 0)))]) agF) (.seq (.run [.o 2 (.mv (.k (.bool true)))]) .ret)
abbrev agH:AC:= .seq (.run [.o 1 (.box aQ), .o 2 (.mv (.k (.bool false)))]) (.seq (.seq agB agC) agG)
abbrev agI:AC:= .seq (.run [(.o 1 (.cP [(.str [])] 1 13 [(0,(.k (.str [103,108,111,98,97,108]))),(1,(.k (.str [112,114,111,99]))),(2,(.k (.str [118,97,114]))),(3,(.k (.str [114,101,102]))),(4,(.k (.str [105,102]))),(5,(.k (.str [101,108,115,101]))),(6,(.k (.str [119,104,105,108,101]))),(7,(.k (.str [98,114,101,97,107]))),(8,(.k (.str [99,111,110,116,105,110,117,101]))),(9,(.k (.str [114,101,116,117,114,110]))),(10,(.k (.str [103,111,116,111]))),(11,(.k (.str [114,101,97,100]))),(12,(.k (.str [112,114,105,110,116])))])), .m 0 a8]) .ret
abbrev agJ:AC:= .seq (.run [.o 0 (.mv (.k (.slice .full 0 [])))]) agI
abbrev agK:AC:= .cond cJ (.seq (.run [.o 2 (.mv (.k (.int .i64 2)))]) .ret) .skip
abbrev agL:AC:= .cond bL (.seq (.run [.o 2 (.mv (.k (.int .i64 1)))]) .ret) (.seq (.run [.m 18 aQ, .o 19 (.bin .geq cD (.k (.int .i64 5))), .m 20 cZ, .g 21 20 true (.mv aQ), .g 22 20 true (.bin .leq dt (.k (.int .i64 17))), .o 23 (.pick dh dv (.k (.bool false))), .m 17 dB]) agK)
abbrev agM:AC:= .cond bE (.seq (.run [.o 2 (.mv (.k (.int .i64 0)))]) .ret) (.seq (.run [.m 11 aQ, .o 12 (.bin .eql bS (.k (.int .i64 3))), .m 13 b7, .g 14 13 false (.mv aQ), .g 15 13 false (.bin .eql bK (.k (.int .i64 4))), .o 16 (.pick bT (.k (.bool true)) cq), .m 10 b8]) agL)
abbrev agN:AC:= .block 0 (.seq (.run [.m 4 aQ, .o 5 (.bin .eql cQ (.k (.int .i64 1))), .m 6 bf, .g 7 6 false (.mv aQ), .g 8 6 false (.bin .eql bF (.k (.int .i64 2))), .o 9 (.pick bG (.k (.bool true)) bY), .m 3 cv]) agM)
abbrev agO:AC:= .seq (.run [(.o 2 (.mv (.k (.int .i64 (-1)))))]) .ret
abbrev agP:AC:= .seq (.run [.o 2 (.mv (.k (.int .i64 0)))]) (.seq agN agO)
abbrev agQ:AC:= .par [.m 7 a8, .o 8 (.bin .lss bF (.k (.int .i64 1))), .m 9 bY, .g 10 9 false (.av dr 3), .g 11 9 false (.load bL false 1), .g 12 9 false (.len bS), .g 13 9 false (.av dr 0), .g 14 9 false (.load bT false 1), .d 15 9 false uC [bK], .g 16 9 false (.bin .neq b7 cq), .o 17 (.pick cv (.k (.bool true)) b8)] [(0,0),(1,0),(2,0),(6,0),(7,0),(8,0),(3,0),(4,1),(5,0),(9,0),(10,0)]
abbrev agR:AC:= .cond cJ (.seq (.run [.o 4 (.mv (.k (.bool false)))]) .ret) .skip
abbrev agS:AC:= .cond fi (.seq (.run [.o 32 (.av dr 1), .o 33 (.load fj false 1), .o 34 (.bin .eql ff (.k (.int .i64 0))), .m 35 fx, .g 36 35 true (.av dr 2), .g 37 35 true (.load fz false 1), .d 38 35 true l6 [fX], .o 39 (.pick fu gx (.k (.bool false))), .m 4 gm]) .ret) .skip
abbrev agT:AC:= .cond dh (.seq (.run [.o 22 (.av dr 1), .o 23 (.load dv false 1), .o 24 (.bin .geq dB (.k (.int .i64 0))), .m 25 de, .g 26 25 true (.av dr 2), .g 27 25 true (.load eh false 1), .g 28 25 true (.bin .eql dR (.k (.str []))), .o 29 (.pick c7 eJ (.k (.bool false))), .m 4 eK]) .ret) (.seq (.run [.o 31 (.bin .eql cZ (.k (.int .i64 2))), .m 30 fb]) agS)
abbrev agU:AC:= .block 0 (.seq (.run [.o 21 (.bin .eql cZ (.k (.int .i64 1))), .m 20 dt]) agT)
abbrev agV:AC:= .cond j9 (.seq (.run [.o 4 (.mv (.k (.bool false)))]) .ret) .skip
abbrev agW:AC:= .cond kZ (.seq (.run [.o 4 (.mv (.k (.bool false)))]) .ret) .skip
abbrev agX:AC:= .seq (.run [.o 53 (.cu jq kb 4), .o 54 (.load ku true 4), .o 6 (.alloc [(.int .i64 0),(.int .i64 0),(.str []),(.slice .full 0 [])]), .op none none (.store bG kY 4)]) (.seq (.run [.o 55 (.load bG true 4), .m 56 a8, .o 57 (.bin .sub mI (.k (.int .i64 1))), .c 58 oh [lF,nu], .o 59 (.un .not mJ)]) agW)
abbrev agY:AC:= .seq (.cond kr .skip (.exit 1)) (.seq (.block 2 agX) (.run [.o 60 (.bin .add kb (.k (.int .i64 1))), .m 51 oE]))
abbrev agZ:AC:= .seq (.run [.o 48 (.av dr 3), .o 49 (.load jb false 1), .o 50 (.len jq), .o 51 (.mv (.k (.int .i64 0)))]) (.block 1 (.loop (.seq (.run [.o 52 (.bin .lss kb kX)]) agY)))
abbrev ag0:AC:= .seq agZ (.seq (.run [.o 4 (.mv (.k (.bool true)))]) .ret)
abbrev ag1:AC:= .seq (.seq (.run [.o 40 (.av dr 1), .o 41 (.load gT false 1), .o 42 (.bin .neq gK (.k (.int .i64 0))), .m 43 iA, .g 44 43 false (.av dr 2), .g 45 43 false (.load jo false 1), .g 46 43 false (.bin .neq jD (.k (.str []))), .o 47 (.pick iL (.k (.bool true)) jE)]) agV) ag0
abbrev ag2:AC:= .seq (.run [.o 2 (.box aQ), .o 4 (.mv (.k (.bool false)))]) (.seq (.seq agQ agR) (.seq (.seq (.run [.o 18 (.av dr 0), .o 19 (.load cD false 1)]) agU) ag1))
abbrev ag3:AC:= .cond bY (.seq (.run [.o 2 (.mv (.k (.bool true)))]) .ret) .skip
abbrev ag4:AC:= .cond bS (.seq (.run [.o 2 (.mv (.k (.bool false)))]) .ret) .skip
abbrev ag5:AC:= .seq (.run [.o 21 (.bin .eql bT (.k (.str [114,101,97,100]))), .m 14 dt]) (.cond bK .skip (.run [.o 22 (.bin .eql bT (.k (.str [112,114,105,110,116]))), .m 14 dv]))
abbrev ag6:AC:= .cond bK .skip (.seq (.run [.o 20 (.bin .eql bT (.k (.str [103,111,116,111]))), .m 14 dh]) (.cond bK .skip ag5))
abbrev ag7:AC:= .cond bK .skip (.seq (.run [.o 19 (.bin .eql bT (.k (.str [114,101,116,117,114,110]))), .m 14 cZ]) ag6)
abbrev ag8:AC:= .cond bK .skip (.seq (.run [.o 18 (.bin .eql bT (.k (.str [99,111,110,116,105,110,117,101]))), .m 14 cD]) ag7)
abbrev ag9:AC:= .cond bK .skip (.seq (.run [.o 17 (.bin .eql bT (.k (.str [98,114,101,97,107]))), .m 14 cJ]) ag8)
abbrev aha:AC:= .cond bK .skip (.seq (.run [.o 16 (.bin .eql bT (.k (.str [119,104,105,108,101]))), .m 14 b8]) ag9)
abbrev ahb:AC:= .cond bK (.seq (.run [.o 2 (.mv (.k (.bool true)))]) .ret) .skip
abbrev ahc:AC:= .seq (.seq (.run [.o 15 (.bin .eql bT (.k (.str [105,102]))), .m 14 cq]) aha) ahb
abbrev ahd:AC:= .seq (.seq (.run [.o 12 (.av bE 1), .o 13 (.load b7 false 1)]) (.block 0 ahc)) (.seq (.run [.o 2 (.mv (.k (.bool false)))]) .ret)
abbrev ahe:AC:= .seq (.seq (.run [.o 9 (.av bE 0), .o 10 (.load cv false 1), .o 11 (.bin .neq bL (.k (.int .i64 3)))]) ag4) ahd
abbrev ahf:AC:= .seq (.seq (.run [.o 6 (.av bE 0), .o 7 (.load bG false 1), .o 8 (.bin .eql bF (.k (.int .i64 1)))]) ag3) ahe
abbrev ahg:AC:= .seq (.run [.o 2 (.mv (.k (.bool false)))]) (.seq (.run [.m 4 aQ, .c 5 dd [cQ], .o 3 (.alloc [(.int .i64 0),(.str []),(.int .i64 0),(.int .i64 0)]), .op none none (.store bE bf 4)]) ahf)
abbrev ahh:AC:= .cond bY (.seq (.run [.m 9 aQ, .m 10 bE,(.c 11 ki [cv,(.k (.str [])),bL]), .op none none (.store dr bS 13)]) .ret) .skip
abbrev ahi:AC:= .par [.m 14 aQ, .c 15 cm [bK], .m 16 cq, .g 17 16 true (.mv aQ), .d 18 16 true dd [cJ], .g 19 16 true (.oH cD 0 false 1), .g 20 16 true (.bin .eql cZ (.k (.int .i64 1))), .o 21 (.pick b8 dh (.k (.bool false))), .m 22 dt, .g 23 22 true (.mv aQ), .g 24 22 true (.c6 dB), .g 25 22 true (.av de 0), .g 26 22 true (.load c7 false 1), .g 27 22 true (.mv aQ), .g 28 22 true (.c6 dR), .g 29 22 true (.av eJ 1), .g 30 22 true (.load eK false 1), .g 31 22 true (.bin .add fi (.k (.int .i64 1))), .g 32 22 true (.cu eh fb 4), .g 33 22 true (.av fj 0), .g 34 22 true (.load ff false 1), .g 35 22 true (.bin .eql fx (.k (.int .i64 4))), .o 36 (.pick dv fu (.k (.bool false))), .m 37 fz, .g 38 37 true (.mv aQ), .g 39 37 true (.c6 gx), .g 40 37 true (.av gm 0), .g 41 37 true (.load gT false 1), .g 42 37 true (.mv aQ), .g 43 37 true (.c6 iA), .g 44 37 true (.av iL 1), .g 45 37 true (.load jo false 1), .g 46 37 true (.bin .add jD (.k (.int .i64 1))), .g 47 37 true (.cu gK jE 4), .g 48 37 true (.av j9 1), .g 49 37 true (.load jb false 1), .g 50 37 true (.bin .eql jq (.k (.str [40]))), .o 51 (.pick fX kX (.k (.bool false)))] [(0,0),(1,0),(2,0),(3,0),(4,0),(5,0),(6,0),(7,0),(8,0),(9,0),(10,0),(11,0),(12,0),(13,0),(14,0),(15,0),(16,0),(17,0),(18,0),(19,0),(20,0),(21,0),(22,0),(23,0),(24,0),(25,0),(26,0),(27,0),(28,0),(29,0),(30,0),(31,0),(32,0),(33,0),(34,0),(35,0),(36,0),(37,0)]
abbrev ahj:AC:= .seq ahi (.cond kb (.seq (.run [.m 52 aQ, .m 53 bE, .m 54 aQ, .c 55 dU [kY,(.k (.bool true))], .c 56 ki [kr,ku,lF], .op none none (.store dr mI 13)]) .ret) .skip)
abbrev ahk:AC:= .seq (.run [.m 57 bE, .m 58 aQ, .c 59 fF [mJ],(.o 60 (.build [(.int .i64 0),(.int .i64 0),(.slice .full 0 []),(.str []),(.str []),(.int .i64 0),(.int .i64 0),(.str []),(.slice .full 0 []),(.bool false),(.slice .full 0 []),(.slice .full 0 []),(.slice .full 0 [])] [(1,(1,(.k (.int .i64 1)))),(3,(1,nu)),(5,(4,kZ))])), .o 4 (.alloc [(.int .i64 0),(.int .i64 0),(.slice .full 0 []),(.str []),(.str []),(.int .i64 0),(.int .i64 0),(.str []),(.slice .full 0 []),(.bool false),(.slice .full 0 []),(.slice .full 0 []),(.slice .full 0 [])]), .op none none (.store cQ oE 13)]) (.seq (.run [.m 61 aQ,(.c 62 cH [p8,(.k (.str [59]))])]) (.seq (.run [.o 63 (.load cQ true 13), .op none none (.store dr qa 13)]) .ret))
abbrev ahl:AC:= .seq (.seq (.run [.m 7 aQ,(.c 8 fc [bF,(.k (.str [40]))])]) ahh) (.seq (.run [.m 12 aQ,(.c 13 cH [b7,(.k (.str [61]))])]) (.seq ahj ahk))
abbrev ahm:AC:= .seq (.run [.o 2 (.alloc [(.int .i64 0),(.int .i64 0),(.slice .full 0 []),(.str []),(.str []),(.int .i64 0),(.int .i64 0),(.str []),(.slice .full 0 []),(.bool false),(.slice .full 0 []),(.slice .full 0 []),(.slice .full 0 [])])]) (.seq (.run [.m 5 aQ, .c 6 dU [bf,(.k (.bool true))], .m 3 bG]) ahl)
abbrev ahn:AC:= .seq (.seq (.run [.m 13 aQ,(.c 14 dc [bT,(.k (.str [101,108,115,101]))])]) (.cond bK (.run [.m 15 aQ, .m 16 a8, .c 17 ic [cq,b8], .o 18 (.av bf 12), .op none none (.store cD cJ 1)]) .skip)) (.seq (.run [.o 19 (.load bf true 13), .op none none (.store cQ cZ 13)]) .ret)
abbrev aho:AC:= .seq (.run [.m 6 aQ, .c 7 kh [bG],(.o 8 (.build [(.int .i64 0),(.int .i64 0),(.slice .full 0 []),(.str []),(.str []),(.int .i64 0),(.int .i64 0),(.str []),(.slice .full 0 []),(.bool false),(.slice .full 0 []),(.slice .full 0 []),(.slice .full 0 [])] [(1,(1,(.k (.int .i64 5)))),(5,(4,bF))])), .o 5 (.alloc [(.int .i64 0),(.int .i64 0),(.slice .full 0 []),(.str []),(.str []),(.int .i64 0),(.int .i64 0),(.str []),(.slice .full 0 []),(.bool false),(.slice .full 0 []),(.slice .full 0 []),(.slice .full 0 [])]), .op none none (.store bf bY 13)]) (.seq (.run [.m 9 aQ, .m 10 a8, .c 11 ic [cv,bL], .o 12 (.av bf 11), .op none none (.store b7 bS 1)]) ahn)
abbrev ahp:AC:= .seq (.run [.o 4 (.alloc [(.int .i64 0),(.int .i64 0),(.slice .full 0 []),(.str []),(.str []),(.int .i64 0),(.int .i64 0),(.str []),(.slice .full 0 []),(.bool false),(.slice .full 0 []),(.slice .full 0 []),(.slice .full 0 [])])]) aho
abbrev ahq:AC:= .seq (.run [.m 6 aQ, .c 7 fF [bG], .o 3 (.alloc [(.int .i64 0),(.int .i64 0),(.str []),(.slice .full 0 [])]), .op none none (.store bE bF 4)]) (.seq (.run [.m 8 aQ,(.c 9 cH [bY,(.k (.str [41]))])]) (.seq (.run [.o 10 (.load bE true 4), .op none none (.store dr bL 4)]) .ret))
abbrev ahr:AC:= .seq (.run [.o 2 (.alloc [(.int .i64 0),(.int .i64 0),(.str []),(.slice .full 0 [])])]) (.seq (.run [.m 4 aQ,(.c 5 cH [cQ,(.k (.str [40]))])]) ahq)
abbrev ahs:AC:= .seq (.run [.m 7 aQ,(.c 8 cH [bF,(.k (.str [123]))])]) (.seq (.run [.m 10 aQ, .m 11 a8, .o 12 (.bin .add bS (.k (.int .i64 1))), .c 13 fO [bL,b7,(.k (.bool false))], .m 9 bT, .o 14 (.ext cv 0), .o 15 (.ext cv 1), .m 5 bK, .m 6 cq]) (.seq (.run [.m 16 bf, .m 4 b8]) .ret))
abbrev aht:AC:= .seq (.run [.o 4 (.mv (.k (.slice .full 0 [])))]) ahs
abbrev ahu:AC:= .seq (.run [.m 16 aQ,(.c 17 fc [b8,(.k (.str [59]))]), .o 18 (.un .not cJ)]) (.cond cD (.run [.m 19 aQ, .c 20 fF [cZ], .o 21 (.av bf 9), .op none none (.store dt (.k (.bool true)) 1), .o 22 (.av bf 5), .op none none (.store dv dh 4)]) .skip)
abbrev ahv:AC:= .seq (.run [.o 36 (.bin .eql bG (.k (.str [112,114,105,110,116]))), .m 35 fz]) (.cond fu (.run [.m 37 aQ, .c 38 fF [fX], .o 39 (.av bf 1), .op none none (.store gm (.k (.int .i64 3)) 1), .o 40 (.av bf 5), .op none none (.store gT gx 4)]) .skip)
abbrev ahw:AC:= .seq (.run [.o 30 (.bin .eql bG (.k (.str [114,101,97,100]))), .m 29 fi]) (.cond eK (.run [.m 31 aQ, .c 32 dU [fb,(.k (.bool true))], .o 33 (.av bf 1), .op none none (.store ff (.k (.int .i64 2)) 1), .o 34 (.av bf 3), .op none none (.store fx fj 1)]) ahv)
abbrev ahx:AC:= .seq (.run [.o 24 (.bin .eql bG (.k (.str [103,111,116,111]))), .m 23 de]) (.cond dB (.run [.m 25 aQ, .c 26 dU [c7,(.k (.bool true))], .o 27 (.av bf 1), .op none none (.store dR (.k (.int .i64 10)) 1), .o 28 (.av bf 3), .op none none (.store eJ eh 1)]) ahw)
abbrev ahy:AC:= .cond bT (.seq (.run [.o 15 (.av bf 1), .op none none (.store cq (.k (.int .i64 9)) 1)]) ahu) ahx
abbrev ahz:AC:= .cond bL (.run [.o 12 (.av bf 1), .op none none (.store b7 (.k (.int .i64 8)) 1)]) (.seq (.run [.o 14 (.bin .eql bG (.k (.str [114,101,116,117,114,110]))), .m 13 bK]) ahy)
abbrev ahA:AC:= .cond bF (.run [.o 9 (.av bf 1), .op none none (.store cv (.k (.int .i64 7)) 1)]) (.seq (.run [.o 11 (.bin .eql bG (.k (.str [99,111,110,116,105,110,117,101]))), .m 10 bS]) ahz)
abbrev ahB:AC:= .block 0 (.seq (.run [.o 8 (.bin .eql bG (.k (.str [98,114,101,97,107]))), .m 7 bY]) ahA)
abbrev ahC:AC:= .seq (.run [.o 4 (.alloc [(.int .i64 0),(.int .i64 0),(.slice .full 0 []),(.str []),(.str []),(.int .i64 0),(.int .i64 0),(.str []),(.slice .full 0 []),(.bool false),(.slice .full 0 []),(.slice .full 0 []),(.slice .full 0 [])])]) (.seq (.run [.o 5 (.alloc [(.int .i64 0),(.int .i64 0),(.slice .full 0 []),(.str []),(.str []),(.int .i64 0),(.int .i64 0),(.str []),(.slice .full 0 []),(.bool false),(.slice .full 0 []),(.slice .full 0 []),(.slice .full 0 [])])]) (.seq (.seq (.run [.m 6 a8]) ahB) (.seq (.run [.o 41 (.load bf true 13), .op none none (.store cQ gK 13)]) .ret)))
abbrev ahD:AC:= .cond cJ (.seq (.run [.o 2 (.mv (.k (.int .i64 2)))]) .ret) .skip
abbrev ahE:AC:= .cond bL (.seq (.run [.o 2 (.mv (.k (.int .i64 1)))]) .ret) (.seq (.run [.m 18 aQ, .o 19 (.bin .geq cD (.k (.int .i64 5))), .m 20 cZ, .g 21 20 true (.mv aQ), .g 22 20 true (.bin .leq dt (.k (.int .i64 17))), .o 23 (.pick dh dv (.k (.bool false))), .m 17 dB]) ahD)
abbrev ahF:AC:= .cond bE (.seq (.run [.o 2 (.mv (.k (.int .i64 0)))]) .ret) (.seq (.run [.m 11 aQ, .o 12 (.bin .eql bS (.k (.int .i64 3))), .m 13 b7, .g 14 13 false (.mv aQ), .g 15 13 false (.bin .eql bK (.k (.int .i64 4))), .o 16 (.pick bT (.k (.bool true)) cq), .m 10 b8]) ahE)
abbrev ahG:AC:= .block 0 (.seq (.run [.m 4 aQ, .o 5 (.bin .eql cQ (.k (.int .i64 1))), .m 6 bf, .g 7 6 false (.mv aQ), .g 8 6 false (.bin .eql bF (.k (.int .i64 2))), .o 9 (.pick bG (.k (.bool true)) bY), .m 3 cv]) ahF)
abbrev ahH:AC:= .seq (.run [(.o 2 (.mv (.k (.int .i64 (-1)))))]) .ret
abbrev ahI:AC:= .seq (.run [.o 2 (.mv (.k (.int .i64 0)))]) (.seq ahG ahH)
abbrev ahJ:AC:= .par [.o 24 (.av bF 10), .o 25 (.load de false 1), .m 26 aQ, .c 27 dU [eh,(.k (.bool true))],(.o 28 (.build [(.bool false),(.str []),(.int .i64 0),(.int .i64 0),(.str []),(.slice .full 0 [])] [(0,(1,(.k (.bool true)))),(1,(1,dR))])), .o 29 (.cP [(.bool false),(.str []),(.int .i64 0),(.int .i64 0),(.str []),(.slice .full 0 [])] 6 1 [(0,eJ)]), .o 30 (.app 6 80 c7 eK), .o 31 (.av bF 10), .op none none (.store fb fi 1)] [(2,0),(3,0),(0,0),(1,1),(4,0),(5,0),(6,0),(7,0),(8,0)]
abbrev ahK:AC:= .par [.o 32 (.av bF 10), .o 33 (.load fj false 1), .m 34 aQ, .c 35 fF [fx], .o 36 (.build [(.bool false),(.str []),(.int .i64 0),(.int .i64 0),(.str []),(.slice .full 0 [])] [(2,(4,fu))]), .o 37 (.cP [(.bool false),(.str []),(.int .i64 0),(.int .i64 0),(.str []),(.slice .full 0 [])] 6 1 [(0,fz)]), .o 38 (.app 6 80 ff fX), .o 39 (.av bF 10), .op none none (.store gm gx 1)] [(2,0),(3,0),(0,0),(1,1),(4,0),(5,0),(6,0),(7,0),(8,0)]
abbrev ahL:AC:= .seq (.seq (.run [.m 22 aQ,(.c 23 dc [dv,(.k (.str [114,101,102]))])]) (.cond dB ahJ ahK)) (.seq (.run [.m 40 aQ,(.c 41 dc [gT,(.k (.str [44]))]), .o 42 (.un .not gK)]) (.cond iA (.exit 0) .skip))
abbrev ahM:AC:= .block 0 (.loop (.seq (.seq (.run [.m 20 aQ, .c 21 cm [dh]]) (.cond dt .skip (.exit 0))) (.block 1 ahL)))
abbrev ahN:AC:= .seq (.run [.m 43 aQ,(.c 44 cH [iL,(.k (.str [41]))])]) (.seq (.run [.m 45 aQ,(.c 46 cH [jD,(.k (.str [59]))])]) (.seq (.run [.o 47 (.load bF true 13), .op none none (.store bG j9 13)]) .ret))
abbrev ahO:AC:= .seq (.seq (.run [.m 13 aQ, .c 14 cm [bT], .m 15 bK, .g 16 15 true (.mv aQ),(.d 17 15 true fc [b8,(.k (.str [41]))]), .g 18 15 true (.un .not cJ), .o 19 (.pick cq cD (.k (.bool false)))]) (.cond cZ ahM .skip)) ahN
abbrev ahP:AC:= .seq (.run [.m 8 a8, .m 9 dr,(.o 10 (.build [(.int .i64 0),(.int .i64 0),(.slice .full 0 []),(.str []),(.str []),(.int .i64 0),(.int .i64 0),(.str []),(.slice .full 0 []),(.bool false),(.slice .full 0 []),(.slice .full 0 []),(.slice .full 0 [])] [(1,(1,(.k (.int .i64 4)))),(3,(1,bY)),(4,(1,cv))])), .o 7 (.alloc [(.int .i64 0),(.int .i64 0),(.slice .full 0 []),(.str []),(.str []),(.int .i64 0),(.int .i64 0),(.str []),(.slice .full 0 []),(.bool false),(.slice .full 0 []),(.slice .full 0 []),(.slice .full 0 [])]), .op none none (.store bF bL 13)]) (.seq (.run [.m 11 aQ,(.c 12 cH [bS,(.k (.str [40]))])]) ahO)
abbrev ahQ:AC:= .seq (.run [.o 6 (.alloc [(.int .i64 0),(.int .i64 0),(.slice .full 0 []),(.str []),(.str []),(.int .i64 0),(.int .i64 0),(.str []),(.slice .full 0 []),(.bool false),(.slice .full 0 []),(.slice .full 0 []),(.slice .full 0 [])])]) ahP
abbrev ahR:AC:= .cond b8 (.run [.m 17 aQ, .m 18 bE,(.o 19 (.build [(.int .i64 0),(.int .i64 0)] [(0,(1,(.k (.int .i64 4)))),(1,(1,cD))])), .o 20 (.c6 cJ), .o 21 (.av dh 2), .op none none (.store dt cZ 2)]) .skip
abbrev ahS:AC:= .seq (.seq (.run [.m 10 aQ, .c 11 cm [bL], .m 12 bS, .g 13 12 true (.load cQ true 4), .d 14 12 true kz [bT], .g 15 12 true (.bin .gtr bK (.k (.int .i64 20))), .o 16 (.pick b7 cq (.k (.bool false)))]) ahR) (.seq (.run [.o 22 (.load cQ true 4), .op none none (.store dr dv 4)]) .ret)
abbrev ahT:AC:= .seq (.run [.o 2 (.alloc [(.int .i64 0),(.int .i64 0),(.str []),(.slice .full 0 [])])]) (.seq (.run [.m 5 aQ, .c 6 dd [bf], .o 7 (.oH bG 3 false 1), .m 3 bF]) (.seq (.run [.m 8 aQ, .c 9 gX [bY,(.k (.int .i64 1))], .o 4 (.alloc [(.int .i64 0),(.int .i64 0),(.str []),(.slice .full 0 [])]), .op none none (.store cQ cv 4)]) ahS))
abbrev ahU:AC:= .seq (.run [.m 27 aQ, .o 28 (.c6 dR), .o 29 (.av eJ 1), .o 30 (.load eK false 1), .o 31 (.bin .add fi (.k (.int .i64 1))), .o 32 (.c6 dR), .o 33 (.av fj 1), .op none none (.store ff fb 1)]) (.seq (.run [.m 34 aQ, .m 35 bF, .o 36 (.bin .add fu (.k (.int .i64 1))), .c 37 gX [fx,fz], .o 8 (.alloc [(.int .i64 0),(.int .i64 0),(.str []),(.slice .full 0 [])]), .op none none (.store bY fX 4)]) (.run [.m 38 bG, .o 39 (.load bf true 4), .o 40 (.load bY true 4), .o 41 (.cP [(.int .i64 0),(.int .i64 0),(.str []),(.slice .full 0 [])] 4 2 [(0,gm),(1,gT)]), .o 42 (.build [(.int .i64 0),(.int .i64 0),(.str []),(.slice .full 0 [])] [(0,(1,gx)),(3,(1,gK))]), .op none none (.store bf iA 4)]))
abbrev ahV:AC:= .seq (.seq (.run [.m 19 bF, .m 20 a8, .o 21 (.bin .lss cZ dh), .m 22 dt, .g 23 22 false (.mv bG), .g 24 22 false (.bin .eql dB (.k (.int .i64 0))), .o 25 (.pick dv (.k (.bool true)) de)]) (.cond c7 (.seq (.run [.o 26 (.load bf true 4), .op none none (.store cQ eh 4)]) .ret) .skip)) ahU
abbrev ahW:AC:= .loop (.seq (.seq (.run [.m 11 aQ, .c 12 cm [bS]]) (.cond b7 .skip (.exit 0))) (.block 1 (.seq (.run [.m 14 aQ, .c 15 dd [bK], .c 16 rP [cq], .m 13 b8, .o 17 (.ext bT 0), .o 18 (.ext bT 1), .m 6 cJ, .m 7 cD]) ahV)))
abbrev ahX:AC:= .seq (.run [.o 4 (.alloc [(.int .i64 0),(.int .i64 0),(.str []),(.slice .full 0 [])])]) (.seq (.run [.m 9 aQ, .c 10 ja [cv], .o 5 (.alloc [(.int .i64 0),(.int .i64 0),(.str []),(.slice .full 0 [])]), .op none none (.store bf bL 4)]) (.seq (.block 0 ahW) (.seq (.run [.o 43 (.load bf true 4), .op none none (.store cQ iL 4)]) .ret)))
abbrev ahY:AC:= .seq (.block 1 (.seq (.run [.o 11 (.cu bF cv 4), .o 12 (.load bS true 4), .o 5 (.alloc [(.int .i64 0),(.int .i64 0),(.str []),(.slice .full 0 [])]), .op none none (.store bf b7 4)]) (.run [.m 13 bE, .o 14 (.load bf true 4), .c 15 kz [bK], .o 16 (.mm true bT cq), .m 3 b8]))) (.run [.o 17 (.bin .add cv (.k (.int .i64 1))), .m 9 cJ])
abbrev ahZ:AC:= .block 0 (.loop (.seq (.run [.o 10 (.bin .lss cv bY)]) (.seq (.cond bL .skip (.exit 0)) ahY)))
abbrev ah0:AC:= .seq (.seq (.run [.o 6 (.av a8 3), .o 7 (.load bG false 1), .o 8 (.len bF), .o 9 (.mv (.k (.int .i64 0)))]) ahZ) (.seq (.run [.m 18 bE, .o 19 (.bin .add cD (.k (.int .i64 1))), .m 2 cZ]) .ret)
abbrev ah1:AC:= .seq (.run [.o 1 (.box aQ), .o 2 (.mv (.k (.int .i64 0)))]) (.seq (.run [.o 3 (.mv (.k (.int .i64 0)))]) ah0)
abbrev ah2:AC:= .seq (.run [.m 7 aQ, .c 8 cm [bF], .o 9 (.un .not bY)]) (.cond cv (.seq (.run [.o 10 (.build [(.int .i64 0),(.int .i64 0),(.str []),(.slice .full 0 [])] []), .op none none (.store dr bL 4)]) .ret) .skip)
abbrev ah3:AC:= .seq (.run [.o 22 (.av bE 2), .o 23 (.load dv false 1),(.o 24 (.build [(.int .i64 0),(.int .i64 0),(.str []),(.slice .full 0 [])] [(0,(1,(.k (.int .i64 1)))),(1,(1,dB))])), .op none none (.store dr de 4)]) .ret
abbrev ah4:AC:= .seq (.run [.o 36 (.av bE 1), .o 37 (.load fz false 1),(.o 38 (.build [(.int .i64 0),(.int .i64 0),(.str []),(.slice .full 0 [])] [(0,(1,(.k (.int .i64 2)))),(2,(1,fX))])), .op none none (.store dr gx 4)]) .ret
abbrev ah5:AC:= .seq (.run [.m 42 aQ, .c 43 gX [iA,(.k (.int .i64 1))], .o 4 (.alloc [(.int .i64 0),(.int .i64 0),(.str []),(.slice .full 0 [])]), .op none none (.store cQ iL 4)]) (.seq (.run [.m 44 aQ,(.c 45 cH [jo,(.k (.str [41]))])]) (.seq (.run [.o 46 (.load cQ true 4), .op none none (.store dr jE 4)]) .ret))
abbrev ah6:AC:= .seq (.run [.m 50 aQ, .c 51 ja [kX], .o 52 (.cP [(.int .i64 0),(.int .i64 0),(.str []),(.slice .full 0 [])] 4 1 [(0,kb)]),(.o 53 (.build [(.int .i64 0),(.int .i64 0),(.str []),(.slice .full 0 [])] [(0,(1,(.k (.int .i64 3)))),(3,(1,kr))])), .op none none (.store dr ku 4)]) .ret
abbrev ah7:AC:= .seq (.run [.m 57 aQ, .c 58 ja [nu], .o 59 (.cP [(.int .i64 0),(.int .i64 0),(.str []),(.slice .full 0 [])] 4 1 [(0,mJ)]),(.o 60 (.build [(.int .i64 0),(.int .i64 0),(.str []),(.slice .full 0 [])] [(0,(1,(.k (.int .i64 4)))),(3,(1,kZ))])), .op none none (.store dr oE 4)]) .ret
abbrev ah8:AC:= .cond j9 ah6 (.seq (.run [.m 55 aQ,(.c 56 dc [lF,(.k (.str [33]))]), .m 54 mI]) (.cond kY ah7 .skip))
abbrev ah9:AC:= .cond gm ah5 (.seq (.run [.m 48 aQ,(.c 49 dc [jb,(.k (.str [45]))]), .m 47 jq]) ah8)
abbrev aia:AC:= .cond c7 (.seq (.run [.m 29 aQ, .o 30 (.c6 eK), .o 31 (.av fi 1), .o 32 (.load fb false 1), .o 33 (.bin .add fj (.k (.int .i64 1))), .o 34 (.c6 eK), .o 35 (.av fx 1), .op none none (.store fu ff 1)]) ah4) (.seq (.run [.m 40 aQ,(.c 41 dc [gT,(.k (.str [40]))]), .m 39 gK]) ah9)
abbrev aib:AC:= .cond bS (.seq (.run [.m 15 aQ, .o 16 (.c6 cq), .o 17 (.av b8 1), .o 18 (.load cJ false 1), .o 19 (.bin .add cD (.k (.int .i64 1))), .o 20 (.c6 cq), .o 21 (.av dh 1), .op none none (.store dt cZ 1)]) ah3) (.seq (.run [.o 26 (.av bE 0), .o 27 (.load eh false 1), .o 28 (.bin .eql dR (.k (.int .i64 1))), .m 25 eJ]) aia)
abbrev aic:AC:= .block 0 (.seq (.run [.o 12 (.av bE 0), .o 13 (.load b7 false 1), .o 14 (.bin .eql bT (.k (.int .i64 2))), .m 11 bK]) aib)
abbrev aid:AC:= .seq aic (.seq (.run [.m 61 aQ, .c 62 eg [p8,(.k (.int .i64 3))]]) (.seq (.run [.o 63 (.build [(.int .i64 0),(.int .i64 0),(.str []),(.slice .full 0 [])] []), .op none none (.store dr qa 4)]) .ret))
abbrev aie:AC:= .seq (.run [.o 2 (.alloc [(.int .i64 0),(.int .i64 0),(.str []),(.slice .full 0 [])])]) (.seq (.run [.m 5 aQ, .c 6 dd [bf], .o 3 (.alloc [(.int .i64 0),(.str []),(.int .i64 0),(.int .i64 0)]), .op none none (.store bE bG 4)]) (.seq ah2 aid))
abbrev aif:AC:= .cond bG (.seq (.run [.o 2 (.mv (.k (.int .i64 0))), .o 3 (.mv (.k (.int .i64 0)))]) .ret) .skip
abbrev aih:AC:= .cond ff (.seq (.run [.o 2 (.mv (.k (.int .i64 7))), .o 3 (.mv (.k (.int .i64 6)))]) .ret) .skip
abbrev aii:AC:= .cond fb (.seq (.run [.o 2 (.mv (.k (.int .i64 6))), .o 3 (.mv (.k (.int .i64 6)))]) .ret) (.seq (.run [.o 34 (.bin .eql bY (.k (.str [37]))), .m 33 fx]) aih)
abbrev aij:AC:= .cond eK (.seq (.run [.o 2 (.mv (.k (.int .i64 5))), .o 3 (.mv (.k (.int .i64 6)))]) .ret) (.seq (.run [.o 32 (.bin .eql bY (.k (.str [47]))), .m 31 fj]) aii)
abbrev aik:AC:= .cond dR (.seq (.run [.o 2 (.mv (.k (.int .i64 9))), .o 3 (.mv (.k (.int .i64 5)))]) .ret) (.seq (.run [.o 30 (.bin .eql bY (.k (.str [42]))), .m 29 fi]) aij)
abbrev ail:AC:= .cond c7 (.seq (.run [.o 2 (.mv (.k (.int .i64 8))), .o 3 (.mv (.k (.int .i64 5)))]) .ret) (.seq (.run [.o 28 (.bin .eql bY (.k (.str [45]))), .m 27 eJ]) aik)
abbrev aim:AC:= .cond dB (.seq (.run [.o 2 (.mv (.k (.int .i64 13))), .o 3 (.mv (.k (.int .i64 4)))]) .ret) (.seq (.run [.o 26 (.bin .eql bY (.k (.str [43]))), .m 25 eh]) ail)
abbrev ain:AC:= .cond dt (.seq (.run [.o 2 (.mv (.k (.int .i64 12))), .o 3 (.mv (.k (.int .i64 4)))]) .ret) (.seq (.run [.o 24 (.bin .eql bY (.k (.str [62,61]))), .m 23 de]) aim)
abbrev aio:AC:= .cond cZ (.seq (.run [.o 2 (.mv (.k (.int .i64 11))), .o 3 (.mv (.k (.int .i64 4)))]) .ret) (.seq (.run [.o 22 (.bin .eql bY (.k (.str [62]))), .m 21 dv]) ain)
abbrev aip:AC:= .cond cJ (.seq (.run [.o 2 (.mv (.k (.int .i64 10))), .o 3 (.mv (.k (.int .i64 4)))]) .ret) (.seq (.run [.o 20 (.bin .eql bY (.k (.str [60,61]))), .m 19 dh]) aio)
abbrev aiq:AC:= .cond cq (.seq (.run [.o 2 (.mv (.k (.int .i64 15))), .o 3 (.mv (.k (.int .i64 3)))]) .ret) (.seq (.run [.o 18 (.bin .eql bY (.k (.str [60]))), .m 17 cD]) aip)
abbrev air:AC:= .cond bT (.seq (.run [.o 2 (.mv (.k (.int .i64 14))), .o 3 (.mv (.k (.int .i64 3)))]) .ret) (.seq (.run [.o 16 (.bin .eql bY (.k (.str [33,61]))), .m 15 b8]) aiq)
abbrev ais:AC:= .cond bS (.seq (.run [.o 2 (.mv (.k (.int .i64 16))), .o 3 (.mv (.k (.int .i64 2)))]) .ret) (.seq (.run [.o 14 (.bin .eql bY (.k (.str [61,61]))), .m 13 bK]) air)
abbrev ait:AC:= .cond cv (.seq (.run [.o 2 (.mv (.k (.int .i64 17))), .o 3 (.mv (.k (.int .i64 1)))]) .ret) (.seq (.run [.o 12 (.bin .eql bY (.k (.str [38,38]))), .m 11 b7]) ais)
abbrev aiu:AC:= .block 0 (.seq (.run [.o 10 (.bin .eql bY (.k (.str [124,124]))), .m 9 bL]) ait)
abbrev aiv:AC:= .seq (.seq (.run [.o 7 (.av a8 1), .o 8 (.load bF false 1)]) aiu) (.seq (.run [.o 2 (.mv (.k (.int .i64 0))), .o 3 (.mv (.k (.int .i64 0)))]) .ret)
abbrev aiw:AC:= .seq (.seq (.run [.o 4 (.av a8 0), .o 5 (.load cQ false 1), .o 6 (.bin .neq bf (.k (.int .i64 4)))]) aif) aiv
abbrev aix:AC:= .seq (.run [.o 1 (.box aQ), .o 2 (.mv (.k (.int .i64 0))), .o 3 (.mv (.k (.int .i64 0)))]) aiw
end Go.Abs

/-! Have5 -/

namespace Go.Abs
open Go.Proofs
theorem vg:Has Tryz.prog mH 71 [(4,(some (true,13)))] agu:=⟨Tryz.f205,by kernel_rfl,by kernel_rfl⟩
theorem wK:Has Tryz.prog oe 36 [(4,none)] agA:=⟨Tryz.f206,by kernel_rfl,by kernel_rfl⟩
theorem DJ:Has Tryz.prog og 60 [(2,none)] agH:=⟨Tryz.f207,by kernel_rfl,by kernel_rfl⟩
theorem B3:Has Tryz.prog sI 2 [(0,none)] agJ:=⟨Tryz.f209,by kernel_rfl,by kernel_rfl⟩
theorem B4:Has Tryz.prog sJ 24 [(2,none)] agP:=⟨Tryz.f210,by kernel_rfl,by kernel_rfl⟩
theorem wL:Has Tryz.prog oh 61 [(4,none)] ag2:=⟨Tryz.f219,by kernel_rfl,by kernel_rfl⟩
theorem s5:Has Tryz.prog lD 23 [(2,none)] ahg:=⟨Tryz.f226,by kernel_rfl,by kernel_rfl⟩
theorem uG:Has Tryz.prog l7 64 [(2,(some (true,13)))] ahm:=⟨Tryz.f227,by kernel_rfl,by kernel_rfl⟩
theorem s6:Has Tryz.prog lE 20 [(4,(some (true,13)))] ahp:=⟨Tryz.f228,by kernel_rfl,by kernel_rfl⟩
theorem vh:Has Tryz.prog kh 11 [(2,(some (true,4)))] ahr:=⟨Tryz.f229,by kernel_rfl,by kernel_rfl⟩
theorem uH:Has Tryz.prog ic 17 [(4,none)] aht:=⟨Tryz.f230,by kernel_rfl,by kernel_rfl⟩
theorem uI:Has Tryz.prog l8 42 [(4,(some (true,13)))] ahC:=⟨Tryz.f231,by kernel_rfl,by kernel_rfl⟩
theorem DK:Has Tryz.prog uC 24 [(2,none)] ahI:=⟨Tryz.f237,by kernel_rfl,by kernel_rfl⟩
theorem vi:Has Tryz.prog ki 48 [(6,(some (true,13)))] ahQ:=⟨Tryz.f239,by kernel_rfl,by kernel_rfl⟩
theorem uJ:Has Tryz.prog fF 23 [(2,(some (true,4)))] ahT:=⟨Tryz.f240,by kernel_rfl,by kernel_rfl⟩
theorem vY:Has Tryz.prog gX 44 [(4,(some (true,4)))] ahX:=⟨Tryz.f242,by kernel_rfl,by kernel_rfl⟩
theorem AJ:Has Tryz.prog kz 20 [(2,none)] ah1:=⟨Tryz.f243,by kernel_rfl,by kernel_rfl⟩
theorem vZ:Has Tryz.prog ja 64 [(2,(some (true,4)))] aie:=⟨Tryz.f244,by kernel_rfl,by kernel_rfl⟩
theorem Fi:Has Tryz.prog rP 35 [(2,none),(3,none)] aix:=⟨Tryz.f245,by kernel_rfl,by kernel_rfl⟩
end Go.Abs

/-! Have3 -/

namespace Go.Abs
open Go.Proofs
theorem B5:Has Tryz.prog sD 37 [(6,none)] adj:=⟨Tryz.f120,by kernel_rfl,by kernel_rfl⟩
theorem vj:Has Tryz.prog sE 28 [(4,none)] adr:=⟨Tryz.f121,by kernel_rfl,by kernel_rfl⟩
theorem yF:Has Tryz.prog pe 38 [(6,none),(7,none)] ady:=⟨Tryz.f122,by kernel_rfl,by kernel_rfl⟩
theorem tD:Has Tryz.prog rf 15 [(4,none)] adz:=⟨Tryz.f123,by kernel_rfl,by kernel_rfl⟩
theorem DL:Has Tryz.prog uz 40 [(4,none)] adF:=⟨Tryz.f124,by kernel_rfl,by kernel_rfl⟩
theorem wV:Has Tryz.prog lk 12 [(4,none)] adG:=⟨Tryz.f125,by kernel_rfl,by kernel_rfl⟩
theorem DM:Has Tryz.prog od 9 [(2,none)] adH:=⟨Tryz.f128,by kernel_rfl,by kernel_rfl⟩
theorem xO:Has Tryz.prog vU 42 [(4,none)] ad7:=⟨Tryz.f129,by kernel_rfl,by kernel_rfl⟩
theorem B6:Has Tryz.prog sF 28 [(2,none),(3,none)] aed:=⟨Tryz.f130,by kernel_rfl,by kernel_rfl⟩
theorem vk:Has Tryz.prog dc 21 [(4,none)] aeh:=⟨Tryz.f131,by kernel_rfl,by kernel_rfl⟩
theorem uK:Has Tryz.prog ib 25 [(6,none)] ael:=⟨Tryz.f132,by kernel_rfl,by kernel_rfl⟩
theorem vl:Has Tryz.prog cm 9 [(2,none)] aem:=⟨Tryz.f133,by kernel_rfl,by kernel_rfl⟩
theorem wW:Has Tryz.prog fc 22 [(4,none)] aeo:=⟨Tryz.f134,by kernel_rfl,by kernel_rfl⟩
theorem v7:Has Tryz.prog eg 14 [] aep:=⟨Tryz.f135,by kernel_rfl,by kernel_rfl⟩
theorem vm:Has Tryz.prog mF 56 [(2,(some (true,5)))] aex:=⟨Tryz.f136,by kernel_rfl,by kernel_rfl⟩
theorem vn:Has Tryz.prog dd 13 [(2,(some (true,4)))] aez:=⟨Tryz.f137,by kernel_rfl,by kernel_rfl⟩
theorem s7:Has Tryz.prog fZ 8 [(2,none)] aeB:=⟨Tryz.f138,by kernel_rfl,by kernel_rfl⟩
theorem rl:Has Tryz.prog j8 8 [(2,none)] aeD:=⟨Tryz.f139,by kernel_rfl,by kernel_rfl⟩
theorem AL:Has Tryz.prog jn 78 [(6,none),(7,none)] aeN:=⟨Tryz.f140,by kernel_rfl,by kernel_rfl⟩
theorem B7:Has Tryz.prog sG 15 [(2,none)] aeS:=⟨Tryz.f148,by kernel_rfl,by kernel_rfl⟩
theorem wM:Has Tryz.prog jM 38 [(2,none)] aeZ:=⟨Tryz.f149,by kernel_rfl,by kernel_rfl⟩
theorem Fj:Has Tryz.prog Ax 178 [(2,none)] afb:=⟨Tryz.f150,by kernel_rfl,by kernel_rfl⟩
theorem B8:Has Tryz.prog nr 18 [(4,none)] afc:=⟨Tryz.f158,by kernel_rfl,by kernel_rfl⟩
theorem B9:Has Tryz.prog pf 18 [(4,none)] afd:=⟨Tryz.f159,by kernel_rfl,by kernel_rfl⟩
theorem AN:Has Tryz.prog rh 27 [(2,none)] afj:=⟨Tryz.f160,by kernel_rfl,by kernel_rfl⟩
theorem DN:Has Tryz.prog kV 33 [(2,none)] afq:=⟨Tryz.f161,by kernel_rfl,by kernel_rfl⟩
theorem vo:Has Tryz.prog pg 8 [(2,none)] aft:=⟨Tryz.f162,by kernel_rfl,by kernel_rfl⟩
theorem oF:Has Tryz.prog fU 9 [(4,none)] afu:=⟨Tryz.f163,by kernel_rfl,by kernel_rfl⟩
theorem yG:Has Tryz.prog mT 8 [(3,none)] afv:=⟨Tryz.f164,by kernel_rfl,by kernel_rfl⟩
theorem AP:Has Tryz.prog ri 33 [(4,none)] afz:=⟨Tryz.f165,by kernel_rfl,by kernel_rfl⟩
end Go.Abs

/-! Frz -/

namespace Go.Abs
theorem aD.w8 {P:Program} {f:Nat} {args:List D} {s0 s:St} {o off n m:Nat} {row:List D} (h:aD P f args s0 (.ptr o off) s) (ho:s.aw[o]? = some row) (hn:s0.aw.length≤n) (hno:n≤o) (hm:s0.aC.length≤m) :
 aD P f args s0 (.dC (D.gq n m row) off) (s.cut n m):=by
 intro M0 w0 fJ r0 kf aiy ha
 refine(h M0 w0 fJ r0 kf aiy ha).mono ?_
 rintro en w ⟨M,d,v0,s',rfl,⟨rfl,rfl⟩,e,r,hv⟩
 have uV:=hv.xh
 have q6:v0 = .pointer (some ⟨M.mu o,off,none⟩):=hv.pW.1
 have J0:o<s'.aw.length:=(List.getElem?_eq_some_iff.1 ho).1
 obtain⟨vs,T,hh,er,⟨lW,_⟩,n7⟩:=r.obj o row ho
 replace hh:=hh.cells uV
 let M':Map:= {M with G:=fun b q=>if b=M.mu o then vs[q]? else M.G b q}
 have hGo : ∀ q,M.G (M.mu o) q=none:=r.jW o J0
 have le:Le M s' M' s':=⟨fun b q v hq=>by
  show(if b=M.mu o then vs[q]? else M.G b q)=some v
  by_cases hb:b=M.mu o
  ·subst hb;rw [hGo]at hq;cases hq
  ·rw [if_neg hb];exact hq,Nat.le_refl _,fun _ _=>rfl,Nat.le_refl _,fun t n' _ e=>⟨n',e,Nat.le_refl _,fun _=>rfl⟩⟩
 have hF : ∀ q,q<(s'.cut n m).aw.length→q<s'.aw.length∧q≠o:=fun q h=>by rw [oC]at h;omega
 have tF:w0.heap.size≤M.mu o:=e.oS o (by omega) J0
 have ec:=e.cut hn hm
 have WO:Le M (s'.cut n m) M' (s'.cut n m):=⟨le.G,Nat.le_refl _,fun _ _=>rfl,Nat.le_refl _,fun t n' _ e=>⟨n',e,Nat.le_refl _,fun _=>rfl⟩⟩
 have rc:=r.cut n m
 have qE : ∀ b,b≠M.mu o→∀ q,M'.G b q=M.G b q:=fun b hb q=>if_neg hb
 refine⟨M',_,v0,_,rfl,⟨rfl,rfl⟩,⟨ec.le.trans WO,ec.kept,ec.oS,ec.oT,fun b q fl=> ?_,ec.size,ec.os,ec.tape,ec.output⟩,⟨fun b q v hq=> ?_,fun q ds hq=> ?_,fun q hq uh=> ?_,rc.inj,fun t n' Lb=> ?_,rc.fe,rc.fG⟩, ?_⟩
 ·by_cases hb:b=M.mu o
  ·subst hb;exact .inl tF
  ·rw [qE b hb]at fl;exact ec.qZ b q fl
 ·have pM:(if b=M.mu o then vs[q]? else M.G b q)=some v:=hq
  by_cases hb:b=M.mu o
  ·rw [if_pos hb]at pM
   rw [hb,jJ hh]
   exact⟨pM,lW v (Array.mem_of_getElem? pM)⟩
  ·rw [if_neg hb]at pM
   exact r.comm b q v pM
 ·obtain⟨fv,T',h3,h4,h5,h6⟩:=rc.obj q ds hq
  exact⟨fv,T',h3,h4,h5,fun i d v e1 e2=>(h6 i d v e1 e2).mono WO⟩
 ·obtain⟨h3,h4⟩:=hF q hq
  show M'.G (M.mu q) uh=none
  rw [qE _ (fun e=>h4 (r.inj q o h3 J0 e))]
  exact r.jW q h3 uh
 ·rcases rc.tok t n' Lb with h3 | ⟨b,cap,z,fv,T',h3,h4,h5,h6,h7⟩
  ·exact .inl h3
  ·refine .inr ⟨b,cap,z,fv,T',h3,h4,h5,h6,fun uh zt=> ?_,h7.2⟩
   rw [qE _ (fun e=>r.fe t b cap z o (sq ⟨n',Lb⟩) h3 J0 e.symm)]
   exact h7.1 uh zt
 ·rw [q6]
  have:=RD.dC (M:=M') (s:=s'.cut n m) (D.gq n m row) off (M.mu o) 0 (fun i d e1=> ?_) (fun i d u e1 eu=> ?_)
  ·simpa using this
  ·rw [mh,List.getElem?_map,Option.map_eq_some_iff]at e1
   obtain⟨d0,e1,rfl⟩:=e1
   have hi:=(List.getElem?_eq_some_iff.1 e1).1
   refine⟨vs[i]'(by omega), ?_⟩
   show(if M.mu o=M.mu o then vs[0+i]? else _)=_
   rw [if_pos rfl,Nat.zero_add]
   exact Array.getElem?_eq_getElem _
  ·rw [mh,List.getElem?_map,Option.map_eq_some_iff]at e1
   obtain⟨d0,e1,rfl⟩:=e1
   have Ho:(if M.mu o=M.mu o then vs[0+i]? else M.G (M.mu o) (0+i))=some u:=eu
   rw [if_pos rfl,Nat.zero_add]at Ho
   exact((n7 i d0 u e1 Ho).fg n m).mono WO
theorem aD.goK {P:Program} {f:FuncId} {res:List (Nat×Option (Bool×Nat))} {body:AC} {args:List D} {s:St} {d:D} {s':St} {nt:Nat} (n m:Nat) (hn:s.aw.length≤n) (hm:s.aC.length≤m) (h0:Has P f nt res body) (hl:Nat.ble args.length nt=true)
 (h : ∀ (B:e9) (Q:Exit→Tm→St→Prop),B.s=s→gS n m res d s'=Q→gi P B nt body Q (mO 0 args) s):aD P f args s d s':=by
 obtain⟨fn,hf,hc⟩:=h0
 refine dT.Q1 (dT.intro (Q:=fun d1 s1=>Wk d1 d∧gH s1.aw s'.aw∧s1.aC=s'.aC) hf hc (Nat.le_of_ble_eq_true hl) fun B hB=>(gB (h B _ hB rfl)).mono fun e tm s1 hr=> ?_) fun d1 s1 ⟨h1,h2,h3⟩=>⟨d,s',h1,h2,h3,rfl,rfl⟩
 subst hB
 cases e with
 | normal=>obtain⟨l,h1,h2,h3,h4⟩:=hr;exact⟨l,h1,_,_,hn,hm,h2,h3,h4⟩
 | ret=>obtain⟨l,h1,h2,h3,h4⟩:=hr;exact⟨l,h1,_,_,hn,hm,h2,h3,h4⟩
 | exit id=>exact hr.elim
 | goto l=>exact hr.elim
 | panic ch=>exact hr.elim
 | outgrown=>exact hr.elim
end Go.Abs

/-! MirLex -/

namespace Go.Abs
def oi (c:UInt8):Bool:=decide ((c.toNat:Int)≥97) && decide ((c.toNat:Int)≤122)
def mU (c:UInt8):Bool:=decide ((c.toNat:Int)≥48) && decide ((c.toNat:Int)≤57)
def sM (c:UInt8):Bool:=(c.toNat:Int)==32 || (c.toNat:Int)==9 || (c.toNat:Int)==10 || (c.toNat:Int)==13
def kv:aB→Nat
 | []=>0
 | c::r=>if oi c || mU c then kv r+1 else 0
def px:aB→Nat
 | []=>0
 | c::r=>if mU c then px r+1 else 0
def mV:aB→Nat
 | []=>0
 | c::r=>if(c.toNat:Int) != 10 then mV r+1 else 0
def isWord (s:aB):Bool:=
 s == [103,108,111,98,97,108] || s == [112,114,111,99] || s == [118,97,114] || s == [114,101,102] || s == [105,102] || s == [101,108,115,101] || s == [119,104,105,108,101] || s == [98,114,101,97,107] || s == [99,111,110,116,105,110,117,101] || s == [114,101,116,117,114,110] || s == [103,111,116,111] || s == [114,101,97,100] || s == [112,114,105,110,116]
def Sn (s:aB):Bool:=s == [61,61] || s == [33,61] || s == [60,61] || s == [62,61] || s == [38,38] || s == [124,124]
def D1 (c:UInt8):Bool:=
 (c.toNat:Int)==40 || (c.toNat:Int)==41 || (c.toNat:Int)==123 || (c.toNat:Int)==125 || (c.toNat:Int)==44 || (c.toNat:Int)==59 || (c.toNat:Int)==58 || (c.toNat:Int)==61 ||
 (c.toNat:Int)==33 || (c.toNat:Int)==60 || (c.toNat:Int)==62 || (c.toNat:Int)==43 || (c.toNat:Int)==45 || (c.toNat:Int)==42 || (c.toNat:Int)==47 || (c.toNat:Int)==37
def qv:aB→Nat
 | []=>0
 | [c]=>if D1 c then 1 else 0
 | c::d::_=>if Sn [c,d]then 2 else if D1 c then 1 else 0
def tG:Int→aB→Option Int
 | n,[]=>some n
 | n,c::r=>if n > (9223372036854775807 - ((c.toNat:Int) - 48)) / 10 then none else tG (n*10+((c.toNat:Int) - 48)) r
def Ca (pos:Nat):aB→bJ ⊕ Int
 | []=> .inr 2
 | c::r=>
  if oi c then
   let s:=(c::r).take (kv (c::r))
   if s.length > 8 then .inr 4 else .inl ⟨if isWord s then 3 else 1,s,0,pos⟩
  else if mU c then
   let s:=(c::r).take (px (c::r))
   if s.length > 1∧(c.toNat:Int)=48 then .inr 2 else
   match tG 0 s with
   | some n=> .inl ⟨2,s,n,pos⟩
   | none=> .inr 4
  else
   if qv (c::r)=0 then .inr 2 else .inl ⟨4,(c::r).take (qv (c::r)),0,pos⟩
def l9:Nat→Nat→aB→List bJ→List bJ×Int×Int
 | 0,_,_,_=>([],0,0)
 | _+1,pos,[],out=>(out++ [⟨0,[],0,pos⟩],0,0)
 | n+1,pos,c::r,out=>
  if sM c then l9 n (pos+1) r out
  else if(c.toNat:Int)==35 then l9 n (pos+mV (c::r)) ((c::r).drop (mV (c::r))) out
  else match Ca pos (c::r)with
   | .inr e=>([],e,pos)
   | .inl t=>if out.length=2000 then([],4,pos)else l9 n (pos+t.text.length) ((c::r).drop t.text.length) (out++ [t])
def ny (text:aB):List bJ×Int×Int:=if text.length > 100000 then([],4,0)else l9 (text.length+1) 0 text []
end Go.Abs

/-! MirMay -/

namespace Go.Abs
def rQ:aB→Bool
 | []=>true
 | c::r=>if !(oi c) && !(mU c)then false else rQ r
def isName:aB→Bool
 | []=>false
 | c::r=>if decide (((r.length+1:Nat):Int) > 8) || !(oi c)then false else if rQ r then !(isWord (c::r))else false
def kK (op:Int):Int:=if op==1 || op==2 then 0 else if op==3 || op==4 then 1 else if decide (op≥5) && decide (op≤17)then 2 else -1
mutual
def Ex.form:Ex→Bool
 | ⟨op,n,name,kids⟩=>
  if kK op != (kids.length:Int) || (op != 1 && n != 0) || decide (n<0) || !((op==2) == !(name == [])) || (!(name == []) && !(isName name))then false else Ex.nM kids
def Ex.nM:List Ex→Bool
 | []=>true
 | x::l=>if !(Ex.form x)then false else Ex.nM l
end
mutual
def Ex.texts:Ex→Prop
 | ⟨_,_,name,kids⟩=>name.length<4611686018427387904∧Ex.sN kids
def Ex.sN:List Ex→Prop
 | []=>True
 | x::l=>x.texts∧Ex.sN l
end
theorem Ex.AQ {x:Ex} : ∀ {l:List Ex},Ex.sN l→x∈l→x.texts
 | y::l,h,m=>by
  rcases List.mem_cons.1 m with rfl | m
  ·exact h.1
  ·exact Ex.AQ h.2 m
theorem Ex.CQ {op n:Int} {name:aB} {kids:List Ex} (h:Ex.texts ⟨op,n,name,kids⟩) {y:Ex} (m:y∈kids):y.texts:=Ex.AQ h.2 m
def Ex.may (x:Ex):Bool:=decide (((min x.depth 21:Nat):Int)≤20) && x.form
def Ex.none (x:Ex):Bool:=x.op==0 && x.n==0 && x.name == [] && (x.kids.length:Int)==0
def df:List aB→Bool
 | []=>true
 | s::l=>if !(isName s)then false else df l
def Ar.may (a:Ar):Bool:=if a.ref then isName a.name && a.x.none else a.name == [] && a.x.may
def Ar.eB:List Ar→Bool
 | []=>true
 | a::l=>if !(a.may)then false else Ar.eB l
def Sm.sO (s:Sm):Bool:=s.kind==1 || s.kind==3 || s.kind==5 || s.kind==6 || (s.kind==9 && s.has)
def Sm.hasName (s:Sm):Bool:=s.kind==1 || s.kind==2 || s.kind==10
def Sm.nz (s:Sm):Bool:=s.kind==4
def Sm.one (s:Sm):Bool:=
 if decide (s.kind<1) || decide (s.kind > 10) || !(df s.labels) || (s.sO && !(s.x.may)) || (!(s.sO) && !(s.x.none)) || (s.has && s.kind != 9)then false
 else if(s.hasName && !(isName s.name)) || (!(s.hasName) && !(s.name == []) && !(s.nz && isName s.name))then false
 else if !(s.nz == !(s.proc == [])) || (s.nz && !(isName s.proc)) || (!(s.nz) && decide ((s.args.length:Int) > 0))then false
 else if !(Ar.eB s.args)then false
 else((s.a7.length:Int)==0 || s.kind==5 || s.kind==6) && ((s.aW.length:Int)==0 || s.kind==5)
structure It where
 s:Sm
 deep:Int
 bZ:Int
 aW:Bool
mutual
def iR (deep bZ:Int) (aW:Bool) (out:List It):Sm→List It
 | ⟨id,kind,labels,name,proc,x,has,args,a7,e⟩=>
  if decide (deep≤12)then fq (deep+1) id true (fq (deep+1) id false (out++ [⟨⟨id,kind,labels,name,proc,x,has,args,a7,e⟩,deep,bZ,aW⟩]) a7) e
  else out++ [⟨⟨id,kind,labels,name,proc,x,has,args,a7,e⟩,deep,bZ,aW⟩]
def fq (deep bZ:Int) (aW:Bool) (out:List It):List Sm→List It
 | []=>out
 | s::l=>if decide ((out.length:Int)≤200)then fq deep bZ aW (iR deep bZ aW out s) l else out
end
def Pc.flat (f:Pc):List It:=fq 1 0 false [] f.body
def allM (out:List It):List Pc→List It
 | []=>out
 | f::l=>if decide (((out++f.flat).length:Int) > 200)then out++f.flat else allM (out++f.flat) l
def Pg.all (p:Pg):List It:=allM [] p.procs
def Pm.eB:List Pm→Bool
 | []=>true
 | a::l=>if !(isName a.name)then false else Pm.eB l
def Pc.oz:List Pc→Bool
 | []=>true
 | f::l=>
  if !(isName f.name) || decide ((f.params.length:Int) > 8) || decide ((f.vars.length:Int) > 16) || !(df f.vars) || !(df f.fin)then false
  else if !(Pm.eB f.params)then false else Pc.oz l
def It.eB (n:Nat):List It→Bool
 | []=>true
 | i::l=>if i.s.id != ((n+1:Nat):Int) || decide (i.deep > 12) || !(i.s.one)then false else It.eB (n+1) l
def Pg.may (p:Pg):Bool:=
 if decide ((p.globals.length:Int) > 16) || decide ((p.procs.length:Int) > 16) || !(df p.globals)then false
 else if !(Pc.oz p.procs)then false
 else if decide ((p.all.length:Int) > 200)then false else It.eB 0 p.all
end Go.Abs

/-! Prs -/

namespace Go.Abs
set_option maxRecDepth 8000
open Go.Proofs
@[go_sem] def bV (r:Rd):List D:= [.slice .shared 4 (r.l.map dP), .int .i64 r.i, .int .i64 r.code, .int .i64 r.o5, .int .i64 r.n]
theorem fk (r:Rd):D.bH 0 0 (bV r)=true:=by simp [bV,D.bH,D.ok,Tag.ok,E5]
theorem qc {r:Rd} {t:bJ} (h:r.l5=some t):r.i<4611686018427387904:=(E7 h).1
theorem is_lt {r:Rd} {s:aB} {t:Bool} (h:r.is s=some t):r.i<4611686018427387904:=by
 obtain⟨t,h1,h⟩:=Option.bind_eq_some_iff.1 h
 exact qc h1
-- good
theorem WQ (l:List bJ) (i c f n:Int):aD Tryz.prog cm [.ptr 0 0] ⟨[[.slice .shared 4 (l.map dP), .int .i64 i, .int .i64 c, .int .i64 f, .int .i64 n]],[]⟩ (.bool (c==0)) ⟨[[.slice .shared 4 (l.map dP), .int .i64 i, .int .i64 c, .int .i64 f, .int .i64 n]],[]⟩:=by
 refine aD.go vl rfl fun B Q hB hQ=> ?_
 have⟨hF,hP,hY,hZ⟩:=bt
 repeat' (first
 | simp only [go_sem,hF,hP,hY,hZ,lA]
 | (with_reducible refine aH hQ ?_;simp only [az,aA,Option.some.injEq,exists_eq_left',go_sem,hF,hP,hY,hZ];repeat' (first | exact Ok.out | with_reducible refine aE ?_ ?_ | (simp;done))))
theorem jw {l:List bJ} {i c f n:Int} {s:St} {o:Nat} (ho:s.aw[o]? = some [.slice .shared 4 (l.map dP), .int .i64 i, .int .i64 c, .int .i64 f, .int .i64 n]):aD Tryz.prog cm [.ptr o 0] s (.bool (c==0)) ⟨s.aw.set o [.slice .shared 4 (l.map dP), .int .i64 i, .int .i64 c, .int .i64 f, .int .i64 n],s.aC⟩:=
 have hk:D.bH 0 0 [.slice .shared 4 (l.map dP), .int .i64 i, .int .i64 c, .int .i64 f, .int .i64 n] = true:=by simp [D.bH,D.ok,Tag.ok,E5]
 aD.jl (WQ l i c f n) rfl hk hk rfl ho
theorem WR {r:Rd} {t:bJ} (h:r.l5=some t):aD Tryz.prog dd [.ptr 0 0] ⟨[bV r],[]⟩ (.agg (dP t)) ⟨[bV r],[]⟩:=by
 obtain⟨h2,h,_,_⟩:=E7 h
 refine aD.go vn rfl fun B Q hB hQ=> ?_
 have⟨hF,hP,hY,hZ⟩:=bt
 repeat' (first
 | simp only [go_sem,hF,hP,hY,hZ,lA,h]
 | (with_reducible refine aH hQ ?_;simp only [az,aA,Option.some.injEq,exists_eq_left',go_sem,hF,hP,hY,hZ];repeat' (first | exact Ok.out | with_reducible refine aE ?_ ?_ | (simp;done))))
theorem nA {r:Rd} {t:bJ} (h:r.l5=some t) {s:St} {o:Nat} (ho:s.aw[o]? = some (bV r)):aD Tryz.prog dd [.ptr o 0] s (.agg (dP t)) ⟨s.aw.set o (bV r),s.aC⟩:=
 (WR h).jl rfl (fk r) (fk r) (DX t) ho
theorem aiz {r:Rd} {text:aB} {b:Bool} (h:r.is text=some b):aD Tryz.prog fc [.ptr 0 0, .str text] ⟨[bV r],[]⟩ (.bool b) ⟨[bV r],[]⟩:=by
 unfold Rd.is at h
 refine aD.go wW rfl fun B Q hB hQ=> ?_
 have⟨hF,hP,hY,hZ⟩:=bt
 repeat' (first
 | simp only [go_sem,hF,hP,hY,hZ,lA]
 | (rw [Option.bind_eq_some_iff]at h;obtain⟨_,h1,h⟩:=h;first | (with_reducible refine CU (nA h1 (by with_unfolding_all rfl)) ?_))
 | (with_reducible first | refine bB fun hc=> ?_ | refine bC fun hc=> ?_ | refine bD (fun hc=> ?_) fun hc=> ?_) <;> (try simp only [hc,bs, ↓reduceIte]at h) <;> try simp only [hc]
 | (with_reducible refine aH hQ ?_;(try cases h);simp only [az,aA,bx,bA,go_sem,hF,hP,hY,hZ,lA];repeat' (first | exact Ok.out | with_reducible refine aE ?_ ?_ | (simp;done))))
theorem xP {r:Rd} {text:aB} {b:Bool} (h:r.is text=some b) {s:St} {o:Nat} (ho:s.aw[o]? = some (bV r)):aD Tryz.prog fc [.ptr o 0, .str text] s (.bool b) ⟨s.aw.set o (bV r),s.aC⟩:=
 (aiz h).jl rfl (fk r) (fk r) rfl ho
theorem aai {r r':Rd} {c:Int} (h:r.bad c=some r'):aD Tryz.prog eg [.ptr 0 0, .int .i64 c] ⟨[bV r],[]⟩ (.tuple []) ⟨[bV r'],[]⟩:=by
 unfold Rd.bad at h
 refine aD.go v7 rfl fun B Q hB hQ=> ?_
 have⟨hF,hP,hY,hZ⟩:=bt
 repeat' (first
 | simp only [go_sem,hF,hP,hY,hZ,lA]
 | (rw [Option.bind_eq_some_iff]at h;obtain⟨_,h1,h⟩:=h;first | (with_reducible refine CU (nA h1 (by with_unfolding_all rfl)) ?_))
 | (with_reducible refine CU (jw (by with_unfolding_all rfl)) ?_)
 | (with_reducible first | refine bB fun hc=> ?_ | refine bC fun hc=> ?_ | refine bD (fun hc=> ?_) fun hc=> ?_) <;> (try simp only [hc,bs, ↓reduceIte]at h) <;> try simp only [hc]
 | (with_reducible refine aH hQ ?_;(try cases h);simp only [az,aA,bx,bA,go_sem,hF,hP,hY,hZ,lA];repeat' (first | exact Ok.out | with_reducible refine aE ?_ ?_ | (simp;done))))
theorem AR {r r':Rd} {c:Int} (h:r.bad c=some r') {s:St} {o:Nat} (ho:s.aw[o]? = some (bV r)):aD Tryz.prog eg [.ptr o 0, .int .i64 c] s (.tuple []) ⟨s.aw.set o (bV r'),s.aC⟩:=
 (aai h).jl rfl (fk r) (fk r') rfl ho
theorem WS {r:Rd} {text:aB} {p:Bool×Rd} (h:r.take text=some p):aD Tryz.prog dc [.ptr 0 0, .str text] ⟨[bV r],[]⟩ (.bool p.1) ⟨[bV p.2],[]⟩:=by
 unfold Rd.take at h
 refine aD.go vk rfl fun B Q hB hQ=> ?_
 have⟨hF,hP,hY,hZ⟩:=bt
 repeat' (first
 | simp only [go_sem,hF,hP,hY,hZ,lA]
 | (rw [Option.bind_eq_some_iff]at h;obtain⟨_,h1,h⟩:=h;first | (with_reducible refine CU (xP h1 (by with_unfolding_all rfl)) ?_;have hF:=is_lt h1))
 | (with_reducible refine CU (jw (by with_unfolding_all rfl)) ?_)
 | (with_reducible first | refine bB fun hc=> ?_ | refine bC fun hc=> ?_ | refine bD (fun hc=> ?_) fun hc=> ?_) <;> (try simp only [hc,bs, ↓reduceIte]at h) <;> try simp only [hc]
 | (with_reducible refine aH hQ ?_;(try cases h);simp only [az,aA,bx,bA,go_sem,hF,hP,hY,hZ,lA];repeat' (first | exact Ok.out | with_reducible refine aE ?_ ?_ | (simp;done))))
theorem qS {r:Rd} {text:aB} {p:Bool×Rd} (h:r.take text=some p) {s:St} {o:Nat} (ho:s.aw[o]? = some (bV r)):aD Tryz.prog dc [.ptr o 0, .str text] s (.bool p.1) ⟨s.aw.set o (bV p.2),s.aC⟩:=
 (WS h).jl rfl (fk r) (fk p.2) rfl ho
theorem WT {r r':Rd} {text:aB} (h:r.want text=some r'):aD Tryz.prog cH [.ptr 0 0, .str text] ⟨[bV r],[]⟩ (.tuple []) ⟨[bV r'],[]⟩:=by
 unfold Rd.want at h
 refine aD.go vf rfl fun B Q hB hQ=> ?_
 have⟨hF,hP,hY,hZ⟩:=bt
 repeat' (first
 | simp only [go_sem,hF,hP,hY,hZ,lA]
 | (rw [Option.bind_eq_some_iff]at h;obtain⟨_,h1,h⟩:=h;first | (with_reducible refine CU (qS h1 (by with_unfolding_all rfl)) ?_))
 | (with_reducible refine CU (AR h (by with_unfolding_all rfl)) ?_)
 | (with_reducible first | refine bB fun hc=> ?_ | refine bC fun hc=> ?_ | refine bD (fun hc=> ?_) fun hc=> ?_) <;> (try simp only [hc,bs, ↓reduceIte]at h) <;> try simp only [hc]
 | (with_reducible refine aH hQ ?_;(try cases h);simp only [az,aA,bx,bA,go_sem,hF,hP,hY,hZ,lA];repeat' (first | exact Ok.out | with_reducible refine aE ?_ ?_ | (simp;done))))
theorem oj {r r':Rd} {text:aB} (h:r.want text=some r') {s:St} {o:Nat} (ho:s.aw[o]? = some (bV r)):aD Tryz.prog cH [.ptr o 0, .str text] s (.tuple []) ⟨s.aw.set o (bV r'),s.aC⟩:=
 (WT h).jl rfl (fk r) (fk r') rfl ho
theorem WU {r:Rd} {room:Bool} {p:aB×Rd} (h:r.name room=some p):aD Tryz.prog dU [.ptr 0 0, .bool room] ⟨[bV r],[]⟩ (.str p.1) ⟨[bV p.2],[]⟩:=by
 unfold Rd.name at h
 refine aD.go ve rfl fun B Q hB hQ=> ?_
 have⟨hF,hP,hY,hZ⟩:=bt
 repeat' (first
 | simp only [go_sem,hF,hP,hY,hZ,lA]
 | (rw [Option.bind_eq_some_iff]at h;obtain⟨_,h1,h⟩:=h;first | (with_reducible refine CU (nA h1 (by with_unfolding_all rfl)) ?_;have hF:=qc h1) | (with_reducible refine CU (AR h1 (by with_unfolding_all rfl)) ?_))
 | (with_reducible refine CU (jw (by with_unfolding_all rfl)) ?_)
 | (with_reducible first | refine bB fun hc=> ?_ | refine bC fun hc=> ?_ | refine bD (fun hc=> ?_) fun hc=> ?_) <;> (try simp only [hc,bs, ↓reduceIte]at h) <;> try simp only [hc]
 | (with_reducible refine aH hQ ?_;(try cases h);simp only [az,aA,bx,bA,go_sem,hF,hP,hY,hZ,lA];repeat' (first | exact Ok.out | with_reducible refine aE ?_ ?_ | (simp;done))))
theorem vq {r:Rd} {room:Bool} {p:aB×Rd} (h:r.name room=some p) {s:St} {o:Nat} (ho:s.aw[o]? = some (bV r)):aD Tryz.prog dU [.ptr o 0, .bool room] s (.str p.1) ⟨s.aw.set o (bV p.2),s.aC⟩:=
 (WU h).jl rfl (fk r) (fk p.2) rfl ho
end Go.Abs

/-! Lex1 -/

namespace Go.Abs
set_option maxRecDepth 8000
open Go.Proofs
theorem gy (c:UInt8) (s:St):aD Tryz.prog nq [.int .u8 (c.toNat:Int)] s (.bool (oi c)) s:=by
 refine aD.pure ?_ rfl rfl s
 generalize h:oi c=b
 unfold oi at h
 unfold S0
 refine aD.go BX rfl fun B Q hB hQ=> ?_
 have⟨hF,hP,hY,hZ⟩:=bt
 repeat' (first
 | simp only [go_sem,hF,hP,hY,hZ]
 | (with_reducible first | refine bB fun hc=> ?_ | refine bC fun hc=> ?_ | refine bD (fun hc=> ?_) fun hc=> ?_) <;> (try simp only [hc,bs, ↓reduceIte]at h) <;> try simp only [hc]
 | (with_reducible refine aH hQ ?_;(try cases h);simp only [az,aA,bx,bA,go_sem,hF,hP,hY,hZ];repeat' (first | exact Ok.out | with_reducible refine aE ?_ ?_ | (simp;done))))
theorem iM (c:UInt8) (s:St):aD Tryz.prog od [.int .u8 (c.toNat:Int)] s (.bool (mU c)) s:=by
 refine aD.pure ?_ rfl rfl s
 generalize h:mU c=b
 unfold mU at h
 unfold S0
 refine aD.go DM rfl fun B Q hB hQ=> ?_
 have⟨hF,hP,hY,hZ⟩:=bt
 repeat' (first
 | simp only [go_sem,hF,hP,hY,hZ]
 | (with_reducible first | refine bB fun hc=> ?_ | refine bC fun hc=> ?_ | refine bD (fun hc=> ?_) fun hc=> ?_) <;> (try simp only [hc,bs, ↓reduceIte]at h) <;> try simp only [hc]
 | (with_reducible refine aH hQ ?_;(try cases h);simp only [az,aA,bx,bA,go_sem,hF,hP,hY,hZ];repeat' (first | exact Ok.out | with_reducible refine aE ?_ ?_ | (simp;done))))
theorem sP (t:aB) (s:St):aD Tryz.prog rN [.str t] s (.bool (isWord t)) s:=by
 refine aD.pure ?_ rfl rfl s
 generalize h:isWord t=b
 unfold isWord at h
 unfold S0
 refine aD.go Fe rfl fun B Q hB hQ=> ?_
 have⟨hF,hP,hY,hZ⟩:=bt
 repeat' (first
 | simp only [go_sem,hF,hP,hY,hZ]
 | (with_reducible first | refine bB fun hc=> ?_ | refine bC fun hc=> ?_ | refine bD (fun hc=> ?_) fun hc=> ?_) <;> (try simp only [hc,bs, ↓reduceIte]at h) <;> try simp only [hc]
 | (with_reducible refine aH hQ ?_;(try cases h);simp only [az,aA,bx,bA,go_sem,hF,hP,hY,hZ];repeat' (first | exact Ok.out | with_reducible refine aE ?_ ?_ | (simp;done))))
theorem Sp {text:aB} {pos:Nat} (hl:text.length<4611686018427387904) (s:St):aD Tryz.prog tz [.str text, .int .i64 (pos:Int)] s (.int .i64 ((pos+kv (text.drop pos):Nat):Int)) s:=by
 refine aD.pure ?_ rfl rfl s
 unfold S0
 refine aD.go GU rfl fun B Q hB hQ=> ?_
 have⟨hF,hP,hY,hZ⟩:=bt
 repeat' (first
 | simp only [go_sem,hF,hP,hY,hZ]
 | (with_reducible refine aH hQ ?_;simp only [az,aA,Option.some.injEq,exists_eq_left',go_sem,hF,hP,hY,hZ];repeat' (first | exact Ok.out | with_reducible refine aE ?_ ?_ | (simp;done))))
 refine cM 0 0 (bm.ind (ι:=aB×Nat) (fun i=>text.drop i.2=i.1∧i.2+kv i.1=pos+kv (text.drop pos)) (fun i=>i.1.length)
  (fun i=> [(0, .str text),(1, .int .i64 (i.2:Int))]) (fun i=>⟨[],[]⟩) ?_ (text.drop pos,pos) ⟨rfl,rfl⟩)
 rintro⟨rest,k⟩ ⟨h1,h2⟩ IH
 dsimp only at h1 h2
 cases rest with
 | nil=>
  have hF:=drop_nil h1
  simp only [kv,Nat.add_zero]at h2
  rw [← h2]at hQ
  repeat' (first
 | simp only [go_sem,hF,hP,hY,hZ]
 | (with_reducible refine aH hQ ?_;simp only [az,aA,Option.some.injEq,exists_eq_left',go_sem,hF,hP,hY,hZ];repeat' (first | exact Ok.out | with_reducible refine aE ?_ ?_ | (simp;done))))
 | cons c rest=>
  obtain⟨hP,g2,hF,g4⟩:=drop_cons h1
  have hY:k<4611686018427387904:=by omega
  cases hb:(oi c || mU c)
  ·simp only [kv,hb,Bool.false_eq_true, ↓reduceIte,Nat.add_zero]at h2
   rw [← h2]at hQ
   simp only [Bool.or_eq_false_iff]at hb
   repeat' (first
 | simp only [go_sem,hF,hP,hY,hZ,hb.1,hb.2]
 | (with_reducible refine CU (gy _ _) ?_)
 | (with_reducible refine CU (iM _ _) ?_)
 | (with_reducible refine aH hQ ?_;simp only [az,aA,Option.some.injEq,exists_eq_left',go_sem,hF,hP,hY,hZ];repeat' (first | exact Ok.out | with_reducible refine aE ?_ ?_ | (simp;done))))
  ·simp only [kv,hb, ↓reduceIte]at h2
   cases Ey:oi c
   ·rw [Ey,Bool.false_or]at hb
    repeat' (first
 | simp only [go_sem,hF,hP,hY,hZ,hb,Ey]
 | (with_reducible refine CU (gy _ _) ?_)
 | (with_reducible refine CU (iM _ _) ?_)
 | (with_reducible refine aH hQ ?_;simp only [az,aA,Option.some.injEq,exists_eq_left',go_sem,hF,hP,hY,hZ];repeat' (first | exact Ok.out | with_reducible refine aE ?_ ?_ | (simp;done))))
    refine cM 0 0 (IH (rest,k+1) ⟨g2,by dsimp only;omega⟩ (Nat.lt_succ_self _))
   ·repeat' (first
 | simp only [go_sem,hF,hP,hY,hZ,Ey]
 | (with_reducible refine CU (gy _ _) ?_)
 | (with_reducible refine CU (iM _ _) ?_)
 | (with_reducible refine aH hQ ?_;simp only [az,aA,Option.some.injEq,exists_eq_left',go_sem,hF,hP,hY,hZ];repeat' (first | exact Ok.out | with_reducible refine aE ?_ ?_ | (simp;done))))
    refine cM 0 0 (IH (rest,k+1) ⟨g2,by dsimp only;omega⟩ (Nat.lt_succ_self _))
theorem v8 (text:aB) (a b:Nat):(text.take (a+b)).drop a=(text.drop a).take b:=by rw [List.drop_take];congr 1;omega
set_option maxRecDepth 20000 in
theorem WV {text : aB} {pos : Nat} {c : UInt8} {r : aB} (hd : text.drop pos = c :: r) (hl : text.length < 4611686018427387904) (s : St) :
   aD Tryz.prog vU [.str text, .int .i64 (pos : Int)] s (.int .i64 ((qv (c :: r) : Nat) : Int)) s := by
 refine aD.pure ?_ rfl rfl s
 obtain ⟨hP, g2, g3, g4⟩ := drop_cons hd
 have hY : pos < 4611686018427387904 := by omega
 have hZ : 0 < 1 := Nat.zero_lt_one
 generalize h : qv (c :: r) = k
 unfold S0
 cases r with
 | nil =>
   have hF : decide (((pos + 1 : Nat) : Int) < (text.length : Int)) = false := drop_nil g2
   simp only [qv, D1] at h
   refine aD.go xO rfl fun B Q hB hQ => ?_
   repeat' (first
 | simp only [go_sem, hF, hP, hY, hZ]
 | (with_reducible first | refine bB fun hc => ?_ | refine bC fun hc => ?_ | refine bD (fun hc => ?_) fun hc => ?_) <;> (try simp only [hc, bs, ↓reduceIte] at h) <;> try simp only [hc]
 | (with_reducible refine aH hQ ?_; exact pQ)
 | (cases h; done))
 | cons d r =>
   obtain ⟨_, _, hF, _⟩ := drop_cons g2
   have e1 : (text.take (pos + 2)).drop pos = [c, d] := by rw [v8, hd]; rfl
   have e2 : (0 : Int) ≤ (pos : Int) ∧ (pos : Int) ≤ ((pos + 2 : Nat) : Int) ∧ ((pos + 2 : Nat) : Int) ≤ (text.length : Int) := by omega
   simp only [qv, D1, Sn] at h
   refine aD.go xO rfl fun B Q hB hQ => ?_
   repeat' (first
 | simp only [go_sem, hF, hP, hY, hZ, e1, e2]
 | (with_reducible first | refine bB fun hc => ?_ | refine bC fun hc => ?_ | refine bD (fun hc => ?_) fun hc => ?_) <;> (try simp only [hc, bs, ↓reduceIte] at h) <;> try simp only [hc]
 | (with_reducible refine aH hQ ?_; (try cases h); simp only [az, aA, bx, bA, go_sem, hF, hP, hY, hZ, e1, e2]; try exact Aq)
 | (cases h; done))
theorem Mb {c:UInt8} (h:mU c=true):48≤(c.toNat:Int)∧(c.toNat:Int)≤57:=by
 simp only [mU,Bool.and_eq_true,decide_eq_true_eq]at h
 omega
def nB (s:aB):Int×Bool:=match tG 0 s with | some n=>(n,true) | none=>(0,false)
theorem Pv {text:aB} (hd : ∀ c∈text,mU c=true) (hl:text.length<4611686018427387904) (s:St) :
 aD Tryz.prog sF [.str text] s (.tuple [.int .i64 (nB text).1, .bool (nB text).2]) s:=by
 refine aD.pure ?_ rfl rfl s
 generalize hw:nB text=p
 unfold S0
 refine aD.go B6 rfl fun B Q hB hQ=> ?_
 have⟨hF,hP,hY,hZ⟩:=bt
 repeat' (first
 | simp only [go_sem,hF,hP,hY,hZ]
 | (with_reducible first | refine bB fun hc=> ?_ | refine bC fun hc=> ?_ | refine bD (fun hc=> ?_) fun hc=> ?_) <;> (try simp only [hc,bs, ↓reduceIte]at h) <;> try simp only [hc]
 | (with_reducible refine aH hQ ?_;exact pQ)
 | (cases h;done))
 refine cM 0 0 (bm.ind (ι:=aB×Nat×Int) (fun i=>text.drop i.2.1=i.1∧0≤i.2.2∧i.2.2≤9223372036854775807∧(match tG i.2.2 i.1 with | some n=>(n,true) | none=>(0,false))=p) (fun i=>i.1.length)
  (fun i=> [(0, .str text),(4, .int .i64 i.2.2),(5, .int .i64 (i.2.1:Int))]) (fun i=>⟨[],[]⟩) ?_ (text,0,0) ⟨rfl,Int.le_refl 0,by dsimp only;omega,hw⟩)
 rintro⟨rest,k,n⟩ ⟨h1,h2,h3,h⟩ IH
 dsimp only at h1 h2 h3 h
 cases rest with
 | nil=>
  have hF:=drop_nil h1
  simp only [tG]at h
  repeat' (first
 | simp only [go_sem,hF,hP,hY,hZ]
 | (with_reducible first | refine bB fun hc=> ?_ | refine bC fun hc=> ?_ | refine bD (fun hc=> ?_) fun hc=> ?_) <;> (try simp only [hc,bs, ↓reduceIte]at h) <;> try simp only [hc]
 | (with_reducible refine aH hQ ?_;exact pQ)
 | (cases h;done))
 | cons c rest=>
  obtain⟨hP,g2,hF,g4⟩:=drop_cons h1
  have hY:k<4611686018427387904:=by omega
  have hc:=Mb (hd c (List.mem_of_getElem? hP))
  have w1:IntKind.wrap .u8 ((c.toNat:Int) - 48)=(c.toNat:Int) - 48:=by rw [IntKind.wrap_u8];omega
  have w2:IntKind.wrap .i64 ((c.toNat:Int) - 48)=(c.toNat:Int) - 48:=cY (by omega) (by omega)
  have w3:IntKind.wrap .i64 (9223372036854775807 - ((c.toNat:Int) - 48))=9223372036854775807 - ((c.toNat:Int) - 48):=cY (by omega) (by omega)
  have w4:IntKind.wrap .i64 ((9223372036854775807 - ((c.toNat:Int) - 48)).tdiv 10)=(9223372036854775807 - ((c.toNat:Int) - 48)) / 10:=by
   rw [Int.tdiv_eq_ediv_of_nonneg (by omega)];exact cY (by omega) (by omega)
  have t10:((10:Int)=0)=False:=by simp
  simp only [tG]at h
  by_cases hn:n > (9223372036854775807 - ((c.toNat:Int) - 48)) / 10
  ·have n9:decide (n > (9223372036854775807 - ((c.toNat:Int) - 48)) / 10)=true:=by simpa using hn
   rw [if_pos hn]at h
   repeat' (first
 | simp only [go_sem,hF,hP,hY,hZ,w1,w2,w3,w4,t10,n9]
 | (with_reducible first | refine bB fun hc=> ?_ | refine bC fun hc=> ?_ | refine bD (fun hc=> ?_) fun hc=> ?_) <;> (try simp only [hc,bs, ↓reduceIte]at h) <;> try simp only [hc]
 | (with_reducible refine aH hQ ?_;(try cases h);simp only [az,aA,bx,bA,go_sem,hF,hP,hY,hZ,w1,w2,w3,w4,t10,n9];try exact Aq)
 | (cases h;done))
  ·have n9:decide (n > (9223372036854775807 - ((c.toNat:Int) - 48)) / 10)=false:=by simpa using hn
   rw [if_neg hn]at h
   have w5:IntKind.wrap .i64 (n*10)=n*10:=cY (by omega) (by omega)
   have w6:IntKind.wrap .i64 (n*10+((c.toNat:Int) - 48))=n*10+((c.toNat:Int) - 48):=cY (by omega) (by omega)
   repeat' (first
 | simp only [go_sem,hF,hP,hY,hZ,w1,w2,w3,w4,t10,n9,w5,w6]
 | (with_reducible first | refine bB fun hc=> ?_ | refine bC fun hc=> ?_ | refine bD (fun hc=> ?_) fun hc=> ?_) <;> (try simp only [hc,bs, ↓reduceIte]at h) <;> try simp only [hc]
 | (with_reducible refine aH hQ ?_;(try cases h);simp only [az,aA,bx,bA,go_sem,hF,hP,hY,hZ,w1,w2,w3,w4,t10,n9,w5,w6];try exact Aq)
 | (cases h;done))
   refine cM 0 0 (IH (rest,k+1,n*10+((c.toNat:Int) - 48)) ⟨g2,by dsimp only;omega,by dsimp only;omega,h⟩ (Nat.lt_succ_self _))
end Go.Abs

/-! Lex2 -/

namespace Go.Abs
set_option maxRecDepth 8000
open Go.Proofs
theorem Pw {c:UInt8} {r:aB} (h:oi c=true):0<kv (c::r):=by simp [kv,h]
theorem Fk : ∀ s:aB,kv s≤s.length
 | []=>Nat.le_refl _
 | c::r=>by simp only [kv];split <;> simp only [List.length_cons] <;> have:=Fk r <;> omega
theorem Fl : ∀ s:aB,px s≤s.length
 | []=>Nat.le_refl _
 | c::r=>by simp only [px];split <;> simp only [List.length_cons] <;> have:=Fl r <;> omega
theorem CR : ∀ s:aB,mV s≤s.length
 | []=>Nat.le_refl _
 | c::r=>by simp only [mV];split <;> simp only [List.length_cons] <;> have:=CR r <;> omega
theorem Mc : ∀ s:aB,qv s≤s.length
 | []=>Nat.le_refl _
 | [c]=>by simp only [qv];split <;> simp
 | c::d::r=>by simp only [qv];(repeat' split) <;> simp
theorem Fm : ∀ (s:aB),∀ c∈s.take (px s),mU c=true
 | [],c,h=>by simp [px]at h
 | d::r,c,h=>by
  simp only [px]at h
  split at h
  ·rw [List.take_succ_cons]at h
   rcases List.mem_cons.1 h with rfl | h
   ·assumption
   ·exact Fm r c h
  ·simp at h
def lH (f:Int×Int):List D:= [.int .i64 f.1, .int .i64 f.2]
def mW (text:aB) (out:List bJ) (pos:Nat):Tm:= [(0, .str text),(3, .ptr 0 0),(4, .slice (.tok 0) 4 (out.map dP)),(5, .ptr 1 0),(6, .int .i64 (pos:Int))]
def nN (out:List bJ):St:=⟨[[.int .i64 0, .int .i64 0],[.junk, .junk, .junk, .junk]],[some out.length]⟩
theorem Md {c:UInt8} {r:aB} (h:((c.toNat:Int)==35)=true):0<mV (c::r):=by
 have:((c.toNat:Int) != 10)=true:=by simp only [beq_iff_eq]at h;simp [h]
 simp [mV,this]
def qw (text:aB) (B:e9) (Q:Exit→Tm→St→Prop) (p:List bJ×Int×Int) (N:Nat):Prop:=
 ∀ (n pos:Nat) (rest:aB) (out:List bJ),text.drop pos=rest→l9 n pos rest out=p→rest.length<n→out.length≤2000→pos≤text.length→n<N→
  mB Tryz.prog B 152 sK (.seq .skip xL) Q (mW text out pos) (nN out)
theorem qw.to {text:aB} {B:e9} {Q:Exit→Tm→St→Prop} {p:List bJ×Int×Int} {N:Nat} (hB:B.s=S0) (IH:qw text B Q p N) {n pos:Nat} {rest:aB} {out:List bJ} {tm:Tm} {s:St}
 (h1:text.drop pos=rest) (h:l9 n pos rest out=p) (h2:rest.length<n) (h3:out.length≤2000) (h4:pos≤text.length) (h5:n<N)
 (ht:rz tm 2 1 (mW text out pos)) (ho:gH (s.cut 2 1).aw (nN out).aw) (hk:(s.cut 2 1).aC=(nN out).aC) :
 iQ Tryz.prog B 152 sK Q (.goto 0) tm s:=by
 refine On (l:=0) (r:= .seq .skip xL) rfl (mB.re _ _ 2 1 (by rw [hB];exact k9 rfl) (by rw [hB];exact k9 rfl) ht ho ?_)
 have:=IH n pos rest out h1 h h2 h3 h4 h5
 rw [hk]
 exact this
attribute [go_sem] mW nN lH
theorem lex_nil {text:aB} (hl:text.length≤100000) {B:e9} {Q:Exit→Tm→St→Prop} {p:List bJ×Int×Int} (hB:B.s=S0)
 (hQ:gS 0 0 [(2,none),(3,some (true,2))] (.tuple [.slice .shared 4 (p.1.map dP), .agg (lH p.2)]) ⟨[],[]⟩=Q)
 {n pos:Nat} {out:List bJ} (ho:out.length≤2000) (hp:pos≤text.length) (IH:qw text B Q p (n+1))
 (h1:text.drop pos = []) (h:l9 (n+1) pos [] out=p):gi Tryz.prog B 152 xL (iQ Tryz.prog B 152 sK Q) (mW text out pos) (nN out):=by
 have⟨hF,hP,hY,hZ⟩:=bt
 have fI:(out.length+1)*41≤bI:=by simp only [bI];omega
 have ek:decide ((pos:Int)≥(text.length:Int))=true:=by have:=List.drop_eq_nil_iff.1 h1;simp;omega
 have:pos=text.length:=by have:=List.drop_eq_nil_iff.1 h1;omega
 subst this
 simp only [l9]at h
 repeat' (first
 | simp only [go_sem,hF,hP,hY,hZ,ek,fI]
 | (with_reducible first | refine bB fun hc=> ?_ | refine bC fun hc=> ?_ | refine bD (fun hc=> ?_) fun hc=> ?_) <;> (try simp only [hc,bs, ↓reduceIte]at h) <;> try simp only [hc]
 | (with_reducible refine aH hQ ?_;(try cases h);simp only [az,aA,bx,bA,go_sem,hF,hP,hY,hZ,ek,fI];repeat' (first | exact Ok.out | with_reducible refine aE ?_ ?_ | (simp;done))))
theorem Me {text:aB} (hl:text.length≤100000) {B:e9} {Q:Exit→Tm→St→Prop} {p:List bJ×Int×Int} (hB:B.s=S0)
 (hQ:gS 0 0 [(2,none),(3,some (true,2))] (.tuple [.slice .shared 4 (p.1.map dP), .agg (lH p.2)]) ⟨[],[]⟩=Q)
 {n pos:Nat} {out:List bJ} (ho:out.length≤2000) (hp:pos≤text.length) (IH:qw text B Q p (n+1))
 {c:UInt8} {r:aB} (h1:text.drop pos=c::r) (hb:sM c=true) (hn:(c::r).length<n+1) (h:l9 (n+1) pos (c::r) out=p) :
 gi Tryz.prog B 152 xL (iQ Tryz.prog B 152 sK Q) (mW text out pos) (nN out):=by
 have hY:0<1:=Nat.zero_lt_one
 have hZ:0<1:=Nat.zero_lt_one
 obtain⟨hP,g2,g3,g4⟩:=drop_cons h1
 have hF:pos<4611686018427387904:=by omega
 have ek:decide ((pos:Int)≥(text.length:Int))=false:=by simp;omega
 simp only [l9,hb, ↓reduceIte]at h
 have n9:r.length<n:=by simp only [List.length_cons]at hn;omega
 have e : ∀ x y:Int,(x==y)=false→(x==y)=true→False:=fun x y a b=>by rw [a]at b;cases b
 simp only [sM]at hb
 repeat' (first
 | simp only [go_sem,hF,hP,hY,hZ,ek]
 | (refine IH.to hB g2 h n9 ho g4 (Nat.lt_succ_self _) ?_ ?_ ?_ <;> ((try simp only [go_sem,hF,hP,hY,hZ]);repeat' (first | exact Ok.out | with_reducible refine aE ?_ ?_ | omega | (simp;done)));done)
 | (with_reducible first | refine bB fun hc=> ?_ | refine bC fun hc=> ?_ | refine bD (fun hc=> ?_) fun hc=> ?_) <;> (try simp only [hc,bs, ↓reduceIte]at h) <;> try simp only [hc]
 | (with_reducible refine aH hQ ?_;simp only [az,aA,bx,bA,go_sem,hF,hP,hY,hZ];repeat' (first | exact Ok.out | with_reducible refine aE ?_ ?_ | (simp;done))))
 all_goals (exfalso;simp_all;done)
theorem J1 {text:aB} (hl:text.length≤100000) {B:e9} {Q:Exit→Tm→St→Prop} {p:List bJ×Int×Int} (hB:B.s=S0)
 (hQ:gS 0 0 [(2,none),(3,some (true,2))] (.tuple [.slice .shared 4 (p.1.map dP), .agg (lH p.2)]) ⟨[],[]⟩=Q)
 {n pos:Nat} {out:List bJ} (ho:out.length≤2000) (hp:pos≤text.length) (IH:qw text B Q p (n+1))
 {c:UInt8} {r:aB} (h1:text.drop pos=c::r) (hb:sM c=false) (hc:((c.toNat:Int)==35)=true) (hn:(c::r).length<n+1) (h:l9 (n+1) pos (c::r) out=p) :
 gi Tryz.prog B 152 xL (iQ Tryz.prog B 152 sK Q) (mW text out pos) (nN out):=by
 have hY:0<1:=Nat.zero_lt_one
 have hZ:0<1:=Nat.zero_lt_one
 have aaj:=(drop_cons h1).1
 have hP:=aaj
 have g4:=(drop_cons h1).2.2.2
 have hF:pos<4611686018427387904:=by omega
 have ek:decide ((pos:Int)≥(text.length:Int))=false:=by simp;omega
 simp only [l9,hb,Bool.false_eq_true, ↓reduceIte,hc]at h
 simp only [sM,Bool.or_eq_false_iff]at hb
 have hk:=Md (r:=r) hc
 have cb:=CR (c::r)
 have qT:(c::r).length=text.length - pos:=by rw [← h1,List.length_drop]
 generalize hL:mV (c::r)=L at h hk cb
 repeat' (first
 | simp only [go_sem,hF,hP,hY,hZ,ek,hb.1.1.1,hb.1.1.2,hb.1.2,hb.2,hc]
 | (with_reducible refine bN (l:=1) (by with_unfolding_all rfl) ?_)
 | (with_reducible refine aH hQ ?_;simp only [az,aA,Option.some.injEq,exists_eq_left',go_sem,hF,hP,hY,hZ];repeat' (first | exact Ok.out | with_reducible refine aE ?_ ?_ | (simp;done))))
 refine cM 2 1 (bm.ind (ι:=aB×Nat) (fun i=>text.drop i.2=i.1∧i.2+mV i.1=pos+L) (fun i=>i.1.length)
  (fun i=>mW text out i.2) (fun i=>nN out) ?_ (c::r,pos) ⟨h1,by dsimp only;omega⟩)
 rintro⟨rest,k⟩ ⟨j1,j2⟩ WW
 dsimp only at j1 j2
 have fin:text.drop (pos+L)=(c::r).drop L:=by rw [← h1,List.drop_drop]
 have hlen:((c::r).drop L).length<n:=by rw [List.length_drop];omega
 cases rest with
 | nil=>
  have ek:=drop_nil j1
  simp only [mV,Nat.add_zero]at j2
  subst j2
  repeat' (first
 | simp only [go_sem,hF,hP,hY,hZ,ek]
 | (refine IH.to hB fin h hlen ho (by omega) (Nat.lt_succ_self _) ?_ ?_ ?_ <;> ((try simp only [go_sem,hF,hP,hY,hZ]);repeat' (first | exact Ok.out | with_reducible refine aE ?_ ?_ | omega | (simp;done)));done)
 | (with_reducible refine aH hQ ?_;simp only [az,aA,Option.some.injEq,exists_eq_left',go_sem,hF,hP,hY,hZ];repeat' (first | exact Ok.out | with_reducible refine aE ?_ ?_ | (simp;done))))
 | cons d rest=>
  obtain⟨hP,g2,ek,g5⟩:=drop_cons j1
  have hF:k<4611686018427387904:=by omega
  cases hd:((d.toNat:Int) != 10)
  ·simp only [mV,hd,Bool.false_eq_true, ↓reduceIte,Nat.add_zero]at j2
   subst j2
   repeat' (first
 | simp only [go_sem,hF,hP,hY,hZ,ek,hd]
 | (refine IH.to hB fin h hlen ho (by omega) (Nat.lt_succ_self _) ?_ ?_ ?_ <;> ((try simp only [go_sem,hF,hP,hY,hZ]);repeat' (first | exact Ok.out | with_reducible refine aE ?_ ?_ | omega | (simp;done)));done)
 | (with_reducible refine aH hQ ?_;simp only [az,aA,Option.some.injEq,exists_eq_left',go_sem,hF,hP,hY,hZ];repeat' (first | exact Ok.out | with_reducible refine aE ?_ ?_ | (simp;done))))
  ·simp only [mV,hd, ↓reduceIte]at j2
   repeat' (first
 | simp only [go_sem,hF,hP,hY,hZ,ek,hd]
 | (with_reducible refine aH hQ ?_;simp only [az,aA,Option.some.injEq,exists_eq_left',go_sem,hF,hP,hY,hZ];repeat' (first | exact Ok.out | with_reducible refine aE ?_ ?_ | (simp;done))))
   refine cM 2 1 (WW (rest,k+1) ⟨g2,by dsimp only;omega⟩ (Nat.lt_succ_self _))
theorem Px {text:aB} (hl:text.length≤100000) {B:e9} {Q:Exit→Tm→St→Prop} {p:List bJ×Int×Int} (hB:B.s=S0)
 (hQ:gS 0 0 [(2,none),(3,some (true,2))] (.tuple [.slice .shared 4 (p.1.map dP), .agg (lH p.2)]) ⟨[],[]⟩=Q)
 {n pos:Nat} {out:List bJ} (ho:out.length≤2000) (hp:pos≤text.length) (IH:qw text B Q p (n+1))
 {c:UInt8} {r:aB} (h1:text.drop pos=c::r) (hb:sM c=false) (hc:((c.toNat:Int)==35)=false) (hL:oi c=false) (hD:mU c=false) (hn:(c::r).length<n+1) (h:l9 (n+1) pos (c::r) out=p) :
 gi Tryz.prog B 152 xL (iQ Tryz.prog B 152 sK Q) (mW text out pos) (nN out):=by
 have hY:0<1:=Nat.zero_lt_one
 have hZ:0<1:=Nat.zero_lt_one
 have hP:=(drop_cons h1).1
 have g4:=(drop_cons h1).2.2.2
 have hF:pos<4611686018427387904:=by omega
 have ek:decide ((pos:Int)≥(text.length:Int))=false:=by simp;omega
 have fI:(out.length+1)*41≤bI:=by simp only [bI];omega
 have D2:=fun s=>WV h1 (by omega) s
 have cb:=Mc (c::r)
 have qT:(c::r).length=text.length - pos:=by rw [← h1,List.length_drop]
 simp only [l9,hb,Bool.false_eq_true, ↓reduceIte,hc,Ca,hL,hD]at h
 simp only [sM,Bool.or_eq_false_iff]at hb
 generalize hK:qv (c::r)=k at h D2 cb
 have e1:IntKind.wrap .i64 ((pos:Int)+(k:Int))=((pos+k:Nat):Int):=by rw [cY] <;> omega
 have e2:(0:Int)≤(pos:Int)∧(pos:Int)≤((pos+k:Nat):Int)∧((pos+k:Nat):Int)≤(text.length:Int):=by omega
 have e3:(text.take (pos+k)).drop pos=(c::r).take k:=by rw [v8,h1]
 by_cases hz:k=0
 ·have mq:decide (((pos+k:Nat):Int) > (pos:Int))=false:=by simp;omega
  simp only [hz, ↓reduceIte]at h
  repeat' (first
 | simp only [go_sem,hF,hP,hY,hZ,ek,hb.1.1.1,hb.1.1.2,hb.1.2,hb.2,hc,hL,hD,e1,e2,e3,mq]
 | (with_reducible refine CU (gy _ _) ?_)
 | (with_reducible refine CU (iM _ _) ?_)
 | (with_reducible refine CU (D2 _) ?_)
 | (with_reducible refine bN (l:=4) (by with_unfolding_all rfl) ?_)
 | (with_reducible refine bN (l:=5) (by with_unfolding_all rfl) ?_)
 | (with_reducible first | refine bB fun hc=> ?_ | refine bC fun hc=> ?_ | refine bD (fun hc=> ?_) fun hc=> ?_) <;> (try simp only [hc,bs, ↓reduceIte]at h) <;> try simp only [hc]
 | (with_reducible refine aH hQ ?_;(try cases h);simp only [az,aA,bx,bA,go_sem,hF,hP,hY,hZ,ek,hb.1.1.1,hb.1.1.2,hb.1.2,hb.2,hc,hL,hD,e1,e2,e3,mq];repeat' (first | exact Ok.out | with_reducible refine aE ?_ ?_ | (simp;done))))
 ·have mq:decide (((pos+k:Nat):Int) > (pos:Int))=true:=by simp;omega
  have hlen:((c::r).take k).length=k:=by rw [List.length_take];omega
  have fin:text.drop (pos+k)=(c::r).drop k:=by rw [← h1,List.drop_drop]
  have rR:((c::r).drop k).length<n:=by rw [List.length_drop];omega
  simp only [hz, ↓reduceIte,hlen]at h
  by_cases pN:out.length=2000
  ·have je:((out.length:Int)==2000)=true:=by simp [pN]
   simp only [pN, ↓reduceIte]at h
   repeat' (first
 | simp only [go_sem,hF,hP,hY,hZ,ek,hb.1.1.1,hb.1.1.2,hb.1.2,hb.2,hc,hL,hD,e1,e2,e3,mq,je]
 | (with_reducible refine CU (gy _ _) ?_)
 | (with_reducible refine CU (iM _ _) ?_)
 | (with_reducible refine CU (D2 _) ?_)
 | (with_reducible refine bN (l:=4) (by with_unfolding_all rfl) ?_)
 | (with_reducible refine bN (l:=5) (by with_unfolding_all rfl) ?_)
 | (with_reducible first | refine bB fun hc=> ?_ | refine bC fun hc=> ?_ | refine bD (fun hc=> ?_) fun hc=> ?_) <;> (try simp only [hc,bs, ↓reduceIte]at h) <;> try simp only [hc]
 | (with_reducible refine aH hQ ?_;(try cases h);simp only [az,aA,bx,bA,go_sem,hF,hP,hY,hZ,ek,hb.1.1.1,hb.1.1.2,hb.1.2,hb.2,hc,hL,hD,e1,e2,e3,mq,je];repeat' (first | exact Ok.out | with_reducible refine aE ?_ ?_ | (simp;done))))
  ·have je:((out.length:Int)==2000)=false:=by simp;omega
   have yU : ∀ t:bJ,(out++ [t]).length≤2000:=by intro t;simp;omega
   simp only [pN, ↓reduceIte]at h
   repeat' (first
 | simp only [go_sem,hF,hP,hY,hZ,ek,hb.1.1.1,hb.1.1.2,hb.1.2,hb.2,hc,hL,hD,e1,e2,e3,mq,je,fI]
 | (with_reducible refine CU (gy _ _) ?_)
 | (with_reducible refine CU (iM _ _) ?_)
 | (with_reducible refine CU (D2 _) ?_)
 | (with_reducible refine bN (l:=4) (by with_unfolding_all rfl) ?_)
 | (with_reducible refine bN (l:=5) (by with_unfolding_all rfl) ?_)
 | (refine IH.to hB fin h rR (yU _) (by omega) (Nat.lt_succ_self _) ?_ ?_ ?_ <;> ((try simp only [go_sem,hF,hP,hY,hZ]);repeat' (first | exact Ok.out | with_reducible refine aE ?_ ?_ | omega | (simp;done)));done)
 | (with_reducible refine aH hQ ?_;simp only [az,aA,bx,bA,go_sem,hF,hP,hY,hZ];repeat' (first | exact Ok.out | with_reducible refine aE ?_ ?_ | (simp;done))))
theorem Py {text:aB} (hl:text.length≤100000) {B:e9} {Q:Exit→Tm→St→Prop} {p:List bJ×Int×Int} (hB:B.s=S0)
 (hQ:gS 0 0 [(2,none),(3,some (true,2))] (.tuple [.slice .shared 4 (p.1.map dP), .agg (lH p.2)]) ⟨[],[]⟩=Q)
 {n pos:Nat} {out:List bJ} (ho:out.length≤2000) (hp:pos≤text.length) (IH:qw text B Q p (n+1))
 {c:UInt8} {r:aB} (h1:text.drop pos=c::r) (hb:sM c=false) (hc:((c.toNat:Int)==35)=false) (hL:oi c=true) (hn:(c::r).length<n+1) (h:l9 (n+1) pos (c::r) out=p) :
 gi Tryz.prog B 152 xL (iQ Tryz.prog B 152 sK Q) (mW text out pos) (nN out):=by
 have hY:0<1:=Nat.zero_lt_one
 have hZ:0<1:=Nat.zero_lt_one
 have hP:=(drop_cons h1).1
 have g4:=(drop_cons h1).2.2.2
 have hF:pos<4611686018427387904:=by omega
 have ek:decide ((pos:Int)≥(text.length:Int))=false:=by simp;omega
 have fI:(out.length+1)*41≤bI:=by simp only [bI];omega
 have dz:=fun s=>Sp (text:=text) (pos:=pos) (by omega) s
 rw [h1]at dz
 have cb:=Fk (c::r)
 have sh:=Pw (r:=r) hL
 have qT:(c::r).length=text.length - pos:=by rw [← h1,List.length_drop]
 simp only [l9,hb,Bool.false_eq_true, ↓reduceIte,hc,Ca,hL]at h
 simp only [sM,Bool.or_eq_false_iff]at hb
 generalize hK:kv (c::r)=k at h dz cb sh
 have hlen:((c::r).take k).length=k:=by rw [List.length_take];omega
 simp only [hlen]at h
 have e1:IntKind.wrap .i64 (((pos+k:Nat):Int) - (pos:Int))=(k:Int):=by rw [cY] <;> omega
 have e2:(0:Int)≤(pos:Int)∧(pos:Int)≤((pos+k:Nat):Int)∧((pos+k:Nat):Int)≤(text.length:Int):=by omega
 have e3:(text.take (pos+k)).drop pos=(c::r).take k:=by rw [v8,h1]
 by_cases hz:k > 8
 ·have mq:decide ((k:Int) > 8)=true:=by simp;omega
  simp only [hz, ↓reduceIte]at h
  cases hw:isWord ((c::r).take k)
  ·repeat' (first
 | simp only [go_sem,hF,hP,hY,hZ,ek,hb.1.1.1,hb.1.1.2,hb.1.2,hb.2,hc,hL,e1,e2,e3,mq,hw]
 | (with_reducible refine CU (gy _ _) ?_)
 | (with_reducible refine CU (dz _) ?_)
 | (with_reducible refine CU (sP _ _) ?_)
 | (with_reducible refine bN (l:=2) (by with_unfolding_all rfl) ?_)
 | (with_reducible refine bN (l:=4) (by with_unfolding_all rfl) ?_)
 | (with_reducible refine bN (l:=5) (by with_unfolding_all rfl) ?_)
 | (with_reducible first | refine bB fun hc=> ?_ | refine bC fun hc=> ?_ | refine bD (fun hc=> ?_) fun hc=> ?_) <;> (try simp only [hc,bs, ↓reduceIte]at h) <;> try simp only [hc]
 | (with_reducible refine aH hQ ?_;(try cases h);simp only [az,aA,bx,bA,go_sem,hF,hP,hY,hZ,ek,hb.1.1.1,hb.1.1.2,hb.1.2,hb.2,hc,hL,e1,e2,e3,mq,hw];repeat' (first | exact Ok.out | with_reducible refine aE ?_ ?_ | (simp;done))))
  ·repeat' (first
 | simp only [go_sem,hF,hP,hY,hZ,ek,hb.1.1.1,hb.1.1.2,hb.1.2,hb.2,hc,hL,e1,e2,e3,mq,hw]
 | (with_reducible refine CU (gy _ _) ?_)
 | (with_reducible refine CU (dz _) ?_)
 | (with_reducible refine CU (sP _ _) ?_)
 | (with_reducible refine bN (l:=2) (by with_unfolding_all rfl) ?_)
 | (with_reducible refine bN (l:=4) (by with_unfolding_all rfl) ?_)
 | (with_reducible refine bN (l:=5) (by with_unfolding_all rfl) ?_)
 | (with_reducible first | refine bB fun hc=> ?_ | refine bC fun hc=> ?_ | refine bD (fun hc=> ?_) fun hc=> ?_) <;> (try simp only [hc,bs, ↓reduceIte]at h) <;> try simp only [hc]
 | (with_reducible refine aH hQ ?_;(try cases h);simp only [az,aA,bx,bA,go_sem,hF,hP,hY,hZ,ek,hb.1.1.1,hb.1.1.2,hb.1.2,hb.2,hc,hL,e1,e2,e3,mq,hw];repeat' (first | exact Ok.out | with_reducible refine aE ?_ ?_ | (simp;done))))
 ·have mq:decide ((k:Int) > 8)=false:=by simp;omega
  have fin:text.drop (pos+k)=(c::r).drop k:=by rw [← h1,List.drop_drop]
  have rR:((c::r).drop k).length<n:=by rw [List.length_drop];omega
  simp only [hz, ↓reduceIte,hlen]at h
  by_cases pN:out.length=2000
  ·have je:((out.length:Int)==2000)=true:=by simp [pN]
   simp only [pN, ↓reduceIte]at h
   cases hw:isWord ((c::r).take k)
   ·repeat' (first
 | simp only [go_sem,hF,hP,hY,hZ,ek,hb.1.1.1,hb.1.1.2,hb.1.2,hb.2,hc,hL,e1,e2,e3,mq,je,hw]
 | (with_reducible refine CU (gy _ _) ?_)
 | (with_reducible refine CU (dz _) ?_)
 | (with_reducible refine CU (sP _ _) ?_)
 | (with_reducible refine bN (l:=2) (by with_unfolding_all rfl) ?_)
 | (with_reducible refine bN (l:=4) (by with_unfolding_all rfl) ?_)
 | (with_reducible refine bN (l:=5) (by with_unfolding_all rfl) ?_)
 | (with_reducible first | refine bB fun hc=> ?_ | refine bC fun hc=> ?_ | refine bD (fun hc=> ?_) fun hc=> ?_) <;> (try simp only [hc,bs, ↓reduceIte]at h) <;> try simp only [hc]
 | (with_reducible refine aH hQ ?_;(try cases h);simp only [az,aA,bx,bA,go_sem,hF,hP,hY,hZ,ek,hb.1.1.1,hb.1.1.2,hb.1.2,hb.2,hc,hL,e1,e2,e3,mq,je,hw];repeat' (first | exact Ok.out | with_reducible refine aE ?_ ?_ | (simp;done))))
   ·repeat' (first
 | simp only [go_sem,hF,hP,hY,hZ,ek,hb.1.1.1,hb.1.1.2,hb.1.2,hb.2,hc,hL,e1,e2,e3,mq,je,hw]
 | (with_reducible refine CU (gy _ _) ?_)
 | (with_reducible refine CU (dz _) ?_)
 | (with_reducible refine CU (sP _ _) ?_)
 | (with_reducible refine bN (l:=2) (by with_unfolding_all rfl) ?_)
 | (with_reducible refine bN (l:=4) (by with_unfolding_all rfl) ?_)
 | (with_reducible refine bN (l:=5) (by with_unfolding_all rfl) ?_)
 | (with_reducible first | refine bB fun hc=> ?_ | refine bC fun hc=> ?_ | refine bD (fun hc=> ?_) fun hc=> ?_) <;> (try simp only [hc,bs, ↓reduceIte]at h) <;> try simp only [hc]
 | (with_reducible refine aH hQ ?_;(try cases h);simp only [az,aA,bx,bA,go_sem,hF,hP,hY,hZ,ek,hb.1.1.1,hb.1.1.2,hb.1.2,hb.2,hc,hL,e1,e2,e3,mq,je,hw];repeat' (first | exact Ok.out | with_reducible refine aE ?_ ?_ | (simp;done))))
  ·have je:((out.length:Int)==2000)=false:=by simp;omega
   have yU : ∀ t:bJ,(out++ [t]).length≤2000:=by intro t;simp;omega
   simp only [pN, ↓reduceIte]at h
   cases hw:isWord ((c::r).take k)
   ·simp only [hw,Bool.false_eq_true, ↓reduceIte]at h
    repeat' (first
 | simp only [go_sem,hF,hP,hY,hZ,ek,hb.1.1.1,hb.1.1.2,hb.1.2,hb.2,hc,hL,e1,e2,e3,mq,je,fI,hw]
 | (with_reducible refine CU (gy _ _) ?_)
 | (with_reducible refine CU (dz _) ?_)
 | (with_reducible refine CU (sP _ _) ?_)
 | (with_reducible refine bN (l:=2) (by with_unfolding_all rfl) ?_)
 | (with_reducible refine bN (l:=4) (by with_unfolding_all rfl) ?_)
 | (with_reducible refine bN (l:=5) (by with_unfolding_all rfl) ?_)
 | (refine IH.to hB fin h rR (yU _) (by omega) (Nat.lt_succ_self _) ?_ ?_ ?_ <;> ((try simp only [go_sem,hF,hP,hY,hZ]);repeat' (first | exact Ok.out | with_reducible refine aE ?_ ?_ | omega | (simp;done)));done)
 | (with_reducible first | refine bB fun hc=> ?_ | refine bC fun hc=> ?_ | refine bD (fun hc=> ?_) fun hc=> ?_) <;> (try simp only [hc,bs, ↓reduceIte]at h) <;> try simp only [hc]
 | (with_reducible refine aH hQ ?_;(try cases h);simp only [az,aA,bx,bA,go_sem,hF,hP,hY,hZ,ek,hb.1.1.1,hb.1.1.2,hb.1.2,hb.2,hc,hL,e1,e2,e3,mq,je,fI,hw];repeat' (first | exact Ok.out | with_reducible refine aE ?_ ?_ | (simp;done))))
   ·simp only [hw, ↓reduceIte]at h
    repeat' (first
 | simp only [go_sem,hF,hP,hY,hZ,ek,hb.1.1.1,hb.1.1.2,hb.1.2,hb.2,hc,hL,e1,e2,e3,mq,je,fI,hw]
 | (with_reducible refine CU (gy _ _) ?_)
 | (with_reducible refine CU (dz _) ?_)
 | (with_reducible refine CU (sP _ _) ?_)
 | (with_reducible refine bN (l:=2) (by with_unfolding_all rfl) ?_)
 | (with_reducible refine bN (l:=4) (by with_unfolding_all rfl) ?_)
 | (with_reducible refine bN (l:=5) (by with_unfolding_all rfl) ?_)
 | (refine IH.to hB fin h rR (yU _) (by omega) (Nat.lt_succ_self _) ?_ ?_ ?_ <;> ((try simp only [go_sem,hF,hP,hY,hZ]);repeat' (first | exact Ok.out | with_reducible refine aE ?_ ?_ | omega | (simp;done)));done)
 | (with_reducible refine aH hQ ?_;simp only [az,aA,bx,bA,go_sem,hF,hP,hY,hZ];repeat' (first | exact Ok.out | with_reducible refine aE ?_ ?_ | (simp;done))))
end Go.Abs

/-! RefLex1 -/

namespace Go.Abs
set_option maxRecDepth 8000
open Go.Proofs
theorem Fo (c:UInt8) (s:St):aD Tryz.prog ph [.int .u8 (c.toNat:Int)] s (.bool (oi c)) s:=by
 refine aD.pure ?_ rfl rfl s
 generalize h:oi c=b
 unfold oi at h
 unfold S0
 refine aD.go B1 rfl fun B Q hB hQ=> ?_
 have⟨hF,hP,hY,hZ⟩:=bt
 repeat' (first
 | simp only [go_sem,hF,hP,hY,hZ]
 | (with_reducible first | refine bB fun hc=> ?_ | refine bC fun hc=> ?_ | refine bD (fun hc=> ?_) fun hc=> ?_) <;> (try simp only [hc,bs, ↓reduceIte]at h) <;> try simp only [hc]
 | (with_reducible refine aH hQ ?_;(try cases h);simp only [az,aA,bx,bA,go_sem,hF,hP,hY,hZ];repeat' (first | exact Ok.out | with_reducible refine aE ?_ ?_ | (simp;done))))
theorem Pz (c:UInt8) (s:St):aD Tryz.prog sH [.int .u8 (c.toNat:Int)] s (.bool (mU c)) s:=by
 refine aD.pure ?_ rfl rfl s
 generalize h:mU c=b
 unfold mU at h
 unfold S0
 refine aD.go B2 rfl fun B Q hB hQ=> ?_
 have⟨hF,hP,hY,hZ⟩:=bt
 repeat' (first
 | simp only [go_sem,hF,hP,hY,hZ]
 | (with_reducible first | refine bB fun hc=> ?_ | refine bC fun hc=> ?_ | refine bD (fun hc=> ?_) fun hc=> ?_) <;> (try simp only [hc,bs, ↓reduceIte]at h) <;> try simp only [hc]
 | (with_reducible refine aH hQ ?_;(try cases h);simp only [az,aA,bx,bA,go_sem,hF,hP,hY,hZ];repeat' (first | exact Ok.out | with_reducible refine aE ?_ ?_ | (simp;done))))
theorem TV (s:St):aD Tryz.prog sI [] s (.slice .shared 1 [[.str [103,108,111,98,97,108]],[.str [112,114,111,99]],[.str [118,97,114]],[.str [114,101,102]],[.str [105,102]],[.str [101,108,115,101]],[.str [119,104,105,108,101]],[.str [98,114,101,97,107]],[.str [99,111,110,116,105,110,117,101]],[.str [114,101,116,117,114,110]],[.str [103,111,116,111]],[.str [114,101,97,100]],[.str [112,114,105,110,116]]]) s:=by
 refine aD.pure ?_ rfl rfl s
 unfold S0
 refine aD.go B3 rfl fun B Q hB hQ=> ?_
 have⟨hF,hP,hY,hZ⟩:=bt
 repeat' (first
 | simp only [go_sem,hF,hP,hY,hZ]
 | (with_reducible refine aH hQ ?_;simp only [az,aA,Option.some.injEq,exists_eq_left',go_sem,hF,hP,hY,hZ];repeat' (first | exact Ok.out | with_reducible refine aE ?_ ?_ | (simp;done))))
def yn (s:aB):Bool:=
 [103,108,111,98,97,108] == s || [112,114,111,99] == s || [118,97,114] == s || [114,101,102] == s || [105,102] == s || [101,108,115,101] == s || [119,104,105,108,101] == s || [98,114,101,97,107] == s || [99,111,110,116,105,110,117,101] == s || [114,101,116,117,114,110] == s || [103,111,116,111] == s || [114,101,97,100] == s || [112,114,105,110,116] == s
theorem J2 (s:aB):yn s=isWord s:=by
 have e : ∀ a:aB,(a==s)=(s==a):=fun a=>BEq.comm
 simp only [yn,isWord,e]
theorem TX (text:aB) (s:St):aD Tryz.prog uA [.str text] s (.bool (isWord text)) s:=by
 refine aD.pure ?_ rfl rfl s
 rw [← J2]
 generalize h:yn text=p
 unfold yn at h
 unfold S0
 refine aD.go DG rfl fun B Q hB hQ=> ?_
 have⟨hF,hP,hY,hZ⟩:=bt
 repeat' (first
 | simp only [go_sem,hF,hP,hY,hZ,Int.cast_ofNat_Int,cY,Int.reduceAdd,Int.reduceLT,Int.reduceNeg,decide_true,decide_false,Int.reduceToNat]
 | (with_reducible refine CU (TV _) ?_)
 | (with_reducible refine bm.tx ?_)
 | (with_reducible first | refine bB fun hc=> ?_ | refine bC fun hc=> ?_ | refine bD (fun hc=> ?_) fun hc=> ?_) <;> (try simp only [hc,bs, ↓reduceIte]at h) <;> try simp only [hc]
 | (with_reducible refine aH hQ ?_;(try cases h);simp only [az,aA,bx,bA,go_sem,hF,hP,hY,hZ,Int.cast_ofNat_Int,cY,Int.reduceAdd,Int.reduceLT,Int.reduceNeg,decide_true,decide_false,Int.reduceToNat];repeat' (first | exact Ok.out | with_reducible refine aE ?_ ?_ | (simp;done))))
end Go.Abs

/-! Prs2 -/

namespace Go.Abs
set_option maxRecDepth 8000
open Go.Proofs
theorem aiA {t:bJ} {p:Int×Int} (h:lZ t=p):aD Tryz.prog rP [.agg (dP t)] S0 (.tuple [.int .i64 p.1, .int .i64 p.2]) S0:=by
 unfold lZ at h
 unfold S0
 refine aD.go Fi rfl fun B Q hB hQ=> ?_
 have⟨hF,hP,hY,hZ⟩:=bt
 repeat' (first
 | simp only [go_sem,hF,hP,hY,hZ]
 | (with_reducible first | refine bB fun hc=> ?_ | refine bC fun hc=> ?_ | refine bD (fun hc=> ?_) fun hc=> ?_) <;> (try simp only [hc,bs, ↓reduceIte]at h) <;> try simp only [hc]
 | (with_reducible refine aH hQ ?_;(try cases h);simp only [az,aA,bx,bA,go_sem,hF,hP,hY,hZ];repeat' (first | exact Ok.out | with_reducible refine aE ?_ ?_ | (simp;done))))
theorem TY : ∀ n,n<4611686018427387904→∀ x:Ex,x.size≤n→aD Tryz.prog kz [.agg (bp x)] S0 (.int .i64 (x.depth:Int)) S0:=by
 intro n
 induction n with
 | zero=>rintro _ ⟨op,m,name,kids⟩ h;simp only [Ex.size]at h;omega
 | succ n WX=>
 rintro hn ⟨op,m,name,kids⟩ hx
 have hk : ∀ y∈kids,aD Tryz.prog kz [.agg (bp y)] S0 (.int .i64 (y.depth:Int)) S0:=fun y hy=>WX (by omega) y (by simp only [Ex.size]at hx;have:=Ex.b9 hy;omega)
 have hlen:kids.length<4611686018427387904:=by simp only [Ex.size]at hx;have:=Ex.dq kids;omega
 have Ix:Ex.fS kids<4611686018427387904:=by have:=Ex.JI _ _ hx;simp only [Ex.depth]at this;omega
 unfold S0
 refine aD.go AJ rfl fun B Q hB hQ=> ?_
 have⟨hF,hP,hY,hZ⟩:=bt
 repeat' (first
 | simp only [go_sem,hF,hP,hY,hZ]
 | (with_reducible first | refine bB fun hc=> ?_ | refine bC fun hc=> ?_ | refine bD (fun hc=> ?_) fun hc=> ?_) <;> (try simp only [hc,bs, ↓reduceIte]at h) <;> try simp only [hc]
 | (with_reducible refine aH hQ ?_;simp only [az,aA,bx,bA,go_sem,hF,hP,hY,hZ];repeat' (first | exact Ok.out | with_reducible refine aE ?_ ?_ | (simp;done))))
 refine cM 0 0 (bm.ind (ι:=List Ex×Nat×Nat) (fun i=>kids.drop i.2.1=i.1∧max i.2.2 (Ex.fS i.1)=Ex.fS kids) (fun i=>i.1.length)
  (fun i=> [(3, .int .i64 (i.2.2:Int)),(7, .slice .shared 4 (kids.map bp)),(8, .int .i64 (kids.length:Int)),(9, .int .i64 (i.2.1:Int))]) (fun _=>S0) ?_ (kids,0,0) ⟨rfl,by simp⟩)
 rintro⟨rest,k,acc⟩ ⟨h1,h2⟩ IH
 unfold S0
 cases rest with
 | nil=>
  have hF:=drop_nil h1
  simp only [Ex.fS,Nat.max_zero]at h2
  subst h2
  repeat' (first
 | simp only [go_sem,hF,hP,hY,hZ,aM Ix,Ex.depth]
 | (with_reducible first | refine bB fun hc=> ?_ | refine bC fun hc=> ?_ | refine bD (fun hc=> ?_) fun hc=> ?_) <;> (try simp only [hc,bs, ↓reduceIte]at h) <;> try simp only [hc]
 | (with_reducible refine aH hQ ?_;simp only [az,aA,bx,bA,go_sem,hF,hP,hY,hZ,aM Ix,Ex.depth];repeat' (first | exact Ok.out | with_reducible refine aE ?_ ?_ | (simp;done))))
 | cons y rest=>
  obtain⟨g1,g2,hF,g4⟩:=drop_cons h1
  simp only [Ex.fS]at h2
  have hy:=fun s=>(hk y (List.mem_of_getElem? g1)).pure (by simp [D.bH,D.ok,gw]) rfl s
  dsimp only at g1 g2 hF g4 h2
  repeat' (first
 | simp only [go_sem,hF,hP,hY,hZ,g1]
 | (with_reducible refine CU (hy _) ?_)
 | (with_reducible refine aH hQ ?_;simp only [az,aA,bx,bA,go_sem,hF,hP,hY,hZ];repeat' (first | exact Ok.out | with_reducible refine aE ?_ ?_ | (simp;done))))
  refine eo 0 0 ?_ ?_ (IH (rest,k+1,max acc y.depth) ⟨g2,by dsimp only;omega⟩ (by simp))
  ·(simp only [go_sem,hF,hP,hY,hZ,mx,aM (show k<4611686018427387904 by omega)];try exact bU)
  ·(simp only [go_sem,hF,hP,hY,hZ,mx,aM (show k<4611686018427387904 by omega)];try exact bU)
theorem T1 {x:Ex} {d:Int} (h:E6 x=some d) (s:St):aD Tryz.prog kz [.agg (bp x)] s (.int .i64 d) s:=by
 unfold E6 at h
 split at h
 ·cases h;exact(TY x.size ‹_› x (Nat.le_refl _)).pure (by simp [D.bH,D.ok,gw]) rfl s
 ·cases h
theorem aiB (t:bJ) (s:St):aD Tryz.prog rP [.agg (dP t)] s (.tuple [.int .i64 (lZ t).1, .int .i64 (lZ t).2]) s:=(aiA rfl).pure rfl rfl s
theorem aak {c:Prop} [Decidable c] {α:Type} {P:α→Prop} {a b:α} (ha:P a) (hb:P b):P (if c then a else b):=by
 by_cases h:c
 ·rw [if_pos h];exact ha
 ·rw [if_neg h];exact hb
def OpR (p:Int×Int):Prop:=0≤p.2∧p.2≤6
theorem PA (t:bJ):OpR (lZ t):=by
 unfold lZ
 repeat' with_reducible refine aak (P:=OpR) ?_ ?_
 all_goals exact⟨by decide,by decide⟩
theorem Hp (t:bJ):IntKind.wrap .i64 ((lZ t).2+1)=(lZ t).2+1:=by
 have:0≤(lZ t).2∧(lZ t).2≤6:=PA t
 rw [cY] <;> omega
abbrev D3 (m:Nat):Prop:=∀ {r:Rd} {p:Ex×Rd},Rd.one m r=some p→∀ {s:St} {o:Nat},s.aw[o]? = some (bV r)→aD Tryz.prog ja [.ptr o 0] s (.agg (bp p.1)) ⟨s.aw.set o (bV p.2),s.aC⟩
abbrev D4 (m:Nat):Prop:=∀ {k:Int} {r:Rd} {p:Ex×Rd},Rd.two m k r=some p→∀ {s:St} {o:Nat},s.aw[o]? = some (bV r)→aD Tryz.prog gX [.ptr o 0, .int .i64 k] s (.agg (bp p.1)) ⟨s.aw.set o (bV p.2),s.aC⟩
theorem PB {m:Nat} (D5:D3 m) (AS:D4 m):D3 (m+1):=by
 intro r p h s o ho
 refine aD.jl ?_ rfl (fk r) (fk p.2) (by simp [D.ok,gw]) ho
 unfold Rd.one at h
 refine aD.go vZ rfl fun B Q hB hQ=> ?_
 have⟨hF,hP,hY,hZ⟩:=bt
 repeat' (first
 | simp only [go_sem,hF,hP,hY,hZ]
 | (rw [Option.bind_eq_some_iff]at h;obtain⟨_,h1,h⟩:=h;first | (with_reducible refine CU (nA h1 (by with_unfolding_all rfl)) ?_;have hF:=qc h1) | (with_reducible refine CU (qS h1 (by with_unfolding_all rfl)) ?_) | (with_reducible refine CU (AS h1 (by with_unfolding_all rfl)) ?_) | (with_reducible refine CU (oj h1 (by with_unfolding_all rfl)) ?_) | (with_reducible refine CU (D5 h1 (by with_unfolding_all rfl)) ?_) | (with_reducible refine CU (AR h1 (by with_unfolding_all rfl)) ?_))
 | (with_reducible refine CU (jw (by with_unfolding_all rfl)) ?_)
 | (with_reducible first | refine bB fun hc=> ?_ | refine bC fun hc=> ?_ | refine bD (fun hc=> ?_) fun hc=> ?_) <;> (try simp only [hc,bs, ↓reduceIte]at h) <;> try simp only [hc]
 | (with_reducible refine aH hQ ?_;(try cases h);simp only [az,aA,bx,bA,go_sem,hF,hP,hY,hZ];repeat' (first | exact Ok.out | with_reducible refine aE ?_ ?_ | (simp;done))))
theorem PC {m:Nat} (D5:D3 m) (AS : ∀ j<m,D4 j):D4 (m+1):=by
 intro k r p h s o ho
 refine aD.jl ?_ rfl (fk r) (fk p.2) (by simp [D.ok,gw]) ho
 unfold Rd.two at h
 refine aD.go vY rfl fun B Q hB hQ=> ?_
 have⟨hF,hP,hY,hZ⟩:=bt
 repeat' (first
 | simp only [go_sem,hF,hP,hY,hZ]
 | (rw [Option.bind_eq_some_iff]at h;obtain⟨_,h1,h⟩:=h;first | (with_reducible refine CU (D5 h1 (by with_unfolding_all rfl)) ?_))
 | (with_reducible refine aH hQ ?_;simp only [az,aA,bx,bA,go_sem,hF,hP,hY,hZ];repeat' (first | exact Ok.out | with_reducible refine aE ?_ ?_ | (simp;done))))
 refine cM 3 0 (bm.ind (ι:=Nat×Ex×Rd) (fun i=>Rd.xG i.1 k i.2.1 i.2.2=some p∧i.1≤m) (fun i=>i.1)
  (fun i=> [(0, .ptr 0 0),(1, .int .i64 k),(4, .ptr 1 0),(5, .ptr 2 0)]) (fun i=>⟨[bV i.2.2,bp la,bp i.2.1],[]⟩) ?_ (m,_,_) ⟨h,Nat.le_refl _⟩)
 rintro⟨n,x,r⟩ ⟨h,hn⟩ IH
 cases n with
 | zero=>simp only [Rd.xG]at h;cases h
 | succ n=>
  have aal:=@AS n (by omega)
  simp only [Rd.xG]at h
  repeat' (first
 | simp only [go_sem,hF,hP,hY,hZ,Hp]
 | (rw [Option.bind_eq_some_iff]at h;obtain⟨_,h1,h⟩:=h;first | (with_reducible refine CU (nA h1 (by with_unfolding_all rfl)) ?_;have hF:=qc h1) | (with_reducible refine CU (aal h1 (by with_unfolding_all rfl)) ?_))
 | (with_reducible refine CU (jw (by with_unfolding_all rfl)) ?_)
 | (with_reducible refine CU (aiB _ _) ?_)
 | (with_reducible first | refine bB fun hc=> ?_ | refine bC fun hc=> ?_ | refine bD (fun hc=> ?_) fun hc=> ?_) <;> (try simp only [hc,bs, ↓reduceIte]at h) <;> try simp only [hc]
 | (with_reducible refine aH hQ ?_;(try cases h);simp only [az,aA,bx,bA,go_sem,hF,hP,hY,hZ,Hp];repeat' (first | exact Ok.out | with_reducible refine aE ?_ ?_ | (simp;done))))
  refine cM 3 0 (IH (n,_,_) ⟨h,by dsimp only at hn ⊢;omega⟩ (Nat.lt_succ_self _))
theorem T2 : ∀ n,∀ m<n,D3 m∧D4 m:=by
 intro n
 induction n with
 | zero=>intro m h;exact absurd h (Nat.not_lt_zero _)
 | succ n ih=>
  intro m h
  cases m with
  | zero=>
   refine⟨?_, ?_⟩
   ·intro r p h;simp only [Rd.one]at h;cases h
   ·intro k r p h;simp only [Rd.two]at h;cases h
  | succ m=>
   have hm:=ih m (by omega)
   exact⟨PB hm.1 hm.2,PC hm.1 fun j hj=>(ih j (by omega)).2⟩
theorem AS {m:Nat} {k:Int} {r:Rd} {p:Ex×Rd} (h:Rd.two m k r=some p) {s:St} {o:Nat} (ho:s.aw[o]? = some (bV r)) :
 aD Tryz.prog gX [.ptr o 0, .int .i64 k] s (.agg (bp p.1)) ⟨s.aw.set o (bV p.2),s.aC⟩:=(T2 (m+1) m (Nat.lt_succ_self _)).2 h ho
theorem yo {n:Nat} {r:Rd} {p:Ex×Rd} (h:Rd.whole n r=some p) {s:St} {o:Nat} (ho:s.aw[o]? = some (bV r)) :
 aD Tryz.prog fF [.ptr o 0] s (.agg (bp p.1)) ⟨s.aw.set o (bV p.2),s.aC⟩:=by
 refine aD.jl ?_ rfl (fk r) (fk p.2) (by simp [D.ok,gw]) ho
 unfold Rd.whole at h
 refine aD.go uJ rfl fun B Q hB hQ=> ?_
 have⟨hF,hP,hY,hZ⟩:=bt
 repeat' (first
 | simp only [go_sem,hF,hP,hY,hZ]
 | (rw [Option.bind_eq_some_iff]at h;obtain⟨_,h1,h⟩:=h;first | (with_reducible refine CU (nA h1 (by with_unfolding_all rfl)) ?_) | (with_reducible refine CU (T1 h1 _) ?_) | (with_reducible refine CU (AS h1 (by with_unfolding_all rfl)) ?_))
 | (with_reducible refine CU (jw (by with_unfolding_all rfl)) ?_)
 | (with_reducible first | refine bB fun hc=> ?_ | refine bC fun hc=> ?_ | refine bD (fun hc=> ?_) fun hc=> ?_) <;> (try simp only [hc,bs, ↓reduceIte]at h) <;> try simp only [hc]
 | (with_reducible refine aH hQ ?_;(try cases h);simp only [az,aA,bx,bA,go_sem,hF,hP,hY,hZ];repeat' (first | exact Ok.out | with_reducible refine aE ?_ ?_ | (simp;done))))
end Go.Abs

/-! Ref1 -/

namespace Go.Abs
set_option maxRecDepth 8000
open Go.Proofs
@[go_sem] def tH (z:D) (r:Rd):List D:= [.slice .shared 4 (r.l.map dP), .int .i64 r.i, .int .i64 r.code, .int .i64 r.o5,z]
class Cell (z:D):Prop where
 ok:D.ok 0 0 z=true
 fg : ∀ n m,D.fg n m z=z
instance (n:Int):Cell (.int .i64 n):=⟨rfl,fun _ _=>rfl⟩
instance:Cell .junk:=⟨rfl,fun _ _=>rfl⟩
theorem T3 (z:D) [h:Cell z] (n m:Nat):D.fg n m z=z:=h.fg n m
attribute [go_sem] T3
def Rd.isO (text:aB) (r:Rd):Option Bool:=if r.good then r.is text else some false
end Go.Abs

/-! Ref2 -/

namespace Go.Abs
set_option maxRecDepth 8000
open Go.Proofs
def WY (s:aB):Int×Int:=
 if [42] == s then(6,5)else if [47] == s then(6,6)else if [37] == s then(6,7)else if [43] == s then(5,8)else if [45] == s then(5,9)
 else if [60] == s then(4,10)else if [60,61] == s then(4,11)else if [62] == s then(4,12)else if [62,61] == s then(4,13)
 else if [61,61] == s then(3,14)else if [33,61] == s then(3,15)else if [38,38] == s then(2,16)else if [124,124] == s then(1,17)else(0,0)
abbrev aji (m:Nat):Prop:=∀ {z:D} [Cell z] {r:Rd} {p:Ex×Rd},Rd.one m r=some p→∀ {s:St} {o:Nat},s.aw[o]? = some (tH z r)→aD Tryz.prog BP [.ptr o 0] s (.agg (bp p.1)) ⟨s.aw.set o (tH z p.2),s.aC⟩
abbrev aoU (m:Nat):Prop:=∀ {z:D} [Cell z] {k:Int} {x:Ex} {r:Rd} {p:Ex×Rd},Rd.xG m k x r=some p→∀ {s:St} {o:Nat},s.aw[o]? = some (tH z r)→aD Tryz.prog Dy [.ptr o 0, .agg (bp x), .int .i64 k] s (.agg (bp p.1)) ⟨s.aw.set o (tH z p.2),s.aC⟩
def BZ (p:Int×Int):Prop:=(p.2==0)=(p.1==0)
end Go.Abs

/-! Ref3 -/

namespace Go.Abs
set_option maxRecDepth 8000
open Go.Proofs
theorem WZ : ∀ (fa:Nat),fa<1000000→∀ x:Ex,x.size<4611686018427387904→∀ s:St,aD Tryz.prog oe [.agg (bp x), .int .i64 (fa:Int)] s (.int .i64 ((min x.depth (fa+1):Nat):Int)) s:=by
 intro fa
 induction fa with
 | zero=>
  rintro _ ⟨op,m,name,kids⟩ hx s
  refine aD.pure ?_ (by simp [D.bH,D.ok,gw]) rfl s
  have hz:((0:Int)==0)=true:=rfl
  have e:min (Ex.depth ⟨op,m,name,kids⟩) (0+1)=1:=by simp only [Ex.depth];omega
  rw [e]
  unfold S0
  refine aD.go wK rfl fun B Q hB hQ=> ?_
  have⟨hF,hP,hY,hZ⟩:=bt
  repeat' (first
 | simp only [go_sem,hF,hP,hY,hZ,hz]
 | (with_reducible refine aH hQ ?_;simp only [az,aA,Option.some.injEq,exists_eq_left',go_sem,hF,hP,hY,hZ];repeat' (first | exact Ok.out | with_reducible refine aE ?_ ?_ | (simp;done))))
 | succ fa ih=>
  rintro aqv ⟨op,m,name,kids⟩ hx s
  refine aD.pure ?_ (by simp [D.bH,D.ok,gw]) rfl s
  have hlen:kids.length<4611686018427387904:=by simp only [Ex.size]at hx;have:=Ex.dq kids;omega
  have hk : ∀ y∈kids,∀ s,aD Tryz.prog oe [.agg (bp y), .int .i64 (fa:Int)] s (.int .i64 ((min y.depth (fa+1):Nat):Int)) s:=fun y hy s=>
   ih (by omega) y (by simp only [Ex.size]at hx;have:=Ex.b9 hy;omega) s
  have hz:(((fa+1:Nat):Int)==0)=false:=by simp;omega
  have w1:IntKind.wrap .i64 (((fa+1:Nat):Int) - 1)=(fa:Int):=by rw [cY] <;> omega
  unfold S0
  refine aD.go wK rfl fun B Q hB hQ=> ?_
  have⟨hF,hP,hY,hZ⟩:=bt
  repeat' (first
 | simp only [go_sem,hF,hP,hY,hZ,hz]
 | (with_reducible refine aH hQ ?_;simp only [az,aA,Option.some.injEq,exists_eq_left',go_sem,hF,hP,hY,hZ];repeat' (first | exact Ok.out | with_reducible refine aE ?_ ?_ | (simp;done))))
  refine cM 1 0 (bm.ind (ι:=List Ex×Nat×Nat) (fun i=>kids.drop i.2.1=i.1∧i.2.2≤fa+1∧min (max i.2.2 (Ex.fS i.1)) (fa+1)=min (Ex.fS kids) (fa+1)) (fun i=>i.1.length)
   (fun i=> [(1, .int .i64 ((fa+1:Nat):Int)),(2, .ptr 0 0),(5, .int .i64 (i.2.2:Int)),(6, .int .i64 (i.2.1:Int))]) (fun i=>⟨[bp ⟨op,m,name,kids⟩],[]⟩) ?_ (kids,0,0) ⟨rfl,Nat.zero_le _,by simp⟩)
  rintro⟨rest,k,d⟩ ⟨h1,h2,h3⟩ IH
  dsimp only at h1 h2 h3
  have hd:min (Ex.depth ⟨op,m,name,kids⟩) (fa+1+1)=min (Ex.fS kids) (fa+1)+1:=by simp only [Ex.depth];omega
  rw [hd, ← h3]at hQ
  have w2:IntKind.wrap .i64 ((d:Int)+1)=((d+1:Nat):Int):=by rw [cY] <;> omega
  by_cases aqZ:d<fa+1
  ·have c2:decide ((d:Int)<((fa+1:Nat):Int))=true:=by simp;omega
   cases rest with
   | nil=>
    have hF:=drop_nil h1
    simp only [Ex.fS,Nat.max_zero]at hQ
    have e:min d (fa+1)=d:=by omega
    rw [e]at hQ
    repeat' (first
 | simp only [go_sem,hF,hP,hY,hZ,c2,w2]
 | (with_reducible refine aH hQ ?_;simp only [az,aA,Option.some.injEq,exists_eq_left',go_sem,hF,hP,hY,hZ];repeat' (first | exact Ok.out | with_reducible refine aE ?_ ?_ | (simp;done))))
   | cons y rest=>
    obtain⟨hP,g2,hF,g4⟩:=drop_cons h1
    have hy:=hk y (List.mem_of_getElem? hP)
    simp only [Ex.fS]at h3
    have cb:k<4611686018427387904:=by omega
    by_cases mq:min y.depth (fa+1) > d
    ·have c3:decide (((min y.depth (fa+1):Nat):Int) > (d:Int))=true:=by simp only [decide_eq_true_eq];omega
     repeat' (first
 | simp only [go_sem,hF,hP,hY,hZ,c2,w1,c3]
 | (with_reducible refine CU (hy _) ?_)
 | (with_reducible refine aH hQ ?_;simp only [az,aA,Option.some.injEq,exists_eq_left',go_sem,hF,hP,hY,hZ];repeat' (first | exact Ok.out | with_reducible refine aE ?_ ?_ | (simp;done))))
     refine eo 1 0 ?_ ?_ (IH (rest,k+1,min y.depth (fa+1)) ⟨g2,by dsimp only;omega,by dsimp only;omega⟩ (Nat.lt_succ_self _))
     ·(simp only [go_sem,hF,hP,hY,hZ,aM cb];try exact bU)
     ·(simp only [go_sem,hF,hP,hY,hZ,aM cb];try exact bU)
    ·have c3:decide (((min y.depth (fa+1):Nat):Int) > (d:Int))=false:=by simp only [decide_eq_false_iff_not];omega
     repeat' (first
 | simp only [go_sem,hF,hP,hY,hZ,c2,w1,c3]
 | (with_reducible refine CU (hy _) ?_)
 | (with_reducible refine aH hQ ?_;simp only [az,aA,Option.some.injEq,exists_eq_left',go_sem,hF,hP,hY,hZ];repeat' (first | exact Ok.out | with_reducible refine aE ?_ ?_ | (simp;done))))
     refine eo 1 0 ?_ ?_ (IH (rest,k+1,d) ⟨g2,h2,by dsimp only;omega⟩ (Nat.lt_succ_self _))
     ·(simp only [go_sem,hF,hP,hY,hZ,aM cb];try exact bU)
     ·(simp only [go_sem,hF,hP,hY,hZ,aM cb];try exact bU)
  ·have c2:decide ((d:Int)<((fa+1:Nat):Int))=false:=by simp;omega
   have e:min (max d (Ex.fS rest)) (fa+1)=d:=by omega
   rw [e]at hQ
   cases rest with
   | nil=>
    have hF:=drop_nil h1
    repeat' (first
 | simp only [go_sem,hF,hP,hY,hZ,c2,w2]
 | (with_reducible refine aH hQ ?_;simp only [az,aA,Option.some.injEq,exists_eq_left',go_sem,hF,hP,hY,hZ];repeat' (first | exact Ok.out | with_reducible refine aE ?_ ?_ | (simp;done))))
   | cons y rest=>
    obtain⟨hP,g2,hF,g4⟩:=drop_cons h1
    repeat' (first
 | simp only [go_sem,hF,hP,hY,hZ,c2,w2]
 | (with_reducible refine aH hQ ?_;simp only [az,aA,Option.some.injEq,exists_eq_left',go_sem,hF,hP,hY,hZ];repeat' (first | exact Ok.out | with_reducible refine aE ?_ ?_ | (simp;done))))
end Go.Abs

/-! RefMay1 -/

namespace Go.Abs
set_option maxRecDepth 8000
open Go.Proofs
theorem vr (text:aB) (hl:text.length<4611686018427387904) (s:St):aD Tryz.prog jM [.str text] s (.bool (isName text)) s:=by
 refine aD.pure ?_ rfl rfl s
 unfold S0
 cases text with
 | nil=>
  have e:(([] : aB) == [])=true:=rfl
  refine aD.go wM rfl fun B Q hB hQ=> ?_
  have⟨hF,hP,hY,hZ⟩:=bt
  repeat' (first
 | simp only [go_sem,hF,hP,hY,hZ,e,isName]
 | (with_reducible first | refine bB fun hc=> ?_ | refine bC fun hc=> ?_ | refine bD (fun hc=> ?_) fun hc=> ?_) <;> (try simp only [hc,bs, ↓reduceIte]at h) <;> try simp only [hc]
 | (with_reducible refine aH hQ ?_;simp only [az,aA,bx,bA,go_sem,hF,hP,hY,hZ,e,isName];repeat' (first | exact Ok.out | with_reducible refine aE ?_ ?_ | (simp;done))))
 | cons c r=>
  have e:((c::r) == [])=false:=rfl
  generalize h:isName (c::r)=p
  simp only [isName]at h
  refine aD.go wM rfl fun B Q hB hQ=> ?_
  have⟨hF,hP,hY,hZ⟩:=bt
  repeat' (first
 | simp only [go_sem,hF,hP,hY,hZ,e]
 | (with_reducible refine CU (Fo _ _) ?_)
 | (with_reducible first | refine bB fun hc=> ?_ | refine bC fun hc=> ?_ | refine bD (fun hc=> ?_) fun hc=> ?_) <;> (try simp only [hc,bs, ↓reduceIte]at h) <;> try simp only [hc]
 | (with_reducible refine aH hQ ?_;(try cases h);simp only [az,aA,bx,bA,go_sem,hF,hP,hY,hZ,e];repeat' (first | exact Ok.out | with_reducible refine aE ?_ ?_ | (simp;done))))
  refine cM 0 0 (bm.ind (ι:=aB×Nat) (fun i=>(c::r).drop i.2=i.1∧(if rQ i.1 then !(isWord (c::r))else false)=p) (fun i=>i.1.length)
   (fun i=> [(0, .str (c::r)),(3, .int .i64 (i.2:Int))]) (fun i=>⟨[],[]⟩) ?_ (r,1) ⟨rfl,h⟩)
  rintro⟨rest,k⟩ ⟨h1,h⟩ IH
  dsimp only at h1 h
  cases rest with
  | nil=>
   have hF:=drop_nil h1
   simp only [List.length_cons]at hF
   simp only [rQ, ↓reduceIte]at h
   repeat' (first
 | simp only [go_sem,hF,hP,hY,hZ]
 | (with_reducible refine CU (TX _ _) ?_)
 | (with_reducible first | refine bB fun hc=> ?_ | refine bC fun hc=> ?_ | refine bD (fun hc=> ?_) fun hc=> ?_) <;> (try simp only [hc,bs, ↓reduceIte]at h) <;> try simp only [hc]
 | (with_reducible refine aH hQ ?_;(try cases h);simp only [az,aA,bx,bA,go_sem,hF,hP,hY,hZ];repeat' (first | exact Ok.out | with_reducible refine aE ?_ ?_ | (simp;done))))
  | cons d rest=>
   obtain⟨hP,g2,hF,g4⟩:=drop_cons h1
   simp only [List.length_cons]at hF
   have hY:k<4611686018427387904:=by omega
   simp only [rQ]at h
   repeat' (first
 | simp only [go_sem,hF,hP,hY,hZ]
 | (with_reducible refine CU (Fo _ _) ?_)
 | (with_reducible refine CU (Pz _ _) ?_)
 | (with_reducible first | refine bB fun hc=> ?_ | refine bC fun hc=> ?_ | refine bD (fun hc=> ?_) fun hc=> ?_) <;> (try simp only [hc,bs, ↓reduceIte]at h) <;> try simp only [hc]
 | (with_reducible refine aH hQ ?_;(try cases h);simp only [az,aA,bx,bA,go_sem,hF,hP,hY,hZ];repeat' (first | exact Ok.out | with_reducible refine aE ?_ ?_ | (simp;done)))
 | (cases h;done))
   all_goals
    refine cM 0 0 (IH (rest,k+1) ⟨g2,h⟩ (Nat.lt_succ_self _))
theorem T4 (op:Int) (s:St):aD Tryz.prog sJ [.int .i64 op] s (.int .i64 (kK op)) s:=by
 refine aD.pure ?_ rfl rfl s
 unfold S0
 generalize h:kK op=p
 unfold kK at h
 refine aD.go B4 rfl fun B Q hB hQ=> ?_
 have⟨hF,hP,hY,hZ⟩:=bt
 repeat' (first
 | simp only [go_sem,hF,hP,hY,hZ]
 | (with_reducible first | refine bB fun hc=> ?_ | refine bC fun hc=> ?_ | refine bD (fun hc=> ?_) fun hc=> ?_) <;> (try simp only [hc,bs, ↓reduceIte]at h) <;> try simp only [hc]
 | (with_reducible refine aH hQ ?_;(try cases h);simp only [az,aA,bx,bA,go_sem,hF,hP,hY,hZ];repeat' (first | exact Ok.out | with_reducible refine aE ?_ ?_ | (simp;done))))
theorem PD {l:List aB} (hl:l.length<4611686018427387904) (hs : ∀ t∈l,t.length<4611686018427387904) (s:St):aD Tryz.prog sG [.slice .shared 1 (l.map encStr)] s (.bool (df l)) s:=by
 refine aD.pure ?_ (by simp [D.bH,D.ok,eH,Tag.ok]) rfl s
 unfold S0
 generalize h:df l=p
 refine aD.go B7 rfl fun B Q hB hQ=> ?_
 have⟨hF,hP,hY,hZ⟩:=bt
 repeat' (first
 | simp only [go_sem,hF,hP,hY,hZ]
 | (with_reducible first | refine bB fun hc=> ?_ | refine bC fun hc=> ?_ | refine bD (fun hc=> ?_) fun hc=> ?_) <;> (try simp only [hc,bs, ↓reduceIte]at h) <;> try simp only [hc]
 | (with_reducible refine aH hQ ?_;(try cases h);simp only [az,aA,bx,bA,go_sem,hF,hP,hY,hZ];repeat' (first | exact Ok.out | with_reducible refine aE ?_ ?_ | (simp;done))))
 refine cM 0 0 (bm.ind (ι:=List aB×Nat) (fun i=>l.drop i.2=i.1∧df i.1=p) (fun i=>i.1.length)
  (fun i=> [(5, .slice .shared 1 (l.map encStr)),(6, .int .i64 (l.length:Int)),(7, .int .i64 (i.2:Int))]) (fun i=>⟨[],[]⟩) ?_ (l,0) ⟨rfl,h⟩)
 rintro⟨rest,k⟩ ⟨h1,h⟩ IH
 dsimp only at h1 h
 cases rest with
 | nil=>
  have hF:=drop_nil h1
  simp only [df]at h
  repeat' (first
 | simp only [go_sem,hF,hP,hY,hZ]
 | (with_reducible first | refine bB fun hc=> ?_ | refine bC fun hc=> ?_ | refine bD (fun hc=> ?_) fun hc=> ?_) <;> (try simp only [hc,bs, ↓reduceIte]at h) <;> try simp only [hc]
 | (with_reducible refine aH hQ ?_;(try cases h);simp only [az,aA,bx,bA,go_sem,hF,hP,hY,hZ];repeat' (first | exact Ok.out | with_reducible refine aE ?_ ?_ | (simp;done))))
 | cons t rest=>
  obtain⟨hP,g2,hF,g4⟩:=drop_cons h1
  have hY:k<4611686018427387904:=by omega
  have hn:=vr t (hs t (List.mem_of_getElem? hP))
  simp only [df]at h
  repeat' (first
 | simp only [go_sem,hF,hP,hY,hZ]
 | (with_reducible refine CU (hn _) ?_)
 | (with_reducible first | refine bB fun hc=> ?_ | refine bC fun hc=> ?_ | refine bD (fun hc=> ?_) fun hc=> ?_) <;> (try simp only [hc,bs, ↓reduceIte]at h) <;> try simp only [hc]
 | (with_reducible refine aH hQ ?_;(try cases h);simp only [az,aA,bx,bA,go_sem,hF,hP,hY,hZ];repeat' (first | exact Ok.out | with_reducible refine aE ?_ ?_ | (simp;done))))
  refine cM 0 0 (IH (rest,k+1) ⟨g2,h⟩ (Nat.lt_succ_self _))
theorem W0 : ∀ (n:Nat) (x:Ex),x.size≤n→x.size<4611686018427387904→x.texts→∀ s:St,aD Tryz.prog og [.agg (bp x)] s (.bool x.form) s:=by
 intro n
 induction n with
 | zero=>rintro⟨op,m,name,kids⟩ h;simp only [Ex.size]at h;omega
 | succ n ih=>
  rintro⟨op,m,name,kids⟩ h hx ht s
  refine aD.pure ?_ (by simp [D.bH,D.ok,gw]) rfl s
  have hlen:kids.length<4611686018427387904:=by simp only [Ex.size]at hx;have:=Ex.dq kids;omega
  have hk : ∀ y∈kids,∀ s,aD Tryz.prog og [.agg (bp y)] s (.bool y.form) s:=fun y hy s=>
   ih y (by simp only [Ex.size]at h;have:=Ex.b9 hy;omega) (by simp only [Ex.size]at hx;have:=Ex.b9 hy;omega) (Ex.CQ ht hy) s
  have hn:=vr name ht.1
  unfold S0
  generalize h:Ex.form ⟨op,m,name,kids⟩=p
  simp only [Ex.form]at h
  refine aD.go DJ rfl fun B Q hB hQ=> ?_
  have⟨hF,hP,hY,hZ⟩:=bt
  repeat' (first
 | simp only [go_sem,hF,hP,hY,hZ]
 | (with_reducible refine CU (T4 _ _) ?_)
 | (with_reducible refine CU (hn _) ?_)
 | (with_reducible first | refine bB fun hc=> ?_ | refine bC fun hc=> ?_ | refine bD (fun hc=> ?_) fun hc=> ?_) <;> (try simp only [hc,bs, ↓reduceIte]at h) <;> try simp only [hc]
 | (with_reducible refine aH hQ ?_;(try cases h);simp only [az,aA,bx,bA,go_sem,hF,hP,hY,hZ];repeat' (first | exact Ok.out | with_reducible refine aE ?_ ?_ | (simp;done))))
  all_goals
   refine cM 1 0 (bm.ind (ι:=List Ex×Nat) (fun i=>kids.drop i.2=i.1∧Ex.nM i.1=p) (fun i=>i.1.length)
    (fun i=> [(1, .ptr 0 0),(48, .int .i64 (kids.length:Int)),(49, .int .i64 (i.2:Int))]) (fun i=>⟨[bp ⟨op,m,name,kids⟩],[]⟩) ?_ (kids,0) ⟨rfl,h⟩)
   rintro⟨rest,k⟩ ⟨h1,h⟩ IH
   dsimp only at h1 h
   cases rest with
   | nil=>
    have hF:=drop_nil h1
    simp only [Ex.nM]at h
    repeat' (first
 | simp only [go_sem,hF,hP,hY,hZ]
 | (with_reducible first | refine bB fun hc=> ?_ | refine bC fun hc=> ?_ | refine bD (fun hc=> ?_) fun hc=> ?_) <;> (try simp only [hc,bs, ↓reduceIte]at h) <;> try simp only [hc]
 | (with_reducible refine aH hQ ?_;exact pQ)
 | (cases h;done))
   | cons y rest=>
    obtain⟨hP,g2,hF,g4⟩:=drop_cons h1
    have hy:=hk y (List.mem_of_getElem? hP)
    have hY:k<4611686018427387904:=by omega
    simp only [Ex.nM]at h
    repeat' (first
 | simp only [go_sem,hF,hP,hY,hZ]
 | (with_reducible refine CU (hy _) ?_)
 | (with_reducible first | refine bB fun hc=> ?_ | refine bC fun hc=> ?_ | refine bD (fun hc=> ?_) fun hc=> ?_) <;> (try simp only [hc,bs, ↓reduceIte]at h) <;> try simp only [hc]
 | (with_reducible refine aH hQ ?_;(try cases h);simp only [az,aA,bx,bA,go_sem,hF,hP,hY,hZ];repeat' (first | exact Ok.out | with_reducible refine aE ?_ ?_ | (simp;done))))
    refine cM 1 0 (IH (rest,k+1) ⟨g2,h⟩ (Nat.lt_succ_self _))
theorem CS {x:Ex} (hx:x.size<4611686018427387904) (ht:x.texts) (s:St):aD Tryz.prog nJ [.agg (bp x)] s (.bool x.may) s:=by
 refine aD.pure ?_ (by simp [D.bH,D.ok,gw]) rfl s
 have hd:=fun s=>WZ 20 (by decide) x hx s
 have c20:((20:Nat):Int)=20:=rfl
 rw [c20]at hd
 have hf:=W0 _ x (Nat.le_refl _) hx ht
 unfold S0
 generalize h:Ex.may x=p
 unfold Ex.may at h
 refine aD.go zF rfl fun B Q hB hQ=> ?_
 have⟨hF,hP,hY,hZ⟩:=bt
 repeat' (first
 | simp only [go_sem,hF,hP,hY,hZ]
 | (with_reducible refine CU (hd _) ?_)
 | (with_reducible refine CU (hf _) ?_)
 | (with_reducible first | refine bB fun hc=> ?_ | refine bC fun hc=> ?_ | refine bD (fun hc=> ?_) fun hc=> ?_) <;> (try simp only [hc,bs, ↓reduceIte]at h) <;> try simp only [hc]
 | (with_reducible refine aH hQ ?_;(try cases h);simp only [az,aA,bx,bA,go_sem,hF,hP,hY,hZ];repeat' (first | exact Ok.out | with_reducible refine aE ?_ ?_ | (simp;done))))
theorem Mf (x:Ex) (s:St):aD Tryz.prog qu [.agg (bp x)] s (.bool x.none) s:=by
 refine aD.pure ?_ (by simp [D.bH,D.ok,gw]) rfl s
 unfold S0
 generalize h:Ex.none x=p
 unfold Ex.none at h
 refine aD.go DH rfl fun B Q hB hQ=> ?_
 have⟨hF,hP,hY,hZ⟩:=bt
 repeat' (first
 | simp only [go_sem,hF,hP,hY,hZ]
 | (with_reducible first | refine bB fun hc=> ?_ | refine bC fun hc=> ?_ | refine bD (fun hc=> ?_) fun hc=> ?_) <;> (try simp only [hc,bs, ↓reduceIte]at h) <;> try simp only [hc]
 | (with_reducible refine aH hQ ?_;(try cases h);simp only [az,aA,bx,bA,go_sem,hF,hP,hY,hZ];repeat' (first | exact Ok.out | with_reducible refine aE ?_ ?_ | (simp;done))))
theorem aam {a:Ar} (hx:a.x.size<4611686018427387904) (ht:a.x.texts) (hn:a.name.length<4611686018427387904) (s:St):aD Tryz.prog vV [.agg (dO a)] s (.bool a.may) s:=by
 refine aD.pure ?_ (by simp [D.bH,D.ok,E4]) rfl s
 have hm:=CS hx ht
 have h1:=vr a.name hn
 unfold S0
 generalize h:Ar.may a=p
 simp only [Ar.may]at h
 refine aD.go Fh rfl fun B Q hB hQ=> ?_
 have⟨hF,hP,hY,hZ⟩:=bt
 repeat' (first
 | simp only [go_sem,hF,hP,hY,hZ]
 | (with_reducible refine CU (hm _) ?_)
 | (with_reducible refine CU (h1 _) ?_)
 | (with_reducible refine CU (Mf _ _) ?_)
 | (with_reducible first | refine bB fun hc=> ?_ | refine bC fun hc=> ?_ | refine bD (fun hc=> ?_) fun hc=> ?_) <;> (try simp only [hc,bs, ↓reduceIte]at h) <;> try simp only [hc]
 | (with_reducible refine aH hQ ?_;(try cases h);simp only [az,aA,bx,bA,go_sem,hF,hP,hY,hZ];repeat' (first | exact Ok.out | with_reducible refine aE ?_ ?_ | (simp;done))))
end Go.Abs

/-! RefMay2 -/

namespace Go.Abs
set_option maxRecDepth 8000
open Go.Proofs
structure Sm.lI (s:Sm):Prop where
 Sq : ∀ t∈s.labels,t.length<4611686018427387904
 W1:s.labels.length<4611686018427387904
 name:s.name.length<4611686018427387904
 proc:s.proc.length<4611686018427387904
 x:s.x.size<4611686018427387904
 xt:s.x.texts
 W2:s.args.length<4611686018427387904
 arg : ∀ a∈s.args,a.x.size<4611686018427387904∧a.x.texts∧a.name.length<4611686018427387904
section
variable {v:Sm} {B:e9} {Q:Exit→Tm→St→Prop} {p:Bool}
theorem aan (hf:v.lI) (hB:B.s = ⟨[],[]⟩) (hQ:gS 0 0 [(2,none)] (.bool p) ⟨[],[]⟩=Q)
 (h:(if !(Ar.eB v.args)then false else((v.a7.length:Int)==0 || v.kind==5 || v.kind==6) && ((v.aW.length:Int)==0 || v.kind==5))=p) :
 Sem Tryz.prog B 178 WH Q [(1, .ptr 0 0)] ⟨[bc v],[]⟩:=by
 have aqw:=hf.W2
 have PE:=fun a ha s=>aam (hf.arg a ha).1 (hf.arg a ha).2.1 (hf.arg a ha).2.2 s
 have⟨hF,hP,hY,hZ⟩:=bt
 refine gB ?_
 repeat' (first
 | simp only [go_sem,hF,hP,hY,hZ]
 | (with_reducible refine aH hQ ?_;simp only [az,aA,bx,bA,go_sem,hF,hP,hY,hZ];repeat' (first | exact Ok.out | with_reducible refine aE ?_ ?_ | (simp;done))))
 refine cM 1 0 (bm.ind (ι:=List Ar×Nat) (fun i=>v.args.drop i.2=i.1∧(if !(Ar.eB i.1)then false else((v.a7.length:Int)==0 || v.kind==5 || v.kind==6) && ((v.aW.length:Int)==0 || v.kind==5))=p) (fun i=>i.1.length)
  (fun i=> [(1, .ptr 0 0),(143, .slice .shared 6 (v.args.map dO)),(144, .int .i64 (v.args.length:Int)),(145, .int .i64 (i.2:Int))]) (fun i=>⟨[bc v],[]⟩) ?_ (v.args,0) ⟨rfl,h⟩)
 rintro⟨rest,k⟩ ⟨h1,h⟩ IH
 dsimp only at h1 h
 cases rest with
 | nil=>
  have hF:=drop_nil h1
  simp only [Ar.eB,Bool.not_true,Bool.false_eq_true, ↓reduceIte]at h
  repeat' (first
 | simp only [go_sem,hF,hP,hY,hZ]
 | (with_reducible first | refine bB fun hc=> ?_ | refine bC fun hc=> ?_ | refine bD (fun hc=> ?_) fun hc=> ?_) <;> (try simp only [hc,bs, ↓reduceIte]at h) <;> try simp only [hc]
 | (with_reducible refine aH hQ ?_;(try cases h);simp only [az,aA,bx,bA,go_sem,hF,hP,hY,hZ];repeat' (first | exact Ok.out | with_reducible refine aE ?_ ?_ | (simp;done))))
  all_goals
   simp only [*]
   exact Ok.out
 | cons a rest=>
  obtain⟨hP,g2,hF,g4⟩:=drop_cons h1
  have ha:=PE a (List.mem_of_getElem? hP)
  have hY:k<4611686018427387904:=by omega
  simp only [Ar.eB]at h
  repeat' (first
 | simp only [go_sem,hF,hP,hY,hZ]
 | (with_reducible refine CU (ha _) ?_)
 | (with_reducible first | refine bB fun hc=> ?_ | refine bC fun hc=> ?_ | refine bD (fun hc=> ?_) fun hc=> ?_) <;> (try simp only [hc,bs, ↓reduceIte]at h) <;> try simp only [hc]
 | (with_reducible refine aH hQ ?_;(try cases h);simp only [az,aA,bx,bA,go_sem,hF,hP,hY,hZ];repeat' (first | exact Ok.out | with_reducible refine aE ?_ ?_ | (simp;done))))
  refine cM 1 0 (IH (rest,k+1) ⟨g2,h⟩ (Nat.lt_succ_self _))
theorem aao {cl:Bool} (hf:v.lI) (hB:B.s = ⟨[],[]⟩) (hQ:gS 0 0 [(2,none)] (.bool p) ⟨[],[]⟩=Q)
 (h:(if !(cl == !(v.proc == [])) || (cl && !(isName v.proc)) || (!cl && decide ((v.args.length:Int) > 0))then false
  else if !(Ar.eB v.args)then false else((v.a7.length:Int)==0 || v.kind==5 || v.kind==6) && ((v.aW.length:Int)==0 || v.kind==5))=p) :
 Sem Tryz.prog B 178 WI Q [(1, .ptr 0 0),(5, .bool cl)] ⟨[bc v],[]⟩:=by
 have J3:=vr v.proc hf.proc
 have⟨hF,hP,hY,hZ⟩:=bt
 refine Sem.jB ?_
 repeat' (first
 | simp only [go_sem,hF,hP,hY,hZ]
 | (with_reducible refine CU (J3 _) ?_)
 | (with_reducible first | refine bB fun hc=> ?_ | refine bC fun hc=> ?_ | refine bD (fun hc=> ?_) fun hc=> ?_) <;> (try simp only [hc,bs, ↓reduceIte]at h) <;> try simp only [hc]
 | (with_reducible refine aH hQ ?_;(try cases h);simp only [az,aA,bx,bA,go_sem,hF,hP,hY,hZ];repeat' (first | exact Ok.out | with_reducible refine aE ?_ ?_ | (simp;done))))
 all_goals
  refine Sem.re _ _ 1 0 (by rw [hB];exact k9 rfl) (by rw [hB];exact k9 rfl) ?_ ?_ (aan hf hB hQ h)
  ·(simp only [go_sem,hF,hP,hY,hZ];repeat' (first | exact Ok.out | with_reducible refine aE ?_ ?_))
  ·(simp only [go_sem,hF,hP,hY,hZ];repeat' (first | exact Ok.out | with_reducible refine aE ?_ ?_))
theorem aap {hn cl:Bool} (hf:v.lI) (hB:B.s = ⟨[],[]⟩) (hQ:gS 0 0 [(2,none)] (.bool p) ⟨[],[]⟩=Q)
 (h:(if(hn && !(isName v.name)) || (!hn && !(v.name == []) && !(cl && isName v.name))then false
  else if !(cl == !(v.proc == [])) || (cl && !(isName v.proc)) || (!cl && decide ((v.args.length:Int) > 0))then false
  else if !(Ar.eB v.args)then false else((v.a7.length:Int)==0 || v.kind==5 || v.kind==6) && ((v.aW.length:Int)==0 || v.kind==5))=p) :
 Sem Tryz.prog B 178 WJ Q [(1, .ptr 0 0),(4, .bool hn),(5, .bool cl)] ⟨[bc v],[]⟩:=by
 have HY:=vr v.name hf.name
 have⟨hF,hP,hY,hZ⟩:=bt
 have k:=@aao v B Q p cl hf hB hQ
 cases cl
 all_goals
  refine Sem.jB ?_
  repeat' (first
 | simp only [go_sem,hF,hP,hY,hZ]
 | (with_reducible refine CU (HY _) ?_)
 | (with_reducible first | refine bB fun hc=> ?_ | refine bC fun hc=> ?_ | refine bD (fun hc=> ?_) fun hc=> ?_) <;> (try simp only [hc,bs, ↓reduceIte]at h) <;> try simp only [hc]
 | (with_reducible refine aH hQ ?_;(try cases h);simp only [az,aA,bx,bA,go_sem,hF,hP,hY,hZ];repeat' (first | exact Ok.out | with_reducible refine aE ?_ ?_ | (simp;done))))
 all_goals
  refine Sem.re _ _ 1 0 (by rw [hB];exact k9 rfl) (by rw [hB];exact k9 rfl) ?_ ?_ (k (by simpa only [bs, ↓reduceIte]using h))
  ·(simp only [go_sem,hF,hP,hY,hZ];repeat' (first | exact Ok.out | with_reducible refine aE ?_ ?_))
  ·(simp only [go_sem,hF,hP,hY,hZ];repeat' (first | exact Ok.out | with_reducible refine aE ?_ ?_))
theorem aaq {hx hn cl:Bool} (hf:v.lI) (hB:B.s = ⟨[],[]⟩) (hQ:gS 0 0 [(2,none)] (.bool p) ⟨[],[]⟩=Q)
 (h:(if decide (v.kind<1) || decide (v.kind > 10) || !(df v.labels) || (hx && !(v.x.may)) || (!hx && !(v.x.none)) || (v.has && v.kind != 9)then false
  else if(hn && !(isName v.name)) || (!hn && !(v.name == []) && !(cl && isName v.name))then false
  else if !(cl == !(v.proc == [])) || (cl && !(isName v.proc)) || (!cl && decide ((v.args.length:Int) > 0))then false
  else if !(Ar.eB v.args)then false else((v.a7.length:Int)==0 || v.kind==5 || v.kind==6) && ((v.aW.length:Int)==0 || v.kind==5))=p) :
 Sem Tryz.prog B 178 WK Q [(1, .ptr 0 0),(3, .bool hx),(4, .bool hn),(5, .bool cl)] ⟨[bc v],[]⟩:=by
 have hns:=fun s=>PD hf.W1 hf.Sq s
 have hm:=CS hf.x hf.xt
 have⟨hF,hP,hY,hZ⟩:=bt
 refine Sem.jB ?_
 repeat' (first
 | simp only [go_sem,hF,hP,hY,hZ]
 | (with_reducible refine CU (hns _) ?_)
 | (with_reducible refine CU (hm _) ?_)
 | (with_reducible refine CU (Mf _ _) ?_)
 | (with_reducible first | refine bB fun hc=> ?_ | refine bC fun hc=> ?_ | refine bD (fun hc=> ?_) fun hc=> ?_) <;> (try simp only [hc,bs, ↓reduceIte]at h) <;> try simp only [hc]
 | (with_reducible refine aH hQ ?_;(try cases h);simp only [az,aA,bx,bA,go_sem,hF,hP,hY,hZ];repeat' (first | exact Ok.out | with_reducible refine aE ?_ ?_ | (simp;done))))
 all_goals
  refine Sem.re _ _ 1 0 (by rw [hB];exact k9 rfl) (by rw [hB];exact k9 rfl) ?_ ?_ (aap hf hB hQ h)
  ·(simp only [go_sem,hF,hP,hY,hZ];repeat' (first | exact Ok.out | with_reducible refine aE ?_ ?_))
  ·(simp only [go_sem,hF,hP,hY,hZ];repeat' (first | exact Ok.out | with_reducible refine aE ?_ ?_))
theorem aar {hx hn:Bool} (hf:v.lI) (hB:B.s = ⟨[],[]⟩) (hQ:gS 0 0 [(2,none)] (.bool p) ⟨[],[]⟩=Q) (ex:v.sO=hx) (en:v.hasName=hn) (h:v.one=p) :
 Sem Tryz.prog B 178 WL Q [(1, .ptr 0 0),(3, .bool hx),(4, .bool hn)] ⟨[bc v],[]⟩:=by
 unfold Sm.one at h
 rw [ex,en]at h
 have⟨hF,hP,hY,hZ⟩:=bt
 refine Sem.jB ?_
 repeat' (first
 | simp only [go_sem,hF,hP,hY,hZ]
 | (with_reducible refine aH hQ ?_;simp only [az,aA,Option.some.injEq,exists_eq_left',go_sem,hF,hP,hY,hZ];repeat' (first | exact Ok.out | with_reducible refine aE ?_ ?_ | (simp;done))))
 refine Sem.re _ _ 1 0 (by rw [hB];exact k9 rfl) (by rw [hB];exact k9 rfl) ?_ ?_ (aaq hf hB hQ h)
 ·(simp only [go_sem,hF,hP,hY,hZ,Sm.nz];repeat' (first | exact Ok.out | with_reducible refine aE ?_ ?_))
 ·(simp only [go_sem,hF,hP,hY,hZ,Sm.nz];repeat' (first | exact Ok.out | with_reducible refine aE ?_ ?_))
theorem aas {hx:Bool} (hf:v.lI) (hB:B.s = ⟨[],[]⟩) (hQ:gS 0 0 [(2,none)] (.bool p) ⟨[],[]⟩=Q) (ex:v.sO=hx) (hp:v.one=p) :
 Sem Tryz.prog B 178 WM Q [(1, .ptr 0 0),(3, .bool hx)] ⟨[bc v],[]⟩:=by
 generalize h:v.hasName=hn
 have hn:=h
 unfold Sm.hasName at h
 have⟨hF,hP,hY,hZ⟩:=bt
 refine Sem.jB ?_
 repeat' (first
 | simp only [go_sem,hF,hP,hY,hZ]
 | (with_reducible first | refine bB fun hc=> ?_ | refine bC fun hc=> ?_ | refine bD (fun hc=> ?_) fun hc=> ?_) <;> (try simp only [hc,bs, ↓reduceIte]at h) <;> try simp only [hc]
 | (with_reducible refine aH hQ ?_;simp only [az,aA,bx,bA,go_sem,hF,hP,hY,hZ];repeat' (first | exact Ok.out | with_reducible refine aE ?_ ?_ | (simp;done))))
 all_goals
  refine Sem.re _ _ 1 0 (by rw [hB];exact k9 rfl) (by rw [hB];exact k9 rfl) ?_ ?_ (aar hf hB hQ ex hn hp)
  ·(simp only [go_sem,hF,hP,hY,hZ,h];repeat' (first | exact Ok.out | with_reducible refine aE ?_ ?_))
  ·(simp only [go_sem,hF,hP,hY,hZ,h];repeat' (first | exact Ok.out | with_reducible refine aE ?_ ?_))
theorem aat (hf:v.lI) (hB:B.s = ⟨[],[]⟩) (hQ:gS 0 0 [(2,none)] (.bool p) ⟨[],[]⟩=Q) (hp:v.one=p) :
 Sem Tryz.prog B 178 WN Q [(1, .ptr 0 0)] ⟨[bc v],[]⟩:=by
 generalize h:v.sO=hx
 have ex:=h
 unfold Sm.sO at h
 have⟨hF,hP,hY,hZ⟩:=bt
 refine Sem.jB ?_
 repeat' (first
 | simp only [go_sem,hF,hP,hY,hZ]
 | (with_reducible first | refine bB fun hc=> ?_ | refine bC fun hc=> ?_ | refine bD (fun hc=> ?_) fun hc=> ?_) <;> (try simp only [hc,bs, ↓reduceIte]at h) <;> try simp only [hc]
 | (with_reducible refine aH hQ ?_;simp only [az,aA,bx,bA,go_sem,hF,hP,hY,hZ];repeat' (first | exact Ok.out | with_reducible refine aE ?_ ?_ | (simp;done))))
 all_goals
  refine Sem.re _ _ 1 0 (by rw [hB];exact k9 rfl) (by rw [hB];exact k9 rfl) ?_ ?_ (aas hf hB hQ ex hp)
  ·(simp only [go_sem,hF,hP,hY,hZ,h];repeat' (first | exact Ok.out | with_reducible refine aE ?_ ?_))
  ·(simp only [go_sem,hF,hP,hY,hZ,h];repeat' (first | exact Ok.out | with_reducible refine aE ?_ ?_))
end
theorem aD.goS {P:Program} {f:FuncId} {nt:Nat} {res:List (Nat×Option (Bool×Nat))} {body:AC} {args:List D} {s:St} {d:D} {s':St} (h0:Has P f nt res body) (hl:Nat.ble args.length nt=true)
 (h : ∀ (B:e9) (Q:Exit→Tm→St→Prop),B.s=s→gS s.aw.length s.aC.length res d s'=Q→Sem P B nt body Q (mO 0 args) s):aD P f args s d s':=by
 obtain⟨fn,hf,hc⟩:=h0
 exact aD.intro ⟨fn,hf,hc⟩ (Nat.le_of_ble_eq_true hl) fun B hB=>h B _ hB rfl
theorem D5 {v:Sm} (hf:v.lI) (s:St):aD Tryz.prog Ax [.agg (bc v)] s (.bool v.one) s:=by
 refine aD.pure ?_ (by simp [D.bH,D.ok,mE]) rfl s
 unfold S0
 refine aD.goS Fj rfl fun B Q hB hQ=> ?_
 have⟨hF,hP,hY,hZ⟩:=bt
 refine Sem.jB ?_
 repeat' (first
 | simp only [go_sem,hF,hP,hY,hZ]
 | (with_reducible refine aH hQ ?_;simp only [az,aA,Option.some.injEq,exists_eq_left',go_sem,hF,hP,hY,hZ];repeat' (first | exact Ok.out | with_reducible refine aE ?_ ?_ | (simp;done))))
 refine Sem.re _ _ 1 0 (by rw [hB];exact k9 rfl) (by rw [hB];exact k9 rfl) ?_ ?_ (aat hf hB hQ rfl)
 ·(simp only [go_sem,hF,hP,hY,hZ];repeat' (first | exact Ok.out | with_reducible refine aE ?_ ?_))
 ·(simp only [go_sem,hF,hP,hY,hZ];repeat' (first | exact Ok.out | with_reducible refine aE ?_ ?_))
end Go.Abs

/-! Flat1 -/

namespace Go.Abs
set_option maxRecDepth 8000
open Go.Proofs
def ez (i:Im):List D:= [.int .i64 i.s.id, .int .i64 i.s.kind, .slice .shared 1 (i.s.labels.map encStr), .str i.s.name, .str i.s.proc,
 .int .i64 i.s.x.op, .int .i64 i.s.x.n, .str i.s.x.name, .slice .shared 4 (i.s.x.kids.map bp), .bool i.s.has, .slice .shared 6 (i.s.args.map dO), .slice .shared 13 (i.s.a7.map bc), .slice .shared 13 (i.s.aW.map bc), .int .i64 i.proc, .int .i64 i.up, .int .i64 i.next, .int .i64 i.loop]
def kL (n:Int):List D:= [.int .i64 n]
theorem J4 (i:Im):D.bH 0 0 (ez i)=true:=by simp [ez,D.bH,D.ok,Tag.ok,eH,Rk,DY,mR]
theorem D6 (l:List Im):D.iE 0 0 (l.map ez)=true:=gl J4 l
theorem Sr (n m:Nat) (l:List Im):D.jf n m (l.map ez)=l.map ez:=lz J4 n m l
theorem aau (n m:Nat) (i:Im):D.gq n m (ez i)=ez i:=gI n m _ (J4 i)
theorem aav (x:Im):(ez x).length=17:=nd rfl
theorem T5 (x:Im):List.take 17 (ez x)=ez x:=nd rfl
theorem W3 (x:Im):List.drop 17 (ez x) = []:=nd rfl
theorem W4 (x:Im):List.take 13 (ez x)=bc x.s:=by simp only [ez,di];rfl
theorem PF (x:Im):(ez x)[0]? = some (.int .i64 x.s.id):=nd rfl
theorem PG (x:Im):(ez x)[1]? = some (.int .i64 x.s.kind):=nd rfl
theorem PH (x:Im):(ez x)[4]? = some (.str x.s.proc):=nd rfl
theorem Mg (x:Im):(ez x)[13]? = some (.int .i64 x.proc):=nd rfl
theorem Mh (x:Im):(ez x)[14]? = some (.int .i64 x.up):=nd rfl
theorem Mi (x:Im):(ez x)[15]? = some (.int .i64 x.next):=nd rfl
theorem Mj (x:Im):(ez x)[16]? = some (.int .i64 x.loop):=nd rfl
theorem J5 (s:Sm) (a b c d:Int):ez ⟨s,a,b,c,d⟩ = [.int .i64 s.id, .int .i64 s.kind, .slice .shared 1 (s.labels.map encStr), .str s.name, .str s.proc,
 .int .i64 s.x.op, .int .i64 s.x.n, .str s.x.name, .slice .shared 4 (s.x.kids.map bp), .bool s.has, .slice .shared 6 (s.args.map dO), .slice .shared 13 (s.a7.map bc), .slice .shared 13 (s.aW.map bc), .int .i64 a, .int .i64 b, .int .i64 c, .int .i64 d]:=nd rfl
theorem Ss (n:Int):D.bH 0 0 (kL n)=true:=rfl
theorem xQ (l:List Int):D.iE 0 0 (l.map kL)=true:=gl Ss l
theorem Mk (n m:Nat) (l:List Int):D.jf n m (l.map kL)=l.map kL:=lz Ss n m l
attribute [go_sem] Sr aau aav T5 W3 W4 PF PG PH Mg Mh Mi Mj Mk kL
theorem W5 : ∀ n,n<1000000000→∀ v:Sm,v.size≤n→aD Tryz.prog kV [.agg (bc v)] S0 (.int .i64 (v.gJ:Int)) S0:=by
 intro n
 induction n with
 | zero=>intro _ v h;obtain⟨_,_,_,_,_,_,_,_,_,_⟩:=v;simp only [Sm.size]at h;omega
 | succ n ih=>
 intro hn v hv
 have er:Sm.aY v.a7≤n∧Sm.aY v.aW≤n∧v.gJ=1+Sm.dQ v.a7+Sm.dQ v.aW:=by
  obtain⟨_,_,_,_,_,_,_,_,_,_⟩:=v
  simp only [Sm.size]at hv;exact⟨by dsimp only;omega,by dsimp only;omega,rfl⟩
 obtain⟨h1,h2,h3⟩:=er
 have c1:=jK v.a7
 have c2:=jK v.aW
 have l1:=Sm.dq v.a7
 have l2:=Sm.dq v.aW
 have hk : ∀ y,y∈v.a7∨y∈v.aW→∀ s,aD Tryz.prog kV [.agg (bc y)] s (.int .i64 (y.gJ:Int)) s:=fun y hy s=>
  (ih (by omega) y (by rcases hy with hy | hy <;> (have:=Sm.b9 hy;omega))).pure (by simp only [D.bH,D.ok,mE];rfl) rfl s
 rw [h3]
 unfold S0
 refine aD.go DN rfl fun B Q hB hQ=> ?_
 have⟨hF,hP,hY,hZ⟩:=bt
 repeat' (first
 | simp only [go_sem,hF,hP,hY,hZ]
 | (with_reducible refine aH hQ ?_;simp only [az,aA,Option.some.injEq,exists_eq_left',go_sem,hF,hP,hY,hZ];repeat' (first | exact Ok.out | with_reducible refine aE ?_ ?_ | (simp;done))))
 refine cM 1 0 (bm.ind (ι:=List Sm×Nat×Nat) (fun i=>v.a7.drop i.2.1=i.1∧i.2.2+Sm.dQ i.1=1+Sm.dQ v.a7) (fun i=>i.1.length)
  (fun i=> [(1, .ptr 0 0),(3, .int .i64 (i.2.2:Int)),(9, .slice .shared 13 (v.a7.map bc)),(10, .int .i64 (v.a7.length:Int)),(11, .int .i64 (i.2.1:Int))]) (fun i=>⟨[bc v],[]⟩) ?_ (v.a7,0,1) ⟨rfl,rfl⟩)
 rintro⟨rest,k,c⟩ ⟨g1,g2⟩ IH
 dsimp only at g1 g2
 cases rest with
 | cons y rest=>
  obtain⟨hP,g3,hF,g4⟩:=drop_cons g1
  have hy:=hk y (.inl (List.mem_of_getElem? hP))
  simp only [Sm.dQ]at g2
  have hcy:=zw y
  have KS:=Sm.b9 (List.mem_of_getElem? hP)
  have w1:IntKind.wrap .i64 ((k:Int)+1)=((k+1:Nat):Int):=by rw [cY] <;> omega
  have w2:IntKind.wrap .i64 ((c:Int)+(y.gJ:Int))=((c+y.gJ:Nat):Int):=by rw [cY] <;> omega
  repeat' (first
 | simp only [go_sem,hF,hP,hY,hZ,w1,w2]
 | (with_reducible refine CU (hy _) ?_)
 | (with_reducible refine aH hQ ?_;simp only [az,aA,Option.some.injEq,exists_eq_left',go_sem,hF,hP,hY,hZ];repeat' (first | exact Ok.out | with_reducible refine aE ?_ ?_ | (simp;done))))
  refine cM 1 0 (IH (rest,k+1,c+y.gJ) ⟨g3,by dsimp only;omega⟩ (Nat.lt_succ_self _))
 | nil=>
  have hF:=drop_nil g1
  simp only [Sm.dQ,Nat.add_zero]at g2
  subst g2
  repeat' (first
 | simp only [go_sem,hF,hP,hY,hZ]
 | (with_reducible refine aH hQ ?_;simp only [az,aA,Option.some.injEq,exists_eq_left',go_sem,hF,hP,hY,hZ];repeat' (first | exact Ok.out | with_reducible refine aE ?_ ?_ | (simp;done))))
  refine cM 1 0 (bm.ind (ι:=List Sm×Nat×Nat) (fun i=>v.aW.drop i.2.1=i.1∧i.2.2+Sm.dQ i.1=1+Sm.dQ v.a7+Sm.dQ v.aW) (fun i=>i.1.length)
   (fun i=> [(1, .ptr 0 0),(3, .int .i64 (i.2.2:Int)),(21, .slice .shared 13 (v.aW.map bc)),(22, .int .i64 (v.aW.length:Int)),(23, .int .i64 (i.2.1:Int))]) (fun i=>⟨[bc v],[]⟩) ?_ (v.aW,0,1+Sm.dQ v.a7) ⟨rfl,rfl⟩)
  rintro⟨rest,k,c⟩ ⟨g1,g2⟩ IH
  dsimp only at g1 g2
  cases rest with
  | cons y rest=>
   obtain⟨hP,g3,hF,g4⟩:=drop_cons g1
   have hy:=hk y (.inr (List.mem_of_getElem? hP))
   simp only [Sm.dQ]at g2
   have hcy:=zw y
   have KS:=Sm.b9 (List.mem_of_getElem? hP)
   have w1:IntKind.wrap .i64 ((k:Int)+1)=((k+1:Nat):Int):=by rw [cY] <;> omega
   have w2:IntKind.wrap .i64 ((c:Int)+(y.gJ:Int))=((c+y.gJ:Nat):Int):=by rw [cY] <;> omega
   repeat' (first
 | simp only [go_sem,hF,hP,hY,hZ,w1,w2]
 | (with_reducible refine CU (hy _) ?_)
 | (with_reducible refine aH hQ ?_;simp only [az,aA,Option.some.injEq,exists_eq_left',go_sem,hF,hP,hY,hZ];repeat' (first | exact Ok.out | with_reducible refine aE ?_ ?_ | (simp;done))))
   refine cM 1 0 (IH (rest,k+1,c+y.gJ) ⟨g3,by dsimp only;omega⟩ (Nat.lt_succ_self _))
  | nil=>
   have hF:=drop_nil g1
   simp only [Sm.dQ,Nat.add_zero]at g2
   subst g2
   repeat' (first
 | simp only [go_sem,hF,hP,hY,hZ]
 | (with_reducible refine aH hQ ?_;simp only [az,aA,Option.some.injEq,exists_eq_left',go_sem,hF,hP,hY,hZ];repeat' (first | exact Ok.out | with_reducible refine aE ?_ ?_ | (simp;done))))
theorem W6 {v:Sm} (h:v.size<1000000000) (s:St):aD Tryz.prog kV [.agg (bc v)] s (.int .i64 (v.gJ:Int)) s:=
 (W5 v.size h v (Nat.le_refl _)).pure (by simp only [D.bH,D.ok,mE];rfl) rfl s
end Go.Abs

/-! Flat2 -/

namespace Go.Abs
set_option maxRecDepth 8000
open Go.Proofs
abbrev gO (g ps:D) (L:List Im) (lo hi:List Int):List D:= [g,ps, .slice (.tok 0) 17 (L.map ez), .slice (.tok 1) 1 (lo.map kL), .slice (.tok 2) 1 (hi.map kL)]
abbrev PI (proc up next loop:Int):List D:= [.int .i64 0, .int .i64 0, .slice .full 0 [], .str [], .str [], .int .i64 0, .int .i64 0, .str [], .slice .full 0 [], .bool false, .slice .full 0 [], .slice .full 0 [], .slice .full 0 [], .int .i64 proc, .int .i64 up, .int .i64 next, .int .i64 loop]
theorem aD.aaw {P:Program} {f:Nat} {args:List D} {g ps:D} {L L':List Im} {lo hi CA gp:List Int} {a b c a' b' c':Option Nat}
 (h:aD P f (.ptr 0 0::args) ⟨[gO g ps L lo hi],[a,b,c]⟩ (.tuple []) ⟨[gO g ps L' CA gp],[a',b',c']⟩)
 (ha:D.bH 0 0 args=true) (hg:D.ok 0 0 g=true) (hp:D.ok 0 0 ps=true)
 {s:St} {o:Nat} (ho:s.aw[o]? = some (gO g ps L lo hi)) (ht:s.aC = [a,b,c]):aD P f (.ptr o 0::args) s (.tuple []) ⟨s.aw.set o (gO g ps L' CA gp),[a',b',c']⟩:=by
 have hr : ∀ (L:List Im) (lo hi:List Int),D.fL [o] [0,1,2] (gO g ps L lo hi)=gO g ps L lo hi:=fun L lo hi=>by
  simp [D.fL,D.dE,Tag.dE,p6 _ _ _ hg,p6 _ _ _ hp,ix _ _ _ (D6 L),ix _ _ _ (xQ lo),ix _ _ _ (xQ hi)]
 have hk : ∀ (L:List Im) (lo hi:List Int),D.bH 1 3 (gO g ps L lo hi)=true:=fun L lo hi=>by
  simp [D.bH,D.ok,Tag.ok,BH (Nat.zero_le 1) (Nat.zero_le 3) _ hg,BH (Nat.zero_le 1) (Nat.zero_le 3) _ hp,lY (Nat.zero_le 1) (Nat.zero_le 3) _ (D6 L),lY (Nat.zero_le 1) (Nat.zero_le 3) _ (xQ lo),lY (Nat.zero_le 1) (Nat.zero_le 3) _ (xQ hi)]
 refine dT.frame [o] [0,1,2] h (by simp) (by decide) (by simpa using (List.getElem?_eq_some_iff.1 ho).1) (by rw [ht];simp) rfl (fun i o' ds e1 e2=> ?_) rfl (fun i t' e1=> ?_)
  (by simp [D.fL,D.dE,eY _ _ _ ha])
  (by simp [D.bH,D.ok,gv (Nat.zero_le 1) (Nat.zero_le 3) _ ha]) ?_
 ·cases i with
  | zero=>simp only [List.getElem?_cons_zero,Option.some.injEq]at e1 e2;subst e1;subst e2;exact⟨by rw [hr];exact ho,hk L lo hi⟩
  | succ i=>simp at e1
 ·rw [ht]
  match i,e1 with
  | 0,e1=>simp at e1;subst e1;rfl
  | 1,e1=>simp at e1;subst e1;rfl
  | 2,e1=>simp at e1;subst e1;rfl
  | i+3,e1=>simp at e1
 ·rintro _ _ ⟨rfl,rfl⟩
  refine⟨by simp [D.back,D.dE,D.fL], ?_⟩
  have:=hr L' CA gp
  simp [St.back,jk,jg,this,ht]
abbrev Sv (N:Nat):Prop:=∀ (l:List Sm) (proc up next loop:Int) (out:List Im) (g ps:D) (lo hi:List Int) (b c:Option Nat),Sm.aY l<N→out.length+Sm.dQ l<1000000000→D.ok 0 0 g=true→D.ok 0 0 ps=true→
 ∀ {s:St} {o:Nat},s.aw[o]? = some (gO g ps out lo hi)→s.aC = [some out.length,b,c]→
 aD Tryz.prog iK [.ptr o 0, .slice .shared 13 (l.map bc), .agg (PI proc up next loop)] s (.tuple []) ⟨s.aw.set o (gO g ps (Im.rows proc up next loop out l) lo hi),[some (Im.rows proc up next loop out l).length,b,c]⟩
theorem aax {N:Nat} (ih:Sv N) {l:List Sm} {proc up next loop:Int} {out:List Im} {g ps:D} {lo hi:List Int} {b c:Option Nat} (hs:Sm.aY l<N+1) (hc:out.length+Sm.dQ l<1000000000) (hg:D.ok 0 0 g=true) (hp:D.ok 0 0 ps=true) (hN:N<1000000000) :
 aD Tryz.prog iK [.ptr 0 0, .slice .shared 13 (l.map bc), .agg (PI proc up next loop)] ⟨[gO g ps out lo hi],[some out.length,b,c]⟩ (.tuple []) ⟨[gO g ps (Im.rows proc up next loop out l) lo hi],[some (Im.rows proc up next loop out l).length,b,c]⟩:=by
 obtain⟨R,hR⟩ : ∃ R,R=Im.rows proc up next loop out l:=⟨_,rfl⟩
 have hlR:R.length=out.length+Sm.dQ l:=by rw [hR,fN]
 rw [← hR]
 have k1 : ∀ n m,D.fg n m g=g:=fun n m=>JE n m _ hg
 have k2 : ∀ n m,D.fg n m ps=ps:=fun n m=>JE n m _ hp
 refine aD.go xN rfl fun B Q hB hQ=> ?_
 have⟨hF,hP,hY,hZ⟩:=bt
 repeat' (first
 | simp only [go_sem,hF,hP,hY,hZ,k1,k2]
 | (with_reducible first | refine bB fun hc=> ?_ | refine bC fun hc=> ?_ | refine bD (fun hc=> ?_) fun hc=> ?_) <;> (try simp only [hc,bs, ↓reduceIte]at h) <;> try simp only [hc]
 | (with_reducible refine aH hQ ?_;simp only [az,aA,bx,bA,go_sem,hF,hP,hY,hZ,k1,k2];repeat' (first | exact Ok.out | with_reducible refine aE ?_ ?_ | (simp;done))))
 refine eo 2 3 ?_ ?_ (bm.ind (ι:=List Sm×Nat×List Im) (fun i=>l.drop i.2.1=i.1∧Im.rows proc up next loop i.2.2 i.1=R∧i.2.2.length+Sm.dQ i.1=out.length+Sm.dQ l) (fun i=>i.1.length)
  (fun i=> [(0, .ptr 0 0),(1, .slice .shared 13 (l.map bc)),(5, .ptr 1 0),(11, .slice .shared 13 (l.map bc)),(12, .int .i64 (l.length:Int)),(13, .int .i64 (i.2.1:Int))]) (fun i=>⟨[gO g ps i.2.2 lo hi,PI proc up next loop],[some i.2.2.length,b,c]⟩) ?_ (l,0,out) ⟨rfl,hR.symm,rfl⟩)
 ·(simp only [go_sem,hF,hP,hY,hZ,k1,k2];try exact bU)
 ·(simp only [go_sem,hF,hP,hY,hZ,k1,k2];try exact bU)
 rintro⟨rest,k,b6⟩ ⟨h1,h2,h3⟩ IH
 dsimp only at h1 h2 h3
 have hlen:l.length<1000000000:=by have:=Sm.dq l;omega
 cases rest with
 | nil=>
  have hF:=drop_nil h1
  simp only [Im.rows]at h2
  subst h2
  repeat' (first
 | simp only [go_sem,hF,hP,hY,hZ,k1,k2]
 | (with_reducible first | refine bB fun hc=> ?_ | refine bC fun hc=> ?_ | refine bD (fun hc=> ?_) fun hc=> ?_) <;> (try simp only [hc,bs, ↓reduceIte]at h) <;> try simp only [hc]
 | (with_reducible refine aH hQ ?_;simp only [az,aA,bx,bA,go_sem,hF,hP,hY,hZ,k1,k2];repeat' (first | exact Ok.out | with_reducible refine aE ?_ ?_ | (simp;done))))
 | cons v rest=>
  obtain⟨hP,g2,hF,g4⟩:=drop_cons h1
  have cb:k<4611686018427387904:=by omega
  have hv:=Sm.b9 (List.mem_of_getElem? hP)
  have qI:Sm.aY v.a7<N∧Sm.aY v.aW<N∧v.gJ=1+Sm.dQ v.a7+Sm.dQ v.aW:=by
   obtain⟨_,_,_,_,_,_,_,_,_,_⟩:=v
   simp only [Sm.size]at hv
   exact⟨by dsimp only;omega,by dsimp only;omega,rfl⟩
  obtain⟨Ah,Ev,hv3⟩:=qI
  simp only [Sm.dQ]at h3
  simp only [Im.rows,Im.Wa]at h2
  have hY:(b6.length+1)*241≤bI:=by unfold bI;omega
  have Hq:IntKind.wrap .i64 ((b6.length:Int)+1)=(b6.length:Int)+1:=cY (by omega) (by omega)
  have tJ:IntKind.wrap .i64 ((k:Int)+1)=((k+1:Nat):Int):=by rw [cY] <;> omega
  have Sw:IntKind.wrap .i64 ((b6.length:Int)+1+(v.gJ:Int))=(b6.length:Int)+1+(v.gJ:Int):=cY (by omega) (by omega)
  have er:=fun s=>W6 (v:=v) (by omega) s
  simp only [di]at er
  have Hb:rest.length=l.length - (k+1):=by rw [← g2,List.length_drop]
  by_cases aqx:k+1<l.length
  ·have d1:decide (((k+1:Nat):Int)<(l.length:Int))=true:=by simp;omega
   have e1:(rest.length=0)=False:=by simp;intro h;rw [h]at Hb;simp at Hb;omega
   by_cases Ml:v.kind=6
   ·have d2:(v.kind==6)=true:=by simp [Ml]
    simp only [e1,d2, ↓reduceIte,Bool.false_eq_true]at h2
    have f1:=fun {s:St} {o:Nat}=>@ih v.a7 proc ((b6.length:Int)+1) ((b6.length:Int)+1) ((b6.length:Int)+1) (b6++ [⟨v,proc,up,((b6.length:Int)+1+(v.gJ:Int)),loop⟩]) g ps lo hi b c Ah (by simp;omega) hg hp s o
    have f2:=fun {s:St} {o:Nat}=>@ih v.aW proc ((b6.length:Int)+1) ((b6.length:Int)+1) ((b6.length:Int)+1) _ g ps lo hi b c Ev (by rw [fN proc ((b6.length:Int)+1) ((b6.length:Int)+1) ((b6.length:Int)+1) (b6++ [⟨v,proc,up,((b6.length:Int)+1+(v.gJ:Int)),loop⟩]) v.a7];simp;omega) hg hp s o
    have hl:(Im.rows proc ((b6.length:Int)+1) ((b6.length:Int)+1) ((b6.length:Int)+1) (Im.rows proc ((b6.length:Int)+1) ((b6.length:Int)+1) ((b6.length:Int)+1) (b6++ [⟨v,proc,up,((b6.length:Int)+1+(v.gJ:Int)),loop⟩]) v.a7) v.aW).length=b6.length+v.gJ:=by rw [fN,fN];simp;omega
    simp only [gO,List.map_append,List.map_cons,List.map_nil,J5,List.length_append,List.length_cons,List.length_nil]at f1
    repeat' (first
 | simp only [go_sem,hF,hP,hY,hZ,k1,k2,Hq,tJ,Sw,d1,d2,di]
 | (with_reducible refine CU (er _) ?_)
 | (with_reducible refine CU (f1 (by with_unfolding_all rfl) (by with_unfolding_all rfl)) ?_)
 | (with_reducible refine CU (f2 (by with_unfolding_all rfl) (by with_unfolding_all rfl)) ?_)
 | (with_reducible refine aH hQ ?_;simp only [az,aA,bx,bA,go_sem,hF,hP,hY,hZ];repeat' (first | exact Ok.out | with_reducible refine aE ?_ ?_ | (simp;done))))
    refine eo 2 3 ?_ ?_ (IH (rest,k+1,_) ⟨g2,h2,by dsimp only;rw [hl];omega⟩ (Nat.lt_succ_self _))
    ·(simp only [go_sem,hF,hP,hY,hZ,tJ,k1,k2];try exact bU)
    ·(simp only [go_sem,hF,hP,hY,hZ,tJ,k1,k2];try exact bU)
   ·have d2:(v.kind==6)=false:=by simp [Ml]
    simp only [e1,d2, ↓reduceIte,Bool.false_eq_true]at h2
    have f1:=fun {s:St} {o:Nat}=>@ih v.a7 proc ((b6.length:Int)+1) ((b6.length:Int)+1+(v.gJ:Int)) loop (b6++ [⟨v,proc,up,((b6.length:Int)+1+(v.gJ:Int)),loop⟩]) g ps lo hi b c Ah (by simp;omega) hg hp s o
    have f2:=fun {s:St} {o:Nat}=>@ih v.aW proc ((b6.length:Int)+1) ((b6.length:Int)+1+(v.gJ:Int)) loop _ g ps lo hi b c Ev (by rw [fN proc ((b6.length:Int)+1) ((b6.length:Int)+1+(v.gJ:Int)) loop (b6++ [⟨v,proc,up,((b6.length:Int)+1+(v.gJ:Int)),loop⟩]) v.a7];simp;omega) hg hp s o
    have hl:(Im.rows proc ((b6.length:Int)+1) ((b6.length:Int)+1+(v.gJ:Int)) loop (Im.rows proc ((b6.length:Int)+1) ((b6.length:Int)+1+(v.gJ:Int)) loop (b6++ [⟨v,proc,up,((b6.length:Int)+1+(v.gJ:Int)),loop⟩]) v.a7) v.aW).length=b6.length+v.gJ:=by rw [fN,fN];simp;omega
    simp only [gO,List.map_append,List.map_cons,List.map_nil,J5,List.length_append,List.length_cons,List.length_nil]at f1
    repeat' (first
 | simp only [go_sem,hF,hP,hY,hZ,k1,k2,Hq,tJ,Sw,d1,d2,di]
 | (with_reducible refine CU (er _) ?_)
 | (with_reducible refine CU (f1 (by with_unfolding_all rfl) (by with_unfolding_all rfl)) ?_)
 | (with_reducible refine CU (f2 (by with_unfolding_all rfl) (by with_unfolding_all rfl)) ?_)
 | (with_reducible refine aH hQ ?_;simp only [az,aA,bx,bA,go_sem,hF,hP,hY,hZ];repeat' (first | exact Ok.out | with_reducible refine aE ?_ ?_ | (simp;done))))
    refine eo 2 3 ?_ ?_ (IH (rest,k+1,_) ⟨g2,h2,by dsimp only;rw [hl];omega⟩ (Nat.lt_succ_self _))
    ·(simp only [go_sem,hF,hP,hY,hZ,tJ,k1,k2];try exact bU)
    ·(simp only [go_sem,hF,hP,hY,hZ,tJ,k1,k2];try exact bU)
  ·have d1:decide (((k+1:Nat):Int)<(l.length:Int))=false:=by simp;omega
   have e1:(rest.length=0)=True:=by simp only [eq_iff_iff,iff_true];omega
   by_cases Ml:v.kind=6
   ·have d2:(v.kind==6)=true:=by simp [Ml]
    simp only [e1,d2, ↓reduceIte,Bool.false_eq_true]at h2
    have f1:=fun {s:St} {o:Nat}=>@ih v.a7 proc ((b6.length:Int)+1) ((b6.length:Int)+1) ((b6.length:Int)+1) (b6++ [⟨v,proc,up,next,loop⟩]) g ps lo hi b c Ah (by simp;omega) hg hp s o
    have f2:=fun {s:St} {o:Nat}=>@ih v.aW proc ((b6.length:Int)+1) ((b6.length:Int)+1) ((b6.length:Int)+1) _ g ps lo hi b c Ev (by rw [fN proc ((b6.length:Int)+1) ((b6.length:Int)+1) ((b6.length:Int)+1) (b6++ [⟨v,proc,up,next,loop⟩]) v.a7];simp;omega) hg hp s o
    have hl:(Im.rows proc ((b6.length:Int)+1) ((b6.length:Int)+1) ((b6.length:Int)+1) (Im.rows proc ((b6.length:Int)+1) ((b6.length:Int)+1) ((b6.length:Int)+1) (b6++ [⟨v,proc,up,next,loop⟩]) v.a7) v.aW).length=b6.length+v.gJ:=by rw [fN,fN];simp;omega
    simp only [gO,List.map_append,List.map_cons,List.map_nil,J5,List.length_append,List.length_cons,List.length_nil]at f1
    repeat' (first
 | simp only [go_sem,hF,hP,hY,hZ,k1,k2,Hq,tJ,Sw,d1,d2,di]
 | (with_reducible refine CU (er _) ?_)
 | (with_reducible refine CU (f1 (by with_unfolding_all rfl) (by with_unfolding_all rfl)) ?_)
 | (with_reducible refine CU (f2 (by with_unfolding_all rfl) (by with_unfolding_all rfl)) ?_)
 | (with_reducible refine aH hQ ?_;simp only [az,aA,bx,bA,go_sem,hF,hP,hY,hZ];repeat' (first | exact Ok.out | with_reducible refine aE ?_ ?_ | (simp;done))))
    refine eo 2 3 ?_ ?_ (IH (rest,k+1,_) ⟨g2,h2,by dsimp only;rw [hl];omega⟩ (Nat.lt_succ_self _))
    ·(simp only [go_sem,hF,hP,hY,hZ,tJ,k1,k2];try exact bU)
    ·(simp only [go_sem,hF,hP,hY,hZ,tJ,k1,k2];try exact bU)
   ·have d2:(v.kind==6)=false:=by simp [Ml]
    simp only [e1,d2, ↓reduceIte,Bool.false_eq_true]at h2
    have f1:=fun {s:St} {o:Nat}=>@ih v.a7 proc ((b6.length:Int)+1) next loop (b6++ [⟨v,proc,up,next,loop⟩]) g ps lo hi b c Ah (by simp;omega) hg hp s o
    have f2:=fun {s:St} {o:Nat}=>@ih v.aW proc ((b6.length:Int)+1) next loop _ g ps lo hi b c Ev (by rw [fN proc ((b6.length:Int)+1) next loop (b6++ [⟨v,proc,up,next,loop⟩]) v.a7];simp;omega) hg hp s o
    have hl:(Im.rows proc ((b6.length:Int)+1) next loop (Im.rows proc ((b6.length:Int)+1) next loop (b6++ [⟨v,proc,up,next,loop⟩]) v.a7) v.aW).length=b6.length+v.gJ:=by rw [fN,fN];simp;omega
    simp only [gO,List.map_append,List.map_cons,List.map_nil,J5,List.length_append,List.length_cons,List.length_nil]at f1
    repeat' (first
 | simp only [go_sem,hF,hP,hY,hZ,k1,k2,Hq,tJ,Sw,d1,d2,di]
 | (with_reducible refine CU (er _) ?_)
 | (with_reducible refine CU (f1 (by with_unfolding_all rfl) (by with_unfolding_all rfl)) ?_)
 | (with_reducible refine CU (f2 (by with_unfolding_all rfl) (by with_unfolding_all rfl)) ?_)
 | (with_reducible refine aH hQ ?_;simp only [az,aA,bx,bA,go_sem,hF,hP,hY,hZ];repeat' (first | exact Ok.out | with_reducible refine aE ?_ ?_ | (simp;done))))
    refine eo 2 3 ?_ ?_ (IH (rest,k+1,_) ⟨g2,h2,by dsimp only;rw [hl];omega⟩ (Nat.lt_succ_self _))
    ·(simp only [go_sem,hF,hP,hY,hZ,tJ,k1,k2];try exact bU)
    ·(simp only [go_sem,hF,hP,hY,hZ,tJ,k1,k2];try exact bU)
theorem T7 : ∀ N,N<1000000000→Sv N:=by
 intro N
 induction N with
 | zero=>exact fun _ l proc up next loop out g ps lo hi b c h=>absurd h (Nat.not_lt_zero _)
 | succ N ih=>
  intro h l proc up next loop out g ps lo hi b c hs hc hg hp s o ho ht
  exact(aax (ih (by omega)) hs hc hg hp (by omega)).aaw (by simp [D.bH,D.ok,Tag.ok,mR,D.iE]) hg hp ho ht
end Go.Abs

/-! Flat3 -/

namespace Go.Abs
set_option maxRecDepth 8000
open Go.Proofs
def gC (p:Pg):List D:= [.slice .shared 1 (p.globals.map encStr), .slice .shared 5 (p.procs.map cz), .slice .shared 17 (p.eO.L.map ez), .slice .shared 1 (p.eO.lo.map kL), .slice .shared 1 (p.eO.hi.map kL)]
theorem qe (p:Pg):gC p = [.slice .shared 1 (p.globals.map encStr), .slice .shared 5 (p.procs.map cz), .slice .shared 17 (p.eO.L.map ez), .slice .shared 1 (p.eO.lo.map kL), .slice .shared 1 (p.eO.hi.map kL)]:=nd rfl
theorem wa (p:Pg):D.bH 0 0 (gC p)=true:=by simp [gC,D.bH,D.ok,Tag.ok,eH,DZ,D6,xQ]
theorem Mm (p:Pg):cj p = [.slice .shared 1 (p.globals.map encStr), .slice .shared 5 (p.procs.map cz)]:=nd rfl
theorem aay {p:Pg} (hs:Pc.aY p.procs<1000000000):aD Tryz.prog kJ [.agg (cj p)] S0 (.ptr 1 0) ⟨[cj p,gO (.slice .shared 1 (p.globals.map encStr)) (.slice .shared 5 (p.procs.map cz)) p.eO.L p.eO.lo p.eO.hi],[some p.eO.L.length,some p.eO.lo.length,some p.eO.hi.length]⟩:=by
 have hlen:p.procs.length<1000000000:=by have:=Pc.dq p.procs;omega
 obtain⟨R,hR⟩ : ∃ R,R=p.eO:=⟨_,rfl⟩
 have hR':=hR
 unfold Pg.eO at hR'
 unfold S0
 rw [Mm, ← hR]
 refine aD.goK 2 3 (Nat.zero_le _) (Nat.zero_le _) Fc rfl fun B Q hB hQ=> ?_
 have⟨hF,hP,hY,hZ⟩:=bt
 repeat' (first
 | simp only [go_sem,hF,hP,hY,hZ,Mm]
 | (with_reducible refine aH hQ ?_;simp only [az,aA,Option.some.injEq,exists_eq_left',go_sem,hF,hP,hY,hZ];repeat' (first | exact Ok.out | with_reducible refine aE ?_ ?_ | (simp;done))))
 refine bm.sw 1 2 17 rfl rfl ?_
 simp only [go_sem,hF,hP,hY,hZ]
 refine bm.sw 1 3 1 rfl rfl ?_
 simp only [go_sem,hF,hP,hY,hZ]
 refine bm.sw 1 4 1 rfl rfl ?_
 simp only [go_sem,hF,hP,hY,hZ]
 refine eo 2 3 ?_ ?_ (bm.ind (ι:=List Pc×Nat×Sh×Nat×Nat) (fun i=>p.procs.drop i.2.1=i.1∧Sh.go i.2.1 i.2.2.1 i.1=R∧i.2.2.1.L.length+Pc.aY i.1≤Pc.aY p.procs∧i.2.2.1.lo.length=i.2.1∧i.2.2.1.hi.length=i.2.1∧i.2.2.2.1=i.2.2.1.lo.length∧i.2.2.2.2=i.2.2.1.hi.length) (fun i=>i.1.length)
  (fun i=> [(1, .ptr 0 0),(3, .ptr 1 0),(10, .slice .shared 5 (p.procs.map cz)),(11, .int .i64 (p.procs.length:Int)),(12, .int .i64 (i.2.1:Int))]) (fun i=>⟨[[.slice .shared 1 (p.globals.map encStr), .slice .shared 5 (p.procs.map cz)],gO (.slice .shared 1 (p.globals.map encStr)) (.slice .shared 5 (p.procs.map cz)) i.2.2.1.L i.2.2.1.lo i.2.2.1.hi],[some i.2.2.1.L.length,some i.2.2.2.1,some i.2.2.2.2]⟩) ?_ (p.procs,0,⟨[],[],[]⟩,0,0) ⟨rfl,hR'.symm,by simp,rfl,rfl,rfl,rfl⟩)
 ·(simp only [go_sem,hF,hP,hY,hZ,gO];try exact bU)
 ·(simp only [go_sem,hF,hP,hY,hZ,gO];try exact bU)
 rintro⟨rest,k,h,n1,n2⟩ ⟨h1,h2,h3,h4,h5,h6,h7⟩ IH
 dsimp only at h1 h2 h3 h4 h5 h6 h7
 subst h6 h7
 cases rest with
 | nil=>
  have hF:=drop_nil h1
  simp only [Sh.go]at h2
  rw [← h2]at hQ
  repeat' (first
 | simp only [go_sem,hF,hP,hY,hZ,gO]
 | (with_reducible refine aH hQ ?_;simp only [az,aA,Option.some.injEq,exists_eq_left',go_sem,hF,hP,hY,hZ];repeat' (first | exact Ok.out | with_reducible refine aE ?_ ?_ | (simp;done))))
 | cons f rest=>
  obtain⟨hP,g2,hF,g4⟩:=drop_cons h1
  have cb:k<4611686018427387904:=by omega
  simp only [Pc.aY,Pc.size]at h3
  simp only [Sh.go]at h2
  have c1:=jK f.body
  have hY:(h.lo.length+1)*9≤bI:=by unfold bI;omega
  have aiE:(h.hi.length+1)*9≤bI:=by unfold bI;omega
  have Hq:IntKind.wrap .i64 ((h.L.length:Int)+1)=(h.L.length:Int)+1:=cY (by omega) (by omega)
  have hl:(Im.rows (k:Int) 0 (-1) 0 h.L f.body).length=h.L.length+Sm.dQ f.body:=fN ..
  have tJ:IntKind.wrap .i64 (((Im.rows (k:Int) 0 (-1) 0 h.L f.body).length:Int)+1)=((Im.rows (k:Int) 0 (-1) 0 h.L f.body).length:Int)+1:=cY (by omega) (by omega)
  have hr:=fun {s:St} {o:Nat}=>@T7 (Sm.aY f.body+1) (by omega) f.body (k:Int) 0 (-1) 0 h.L (.slice .shared 1 (p.globals.map encStr)) (.slice .shared 5 (p.procs.map cz)) (h.lo++ [(h.L.length:Int)+1]) h.hi (some (h.lo.length+1)) (some h.hi.length) (Nat.lt_succ_self _) (by omega) (by simp [D.ok,Tag.ok,eH]) (by simp [D.ok,Tag.ok,DZ]) s o
  simp only [gO,List.map_append,List.map_cons,List.map_nil,kL]at hr
  repeat' (first
 | simp only [go_sem,hF,hP,hY,hZ,Hq,tJ,aiE,gO]
 | (with_reducible refine CU (hr (by with_unfolding_all rfl) (by with_unfolding_all rfl)) ?_)
 | (with_reducible refine aH hQ ?_;simp only [az,aA,Option.some.injEq,exists_eq_left',go_sem,hF,hP,hY,hZ];repeat' (first | exact Ok.out | with_reducible refine aE ?_ ?_ | (simp;done))))
  refine eo 2 3 ?_ ?_ (IH (rest,k+1,⟨Im.rows (k:Int) 0 (-1) 0 h.L f.body,h.lo++ [(h.L.length:Int)+1],h.hi++ [((Im.rows (k:Int) 0 (-1) 0 h.L f.body).length:Int)+1]⟩,_,_) ⟨g2,h2,by dsimp only;rw [hl];omega,by simp [h4],by simp [h5],by simp,by simp⟩ (Nat.lt_succ_self _))
  ·(simp only [go_sem,hF,hP,hY,hZ,gO,aM cb,List.map_append,List.map_cons,List.map_nil,kL];try exact bU)
  ·(simp only [go_sem,hF,hP,hY,hZ,gO,aM cb,List.map_append,List.map_cons,List.map_nil,kL];try exact bU)
theorem AT {p:Pg} (hs:Pc.aY p.procs<1000000000) (s:St):aD Tryz.prog kJ [.agg (cj p)] s (.dC (gC p) 0) s:=by
 refine aD.pure ?_ (by simp only [D.bH,D.ok,iX];rfl) (by simp only [D.ok,wa]) s
 have h:=(aay hs).w8 (n:=0) (m:=0) rfl (Nat.le_refl _) (Nat.zero_le _) (Nat.le_refl _)
 simpa [D.gq,D.fg,Tag.fg,L5,Rl,Sr,Mk,St.cut,gC,S0]using h
end Go.Abs

/-! Sl1 -/

namespace Go.Abs
set_option maxRecDepth 8000
open Go.Proofs
def mK (x:aB) (k:Int):List aB→Int
 | []=> -1
 | s::l=>if x==s then k else mK x (k+1) l
def eC (l:List aB) (x:aB):Bool:=decide (mK x 0 l≥0)
def k6 {α:Type} (b:α→Bool) (k:Int):List α→Int
 | []=> -1
 | s::l=>if b s then k else k6 b (k+1) l
theorem Hr (x:aB) : ∀ (l:List aB) (k:Int),0≤k→(mK x k l≥0↔x∈l)
 | [],k,h=>by simp [mK]
 | s::l,k,h=>by
  by_cases e:x=s
  ·simp [mK,e];omega
  ·have e':(x==s)=false:=by simp [e]
   simp only [mK,e',Bool.false_eq_true,if_false,List.mem_cons,e,false_or]
   exact Hr x l (k+1) (by omega)
theorem iN (l:List aB) (x:aB):eC l x=true↔x∈l:=by
 simp only [eC,decide_eq_true_eq];exact Hr x l 0 (Int.le_refl 0)
theorem Cd {α:Type} (b:α→Bool) : ∀ (l:List α) (k:Int),0≤k→(k6 b k l≥0↔l.any b=true)
 | [],k,h=>by simp [k6]
 | s::l,k,h=>by
  by_cases e:b s=true
  ·simp [k6,e];omega
  ·have e':b s=false:=by simpa using e
   simp only [k6,e',Bool.false_eq_true,if_false,List.any_cons,Bool.or_eq_true,false_or]
   exact Cd b l (k+1) (by omega)
theorem Hs {l:List aB} (hl:l.length<4611686018427387904) (x:aB) (s:St):aD Tryz.prog gW [.slice .shared 1 (l.map encStr), .str x] s (.int .i64 (mK x 0 l)) s:=by
 refine aD.pure ?_ (by simp [D.bH,D.ok,Tag.ok,eH]) rfl s
 generalize h:mK x 0 l=p
 unfold S0
 refine aD.go sZ rfl fun B Q hB hQ=> ?_
 have⟨hF,hP,hY,hZ⟩:=bt
 repeat' (first
 | simp only [go_sem,hF,hP,hY,hZ]
 | (with_reducible first | refine bB fun hc=> ?_ | refine bC fun hc=> ?_ | refine bD (fun hc=> ?_) fun hc=> ?_) <;> (try simp only [hc,bs, ↓reduceIte]at h) <;> try simp only [hc]
 | (with_reducible refine aH hQ ?_;(try cases h);simp only [az,aA,bx,bA,go_sem,hF,hP,hY,hZ];repeat' (first | exact Ok.out | with_reducible refine aE ?_ ?_ | (simp;done))))
 refine cM 0 0 (bm.ind (ι:=List aB×Nat) (fun i=>l.drop i.2=i.1∧mK x (i.2:Int) i.1=p) (fun i=>i.1.length)
  (fun i=> [(0, .slice .shared 1 (l.map encStr)),(1, .str x),(7, .int .i64 (l.length:Int)),(8, .int .i64 (i.2:Int))]) (fun i=>⟨[],[]⟩) ?_ (l,0) ⟨rfl,h⟩)
 rintro⟨rest,k⟩ ⟨h1,h⟩ IH
 dsimp only at h1 h
 cases rest with
 | nil=>
  have hF:=drop_nil h1
  simp only [mK]at h
  repeat' (first
 | simp only [go_sem,hF,hP,hY,hZ]
 | (with_reducible first | refine bB fun hc=> ?_ | refine bC fun hc=> ?_ | refine bD (fun hc=> ?_) fun hc=> ?_) <;> (try simp only [hc,bs, ↓reduceIte]at h) <;> try simp only [hc]
 | (with_reducible refine aH hQ ?_;(try cases h);simp only [az,aA,bx,bA,go_sem,hF,hP,hY,hZ];repeat' (first | exact Ok.out | with_reducible refine aE ?_ ?_ | (simp;done))))
 | cons a rest=>
  obtain⟨hP,g2,hF,g4⟩:=drop_cons h1
  have cb:k<4611686018427387904:=by omega
  simp only [mK]at h
  repeat' (first
 | simp only [go_sem,hF,hP,hY,hZ]
 | (with_reducible first | refine bB fun hc=> ?_ | refine bC fun hc=> ?_ | refine bD (fun hc=> ?_) fun hc=> ?_) <;> (try simp only [hc,bs, ↓reduceIte]at h) <;> try simp only [hc]
 | (with_reducible refine aH hQ ?_;(try cases h);simp only [az,aA,bx,bA,go_sem,hF,hP,hY,hZ];repeat' (first | exact Ok.out | with_reducible refine aE ?_ ?_ | (simp;done))))
  refine eo 0 0 ?_ ?_ (IH (rest,k+1) ⟨g2,h⟩ (Nat.lt_succ_self _))
  ·(simp only [go_sem,hF,hP,hY,hZ,aM cb];try exact bU)
  ·(simp only [go_sem,hF,hP,hY,hZ,aM cb];try exact bU)
theorem py {l:List aB} (hl:l.length<4611686018427387904) (x:aB) (s:St):aD Tryz.prog bQ [.slice .shared 1 (l.map encStr), .str x] s (.bool (eC l x)) s:=by
 refine aD.pure ?_ (by simp [D.bH,D.ok,Tag.ok,eH]) rfl s
 have hi:=fun s=>Hs hl x s
 unfold S0
 refine aD.go rk rfl fun B Q hB hQ=> ?_
 have⟨hF,hP,hY,hZ⟩:=bt
 repeat' (first
 | simp only [go_sem,hF,hP,hY,hZ,eC]
 | (with_reducible refine CU (hi _) ?_)
 | (with_reducible first | refine bB fun hc=> ?_ | refine bC fun hc=> ?_ | refine bD (fun hc=> ?_) fun hc=> ?_) <;> (try simp only [hc,bs, ↓reduceIte]at h) <;> try simp only [hc]
 | (with_reducible refine aH hQ ?_;simp only [az,aA,bx,bA,go_sem,hF,hP,hY,hZ,eC];repeat' (first | exact Ok.out | with_reducible refine aE ?_ ?_ | (simp;done))))
theorem aD.Mn {P:Program} {f:Nat} {d d':D} {r:List D} {s s':St} {x:D} (h:aD P f (d'::r) s x s') (hw:Wk d d'):aD P f (d::r) s x s':=dT.zr (.cons hw (lu.refl r)) h
theorem ie {l:List aB} (hl:l.length<4611686018427387904) (x:aB) (g:Tag) (s:St):aD Tryz.prog bQ [.slice g 1 (l.map encStr), .str x] s (.bool (eC l x)) s:=
 (py hl x s).Mn (Wk.shared _ _ _)
theorem Fp (x:aB) (z:Nat) (g:Tag) (s:St):aD Tryz.prog bQ [.slice g z [], .str x] s (.bool false) s:=
 (py (l:= []) (by simp) x s).Mn (Wk.nil _ _ _)
theorem xR {l:List aB} (hl:l.length<4611686018427387904) {f:Nat} {row:List D} {b:aB→Bool} (rB:D.bH 0 0 row=true) (he:enters Tryz.prog f=true)
 (hb : ∀ x∈l,aD Tryz.prog f ([.str x]++ [.ptr 0 0]) ⟨[row],[]⟩ (.bool (b x)) ⟨[row],[]⟩) :
 aD Tryz.prog jC [.slice .shared 1 (l.map encStr), .fY f [.ptr 0 0]] ⟨[row],[]⟩ (.int .i64 (k6 b 0 l)) ⟨[row],[]⟩:=by
 generalize h:k6 b 0 l=p
 have k1 : ∀ n m,D.gq n m row=row:=fun n m=>gI n m _ rB
 refine aD.go qR rfl fun B Q hB hQ=> ?_
 have⟨hF,hP,hY,hZ⟩:=bt
 repeat' (first
 | simp only [go_sem,hF,hP,hY,hZ,k1]
 | (with_reducible first | refine bB fun hc=> ?_ | refine bC fun hc=> ?_ | refine bD (fun hc=> ?_) fun hc=> ?_) <;> (try simp only [hc,bs, ↓reduceIte]at h) <;> try simp only [hc]
 | (with_reducible refine aH hQ ?_;(try cases h);simp only [az,aA,bx,bA,go_sem,hF,hP,hY,hZ,k1];repeat' (first | exact Ok.out | with_reducible refine aE ?_ ?_ | (simp;done))))
 refine eo 1 0 ?_ ?_ (bm.ind (ι:=List aB×Nat) (fun i=>l.drop i.2=i.1∧k6 b (i.2:Int) i.1=p) (fun i=>i.1.length)
  (fun i=> [(0, .slice .shared 1 (l.map encStr)),(1, .fY f [.ptr 0 0]),(7, .int .i64 (l.length:Int)),(8, .int .i64 (i.2:Int))]) (fun i=>⟨[row],[]⟩) ?_ (l,0) ⟨rfl,h⟩)
 ·(simp only [go_sem,hF,hP,hY,hZ,k1];try exact bU)
 ·(simp only [go_sem,hF,hP,hY,hZ,k1];try exact bU)
 rintro⟨rest,k⟩ ⟨h1,h⟩ IH
 dsimp only at h1 h
 cases rest with
 | nil=>
  have hF:=drop_nil h1
  simp only [k6]at h
  repeat' (first
 | simp only [go_sem,hF,hP,hY,hZ,k1]
 | (with_reducible first | refine bB fun hc=> ?_ | refine bC fun hc=> ?_ | refine bD (fun hc=> ?_) fun hc=> ?_) <;> (try simp only [hc,bs, ↓reduceIte]at h) <;> try simp only [hc]
 | (with_reducible refine aH hQ ?_;(try cases h);simp only [az,aA,bx,bA,go_sem,hF,hP,hY,hZ,k1];repeat' (first | exact Ok.out | with_reducible refine aE ?_ ?_ | (simp;done))))
 | cons a rest=>
  obtain⟨hP,g2,hF,g4⟩:=drop_cons h1
  have cb:k<4611686018427387904:=by omega
  have W7:=hb a (List.mem_of_getElem? hP)
  simp only [k6]at h
  repeat' (first
 | simp only [go_sem,hF,hP,hY,hZ,k1]
 | (with_reducible refine CV.use (he) (W7) ?_)
 | (with_reducible first | refine bB fun hc=> ?_ | refine bC fun hc=> ?_ | refine bD (fun hc=> ?_) fun hc=> ?_) <;> (try simp only [hc,bs, ↓reduceIte]at h) <;> try simp only [hc]
 | (with_reducible refine aH hQ ?_;(try cases h);simp only [az,aA,bx,bA,go_sem,hF,hP,hY,hZ,k1];repeat' (first | exact Ok.out | with_reducible refine aE ?_ ?_ | (simp;done))))
  refine eo 1 0 ?_ ?_ (IH (rest,k+1) ⟨g2,h⟩ (Nat.lt_succ_self _))
  ·(simp only [go_sem,hF,hP,hY,hZ,k1,aM cb];try exact bU)
  ·(simp only [go_sem,hF,hP,hY,hZ,k1,aM cb];try exact bU)
theorem xS {P:Program} {g f:Nat} {row:List D} {rows:List (List D)} {z:Nat} {d:D} (h:aD P g [.slice .shared z rows, .fY f [.ptr 0 0]] ⟨[row],[]⟩ d ⟨[row],[]⟩) (rB:D.bH 0 0 row=true) (hw:D.iE 0 0 rows=true) (hd:D.ok 0 0 d=true) {s:St} {o:Nat} (ho:s.aw[o]? = some row) :
 aD P g [.slice .shared z rows, .fY f [.ptr o 0]] s d s:=by
 refine dT.frame [o] [] h (by simp) List.nodup_nil (by simpa using (List.getElem?_eq_some_iff.1 ho).1) (by simp) rfl (fun i o' ds e1 e2=> ?_) rfl (by simp) (by simp [D.fL,D.dE,Tag.dE,ix _ _ _ hw])
  (by simp [D.bH,D.ok,Tag.ok,lY (Nat.zero_le 1) (Nat.le_refl 0) _ hw]) ?_
 ·cases i with
  | zero=>simp at e1 e2;subst e1;subst e2;exact⟨by rw [eY _ _ _ rB];exact ho,gv (Nat.zero_le 1) (Nat.le_refl 0) _ rB⟩
  | succ i=>simp at e1
 ·rintro _ _ ⟨rfl,rfl⟩
  refine⟨p6 _ _ _ hd, ?_⟩
  have:s.aw.set o row=s.aw:=by
   apply List.ext_getElem?
   intro i
   rw [List.getElem?_set]
   split
   ·rename_i e;subst e;rw [ho];split
    ·rfl
    ·rename_i hh;exact absurd (List.getElem?_eq_some_iff.1 ho).1 hh
   ·rfl
  simp [St.back,jk,eY _ _ _ rB,this]
theorem vt {l:List aB} (hl:l.length<4611686018427387904) {f:Nat} {row:List D} {b:aB→Bool} (rB:D.bH 0 0 row=true) (he:enters Tryz.prog f=true)
 (hb : ∀ x∈l,aD Tryz.prog f ([.str x]++ [.ptr 0 0]) ⟨[row],[]⟩ (.bool (b x)) ⟨[row],[]⟩) :
 aD Tryz.prog fw [.slice .shared 1 (l.map encStr), .fY f [.ptr 0 0]] ⟨[row],[]⟩ (.bool (l.any b)) ⟨[row],[]⟩:=by
 have k1 : ∀ n m,D.gq n m row=row:=fun n m=>gI n m _ rB
 have hi:=xR hl rB he hb
 have e:decide (k6 b 0 l≥0)=l.any b:=by
  have:=Cd b l 0 (Int.le_refl 0)
  cases hh:l.any b <;> simp_all
 refine aD.go po rfl fun B Q hB hQ=> ?_
 have⟨hF,hP,hY,hZ⟩:=bt
 repeat' (first
 | simp only [go_sem,hF,hP,hY,hZ,k1,e]
 | (with_reducible refine CU (hi) ?_)
 | (with_reducible first | refine bB fun hc=> ?_ | refine bC fun hc=> ?_ | refine bD (fun hc=> ?_) fun hc=> ?_) <;> (try simp only [hc,bs, ↓reduceIte]at h) <;> try simp only [hc]
 | (with_reducible refine aH hQ ?_;simp only [az,aA,bx,bA,go_sem,hF,hP,hY,hZ,k1,e];repeat' (first | exact Ok.out | with_reducible refine aE ?_ ?_ | (simp;done))))
theorem vu {l:List aB} (hl:l.length<4611686018427387904) {f:Nat} {row:List D} {b:aB→Bool} (rB:D.bH 0 0 row=true) (he:enters Tryz.prog f=true)
 (hb : ∀ x∈l,aD Tryz.prog f ([.str x]++ [.ptr 0 0]) ⟨[row],[]⟩ (.bool (b x)) ⟨[row],[]⟩) {s:St} {o:Nat} (ho:s.aw[o]? = some row) :
 aD Tryz.prog fw [.slice .shared 1 (l.map encStr), .fY f [.ptr o 0]] s (.bool (l.any b)) s:=
 xS (vt hl rB he hb) rB (eH l) rfl ho
theorem sQ {l:List Pc} (hl:l.length<4611686018427387904) {f:Nat} {row:List D} {b:Pc→Bool} (rB:D.bH 0 0 row=true) (he:enters Tryz.prog f=true)
 (hb : ∀ x∈l,aD Tryz.prog f ([.agg (cz x)]++ [.ptr 0 0]) ⟨[row],[]⟩ (.bool (b x)) ⟨[row],[]⟩) :
 aD Tryz.prog fB [.slice .shared 5 (l.map cz), .fY f [.ptr 0 0]] ⟨[row],[]⟩ (.int .i64 (k6 b 0 l)) ⟨[row],[]⟩:=by
 generalize h:k6 b 0 l=p
 have k1 : ∀ n m,D.gq n m row=row:=fun n m=>gI n m _ rB
 refine aD.go pJ rfl fun B Q hB hQ=> ?_
 have⟨hF,hP,hY,hZ⟩:=bt
 repeat' (first
 | simp only [go_sem,hF,hP,hY,hZ,k1]
 | (with_reducible first | refine bB fun hc=> ?_ | refine bC fun hc=> ?_ | refine bD (fun hc=> ?_) fun hc=> ?_) <;> (try simp only [hc,bs, ↓reduceIte]at h) <;> try simp only [hc]
 | (with_reducible refine aH hQ ?_;(try cases h);simp only [az,aA,bx,bA,go_sem,hF,hP,hY,hZ,k1];repeat' (first | exact Ok.out | with_reducible refine aE ?_ ?_ | (simp;done))))
 refine eo 1 0 ?_ ?_ (bm.ind (ι:=List Pc×Nat) (fun i=>l.drop i.2=i.1∧k6 b (i.2:Int) i.1=p) (fun i=>i.1.length)
  (fun i=> [(0, .slice .shared 5 (l.map cz)),(1, .fY f [.ptr 0 0]),(7, .int .i64 (l.length:Int)),(8, .int .i64 (i.2:Int))]) (fun i=>⟨[row],[]⟩) ?_ (l,0) ⟨rfl,h⟩)
 ·(simp only [go_sem,hF,hP,hY,hZ,k1];try exact bU)
 ·(simp only [go_sem,hF,hP,hY,hZ,k1];try exact bU)
 rintro⟨rest,k⟩ ⟨h1,h⟩ IH
 dsimp only at h1 h
 cases rest with
 | nil=>
  have hF:=drop_nil h1
  simp only [k6]at h
  repeat' (first
 | simp only [go_sem,hF,hP,hY,hZ,k1]
 | (with_reducible first | refine bB fun hc=> ?_ | refine bC fun hc=> ?_ | refine bD (fun hc=> ?_) fun hc=> ?_) <;> (try simp only [hc,bs, ↓reduceIte]at h) <;> try simp only [hc]
 | (with_reducible refine aH hQ ?_;(try cases h);simp only [az,aA,bx,bA,go_sem,hF,hP,hY,hZ,k1];repeat' (first | exact Ok.out | with_reducible refine aE ?_ ?_ | (simp;done))))
 | cons a rest=>
  obtain⟨hP,g2,hF,g4⟩:=drop_cons h1
  have cb:k<4611686018427387904:=by omega
  have W7:=hb a (List.mem_of_getElem? hP)
  simp only [k6]at h
  repeat' (first
 | simp only [go_sem,hF,hP,hY,hZ,k1]
 | (with_reducible refine CV.use (he) (W7) ?_)
 | (with_reducible first | refine bB fun hc=> ?_ | refine bC fun hc=> ?_ | refine bD (fun hc=> ?_) fun hc=> ?_) <;> (try simp only [hc,bs, ↓reduceIte]at h) <;> try simp only [hc]
 | (with_reducible refine aH hQ ?_;(try cases h);simp only [az,aA,bx,bA,go_sem,hF,hP,hY,hZ,k1];repeat' (first | exact Ok.out | with_reducible refine aE ?_ ?_ | (simp;done))))
  refine eo 1 0 ?_ ?_ (IH (rest,k+1) ⟨g2,h⟩ (Nat.lt_succ_self _))
  ·(simp only [go_sem,hF,hP,hY,hZ,k1,aM cb];try exact bU)
  ·(simp only [go_sem,hF,hP,hY,hZ,k1,aM cb];try exact bU)
theorem wX {l:List Pc} (hl:l.length<4611686018427387904) {f:Nat} {row:List D} {b:Pc→Bool} (rB:D.bH 0 0 row=true) (he:enters Tryz.prog f=true)
 (hb : ∀ x∈l,aD Tryz.prog f ([.agg (cz x)]++ [.ptr 0 0]) ⟨[row],[]⟩ (.bool (b x)) ⟨[row],[]⟩) :
 aD Tryz.prog fU [.slice .shared 5 (l.map cz), .fY f [.ptr 0 0]] ⟨[row],[]⟩ (.bool (l.any b)) ⟨[row],[]⟩:=by
 have k1 : ∀ n m,D.gq n m row=row:=fun n m=>gI n m _ rB
 have hi:=sQ hl rB he hb
 have e:decide (k6 b 0 l≥0)=l.any b:=by
  have:=Cd b l 0 (Int.le_refl 0)
  cases hh:l.any b <;> simp_all
 refine aD.go oF rfl fun B Q hB hQ=> ?_
 have⟨hF,hP,hY,hZ⟩:=bt
 repeat' (first
 | simp only [go_sem,hF,hP,hY,hZ,k1,e]
 | (with_reducible refine CU (hi) ?_)
 | (with_reducible first | refine bB fun hc=> ?_ | refine bC fun hc=> ?_ | refine bD (fun hc=> ?_) fun hc=> ?_) <;> (try simp only [hc,bs, ↓reduceIte]at h) <;> try simp only [hc]
 | (with_reducible refine aH hQ ?_;simp only [az,aA,bx,bA,go_sem,hF,hP,hY,hZ,k1,e];repeat' (first | exact Ok.out | with_reducible refine aE ?_ ?_ | (simp;done))))
end Go.Abs

/-! MirFlat2 -/

namespace Go.Abs
mutual
def Sm.pre:Sm→List Sm
 | ⟨id,kind,labels,name,pc,x,has,args,a7,aW⟩=>⟨id,kind,labels,name,pc,x,has,args,a7,aW⟩::(Sm.dG a7++Sm.dG aW)
def Sm.dG:List Sm→List Sm
 | []=> []
 | s::l=>s.pre++Sm.dG l
end
def Pg.pre (p:Pg):List Sm:=(p.procs.map fun f=>Sm.dG f.body).flatten
theorem Sm.Fq (s:Sm):s.pre=s::(Sm.dG s.a7++Sm.dG s.aW):=by cases s;simp only [Sm.pre]
mutual
theorem T8 (proc up next loop:Int) (out:List Im) : ∀ s:Sm,∃ e:List Im,Im.one proc up next loop out s=out++e∧e.map Im.s=s.pre
 | ⟨id,kind,labels,name,pc,x,has,args,a7,aW⟩=>by
  simp only [Im.one,Sm.pre]
  obtain⟨e1,h1,k1⟩:=wb proc ((out.length:Int)+1) (if kind==6 then(out.length:Int)+1 else next) (if kind==6 then(out.length:Int)+1 else loop) (out++ [⟨⟨id,kind,labels,name,pc,x,has,args,a7,aW⟩,proc,up,next,loop⟩]) a7
  obtain⟨e2,h2,k2⟩:=wb proc ((out.length:Int)+1) (if kind==6 then(out.length:Int)+1 else next) (if kind==6 then(out.length:Int)+1 else loop) (Im.rows proc ((out.length:Int)+1) (if kind==6 then(out.length:Int)+1 else next) (if kind==6 then(out.length:Int)+1 else loop) (out++ [⟨⟨id,kind,labels,name,pc,x,has,args,a7,aW⟩,proc,up,next,loop⟩]) a7) aW
  refine⟨⟨⟨id,kind,labels,name,pc,x,has,args,a7,aW⟩,proc,up,next,loop⟩::(e1++e2), ?_, ?_⟩
  ·rw [h2,h1];simp
  ·simp [k1,k2]
theorem wb (proc up next loop:Int) (out:List Im) : ∀ l:List Sm,∃ e:List Im,Im.rows proc up next loop out l=out++e∧e.map Im.s=Sm.dG l
 | []=>⟨[],by simp [Im.rows],rfl⟩
 | s::l=>by
  simp only [Im.rows,Sm.dG]
  obtain⟨e1,h1,k1⟩:=T8 proc up (if l.length=0 then next else(out.length:Int)+1+(s.gJ:Int)) loop out s
  obtain⟨e2,h2,k2⟩:=wb proc up next loop (Im.one proc up (if l.length=0 then next else(out.length:Int)+1+(s.gJ:Int)) loop out s) l
  refine⟨e1++e2, ?_,by simp [k1,k2]⟩
  rw [h2,h1];simp
end
theorem Mp : ∀ (l:List Pc) (n:Nat) (h:Sh),h.lo.length=n→h.hi.length=n→
 ∃ e lo hi,Sh.go n h l = ⟨h.L++e,h.lo++lo,h.hi++hi⟩∧e.map Im.s=(l.map fun f=>Sm.dG f.body).flatten∧lo.length=l.length∧hi.length=l.length∧
  ∀ (i:Nat) (f:Pc),l[i]? = some f→∃ a b e' Kz:List Im,lo[i]? = some (((h.L++a).length:Int)+1)∧hi[i]? = some (((h.L++a++b).length:Int)+1)∧b.map Im.s=Sm.dG f.body∧e=a++b++e'
 | [],n,h,hl,hh=>⟨[],[],[],by simp [Sh.go],rfl,rfl,rfl,fun i f h=>by simp at h⟩
 | f::l,n,h,hl,hh=>by
  simp only [Sh.go]
  obtain⟨e1,h1,k1⟩:=wb (n:Int) 0 (-1) 0 h.L f.body
  obtain⟨e2,lo,hi,h2,k2,h3,h4,h5⟩:=Mp l (n+1) ⟨Im.rows (n:Int) 0 (-1) 0 h.L f.body,h.lo++ [(h.L.length:Int)+1],h.hi++ [((Im.rows (n:Int) 0 (-1) 0 h.L f.body).length:Int)+1]⟩ (by simp [hl]) (by simp [hh])
  refine⟨e1++e2,((h.L.length:Int)+1)::lo,(((Im.rows (n:Int) 0 (-1) 0 h.L f.body).length:Int)+1)::hi, ?_,by simp [k1,k2],by simp [h3],by simp [h4],fun i g gp=> ?_⟩
  ·rw [h2,h1];simp
  ·cases i with
   | zero=>
    simp only [List.getElem?_cons_zero,Option.some.injEq]at gp
    subst gp
    exact⟨[],e1,e2,[],by simp,by rw [h1];simp,k1,by simp⟩
   | succ i=>
    simp only [List.getElem?_cons_succ]at gp
    obtain⟨a,b,e',Kz,g1,g2,g3,g4⟩:=h5 i g gp
    refine⟨e1++a,b,e',Kz, ?_, ?_,g3,by rw [g4];simp⟩
    ·rw [List.getElem?_cons_succ,g1,h1];simp
    ·rw [List.getElem?_cons_succ,g2,h1];simp
theorem oO (p:Pg):p.eO.L.map Im.s=p.pre∧∀ (i:Nat) (f:Pc),p.procs[i]? = some f→∃ a b e:List Im,p.eO.lo[i]? = some ((a.length:Int)+1)∧p.eO.hi[i]? = some (((a++b).length:Int)+1)∧b.map Im.s=Sm.dG f.body∧p.eO.L=a++b++e:=by
 obtain⟨e,lo,hi,h1,h2,h3,h4,h5⟩:=Mp p.procs 0 ⟨[],[],[]⟩ rfl rfl
 unfold Pg.eO
 rw [h1]
 refine⟨by simpa [Pg.pre]using h2,fun i f hf=> ?_⟩
 obtain⟨a,b,e',_,g1,g2,g3,g4⟩:=h5 i f hf
 exact⟨a,b,e',by simpa using g1,by simpa using g2,g3,by simpa using g4⟩
end Go.Abs

/-! Sl2 -/

namespace Go.Abs
set_option maxRecDepth 8000
open Go.Proofs
def Pg.at (p:Pg) (name:aB):Int:=k6 (fun f:Pc=>f.name==name) 0 p.procs
theorem T9 (name:aB) (f:Pc):aD Tryz.prog kg ([.agg (cz f)]++ [.ptr 0 0]) ⟨[[.str name]],[]⟩ (.bool (f.name==name)) ⟨[[.str name]],[]⟩:=by
 show aD Tryz.prog kg [.agg (cz f), .ptr 0 0] _ _ _
 refine aD.go vd rfl fun B Q hB hQ=> ?_
 have⟨hF,hP,hY,hZ⟩:=bt
 repeat' (first
 | simp only [go_sem,hF,hP,hY,hZ]
 | (with_reducible refine aH hQ ?_;simp only [az,aA,Option.some.injEq,exists_eq_left',go_sem,hF,hP,hY,hZ];repeat' (first | exact Ok.out | with_reducible refine aE ?_ ?_ | (simp;done))))
theorem Mq {p:Pg} (hs:p.procs.length<4611686018427387904) (name:aB) (s:St):aD Tryz.prog lk [.dC (gC p) 0, .str name] s (.int .i64 (p.at name)) s:=by
 refine aD.pure ?_ (by simp [D.bH,D.ok,wa]) rfl s
 have hi:=fun {s:St} {o:Nat} (ho:s.aw[o]? = some [.str name])=>xS (sQ (l:=p.procs) (f:=kg) (row:= [.str name]) (b:=fun f:Pc=>f.name==name) hs rfl (by with_unfolding_all rfl) (fun x _=>T9 name x)) rfl (DZ _) rfl ho
 have gp:=fun {s:St} {o:Nat} (ho:s.aw[o]? = some [.str name])=>(show aD Tryz.prog fB [.slice .shared 5 (p.procs.map cz), .fY 167 [.ptr o 0]] s (.int .i64 (p.at name)) s from hi ho)
 unfold S0
 rw [qe]
 refine aD.go wV rfl fun B Q hB hQ=> ?_
 have⟨hF,hP,hY,hZ⟩:=bt
 repeat' (first
 | simp only [go_sem,hF,hP,hY,hZ]
 | (with_reducible refine CU (gp (by with_unfolding_all rfl)) ?_)
 | (with_reducible refine aH hQ ?_;simp only [az,aA,Option.some.injEq,exists_eq_left',go_sem,hF,hP,hY,hZ];repeat' (first | exact Ok.out | with_reducible refine aE ?_ ?_ | (simp;done))))
theorem Mr : ∀ (l:List Pc) (n:Nat) (h:Sh),(Sh.go n h l).L.length≤h.L.length+Pc.aY l
 | [],n,h=>by simp [Sh.go]
 | f::l,n,h=>by
  simp only [Sh.go]
  refine Nat.le_trans (Mr l _ _) ?_
  have:=fN (n:Int) 0 (-1) 0 h.L f.body
  have:=jK f.body
  simp only [Pc.aY,Pc.size];omega
theorem oP (p:Pg):p.eO.L.length≤Pc.aY p.procs:=by have:=Mr p.procs 0 ⟨[],[],[]⟩;simpa [Pg.eO]using this
theorem W8 {p:Pg} {i:Nat} (hs:Pc.aY p.procs<1000000000) {a b e:List Im} (h1:p.eO.lo[i]? = some ((a.length:Int)+1)) (h2:p.eO.hi[i]? = some (((a++b).length:Int)+1)) (h4:p.eO.L=a++b++e) (s:St) :
 aD Tryz.prog fT [.dC (gC p) 0, .int .i64 (i:Int)] s (.slice .shared 17 (b.map ez)) s:=by
 refine aD.pure ?_ (by simp [D.bH,D.ok,wa]) (by simp [D.ok,Tag.ok,D6]) s
 have hL:p.eO.L.length<1000000000:=Nat.lt_of_le_of_lt (oP p) hs
 have l1:(i:Int)<(p.eO.lo.length:Int):=by have:=(List.getElem?_eq_some_iff.1 h1).1;omega
 have l2:(i:Int)<(p.eO.hi.length:Int):=by have:=(List.getElem?_eq_some_iff.1 h2).1;omega
 have Sx:a.length+b.length≤p.eO.L.length:=by rw [h4];simp
 have w1:IntKind.wrap .i64 ((a.length:Int)+1 - 1)=(a.length:Int):=by rw [show(a.length:Int)+1 - 1=(a.length:Int) by omega];exact cY (by omega) (by omega)
 have w2:IntKind.wrap .i64 (((a.length+b.length:Nat):Int)+1 - 1)=((a.length+b.length:Nat):Int):=by rw [show((a.length+b.length:Nat):Int)+1 - 1=((a.length+b.length:Nat):Int) by omega];exact cY (by omega) (by omega)
 have c1:((a.length:Int)≤((a.length+b.length:Nat):Int))=True:=by simp only [eq_iff_iff,iff_true];omega
 have c2:(((a.length+b.length:Nat):Int)≤(p.eO.L.length:Int))=True:=by simp only [eq_iff_iff,iff_true];omega
 have hb:List.drop a.length (List.take (a.length+b.length) (List.map ez p.eO.L))=List.map ez b:=by rw [h4];simp [List.map_append,List.take_append,List.drop_append]
 unfold S0
 rw [qe]
 refine aD.go yE rfl fun B Q hB hQ=> ?_
 have⟨hF,hP,hY,hZ⟩:=bt
 repeat' (first
 | simp only [go_sem,hF,hP,hY,hZ,h1,h2,List.length_append,w1,w2,c1,c2,or_true,true_and,and_self,ite_self,Int.toNat_natCast,hb]
 | (with_reducible first | refine bB fun hc=> ?_ | refine bC fun hc=> ?_ | refine bD (fun hc=> ?_) fun hc=> ?_) <;> (try simp only [hc,bs, ↓reduceIte]at h) <;> try simp only [hc]
 | (with_reducible refine aH hQ ?_;(try cases h);simp only [az,aA,bx,bA,go_sem,hF,hP,hY,hZ,h1,h2,List.length_append,w1,w2,c1,c2,or_true,true_and,and_self,ite_self,Int.toNat_natCast,hb];try exact Aq)
 | (cases h;done))
theorem PJ {p:Pg} {i:Nat} {f:Pc} (hf:p.procs[i]? = some f) (hs:Pc.aY p.procs<1000000000) : ∃ it:List Im,it.map Im.s=Sm.dG f.body∧∀ s,aD Tryz.prog fT [.dC (gC p) 0, .int .i64 (i:Int)] s (.slice .shared 17 (it.map ez)) s:=by
 obtain⟨a,b,e,h1,h2,h3,h4⟩:=(oO p).2 i f hf
 exact⟨b,h3,W8 hs h1 h2 h4⟩
end Go.Abs

/-! TMay1 -/

namespace Go.Abs
set_option maxRecDepth 8000
open Go.Proofs
theorem CT {r:aB} : rQ r=true↔kv r=r.length:=by
 induction r with
 | nil=>simp [rQ,kv]
 | cons c r ih=>
  simp only [rQ,kv]
  cases h1:oi c <;> cases h2:mU c <;> simp [ih]
theorem xT (t:aB) (hl:t.length<4611686018427387904) (s:St):aD Tryz.prog l6 [.str t] s (.bool (isName t)) s:=by
 refine aD.pure ?_ rfl rfl s
 have hr:=fun s=>Sp (pos:=0) hl s
 simp only [List.drop_zero,Nat.zero_add]at hr
 unfold S0
 cases t with
 | nil=>
  have z:decide (((0:Nat):Int)<1)=true:=rfl
  have z':decide ((0:Int)<1)=true:=rfl
  have e:isName [] = false:=rfl
  rw [e]
  refine aD.go lG rfl fun B Q hB hQ=> ?_
  have⟨hF,hP,hY,hZ⟩:=bt
  repeat' (first
 | simp only [go_sem,hF,hP,hY,hZ,z,z']
 | (with_reducible refine aH hQ ?_;simp only [az,aA,Option.some.injEq,exists_eq_left',go_sem,hF,hP,hY,hZ];repeat' (first | exact Ok.out | with_reducible refine aE ?_ ?_ | (simp;done))))
 | cons c r=>
  have l1:decide (((r.length+1:Nat):Int)<1)=false:=by simp;omega
  generalize h:isName (c::r)=p
  simp only [isName]at h
  cases hL:oi c
  ·simp only [hL,Bool.not_false,Bool.or_true, ↓reduceIte]at h
   subst h
   by_cases c8:decide (((r.length+1:Nat):Int) > 8)=true
   ·refine aD.go lG rfl fun B Q hB hQ=> ?_
    have⟨hF,hP,hY,hZ⟩:=bt
    repeat' (first
 | simp only [go_sem,hF,hP,hY,hZ,l1,c8]
 | (with_reducible refine aH hQ ?_;simp only [az,aA,Option.some.injEq,exists_eq_left',go_sem,hF,hP,hY,hZ];repeat' (first | exact Ok.out | with_reducible refine aE ?_ ?_ | (simp;done))))
   ·have c8:decide (((r.length+1:Nat):Int) > 8)=false:=by simpa using c8
    refine aD.go lG rfl fun B Q hB hQ=> ?_
    have⟨hF,hP,hY,hZ⟩:=bt
    repeat' (first
 | simp only [go_sem,hF,hP,hY,hZ,l1,c8,hL]
 | (with_reducible refine CU (gy _ _) ?_)
 | (with_reducible refine aH hQ ?_;simp only [az,aA,Option.some.injEq,exists_eq_left',go_sem,hF,hP,hY,hZ];repeat' (first | exact Ok.out | with_reducible refine aE ?_ ?_ | (simp;done))))
  ·simp only [hL,Bool.not_true,Bool.or_false]at h
   by_cases c8:decide (((r.length+1:Nat):Int) > 8)=true
   ·simp only [c8, ↓reduceIte]at h
    subst h
    refine aD.go lG rfl fun B Q hB hQ=> ?_
    have⟨hF,hP,hY,hZ⟩:=bt
    repeat' (first
 | simp only [go_sem,hF,hP,hY,hZ,l1,c8]
 | (with_reducible refine aH hQ ?_;simp only [az,aA,Option.some.injEq,exists_eq_left',go_sem,hF,hP,hY,hZ];repeat' (first | exact Ok.out | with_reducible refine aE ?_ ?_ | (simp;done))))
   ·have c8:decide (((r.length+1:Nat):Int) > 8)=false:=by simpa using c8
    simp only [c8,Bool.false_eq_true, ↓reduceIte]at h
    have dz:kv (c::r)=kv r+1:=by simp [kv,hL]
    cases hn:rQ r
    ·simp only [hn,Bool.false_eq_true, ↓reduceIte]at h
     have:kv r≠r.length:=fun e=>by rw [CT.2 e]at hn;cases hn
     have e:(((kv (c::r):Nat):Int)==((r.length+1:Nat):Int))=false:=by rw [dz];simp;omega
     subst h
     refine aD.go lG rfl fun B Q hB hQ=> ?_
     have⟨hF,hP,hY,hZ⟩:=bt
     repeat' (first
 | simp only [go_sem,hF,hP,hY,hZ,l1,c8,hL,e]
 | (with_reducible refine CU (gy _ _) ?_)
 | (with_reducible refine CU (hr _) ?_)
 | (with_reducible refine aH hQ ?_;simp only [az,aA,Option.some.injEq,exists_eq_left',go_sem,hF,hP,hY,hZ];repeat' (first | exact Ok.out | with_reducible refine aE ?_ ?_ | (simp;done))))
    ·simp only [hn, ↓reduceIte]at h
     have:=CT.1 hn
     have e:(((kv (c::r):Nat):Int)==((r.length+1:Nat):Int))=true:=by rw [dz];simp;omega
     subst h
     refine aD.go lG rfl fun B Q hB hQ=> ?_
     have⟨hF,hP,hY,hZ⟩:=bt
     repeat' (first
 | simp only [go_sem,hF,hP,hY,hZ,l1,c8,hL,e]
 | (with_reducible refine CU (gy _ _) ?_)
 | (with_reducible refine CU (hr _) ?_)
 | (with_reducible refine CU (sP _ _) ?_)
 | (with_reducible refine aH hQ ?_;simp only [az,aA,Option.some.injEq,exists_eq_left',go_sem,hF,hP,hY,hZ];repeat' (first | exact Ok.out | with_reducible refine aE ?_ ?_ | (simp;done))))
theorem Ht (op:Int) (s:St):aD Tryz.prog uC [.int .i64 op] s (.int .i64 (kK op)) s:=by
 refine aD.pure ?_ rfl rfl s
 unfold S0
 generalize h:kK op=p
 unfold kK at h
 refine aD.go DK rfl fun B Q hB hQ=> ?_
 have⟨hF,hP,hY,hZ⟩:=bt
 repeat' (first
 | simp only [go_sem,hF,hP,hY,hZ]
 | (with_reducible first | refine bB fun hc=> ?_ | refine bC fun hc=> ?_ | refine bD (fun hc=> ?_) fun hc=> ?_) <;> (try simp only [hc,bs, ↓reduceIte]at h) <;> try simp only [hc]
 | (with_reducible refine aH hQ ?_;(try cases h);simp only [az,aA,bx,bA,go_sem,hF,hP,hY,hZ];repeat' (first | exact Ok.out | with_reducible refine aE ?_ ?_ | (simp;done))))
theorem wc {l:List aB} (hl:l.length<4611686018427387904) (hs : ∀ t∈l,t.length<4611686018427387904) (s:St):aD Tryz.prog lB [.slice .shared 1 (l.map encStr)] s (.bool (df l)) s:=by
 refine aD.pure ?_ (by simp [D.bH,D.ok,eH,Tag.ok]) rfl s
 unfold S0
 generalize h:df l=p
 refine aD.go BW rfl fun B Q hB hQ=> ?_
 have⟨hF,hP,hY,hZ⟩:=bt
 repeat' (first
 | simp only [go_sem,hF,hP,hY,hZ]
 | (with_reducible first | refine bB fun hc=> ?_ | refine bC fun hc=> ?_ | refine bD (fun hc=> ?_) fun hc=> ?_) <;> (try simp only [hc,bs, ↓reduceIte]at h) <;> try simp only [hc]
 | (with_reducible refine aH hQ ?_;(try cases h);simp only [az,aA,bx,bA,go_sem,hF,hP,hY,hZ];repeat' (first | exact Ok.out | with_reducible refine aE ?_ ?_ | (simp;done))))
 refine cM 0 0 (bm.ind (ι:=List aB×Nat) (fun i=>l.drop i.2=i.1∧df i.1=p) (fun i=>i.1.length)
  (fun i=> [(5, .slice .shared 1 (l.map encStr)),(6, .int .i64 (l.length:Int)),(7, .int .i64 (i.2:Int))]) (fun i=>⟨[],[]⟩) ?_ (l,0) ⟨rfl,h⟩)
 rintro⟨rest,k⟩ ⟨h1,h⟩ IH
 dsimp only at h1 h
 cases rest with
 | nil=>
  have hF:=drop_nil h1
  simp only [df]at h
  repeat' (first
 | simp only [go_sem,hF,hP,hY,hZ]
 | (with_reducible first | refine bB fun hc=> ?_ | refine bC fun hc=> ?_ | refine bD (fun hc=> ?_) fun hc=> ?_) <;> (try simp only [hc,bs, ↓reduceIte]at h) <;> try simp only [hc]
 | (with_reducible refine aH hQ ?_;(try cases h);simp only [az,aA,bx,bA,go_sem,hF,hP,hY,hZ];repeat' (first | exact Ok.out | with_reducible refine aE ?_ ?_ | (simp;done))))
 | cons t rest=>
  obtain⟨hP,g2,hF,g4⟩:=drop_cons h1
  have hY:k<4611686018427387904:=by omega
  have hn:=xT t (hs t (List.mem_of_getElem? hP))
  simp only [df]at h
  repeat' (first
 | simp only [go_sem,hF,hP,hY,hZ]
 | (with_reducible refine CU (hn _) ?_)
 | (with_reducible first | refine bB fun hc=> ?_ | refine bC fun hc=> ?_ | refine bD (fun hc=> ?_) fun hc=> ?_) <;> (try simp only [hc,bs, ↓reduceIte]at h) <;> try simp only [hc]
 | (with_reducible refine aH hQ ?_;(try cases h);simp only [az,aA,bx,bA,go_sem,hF,hP,hY,hZ];repeat' (first | exact Ok.out | with_reducible refine aE ?_ ?_ | (simp;done))))
  refine cM 0 0 (IH (rest,k+1) ⟨g2,h⟩ (Nat.lt_succ_self _))
mutual
def Ex.dp (left:Int):Ex→Bool
 | ⟨op,n,name,kids⟩=>
  if decide (left<1) || (kids.length:Int) != kK op then false
  else if op==1 then decide (n≥0) && name == []
  else if op==2 then n==0 && isName name
  else if n != 0 || !(name == [])then false
  else Ex.AU (left - 1) kids
def Ex.AU (left:Int):List Ex→Bool
 | []=>true
 | x::l=>if !(Ex.dp left x)then false else Ex.AU left l
end
theorem Ua : ∀ (m:Nat) (x:Ex),x.size≤m→x.size<4611686018427387904→x.texts→∀ left:Int,0≤left→left≤100→∀ s:St,aD Tryz.prog oh [.agg (bp x), .int .i64 left] s (.bool (x.dp left)) s:=by
 intro m
 induction m with
 | zero=>rintro⟨op,v,name,kids⟩ h;simp only [Ex.size]at h;omega
 | succ m ih=>
  rintro⟨op,v,name,kids⟩ h hx ht left h0 aq0 s
  refine aD.pure ?_ (by simp [D.bH,D.ok,gw]) rfl s
  have hlen:kids.length<4611686018427387904:=by simp only [Ex.size]at hx;have:=Ex.dq kids;omega
  have hn:=xT name ht.1
  generalize hp:Ex.dp left ⟨op,v,name,kids⟩=p
  simp only [Ex.dp]at hp
  unfold S0
  by_cases Ms:left<1
  ·have d1:decide (left<1)=true:=by simpa using Ms
   simp only [d1,Bool.true_or, ↓reduceIte]at hp
   subst hp
   refine aD.go wL rfl fun B Q hB hQ=> ?_
   have⟨hF,hP,hY,hZ⟩:=bt
   repeat' (first
 | simp only [go_sem,hF,hP,hY,hZ,d1]
 | (with_reducible refine CU (Ht _ _) ?_)
 | (with_reducible refine CU (hn _) ?_)
 | (with_reducible refine aH hQ ?_;simp only [az,aA,bx,bA,go_sem,hF,hP,hY,hZ];repeat' (first | exact Ok.out | with_reducible refine aE ?_ ?_ | (simp;done))))
  ·have d1:decide (left<1)=false:=by simpa using Ms
   have w1:IntKind.wrap .i64 (left - 1)=left - 1:=cY (by omega) (by omega)
   have hk : ∀ y∈kids,∀ s,aD Tryz.prog oh [.agg (bp y), .int .i64 (left - 1)] s (.bool (y.dp (left - 1))) s:=fun y hy s=>
    ih y (by simp only [Ex.size]at h;have:=Ex.b9 hy;omega) (by simp only [Ex.size]at hx;have:=Ex.b9 hy;omega) (Ex.CQ ht hy) (left - 1) (by omega) (by omega) s
   simp only [d1,Bool.false_or]at hp
   have h:=hp
   clear hp
   refine aD.go wL rfl fun B Q hB hQ=> ?_
   have⟨hF,hP,hY,hZ⟩:=bt
   repeat' (first
 | simp only [go_sem,hF,hP,hY,hZ,d1]
 | (with_reducible refine CU (Ht _ _) ?_)
 | (with_reducible refine CU (hn _) ?_)
 | (with_reducible first | refine bB fun hc=> ?_ | refine bC fun hc=> ?_ | refine bD (fun hc=> ?_) fun hc=> ?_) <;> (try simp only [hc,bs, ↓reduceIte]at h) <;> try simp only [hc]
 | (with_reducible refine aH hQ ?_;(try cases h);simp only [az,aA,bx,bA,go_sem,hF,hP,hY,hZ,d1];repeat' (first | exact Ok.out | with_reducible refine aE ?_ ?_ | (simp;done))))
   all_goals
    refine cM 1 0 (bm.ind (ι:=List Ex×Nat) (fun i=>kids.drop i.2=i.1∧Ex.AU (left - 1) i.1=p) (fun i=>i.1.length)
     (fun i=> [(1, .int .i64 left),(49, .slice .shared 4 (kids.map bp)),(50, .int .i64 (kids.length:Int)),(51, .int .i64 (i.2:Int))]) (fun i=>⟨[bp ⟨op,v,name,kids⟩],[]⟩) ?_ (kids,0) ⟨rfl,h⟩)
    rintro⟨rest,k⟩ ⟨h1,h⟩ IH
    dsimp only at h1 h
    cases rest with
    | nil=>
     have hF:=drop_nil h1
     simp only [Ex.AU]at h
     repeat' (first
 | simp only [go_sem,hF,hP,hY,hZ]
 | (with_reducible first | refine bB fun hc=> ?_ | refine bC fun hc=> ?_ | refine bD (fun hc=> ?_) fun hc=> ?_) <;> (try simp only [hc,bs, ↓reduceIte]at h) <;> try simp only [hc]
 | (with_reducible refine aH hQ ?_;exact pQ)
 | (cases h;done))
    | cons y rest=>
     obtain⟨hP,g2,hF,g4⟩:=drop_cons h1
     have hy:=hk y (List.mem_of_getElem? hP)
     have hY:k<4611686018427387904:=by omega
     simp only [Ex.AU]at h
     repeat' (first
 | simp only [go_sem,hF,hP,hY,hZ,w1]
 | (with_reducible refine CU (hy _) ?_)
 | (with_reducible first | refine bB fun hc=> ?_ | refine bC fun hc=> ?_ | refine bD (fun hc=> ?_) fun hc=> ?_) <;> (try simp only [hc,bs, ↓reduceIte]at h) <;> try simp only [hc]
 | (with_reducible refine aH hQ ?_;(try cases h);simp only [az,aA,bx,bA,go_sem,hF,hP,hY,hZ,w1];repeat' (first | exact Ok.out | with_reducible refine aE ?_ ?_ | (simp;done))))
     refine cM 1 0 (IH (rest,k+1) ⟨g2,h⟩ (Nat.lt_succ_self _))
end Go.Abs

/-! TMay2 -/

namespace Go.Abs
set_option maxRecDepth 8000
open Go.Proofs
theorem AV {x:Ex} (hx:x.size<4611686018427387904) (ht:x.texts) (s:St):aD Tryz.prog nK [.agg (bp x)] s (.bool (x.dp 20)) s:=by
 refine aD.pure ?_ (by simp [D.bH,D.ok,gw]) rfl s
 have hd:=fun s=>Ua _ x (Nat.le_refl _) hx ht 20 (by omega) (by omega) s
 unfold S0
 refine aD.go zG rfl fun B Q hB hQ=> ?_
 have⟨hF,hP,hY,hZ⟩:=bt
 repeat' (first
 | simp only [go_sem,hF,hP,hY,hZ]
 | (with_reducible refine CU (hd _) ?_)
 | (with_reducible refine aH hQ ?_;simp only [az,aA,Option.some.injEq,exists_eq_left',go_sem,hF,hP,hY,hZ];repeat' (first | exact Ok.out | with_reducible refine aE ?_ ?_ | (simp;done))))
theorem Ub (x:Ex) (s:St):aD Tryz.prog uB [.agg (bp x)] s (.bool x.none) s:=by
 refine aD.pure ?_ (by simp [D.bH,D.ok,gw]) rfl s
 unfold S0
 generalize h:Ex.none x=p
 unfold Ex.none at h
 refine aD.go DI rfl fun B Q hB hQ=> ?_
 have⟨hF,hP,hY,hZ⟩:=bt
 repeat' (first
 | simp only [go_sem,hF,hP,hY,hZ]
 | (with_reducible first | refine bB fun hc=> ?_ | refine bC fun hc=> ?_ | refine bD (fun hc=> ?_) fun hc=> ?_) <;> (try simp only [hc,bs, ↓reduceIte]at h) <;> try simp only [hc]
 | (with_reducible refine aH hQ ?_;(try cases h);simp only [az,aA,bx,bA,go_sem,hF,hP,hY,hZ];repeat' (first | exact Ok.out | with_reducible refine aE ?_ ?_ | (simp;done))))
def pz (t:aB) (is:Bool):Bool:=(is && isName t) || (!is && t == [])
theorem zH (t:aB) (is:Bool) (hl:t.length<4611686018427387904) (s:St):aD Tryz.prog nr [.str t, .bool is] s (.bool (pz t is)) s:=by
 refine aD.pure ?_ rfl rfl s
 have hn:=xT t hl
 unfold S0
 generalize h:pz t is=p
 unfold pz at h
 refine aD.go B8 rfl fun B Q hB hQ=> ?_
 have⟨hF,hP,hY,hZ⟩:=bt
 repeat' (first
 | simp only [go_sem,hF,hP,hY,hZ]
 | (with_reducible refine CU (hn _) ?_)
 | (with_reducible first | refine bB fun hc=> ?_ | refine bC fun hc=> ?_ | refine bD (fun hc=> ?_) fun hc=> ?_) <;> (try simp only [hc,bs, ↓reduceIte]at h) <;> try simp only [hc]
 | (with_reducible refine aH hQ ?_;(try cases h);simp only [az,aA,bx,bA,go_sem,hF,hP,hY,hZ];repeat' (first | exact Ok.out | with_reducible refine aE ?_ ?_ | (simp;done))))
def sR (x:Ex) (is:Bool):Bool:=(is && x.dp 20) || (!is && x.none)
theorem Hu {x:Ex} (is:Bool) (hx:x.size<4611686018427387904) (ht:x.texts) (s:St):aD Tryz.prog pf [.agg (bp x), .bool is] s (.bool (sR x is)) s:=by
 refine aD.pure ?_ (by simp [D.bH,D.ok,gw]) rfl s
 have hm:=AV hx ht
 unfold S0
 generalize h:sR x is=p
 unfold sR at h
 refine aD.go B9 rfl fun B Q hB hQ=> ?_
 have⟨hF,hP,hY,hZ⟩:=bt
 repeat' (first
 | simp only [go_sem,hF,hP,hY,hZ]
 | (with_reducible refine CU (hm _) ?_)
 | (with_reducible refine CU (Ub _ _) ?_)
 | (with_reducible first | refine bB fun hc=> ?_ | refine bC fun hc=> ?_ | refine bD (fun hc=> ?_) fun hc=> ?_) <;> (try simp only [hc,bs, ↓reduceIte]at h) <;> try simp only [hc]
 | (with_reducible refine aH hQ ?_;(try cases h);simp only [az,aA,bx,bA,go_sem,hF,hP,hY,hZ];repeat' (first | exact Ok.out | with_reducible refine aE ?_ ?_ | (simp;done))))
def nO:List Ar→Bool
 | []=>true
 | a::l=>if !(pz a.name a.ref) || !(sR a.x !a.ref)then false else nO l
theorem PK {l:List Ar} (hl:l.length<4611686018427387904) (hs : ∀ a∈l,a.x.size<4611686018427387904∧a.x.texts∧a.name.length<4611686018427387904) (s:St) :
 aD Tryz.prog rh [.slice .shared 6 (l.map dO)] s (.bool (nO l)) s:=by
 refine aD.pure ?_ (by simp [D.bH,D.ok,DY,Tag.ok]) rfl s
 unfold S0
 generalize h:nO l=p
 refine aD.go AN rfl fun B Q hB hQ=> ?_
 have⟨hF,hP,hY,hZ⟩:=bt
 repeat' (first
 | simp only [go_sem,hF,hP,hY,hZ]
 | (with_reducible first | refine bB fun hc=> ?_ | refine bC fun hc=> ?_ | refine bD (fun hc=> ?_) fun hc=> ?_) <;> (try simp only [hc,bs, ↓reduceIte]at h) <;> try simp only [hc]
 | (with_reducible refine aH hQ ?_;(try cases h);simp only [az,aA,bx,bA,go_sem,hF,hP,hY,hZ];repeat' (first | exact Ok.out | with_reducible refine aE ?_ ?_ | (simp;done))))
 refine cM 0 0 (bm.ind (ι:=List Ar×Nat) (fun i=>l.drop i.2=i.1∧nO i.1=p) (fun i=>i.1.length)
  (fun i=> [(5, .slice .shared 6 (l.map dO)),(6, .int .i64 (l.length:Int)),(7, .int .i64 (i.2:Int))]) (fun i=>⟨[],[]⟩) ?_ (l,0) ⟨rfl,h⟩)
 rintro⟨rest,k⟩ ⟨h1,h⟩ IH
 dsimp only at h1 h
 cases rest with
 | nil=>
  have hF:=drop_nil h1
  simp only [nO]at h
  repeat' (first
 | simp only [go_sem,hF,hP,hY,hZ]
 | (with_reducible first | refine bB fun hc=> ?_ | refine bC fun hc=> ?_ | refine bD (fun hc=> ?_) fun hc=> ?_) <;> (try simp only [hc,bs, ↓reduceIte]at h) <;> try simp only [hc]
 | (with_reducible refine aH hQ ?_;(try cases h);simp only [az,aA,bx,bA,go_sem,hF,hP,hY,hZ];repeat' (first | exact Ok.out | with_reducible refine aE ?_ ?_ | (simp;done))))
 | cons a rest=>
  obtain⟨hP,g2,hF,g4⟩:=drop_cons h1
  have hY:k<4611686018427387904:=by omega
  obtain⟨a1,a2,a3⟩:=hs a (List.mem_of_getElem? hP)
  have hn:=fun b s=>zH a.name b a3 s
  have hw:=fun b s=>Hu b a1 a2 s
  simp only [nO]at h
  repeat' (first
 | simp only [go_sem,hF,hP,hY,hZ]
 | (with_reducible refine CU (hn _ _) ?_)
 | (with_reducible refine CU (hw _ _) ?_)
 | (with_reducible first | refine bB fun hc=> ?_ | refine bC fun hc=> ?_ | refine bD (fun hc=> ?_) fun hc=> ?_) <;> (try simp only [hc,bs, ↓reduceIte]at h) <;> try simp only [hc]
 | (with_reducible refine aH hQ ?_;(try cases h);simp only [az,aA,bx,bA,go_sem,hF,hP,hY,hZ];repeat' (first | exact Ok.out | with_reducible refine aE ?_ ?_ | (simp;done))))
  refine cM 0 0 (IH (rest,k+1) ⟨g2,h⟩ (Nat.lt_succ_self _))
def Sm.flags (s:Sm):Option (Bool×Bool×Bool×Bool×Bool×Bool):=
 if s.kind==1 then some (true,false,true,s.has,false,false)
 else if s.kind==2 || s.kind==10 then some (true,false,false,s.has,false,false)
 else if s.kind==3 then some (false,false,true,s.has,false,false)
 else if s.kind==4 then some (!(s.name == []),true,false,s.has,false,false)
 else if s.kind==5 then some (false,false,true,s.has,true,true)
 else if s.kind==6 then some (false,false,true,s.has,true,false)
 else if s.kind==9 then some (false,false,s.has,false,false,false)
 else if s.kind==7 || s.kind==8 then some (false,false,false,s.has,false,false)
 else none
def Sm.D7 (s:Sm) (nm pr x:Bool):Bool:=if !(pz s.name nm) || !(pz s.proc pr) || !(sR s.x x)then false else nO s.args
def Sm.D8 (s:Sm) (f:Bool×Bool×Bool×Bool×Bool×Bool):Bool:=
 if f.2.2.2.1 || (!f.2.2.2.2.1 && decide ((s.a7.length:Int) > 0)) || (!f.2.2.2.2.2 && decide ((s.aW.length:Int) > 0)) || (!(s.kind==4) && decide ((s.args.length:Int) > 0))then false
 else s.D7 f.1 f.2.1 f.2.2.1
def Sm.fields (s:Sm):Bool:=match s.flags with
 | none=>false
 | some f=>s.D8 f
section
variable {v:Sm} {B:e9} {Q:Exit→Tm→St→Prop} {p:Bool}
theorem PN {nm pr x:Bool} (hf:v.lI) (hB:B.s = ⟨[],[]⟩) (hQ:gS 0 0 [(2,none)] (.bool p) ⟨[],[]⟩=Q) (h:v.D7 nm pr x=p) :
 Sem Tryz.prog B 93 QYP Q [(1, .ptr 0 0),(3, .bool nm),(4, .bool pr),(5, .bool x)] ⟨[bc v],[]⟩:=by
 have h1:=fun b s=>zH v.name b hf.name s
 have h2:=fun b s=>zH v.proc b hf.proc s
 have h3:=fun b s=>Hu b hf.x hf.xt s
 have h4:=fun s=>PK hf.W2 hf.arg s
 unfold Sm.D7 at h
 have⟨hF,hP,hY,hZ⟩:=bt
 refine gB ?_
 repeat' (first
 | simp only [go_sem,hF,hP,hY,hZ]
 | (with_reducible refine CU (h1 _ _) ?_)
 | (with_reducible refine CU (h2 _ _) ?_)
 | (with_reducible refine CU (h3 _ _) ?_)
 | (with_reducible refine CU (h4 _) ?_)
 | (with_reducible first | refine bB fun hc=> ?_ | refine bC fun hc=> ?_ | refine bD (fun hc=> ?_) fun hc=> ?_) <;> (try simp only [hc,bs, ↓reduceIte]at h) <;> try simp only [hc]
 | (with_reducible refine aH hQ ?_;(try cases h);simp only [az,aA,bx,bA,go_sem,hF,hP,hY,hZ];repeat' (first | exact Ok.out | with_reducible refine aE ?_ ?_ | (simp;done))))
theorem PO {nm pr x has th ot ar:Bool} (hf:v.lI) (hB:B.s = ⟨[],[]⟩) (hQ:gS 0 0 [(2,none)] (.bool p) ⟨[],[]⟩=Q) (e:(v.kind==4)=ar) (h:v.D8 (nm,pr,x,has,th,ot)=p) :
 Sem Tryz.prog B 93 QYQ Q [(1, .ptr 0 0),(3, .bool nm),(4, .bool pr),(5, .bool x),(6, .bool has),(7, .bool th),(8, .bool ot),(9, .bool ar)] ⟨[bc v],[]⟩:=by
 simp only [Sm.D8,e]at h
 have⟨hF,hP,hY,hZ⟩:=bt
 refine Sem.jB ?_
 repeat' (first
 | simp only [go_sem,hF,hP,hY,hZ]
 | (with_reducible first | refine bB fun hc=> ?_ | refine bC fun hc=> ?_ | refine bD (fun hc=> ?_) fun hc=> ?_) <;> (try simp only [hc,bs, ↓reduceIte]at h) <;> try simp only [hc]
 | (with_reducible refine aH hQ ?_;(try cases h);simp only [az,aA,bx,bA,go_sem,hF,hP,hY,hZ];repeat' (first | exact Ok.out | with_reducible refine aE ?_ ?_ | (simp;done))))
 all_goals
  refine Sem.re _ _ 1 0 (by rw [hB];exact k9 rfl) (by rw [hB];exact k9 rfl) ?_ ?_ (PN hf hB hQ h)
  ·(simp only [go_sem,hF,hP,hY,hZ];repeat' (first | exact Ok.out | with_reducible refine aE ?_ ?_))
  ·(simp only [go_sem,hF,hP,hY,hZ];repeat' (first | exact Ok.out | with_reducible refine aE ?_ ?_))
theorem PQ {ar:Bool} (hf:v.lI) (hB:B.s = ⟨[],[]⟩) (hQ:gS 0 0 [(2,none)] (.bool p) ⟨[],[]⟩=Q) (e:(v.kind==4)=ar) (h:v.fields=p) :
 Sem Tryz.prog B 93 WC Q [(1, .ptr 0 0),(3, .bool false),(4, .bool false),(5, .bool false),(6, .bool v.has),(7, .bool false),(8, .bool false),(9, .bool ar)] ⟨[bc v],[]⟩:=by
 simp only [Sm.fields,Sm.flags]at h
 have⟨hF,hP,hY,hZ⟩:=bt
 refine Sem.jB ?_
 repeat' (first
 | simp only [go_sem,hF,hP,hY,hZ]
 | (with_reducible first | refine bB fun hc=> ?_ | refine bC fun hc=> ?_ | refine bD (fun hc=> ?_) fun hc=> ?_) <;> (try simp only [hc,bs, ↓reduceIte]at h) <;> try simp only [hc]
 | (with_reducible refine aH hQ ?_;(try cases h);simp only [az,aA,bx,bA,go_sem,hF,hP,hY,hZ];repeat' (first | exact Ok.out | with_reducible refine aE ?_ ?_ | (simp;done))))
 all_goals
  refine Sem.re _ _ 1 0 (by rw [hB];exact k9 rfl) (by rw [hB];exact k9 rfl) ?_ ?_ (PO hf hB hQ e h)
  ·(simp only [go_sem,hF,hP,hY,hZ];repeat' (first | exact Ok.out | with_reducible refine aE ?_ ?_))
  ·(simp only [go_sem,hF,hP,hY,hZ];repeat' (first | exact Ok.out | with_reducible refine aE ?_ ?_))
end
theorem PR {v:Sm} (hf:v.lI) (s:St):aD Tryz.prog rb [.agg (bc v)] s (.bool v.fields) s:=by
 refine aD.pure ?_ (by simp [D.bH,D.ok,mE]) rfl s
 unfold S0
 refine aD.goS AH rfl fun B Q hB hQ=> ?_
 have⟨hF,hP,hY,hZ⟩:=bt
 refine Sem.seq (b:=QYT) (gB ?_)
 repeat' (first
 | simp only [go_sem,hF,hP,hY,hZ]
 | (with_reducible refine aH hQ ?_;simp only [az,aA,Option.some.injEq,exists_eq_left',go_sem,hF,hP,hY,hZ];repeat' (first | exact Ok.out | with_reducible refine aE ?_ ?_ | (simp;done))))
 refine Sem.seq (b:=QYS) (gB ?_)
 repeat' (first
 | simp only [go_sem,hF,hP,hY,hZ]
 | (with_reducible refine aH hQ ?_;simp only [az,aA,Option.some.injEq,exists_eq_left',go_sem,hF,hP,hY,hZ];repeat' (first | exact Ok.out | with_reducible refine aE ?_ ?_ | (simp;done))))
 refine Sem.seq (b:=WC) (gB ?_)
 repeat' (first
 | simp only [go_sem,hF,hP,hY,hZ]
 | (with_reducible refine aH hQ ?_;simp only [az,aA,Option.some.injEq,exists_eq_left',go_sem,hF,hP,hY,hZ];repeat' (first | exact Ok.out | with_reducible refine aE ?_ ?_ | (simp;done))))
 refine Sem.re _ _ 1 0 (by rw [hB];exact k9 rfl) (by rw [hB];exact k9 rfl) ?_ ?_ (PQ hf hB hQ rfl rfl)
 ·(simp only [go_sem,hF,hP,hY,hZ];repeat' (first | exact Ok.out | with_reducible refine aE ?_ ?_))
 ·(simp only [go_sem,hF,hP,hY,hZ];repeat' (first | exact Ok.out | with_reducible refine aE ?_ ?_))
end Go.Abs

/-! RefMay3 -/

namespace Go.Abs
set_option maxRecDepth 8000
open Go.Proofs
def iC (i:It):List D:= [.int .i64 i.s.id, .int .i64 i.s.kind, .slice .shared 1 (i.s.labels.map encStr), .str i.s.name, .str i.s.proc,
 .int .i64 i.s.x.op, .int .i64 i.s.x.n, .str i.s.x.name, .slice .shared 4 (i.s.x.kids.map bp), .bool i.s.has, .slice .shared 6 (i.s.args.map dO), .slice .shared 13 (i.s.a7.map bc), .slice .shared 13 (i.s.aW.map bc), .int .i64 i.deep, .int .i64 i.bZ, .bool i.aW]
theorem Xa (i:It):D.bH 0 0 (iC i)=true:=by simp [iC,D.bH,D.ok,Tag.ok,eH,Rk,DY,mR]
theorem aaz (n m:Nat) (l:List It):D.jf n m (l.map iC)=l.map iC:=lz Xa n m l
theorem aaA (n m:Nat) (i:It):D.gq n m (iC i)=iC i:=gI n m _ (Xa i)
theorem aaB (x:It):(iC x).length=16:=nd rfl
theorem Xb (x:It):List.take 13 (iC x)=bc x.s:=by simp only [iC,di];rfl
theorem PS (x:It):(iC x)[0]? = some (.int .i64 x.s.id):=nd rfl
theorem Mt (x:It):(iC x)[13]? = some (.int .i64 x.deep):=nd rfl
attribute [go_sem] aaz aaA aaB Xb PS Mt
abbrev ao0 (N:Nat):Prop:=∀ (l:List Sm) (deep bZ:Int) (aW:Bool) (out:List It),Sm.aY l<N→0≤deep→deep≤13→out.length≤201→∀ {s:St} {t:Nat},s.aC[t]? = some (some out.length)→
 aD Tryz.prog GN [.slice .shared 13 (l.map bc), .int .i64 deep, .int .i64 bZ, .bool aW, .slice (.tok t) 16 (out.map iC)] s (.slice (.tok t) 16 ((fq deep bZ aW out l).map iC)) ⟨s.aw,s.aC.set t (some (fq deep bZ aW out l).length)⟩
end Go.Abs

/-! RefMay4 -/

namespace Go.Abs
set_option maxRecDepth 8000
open Go.Proofs
structure Pg.lI (p:Pg):Prop where
 sz:p.size<4611686018427387000
 Fs : ∀ t∈p.globals,t.length<4611686018427387904
 oz : ∀ f∈p.procs,f.name.length<4611686018427387904∧(∀ t∈f.vars,t.length<4611686018427387904)∧(∀ t∈f.fin,t.length<4611686018427387904)∧∀ a∈f.params,a.name.length<4611686018427387904
 items : ∀ i∈p.all,i.s.lI
end Go.Abs

/-! TMay3 -/

namespace Go.Abs
set_option maxRecDepth 8000
open Go.Proofs
def gate (nest:Int) (len n:Nat) (r:Bool×Nat):Bool×Nat:=if decide (nest > 12) && decide ((len:Int) > 0)then(false,n)else r
mutual
def Sm.nY (nest:Int) (n:Nat):Sm→Bool×Nat
 | ⟨id,kind,labels,name,proc,x,has,args,a7,aW⟩=>
  if decide (((n+1:Nat):Int) > 200) || id != ((n+1:Nat):Int) || !(df labels) || !(Sm.fields ⟨id,kind,labels,name,proc,x,has,args,a7,aW⟩)then(false,n+1)
  else if !(gate (nest+1) a7.length (n+1) (Sm.ey (nest+1) (n+1) a7)).1 then(false,(gate (nest+1) a7.length (n+1) (Sm.ey (nest+1) (n+1) a7)).2)
  else gate (nest+1) aW.length (gate (nest+1) a7.length (n+1) (Sm.ey (nest+1) (n+1) a7)).2 (Sm.ey (nest+1) (gate (nest+1) a7.length (n+1) (Sm.ey (nest+1) (n+1) a7)).2 aW)
def Sm.ey (nest:Int) (n:Nat):List Sm→Bool×Nat
 | []=>(true,n)
 | s::l=>if !(Sm.nY nest n s).1 then(false,(Sm.nY nest n s).2)else Sm.ey nest (Sm.nY nest n s).2 l
end
def Sm.fH (nest:Int) (n:Nat) (l:List Sm):Bool×Nat:=gate nest l.length n (Sm.ey nest n l)
theorem Ce (nest:Int) (n:Nat) (s:Sm):Sm.nY nest n s =
 if decide (((n+1:Nat):Int) > 200) || s.id != ((n+1:Nat):Int) || !(df s.labels) || !(s.fields)then(false,n+1)
 else if !(Sm.fH (nest+1) (n+1) s.a7).1 then(false,(Sm.fH (nest+1) (n+1) s.a7).2)
 else Sm.fH (nest+1) (Sm.fH (nest+1) (n+1) s.a7).2 s.aW:=by
 cases s;simp only [Sm.nY,Sm.fH];rfl
mutual
def Sm.tL:Sm→Prop
 | ⟨id,kind,labels,name,proc,x,has,args,a7,aW⟩=>Sm.lI ⟨id,kind,labels,name,proc,x,has,args,a7,aW⟩∧Sm.jc a7∧Sm.jc aW
def Sm.jc:List Sm→Prop
 | []=>True
 | s::l=>s.tL∧Sm.jc l
end
theorem zI (s:Sm):s.tL↔s.lI∧Sm.jc s.a7∧Sm.jc s.aW:=by cases s;simp only [Sm.tL]
theorem AX {s:Sm} : ∀ {l:List Sm},Sm.jc l→s∈l→s.tL
 | y::l,h,m=>by
  simp only [Sm.jc]at h
  rcases List.mem_cons.1 m with rfl | m
  ·exact h.1
  ·exact AX h.2 m
mutual
theorem Uc (nest:Int) (n:Nat) : ∀ s:Sm,n≤201→(Sm.nY nest n s).2≤202∧((Sm.nY nest n s).1=true→(Sm.nY nest n s).2≤200)
 | ⟨id,kind,labels,name,proc,x,has,args,a7,aW⟩,hn=>by
  simp only [Sm.nY]
  split
  ·exact⟨by dsimp only;omega,fun h=>by cases h⟩
  rename_i hc
  simp only [Bool.or_eq_true,decide_eq_true_eq,not_or]at hc
  have wN:n+1≤200:=by omega
  have g1 : ∀ (nest:Int) (l:List Sm) (m:Nat),m≤200→(Sm.ey nest m l).2≤202∧((Sm.ey nest m l).1=true→(Sm.ey nest m l).2≤200)→
   (gate nest l.length m (Sm.ey nest m l)).2≤202∧((gate nest l.length m (Sm.ey nest m l)).1=true→(gate nest l.length m (Sm.ey nest m l)).2≤200):=by
   intro nest l m hm h
   unfold gate
   split
   ·exact⟨by dsimp only;omega,fun h=>by cases h⟩
   ·exact h
  have h1:=g1 (nest+1) a7 (n+1) wN (yp (nest+1) (n+1) a7 wN)
  split
  ·exact⟨h1.1,fun h=>by cases h⟩
  rename_i QJ
  have h2:=h1.2 (by simpa using QJ)
  exact g1 (nest+1) aW _ h2 (yp (nest+1) _ aW h2)
theorem yp (nest:Int) (n:Nat) : ∀ l:List Sm,n≤200→(Sm.ey nest n l).2≤202∧((Sm.ey nest n l).1=true→(Sm.ey nest n l).2≤200)
 | [],hn=>by simp only [Sm.ey];exact⟨by omega,fun _=>hn⟩
 | s::l,hn=>by
  simp only [Sm.ey]
  have h1:=Uc nest n s (by omega)
  split
  ·exact⟨h1.1,fun h=>by cases h⟩
  rename_i hc
  exact yp nest _ l (h1.2 (by simpa using hc))
end
theorem Cf {nest:Int} {n:Nat} {l:List Sm} (hn:n≤200):(Sm.fH nest n l).2≤202∧((Sm.fH nest n l).1=true→(Sm.fH nest n l).2≤200):=by
 unfold Sm.fH gate
 split
 ·exact⟨by dsimp only;omega,fun h=>by cases h⟩
 ·exact yp nest n l hn
theorem Ud : ∀ (m:Nat) (l:List Sm),Sm.aY l≤m→Sm.aY l<4611686018427387000→Sm.jc l→∀ (nest:Int) (n:Nat),0≤nest→nest≤13→n≤200→
 aD Tryz.prog iY [.ptr 0 0, .slice .shared 13 (l.map bc), .int .i64 nest] ⟨[[.int .i64 n]],[]⟩ (.bool (Sm.fH nest n l).1) ⟨[[.int .i64 (Sm.fH nest n l).2]],[]⟩:=by
 intro m
 induction m with
 | zero=>
  intro l h hs hf nest n h0 h13 hn
  cases l with
  | nil=>
   have d1:decide ((0:Int) > 0)=false:=rfl
   have e:Sm.fH nest n [] = (true,n):=by simp [Sm.fH,gate,Sm.ey]
   have z:decide ((0:Int)<0)=false:=rfl
   rw [e]
   refine aD.go pj rfl fun B Q hB hQ=> ?_
   have⟨hF,hP,hY,hZ⟩:=bt
   repeat' (first
 | simp only [go_sem,hF,hP,hY,hZ,d1,z]
 | (with_reducible refine bm.tx ?_)
 | (with_reducible first | refine bB fun hc=> ?_ | refine bC fun hc=> ?_ | refine bD (fun hc=> ?_) fun hc=> ?_) <;> (try simp only [hc,bs, ↓reduceIte]at h) <;> try simp only [hc]
 | (with_reducible refine aH hQ ?_;simp only [az,aA,bx,bA,go_sem,hF,hP,hY,hZ];repeat' (first | exact Ok.out | with_reducible refine aE ?_ ?_ | (simp;done))))
  | cons s l=>simp only [Sm.aY]at h;omega
 | succ m ih=>
  intro l h hs hf nest n h0 h13 hn
  generalize hR:Sm.fH nest n l=R
  have hlen:=Sm.dq l
  unfold Sm.fH gate at hR
  have h:=hR
  refine aD.go pj rfl fun B Q hB hQ=> ?_
  have⟨hF,hP,hY,hZ⟩:=bt
  repeat' (first
 | simp only [go_sem,hF,hP,hY,hZ]
 | (with_reducible first | refine bB fun hc=> ?_ | refine bC fun hc=> ?_ | refine bD (fun hc=> ?_) fun hc=> ?_) <;> (try simp only [hc,bs, ↓reduceIte]at h) <;> try simp only [hc]
 | (with_reducible refine aH hQ ?_;(try cases h);simp only [az,aA,bx,bA,go_sem,hF,hP,hY,hZ];repeat' (first | exact Ok.out | with_reducible refine aE ?_ ?_ | (simp;done))))
  all_goals
   have aaC:l≠ []→nest≤12:=by
    intro fl
    have:l.length≠0:=by simpa using fl
    simp_all <;> omega
   refine cM 1 0 (bm.ind (ι:=List Sm×Nat×Nat) (fun i=>l.drop i.2.1=i.1∧Sm.ey nest i.2.2 i.1=R∧i.2.2≤200) (fun i=>i.1.length)
    (fun i=> [(0, .ptr 0 0),(2, .int .i64 nest),(16, .slice .shared 13 (l.map bc)),(17, .int .i64 (l.length:Int)),(18, .int .i64 (i.2.1:Int))]) (fun i=>⟨[[.int .i64 (i.2.2:Int)]],[]⟩) ?_ (l,0,n) ⟨rfl,h,hn⟩)
   rintro⟨rest,k,j⟩ ⟨h1,h,hj⟩ IH
   dsimp only at h1 h hj
   cases rest with
   | nil=>
    have hF:=drop_nil h1
    simp only [Sm.ey]at h
    repeat' (first
 | simp only [go_sem,hF,hP,hY,hZ]
 | (with_reducible first | refine bB fun hc=> ?_ | refine bC fun hc=> ?_ | refine bD (fun hc=> ?_) fun hc=> ?_) <;> (try simp only [hc,bs, ↓reduceIte]at h) <;> try simp only [hc]
 | (with_reducible refine aH hQ ?_;(try cases h);simp only [az,aA,bx,bA,go_sem,hF,hP,hY,hZ];repeat' (first | exact Ok.out | with_reducible refine aE ?_ ?_ | (simp;done))))
   | cons s rest=>
    obtain⟨hP,g2,hF,g4⟩:=drop_cons h1
    have hY:k<4611686018427387904:=by omega
    have mC:=List.mem_of_getElem? hP
    have er:=Sm.b9 mC
    have aq1:=aaC (by rintro rfl;simp at mC)
    obtain⟨Af,hft,hfe⟩:=(zI s).1 (AX hf mC)
    have aiF:Sm.aY s.a7<s.size∧Sm.aY s.aW<s.size:=by cases s;simp only [Sm.size];omega
    have w1:IntKind.wrap .i64 ((j:Int)+1)=((j+1:Nat):Int):=by rw [cY] <;> omega
    have w2:IntKind.wrap .i64 (nest+1)=nest+1:=cY (by omega) (by omega)
    have c1:=fun s=>wc Af.W1 Af.Sq s
    have c2:=fun s=>PR Af s
    simp only [Sm.ey,Ce]at h
    by_cases Mu:j+1≤200
    ·have r1:=Cf (nest:=nest+1) (l:=s.a7) Mu
     have c3:=fun s' ho=>(ih s.a7 (by omega) (by omega) hft (nest+1) (j+1) (by omega) (by omega) Mu).jl (s:=s') (o:=0) (by simp [D.bH,D.ok,mR,Tag.ok]) rfl rfl rfl ho
     by_cases wO:(Sm.fH (nest+1) (j+1) s.a7).1=true
     ·have c4:=fun s' ho=>(ih s.aW (by omega) (by omega) hfe (nest+1) _ (by omega) (by omega) (r1.2 wO)).jl (s:=s') (o:=0) (by simp [D.bH,D.ok,mR,Tag.ok]) rfl rfl rfl ho
      have r2:=Cf (nest:=nest+1) (l:=s.aW) (r1.2 wO)
      simp only [wO]at c3
      simp only [wO,Bool.not_true,Bool.false_eq_true, ↓reduceIte]at h
      repeat' (first
 | simp only [go_sem,hF,hP,hY,hZ,w1,w2,wO]
 | (with_reducible refine CU (c1 _) ?_)
 | (with_reducible refine CU (c2 _) ?_)
 | (with_reducible refine CU (c3 _ rfl) ?_)
 | (with_reducible refine CU (c4 _ rfl) ?_)
 | (with_reducible first | refine bB fun hc=> ?_ | refine bC fun hc=> ?_ | refine bD (fun hc=> ?_) fun hc=> ?_) <;> (try simp only [hc,bs, ↓reduceIte]at h) <;> try simp only [hc]
 | (with_reducible refine aH hQ ?_;(try cases h);simp only [az,aA,bx,bA,go_sem,hF,hP,hY,hZ,w1,w2,wO];repeat' (first | exact Ok.out | with_reducible refine aE ?_ ?_ | (simp;done))))
      refine cM 1 0 (IH (rest,k+1,(Sm.fH (nest+1) (Sm.fH (nest+1) (j+1) s.a7).2 s.aW).2) ⟨g2,h,r2.2 (by assumption)⟩ (Nat.lt_succ_self _))
     ·have wO:(Sm.fH (nest+1) (j+1) s.a7).1=false:=by simpa using wO
      simp only [wO]at c3
      simp only [wO,Bool.not_false, ↓reduceIte]at h
      repeat' (first
 | simp only [go_sem,hF,hP,hY,hZ,w1,w2,wO]
 | (with_reducible refine CU (c1 _) ?_)
 | (with_reducible refine CU (c2 _) ?_)
 | (with_reducible refine CU (c3 _ rfl) ?_)
 | (with_reducible first | refine bB fun hc=> ?_ | refine bC fun hc=> ?_ | refine bD (fun hc=> ?_) fun hc=> ?_) <;> (try simp only [hc,bs, ↓reduceIte]at h) <;> try simp only [hc]
 | (with_reducible refine aH hQ ?_;(try cases h);simp only [az,aA,bx,bA,go_sem,hF,hP,hY,hZ,w1,w2,wO];repeat' (first | exact Ok.out | with_reducible refine aE ?_ ?_ | (simp;done))))
    ·have d1:decide (((j+1:Nat):Int) > 200)=true:=by simp;omega
     simp only [d1,Bool.true_or,Bool.not_false, ↓reduceIte]at h
     repeat' (first
 | simp only [go_sem,hF,hP,hY,hZ,w1,w2,d1]
 | (with_reducible refine CU (c1 _) ?_)
 | (with_reducible refine CU (c2 _) ?_)
 | (with_reducible first | refine bB fun hc=> ?_ | refine bC fun hc=> ?_ | refine bD (fun hc=> ?_) fun hc=> ?_) <;> (try simp only [hc,bs, ↓reduceIte]at h) <;> try simp only [hc]
 | (with_reducible refine aH hQ ?_;(try cases h);simp only [az,aA,bx,bA,go_sem,hF,hP,hY,hZ,w1,w2,d1];repeat' (first | exact Ok.out | with_reducible refine aE ?_ ?_ | (simp;done))))
end Go.Abs

/-! TMay4 -/

namespace Go.Abs
set_option maxRecDepth 8000
open Go.Proofs
def Pc.ey (n:Nat):List Pc→Bool
 | []=>true
 | f::l=>
  if decide ((f.params.length:Int) > 8) || decide ((f.vars.length:Int) > 16) || !(isName f.name) || !(df f.vars) || !(df f.fin)then false
  else if !(Pm.eB f.params)then false
  else if !(Sm.fH 1 n f.body).1 then false
  else Pc.ey (Sm.fH 1 n f.body).2 l
def Pg.Cg (p:Pg):Bool:=
 if decide ((p.globals.length:Int) > 16) || decide ((p.procs.length:Int) > 16) || !(df p.globals)then false
 else Pc.ey 0 p.procs
structure Pg.D9 (p:Pg):Prop where
 sz:p.size<4611686018427387000
 Fs : ∀ t∈p.globals,t.length<4611686018427387904
 oz : ∀ f∈p.procs,f.name.length<4611686018427387904∧(∀ t∈f.vars,t.length<4611686018427387904)∧(∀ t∈f.fin,t.length<4611686018427387904)∧∀ a∈f.params,a.name.length<4611686018427387904
 body : ∀ f∈p.procs,Sm.jc f.body
theorem Ft {p:Pg} (hf:p.D9) (s:St):aD Tryz.prog o7 [.agg (cj p)] s (.bool p.Cg) s:=by
 refine aD.pure ?_ (by simp only [D.bH,D.ok,iX];rfl) rfl s
 obtain⟨er,wP,Xc,Ic⟩:=hf
 have rC:Pc.aY p.procs<4611686018427387000:=by simp only [Pg.size]at er;omega
 have aaD:p.globals.length<4611686018427387904:=by simp only [Pg.size]at er;omega
 have aqy:p.procs.length<4611686018427387904:=by have:=Pc.dq p.procs;omega
 have hg:=fun s=>wc aaD wP s
 unfold S0
 generalize h:p.Cg=R
 unfold Pg.Cg at h
 refine aD.go Fb rfl fun B Q hB hQ=> ?_
 have⟨hF,hP,hY,hZ⟩:=bt
 repeat' (first
 | simp only [go_sem,hF,hP,hY,hZ]
 | (with_reducible refine CU (hg _) ?_)
 | (with_reducible first | refine bB fun hc=> ?_ | refine bC fun hc=> ?_ | refine bD (fun hc=> ?_) fun hc=> ?_) <;> (try simp only [hc,bs, ↓reduceIte]at h) <;> try simp only [hc]
 | (with_reducible refine aH hQ ?_;(try cases h);simp only [az,aA,bx,bA,go_sem,hF,hP,hY,hZ];repeat' (first | exact Ok.out | with_reducible refine aE ?_ ?_ | (simp;done))))
 refine cM 2 0 (bm.ind (ι:=List Pc×Nat×Nat) (fun i=>p.procs.drop i.2.1=i.1∧Pc.ey i.2.2 i.1=R∧i.2.2≤200) (fun i=>i.1.length)
  (fun i=> [(1, .ptr 0 0),(3, .ptr 1 0),(27, .slice .shared 5 (p.procs.map cz)),(28, .int .i64 (p.procs.length:Int)),(29, .int .i64 (i.2.1:Int))]) (fun i=>⟨[cj p,[.int .i64 (i.2.2:Int)]],[]⟩) ?_ (p.procs,0,0) ⟨rfl,h,Nat.zero_le _⟩)
 rintro⟨rest,k,n⟩ ⟨h1,h,hn⟩ IH
 dsimp only at h1 h hn
 cases rest with
 | nil=>
  have hF:=drop_nil h1
  simp only [Pc.ey]at h
  repeat' (first
 | simp only [go_sem,hF,hP,hY,hZ]
 | (with_reducible first | refine bB fun hc=> ?_ | refine bC fun hc=> ?_ | refine bD (fun hc=> ?_) fun hc=> ?_) <;> (try simp only [hc,bs, ↓reduceIte]at h) <;> try simp only [hc]
 | (with_reducible refine aH hQ ?_;(try cases h);simp only [az,aA,bx,bA,go_sem,hF,hP,hY,hZ];repeat' (first | exact Ok.out | with_reducible refine aE ?_ ?_ | (simp;done))))
 | cons f rest=>
  obtain⟨hP,g2,hF,g4⟩:=drop_cons h1
  have cb:k<4611686018427387904:=by omega
  have mC:=List.mem_of_getElem? hP
  have wQ:=Pc.b9 mC
  simp only [Pc.size]at wQ
  obtain⟨wR,hfv,hff,hfp⟩:=Xc f mC
  have Xd:=xT f.name wR
  have hv:=fun s=>wc (by omega) hfv s
  have he:=fun s=>wc (by omega) hff s
  have hb:=fun s' o ho=>(Ud _ f.body (Nat.le_refl _) (by omega) (Ic f mC) 1 n (by omega) (by omega) hn).jl (s:=s') (o:=o) (by simp [D.bH,D.ok,mR,Tag.ok]) rfl rfl rfl ho
  have hle:=Cf (nest:=1) (l:=f.body) hn
  simp only [Pc.ey]at h
  repeat' (first
 | simp only [go_sem,hF,hP,hY,hZ]
 | (with_reducible refine CU (Xd _) ?_)
 | (with_reducible refine CU (hv _) ?_)
 | (with_reducible refine CU (he _) ?_)
 | (with_reducible first | refine bB fun hc=> ?_ | refine bC fun hc=> ?_ | refine bD (fun hc=> ?_) fun hc=> ?_) <;> (try simp only [hc,bs, ↓reduceIte]at h) <;> try simp only [hc]
 | (with_reducible refine aH hQ ?_;exact pQ)
 | (cases h;done))
  refine cM 3 0 (bm.ind (ι:=List Pm×Nat) (fun i=>f.params.drop i.2=i.1∧(if !(Pm.eB i.1)then false else if !(Sm.fH 1 n f.body).1 then false else Pc.ey (Sm.fH 1 n f.body).2 rest)=R) (fun i=>i.1.length)
   (fun i=> [(1, .ptr 0 0),(3, .ptr 1 0),(5, .ptr 2 0),(27, .slice .shared 5 (p.procs.map cz)),(28, .int .i64 (p.procs.length:Int)),(29, .int .i64 (k:Int)),(62, .slice .shared 2 (f.params.map fD)),(63, .int .i64 (f.params.length:Int)),(64, .int .i64 (i.2:Int))]) (fun i=>⟨[cj p,[.int .i64 (n:Int)],cz f],[]⟩) ?_ (f.params,0) ⟨rfl,h⟩)
  rintro⟨J6,j⟩ ⟨j1,h⟩ AZ
  dsimp only at j1 h
  cases J6 with
  | nil=>
   have hF:=drop_nil j1
   simp only [Pm.eB,Bool.not_true,Bool.false_eq_true, ↓reduceIte]at h
   repeat' (first
 | simp only [go_sem,hF,hP,hY,hZ]
 | (with_reducible refine CU (hb _ _ rfl) ?_)
 | (with_reducible first | refine bB fun hc=> ?_ | refine bC fun hc=> ?_ | refine bD (fun hc=> ?_) fun hc=> ?_) <;> (try simp only [hc,bs, ↓reduceIte]at h) <;> try simp only [hc]
 | (with_reducible refine aH hQ ?_;exact pQ)
 | (cases h;done))
   refine eo 2 0 ?_ ?_ (IH (rest,k+1,(Sm.fH 1 n f.body).2) ⟨g2,h,hle.2 (by assumption)⟩ (Nat.lt_succ_self _))
   ·(simp only [go_sem,hF,hP,hY,hZ,aM cb];try exact bU)
   ·(simp only [go_sem,hF,hP,hY,hZ,aM cb];try exact bU)
  | cons a J6=>
   obtain⟨hP,b2,hF,b4⟩:=drop_cons j1
   have Mu:j<4611686018427387904:=by omega
   have ha:=xT a.name (hfp a (List.mem_of_getElem? hP))
   simp only [Pm.eB]at h
   repeat' (first
 | simp only [go_sem,hF,hP,hY,hZ]
 | (with_reducible refine CU (ha _) ?_)
 | (with_reducible first | refine bB fun hc=> ?_ | refine bC fun hc=> ?_ | refine bD (fun hc=> ?_) fun hc=> ?_) <;> (try simp only [hc,bs, ↓reduceIte]at h) <;> try simp only [hc]
 | (with_reducible refine aH hQ ?_;exact pQ)
 | (cases h;done))
   refine eo 3 0 ?_ ?_ (AZ (J6,j+1) ⟨b2,h⟩ (Nat.lt_succ_self _))
   ·(simp only [go_sem,hF,hP,hY,hZ,aM Mu];try exact bU)
   ·(simp only [go_sem,hF,hP,hY,hZ,aM Mu];try exact bU)
end Go.Abs

/-! MayFine -/

namespace Go.Abs
theorem we {s:aB} (h:isName s=true):s.length≤8:=by
 cases s with
 | nil=>simp
 | cons c r=>
  simp only [isName]at h
  split at h
  ·cases h
  ·rename_i hc
   simp only [Bool.or_eq_true,decide_eq_true_eq,not_or]at hc
   simp only [List.length_cons];omega
theorem nC {t:aB} : ∀ {l:List aB},df l=true→t∈l→isName t=true
 | s::l,h,m=>by
  simp only [df]at h
  cases hs:isName s
  ·simp [hs]at h
  ·simp [hs]at h
   rcases List.mem_cons.1 m with rfl | m
   ·exact hs
   ·exact nC h m
theorem Fu {a:Ar} : ∀ {l:List Ar},Ar.eB l=true→a∈l→a.may=true
 | s::l,h,m=>by
  simp only [Ar.eB]at h
  cases hs:s.may
  ·simp [hs]at h
  ·simp [hs]at h
   rcases List.mem_cons.1 m with rfl | m
   ·exact hs
   ·exact Fu h m
theorem CW {a:Pm} : ∀ {l:List Pm},Pm.eB l=true→a∈l→isName a.name=true
 | s::l,h,m=>by
  simp only [Pm.eB]at h
  cases hs:isName s.name
  ·simp [hs]at h
  ·simp [hs]at h
   rcases List.mem_cons.1 m with rfl | m
   ·exact hs
   ·exact CW h m
mutual
theorem A0 : ∀ x:Ex,x.form=true→x.texts
 | ⟨op,n,name,kids⟩,h=>by
  simp only [Ex.form]at h
  split at h
  ·cases h
  ·rename_i hc
   refine⟨?_,yV kids h⟩
   simp only [Bool.or_eq_true,Bool.and_eq_true,Bool.not_eq_true',not_or,not_and,Bool.not_eq_false]at hc
   cases hn:(name == [])
   ·have:=we (hc.2 hn);omega
   ·simp at hn;subst hn;simp
theorem yV : ∀ l:List Ex,Ex.nM l=true→Ex.sN l
 | [],_=>trivial
 | x::l,h=>by
  simp only [Ex.nM]at h
  cases hx:x.form
  ·simp [hx]at h
  ·simp [hx]at h
   exact⟨A0 x hx,yV l h⟩
end
theorem CX {x:Ex} (h:x.may=true):x.texts:=by
 unfold Ex.may at h
 simp only [Bool.and_eq_true]at h
 exact A0 x h.2
theorem A1 {x:Ex} (h:x.none=true):x.texts:=by
 obtain⟨op,n,name,kids⟩:=x
 simp [Ex.none]at h
 obtain⟨⟨_,h1⟩,h2⟩:=h
 subst h1 h2
 exact⟨by simp,trivial⟩
mutual
theorem Mv {deep bZ:Int} {aW:Bool} {out:List It} {i:It} : ∀ s:Sm,i∈iR deep bZ aW out s→i∈out∨i.s.size≤s.size
 | ⟨id,kind,labels,name,proc,x,has,args,a7,e⟩,h=>by
  simp only [iR]at h
  have key:i∈out++ [(⟨⟨id,kind,labels,name,proc,x,has,args,a7,e⟩,deep,bZ,aW⟩:It)]→i∈out∨i.s.size≤(⟨id,kind,labels,name,proc,x,has,args,a7,e⟩:Sm).size:=by
   intro h
   rcases List.mem_append.1 h with h | h
   ·exact .inl h
   ·simp at h;subst h;exact .inr (Nat.le_refl _)
  split at h
  ·rcases tM e h with h | h
   ·rcases tM a7 h with h | h
    ·exact key h
    ·right;simp only [Sm.size];omega
   ·right;simp only [Sm.size];omega
  ·exact key h
theorem tM {deep bZ:Int} {aW:Bool} {out:List It} {i:It} : ∀ l:List Sm,i∈fq deep bZ aW out l→i∈out∨i.s.size<Sm.aY l
 | [],h=>by simp only [fq]at h;exact .inl h
 | s::l,h=>by
  simp only [fq]at h
  split at h
  ·rcases tM l h with h | h
   ·rcases Mv s h with h | h
    ·exact .inl h
    ·right;simp only [Sm.aY];omega
   ·right;simp only [Sm.aY];omega
  ·exact .inl h
end
theorem Fv {i:It} : ∀ (l:List Pc) (out:List It),i∈allM out l→i∈out∨i.s.size<Pc.aY l
 | [],out,h=>by simp only [allM]at h;exact .inl h
 | f::l,out,h=>by
  have key:i∈out++f.flat→i∈out∨i.s.size<Pc.aY (f::l):=by
   intro h
   rcases List.mem_append.1 h with h | h
   ·exact .inl h
   ·rcases tM _ h with h | h
    ·simp at h
    ·right;simp only [Pc.aY,Pc.size];omega
  simp only [allM]at h
  split at h
  ·exact key h
  ·rcases Fv l _ h with h | h
   ·exact key h
   ·right;simp only [Pc.aY];omega
theorem A2 {i:It} : ∀ (l:List It) (n:Nat),It.eB n l=true→i∈l→i.s.one=true
 | s::l,n,h,m=>by
  simp only [It.eB]at h
  split at h
  ·cases h
  ·rename_i hc
   simp only [Bool.or_eq_true,Bool.not_eq_true',not_or,Bool.not_eq_false]at hc
   rcases List.mem_cons.1 m with rfl | m
   ·exact hc.2
   ·exact A2 l (n+1) h m
theorem Fw {s:Sm} (h:s.one=true) (hs:s.size<4611686018427387000):s.lI:=by
 unfold Sm.one at h
 split at h
 ·cases h
 split at h
 ·cases h
 split at h
 ·cases h
 split at h
 ·cases h
 rename_i c1 c2 c3 c4
 simp only [Bool.or_eq_true,Bool.and_eq_true,Bool.not_eq_true',not_or,not_and,Bool.not_eq_false,decide_eq_true_eq]at c1 c2 c3 c4
 obtain⟨⟨⟨⟨⟨_,_⟩,aiG⟩,cx⟩,cn⟩,_⟩:=c1
 obtain⟨c21,c22⟩:=c2
 obtain⟨⟨c31,c32⟩,c33⟩:=c3
 have nm : ∀ {t:aB},isName t=true→t.length<4611686018427387904:=fun h=>by have:=we h;omega
 have er:1+s.labels.length+s.x.size+Ar.aY s.args≤s.size:=by cases s;simp only [Sm.size];omega
 have Ao:=Ar.dq s.args
 refine⟨fun t ht=>nm (nC aiG ht),by omega, ?_, ?_,by omega, ?_,by omega,fun a ha=> ?_⟩
 ·cases hn:s.hasName
  ·cases he:(s.name == [])
   ·exact nm (c22 ⟨hn,he⟩).2
   ·simp at he;rw [he];simp
  ·exact nm (c21 hn)
 ·cases wF:s.nz
  ·rw [wF]at c31
   have:s.proc = []:=by simpa using c31
   rw [this];simp
  ·exact nm (c32 wF)
 ·cases hx:s.sO
  ·exact A1 (cn hx)
  ·exact CX (cx hx)
 ·have hm:=Fu c4 ha
  have Sy:=Ar.b9 ha
  unfold Ar.may at hm
  split at hm
  ·simp only [Bool.and_eq_true]at hm
   exact⟨by omega,A1 hm.2,nm hm.1⟩
  ·simp only [Bool.and_eq_true,beq_iff_eq]at hm
   exact⟨by omega,CX hm.2,by rw [hm.1];simp⟩
theorem CY {f:Pc} : ∀ {l:List Pc},Pc.oz l=true→f∈l→isName f.name=true∧df f.vars=true∧df f.fin=true∧Pm.eB f.params=true
 | s::l,h,m=>by
  simp only [Pc.oz]at h
  split at h
  ·cases h
  split at h
  ·cases h
  rename_i c1 c2
  simp only [Bool.or_eq_true,Bool.not_eq_true',not_or,Bool.not_eq_false]at c1 c2
  rcases List.mem_cons.1 m with rfl | m
  ·exact⟨c1.1.1.1.1,c1.1.2,c1.2,c2⟩
  ·exact CY h m
theorem PU {p:Pg} (h:p.may=true) (hs:p.size<4611686018427387000):p.lI:=by
 unfold Pg.may at h
 split at h
 ·cases h
 split at h
 ·cases h
 split at h
 ·cases h
 rename_i c1 c2 c3
 simp only [Bool.or_eq_true,Bool.not_eq_true',not_or,Bool.not_eq_false]at c1 c2
 have nm : ∀ {t:aB},isName t=true→t.length<4611686018427387904:=fun h=>by have:=we h;omega
 refine⟨hs,fun t ht=>nm (nC c1.2 ht),fun f hf=> ?_,fun i hi=> ?_⟩
 ·obtain⟨a,b,c,d⟩:=CY c2 hf
  exact⟨nm a,fun t ht=>nm (nC b ht),fun t ht=>nm (nC c ht),fun t ht=>nm (CW d ht)⟩
 ·refine Fw (A2 _ _ h hi) ?_
  rcases Fv _ _ hi with h1 | h1
  ·simp at h1
  ·simp only [Pg.size]at hs;omega
end Go.Abs

/-! MayEq -/

namespace Go.Abs
theorem Mw {t:aB} (h:isName t=true):t≠ []:=by rintro rfl;cases h
theorem PV (op n:Int) (name:aB) (kids:List Ex):Ex.form ⟨op,n,name,kids⟩=true↔
 kK op=(kids.length:Int)∧(op=1∨n=0)∧0≤n∧(op=2↔name≠ [])∧(name = []∨isName name=true)∧Ex.nM kids=true:=by
 simp only [Ex.form]
 split
 ·rename_i h
  simp only [Bool.or_eq_true,Bool.and_eq_true,bne_iff_ne,ne_eq,decide_eq_true_eq,Bool.not_eq_true']at h
  refine⟨fun h=>(Bool.false_ne_true h).elim,fun⟨h1,h2,h3,h4,h5,_⟩=> ?_⟩
  exfalso
  rcases h with (((h | h) | h) | h) | h
  ·exact h h1
  ·rcases h2 with h2 | h2
   ·exact h.1 h2
   ·exact h.2 h2
  ·omega
  ·by_cases h2:op=2 <;> cases name <;> simp_all
  ·rcases h5 with h5 | h5
   ·subst h5;simp at h
   ·rw [h5]at h;simp at h
 ·rename_i h
  simp only [Bool.or_eq_true,Bool.and_eq_true,bne_iff_ne,ne_eq,decide_eq_true_eq,Bool.not_eq_true',not_or,not_and,Decidable.not_not,Bool.not_eq_false]at h
  obtain⟨⟨⟨⟨h1,h2⟩,h3⟩,h4⟩,h5⟩:=h
  refine⟨fun h=>⟨h1, ?_,by omega, ?_, ?_,h⟩,fun h=>h.2.2.2.2.2⟩
  ·by_cases h:op=1
   ·exact .inl h
   ·exact .inr (h2 h)
  ·by_cases h2:op=2 <;> cases name <;> simp_all
  ·cases name with
   | nil=>exact .inl rfl
   | cons c r=>exact .inr (h5 rfl)
theorem Xe (op n:Int) (name:aB) (kids:List Ex) (k:Int):Ex.dp k ⟨op,n,name,kids⟩=true↔
 1≤k∧(kids.length:Int)=kK op∧(if op=1 then 0≤n∧name = []else if op=2 then n=0∧isName name=true else n=0∧name = []∧Ex.AU (k - 1) kids=true):=by
 simp only [Ex.dp]
 split
 ·rename_i h
  simp only [Bool.or_eq_true,decide_eq_true_eq,bne_iff_ne,ne_eq]at h
  refine⟨fun h=>(Bool.false_ne_true h).elim,fun⟨h1,h2,_⟩=> ?_⟩
  rcases h with h | h
  ·omega
  ·exact(h h2).elim
 rename_i h
 simp only [Bool.or_eq_true,decide_eq_true_eq,bne_iff_ne,ne_eq,not_or,Decidable.not_not]at h
 have h1:1≤k:=by omega
 simp only [h1,h.2,true_and]
 by_cases o1:op=1
 ·subst o1
  cases name <;> simp
 ·have o1' : ¬ (op==1)=true:=by simpa using o1
  rw [if_neg o1',if_neg o1]
  by_cases o2:op=2
  ·subst o2;simp
  ·have o2' : ¬ (op==2)=true:=by simpa using o2
   rw [if_neg o2',if_neg o2]
   by_cases hn:n=0
   ·subst hn
    cases name <;> simp
   ·simp [hn]
mutual
theorem Sz : ∀ (x:Ex) (k:Int),0≤k→(x.dp k=true↔(x.depth:Int)≤k∧x.form=true)
 | ⟨op,n,name,kids⟩,k,hk=>by
  rw [Xe,PV]
  have hd:Ex.depth ⟨op,n,name,kids⟩=Ex.fS kids+1:=by simp only [Ex.depth]
  rw [hd]
  by_cases h1:1≤k
  ·have ih:=Mx kids (k - 1) (by omega)
   by_cases o1:op=1
   ·subst o1
    have ha:kK 1=0:=rfl
    rw [ha,if_pos rfl]
    constructor
    ·rintro⟨_,h2,h3,h4⟩
     have:kids = []:=List.eq_nil_of_length_eq_zero (by omega)
     subst this;subst h4
     simp [Ex.fS,Ex.nM,h3];omega
    ·rintro⟨h2,h3,_,h4,h5,_⟩
     refine⟨h1,h3.symm,h4, ?_⟩
     cases name
     ·rfl
     ·simp at h5
   ·rw [if_neg o1]
    by_cases o2:op=2
    ·subst o2
     have ha:kK 2=0:=rfl
     rw [ha,if_pos rfl]
     constructor
     ·rintro⟨_,h2,h3,h4⟩
      have:kids = []:=List.eq_nil_of_length_eq_zero (by omega)
      subst this;subst h3
      have:=Mw h4
      simp [Ex.fS,Ex.nM,h4,this];omega
     ·rintro⟨h2,h3,h4,_,h5,h6,_⟩
      refine⟨h1,h3.symm,h4.resolve_left o1, ?_⟩
      exact h6.resolve_left (h5.1 rfl)
    ·rw [if_neg o2,ih]
     constructor
     ·rintro⟨_,h2,h3,h4,h5,h6⟩
      subst h3;subst h4
      exact⟨by omega,h2.symm, .inr rfl,Int.le_refl _,by simp [o2], .inl rfl,h6⟩
     ·rintro⟨h2,h3,h4,_,h5,h6,h7⟩
      refine⟨h1,h3.symm,h4.resolve_left o1, ?_,by omega,h7⟩
      exact Decidable.byContradiction fun h=>o2 (h5.2 h)
  ·constructor
   ·rintro⟨h,_⟩;exact(h1 h).elim
   ·rintro⟨h,_⟩;omega
theorem Mx : ∀ (l:List Ex) (k:Int),0≤k→(Ex.AU k l=true↔(Ex.fS l:Int)≤k∧Ex.nM l=true)
 | [],k,hk=>by simp [Ex.AU,Ex.fS,Ex.nM,hk]
 | x::l,k,hk=>by
  have h1:=Sz x k hk
  have h2:=Mx l k hk
  have hd:Ex.fS (x::l)=max x.depth (Ex.fS l):=by simp only [Ex.fS]
  rw [hd]
  simp only [Ex.AU,Ex.nM]
  cases hx:Ex.dp k x
  ·simp only [Bool.not_false, ↓reduceIte,Bool.false_eq_true,false_iff,not_and]
   intro h3
   have : ¬ ((x.depth:Int)≤k∧x.form=true):=by rw [← h1,hx];simp
   have hf:x.form=false:=by
    cases hf:x.form
    ·rfl
    ·exact(this ⟨by omega,hf⟩).elim
   simp [hf]
  ·have:=h1.1 hx
   simp only [Bool.not_true,Bool.false_eq_true, ↓reduceIte,this.2,h2]
   have h3:=this.1
   refine and_congr_left fun _=> ?_
   omega
end
theorem My (x:Ex):x.dp 20=x.may:=by
 rw [Bool.eq_iff_iff,Sz x 20 (by omega)]
 unfold Ex.may
 simp only [Bool.and_eq_true,decide_eq_true_eq]
 refine and_congr_left fun _=> ?_
 omega
theorem CZ (x:Ex) (b:Bool):sR x b=if b then x.may else x.none:=by
 unfold sR
 rw [My]
 cases b <;> simp
theorem C0 (t:aB) (b:Bool):pz t b=if b then isName t else t == []:=by
 unfold pz
 cases b <;> simp
theorem yW : ∀ l:List Ar,nO l=Ar.eB l
 | []=>rfl
 | a::l=>by
  simp only [nO,Ar.eB,Ar.may,CZ,C0,yW l]
  grind
theorem aiH {α:Type} (l:List α):((l.length:Int)==0) = !(decide ((l.length:Int) > 0)):=by
 cases l with
 | nil=>rfl
 | cons a l=>
  have h1:(((a::l).length:Int)==0)=false:=by simp only [List.length_cons,beq_eq_false_iff_ne];omega
  have h2:decide (((a::l).length:Int) > 0)=true:=by simp only [List.length_cons,decide_eq_true_eq];omega
  rw [h1,h2];rfl
theorem A3 (s:Sm):s.one=(df s.labels && s.fields):=by
 have hk:s.kind=1∨s.kind=2∨s.kind=3∨s.kind=4∨s.kind=5∨s.kind=6∨s.kind=7∨s.kind=8∨s.kind=9∨s.kind=10∨s.kind<1∨s.kind > 10:=by omega
 unfold Sm.one Sm.fields Sm.flags Sm.sO Sm.hasName Sm.nz
 have p1:isName [] = false:=rfl
 rcases hk with h | h | h | h | h | h | h | h | h | h | h | h
 all_goals
  simp only [h,aiH,yW,CZ,C0,Sm.D8,Sm.D7]
  grind
end Go.Abs

/-! Nm1 -/

namespace Go.Abs
set_option maxRecDepth 8000
open Go.Proofs
mutual
def Ex.k7 (out:List aB):Ex→List aB
 | ⟨op,_,name,kids⟩=>Ex.kj (if op==2 && !(eC out name)then out++ [name]else out) kids
def Ex.kj (out:List aB):List Ex→List aB
 | []=>out
 | x::l=>Ex.kj (Ex.k7 out x) l
end
def Ex.names (x:Ex):List aB:=if x.may then x.k7 []else []
mutual
theorem qf (out:List aB) : ∀ x:Ex,(Ex.k7 out x).length≤out.length+x.size
 | ⟨op,n,name,kids⟩=>by
  simp only [Ex.k7,Ex.size]
  have h:=C1 (if op==2 && !(eC out name)then out++ [name]else out) kids
  refine Nat.le_trans h ?_
  split <;> simp <;> omega
theorem C1 (out:List aB) : ∀ l:List Ex,(Ex.kj out l).length≤out.length+Ex.aY l
 | []=>by simp [Ex.kj,Ex.aY]
 | x::l=>by
  simp only [Ex.kj,Ex.aY]
  have h1:=qf out x
  have h2:=C1 (Ex.k7 out x) l
  omega
end
def yq (out:List aB) (x:aB):List aB:=if eC out x then out else out++ [x]
def aaE (x:aB):List aB→Bool
 | []=>false
 | s::l=>if s==x then true else aaE x l
abbrev Mz (N:Nat):Prop:=∀ (x:Ex),x.size≤N→∀ out:List aB,out.length+x.size≤1000000000→∀ {s:St} {t:Nat},s.aC[t]? = some (some out.length)→
 aD Tryz.prog gN [.agg (bp x), .slice (.tok t) 1 (out.map encStr)] s (.slice (.tok t) 1 ((x.k7 out).map encStr)) ⟨s.aw,s.aC.set t (some (x.k7 out).length)⟩
theorem Xf {N:Nat} (ih:Mz N) {op m:Int} {name:aB} {kids:List Ex} (h:Ex.size ⟨op,m,name,kids⟩≤N+1) {out:List aB} (ho:out.length+Ex.size ⟨op,m,name,kids⟩≤1000000000) :
 aD Tryz.prog gN [.agg (bp ⟨op,m,name,kids⟩), .slice (.tok 0) 1 (out.map encStr)] ⟨[],[some out.length]⟩ (.slice (.tok 0) 1 ((Ex.k7 out ⟨op,m,name,kids⟩).map encStr)) ⟨[],[some (Ex.k7 out ⟨op,m,name,kids⟩).length]⟩:=by
 obtain⟨R,hG⟩ : ∃ R,Ex.k7 out ⟨op,m,name,kids⟩=R:=⟨_,rfl⟩
 rw [hG]
 simp only [Ex.k7]at hG
 simp only [Ex.size]at h ho
 have hlen:kids.length<1000000000:=by have:=Ex.dq kids;omega
 have hk : ∀ y∈kids,∀ out:List aB,out.length+y.size≤1000000000→∀ {s:St} {t:Nat},s.aC[t]? = some (some out.length)→
  aD Tryz.prog gN [.agg (bp y), .slice (.tok t) 1 (out.map encStr)] s (.slice (.tok t) 1 ((y.k7 out).map encStr)) ⟨s.aw,s.aC.set t (some (y.k7 out).length)⟩:=fun y hy out ho=>
  ih y (by have:=Ex.b9 hy;omega) out ho
 refine aD.go pw rfl fun B Q hB hQ=> ?_
 have⟨hF,hP,hY,hZ⟩:=bt
 have hY:(out.length+1)*17≤bI:=by unfold bI;omega
 rcases Bool.eq_false_or_eq_true (op==2)with b1 | b1
 ·rcases Bool.eq_false_or_eq_true (eC out name)with b2 | b2
  ·simp only [b1,b2,Bool.not_true,Bool.and_false,Bool.false_eq_true,if_false]at hG
   repeat' (first
 | simp only [go_sem,hF,hP,hY,hZ,b1,b2]
 | (with_reducible refine CU (ie (l:=out) (by omega) name _ _) ?_)
 | (with_reducible refine aH hQ ?_;simp only [az,aA,Option.some.injEq,exists_eq_left',go_sem,hF,hP,hY,hZ];repeat' (first | exact Ok.out | with_reducible refine aE ?_ ?_ | (simp;done))))
   refine cM 1 1 (bm.ind (ι:=List Ex×Nat×List aB×Nat) (fun i=>kids.drop i.2.1=i.1∧Ex.kj i.2.2.1 i.1=R∧i.2.2.1.length+Ex.aY i.1≤1000000000∧i.2.2.2=i.2.2.1.length) (fun i=>i.1.length)
    (fun i=> [(1, .slice (.tok 0) 1 (i.2.2.1.map encStr)),(2, .ptr 0 0),(23, .slice .shared 4 (kids.map bp)),(24, .int .i64 (kids.length:Int)),(25, .int .i64 (i.2.1:Int))]) (fun i=>⟨[bp ⟨op,m,name,kids⟩],[some i.2.2.2]⟩) ?_ (kids,0,out,out.length) ⟨rfl,hG,by simp;omega,by simp⟩)
   rintro⟨rest,k,b6,n'⟩ ⟨h1,h2,h3,h4⟩ IH
   dsimp only at h1 h2 h3 h4
   subst h4
   cases rest with
   | nil=>
    have hF:=drop_nil h1
    simp only [Ex.kj]at h2
    subst h2
    repeat' (first
 | simp only [go_sem,hF,hP,hY,hZ]
 | (with_reducible refine aH hQ ?_;simp only [az,aA,Option.some.injEq,exists_eq_left',go_sem,hF,hP,hY,hZ];repeat' (first | exact Ok.out | with_reducible refine aE ?_ ?_ | (simp;done))))
   | cons y rest=>
    obtain⟨hP,g2,hF,g4⟩:=drop_cons h1
    have cb:k<4611686018427387904:=by omega
    simp only [Ex.kj]at h2
    simp only [Ex.aY]at h3
    have hy:=fun {s:St} {t:Nat} (ht:s.aC[t]? = some (some b6.length))=>hk y (List.mem_of_getElem? hP) b6 (by omega) ht
    have hl:=qf b6 y
    repeat' (first
 | simp only [go_sem,hF,hP,hY,hZ]
 | (with_reducible refine CU (hy (by with_unfolding_all rfl)) ?_)
 | (with_reducible refine aH hQ ?_;simp only [az,aA,Option.some.injEq,exists_eq_left',go_sem,hF,hP,hY,hZ];repeat' (first | exact Ok.out | with_reducible refine aE ?_ ?_ | (simp;done))))
    refine eo 1 1 ?_ ?_ (IH (rest,k+1,_,_) ⟨g2,h2,by dsimp only;omega,rfl⟩ (Nat.lt_succ_self _))
    ·(simp only [go_sem,hF,hP,hY,hZ,aM cb];try exact bU)
    ·(simp only [go_sem,hF,hP,hY,hZ,aM cb];try exact bU)
  ·simp only [b1,b2,Bool.not_false,Bool.and_true,if_true]at hG
   repeat' (first
 | simp only [go_sem,hF,hP,hY,hZ,b1,b2]
 | (with_reducible refine CU (ie (l:=out) (by omega) name _ _) ?_)
 | (with_reducible refine aH hQ ?_;simp only [az,aA,Option.some.injEq,exists_eq_left',go_sem,hF,hP,hY,hZ];repeat' (first | exact Ok.out | with_reducible refine aE ?_ ?_ | (simp;done))))
   refine eo 1 1 ?_ ?_ (bm.ind (ι:=List Ex×Nat×List aB×Nat) (fun i=>kids.drop i.2.1=i.1∧Ex.kj i.2.2.1 i.1=R∧i.2.2.1.length+Ex.aY i.1≤1000000000∧i.2.2.2=i.2.2.1.length) (fun i=>i.1.length)
    (fun i=> [(1, .slice (.tok 0) 1 (i.2.2.1.map encStr)),(2, .ptr 0 0),(23, .slice .shared 4 (kids.map bp)),(24, .int .i64 (kids.length:Int)),(25, .int .i64 (i.2.1:Int))]) (fun i=>⟨[bp ⟨op,m,name,kids⟩],[some i.2.2.2]⟩) ?_ (kids,0,(out++ [name]),(out.length+1)) ⟨rfl,hG,by simp;omega,by simp⟩)
   ·(simp only [go_sem,hF,hP,hY,hZ,List.map_append,List.map_cons,List.map_nil,List.length_append,List.length_cons,List.length_nil,encStr];try exact bU)
   ·(simp only [go_sem,hF,hP,hY,hZ,List.map_append,List.map_cons,List.map_nil,List.length_append,List.length_cons,List.length_nil,encStr];try exact bU)
   rintro⟨rest,k,b6,n'⟩ ⟨h1,h2,h3,h4⟩ IH
   dsimp only at h1 h2 h3 h4
   subst h4
   cases rest with
   | nil=>
    have hF:=drop_nil h1
    simp only [Ex.kj]at h2
    subst h2
    repeat' (first
 | simp only [go_sem,hF,hP,hY,hZ]
 | (with_reducible refine aH hQ ?_;simp only [az,aA,Option.some.injEq,exists_eq_left',go_sem,hF,hP,hY,hZ];repeat' (first | exact Ok.out | with_reducible refine aE ?_ ?_ | (simp;done))))
   | cons y rest=>
    obtain⟨hP,g2,hF,g4⟩:=drop_cons h1
    have cb:k<4611686018427387904:=by omega
    simp only [Ex.kj]at h2
    simp only [Ex.aY]at h3
    have hy:=fun {s:St} {t:Nat} (ht:s.aC[t]? = some (some b6.length))=>hk y (List.mem_of_getElem? hP) b6 (by omega) ht
    have hl:=qf b6 y
    repeat' (first
 | simp only [go_sem,hF,hP,hY,hZ]
 | (with_reducible refine CU (hy (by with_unfolding_all rfl)) ?_)
 | (with_reducible refine aH hQ ?_;simp only [az,aA,Option.some.injEq,exists_eq_left',go_sem,hF,hP,hY,hZ];repeat' (first | exact Ok.out | with_reducible refine aE ?_ ?_ | (simp;done))))
    refine eo 1 1 ?_ ?_ (IH (rest,k+1,_,_) ⟨g2,h2,by dsimp only;omega,rfl⟩ (Nat.lt_succ_self _))
    ·(simp only [go_sem,hF,hP,hY,hZ,aM cb];try exact bU)
    ·(simp only [go_sem,hF,hP,hY,hZ,aM cb];try exact bU)
 ·simp only [b1,Bool.false_and,Bool.false_eq_true,if_false]at hG
  repeat' (first
 | simp only [go_sem,hF,hP,hY,hZ,b1]
 | (with_reducible refine aH hQ ?_;simp only [az,aA,Option.some.injEq,exists_eq_left',go_sem,hF,hP,hY,hZ];repeat' (first | exact Ok.out | with_reducible refine aE ?_ ?_ | (simp;done))))
  refine cM 1 1 (bm.ind (ι:=List Ex×Nat×List aB×Nat) (fun i=>kids.drop i.2.1=i.1∧Ex.kj i.2.2.1 i.1=R∧i.2.2.1.length+Ex.aY i.1≤1000000000∧i.2.2.2=i.2.2.1.length) (fun i=>i.1.length)
   (fun i=> [(1, .slice (.tok 0) 1 (i.2.2.1.map encStr)),(2, .ptr 0 0),(23, .slice .shared 4 (kids.map bp)),(24, .int .i64 (kids.length:Int)),(25, .int .i64 (i.2.1:Int))]) (fun i=>⟨[bp ⟨op,m,name,kids⟩],[some i.2.2.2]⟩) ?_ (kids,0,out,out.length) ⟨rfl,hG,by simp;omega,by simp⟩)
  rintro⟨rest,k,b6,n'⟩ ⟨h1,h2,h3,h4⟩ IH
  dsimp only at h1 h2 h3 h4
  subst h4
  cases rest with
  | nil=>
   have hF:=drop_nil h1
   simp only [Ex.kj]at h2
   subst h2
   repeat' (first
 | simp only [go_sem,hF,hP,hY,hZ]
 | (with_reducible refine aH hQ ?_;simp only [az,aA,Option.some.injEq,exists_eq_left',go_sem,hF,hP,hY,hZ];repeat' (first | exact Ok.out | with_reducible refine aE ?_ ?_ | (simp;done))))
  | cons y rest=>
   obtain⟨hP,g2,hF,g4⟩:=drop_cons h1
   have cb:k<4611686018427387904:=by omega
   simp only [Ex.kj]at h2
   simp only [Ex.aY]at h3
   have hy:=fun {s:St} {t:Nat} (ht:s.aC[t]? = some (some b6.length))=>hk y (List.mem_of_getElem? hP) b6 (by omega) ht
   have hl:=qf b6 y
   repeat' (first
 | simp only [go_sem,hF,hP,hY,hZ]
 | (with_reducible refine CU (hy (by with_unfolding_all rfl)) ?_)
 | (with_reducible refine aH hQ ?_;simp only [az,aA,Option.some.injEq,exists_eq_left',go_sem,hF,hP,hY,hZ];repeat' (first | exact Ok.out | with_reducible refine aE ?_ ?_ | (simp;done))))
   refine eo 1 1 ?_ ?_ (IH (rest,k+1,_,_) ⟨g2,h2,by dsimp only;omega,rfl⟩ (Nat.lt_succ_self _))
   ·(simp only [go_sem,hF,hP,hY,hZ,aM cb];try exact bU)
   ·(simp only [go_sem,hF,hP,hY,hZ,aM cb];try exact bU)
theorem PW : ∀ N,Mz N:=by
 intro N
 induction N with
 | zero=>rintro⟨op,m,name,kids⟩ h;simp only [Ex.size]at h;omega
 | succ N ih=>
  rintro⟨op,m,name,kids⟩ h out ho s t ht
  exact(Xf ih h ho).acE (pre:= [_]) (post:= []) (by simp only [D.bH,D.ok,gw];rfl) rfl (eH out) (eH _) ht
abbrev ajj (N:Nat):Prop:=∀ (x:Ex),x.size≤N→∀ out:List aB,out.length+x.size≤1000000000→∀ {s:St} {t:Nat},s.aC[t]? = some (some out.length)→
 aD Tryz.prog GO [.agg (bp x), .slice (.tok t) 1 (out.map encStr)] s (.slice (.tok t) 1 ((x.k7 out).map encStr)) ⟨s.aw,s.aC.set t (some (x.k7 out).length)⟩
end Go.Abs

/-! Nm2 -/

namespace Go.Abs
set_option maxRecDepth 8000
open Go.Proofs
theorem MA {op m:Int} {name:aB} {kids:List Ex} (h:Ex.form ⟨op,m,name,kids⟩=true) (h2:(op==2)=true):kids = []:=by
 have e:op=2:=by simpa using h2
 subst e
 simp only [Ex.form]at h
 split at h
 ·cases h
 ·rename_i hh
  simp only [Bool.or_eq_true,not_or,bne_iff_ne,ne_eq,Decidable.not_not]at hh
  have:=hh.1.1.1.1
  have e:kK 2=0:=rfl
  rw [e]at this
  exact List.length_eq_zero_iff.1 (by omega)
theorem PX {op m:Int} {name:aB} {kids:List Ex} (hf:(op==2)=true→kids = []) (ho:Ex.size ⟨op,m,name,kids⟩≤1000000000) (s:St) :
 aD Tryz.prog gN [.agg (bp ⟨op,m,name,kids⟩), .slice .full 0 []] s (.slice .shared 1 ((Ex.k7 [] ⟨op,m,name,kids⟩).map encStr)) s:=by
 refine aD.pure ?_ (by simp only [D.bH,D.ok,gw];rfl) (by simp only [D.ok,Tag.ok,eH];rfl) s
 obtain⟨R,hG⟩ : ∃ R,Ex.k7 [] ⟨op,m,name,kids⟩=R:=⟨_,rfl⟩
 rw [hG]
 simp only [Ex.k7]at hG
 simp only [Ex.size]at ho
 have hlen:kids.length<1000000000:=by have:=Ex.dq kids;omega
 have hk : ∀ y∈kids,∀ out:List aB,out.length+y.size≤1000000000→∀ {s:St} {t:Nat},s.aC[t]? = some (some out.length)→
  aD Tryz.prog gN [.agg (bp y), .slice (.tok t) 1 (out.map encStr)] s (.slice (.tok t) 1 ((y.k7 out).map encStr)) ⟨s.aw,s.aC.set t (some (y.k7 out).length)⟩:=fun y hy out ho=>
  PW y.size y (Nat.le_refl _) out ho
 unfold S0
 rcases Bool.eq_false_or_eq_true (op==2)with b1 | b1
 ·have Xg:=hf b1
  subst Xg
  have e:eC [] name=false:=rfl
  simp only [b1,e,Bool.not_false,Bool.and_true,if_true,Ex.kj,List.nil_append]at hG
  subst hG
  refine aD.go pw rfl fun B Q hB hQ=> ?_
  have⟨hF,hP,hY,hZ⟩:=bt
  have hY:17≤bI:=by unfold bI;omega
  repeat' (first
 | simp only [go_sem,hF,hP,hY,hZ,b1,List.map_nil,List.map_cons,List.length_nil,encStr,Int.natCast_zero,Int.lt_irrefl,decide_false]
 | (with_reducible refine CU (Fp name _ _ _) ?_)
 | (with_reducible refine bm.tx ?_)
 | (with_reducible refine aH hQ ?_;simp only [az,aA,Option.some.injEq,exists_eq_left',go_sem,hF,hP,hY,hZ];repeat' (first | exact Ok.out | with_reducible refine aE ?_ ?_ | (simp;done))))
 ·simp only [b1,Bool.false_and,Bool.false_eq_true,if_false]at hG
  refine aD.go pw rfl fun B Q hB hQ=> ?_
  have⟨hF,hP,hY,hZ⟩:=bt
  repeat' (first
 | simp only [go_sem,hF,hP,hY,hZ,b1]
 | (with_reducible refine aH hQ ?_;simp only [az,aA,Option.some.injEq,exists_eq_left',go_sem,hF,hP,hY,hZ];repeat' (first | exact Ok.out | with_reducible refine aE ?_ ?_ | (simp;done))))
  refine bm.oD 1 1 rfl ?_
  simp only [go_sem,hF,hP,hY,hZ]
  refine cM 1 1 (bm.ind (ι:=List Ex×Nat×List aB×Nat) (fun i=>kids.drop i.2.1=i.1∧Ex.kj i.2.2.1 i.1=R∧i.2.2.1.length+Ex.aY i.1≤1000000000∧i.2.2.2=i.2.2.1.length) (fun i=>i.1.length)
   (fun i=> [(1, .slice (.tok 0) 1 (i.2.2.1.map encStr)),(2, .ptr 0 0),(23, .slice .shared 4 (kids.map bp)),(24, .int .i64 (kids.length:Int)),(25, .int .i64 (i.2.1:Int))]) (fun i=>⟨[bp ⟨op,m,name,kids⟩],[some i.2.2.2]⟩) ?_ (kids,0,[],0) ⟨rfl,hG,by simp;omega,by simp⟩)
  rintro⟨rest,k,b6,n'⟩ ⟨h1,h2,h3,h4⟩ IH
  dsimp only at h1 h2 h3 h4
  subst h4
  cases rest with
  | nil=>
   have hF:=drop_nil h1
   simp only [Ex.kj]at h2
   subst h2
   repeat' (first
 | simp only [go_sem,hF,hP,hY,hZ]
 | (with_reducible refine aH hQ ?_;simp only [az,aA,Option.some.injEq,exists_eq_left',go_sem,hF,hP,hY,hZ];repeat' (first | exact Ok.out | with_reducible refine aE ?_ ?_ | (simp;done))))
  | cons y rest=>
   obtain⟨hP,g2,hF,g4⟩:=drop_cons h1
   have cb:k<4611686018427387904:=by omega
   simp only [Ex.kj]at h2
   simp only [Ex.aY]at h3
   have hy:=fun {s:St} {t:Nat} (ht:s.aC[t]? = some (some b6.length))=>hk y (List.mem_of_getElem? hP) b6 (by omega) ht
   have hl:=qf b6 y
   repeat' (first
 | simp only [go_sem,hF,hP,hY,hZ]
 | (with_reducible refine CU (hy (by with_unfolding_all rfl)) ?_)
 | (with_reducible refine aH hQ ?_;simp only [az,aA,Option.some.injEq,exists_eq_left',go_sem,hF,hP,hY,hZ];repeat' (first | exact Ok.out | with_reducible refine aE ?_ ?_ | (simp;done))))
   refine eo 1 1 ?_ ?_ (IH (rest,k+1,_,_) ⟨g2,h2,by dsimp only;omega,rfl⟩ (Nat.lt_succ_self _))
   ·(simp only [go_sem,hF,hP,hY,hZ,aM cb];try exact bU)
   ·(simp only [go_sem,hF,hP,hY,hZ,aM cb];try exact bU)
theorem lJ {x:Ex} (hx:x.size≤1000000000) (ht:x.texts) (s:St):aD Tryz.prog pg [.agg (bp x)] s (.slice .shared 1 (x.names.map encStr)) s:=by
 refine aD.pure ?_ (by simp only [D.bH,D.ok,gw];rfl) (by simp only [D.ok,Tag.ok,eH];rfl) s
 have hm:=fun s=>AV (x:=x) (by omega) ht s
 simp only [My]at hm
 unfold Ex.names
 unfold S0
 cases hb:x.may
 ·simp only [hb]at hm
  simp only [Bool.false_eq_true,if_false,List.map_nil]
  refine aD.go vo rfl fun B Q hB hQ=> ?_
  have⟨hF,hP,hY,hZ⟩:=bt
  repeat' (first
 | simp only [go_sem,hF,hP,hY,hZ]
 | (with_reducible refine CU (hm _) ?_)
 | (with_reducible refine aH hQ ?_;simp only [az,aA,Option.some.injEq,exists_eq_left',go_sem,hF,hP,hY,hZ];repeat' (first | exact Ok.out | with_reducible refine aE ?_ ?_ | (simp;done))))
 ·simp only [hb]at hm
  simp only [if_true]
  have hg : ∀ s,aD Tryz.prog gN [.agg (bp x), .slice .full 0 []] s (.slice .shared 1 ((x.k7 []).map encStr)) s:=by
   intro s
   obtain⟨op,m,name,kids⟩:=x
   exact PX (fun h2=>MA (by simp only [Ex.may,Bool.and_eq_true]at hb;exact hb.2) h2) hx s
  refine aD.go vo rfl fun B Q hB hQ=> ?_
  have⟨hF,hP,hY,hZ⟩:=bt
  repeat' (first
 | simp only [go_sem,hF,hP,hY,hZ]
 | (with_reducible refine CU (hm _) ?_)
 | (with_reducible refine CU (hg _) ?_)
 | (with_reducible refine aH hQ ?_;simp only [az,aA,Option.some.injEq,exists_eq_left',go_sem,hF,hP,hY,hZ];repeat' (first | exact Ok.out | with_reducible refine aE ?_ ?_ | (simp;done))))
end Go.Abs

/-! Nm3 -/

namespace Go.Abs
set_option maxRecDepth 8000
open Go.Proofs
def Ar.said (out:List aB):List Ar→List aB
 | []=>out
 | a::l=>Ar.said ((if a.ref then out++ [a.name]else out)++a.x.names) l
def Sm.rS (v:Sm):List aB:=if v.kind != 10 && v.name != []then [v.name]else []
def Sm.said (v:Sm):List aB:=Ar.said (v.rS++v.x.names) v.args
theorem jN (x:Ex):x.names.length≤x.size:=by
 unfold Ex.names
 split
 ·simpa using qf [] x
 ·exact Nat.zero_le _
def Ar.sN:List Ar→Prop
 | []=>True
 | a::l=>a.x.texts∧Ar.sN l
def Sm.om (v:Sm):Prop:=v.x.texts∧(∀ a∈v.args,a.x.texts)∧v.x.size+Ar.aY v.args<1000000
theorem jr {l nx:List aB} {n:Nat} (hn:n=l.length) (h:l.length+nx.length≤1000000000) {g:Tag} (o:List (List D)) :
 jX 1 16 (.slice (.tok 0) 1 (l.map encStr)) (.slice g 1 (nx.map encStr)) ⟨o,[some n]⟩=some (.slice (.tok 0) 1 ((l++nx).map encStr),⟨o,[some (l++nx).length]⟩):=by
 subst hn
 have:=OI (size:=1) (bytes:=16) (t:=0) (rows:=l.map encStr) (new:=nx.map encStr) (g:=g) (s:=⟨o,[some l.length]⟩) (by simp only [List.length_map];unfold bI;omega) (by simp)
 rw [this]
 simp
theorem xU {v:Sm} (hv:v.om) (s:St):aD Tryz.prog pd [.agg (bc v)] s (.slice .shared 1 (v.said.map encStr)) s:=by
 refine aD.pure ?_ (by simp only [D.bH,D.ok,mE];rfl) (by simp only [D.ok,Tag.ok,eH];rfl) s
 obtain⟨ht1,MB,er⟩:=hv
 obtain⟨R,hG⟩ : ∃ R,v.said=R:=⟨_,rfl⟩
 rw [hG]
 simp only [Sm.said]at hG
 have hlen:v.args.length<1000000000:=by have:=Ar.dq v.args;omega
 have hx:=fun s=>lJ (x:=v.x) (by omega) ht1 s
 have Hv:=jN v.x
 unfold S0
 refine aD.go B0 rfl fun B Q hB hQ=> ?_
 have⟨hF,hP,hY,hZ⟩:=bt
 have hY:17≤bI:=by unfold bI;omega
 by_cases hb:(v.kind != 10 && v.name != [])=true
 ·simp only [Sm.rS,hb,if_true]at hG
  rw [Bool.and_eq_true]at hb
  obtain⟨b1,b2⟩:=hb
  have fQ:=jr (l:= [v.name]) (nx:=v.x.names) (n:=1) rfl (by simp;omega) (g:= .shared)
  simp only [List.map_append,List.map_cons,List.map_nil,encStr]at fQ
  have b3:(v.name == [])=false:=by simpa using b2
  repeat' (first
 | simp only [go_sem,hF,hP,hY,hZ,b1,b2,b3,fQ]
 | (with_reducible refine CU (hx _) ?_)
 | (with_reducible refine aH hQ ?_;simp only [az,aA,Option.some.injEq,exists_eq_left',go_sem,hF,hP,hY,hZ];repeat' (first | exact Ok.out | with_reducible refine aE ?_ ?_ | (simp;done))))
  refine eo 1 1 ?_ ?_ (bm.ind (ι:=List Ar×Nat×List aB×Nat) (fun i=>v.args.drop i.2.1=i.1∧Ar.said i.2.2.1 i.1=R∧i.2.2.1.length+Ar.aY i.1≤2000000∧i.2.2.2=i.2.2.1.length) (fun i=>i.1.length)
   (fun i=> [(3, .slice (.tok 0) 1 (i.2.2.1.map encStr)),(1, .ptr 0 0),(25, .slice .shared 6 (v.args.map dO)),(26, .int .i64 (v.args.length:Int)),(27, .int .i64 (i.2.1:Int))]) (fun i=>⟨[bc v],[some i.2.2.2]⟩) ?_ (v.args,0,([v.name]++v.x.names),(v.x.names.length+1)) ⟨rfl,hG,by simp at Hv ⊢;omega,by simp⟩)
  ·(simp only [go_sem,hF,hP,hY,hZ,List.map_append,List.map_cons,List.map_nil,encStr];try exact bU)
  ·(simp only [go_sem,hF,hP,hY,hZ,List.map_append,List.map_cons,List.map_nil,encStr];try exact bU)
  rintro⟨rest,k,out,n'⟩ ⟨h1,h2,h3,h4⟩ IH
  dsimp only at h1 h2 h3 h4
  subst h4
  cases rest with
  | nil=>
   have hF:=drop_nil h1
   simp only [Ar.said]at h2
   subst h2
   repeat' (first
 | simp only [go_sem,hF,hP,hY,hZ]
 | (with_reducible refine aH hQ ?_;simp only [az,aA,Option.some.injEq,exists_eq_left',go_sem,hF,hP,hY,hZ];repeat' (first | exact Ok.out | with_reducible refine aE ?_ ?_ | (simp;done))))
  | cons a rest=>
   obtain⟨hP,g2,hF,g4⟩:=drop_cons h1
   have cb:k<4611686018427387904:=by omega
   simp only [Ar.said]at h2
   simp only [Ar.aY]at h3
   have tO:=fun s=>lJ (x:=a.x) (by have:=Ar.b9 (List.mem_of_getElem? hP);omega) (MB a (List.mem_of_getElem? hP)) s
   have hl:=jN a.x
   have hY:(out.length+1)*17≤bI:=by unfold bI;omega
   rcases Bool.eq_false_or_eq_true a.ref with b1 | b1
   ·simp only [b1,if_true]at h2
    have fQ:=jr (l:=out++ [a.name]) (nx:=a.x.names) (n:=out.length+1) (by simp) (by simp;omega) (g:= .shared)
    simp only [List.map_append,List.map_cons,List.map_nil,encStr]at fQ
    repeat' (first
 | simp only [go_sem,hF,hP,hY,hZ,b1,fQ]
 | (with_reducible refine CU (tO _) ?_)
 | (with_reducible refine aH hQ ?_;simp only [az,aA,Option.some.injEq,exists_eq_left',go_sem,hF,hP,hY,hZ];repeat' (first | exact Ok.out | with_reducible refine aE ?_ ?_ | (simp;done))))
    refine eo 1 1 ?_ ?_ (IH (rest,k+1,out++ [a.name]++a.x.names,_) ⟨g2,h2,by simp;omega,by simp <;> omega⟩ (Nat.lt_succ_self _))
    ·(simp only [go_sem,hF,hP,hY,hZ,aM cb,List.map_append,List.map_cons,List.map_nil,encStr];try exact bU)
    ·(simp only [go_sem,hF,hP,hY,hZ,aM cb,List.map_append,List.map_cons,List.map_nil,encStr];try exact bU)
   ·simp only [b1,Bool.false_eq_true,if_false]at h2
    have fQ:=jr (l:=out) (nx:=a.x.names) rfl (by omega) (g:= .shared)
    repeat' (first
 | simp only [go_sem,hF,hP,hY,hZ,b1,fQ]
 | (with_reducible refine CU (tO _) ?_)
 | (with_reducible refine aH hQ ?_;simp only [az,aA,Option.some.injEq,exists_eq_left',go_sem,hF,hP,hY,hZ];repeat' (first | exact Ok.out | with_reducible refine aE ?_ ?_ | (simp;done))))
    refine eo 1 1 ?_ ?_ (IH (rest,k+1,out++a.x.names,_) ⟨g2,h2,by simp;omega,by simp <;> omega⟩ (Nat.lt_succ_self _))
    ·(simp only [go_sem,hF,hP,hY,hZ,aM cb];try exact bU)
    ·(simp only [go_sem,hF,hP,hY,hZ,aM cb];try exact bU)
 ·simp only [Sm.rS,hb,Bool.false_eq_true,if_false,List.nil_append]at hG
  have tr:(v.kind != 10 && v.name != [])=false:=by simpa using hb
  obtain⟨nx,hnx⟩ : ∃ nx,nx=v.x.names:=⟨_,rfl⟩
  rw [← hnx]at hG Hv
  simp only [← hnx]at hx
  by_cases Eu:nx = []
  ·subst Eu
   simp only [List.map_nil]at hx
   have fQ : ∀ o:List (List D),jX 1 16 (.slice .full 0 []) (.slice .shared 1 []) ⟨o,[]⟩=some (.slice .full 0 [],⟨o,[]⟩):=fun o=>by simp [jX,bI]
   have HB:(v.kind != 10)=false∨(v.kind != 10)=true∧(v.name != [])=false:=by
    cases h1:(v.kind != 10)
    ·exact .inl rfl
    ·rw [h1]at tr;exact .inr ⟨rfl,by simpa using tr⟩
   rcases HB with b1 | ⟨b1,b2⟩
   ·rcases Bool.eq_false_or_eq_true (v.name != [])with b2 | b2
    all_goals
     have b3:(v.name == []) = !(v.name != []):=by simp only [bne,Bool.not_not]
     rw [b2]at b3
     repeat' (first
 | simp only [go_sem,hF,hP,hY,hZ,b1,b2,b3,Bool.not_true,Bool.not_false,fQ]
 | (with_reducible refine CU (hx _) ?_)
 | (with_reducible refine aH hQ ?_;simp only [az,aA,Option.some.injEq,exists_eq_left',go_sem,hF,hP,hY,hZ];repeat' (first | exact Ok.out | with_reducible refine aE ?_ ?_ | (simp;done))))
    all_goals
     refine bm.oD 3 1 rfl ?_
     simp only [go_sem,hF,hP,hY,hZ]
     refine cM 1 1 (bm.ind (ι:=List Ar×Nat×List aB×Nat) (fun i=>v.args.drop i.2.1=i.1∧Ar.said i.2.2.1 i.1=R∧i.2.2.1.length+Ar.aY i.1≤2000000∧i.2.2.2=i.2.2.1.length) (fun i=>i.1.length)
      (fun i=> [(3, .slice (.tok 0) 1 (i.2.2.1.map encStr)),(1, .ptr 0 0),(25, .slice .shared 6 (v.args.map dO)),(26, .int .i64 (v.args.length:Int)),(27, .int .i64 (i.2.1:Int))]) (fun i=>⟨[bc v],[some i.2.2.2]⟩) ?_ (v.args,0,[],0) ⟨rfl,hG,by simp at Hv ⊢;omega,by simp⟩)
     rintro⟨rest,k,out,n'⟩ ⟨h1,h2,h3,h4⟩ IH
     dsimp only at h1 h2 h3 h4
     subst h4
     cases rest with
     | nil=>
      have hF:=drop_nil h1
      simp only [Ar.said]at h2
      subst h2
      repeat' (first
 | simp only [go_sem,hF,hP,hY,hZ]
 | (with_reducible refine aH hQ ?_;simp only [az,aA,Option.some.injEq,exists_eq_left',go_sem,hF,hP,hY,hZ];repeat' (first | exact Ok.out | with_reducible refine aE ?_ ?_ | (simp;done))))
     | cons a rest=>
      obtain⟨hP,g2,hF,g4⟩:=drop_cons h1
      have cb:k<4611686018427387904:=by omega
      simp only [Ar.said]at h2
      simp only [Ar.aY]at h3
      have tO:=fun s=>lJ (x:=a.x) (by have:=Ar.b9 (List.mem_of_getElem? hP);omega) (MB a (List.mem_of_getElem? hP)) s
      have hl:=jN a.x
      have hY:(out.length+1)*17≤bI:=by unfold bI;omega
      rcases Bool.eq_false_or_eq_true a.ref with b1 | b1
      ·simp only [b1,if_true]at h2
       have fQ:=jr (l:=out++ [a.name]) (nx:=a.x.names) (n:=out.length+1) (by simp) (by simp;omega) (g:= .shared)
       simp only [List.map_append,List.map_cons,List.map_nil,encStr]at fQ
       repeat' (first
 | simp only [go_sem,hF,hP,hY,hZ,b1,fQ]
 | (with_reducible refine CU (tO _) ?_)
 | (with_reducible refine aH hQ ?_;simp only [az,aA,Option.some.injEq,exists_eq_left',go_sem,hF,hP,hY,hZ];repeat' (first | exact Ok.out | with_reducible refine aE ?_ ?_ | (simp;done))))
       refine eo 1 1 ?_ ?_ (IH (rest,k+1,out++ [a.name]++a.x.names,_) ⟨g2,h2,by simp;omega,by simp <;> omega⟩ (Nat.lt_succ_self _))
       ·(simp only [go_sem,hF,hP,hY,hZ,aM cb,List.map_append,List.map_cons,List.map_nil,encStr];try exact bU)
       ·(simp only [go_sem,hF,hP,hY,hZ,aM cb,List.map_append,List.map_cons,List.map_nil,encStr];try exact bU)
      ·simp only [b1,Bool.false_eq_true,if_false]at h2
       have fQ:=jr (l:=out) (nx:=a.x.names) rfl (by omega) (g:= .shared)
       repeat' (first
 | simp only [go_sem,hF,hP,hY,hZ,b1,fQ]
 | (with_reducible refine CU (tO _) ?_)
 | (with_reducible refine aH hQ ?_;simp only [az,aA,Option.some.injEq,exists_eq_left',go_sem,hF,hP,hY,hZ];repeat' (first | exact Ok.out | with_reducible refine aE ?_ ?_ | (simp;done))))
       refine eo 1 1 ?_ ?_ (IH (rest,k+1,out++a.x.names,_) ⟨g2,h2,by simp;omega,by simp <;> omega⟩ (Nat.lt_succ_self _))
       ·(simp only [go_sem,hF,hP,hY,hZ,aM cb];try exact bU)
       ·(simp only [go_sem,hF,hP,hY,hZ,aM cb];try exact bU)
   ·have b3:(v.name == [])=true:=by simpa using b2
    repeat' (first
 | simp only [go_sem,hF,hP,hY,hZ,b1,b2,b3,fQ]
 | (with_reducible refine CU (hx _) ?_)
 | (with_reducible refine aH hQ ?_;simp only [az,aA,Option.some.injEq,exists_eq_left',go_sem,hF,hP,hY,hZ];repeat' (first | exact Ok.out | with_reducible refine aE ?_ ?_ | (simp;done))))
    refine bm.oD 3 1 rfl ?_
    simp only [go_sem,hF,hP,hY,hZ]
    refine cM 1 1 (bm.ind (ι:=List Ar×Nat×List aB×Nat) (fun i=>v.args.drop i.2.1=i.1∧Ar.said i.2.2.1 i.1=R∧i.2.2.1.length+Ar.aY i.1≤2000000∧i.2.2.2=i.2.2.1.length) (fun i=>i.1.length)
     (fun i=> [(3, .slice (.tok 0) 1 (i.2.2.1.map encStr)),(1, .ptr 0 0),(25, .slice .shared 6 (v.args.map dO)),(26, .int .i64 (v.args.length:Int)),(27, .int .i64 (i.2.1:Int))]) (fun i=>⟨[bc v],[some i.2.2.2]⟩) ?_ (v.args,0,[],0) ⟨rfl,hG,by simp at Hv ⊢;omega,by simp⟩)
    rintro⟨rest,k,out,n'⟩ ⟨h1,h2,h3,h4⟩ IH
    dsimp only at h1 h2 h3 h4
    subst h4
    cases rest with
    | nil=>
     have hF:=drop_nil h1
     simp only [Ar.said]at h2
     subst h2
     repeat' (first
 | simp only [go_sem,hF,hP,hY,hZ]
 | (with_reducible refine aH hQ ?_;simp only [az,aA,Option.some.injEq,exists_eq_left',go_sem,hF,hP,hY,hZ];repeat' (first | exact Ok.out | with_reducible refine aE ?_ ?_ | (simp;done))))
    | cons a rest=>
     obtain⟨hP,g2,hF,g4⟩:=drop_cons h1
     have cb:k<4611686018427387904:=by omega
     simp only [Ar.said]at h2
     simp only [Ar.aY]at h3
     have tO:=fun s=>lJ (x:=a.x) (by have:=Ar.b9 (List.mem_of_getElem? hP);omega) (MB a (List.mem_of_getElem? hP)) s
     have hl:=jN a.x
     have hY:(out.length+1)*17≤bI:=by unfold bI;omega
     rcases Bool.eq_false_or_eq_true a.ref with b1 | b1
     ·simp only [b1,if_true]at h2
      have fQ:=jr (l:=out++ [a.name]) (nx:=a.x.names) (n:=out.length+1) (by simp) (by simp;omega) (g:= .shared)
      simp only [List.map_append,List.map_cons,List.map_nil,encStr]at fQ
      repeat' (first
 | simp only [go_sem,hF,hP,hY,hZ,b1,fQ]
 | (with_reducible refine CU (tO _) ?_)
 | (with_reducible refine aH hQ ?_;simp only [az,aA,Option.some.injEq,exists_eq_left',go_sem,hF,hP,hY,hZ];repeat' (first | exact Ok.out | with_reducible refine aE ?_ ?_ | (simp;done))))
      refine eo 1 1 ?_ ?_ (IH (rest,k+1,out++ [a.name]++a.x.names,_) ⟨g2,h2,by simp;omega,by simp <;> omega⟩ (Nat.lt_succ_self _))
      ·(simp only [go_sem,hF,hP,hY,hZ,aM cb,List.map_append,List.map_cons,List.map_nil,encStr];try exact bU)
      ·(simp only [go_sem,hF,hP,hY,hZ,aM cb,List.map_append,List.map_cons,List.map_nil,encStr];try exact bU)
     ·simp only [b1,Bool.false_eq_true,if_false]at h2
      have fQ:=jr (l:=out) (nx:=a.x.names) rfl (by omega) (g:= .shared)
      repeat' (first
 | simp only [go_sem,hF,hP,hY,hZ,b1,fQ]
 | (with_reducible refine CU (tO _) ?_)
 | (with_reducible refine aH hQ ?_;simp only [az,aA,Option.some.injEq,exists_eq_left',go_sem,hF,hP,hY,hZ];repeat' (first | exact Ok.out | with_reducible refine aE ?_ ?_ | (simp;done))))
      refine eo 1 1 ?_ ?_ (IH (rest,k+1,out++a.x.names,_) ⟨g2,h2,by simp;omega,by simp <;> omega⟩ (Nat.lt_succ_self _))
      ·(simp only [go_sem,hF,hP,hY,hZ,aM cb];try exact bU)
      ·(simp only [go_sem,hF,hP,hY,hZ,aM cb];try exact bU)
  ·have fQ : ∀ o:List (List D),jX 1 16 (.slice .full 0 []) (.slice .shared 1 (nx.map encStr)) ⟨o,[]⟩=some (.slice (.tok 0) 1 (nx.map encStr),⟨o,[some nx.length]⟩):=fun o=>by
    have:nx.length*17≤bI:=by unfold bI;omega
    cases nx with
    | nil=>exact absurd rfl Eu
    | cons a r=>simp only [List.length_cons]at this;simp [jX,this]
   have HB:(v.kind != 10)=false∨(v.kind != 10)=true∧(v.name != [])=false:=by
    cases h1:(v.kind != 10)
    ·exact .inl rfl
    ·rw [h1]at tr;exact .inr ⟨rfl,by simpa using tr⟩
   rcases HB with b1 | ⟨b1,b2⟩
   ·rcases Bool.eq_false_or_eq_true (v.name != [])with b2 | b2
    all_goals
     have b3:(v.name == []) = !(v.name != []):=by simp only [bne,Bool.not_not]
     rw [b2]at b3
     repeat' (first
 | simp only [go_sem,hF,hP,hY,hZ,b1,b2,b3,Bool.not_true,Bool.not_false,fQ]
 | (with_reducible refine CU (hx _) ?_)
 | (with_reducible refine aH hQ ?_;simp only [az,aA,Option.some.injEq,exists_eq_left',go_sem,hF,hP,hY,hZ];repeat' (first | exact Ok.out | with_reducible refine aE ?_ ?_ | (simp;done))))
    all_goals
     refine cM 1 1 (bm.ind (ι:=List Ar×Nat×List aB×Nat) (fun i=>v.args.drop i.2.1=i.1∧Ar.said i.2.2.1 i.1=R∧i.2.2.1.length+Ar.aY i.1≤2000000∧i.2.2.2=i.2.2.1.length) (fun i=>i.1.length)
      (fun i=> [(3, .slice (.tok 0) 1 (i.2.2.1.map encStr)),(1, .ptr 0 0),(25, .slice .shared 6 (v.args.map dO)),(26, .int .i64 (v.args.length:Int)),(27, .int .i64 (i.2.1:Int))]) (fun i=>⟨[bc v],[some i.2.2.2]⟩) ?_ (v.args,0,nx,_) ⟨rfl,hG,by simp at Hv ⊢;omega,by simp⟩)
     rintro⟨rest,k,out,n'⟩ ⟨h1,h2,h3,h4⟩ IH
     dsimp only at h1 h2 h3 h4
     subst h4
     cases rest with
     | nil=>
      have hF:=drop_nil h1
      simp only [Ar.said]at h2
      subst h2
      repeat' (first
 | simp only [go_sem,hF,hP,hY,hZ]
 | (with_reducible refine aH hQ ?_;simp only [az,aA,Option.some.injEq,exists_eq_left',go_sem,hF,hP,hY,hZ];repeat' (first | exact Ok.out | with_reducible refine aE ?_ ?_ | (simp;done))))
     | cons a rest=>
      obtain⟨hP,g2,hF,g4⟩:=drop_cons h1
      have cb:k<4611686018427387904:=by omega
      simp only [Ar.said]at h2
      simp only [Ar.aY]at h3
      have tO:=fun s=>lJ (x:=a.x) (by have:=Ar.b9 (List.mem_of_getElem? hP);omega) (MB a (List.mem_of_getElem? hP)) s
      have hl:=jN a.x
      have hY:(out.length+1)*17≤bI:=by unfold bI;omega
      rcases Bool.eq_false_or_eq_true a.ref with b1 | b1
      ·simp only [b1,if_true]at h2
       have fQ:=jr (l:=out++ [a.name]) (nx:=a.x.names) (n:=out.length+1) (by simp) (by simp;omega) (g:= .shared)
       simp only [List.map_append,List.map_cons,List.map_nil,encStr]at fQ
       repeat' (first
 | simp only [go_sem,hF,hP,hY,hZ,b1,fQ]
 | (with_reducible refine CU (tO _) ?_)
 | (with_reducible refine aH hQ ?_;simp only [az,aA,Option.some.injEq,exists_eq_left',go_sem,hF,hP,hY,hZ];repeat' (first | exact Ok.out | with_reducible refine aE ?_ ?_ | (simp;done))))
       refine eo 1 1 ?_ ?_ (IH (rest,k+1,out++ [a.name]++a.x.names,_) ⟨g2,h2,by simp;omega,by simp <;> omega⟩ (Nat.lt_succ_self _))
       ·(simp only [go_sem,hF,hP,hY,hZ,aM cb,List.map_append,List.map_cons,List.map_nil,encStr];try exact bU)
       ·(simp only [go_sem,hF,hP,hY,hZ,aM cb,List.map_append,List.map_cons,List.map_nil,encStr];try exact bU)
      ·simp only [b1,Bool.false_eq_true,if_false]at h2
       have fQ:=jr (l:=out) (nx:=a.x.names) rfl (by omega) (g:= .shared)
       repeat' (first
 | simp only [go_sem,hF,hP,hY,hZ,b1,fQ]
 | (with_reducible refine CU (tO _) ?_)
 | (with_reducible refine aH hQ ?_;simp only [az,aA,Option.some.injEq,exists_eq_left',go_sem,hF,hP,hY,hZ];repeat' (first | exact Ok.out | with_reducible refine aE ?_ ?_ | (simp;done))))
       refine eo 1 1 ?_ ?_ (IH (rest,k+1,out++a.x.names,_) ⟨g2,h2,by simp;omega,by simp <;> omega⟩ (Nat.lt_succ_self _))
       ·(simp only [go_sem,hF,hP,hY,hZ,aM cb];try exact bU)
       ·(simp only [go_sem,hF,hP,hY,hZ,aM cb];try exact bU)
   ·have b3:(v.name == [])=true:=by simpa using b2
    repeat' (first
 | simp only [go_sem,hF,hP,hY,hZ,b1,b2,b3,fQ]
 | (with_reducible refine CU (hx _) ?_)
 | (with_reducible refine aH hQ ?_;simp only [az,aA,Option.some.injEq,exists_eq_left',go_sem,hF,hP,hY,hZ];repeat' (first | exact Ok.out | with_reducible refine aE ?_ ?_ | (simp;done))))
    refine cM 1 1 (bm.ind (ι:=List Ar×Nat×List aB×Nat) (fun i=>v.args.drop i.2.1=i.1∧Ar.said i.2.2.1 i.1=R∧i.2.2.1.length+Ar.aY i.1≤2000000∧i.2.2.2=i.2.2.1.length) (fun i=>i.1.length)
     (fun i=> [(3, .slice (.tok 0) 1 (i.2.2.1.map encStr)),(1, .ptr 0 0),(25, .slice .shared 6 (v.args.map dO)),(26, .int .i64 (v.args.length:Int)),(27, .int .i64 (i.2.1:Int))]) (fun i=>⟨[bc v],[some i.2.2.2]⟩) ?_ (v.args,0,nx,_) ⟨rfl,hG,by simp at Hv ⊢;omega,by simp⟩)
    rintro⟨rest,k,out,n'⟩ ⟨h1,h2,h3,h4⟩ IH
    dsimp only at h1 h2 h3 h4
    subst h4
    cases rest with
    | nil=>
     have hF:=drop_nil h1
     simp only [Ar.said]at h2
     subst h2
     repeat' (first
 | simp only [go_sem,hF,hP,hY,hZ]
 | (with_reducible refine aH hQ ?_;simp only [az,aA,Option.some.injEq,exists_eq_left',go_sem,hF,hP,hY,hZ];repeat' (first | exact Ok.out | with_reducible refine aE ?_ ?_ | (simp;done))))
    | cons a rest=>
     obtain⟨hP,g2,hF,g4⟩:=drop_cons h1
     have cb:k<4611686018427387904:=by omega
     simp only [Ar.said]at h2
     simp only [Ar.aY]at h3
     have tO:=fun s=>lJ (x:=a.x) (by have:=Ar.b9 (List.mem_of_getElem? hP);omega) (MB a (List.mem_of_getElem? hP)) s
     have hl:=jN a.x
     have hY:(out.length+1)*17≤bI:=by unfold bI;omega
     rcases Bool.eq_false_or_eq_true a.ref with b1 | b1
     ·simp only [b1,if_true]at h2
      have fQ:=jr (l:=out++ [a.name]) (nx:=a.x.names) (n:=out.length+1) (by simp) (by simp;omega) (g:= .shared)
      simp only [List.map_append,List.map_cons,List.map_nil,encStr]at fQ
      repeat' (first
 | simp only [go_sem,hF,hP,hY,hZ,b1,fQ]
 | (with_reducible refine CU (tO _) ?_)
 | (with_reducible refine aH hQ ?_;simp only [az,aA,Option.some.injEq,exists_eq_left',go_sem,hF,hP,hY,hZ];repeat' (first | exact Ok.out | with_reducible refine aE ?_ ?_ | (simp;done))))
      refine eo 1 1 ?_ ?_ (IH (rest,k+1,out++ [a.name]++a.x.names,_) ⟨g2,h2,by simp;omega,by simp <;> omega⟩ (Nat.lt_succ_self _))
      ·(simp only [go_sem,hF,hP,hY,hZ,aM cb,List.map_append,List.map_cons,List.map_nil,encStr];try exact bU)
      ·(simp only [go_sem,hF,hP,hY,hZ,aM cb,List.map_append,List.map_cons,List.map_nil,encStr];try exact bU)
     ·simp only [b1,Bool.false_eq_true,if_false]at h2
      have fQ:=jr (l:=out) (nx:=a.x.names) rfl (by omega) (g:= .shared)
      repeat' (first
 | simp only [go_sem,hF,hP,hY,hZ,b1,fQ]
 | (with_reducible refine CU (tO _) ?_)
 | (with_reducible refine aH hQ ?_;simp only [az,aA,Option.some.injEq,exists_eq_left',go_sem,hF,hP,hY,hZ];repeat' (first | exact Ok.out | with_reducible refine aE ?_ ?_ | (simp;done))))
      refine eo 1 1 ?_ ?_ (IH (rest,k+1,out++a.x.names,_) ⟨g2,h2,by simp;omega,by simp <;> omega⟩ (Nat.lt_succ_self _))
      ·(simp only [go_sem,hF,hP,hY,hZ,aM cb];try exact bU)
      ·(simp only [go_sem,hF,hP,hY,hZ,aM cb];try exact bU)
end Go.Abs
