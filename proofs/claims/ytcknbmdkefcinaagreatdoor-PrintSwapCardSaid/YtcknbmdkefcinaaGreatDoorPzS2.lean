/-
  What is proved here: part 2 of the road to the claim (Codes1, Have1, Codes2, Have2, Codes3, Have3, Prs, Lex1, Lex2, RefLex1, Prs2, Ref1, Ref2, Ref3, RefMay1, Full1, Full2, MirEq, RefEq, RefEq2, Prs3, Prs4, Prs5).
  No conditions.
-/
import Derived.Test.YtcknbmdkefcinaaGreatDoorPzS1
import Derived.Test.YtcknbmdkefcinaaGreatDoorProg
import Derived.KernelRfl

set_option linter.unusedSimpArgs false
set_option linter.unusedVariables false

/-! Codes1 -/

namespace Go.Abs

abbrev QO1 : AC := .seq (.run [.o 2 (.mv (.k (.bool false)))]) (.seq (.run [.m 3 z0_, .o 4 (.bin .geq z3_ (.k (.int .u8 48))), .m 5 z4_, .g 6 5 true (.mv z0_), .g 7 5 true (.bin .leq z6_ (.k (.int .u8 57))), .o 8 (.pick z5_ z7_ (.k (.bool false))), .m 2 z8_]) .ret)
abbrev QOC : AC := .seq (.run [.o 20 (.bin .eql z14_ (.k (.str [38, 38]))), .m 15 z20_]) (.cond z15_ .skip (.run [.o 21 (.bin .eql z14_ (.k (.str [124, 124]))), .m 15 z21_]))
abbrev QOF : AC := .cond z15_ .skip (.seq (.run [.o 19 (.bin .eql z14_ (.k (.str [62, 61]))), .m 15 z19_]) (.cond z15_ .skip QOC))
abbrev QOH : AC := .cond z15_ .skip (.seq (.run [.o 18 (.bin .eql z14_ (.k (.str [60, 61]))), .m 15 z18_]) QOF)
abbrev QOJ : AC := .cond z15_ .skip (.seq (.run [.o 17 (.bin .eql z14_ (.k (.str [33, 61]))), .m 15 z17_]) QOH)
abbrev QON : AC := .cond z15_ (.seq (.run [.o 4 (.mv (.k (.int .i64 2)))]) .ret) .skip
abbrev QOO : AC := .seq (.seq (.run [.o 16 (.bin .eql z14_ (.k (.str [61, 61]))), .m 15 z16_]) QOJ) QON
abbrev QOR : AC := .cond z9_ (.seq (.run [.m 10 z0_, .m 11 z1_, .m 12 z1_, .o 13 (.bin .add z12_ (.k (.int .i64 2))), .o 14 (.sslc z10_ (some z11_) (some z13_))]) (.block 0 QOO)) .skip
abbrev QPB : AC := .seq (.run [.o 40 (.bin .eql z24_ (.k (.int .u8 47))), .m 25 z40_]) (.cond z25_ .skip (.run [.o 41 (.bin .eql z24_ (.k (.int .u8 37))), .m 25 z41_]))
abbrev QPE : AC := .cond z25_ .skip (.seq (.run [.o 39 (.bin .eql z24_ (.k (.int .u8 42))), .m 25 z39_]) (.cond z25_ .skip QPB))
abbrev QPG : AC := .cond z25_ .skip (.seq (.run [.o 38 (.bin .eql z24_ (.k (.int .u8 45))), .m 25 z38_]) QPE)
abbrev QPI : AC := .cond z25_ .skip (.seq (.run [.o 37 (.bin .eql z24_ (.k (.int .u8 43))), .m 25 z37_]) QPG)
abbrev QPK : AC := .cond z25_ .skip (.seq (.run [.o 36 (.bin .eql z24_ (.k (.int .u8 62))), .m 25 z36_]) QPI)
abbrev QPM : AC := .cond z25_ .skip (.seq (.run [.o 35 (.bin .eql z24_ (.k (.int .u8 60))), .m 25 z35_]) QPK)
abbrev QPO : AC := .cond z25_ .skip (.seq (.run [.o 34 (.bin .eql z24_ (.k (.int .u8 33))), .m 25 z34_]) QPM)
abbrev QPQ : AC := .cond z25_ .skip (.seq (.run [.o 33 (.bin .eql z24_ (.k (.int .u8 61))), .m 25 z33_]) QPO)
abbrev QPS : AC := .cond z25_ .skip (.seq (.run [.o 32 (.bin .eql z24_ (.k (.int .u8 58))), .m 25 z32_]) QPQ)
abbrev QPU : AC := .cond z25_ .skip (.seq (.run [.o 31 (.bin .eql z24_ (.k (.int .u8 59))), .m 25 z31_]) QPS)
abbrev QPW : AC := .cond z25_ .skip (.seq (.run [.o 30 (.bin .eql z24_ (.k (.int .u8 44))), .m 25 z30_]) QPU)
abbrev QPY : AC := .cond z25_ .skip (.seq (.run [.o 29 (.bin .eql z24_ (.k (.int .u8 125))), .m 25 z29_]) QPW)
abbrev QQ0 : AC := .cond z25_ .skip (.seq (.run [.o 28 (.bin .eql z24_ (.k (.int .u8 123))), .m 25 z28_]) QPY)
abbrev QQ2 : AC := .cond z25_ .skip (.seq (.run [.o 27 (.bin .eql z24_ (.k (.int .u8 41))), .m 25 z27_]) QQ0)
abbrev QQ6 : AC := .cond z25_ (.seq (.run [.o 4 (.mv (.k (.int .i64 1)))]) .ret) .skip
abbrev QQ7 : AC := .seq (.seq (.run [.o 26 (.bin .eql z24_ (.k (.int .u8 40))), .m 25 z26_]) QQ2) QQ6
abbrev QQC : AC := .seq (.seq (.run [.m 22 z0_, .m 23 z1_, .o 24 (.sidx z22_ z23_)]) (.block 1 QQ7)) (.seq (.run [.o 4 (.mv (.k (.int .i64 0)))]) .ret)
abbrev QQD : AC := .seq (.seq (.run [.m 5 z1_, .o 6 (.bin .add z5_ (.k (.int .i64 1))), .m 7 z0_, .o 8 (.slen z7_), .o 9 (.bin .lss z6_ z8_)]) QOR) QQC
abbrev QQE : AC := .seq (.run [.o 4 (.mv (.k (.int .i64 0)))]) QQD
abbrev QQL : AC := .seq (.seq (.run [.m 5 z1_, .m 6 z0_, .o 7 (.slen z6_), .o 8 (.bin .lss z5_ z7_), .m 9 z8_, .g 10 9 true (.mv z0_), .g 11 9 true (.mv z1_), .g 12 9 true (.sidx z10_ z11_), .d 13 9 true n_lex_letter [z12_], .g 14 9 true (.mv z13_), .g 15 14 false (.mv z0_), .g 16 14 false (.mv z1_), .g 17 14 false (.sidx z15_ z16_), .d 18 14 false n_lex_digit [z17_], .g 19 9 true (.pick z14_ (.k (.bool true)) z18_), .o 20 (.pick z9_ z19_ (.k (.bool false)))]) (.cond z20_ .skip (.exit 0))) (.block 1 (.run [.m 21 z1_, .o 22 (.bin .add z21_ (.k (.int .i64 1))), .m 1 z22_]))
abbrev QQR : AC := .seq (.run [.o 4 (.mv (.k (.int .i64 0)))]) (.seq (.block 0 (.loop QQL)) (.seq (.run [.m 23 z1_, .m 4 z23_]) .ret))
abbrev QR8 : AC := .seq (.run [.o 16 (.bin .eql z3_ (.k (.str [114, 101, 97, 100]))), .m 4 z16_]) (.cond z4_ .skip (.run [.o 17 (.bin .eql z3_ (.k (.str [112, 114, 105, 110, 116]))), .m 4 z17_]))
abbrev QRB : AC := .cond z4_ .skip (.seq (.run [.o 15 (.bin .eql z3_ (.k (.str [103, 111, 116, 111]))), .m 4 z15_]) (.cond z4_ .skip QR8))
abbrev QRD : AC := .cond z4_ .skip (.seq (.run [.o 14 (.bin .eql z3_ (.k (.str [114, 101, 116, 117, 114, 110]))), .m 4 z14_]) QRB)
abbrev QRF : AC := .cond z4_ .skip (.seq (.run [.o 13 (.bin .eql z3_ (.k (.str [99, 111, 110, 116, 105, 110, 117, 101]))), .m 4 z13_]) QRD)
abbrev QRH : AC := .cond z4_ .skip (.seq (.run [.o 12 (.bin .eql z3_ (.k (.str [98, 114, 101, 97, 107]))), .m 4 z12_]) QRF)
abbrev QRJ : AC := .cond z4_ .skip (.seq (.run [.o 11 (.bin .eql z3_ (.k (.str [119, 104, 105, 108, 101]))), .m 4 z11_]) QRH)
abbrev QRL : AC := .cond z4_ .skip (.seq (.run [.o 10 (.bin .eql z3_ (.k (.str [101, 108, 115, 101]))), .m 4 z10_]) QRJ)
abbrev QRN : AC := .cond z4_ .skip (.seq (.run [.o 9 (.bin .eql z3_ (.k (.str [105, 102]))), .m 4 z9_]) QRL)
abbrev QRP : AC := .cond z4_ .skip (.seq (.run [.o 8 (.bin .eql z3_ (.k (.str [114, 101, 102]))), .m 4 z8_]) QRN)
abbrev QRR : AC := .cond z4_ .skip (.seq (.run [.o 7 (.bin .eql z3_ (.k (.str [118, 97, 114]))), .m 4 z7_]) QRP)
abbrev QRT : AC := .cond z4_ .skip (.seq (.run [.o 6 (.bin .eql z3_ (.k (.str [112, 114, 111, 99]))), .m 4 z6_]) QRR)
abbrev QRX : AC := .cond z4_ (.seq (.run [.o 2 (.mv (.k (.bool true)))]) .ret) .skip
abbrev QRY : AC := .seq (.seq (.run [.o 5 (.bin .eql z3_ (.k (.str [103, 108, 111, 98, 97, 108]))), .m 4 z5_]) QRT) QRX
abbrev QS3 : AC := .seq (.seq (.run [.m 3 z0_]) (.block 0 QRY)) (.seq (.run [.o 2 (.mv (.k (.bool false)))]) .ret)
abbrev QS4 : AC := .seq (.run [.o 2 (.mv (.k (.bool false)))]) QS3
abbrev QSF : AC := .cond z22_ (.seq (.run [.o 2 (.mv (.k (.int .i64 0))), .o 3 (.mv (.k (.bool false)))]) .ret) .skip
abbrev QSI : AC := .seq (.seq (.run [.m 18 z4_, .m 19 z6_, .o 20 (.bin .sub (.k (.int .i64 9223372036854775807)) z19_), .o 21 (.bin .quo z20_ (.k (.int .i64 10))), .o 22 (.bin .gtr z18_ z21_)]) QSF) (.run [.m 23 z4_, .o 24 (.bin .mul z23_ (.k (.int .i64 10))), .m 25 z6_, .o 26 (.bin .add z24_ z25_), .m 4 z26_])
abbrev QSK : AC := .block 1 (.seq (.run [.m 13 z0_, .m 14 z5_, .o 15 (.sidx z13_ z14_), .o 16 (.bin .sub z15_ (.k (.int .u8 48))), .o 17 (.conv .i64 z16_), .m 6 z17_]) QSI)
abbrev QSN : AC := .seq (.seq (.run [.m 7 z5_, .m 8 z0_, .o 9 (.slen z8_), .o 10 (.bin .lss z7_ z9_)]) (.cond z10_ .skip (.exit 0))) (.seq QSK (.run [.m 11 z5_, .o 12 (.bin .add z11_ (.k (.int .i64 1))), .m 5 z12_]))
abbrev QST : AC := .seq (.seq (.run [.o 5 (.mv (.k (.int .i64 0)))]) (.block 0 (.loop QSN))) (.seq (.run [.m 27 z4_, .m 2 z27_, .o 3 (.mv (.k (.bool true)))]) .ret)
abbrev QSV : AC := .seq (.run [.o 2 (.mv (.k (.int .i64 0))), .o 3 (.mv (.k (.bool false)))]) (.seq (.run [.o 4 (.mv (.k (.int .i64 0)))]) QST)
abbrev QSZ : AC := .seq (.run [.o 1 (.box z0_), .o 2 (.mv (.k (.slice .full 0 [])))]) (.seq (.run [.o 3 (.faddr z1_ 3), .o 4 (.load z3_ false 1), (.c 5 n_ref3_flat [z4_, (.k (.int .i64 1)), (.k (.int .i64 0)), (.k (.bool false)), (.k (.slice .full 0 []))]), .m 2 z5_]) .ret)
abbrev QT1 : AC := .par [.o 6 (.faddr z1_ 2), .o 7 (.load z6_ false 1), .o 8 (.len z7_), .o 9 (.bin .mul (.k (.int .i64 2)) z8_), .o 10 (.bin .add (.k (.int .i64 8)) z9_), .o 11 (.faddr z1_ 5), .o 12 (.load z11_ true 4), .c 13 n_ref3_Size [z12_, (.k (.int .i64 2000))], .o 14 (.bin .mul (.k (.int .i64 4)) z13_), .o 15 (.bin .add z10_ z14_), .m 3 z15_] [(5, 0), (6, 0), (7, 0), (0, 0), (1, 1), (2, 0), (3, 0), (4, 0), (8, 0), (9, 0), (10, 0)]
abbrev QT8 : AC := .block 1 (.seq (.run [.o 21 (.iaddr z17_ z19_ 6), .o 22 (.load z21_ true 6), .o 5 (.alloc [(.bool false), (.str []), (.int .i64 0), (.int .i64 0), (.str []), (.slice .full 0 [])]), .op none none (.store z5_ z22_ 6)]) (.run [.m 23 z3_, .o 24 (.faddr z5_ 2), .o 25 (.load z24_ true 4), .c 26 n_ref3_Size [z25_, (.k (.int .i64 2000))], .o 27 (.bin .mul (.k (.int .i64 4)) z26_), .o 28 (.bin .add (.k (.int .i64 3)) z27_), .o 29 (.bin .add z23_ z28_), .m 3 z29_]))
abbrev QTB : AC := .seq (.cond z20_ .skip (.exit 0)) (.seq QT8 (.run [.o 30 (.bin .add z19_ (.k (.int .i64 1))), .m 19 z30_]))
abbrev QTF : AC := .seq (.run [.o 16 (.faddr z1_ 10), .o 17 (.load z16_ false 1), .o 18 (.len z17_), .o 19 (.mv (.k (.int .i64 0)))]) (.block 0 (.loop (.seq (.run [.o 20 (.bin .lss z19_ z18_)]) QTB)))
abbrev QTK : AC := .seq (.run [.o 1 (.box z0_), .o 2 (.mv (.k (.int .i64 0)))]) (.seq QT1 (.seq QTF (.seq (.run [.m 31 z3_, .m 2 z31_]) .ret)))
abbrev QTS : AC := .seq (.seq (.run [.m 4 z0_, (.c 5 n_parse_reader_take [z4_, (.k (.str [103, 108, 111, 98, 97, 108]))])]) (.cond z5_ .skip (.exit 0))) (.block 1 (.run [.m 6 z0_, .o 7 (.faddr z3_ 0), .o 8 (.load z7_ false 1), .c 9 n_parse_reader_names [z6_, z8_, (.k (.int .i64 16))], .o 10 (.faddr z3_ 0), .op none none (.store z10_ z9_ 1)]))
abbrev QU4 : AC := .seq (.run [.o 17 (.faddr z3_ 1), .o 18 (.load z17_ false 1), .o 19 (.len z18_), .o 20 (.bin .eql z19_ (.k (.int .i64 16)))]) (.cond z20_ (.seq (.run [.m 21 z0_, .c 22 n_parse_reader_bad [z21_, (.k (.int .i64 4))]]) (.seq (.run [.o 23 (.load z3_ true 2), .op none none (.store z2_ z23_ 2)]) .ret)) .skip)
abbrev QU6 : AC := .par [.o 31 (.faddr z3_ 1), .o 32 (.load z31_ false 1), .m 33 z0_, .c 34 n_parse_reader_proc [z33_], .o 35 (.bslice [(.str []), (.slice .full 0 []), (.slice .full 0 []), (.slice .full 0 []), (.slice .full 0 [])] 5 1 [(0, z34_)]), .o 36 (.app 5 112 z32_ z35_), .o 37 (.faddr z3_ 1), .op none none (.store z37_ z36_ 1)] [(2, 0), (3, 0), (0, 0), (1, 1), (4, 0), (5, 0), (6, 0), (7, 0)]
abbrev QU8 : AC := .seq QU4 (.seq (.run [.m 24 z0_, .o 25 (.nilck z24_), .o 26 (.faddr z25_ 1), .o 27 (.load z26_ false 1), .o 28 (.bin .add z27_ (.k (.int .i64 1))), .o 29 (.nilck z24_), .o 30 (.faddr z29_ 1), .op none none (.store z30_ z28_ 1)]) QU6)
abbrev QUA : AC := .seq (.seq (.run [.m 11 z0_, .c 12 n_parse_reader_good [z11_], .m 13 z12_, .g 14 13 true (.mv z0_), (.d 15 13 true n_parse_reader_is [z14_, (.k (.str [112, 114, 111, 99]))]), .o 16 (.pick z13_ z15_ (.k (.bool false)))]) (.cond z16_ .skip (.exit 2))) (.block 3 QU8)
abbrev QUJ : AC := .seq (.seq (.run [.m 38 z0_, .c 39 n_parse_reader_good [z38_], .m 40 z39_, .g 41 40 true (.mv z0_), .d 42 40 true n_parse_reader_peek [z41_], .g 43 40 true (.fld z42_ 0 false 1), .g 44 40 true (.bin .neq z43_ (.k (.int .i64 0))), .o 45 (.pick z40_ z44_ (.k (.bool false)))]) (.cond z45_ (.run [.m 46 z0_, .c 47 n_parse_reader_bad [z46_, (.k (.int .i64 3))]]) .skip)) (.seq (.run [.o 48 (.load z3_ true 2), .op none none (.store z2_ z48_ 2)]) .ret)
abbrev QUN : AC := .seq (.run [.o 2 (.alloc [(.slice .full 0 []), (.slice .full 0 [])])]) (.seq (.run [.o 3 (.alloc [(.slice .full 0 []), (.slice .full 0 [])])]) (.seq (.block 0 (.loop QTS)) (.seq (.block 2 (.loop QUA)) QUJ)))
abbrev QUV : AC := .par [.o 19 (.faddr z6_ 0), .o 20 (.load z19_ false 1), .o 21 (.faddr z6_ 1), .o 22 (.load z21_ false 1), .c 23 n_slices_Clone_api_Param [z22_], .o 24 (.faddr z6_ 2), .o 25 (.load z24_ false 1), .c 26 n_slices_Clone_string [z25_], .o 27 (.faddr z6_ 4), .o 28 (.load z27_ false 1), .c 29 n_slices_Clone_string [z28_], .o 30 (.build [(.str []), (.slice .full 0 []), (.slice .full 0 []), (.slice .full 0 []), (.slice .full 0 [])] [(0, (1, z20_)), (1, (1, z23_)), (2, (1, z26_)), (4, (1, z29_))]), .o 7 (.alloc [(.str []), (.slice .full 0 []), (.slice .full 0 []), (.slice .full 0 []), (.slice .full 0 [])]), .op none none (.store z7_ z30_ 5)] [(2, 0), (3, 0), (4, 0), (5, 0), (6, 1), (7, 0), (8, 0), (9, 2), (10, 0), (12, 0), (0, 0), (1, 4), (11, 0), (13, 0)]
abbrev QV0 : AC := .seq (.run [.o 17 (.iaddr z13_ z15_ 5), .o 18 (.load z17_ true 5), .o 6 (.alloc [(.str []), (.slice .full 0 []), (.slice .full 0 []), (.slice .full 0 []), (.slice .full 0 [])]), .op none none (.store z6_ z18_ 5)]) (.seq QUV (.seq (.run [.o 32 (.faddr z6_ 3), .o 33 (.load z32_ false 1), .m 34 z3_, .c 35 n_tree_copied [z33_, z34_, (.k (.bool true))], .m 31 z35_, .o 36 (.ext z31_ 0), .o 37 (.ext z31_ 1), .o 38 (.faddr z7_ 3), .op none none (.store z38_ z36_ 1), .m 3 z37_]) (.run [.o 39 (.faddr z4_ 1), .o 40 (.load z39_ false 1), .o 41 (.load z7_ true 5), .o 42 (.bslice [(.str []), (.slice .full 0 []), (.slice .full 0 []), (.slice .full 0 []), (.slice .full 0 [])] 5 1 [(0, z41_)]), .o 43 (.app 5 112 z40_ z42_), .o 44 (.faddr z4_ 1), .op none none (.store z44_ z43_ 1)])))
abbrev QV4 : AC := .seq (.cond z16_ .skip (.exit 0)) (.seq (.block 1 QV0) (.run [.o 45 (.bin .add z15_ (.k (.int .i64 1))), .m 15 z45_]))
abbrev QV8 : AC := .seq (.run [.o 12 (.faddr z1_ 1), .o 13 (.load z12_ false 1), .o 14 (.len z13_), .o 15 (.mv (.k (.int .i64 0)))]) (.block 0 (.loop (.seq (.run [.o 16 (.bin .lss z15_ z14_)]) QV4)))
abbrev QVD : AC := .seq (.run [.o 3 (.mv (.k (.int .i64 0)))]) (.seq (.run [.o 8 (.faddr z1_ 0), .o 9 (.load z8_ false 1), .c 10 n_slices_Clone_string [z9_], .o 11 (.build [(.slice .full 0 []), (.slice .full 0 [])] [(0, (1, z10_))]), .o 4 (.alloc [(.slice .full 0 []), (.slice .full 0 [])]), .op none none (.store z4_ z11_ 2)]) (.seq QV8 (.seq (.run [.o 46 (.load z4_ true 2), .op none none (.store z2_ z46_ 2)]) .ret)))
abbrev QVE : AC := .seq (.run [.o 1 (.box z0_), .o 2 (.alloc [(.slice .full 0 []), (.slice .full 0 [])])]) QVD
abbrev QVJ : AC := .cond z10_ (.seq (.run [.o 4 (.mv (.k (.bool false)))]) .ret) .skip
abbrev QVP : AC := .par [.m 16 z0_, .m 17 z5_, .o 18 (.iaddr z16_ z17_ 1), .o 19 (.load z18_ false 1), .m 20 z1_, .m 21 z5_, .o 22 (.iaddr z20_ z21_ 1), .o 23 (.load z22_ false 1), .o 24 (.bin .neq z19_ z23_)] [(0, 0), (1, 0), (2, 0), (3, 0), (4, 0), (5, 0), (6, 0), (7, 0), (8, 0)]
abbrev QVS : AC := .cond z24_ (.seq (.run [.o 4 (.mv (.k (.bool false)))]) .ret) .skip
abbrev QVY : AC := .seq (.cond z14_ .skip (.exit 0)) (.seq (.block 1 (.seq (.run [.m 15 z13_, .m 5 z15_]) (.seq QVP QVS))) (.run [.o 25 (.bin .add z13_ (.k (.int .i64 1))), .m 13 z25_]))
abbrev QW2 : AC := .seq (.run [.m 11 z0_, .o 12 (.len z11_), .o 13 (.mv (.k (.int .i64 0)))]) (.block 0 (.loop (.seq (.run [.o 14 (.bin .lss z13_ z12_)]) QVY)))
abbrev QW5 : AC := .seq QW2 (.seq (.run [.o 4 (.mv (.k (.bool true)))]) .ret)
abbrev QW7 : AC := .seq (.run [.o 4 (.mv (.k (.bool false)))]) (.seq (.seq (.run [.m 6 z0_, .o 7 (.len z6_), .m 8 z1_, .o 9 (.len z8_), .o 10 (.bin .neq z7_ z9_)]) QVJ) QW5)
abbrev QWC : AC := .cond z10_ (.seq (.run [.o 4 (.mv (.k (.bool false)))]) .ret) .skip
abbrev QWI : AC := .par [.m 16 z0_, .m 17 z5_, .o 18 (.iaddr z16_ z17_ 13), .o 19 (.load z18_ true 13), .m 20 z1_, .m 21 z5_, .o 22 (.iaddr z20_ z21_ 13), .o 23 (.load z22_ true 13), .c 24 n_ref3_eqOne [z19_, z23_], .o 25 (.un .not z24_)] [(0, 0), (1, 0), (2, 0), (3, 0), (4, 0), (5, 0), (6, 0), (7, 0), (8, 0), (9, 0)]
abbrev QWL : AC := .cond z25_ (.seq (.run [.o 4 (.mv (.k (.bool false)))]) .ret) .skip
abbrev QWR : AC := .seq (.cond z14_ .skip (.exit 0)) (.seq (.block 1 (.seq (.run [.m 15 z13_, .m 5 z15_]) (.seq QWI QWL))) (.run [.o 26 (.bin .add z13_ (.k (.int .i64 1))), .m 13 z26_]))
abbrev QWV : AC := .seq (.run [.m 11 z0_, .o 12 (.len z11_), .o 13 (.mv (.k (.int .i64 0)))]) (.block 0 (.loop (.seq (.run [.o 14 (.bin .lss z13_ z12_)]) QWR)))
abbrev QWY : AC := .seq QWV (.seq (.run [.o 4 (.mv (.k (.bool true)))]) .ret)
abbrev QX0 : AC := .seq (.run [.o 4 (.mv (.k (.bool false)))]) (.seq (.seq (.run [.m 6 z0_, .o 7 (.len z6_), .m 8 z1_, .o 9 (.len z8_), .o 10 (.bin .neq z7_ z9_)]) QWC) QWY)
abbrev QXB : AC := .seq (.block 1 (.seq (.run [.o 14 (.iaddr z10_ z12_ 1), .o 15 (.load z14_ false 1), .m 9 z15_]) (.run [.m 16 z7_, .m 17 z9_, .m 18 z1_, .m 19 z2_, .c 20 n_ref3_other [z17_, z18_, z19_], .o 21 (.bslice [(.str [])] 1 1 [(0, z20_)]), .o 22 (.app 1 16 z16_ z21_), .m 7 z22_]))) (.run [.o 23 (.bin .add z12_ (.k (.int .i64 1))), .m 12 z23_])
abbrev QXF : AC := .block 0 (.loop (.seq (.run [.o 13 (.bin .lss z12_ z11_)]) (.seq (.cond z13_ .skip (.exit 0)) QXB)))
abbrev QXJ : AC := .seq (.seq (.run [.m 10 z0_, .o 11 (.len z10_), .o 12 (.mv (.k (.int .i64 0)))]) QXF) (.seq (.run [.m 24 z7_, .m 6 z24_]) .ret)
abbrev QXL : AC := .seq (.run [.o 6 (.mv (.k (.slice .full 0 [])))]) (.seq (.run [.o 7 (.mv (.k (.slice .full 0 [])))]) QXJ)
abbrev QXX : AC := .seq (.run [.m 9 z1_, .o 10 (.bin .eql z7_ z9_), .m 8 z10_]) (.cond z8_ (.seq (.run [.m 11 z2_, .m 6 z11_]) .ret) (.seq (.run [.m 13 z2_, .o 14 (.bin .eql z7_ z13_), .m 12 z14_]) (.cond z12_ (.seq (.run [.m 15 z1_, .m 6 z15_]) .ret) .skip)))
abbrev QY3 : AC := .seq (.run [.o 6 (.mv (.k (.str [])))]) (.seq (.seq (.run [.m 7 z0_]) (.block 0 QXX)) (.seq (.run [.m 16 z0_, .m 6 z16_]) .ret))
abbrev QYA : AC := .par [.o 19 (.faddr z9_ 0), .o 20 (.load z19_ false 1), .o 21 (.faddr z9_ 1), .o 22 (.load z21_ false 1), .o 23 (.faddr z9_ 2), .o 24 (.load z23_ false 1), .m 25 z1_, .m 26 z2_, .c 27 n_ref3_SwapTexts [z24_, z25_, z26_], .o 28 (.faddr z9_ 3), .o 29 (.load z28_ false 1), .m 30 z1_, .m 31 z2_, .c 32 n_ref3_other [z29_, z30_, z31_], .o 33 (.faddr z9_ 4), .o 34 (.load z33_ false 1), .m 35 z1_, .m 36 z2_, .c 37 n_ref3_other [z34_, z35_, z36_], .o 38 (.faddr z9_ 5), .o 39 (.load z38_ true 4), .m 40 z1_, .m 41 z2_, .c 42 n_ref3_SwapExpr [z39_, z40_, z41_], .o 43 (.faddr z9_ 9), .o 44 (.load z43_ false 1), .o 45 (.build [(.int .i64 0), (.int .i64 0), (.slice .full 0 []), (.str []), (.str []), (.int .i64 0), (.int .i64 0), (.str []), (.slice .full 0 []), (.bool false), (.slice .full 0 []), (.slice .full 0 []), (.slice .full 0 [])] [(0, (1, z20_)), (1, (1, z22_)), (2, (1, z27_)), (3, (1, z32_)), (4, (1, z37_)), (5, (4, z42_)), (9, (1, z44_))]), .o 10 (.alloc [(.int .i64 0), (.int .i64 0), (.slice .full 0 []), (.str []), (.str []), (.int .i64 0), (.int .i64 0), (.str []), (.slice .full 0 []), (.bool false), (.slice .full 0 []), (.slice .full 0 []), (.slice .full 0 [])]), .op none none (.store z10_ z45_ 13)] [(4, 0), (5, 0), (6, 0), (7, 0), (8, 0), (9, 0), (10, 1), (11, 0), (12, 0), (13, 0), (14, 0), (15, 2), (16, 0), (17, 0), (18, 0), (19, 0), (20, 3), (21, 0), (22, 0), (23, 0), (27, 0), (0, 0), (1, 5), (2, 0), (3, 5), (24, 0), (25, 5), (26, 0), (28, 0)]
abbrev QYF : AC := .par [.o 53 (.faddr z10_ 10), .o 54 (.load z53_ false 1), .o 55 (.faddr z12_ 0), .o 56 (.load z55_ false 1), .o 57 (.faddr z12_ 1), .o 58 (.load z57_ false 1), .m 59 z1_, .m 60 z2_, .c 61 n_ref3_other [z58_, z59_, z60_], .o 62 (.faddr z12_ 2), .o 63 (.load z62_ true 4), .m 64 z1_, .m 65 z2_, .c 66 n_ref3_SwapExpr [z63_, z64_, z65_], .o 67 (.build [(.bool false), (.str []), (.int .i64 0), (.int .i64 0), (.str []), (.slice .full 0 [])] [(0, (1, z56_)), (1, (1, z61_)), (2, (4, z66_))]), .o 68 (.bslice [(.bool false), (.str []), (.int .i64 0), (.int .i64 0), (.str []), (.slice .full 0 [])] 6 1 [(0, z67_)]), .o 69 (.app 6 80 z54_ z68_), .o 70 (.faddr z10_ 10), .op none none (.store z70_ z69_ 1)] [(4, 0), (5, 0), (6, 0), (7, 0), (8, 0), (9, 0), (10, 1), (11, 0), (12, 0), (13, 0), (0, 0), (1, 2), (2, 0), (3, 2), (14, 0), (15, 0), (16, 0), (17, 0), (18, 0)]
abbrev QYJ : AC := .seq (.block 3 (.seq (.run [.o 51 (.iaddr z47_ z49_ 6), .o 52 (.load z51_ true 6), .o 12 (.alloc [(.bool false), (.str []), (.int .i64 0), (.int .i64 0), (.str []), (.slice .full 0 [])]), .op none none (.store z12_ z52_ 6)]) QYF)) (.run [.o 71 (.bin .add z49_ (.k (.int .i64 1))), .m 49 z71_])
abbrev QYN : AC := .block 2 (.loop (.seq (.run [.o 50 (.bin .lss z49_ z48_)]) (.seq (.cond z50_ .skip (.exit 2)) QYJ)))
abbrev QYP : AC := .par [.o 72 (.faddr z9_ 11), .o 73 (.load z72_ false 1), .m 74 z1_, .m 75 z2_, .c 76 n_ref3_SwapStmts [z73_, z74_, z75_], .o 77 (.faddr z9_ 12), .o 78 (.load z77_ false 1), .m 79 z1_, .m 80 z2_, .c 81 n_ref3_SwapStmts [z78_, z79_, z80_], .o 82 (.faddr z10_ 11), .op none none (.store z82_ z76_ 1), .o 83 (.faddr z10_ 12), .op none none (.store z83_ z81_ 1)] [(0, 0), (1, 0), (2, 0), (3, 0), (4, 0), (5, 0), (6, 1), (7, 0), (8, 0), (9, 0), (10, 0), (11, 0), (12, 0), (13, 0)]
abbrev QYS : AC := .seq (.seq (.run [.o 46 (.faddr z9_ 10), .o 47 (.load z46_ false 1), .o 48 (.len z47_), .o 49 (.mv (.k (.int .i64 0)))]) QYN) (.seq QYP (.run [.m 84 z7_, .o 85 (.load z10_ true 13), .o 86 (.bslice [(.int .i64 0), (.int .i64 0), (.slice .full 0 []), (.str []), (.str []), (.int .i64 0), (.int .i64 0), (.str []), (.slice .full 0 []), (.bool false), (.slice .full 0 []), (.slice .full 0 []), (.slice .full 0 [])] 13 1 [(0, z85_)]), .o 87 (.app 13 208 z84_ z86_), .m 7 z87_]))
abbrev QYX : AC := .seq (.block 1 (.seq (.run [.o 17 (.iaddr z13_ z15_ 13), .o 18 (.load z17_ true 13), .o 9 (.alloc [(.int .i64 0), (.int .i64 0), (.slice .full 0 []), (.str []), (.str []), (.int .i64 0), (.int .i64 0), (.str []), (.slice .full 0 []), (.bool false), (.slice .full 0 []), (.slice .full 0 []), (.slice .full 0 [])]), .op none none (.store z9_ z18_ 13)]) (.seq QYA QYS))) (.run [.o 88 (.bin .add z15_ (.k (.int .i64 1))), .m 15 z88_])
abbrev QZ1 : AC := .block 0 (.loop (.seq (.run [.o 16 (.bin .lss z15_ z14_)]) (.seq (.cond z16_ .skip (.exit 0)) QYX)))
abbrev QZ5 : AC := .seq (.seq (.run [.m 13 z0_, .o 14 (.len z13_), .o 15 (.mv (.k (.int .i64 0)))]) QZ1) (.seq (.run [.m 89 z7_, .m 6 z89_]) .ret)
abbrev QZ7 : AC := .seq (.run [.o 6 (.mv (.k (.slice .full 0 [])))]) (.seq (.run [.o 7 (.mv (.k (.slice .full 0 [])))]) QZ5)
abbrev QZA : AC := .seq (.run [.m 3 z0_, (.o 4 (.build [(.int .i64 0), (.int .i64 0), (.str []), (.slice .full 0 [])] [(0, (1, (.k (.int .i64 1)))), (1, (1, z3_))])), .op none none (.store z2_ z4_ 4)]) .ret
abbrev QZB : AC := .seq (.run [.o 2 (.alloc [(.int .i64 0), (.int .i64 0), (.str []), (.slice .full 0 [])])]) QZA
abbrev QZE : AC := .seq (.run [.m 3 z0_, (.o 4 (.build [(.int .i64 0), (.int .i64 0), (.str []), (.slice .full 0 [])] [(0, (1, (.k (.int .i64 2)))), (2, (1, z3_))])), .op none none (.store z2_ z4_ 4)]) .ret
abbrev QZF : AC := .seq (.run [.o 2 (.alloc [(.int .i64 0), (.int .i64 0), (.str []), (.slice .full 0 [])])]) QZE
abbrev QZJ : AC := .seq (.run [.o 4 (.box z1_), .o 5 (.box z2_), .o 6 (.alloc [(.int .i64 0), (.int .i64 0), (.str []), (.slice .full 0 [])])]) (.seq (.run [.m 7 z0_, .o 8 (.load z4_ true 4), .o 9 (.load z5_ true 4), .o 10 (.bslice [(.int .i64 0), (.int .i64 0), (.str []), (.slice .full 0 [])] 4 2 [(0, z8_), (1, z9_)]), .o 11 (.build [(.int .i64 0), (.int .i64 0), (.str []), (.slice .full 0 [])] [(0, (1, z7_)), (3, (1, z10_))]), .op none none (.store z6_ z11_ 4)]) .ret)
abbrev QZN : AC := .seq (.run [.o 1 (.box z0_), .o 2 (.mv (.k (.bool false)))]) (.seq (.run [.o 3 (.load z1_ true 4), .c 4 n_tree_deep [z3_, (.k (.int .i64 20))], .m 2 z4_]) .ret)
abbrev Q102 : AC := .cond z27_ (.seq (.run [.o 29 (.faddr z2_ 3), .o 30 (.load z29_ false 1), .o 31 (.iaddr z30_ (.k (.int .i64 0)) 4), .o 32 (.load z31_ true 4), .c 33 n_print_expr [z32_, (.k (.int .i64 7))], .o 34 (.bin .add (.k (.str [33])) z33_), .m 4 z34_]) .ret) .skip
abbrev Q104 : AC := .cond z19_ (.seq (.run [.o 21 (.faddr z2_ 3), .o 22 (.load z21_ false 1), .o 23 (.iaddr z22_ (.k (.int .i64 0)) 4), .o 24 (.load z23_ true 4), .c 25 n_print_expr [z24_, (.k (.int .i64 7))], .o 26 (.bin .add (.k (.str [45])) z25_), .m 4 z26_]) .ret) (.seq (.run [.o 28 (.bin .eql z9_ (.k (.int .i64 4))), .m 27 z28_]) Q102)
abbrev Q106 : AC := .cond z15_ (.seq (.run [.o 17 (.faddr z2_ 2), .o 18 (.load z17_ false 1), .m 4 z18_]) .ret) (.seq (.run [.o 20 (.bin .eql z9_ (.k (.int .i64 3))), .m 19 z20_]) Q104)
abbrev Q108 : AC := .cond z10_ (.seq (.run [.o 12 (.faddr z2_ 1), .o 13 (.load z12_ false 1), .c 14 n_strconv_FormatInt [z13_, (.k (.int .i64 10))], .m 4 z14_]) .ret) (.seq (.run [.o 16 (.bin .eql z9_ (.k (.int .i64 2))), .m 15 z16_]) Q106)
abbrev Q10A : AC := .block 0 (.seq (.run [.o 11 (.bin .eql z9_ (.k (.int .i64 1))), .m 10 z11_]) Q108)
abbrev Q10D : AC := .par [.o 41 (.faddr z2_ 3), .o 42 (.load z41_ false 1), .o 43 (.iaddr z42_ (.k (.int .i64 0)) 4), .o 44 (.load z43_ true 4), .m 45 z6_, .c 46 n_print_expr [z44_, z45_], .o 47 (.bin .add z46_ (.k (.str [32]))), .m 48 z5_, .o 49 (.bin .add z47_ z48_), .o 50 (.bin .add z49_ (.k (.str [32]))), .o 51 (.faddr z2_ 3), .o 52 (.load z51_ false 1), .o 53 (.iaddr z52_ (.k (.int .i64 1)) 4), .o 54 (.load z53_ true 4), .m 55 z6_, .o 56 (.bin .add z55_ (.k (.int .i64 1))), .c 57 n_print_expr [z54_, z56_], .o 58 (.bin .add z50_ z57_), .m 7 z58_] [(0, 0), (1, 0), (2, 0), (3, 0), (4, 0), (5, 0), (10, 0), (11, 1), (12, 0), (13, 1), (14, 0), (15, 0), (16, 0), (6, 0), (7, 0), (8, 0), (9, 0), (17, 0), (18, 0)]
abbrev Q10H : AC := .cond z61_ (.seq (.run [.m 62 z7_, .o 63 (.bin .add (.k (.str [40])) z62_), .o 64 (.bin .add z63_ (.k (.str [41]))), .m 4 z64_]) .ret) .skip
abbrev Q10N : AC := .seq (.run [.o 36 (.faddr z2_ 0), .o 37 (.load z36_ false 1), .c 38 n_print_sign [z37_], .m 35 z38_, .o 39 (.ext z35_ 0), .o 40 (.ext z35_ 1), .m 5 z39_, .m 6 z40_]) (.seq Q10D (.seq (.seq (.run [.m 59 z6_, .m 60 z1_, .o 61 (.bin .lss z59_ z60_)]) Q10H) (.seq (.run [.m 65 z7_, .m 4 z65_]) .ret)))
abbrev Q10P : AC := .seq (.run [.o 2 (.box z0_), .o 4 (.mv (.k (.str [])))]) (.seq (.seq (.run [.o 8 (.faddr z2_ 0), .o 9 (.load z8_ false 1)]) Q10A) Q10N)
abbrev Q110 : AC := .seq (.seq (.run [.m 10 z5_, .o 11 (.faddr z2_ 3), .o 12 (.load z11_ false 1), .o 13 (.len z12_), .o 14 (.bin .lss z10_ z13_), .m 15 z14_, .g 16 15 true (.mv z1_), .g 17 15 true (.bin .leq z16_ (.k (.int .i64 20000))), .o 18 (.pick z15_ z17_ (.k (.bool false)))]) (.cond z18_ .skip (.exit 0))) (.seq (.block 1 (.run [.o 21 (.faddr z2_ 3), .o 22 (.load z21_ false 1), .m 23 z5_, .o 24 (.iaddr z22_ z23_ 4), .o 25 (.load z24_ true 4), .m 26 z1_, .c 27 n_ref3_weighExpr [z25_, z26_], .m 1 z27_])) (.run [.m 19 z5_, .o 20 (.bin .add z19_ (.k (.int .i64 1))), .m 5 z20_]))
abbrev Q116 : AC := .seq (.seq (.run [.o 5 (.mv (.k (.int .i64 0)))]) (.block 0 (.loop Q110))) (.seq (.run [.m 28 z1_, .m 4 z28_]) .ret)
abbrev Q118 : AC := .seq (.run [.o 2 (.box z0_), .o 4 (.mv (.k (.int .i64 0)))]) (.seq (.run [.o 6 (.faddr z2_ 2), .o 7 (.load z6_ false 1), .m 8 z1_, .c 9 n_ref3_weighText [z7_, z8_], .m 1 z9_]) Q116)
abbrev Q11H : AC := .cond z13_ (.seq (.run [.o 2 (.mv (.k (.bool false)))]) .ret) .skip
abbrev Q11M : AC := .seq (.block 1 (.seq (.run [.o 9 (.iaddr z5_ z7_ 1), .o 10 (.load z9_ false 1), .m 4 z10_]) (.seq (.run [.m 11 z4_, .c 12 n_lex_Name [z11_], .o 13 (.un .not z12_)]) Q11H))) (.run [.o 14 (.bin .add z7_ (.k (.int .i64 1))), .m 7 z14_])
abbrev Q11Q : AC := .block 0 (.loop (.seq (.run [.o 8 (.bin .lss z7_ z6_)]) (.seq (.cond z8_ .skip (.exit 0)) Q11M)))
abbrev Q11U : AC := .seq (.seq (.run [.m 5 z0_, .o 6 (.len z5_), .o 7 (.mv (.k (.int .i64 0)))]) Q11Q) (.seq (.run [.o 2 (.mv (.k (.bool true)))]) .ret)
abbrev Q11V : AC := .seq (.run [.o 2 (.mv (.k (.bool false)))]) Q11U
abbrev Q120 : AC := .cond z15_ (.seq (.run [.o 6 (.mv (.k (.bool false)))]) .ret) .skip
abbrev Q127 : AC := .par [.m 29 z0_, .o 30 (.nilck z29_), .o 31 (.faddr z30_ 0), .o 32 (.load z31_ false 1), .o 33 (.bin .gtr z32_ (.k (.int .i64 200))), .m 34 z33_, .g 35 34 false (.faddr z8_ 0), .g 36 34 false (.load z35_ false 1), .g 37 34 false (.mv z0_), .g 38 34 false (.nilck z37_), .g 39 34 false (.faddr z38_ 0), .g 40 34 false (.load z39_ false 1), .g 41 34 false (.bin .neq z36_ z40_), .o 42 (.pick z34_ (.k (.bool true)) z41_), .m 43 z42_, .g 44 43 false (.faddr z8_ 2), .g 45 43 false (.load z44_ false 1), .d 46 43 false n_tree_names [z45_], .g 47 43 false (.un .not z46_), .o 48 (.pick z43_ (.k (.bool true)) z47_), .m 49 z48_, .g 50 49 false (.load z8_ true 13), .d 51 49 false n_tree_fields [z50_], .g 52 49 false (.un .not z51_), .o 53 (.pick z49_ (.k (.bool true)) z52_)] [(0, 0), (1, 0), (2, 0), (3, 0), (4, 0), (5, 0), (6, 0), (7, 0), (8, 0), (9, 0), (10, 0), (11, 0), (12, 0), (13, 0), (14, 0), (15, 0), (16, 0), (17, 0), (18, 0), (19, 0), (20, 0), (21, 0), (22, 0), (23, 0), (24, 0)]
abbrev Q12A : AC := .cond z53_ (.seq (.run [.o 6 (.mv (.k (.bool false)))]) .ret) .skip
abbrev Q12F : AC := .cond z69_ (.seq (.run [.o 6 (.mv (.k (.bool false)))]) .ret) .skip
abbrev Q12H : AC := .seq (.seq Q127 Q12A) (.seq (.run [.m 54 z0_, .o 55 (.faddr z8_ 11), .o 56 (.load z55_ false 1), .m 57 z2_, .o 58 (.bin .add z57_ (.k (.int .i64 1))), .c 59 n_tree_looker_rows [z54_, z56_, z58_], .o 60 (.un .not z59_), .m 61 z60_, .g 62 61 false (.mv z0_), .g 63 61 false (.faddr z8_ 12), .g 64 61 false (.load z63_ false 1), .g 65 61 false (.mv z2_), .g 66 61 false (.bin .add z65_ (.k (.int .i64 1))), .d 67 61 false n_tree_looker_rows [z62_, z64_, z66_], .g 68 61 false (.un .not z67_), .o 69 (.pick z61_ (.k (.bool true)) z68_)]) Q12F)
abbrev Q12J : AC := .seq (.run [.o 20 (.iaddr z16_ z18_ 13), .o 21 (.load z20_ true 13), .o 8 (.alloc [(.int .i64 0), (.int .i64 0), (.slice .full 0 []), (.str []), (.str []), (.int .i64 0), (.int .i64 0), (.str []), (.slice .full 0 []), (.bool false), (.slice .full 0 []), (.slice .full 0 []), (.slice .full 0 [])]), .op none none (.store z8_ z21_ 13)]) (.seq (.run [.m 22 z0_, .o 23 (.nilck z22_), .o 24 (.faddr z23_ 0), .o 25 (.load z24_ false 1), .o 26 (.bin .add z25_ (.k (.int .i64 1))), .o 27 (.nilck z22_), .o 28 (.faddr z27_ 0), .op none none (.store z28_ z26_ 1)]) Q12H)
abbrev Q12N : AC := .seq (.cond z19_ .skip (.exit 0)) (.seq (.block 1 Q12J) (.run [.o 70 (.bin .add z18_ (.k (.int .i64 1))), .m 18 z70_]))
abbrev Q12R : AC := .seq (.run [.m 16 z1_, .o 17 (.len z16_), .o 18 (.mv (.k (.int .i64 0)))]) (.block 0 (.loop (.seq (.run [.o 19 (.bin .lss z18_ z17_)]) Q12N)))
abbrev Q12U : AC := .seq Q12R (.seq (.run [.o 6 (.mv (.k (.bool true)))]) .ret)
abbrev Q12V : AC := .seq (.seq (.run [.m 9 z2_, .o 10 (.bin .gtr z9_ (.k (.int .i64 12))), .m 11 z10_, .g 12 11 true (.mv z1_), .g 13 11 true (.len z12_), .g 14 11 true (.bin .gtr z13_ (.k (.int .i64 0))), .o 15 (.pick z11_ z14_ (.k (.bool false)))]) Q120) Q12U
abbrev Q12W : AC := .seq (.run [.o 6 (.mv (.k (.bool false)))]) Q12V
abbrev Q132 : AC := .seq (.run [.m 7 z0_, .m 8 z0_, .o 9 (.nilck z8_), .o 10 (.faddr z9_ 1), .o 11 (.load z10_ false 1), .m 12 z1_, .o 13 (.bslice [(.int .u8 0)] 1 1 [(0, z12_)]), .o 14 (.appb z11_ z13_), .o 15 (.nilck z7_), .o 16 (.faddr z15_ 1), .op none none (.store z16_ z14_ 1)]) (.seq (.run [.o 4 (.mv (.k (.val .nilIface)))]) .ret)
abbrev Q134 : AC := .seq (.run [.o 4 (.mv (.k (.val .nilIface)))]) (.seq (.run [.m 5 z0_, .c 6 n_strings_Builder_copyCheck [z5_]]) Q132)
abbrev Q13A : AC := .seq (.run [.m 8 z0_, .m 9 z0_, .o 10 (.nilck z9_), .o 11 (.faddr z10_ 1), .o 12 (.load z11_ false 1), .m 13 z1_, .o 14 (.apps z12_ z13_), .o 15 (.nilck z8_), .o 16 (.faddr z15_ 1), .op none none (.store z16_ z14_ 1)]) (.seq (.run [.m 17 z1_, .o 18 (.slen z17_), .m 4 z18_, .o 5 (.mv (.k (.val .nilIface)))]) .ret)
abbrev Q13C : AC := .seq (.run [.o 4 (.mv (.k (.int .i64 0))), .o 5 (.mv (.k (.val .nilIface)))]) (.seq (.run [.m 6 z0_, .c 7 n_strings_Builder_copyCheck [z6_]]) Q13A)
abbrev Q13G : AC := .par [.o 11 (.faddr z1_ 3), .o 12 (.load z11_ false 1), .o 13 (.bin .add z12_ (.k (.str [32, 61, 32]))), .o 14 (.faddr z1_ 5), .o 15 (.load z14_ true 4), .c 16 n_print_expr [z15_, (.k (.int .i64 0))], .o 17 (.bin .add z13_ z16_), .m 2 z17_] [(3, 0), (4, 0), (5, 0), (0, 0), (1, 1), (2, 0), (6, 0), (7, 0)]
abbrev Q141 : AC := .cond z41_ (.seq (.run [.o 42 (.faddr z1_ 5), .o 43 (.load z42_ true 4), .c 44 n_print_expr [z43_, (.k (.int .i64 0))], .o 45 (.bin .add (.k (.str [114, 101, 116, 117, 114, 110, 32])) z44_), .m 2 z45_]) .ret) .skip
abbrev Q145 : AC := .seq (.seq (.run [.o 40 (.faddr z1_ 9), .o 41 (.load z40_ false 1)]) Q141) (.seq (.run [.o 2 (.mv (.k (.str [114, 101, 116, 117, 114, 110])))]) .ret)
abbrev Q148 : AC := .cond z33_ (.seq (.run [.o 35 (.faddr z1_ 3), .o 36 (.load z35_ false 1), .o 37 (.bin .add (.k (.str [103, 111, 116, 111, 32])) z36_), .m 2 z37_]) .ret) (.seq (.run [.o 39 (.bin .eql z8_ (.k (.int .i64 9))), .m 38 z39_]) (.cond z38_ Q145 .skip))
abbrev Q14A : AC := .cond z31_ (.seq (.run [.o 2 (.mv (.k (.str [99, 111, 110, 116, 105, 110, 117, 101])))]) .ret) (.seq (.run [.o 34 (.bin .eql z8_ (.k (.int .i64 10))), .m 33 z34_]) Q148)
abbrev Q14C : AC := .cond z29_ (.seq (.run [.o 2 (.mv (.k (.str [98, 114, 101, 97, 107])))]) .ret) (.seq (.run [.o 32 (.bin .eql z8_ (.k (.int .i64 8))), .m 31 z32_]) Q14A)
abbrev Q14E : AC := .cond z23_ (.seq (.run [.o 25 (.faddr z1_ 5), .o 26 (.load z25_ true 4), .c 27 n_print_expr [z26_, (.k (.int .i64 0))], .o 28 (.bin .add (.k (.str [112, 114, 105, 110, 116, 32])) z27_), .m 2 z28_]) .ret) (.seq (.run [.o 30 (.bin .eql z8_ (.k (.int .i64 7))), .m 29 z30_]) Q14C)
abbrev Q14G : AC := .cond z18_ (.seq (.run [.o 20 (.faddr z1_ 3), .o 21 (.load z20_ false 1), .o 22 (.bin .add (.k (.str [114, 101, 97, 100, 32])) z21_), .m 2 z22_]) .ret) (.seq (.run [.o 24 (.bin .eql z8_ (.k (.int .i64 3))), .m 23 z24_]) Q14E)
abbrev Q14I : AC := .cond z9_ (.seq Q13G .ret) (.seq (.run [.o 19 (.bin .eql z8_ (.k (.int .i64 2))), .m 18 z19_]) Q14G)
abbrev Q14K : AC := .block 0 (.seq (.run [.o 10 (.bin .eql z8_ (.k (.int .i64 1))), .m 9 z10_]) Q14I)
abbrev Q14S : AC := .par [.m 55 z3_, .c 56 n_print_ref [(.k (.bool true))], .o 57 (.faddr z5_ 1), .o 58 (.load z57_ false 1), .o 59 (.bin .add z56_ z58_), .o 60 (.bslice [(.str [])] 1 1 [(0, z59_)]), .o 61 (.app 1 16 z55_ z60_), .m 3 z61_] [(1, 0), (0, 0), (2, 0), (3, 1), (4, 0), (5, 0), (6, 0), (7, 0)]
abbrev Q14W : AC := .seq (.run [.o 51 (.iaddr z47_ z49_ 6), .o 52 (.load z51_ true 6), .o 5 (.alloc [(.bool false), (.str []), (.int .i64 0), (.int .i64 0), (.str []), (.slice .full 0 [])]), .op none none (.store z5_ z52_ 6)]) (.seq (.run [.o 53 (.faddr z5_ 0), .o 54 (.load z53_ false 1)]) (.cond z54_ Q14S (.run [.m 62 z3_, .o 63 (.faddr z5_ 2), .o 64 (.load z63_ true 4), .c 65 n_print_expr [z64_, (.k (.int .i64 0))], .o 66 (.bslice [(.str [])] 1 1 [(0, z65_)]), .o 67 (.app 1 16 z62_ z66_), .m 3 z67_])))
abbrev Q150 : AC := .seq (.cond z50_ .skip (.exit 1)) (.seq (.block 2 Q14W) (.run [.o 68 (.bin .add z49_ (.k (.int .i64 1))), .m 49 z68_]))
abbrev Q154 : AC := .seq (.run [.o 46 (.faddr z1_ 10), .o 47 (.load z46_ false 1), .o 48 (.len z47_), .o 49 (.mv (.k (.int .i64 0)))]) (.block 1 (.loop (.seq (.run [.o 50 (.bin .lss z49_ z48_)]) Q150)))
abbrev Q155 : AC := .par [.o 69 (.faddr z1_ 4), .o 70 (.load z69_ false 1), .o 71 (.bin .add z70_ (.k (.str [40]))), .m 72 z3_, (.c 73 n_strings_Join [z72_, (.k (.str [44, 32]))]), .o 74 (.bin .add z71_ z73_), .o 75 (.bin .add z74_ (.k (.str [41]))), .m 6 z75_] [(3, 0), (4, 0), (0, 0), (1, 1), (2, 0), (5, 0), (6, 0), (7, 0)]
abbrev Q159 : AC := .cond z78_ (.seq (.run [.o 79 (.faddr z1_ 3), .o 80 (.load z79_ false 1), .o 81 (.bin .add z80_ (.k (.str [32, 61, 32]))), .m 82 z6_, .o 83 (.bin .add z81_ z82_), .m 2 z83_]) .ret) .skip
abbrev Q15D : AC := .seq (.seq (.run [.o 76 (.faddr z1_ 3), .o 77 (.load z76_ false 1), .o 78 (.bin .neq z77_ (.k (.str [])))]) Q159) (.seq (.run [.m 84 z6_, .m 2 z84_]) .ret)
abbrev Q15H : AC := .seq (.seq (.run [.o 7 (.faddr z1_ 1), .o 8 (.load z7_ false 1)]) Q14K) (.seq (.run [.o 3 (.mv (.k (.slice .full 0 [])))]) (.seq Q154 (.seq Q155 Q15D)))
abbrev Q15I : AC := .seq (.run [.o 1 (.box z0_), .o 2 (.mv (.k (.str [])))]) Q15H
abbrev Q15M : AC := .seq (.run [.o 2 (.mv (.k (.bool false)))]) (.seq (.run [.m 3 z0_, .o 4 (.bin .geq z3_ (.k (.int .u8 97))), .m 5 z4_, .g 6 5 true (.mv z0_), .g 7 5 true (.bin .leq z6_ (.k (.int .u8 122))), .o 8 (.pick z5_ z7_ (.k (.bool false))), .m 2 z8_]) .ret)
abbrev Q15Q : AC := .seq (.run [.o 2 (.mv (.k (.bool false)))]) (.seq (.run [.m 3 z0_, .o 4 (.bin .geq z3_ (.k (.int .u8 48))), .m 5 z4_, .g 6 5 true (.mv z0_), .g 7 5 true (.bin .leq z6_ (.k (.int .u8 57))), .o 8 (.pick z5_ z7_ (.k (.bool false))), .m 2 z8_]) .ret)
abbrev Q15Z : AC := .cond z13_ (.seq (.run [.o 2 (.mv (.k (.bool true)))]) .ret) .skip
abbrev Q164 : AC := .seq (.block 1 (.seq (.run [.o 9 (.iaddr z5_ z7_ 1), .o 10 (.load z9_ false 1), .m 4 z10_]) (.seq (.run [.m 11 z4_, .m 12 z0_, .o 13 (.bin .eql z11_ z12_)]) Q15Z))) (.run [.o 14 (.bin .add z7_ (.k (.int .i64 1))), .m 7 z14_])
abbrev Q168 : AC := .block 0 (.loop (.seq (.run [.o 8 (.bin .lss z7_ z6_)]) (.seq (.cond z8_ .skip (.exit 0)) Q164)))
abbrev Q16C : AC := .seq (.seq (.run [.c 5 n_ref1_Words [], .o 6 (.len z5_), .o 7 (.mv (.k (.int .i64 0)))]) Q168) (.seq (.run [.o 2 (.mv (.k (.bool false)))]) .ret)
abbrev Q16D : AC := .seq (.run [.o 2 (.mv (.k (.bool false)))]) Q16C
abbrev Q16H : AC := .seq (.run [.o 1 (.box z0_), .o 2 (.mv (.k (.bool false)))]) (.seq (.run [.o 3 (.load z1_ true 4), .c 4 n_ref3_deep [z3_, (.k (.int .i64 20))], .o 5 (.bin .leq z4_ (.k (.int .i64 20))), .m 6 z5_, .g 7 6 true (.load z1_ true 4), .d 8 6 true n_ref3_form [z7_], .o 9 (.pick z6_ z8_ (.k (.bool false))), .m 2 z9_]) .ret)
abbrev Q16L : AC := .seq (.run [.o 1 (.box z0_), .o 2 (.mv (.k (.bool false)))]) (.seq (.run [.o 3 (.faddr z1_ 0), .o 4 (.load z3_ false 1), .o 5 (.bin .eql z4_ (.k (.int .i64 0))), .m 6 z5_, .g 7 6 true (.faddr z1_ 1), .g 8 6 true (.load z7_ false 1), .g 9 6 true (.bin .eql z8_ (.k (.int .i64 0))), .o 10 (.pick z6_ z9_ (.k (.bool false))), .m 11 z10_, .g 12 11 true (.faddr z1_ 2), .g 13 11 true (.load z12_ false 1), .g 14 11 true (.bin .eql z13_ (.k (.str []))), .o 15 (.pick z11_ z14_ (.k (.bool false))), .m 16 z15_, .g 17 16 true (.faddr z1_ 3), .g 18 16 true (.load z17_ false 1), .g 19 16 true (.len z18_), .g 20 16 true (.bin .eql z19_ (.k (.int .i64 0))), .o 21 (.pick z16_ z20_ (.k (.bool false))), .m 2 z21_]) .ret)
abbrev Q16Q : AC := .cond z4_ (.seq (.run [.o 5 (.faddr z1_ 1), .o 6 (.load z5_ false 1), .c 7 n_ref1_Name [z6_], .m 8 z7_, .g 9 8 true (.faddr z1_ 2), .g 10 8 true (.load z9_ true 4), .d 11 8 true n_ref3_none [z10_], .o 12 (.pick z8_ z11_ (.k (.bool false))), .m 2 z12_]) .ret) .skip
abbrev Q16U : AC := .seq (.seq (.run [.o 3 (.faddr z1_ 0), .o 4 (.load z3_ false 1)]) Q16Q) (.seq (.run [.o 13 (.faddr z1_ 1), .o 14 (.load z13_ false 1), .o 15 (.bin .eql z14_ (.k (.str []))), .m 16 z15_, .g 17 16 true (.faddr z1_ 2), .g 18 16 true (.load z17_ true 4), .d 19 16 true n_ref3_MayExpr [z18_], .o 20 (.pick z16_ z19_ (.k (.bool false))), .m 2 z20_]) .ret)
abbrev Q16V : AC := .seq (.run [.o 1 (.box z0_), .o 2 (.mv (.k (.bool false)))]) Q16U
abbrev Q171 : AC := .run [.m 23 z4_, .m 24 z0_, .m 25 z11_, .o 26 (.iaddr z24_ z25_ 13), .o 27 (.load z26_ true 13), .m 28 z1_, .m 29 z2_, .m 30 z3_, .o 31 (.build [(.int .i64 0), (.int .i64 0), (.slice .full 0 []), (.str []), (.str []), (.int .i64 0), (.int .i64 0), (.str []), (.slice .full 0 []), (.bool false), (.slice .full 0 []), (.slice .full 0 []), (.slice .full 0 []), (.int .i64 0), (.int .i64 0), (.bool false)] [(0, (13, z27_)), (13, (1, z28_)), (14, (1, z29_)), (15, (1, z30_))]), .o 32 (.bslice [(.int .i64 0), (.int .i64 0), (.slice .full 0 []), (.str []), (.str []), (.int .i64 0), (.int .i64 0), (.str []), (.slice .full 0 []), (.bool false), (.slice .full 0 []), (.slice .full 0 []), (.slice .full 0 []), (.int .i64 0), (.int .i64 0), (.bool false)] 16 1 [(0, z31_)]), .o 33 (.app 16 232 z23_ z32_), .m 4 z33_]
abbrev Q173 : AC := .par [.m 36 z0_, .m 37 z11_, .o 38 (.iaddr z36_ z37_ 13), .o 39 (.faddr z38_ 11), .o 40 (.load z39_ false 1), .m 41 z1_, .o 42 (.bin .add z41_ (.k (.int .i64 1))), .m 43 z0_, .m 44 z11_, .o 45 (.iaddr z43_ z44_ 13), .o 46 (.faddr z45_ 0), .o 47 (.load z46_ false 1), .m 48 z4_, .c 49 n_ref3_flat [z40_, z42_, z47_, (.k (.bool false)), z48_], .m 4 z49_] [(0, 0), (1, 0), (2, 0), (3, 0), (4, 0), (5, 0), (6, 0), (7, 0), (8, 0), (9, 0), (10, 0), (11, 0), (12, 0), (13, 0), (14, 0)]
abbrev Q174 : AC := .par [.m 50 z0_, .m 51 z11_, .o 52 (.iaddr z50_ z51_ 13), .o 53 (.faddr z52_ 12), .o 54 (.load z53_ false 1), .m 55 z1_, .o 56 (.bin .add z55_ (.k (.int .i64 1))), .m 57 z0_, .m 58 z11_, .o 59 (.iaddr z57_ z58_ 13), .o 60 (.faddr z59_ 0), .o 61 (.load z60_ false 1), .m 62 z4_, .c 63 n_ref3_flat [z54_, z56_, z61_, (.k (.bool true)), z62_], .m 4 z63_] [(0, 0), (1, 0), (2, 0), (3, 0), (4, 0), (5, 0), (6, 0), (7, 0), (8, 0), (9, 0), (10, 0), (11, 0), (12, 0), (13, 0), (14, 0)]
abbrev Q178 : AC := .seq Q171 (.seq (.run [.m 34 z1_, .o 35 (.bin .leq z34_ (.k (.int .i64 12)))]) (.cond z35_ (.seq Q173 Q174) .skip))
abbrev Q17C : AC := .seq (.seq (.run [.m 12 z11_, .m 13 z0_, .o 14 (.len z13_), .o 15 (.bin .lss z12_ z14_), .m 16 z15_, .g 17 16 true (.mv z4_), .g 18 16 true (.len z17_), .g 19 16 true (.bin .leq z18_ (.k (.int .i64 200))), .o 20 (.pick z16_ z19_ (.k (.bool false)))]) (.cond z20_ .skip (.exit 0))) (.seq (.block 1 Q178) (.run [.m 21 z11_, .o 22 (.bin .add z21_ (.k (.int .i64 1))), .m 11 z22_]))
abbrev Q17I : AC := .seq (.seq (.run [.o 11 (.mv (.k (.int .i64 0)))]) (.block 0 (.loop Q17C))) (.seq (.run [.m 64 z4_, .m 10 z64_]) .ret)
abbrev Q17J : AC := .seq (.run [.o 10 (.mv (.k (.slice .full 0 [])))]) Q17I
abbrev Q17U : AC := .seq (.seq (.run [.m 7 z6_, .o 8 (.faddr z2_ 3), .o 9 (.load z8_ false 1), .o 10 (.len z9_), .o 11 (.bin .lss z7_ z10_), .m 12 z11_, .g 13 12 true (.mv z5_), .g 14 12 true (.mv z1_), .g 15 12 true (.bin .leq z13_ z14_), .o 16 (.pick z12_ z15_ (.k (.bool false)))]) (.cond z16_ .skip (.exit 0))) (.seq (.block 1 (.run [.m 19 z5_, .o 20 (.faddr z2_ 3), .o 21 (.load z20_ false 1), .m 22 z6_, .o 23 (.iaddr z21_ z22_ 4), .o 24 (.load z23_ true 4), .m 25 z1_, .m 26 z5_, .o 27 (.bin .sub z25_ z26_), .c 28 n_ref3_Size [z24_, z27_], .o 29 (.bin .add z19_ z28_), .m 5 z29_])) (.run [.m 17 z6_, .o 18 (.bin .add z17_ (.k (.int .i64 1))), .m 6 z18_]))
abbrev Q180 : AC := .seq (.seq (.run [.o 6 (.mv (.k (.int .i64 0)))]) (.block 0 (.loop Q17U))) (.seq (.run [.m 30 z5_, .m 4 z30_]) .ret)
abbrev Q182 : AC := .seq (.run [.o 2 (.box z0_), .o 4 (.mv (.k (.int .i64 0)))]) (.seq (.run [.o 5 (.mv (.k (.int .i64 1)))]) Q180)
abbrev Q187 : AC := .cond z13_ (.seq (.run [.o 4 (.mv (.k (.bool false)))]) .ret) .skip
abbrev Q18C : AC := .seq (.run [.m 14 z0_, .o 15 (.nilck z14_), .o 16 (.faddr z15_ 1), .o 17 (.load z16_ false 1), .o 18 (.bin .add z17_ (.k (.int .i64 1))), .o 19 (.nilck z14_), .o 20 (.faddr z19_ 1), .op none none (.store z20_ z18_ 1)]) (.seq (.run [.o 4 (.mv (.k (.bool true)))]) .ret)
abbrev Q18D : AC := .seq (.seq (.run [.m 5 z0_, .c 6 n_parse_reader_good [z5_], .o 7 (.un .not z6_), .m 8 z7_, .g 9 8 false (.mv z0_), .g 10 8 false (.mv z1_), .d 11 8 false n_parse_reader_is [z9_, z10_], .g 12 8 false (.un .not z11_), .o 13 (.pick z8_ (.k (.bool true)) z12_)]) Q187) Q18C
abbrev Q18E : AC := .seq (.run [.o 4 (.mv (.k (.bool false)))]) Q18D
abbrev Q18P : AC := .cond z20_ (.seq (.run [.m 21 z0_, (.c 22 n_parse_reader_want [z21_, (.k (.str [59]))])]) (.seq (.run [.m 23 z1_, .m 6 z23_]) .ret)) .skip
abbrev Q18R : AC := .seq (.run [.m 9 z1_, .m 10 z0_, .m 11 z1_, .o 12 (.len z11_), .m 13 z2_, .o 14 (.bin .lss z12_ z13_), .c 15 n_parse_reader_name [z10_, z14_], .o 16 (.bslice [(.str [])] 1 1 [(0, z15_)]), .o 17 (.app 1 16 z9_ z16_), .m 1 z17_]) (.seq (.run [.m 18 z0_, (.c 19 n_parse_reader_take [z18_, (.k (.str [44]))]), .o 20 (.un .not z19_)]) Q18P)
abbrev Q18V : AC := .block 0 (.loop (.seq (.seq (.run [.m 7 z0_, .c 8 n_parse_reader_good [z7_]]) (.cond z8_ .skip (.exit 0))) (.block 1 Q18R)))
abbrev Q18Z : AC := .seq (.run [.o 6 (.mv (.k (.slice .full 0 [])))]) (.seq Q18V (.seq (.run [.m 24 z1_, .m 6 z24_]) .ret))
abbrev Q193 : AC := .seq (.run [.o 2 (.mv (.k (.bool false)))]) (.seq (.run [.m 3 z0_, .o 4 (.nilck z3_), .o 5 (.faddr z4_ 2), .o 6 (.faddr z5_ 0), .o 7 (.load z6_ false 1), .o 8 (.bin .eql z7_ (.k (.int .i64 0))), .m 2 z8_]) .ret)
abbrev Q198 : AC := .seq (.run [.m 6 z0_, .c 7 n_parse_reader_peek [z6_], .o 5 (.alloc [(.int .i64 0), (.str []), (.int .i64 0), (.int .i64 0)]), .op none none (.store z5_ z7_ 4)]) (.seq (.run [.o 8 (.faddr z5_ 0), .o 9 (.load z8_ false 1), .o 10 (.bin .eql z9_ (.k (.int .i64 3))), .m 11 z10_, .g 12 11 false (.faddr z5_ 0), .g 13 11 false (.load z12_ false 1), .g 14 11 false (.bin .eql z13_ (.k (.int .i64 4))), .o 15 (.pick z11_ (.k (.bool true)) z14_), .m 16 z15_, .g 17 16 true (.faddr z5_ 1), .g 18 16 true (.load z17_ false 1), .g 19 16 true (.mv z1_), .g 20 16 true (.bin .eql z18_ z19_), .o 21 (.pick z16_ z20_ (.k (.bool false))), .m 4 z21_]) .ret)
abbrev Q199 : AC := .seq (.run [.o 4 (.mv (.k (.bool false)))]) Q198
abbrev Q19D : AC := .seq (.run [.m 4 z0_, .c 5 n_parse_reader_good [z4_]]) (.cond z5_ (.run [.m 6 z0_, .m 7 z1_, .m 8 z0_, .c 9 n_parse_reader_peek [z8_], .o 10 (.fld z9_ 3 false 1), .o 11 (.build [(.int .i64 0), (.int .i64 0)] [(0, (1, z7_)), (1, (1, z10_))]), .o 12 (.nilck z6_), .o 13 (.faddr z12_ 2), .op none none (.store z13_ z11_ 2)]) .skip)
abbrev Q19M : AC := .par [.o 21 (.faddr z3_ 1), .o 22 (.load z21_ false 1), .m 23 z0_, .o 24 (.faddr z3_ 1), .o 25 (.load z24_ false 1), .o 26 (.len z25_), .o 27 (.bin .lss z26_ (.k (.int .i64 8))), .c 28 n_parse_reader_name [z23_, z27_], .m 29 z4_, .o 30 (.build [(.str []), (.bool false)] [(0, (1, z28_)), (1, (1, z29_))]), .o 31 (.bslice [(.str []), (.bool false)] 2 1 [(0, z30_)]), .o 32 (.app 2 24 z22_ z31_), .o 33 (.faddr z3_ 1), .op none none (.store z33_ z32_ 1)] [(2, 0), (3, 0), (4, 0), (5, 0), (6, 0), (7, 0), (0, 0), (1, 1), (8, 0), (9, 0), (10, 0), (11, 0), (12, 0), (13, 0)]
abbrev Q19Q : AC := .seq Q19M (.seq (.run [.m 34 z0_, (.c 35 n_parse_reader_take [z34_, (.k (.str [44]))]), .o 36 (.un .not z35_)]) (.cond z36_ (.exit 0) .skip))
abbrev Q19S : AC := .block 1 (.seq (.run [.m 19 z0_, (.c 20 n_parse_reader_take [z19_, (.k (.str [114, 101, 102]))]), .m 4 z20_]) Q19Q)
abbrev Q19V : AC := .block 0 (.loop (.seq (.seq (.run [.m 17 z0_, .c 18 n_parse_reader_good [z17_]]) (.cond z18_ .skip (.exit 0))) Q19S))
abbrev Q1A5 : AC := .seq (.seq (.run [.m 41 z0_, (.c 42 n_parse_reader_take [z41_, (.k (.str [118, 97, 114]))])]) (.cond z42_ .skip (.exit 2))) (.block 3 (.run [.m 43 z0_, .o 44 (.faddr z3_ 2), .o 45 (.load z44_ false 1), .c 46 n_parse_reader_names [z43_, z45_, (.k (.int .i64 16))], .o 47 (.faddr z3_ 2), .op none none (.store z47_ z46_ 1)]))
abbrev Q1AB : AC := .seq (.run [.m 49 z0_, .c 50 n_parse_reader_rows [z49_, (.k (.int .i64 1)), (.k (.bool true))], .m 48 z50_, .o 51 (.ext z48_ 0), .o 52 (.ext z48_ 1), .o 53 (.faddr z3_ 3), .op none none (.store z53_ z51_ 1), .o 54 (.faddr z3_ 4), .op none none (.store z54_ z52_ 1)]) (.seq (.run [.o 55 (.load z3_ true 5), .op none none (.store z2_ z55_ 5)]) .ret)
abbrev Q1AE : AC := .seq (.run [.m 37 z0_, (.c 38 n_parse_reader_want [z37_, (.k (.str [41]))])]) (.seq (.run [.m 39 z0_, (.c 40 n_parse_reader_want [z39_, (.k (.str [123]))])]) (.seq (.block 2 (.loop Q1A5)) Q1AB))
abbrev Q1AF : AC := .seq (.seq (.run [.m 10 z0_, .c 11 n_parse_reader_good [z10_], .m 12 z11_, .g 13 12 true (.mv z0_), (.d 14 12 true n_parse_reader_is [z13_, (.k (.str [41]))]), .g 15 12 true (.un .not z14_), .o 16 (.pick z12_ z15_ (.k (.bool false)))]) (.cond z16_ Q19V .skip)) Q1AE
abbrev Q1AH : AC := .seq (.run [.m 5 z0_, .c 6 n_parse_reader_name [z5_, (.k (.bool true))], .o 7 (.build [(.str []), (.slice .full 0 []), (.slice .full 0 []), (.slice .full 0 []), (.slice .full 0 [])] [(0, (1, z6_))]), .o 3 (.alloc [(.str []), (.slice .full 0 []), (.slice .full 0 []), (.slice .full 0 []), (.slice .full 0 [])]), .op none none (.store z3_ z7_ 5)]) (.seq (.run [.m 8 z0_, (.c 9 n_parse_reader_want [z8_, (.k (.str [40]))])]) Q1AF)
abbrev Q1AI : AC := .seq (.run [.o 2 (.alloc [(.str []), (.slice .full 0 []), (.slice .full 0 []), (.slice .full 0 []), (.slice .full 0 [])])]) Q1AH
abbrev Q1AK : AC := .par [.m 3 z0_, .o 4 (.nilck z3_), .o 5 (.faddr z4_ 0), .o 6 (.load z5_ false 1), .m 7 z0_, .o 8 (.nilck z7_), .o 9 (.faddr z8_ 1), .o 10 (.load z9_ false 1), .o 11 (.iaddr z6_ z10_ 4), .o 12 (.load z11_ true 4), .op none none (.store z2_ z12_ 4)] [(0, 0), (1, 0), (2, 0), (3, 0), (4, 0), (5, 0), (6, 0), (7, 0), (8, 0), (9, 0), (10, 0)]
abbrev Q1AM : AC := .seq (.run [.o 2 (.alloc [(.int .i64 0), (.str []), (.int .i64 0), (.int .i64 0)])]) (.seq Q1AK .ret)
abbrev Q1AR : AC := .cond z4_ (.seq (.run [.o 2 (.mv (.k (.slice .full 0 [])))]) .ret) .skip
abbrev Q1AW : AC := .seq (.run [.o 2 (.mv (.k (.slice .full 0 [])))]) (.seq (.seq (.run [.m 3 z0_, .nil (some 4) none false z3_]) Q1AR) (.seq (.run [.o 5 (.bslice [(.str [])] 1 0 []), .m 6 z0_, .o 7 (.app 1 16 z5_ z6_), .m 2 z7_]) .ret))
abbrev Q1B1 : AC := .cond z4_ (.seq (.run [.o 2 (.mv (.k (.slice .full 0 [])))]) .ret) .skip
abbrev Q1B6 : AC := .seq (.run [.o 2 (.mv (.k (.slice .full 0 [])))]) (.seq (.seq (.run [.m 3 z0_, .nil (some 4) none false z3_]) Q1B1) (.seq (.run [.o 5 (.bslice [(.str []), (.bool false)] 2 0 []), .m 6 z0_, .o 7 (.app 2 24 z5_ z6_), .m 2 z7_]) .ret))
abbrev Q1BJ : AC := .par [.o 26 (.faddr z10_ 2), .o 27 (.load z26_ false 1), .c 28 n_slices_Clone_string [z27_], .o 29 (.faddr z10_ 5), .o 30 (.load z29_ true 4), .c 31 n_tree_expr [z30_], .o 32 (.faddr z11_ 2), .op none none (.store z32_ z28_ 1), .o 33 (.faddr z11_ 5), .op none none (.store z33_ z31_ 4), .o 34 (.faddr z11_ 10), .op none none (.store z34_ (.k (.slice .full 0 [])) 1)] [(0, 0), (1, 0), (2, 0), (3, 0), (4, 1), (5, 0), (6, 0), (7, 0), (8, 0), (9, 0), (10, 0), (11, 0)]
abbrev Q1BS : AC := .block 3 (.seq (.run [.o 40 (.iaddr z36_ z38_ 6), .o 41 (.load z40_ true 6), .o 13 (.alloc [(.bool false), (.str []), (.int .i64 0), (.int .i64 0), (.str []), (.slice .full 0 [])]), .op none none (.store z13_ z41_ 6)]) (.seq (.run [.o 42 (.faddr z13_ 2), .o 43 (.load z42_ true 4), .c 44 n_tree_expr [z43_], .o 45 (.faddr z13_ 2), .op none none (.store z45_ z44_ 4)]) (.run [.o 46 (.faddr z11_ 10), .o 47 (.load z46_ false 1), .o 48 (.load z13_ true 6), .o 49 (.bslice [(.bool false), (.str []), (.int .i64 0), (.int .i64 0), (.str []), (.slice .full 0 [])] 6 1 [(0, z48_)]), .o 50 (.app 6 80 z47_ z49_), .o 51 (.faddr z11_ 10), .op none none (.store z51_ z50_ 1)])))
abbrev Q1BV : AC := .seq (.cond z39_ .skip (.exit 2)) (.seq Q1BS (.run [.o 52 (.bin .add z38_ (.k (.int .i64 1))), .m 38 z52_]))
abbrev Q1BZ : AC := .seq (.run [.o 35 (.faddr z10_ 10), .o 36 (.load z35_ false 1), .o 37 (.len z36_), .o 38 (.mv (.k (.int .i64 0)))]) (.block 2 (.loop (.seq (.run [.o 39 (.bin .lss z38_ z37_)]) Q1BV)))
abbrev Q1C5 : AC := .seq Q1BZ (.seq (.run [.o 54 (.faddr z10_ 11), .o 55 (.load z54_ false 1), .m 56 z1_, .m 57 z2_, .c 58 n_tree_copied [z55_, z56_, z57_], .m 53 z58_, .o 59 (.ext z53_ 0), .o 60 (.ext z53_ 1), .o 61 (.faddr z11_ 11), .op none none (.store z61_ z59_ 1), .m 1 z60_]) (.seq (.run [.o 63 (.faddr z10_ 12), .o 64 (.load z63_ false 1), .m 65 z1_, .m 66 z2_, .c 67 n_tree_copied [z64_, z65_, z66_], .m 62 z67_, .o 68 (.ext z62_ 0), .o 69 (.ext z62_ 1), .o 70 (.faddr z11_ 12), .op none none (.store z70_ z68_ 1), .m 1 z69_]) (.run [.m 71 z8_, .o 72 (.load z11_ true 13), .o 73 (.bslice [(.int .i64 0), (.int .i64 0), (.slice .full 0 []), (.str []), (.str []), (.int .i64 0), (.int .i64 0), (.str []), (.slice .full 0 []), (.bool false), (.slice .full 0 []), (.slice .full 0 []), (.slice .full 0 [])] 13 1 [(0, z72_)]), .o 74 (.app 13 208 z71_ z73_), .m 8 z74_])))
abbrev Q1C8 : AC := .seq (.run [.o 22 (.load z10_ true 13), .o 11 (.alloc [(.int .i64 0), (.int .i64 0), (.slice .full 0 []), (.str []), (.str []), (.int .i64 0), (.int .i64 0), (.str []), (.slice .full 0 []), (.bool false), (.slice .full 0 []), (.slice .full 0 []), (.slice .full 0 [])]), .op none none (.store z11_ z22_ 13)]) (.seq (.seq (.run [.m 23 z2_]) (.cond z23_ (.run [.m 24 z1_, .o 25 (.faddr z11_ 0), .op none none (.store z25_ z24_ 1)]) .skip)) (.seq Q1BJ Q1C5))
abbrev Q1CA : AC := .seq (.run [.o 18 (.iaddr z14_ z16_ 13), .o 19 (.load z18_ true 13), .o 10 (.alloc [(.int .i64 0), (.int .i64 0), (.slice .full 0 []), (.str []), (.str []), (.int .i64 0), (.int .i64 0), (.str []), (.slice .full 0 []), (.bool false), (.slice .full 0 []), (.slice .full 0 []), (.slice .full 0 [])]), .op none none (.store z10_ z19_ 13)]) (.seq (.run [.m 20 z1_, .o 21 (.bin .add z20_ (.k (.int .i64 1))), .m 1 z21_]) Q1C8)
abbrev Q1CE : AC := .seq (.cond z17_ .skip (.exit 0)) (.seq (.block 1 Q1CA) (.run [.o 75 (.bin .add z16_ (.k (.int .i64 1))), .m 16 z75_]))
abbrev Q1CI : AC := .seq (.run [.m 14 z0_, .o 15 (.len z14_), .o 16 (.mv (.k (.int .i64 0)))]) (.block 0 (.loop (.seq (.run [.o 17 (.bin .lss z16_ z15_)]) Q1CE)))
abbrev Q1CN : AC := .seq (.run [.o 6 (.mv (.k (.slice .full 0 []))), .o 7 (.mv (.k (.int .i64 0)))]) (.seq (.run [.o 8 (.mv (.k (.slice .full 0 [])))]) (.seq Q1CI (.seq (.run [.m 76 z8_, .m 77 z1_, .m 6 z76_, .m 7 z77_]) .ret)))
abbrev Q1CP : AC := .run [.o 6 (.faddr z2_ 0), .o 7 (.load z6_ false 1), .o 8 (.faddr z3_ 0), .o 9 (.load z8_ false 1), .o 10 (.bin .neq z7_ z9_), .m 11 z10_, .g 12 11 false (.faddr z2_ 1), .g 13 11 false (.load z12_ false 1), .g 14 11 false (.faddr z3_ 1), .g 15 11 false (.load z14_ false 1), .g 16 11 false (.bin .neq z13_ z15_), .o 17 (.pick z11_ (.k (.bool true)) z16_), .m 18 z17_, .g 19 18 false (.faddr z2_ 3), .g 20 18 false (.load z19_ false 1), .g 21 18 false (.faddr z3_ 3), .g 22 18 false (.load z21_ false 1), .g 23 18 false (.bin .neq z20_ z22_), .o 24 (.pick z18_ (.k (.bool true)) z23_), .m 25 z24_, .g 26 25 false (.faddr z2_ 4), .g 27 25 false (.load z26_ false 1), .g 28 25 false (.faddr z3_ 4), .g 29 25 false (.load z28_ false 1), .g 30 25 false (.bin .neq z27_ z29_), .o 31 (.pick z25_ (.k (.bool true)) z30_), .m 32 z31_, .g 33 32 false (.faddr z2_ 9), .g 34 32 false (.load z33_ false 1), .g 35 32 false (.faddr z3_ 9), .g 36 32 false (.load z35_ false 1), .g 37 32 false (.eqb true z34_ z36_), .o 38 (.pick z32_ (.k (.bool true)) z37_), .m 39 z38_, .g 40 39 false (.faddr z2_ 2), .g 41 39 false (.load z40_ false 1), .g 42 39 false (.faddr z3_ 2), .g 43 39 false (.load z42_ false 1), .d 44 39 false n_ref3_EqTexts [z41_, z43_], .g 45 39 false (.un .not z44_), .o 46 (.pick z39_ (.k (.bool true)) z45_), .m 47 z46_, .g 48 47 false (.faddr z2_ 5), .g 49 47 false (.load z48_ true 4), .g 50 47 false (.faddr z3_ 5), .g 51 47 false (.load z50_ true 4), .d 52 47 false n_ref3_EqExpr [z49_, z51_], .g 53 47 false (.un .not z52_), .o 54 (.pick z47_ (.k (.bool true)) z53_), .m 55 z54_, .g 56 55 false (.faddr z2_ 10), .g 57 55 false (.load z56_ false 1), .g 58 55 false (.len z57_), .g 59 55 false (.faddr z3_ 10), .g 60 55 false (.load z59_ false 1), .g 61 55 false (.len z60_), .g 62 55 false (.bin .neq z58_ z61_), .o 63 (.pick z55_ (.k (.bool true)) z62_)]
abbrev Q1CS : AC := .cond z63_ (.seq (.run [.o 4 (.mv (.k (.bool false)))]) .ret) .skip
abbrev Q1CY : AC := .par [.o 70 (.faddr z2_ 10), .o 71 (.load z70_ false 1), .m 72 z5_, .o 73 (.iaddr z71_ z72_ 6), .o 74 (.faddr z73_ 0), .o 75 (.load z74_ false 1), .o 76 (.faddr z3_ 10), .o 77 (.load z76_ false 1), .m 78 z5_, .o 79 (.iaddr z77_ z78_ 6), .o 80 (.faddr z79_ 0), .o 81 (.load z80_ false 1), .o 82 (.eqb true z75_ z81_), .m 83 z82_, .g 84 83 false (.faddr z2_ 10), .g 85 83 false (.load z84_ false 1), .g 86 83 false (.mv z5_), .g 87 83 false (.iaddr z85_ z86_ 6), .g 88 83 false (.faddr z87_ 1), .g 89 83 false (.load z88_ false 1), .g 90 83 false (.faddr z3_ 10), .g 91 83 false (.load z90_ false 1), .g 92 83 false (.mv z5_), .g 93 83 false (.iaddr z91_ z92_ 6), .g 94 83 false (.faddr z93_ 1), .g 95 83 false (.load z94_ false 1), .g 96 83 false (.bin .neq z89_ z95_), .o 97 (.pick z83_ (.k (.bool true)) z96_), .m 98 z97_, .g 99 98 false (.faddr z2_ 10), .g 100 98 false (.load z99_ false 1), .g 101 98 false (.mv z5_), .g 102 98 false (.iaddr z100_ z101_ 6), .g 103 98 false (.faddr z102_ 2), .g 104 98 false (.load z103_ true 4), .g 105 98 false (.faddr z3_ 10), .g 106 98 false (.load z105_ false 1), .g 107 98 false (.mv z5_), .g 108 98 false (.iaddr z106_ z107_ 6), .g 109 98 false (.faddr z108_ 2), .g 110 98 false (.load z109_ true 4), .d 111 98 false n_ref3_EqExpr [z104_, z110_], .g 112 98 false (.un .not z111_), .o 113 (.pick z98_ (.k (.bool true)) z112_)] [(0, 0), (1, 0), (2, 0), (3, 0), (4, 0), (5, 0), (6, 0), (7, 0), (8, 0), (9, 0), (10, 0), (11, 0), (12, 0), (13, 0), (14, 0), (15, 0), (16, 0), (17, 0), (18, 0), (19, 0), (20, 0), (21, 0), (22, 0), (23, 0), (24, 0), (25, 0), (26, 0), (27, 0), (28, 0), (29, 0), (30, 0), (31, 0), (32, 0), (33, 0), (34, 0), (35, 0), (36, 0), (37, 0), (38, 0), (39, 0), (40, 0), (41, 0), (42, 0), (43, 0)]
abbrev Q1D1 : AC := .cond z113_ (.seq (.run [.o 4 (.mv (.k (.bool false)))]) .ret) .skip
abbrev Q1D7 : AC := .seq (.cond z68_ .skip (.exit 0)) (.seq (.block 1 (.seq (.run [.m 69 z67_, .m 5 z69_]) (.seq Q1CY Q1D1))) (.run [.o 114 (.bin .add z67_ (.k (.int .i64 1))), .m 67 z114_]))
abbrev Q1DB : AC := .seq (.run [.o 64 (.faddr z2_ 10), .o 65 (.load z64_ false 1), .o 66 (.len z65_), .o 67 (.mv (.k (.int .i64 0)))]) (.block 0 (.loop (.seq (.run [.o 68 (.bin .lss z67_ z66_)]) Q1D7)))
abbrev Q1DE : AC := .seq Q1DB (.seq (.run [.o 115 (.faddr z2_ 11), .o 116 (.load z115_ false 1), .o 117 (.faddr z3_ 11), .o 118 (.load z117_ false 1), .c 119 n_ref3_EqStmts [z116_, z118_], .m 120 z119_, .g 121 120 true (.faddr z2_ 12), .g 122 120 true (.load z121_ false 1), .g 123 120 true (.faddr z3_ 12), .g 124 120 true (.load z123_ false 1), .d 125 120 true n_ref3_EqStmts [z122_, z124_], .o 126 (.pick z120_ z125_ (.k (.bool false))), .m 4 z126_]) .ret)
abbrev Q1DG : AC := .seq (.run [.o 2 (.box z0_), .o 3 (.box z1_), .o 4 (.mv (.k (.bool false)))]) (.seq (.seq Q1CP Q1CS) Q1DE)
abbrev Q1DI : AC := .par [.o 9 (.faddr z3_ 0), .o 10 (.load z9_ false 1), .o 11 (.faddr z3_ 1), .o 12 (.load z11_ false 1), .o 13 (.faddr z3_ 2), .o 14 (.load z13_ false 1), .m 15 z1_, .m 16 z2_, .c 17 n_ref3_other [z14_, z15_, z16_], .o 18 (.build [(.int .i64 0), (.int .i64 0), (.str []), (.slice .full 0 [])] [(0, (1, z10_)), (1, (1, z12_)), (2, (1, z17_))]), .o 7 (.alloc [(.int .i64 0), (.int .i64 0), (.str []), (.slice .full 0 [])]), .op none none (.store z7_ z18_ 4)] [(4, 0), (5, 0), (6, 0), (7, 0), (8, 0), (10, 0), (0, 0), (1, 2), (2, 0), (3, 2), (9, 0), (11, 0)]
abbrev Q1DN : AC := .par [.o 25 (.faddr z7_ 3), .o 26 (.load z25_ false 1), .o 27 (.faddr z3_ 3), .o 28 (.load z27_ false 1), .m 29 z8_, .o 30 (.iaddr z28_ z29_ 4), .o 31 (.load z30_ true 4), .m 32 z1_, .m 33 z2_, .c 34 n_ref3_SwapExpr [z31_, z32_, z33_], .o 35 (.bslice [(.int .i64 0), (.int .i64 0), (.str []), (.slice .full 0 [])] 4 1 [(0, z34_)]), .o 36 (.app 4 56 z26_ z35_), .o 37 (.faddr z7_ 3), .op none none (.store z37_ z36_ 1)] [(2, 0), (3, 0), (4, 0), (5, 0), (6, 0), (7, 0), (8, 0), (9, 0), (0, 0), (1, 1), (10, 0), (11, 0), (12, 0), (13, 0)]
abbrev Q1DS : AC := .seq (.cond z23_ .skip (.exit 0)) (.seq (.block 1 (.seq (.run [.m 24 z22_, .m 8 z24_]) Q1DN)) (.run [.o 38 (.bin .add z22_ (.k (.int .i64 1))), .m 22 z38_]))
abbrev Q1DW : AC := .seq (.run [.o 19 (.faddr z3_ 3), .o 20 (.load z19_ false 1), .o 21 (.len z20_), .o 22 (.mv (.k (.int .i64 0)))]) (.block 0 (.loop (.seq (.run [.o 23 (.bin .lss z22_ z21_)]) Q1DS)))
abbrev Q1E1 : AC := .seq (.run [.o 3 (.box z0_), .o 6 (.alloc [(.int .i64 0), (.int .i64 0), (.str []), (.slice .full 0 [])])]) (.seq Q1DI (.seq Q1DW (.seq (.run [.o 39 (.load z7_ true 4), .op none none (.store z6_ z39_ 4)]) .ret)))
abbrev Q1E3 : AC := .par [.m 7 z1_, .o 8 (.bin .lss z7_ (.k (.int .i64 1))), .m 9 z8_, .g 10 9 false (.faddr z2_ 3), .g 11 9 false (.load z10_ false 1), .g 12 9 false (.len z11_), .g 13 9 false (.faddr z2_ 0), .g 14 9 false (.load z13_ false 1), .d 15 9 false n_tree_kids [z14_], .g 16 9 false (.bin .neq z12_ z15_), .o 17 (.pick z9_ (.k (.bool true)) z16_)] [(0, 0), (1, 0), (2, 0), (6, 0), (7, 0), (8, 0), (3, 0), (4, 1), (5, 0), (9, 0), (10, 0)]
abbrev Q1E6 : AC := .cond z17_ (.seq (.run [.o 4 (.mv (.k (.bool false)))]) .ret) .skip
abbrev Q1EF : AC := .cond z30_ (.seq (.run [.o 32 (.faddr z2_ 1), .o 33 (.load z32_ false 1), .o 34 (.bin .eql z33_ (.k (.int .i64 0))), .m 35 z34_, .g 36 35 true (.faddr z2_ 2), .g 37 35 true (.load z36_ false 1), .d 38 35 true n_lex_Name [z37_], .o 39 (.pick z35_ z38_ (.k (.bool false))), .m 4 z39_]) .ret) .skip
abbrev Q1EH : AC := .cond z20_ (.seq (.run [.o 22 (.faddr z2_ 1), .o 23 (.load z22_ false 1), .o 24 (.bin .geq z23_ (.k (.int .i64 0))), .m 25 z24_, .g 26 25 true (.faddr z2_ 2), .g 27 25 true (.load z26_ false 1), .g 28 25 true (.bin .eql z27_ (.k (.str []))), .o 29 (.pick z25_ z28_ (.k (.bool false))), .m 4 z29_]) .ret) (.seq (.run [.o 31 (.bin .eql z19_ (.k (.int .i64 2))), .m 30 z31_]) Q1EF)
abbrev Q1EJ : AC := .block 0 (.seq (.run [.o 21 (.bin .eql z19_ (.k (.int .i64 1))), .m 20 z21_]) Q1EH)
abbrev Q1EO : AC := .cond z47_ (.seq (.run [.o 4 (.mv (.k (.bool false)))]) .ret) .skip
abbrev Q1EX : AC := .cond z59_ (.seq (.run [.o 4 (.mv (.k (.bool false)))]) .ret) .skip
abbrev Q1EZ : AC := .seq (.run [.o 53 (.iaddr z49_ z51_ 4), .o 54 (.load z53_ true 4), .o 6 (.alloc [(.int .i64 0), (.int .i64 0), (.str []), (.slice .full 0 [])]), .op none none (.store z6_ z54_ 4)]) (.seq (.run [.o 55 (.load z6_ true 4), .m 56 z1_, .o 57 (.bin .sub z56_ (.k (.int .i64 1))), .c 58 n_tree_deep [z55_, z57_], .o 59 (.un .not z58_)]) Q1EX)
abbrev Q1F3 : AC := .seq (.cond z52_ .skip (.exit 1)) (.seq (.block 2 Q1EZ) (.run [.o 60 (.bin .add z51_ (.k (.int .i64 1))), .m 51 z60_]))
abbrev Q1F7 : AC := .seq (.run [.o 48 (.faddr z2_ 3), .o 49 (.load z48_ false 1), .o 50 (.len z49_), .o 51 (.mv (.k (.int .i64 0)))]) (.block 1 (.loop (.seq (.run [.o 52 (.bin .lss z51_ z50_)]) Q1F3)))
abbrev Q1FA : AC := .seq Q1F7 (.seq (.run [.o 4 (.mv (.k (.bool true)))]) .ret)
abbrev Q1FB : AC := .seq (.seq (.run [.o 40 (.faddr z2_ 1), .o 41 (.load z40_ false 1), .o 42 (.bin .neq z41_ (.k (.int .i64 0))), .m 43 z42_, .g 44 43 false (.faddr z2_ 2), .g 45 43 false (.load z44_ false 1), .g 46 43 false (.bin .neq z45_ (.k (.str []))), .o 47 (.pick z43_ (.k (.bool true)) z46_)]) Q1EO) Q1FA
abbrev Q1FE : AC := .seq (.run [.o 2 (.box z0_), .o 4 (.mv (.k (.bool false)))]) (.seq (.seq Q1E3 Q1E6) (.seq (.seq (.run [.o 18 (.faddr z2_ 0), .o 19 (.load z18_ false 1)]) Q1EJ) Q1FB))
abbrev Q1GK : AC := .cond z29_ (.seq (.run [.o 2 (.mv (.k (.str [37]))), .o 3 (.mv (.k (.int .i64 6)))]) .ret) .skip
abbrev Q1GM : AC := .cond z27_ (.seq (.run [.o 2 (.mv (.k (.str [47]))), .o 3 (.mv (.k (.int .i64 6)))]) .ret) (.seq (.run [.o 30 (.bin .eql z4_ (.k (.int .i64 7))), .m 29 z30_]) Q1GK)
abbrev Q1GO : AC := .cond z25_ (.seq (.run [.o 2 (.mv (.k (.str [42]))), .o 3 (.mv (.k (.int .i64 6)))]) .ret) (.seq (.run [.o 28 (.bin .eql z4_ (.k (.int .i64 6))), .m 27 z28_]) Q1GM)
abbrev Q1GQ : AC := .cond z23_ (.seq (.run [.o 2 (.mv (.k (.str [45]))), .o 3 (.mv (.k (.int .i64 5)))]) .ret) (.seq (.run [.o 26 (.bin .eql z4_ (.k (.int .i64 5))), .m 25 z26_]) Q1GO)
abbrev Q1GS : AC := .cond z21_ (.seq (.run [.o 2 (.mv (.k (.str [43]))), .o 3 (.mv (.k (.int .i64 5)))]) .ret) (.seq (.run [.o 24 (.bin .eql z4_ (.k (.int .i64 9))), .m 23 z24_]) Q1GQ)
abbrev Q1GU : AC := .cond z19_ (.seq (.run [.o 2 (.mv (.k (.str [62, 61]))), .o 3 (.mv (.k (.int .i64 4)))]) .ret) (.seq (.run [.o 22 (.bin .eql z4_ (.k (.int .i64 8))), .m 21 z22_]) Q1GS)
abbrev Q1GW : AC := .cond z17_ (.seq (.run [.o 2 (.mv (.k (.str [62]))), .o 3 (.mv (.k (.int .i64 4)))]) .ret) (.seq (.run [.o 20 (.bin .eql z4_ (.k (.int .i64 13))), .m 19 z20_]) Q1GU)
abbrev Q1GY : AC := .cond z15_ (.seq (.run [.o 2 (.mv (.k (.str [60, 61]))), .o 3 (.mv (.k (.int .i64 4)))]) .ret) (.seq (.run [.o 18 (.bin .eql z4_ (.k (.int .i64 12))), .m 17 z18_]) Q1GW)
abbrev Q1H0 : AC := .cond z13_ (.seq (.run [.o 2 (.mv (.k (.str [60]))), .o 3 (.mv (.k (.int .i64 4)))]) .ret) (.seq (.run [.o 16 (.bin .eql z4_ (.k (.int .i64 11))), .m 15 z16_]) Q1GY)
abbrev Q1H2 : AC := .cond z11_ (.seq (.run [.o 2 (.mv (.k (.str [33, 61]))), .o 3 (.mv (.k (.int .i64 3)))]) .ret) (.seq (.run [.o 14 (.bin .eql z4_ (.k (.int .i64 10))), .m 13 z14_]) Q1H0)
abbrev Q1H4 : AC := .cond z9_ (.seq (.run [.o 2 (.mv (.k (.str [61, 61]))), .o 3 (.mv (.k (.int .i64 3)))]) .ret) (.seq (.run [.o 12 (.bin .eql z4_ (.k (.int .i64 15))), .m 11 z12_]) Q1H2)
abbrev Q1H6 : AC := .cond z7_ (.seq (.run [.o 2 (.mv (.k (.str [38, 38]))), .o 3 (.mv (.k (.int .i64 2)))]) .ret) (.seq (.run [.o 10 (.bin .eql z4_ (.k (.int .i64 14))), .m 9 z10_]) Q1H4)
abbrev Q1H8 : AC := .cond z5_ (.seq (.run [.o 2 (.mv (.k (.str [124, 124]))), .o 3 (.mv (.k (.int .i64 1)))]) .ret) (.seq (.run [.o 8 (.bin .eql z4_ (.k (.int .i64 16))), .m 7 z8_]) Q1H6)
abbrev Q1HA : AC := .block 0 (.seq (.run [.o 6 (.bin .eql z4_ (.k (.int .i64 17))), .m 5 z6_]) Q1H8)
abbrev Q1HE : AC := .seq (.seq (.run [.m 4 z0_]) Q1HA) (.seq (.run [.o 2 (.mv (.k (.str []))), .o 3 (.mv (.k (.int .i64 7)))]) .ret)
abbrev Q1HF : AC := .seq (.run [.o 2 (.mv (.k (.str []))), .o 3 (.mv (.k (.int .i64 0)))]) Q1HE
abbrev Q1HH : AC := .par [.o 10 (.faddr z1_ 9), .o 11 (.load z10_ false 1), .o 3 (.mv (.k (.bool false))), .o 4 (.mv (.k (.bool false))), .o 5 (.mv (.k (.bool false))), .m 6 z11_, .o 7 (.mv (.k (.bool false))), .o 8 (.mv (.k (.bool false)))] [(0, 0), (1, 0), (2, 0), (3, 0), (4, 0), (5, 0), (6, 0), (7, 0)]
abbrev Q1HP : AC := .seq (.run [.o 20 (.bin .eql z16_ (.k (.int .i64 2))), .m 19 z20_]) (.cond z19_ .skip (.run [.o 21 (.bin .eql z16_ (.k (.int .i64 10))), .m 19 z21_]))
abbrev Q1I4 : AC := .seq (.run [.o 38 (.bin .eql z16_ (.k (.int .i64 7))), .m 37 z38_]) (.cond z37_ .skip (.run [.o 39 (.bin .eql z16_ (.k (.int .i64 8))), .m 37 z39_]))
abbrev Q1I7 : AC := .cond z37_ .skip (.seq (.run [.o 2 (.mv (.k (.bool false)))]) .ret)
abbrev Q1IA : AC := .seq (.run [.o 34 (.bin .eql z16_ (.k (.int .i64 9))), .m 33 z34_]) (.cond z33_ (.run [.o 35 (.faddr z1_ 9), .o 36 (.load z35_ false 1), .m 5 z36_, .o 6 (.mv (.k (.bool false)))]) (.seq Q1I4 Q1I7))
abbrev Q1IC : AC := .seq (.run [.o 32 (.bin .eql z16_ (.k (.int .i64 6))), .m 31 z32_]) (.cond z31_ (.run [.o 5 (.mv (.k (.bool true))), .o 7 (.mv (.k (.bool true)))]) Q1IA)
abbrev Q1IE : AC := .seq (.run [.o 30 (.bin .eql z16_ (.k (.int .i64 5))), .m 29 z30_]) (.cond z29_ (.run [.o 5 (.mv (.k (.bool true))), .o 7 (.mv (.k (.bool true))), .o 8 (.mv (.k (.bool true)))]) Q1IC)
abbrev Q1IG : AC := .seq (.run [.o 25 (.bin .eql z16_ (.k (.int .i64 4))), .m 24 z25_]) (.cond z24_ (.run [.o 26 (.faddr z1_ 3), .o 27 (.load z26_ false 1), .o 28 (.bin .neq z27_ (.k (.str []))), .m 3 z28_, .o 4 (.mv (.k (.bool true)))]) Q1IE)
abbrev Q1II : AC := .seq (.run [.o 23 (.bin .eql z16_ (.k (.int .i64 3))), .m 22 z23_]) (.cond z22_ (.run [.o 5 (.mv (.k (.bool true)))]) Q1IG)
abbrev Q1IK : AC := .seq Q1HP (.cond z19_ (.run [.o 3 (.mv (.k (.bool true)))]) Q1II)
abbrev Q1IM : AC := .seq (.run [.o 18 (.bin .eql z16_ (.k (.int .i64 1))), .m 17 z18_]) (.cond z17_ (.run [.o 3 (.mv (.k (.bool true))), .o 5 (.mv (.k (.bool true)))]) Q1IK)
abbrev Q1IP : AC := .run [.m 40 z6_, .m 41 z40_, .g 42 41 false (.mv z7_), .g 43 41 false (.un .not z42_), .g 44 41 false (.mv z43_), .g 45 44 true (.faddr z1_ 11), .g 46 44 true (.load z45_ false 1), .g 47 44 true (.len z46_), .g 48 44 true (.bin .gtr z47_ (.k (.int .i64 0))), .g 49 41 false (.pick z44_ z48_ (.k (.bool false))), .o 50 (.pick z41_ (.k (.bool true)) z49_), .m 51 z50_, .g 52 51 false (.mv z8_), .g 53 51 false (.un .not z52_), .g 54 51 false (.mv z53_), .g 55 54 true (.faddr z1_ 12), .g 56 54 true (.load z55_ false 1), .g 57 54 true (.len z56_), .g 58 54 true (.bin .gtr z57_ (.k (.int .i64 0))), .g 59 51 false (.pick z54_ z58_ (.k (.bool false))), .o 60 (.pick z51_ (.k (.bool true)) z59_), .m 61 z60_, .g 62 61 false (.mv z9_), .g 63 61 false (.un .not z62_), .g 64 61 false (.mv z63_), .g 65 64 true (.faddr z1_ 10), .g 66 64 true (.load z65_ false 1), .g 67 64 true (.len z66_), .g 68 64 true (.bin .gtr z67_ (.k (.int .i64 0))), .g 69 61 false (.pick z64_ z68_ (.k (.bool false))), .o 70 (.pick z61_ (.k (.bool true)) z69_)]
abbrev Q1IS : AC := .cond z70_ (.seq (.run [.o 2 (.mv (.k (.bool false)))]) .ret) .skip
abbrev Q1IX : AC := .cond z89_ (.seq (.run [.o 2 (.mv (.k (.bool false)))]) .ret) .skip
abbrev Q1J1 : AC := .seq (.seq (.run [.o 71 (.faddr z1_ 3), .o 72 (.load z71_ false 1), .m 73 z3_, .c 74 n_tree_named [z72_, z73_], .o 75 (.un .not z74_), .m 76 z75_, .g 77 76 false (.faddr z1_ 4), .g 78 76 false (.load z77_ false 1), .g 79 76 false (.mv z4_), .d 80 76 false n_tree_named [z78_, z79_], .g 81 76 false (.un .not z80_), .o 82 (.pick z76_ (.k (.bool true)) z81_), .m 83 z82_, .g 84 83 false (.faddr z1_ 5), .g 85 83 false (.load z84_ true 4), .g 86 83 false (.mv z5_), .d 87 83 false n_tree_worth [z85_, z86_], .g 88 83 false (.un .not z87_), .o 89 (.pick z83_ (.k (.bool true)) z88_)]) Q1IX) (.seq (.run [.o 90 (.faddr z1_ 10), .o 91 (.load z90_ false 1), .c 92 n_tree_handed [z91_], .m 2 z92_]) .ret)
abbrev Q1J2 : AC := .seq (.seq Q1IP Q1IS) Q1J1
abbrev Q1J3 : AC := .seq (.seq (.run [.o 15 (.faddr z1_ 1), .o 16 (.load z15_ false 1)]) (.block 0 Q1IM)) Q1J2
abbrev Q1J4 : AC := .seq (.run [.o 12 (.faddr z1_ 1), .o 13 (.load z12_ false 1), .o 14 (.bin .eql z13_ (.k (.int .i64 4))), .m 9 z14_]) Q1J3
abbrev Q1J5 : AC := .seq Q1HH Q1J4
abbrev Q1J6 : AC := .seq (.run [.o 1 (.box z0_), .o 2 (.mv (.k (.bool false)))]) Q1J5

end Go.Abs

/-! Have1 -/

namespace Go.Abs
open Go.Proofs

theorem has_lex_digit : Has Tryz.prog n_lex_digit 9 [(2, none)] QO1 := ⟨Tryz.f33, by kernel_rfl, by kernel_rfl⟩
theorem has_lex_sign : Has Tryz.prog n_lex_sign 42 [(4, none)] QQE := ⟨Tryz.f34, by kernel_rfl, by kernel_rfl⟩
theorem has_lex_run : Has Tryz.prog n_lex_run 24 [(4, none)] QQR := ⟨Tryz.f35, by kernel_rfl, by kernel_rfl⟩
theorem has_lex_Word : Has Tryz.prog n_lex_Word 18 [(2, none)] QS4 := ⟨Tryz.f36, by kernel_rfl, by kernel_rfl⟩
theorem has_lex_number : Has Tryz.prog n_lex_number 28 [(2, none), (3, none)] QSV := ⟨Tryz.f37, by kernel_rfl, by kernel_rfl⟩
theorem has_ref3_Flat : Has Tryz.prog n_ref3_Flat 6 [(2, none)] QSZ := ⟨Tryz.f38, by kernel_rfl, by kernel_rfl⟩
theorem has_ref3_tokensOf : Has Tryz.prog n_ref3_tokensOf 32 [(2, none)] QTK := ⟨Tryz.f39, by kernel_rfl, by kernel_rfl⟩
theorem has_parse_reader_program : Has Tryz.prog n_parse_reader_program 49 [(2, (some (true, 2)))] QUN := ⟨Tryz.f40, by kernel_rfl, by kernel_rfl⟩
theorem has_tree_Number : Has Tryz.prog n_tree_Number 47 [(2, (some (true, 2)))] QVE := ⟨Tryz.f41, by kernel_rfl, by kernel_rfl⟩
theorem has_ref3_EqTexts : Has Tryz.prog n_ref3_EqTexts 26 [(4, none)] QW7 := ⟨Tryz.f42, by kernel_rfl, by kernel_rfl⟩
theorem has_ref3_EqStmts : Has Tryz.prog n_ref3_EqStmts 27 [(4, none)] QX0 := ⟨Tryz.f43, by kernel_rfl, by kernel_rfl⟩
theorem has_ref3_SwapTexts : Has Tryz.prog n_ref3_SwapTexts 25 [(6, none)] QXL := ⟨Tryz.f44, by kernel_rfl, by kernel_rfl⟩
theorem has_ref3_other : Has Tryz.prog n_ref3_other 17 [(6, none)] QY3 := ⟨Tryz.f45, by kernel_rfl, by kernel_rfl⟩
theorem has_ref3_SwapStmts : Has Tryz.prog n_ref3_SwapStmts 90 [(6, none)] QZ7 := ⟨Tryz.f46, by kernel_rfl, by kernel_rfl⟩
theorem has_ref3_num : Has Tryz.prog n_ref3_num 5 [(2, (some (true, 4)))] QZB := ⟨Tryz.f47, by kernel_rfl, by kernel_rfl⟩
theorem has_ref3_name : Has Tryz.prog n_ref3_name 5 [(2, (some (true, 4)))] QZF := ⟨Tryz.f48, by kernel_rfl, by kernel_rfl⟩
theorem has_ref3_two : Has Tryz.prog n_ref3_two 12 [(6, (some (true, 4)))] QZJ := ⟨Tryz.f49, by kernel_rfl, by kernel_rfl⟩
theorem has_tree_MayExpr : Has Tryz.prog n_tree_MayExpr 5 [(2, none)] QZN := ⟨Tryz.f50, by kernel_rfl, by kernel_rfl⟩
theorem has_print_expr : Has Tryz.prog n_print_expr 66 [(4, none)] Q10P := ⟨Tryz.f51, by kernel_rfl, by kernel_rfl⟩
theorem has_ref3_weighExpr : Has Tryz.prog n_ref3_weighExpr 29 [(4, none)] Q118 := ⟨Tryz.f52, by kernel_rfl, by kernel_rfl⟩
theorem has_tree_names : Has Tryz.prog n_tree_names 15 [(2, none)] Q11V := ⟨Tryz.f53, by kernel_rfl, by kernel_rfl⟩
theorem has_tree_looker_rows : Has Tryz.prog n_tree_looker_rows 71 [(6, none)] Q12W := ⟨Tryz.f54, by kernel_rfl, by kernel_rfl⟩
theorem has_strings_Builder_WriteByte : Has Tryz.prog n_strings_Builder_WriteByte 17 [(4, none)] Q134 := ⟨Tryz.f55, by kernel_rfl, by kernel_rfl⟩
theorem has_strings_Builder_WriteString : Has Tryz.prog n_strings_Builder_WriteString 19 [(4, none), (5, none)] Q13C := ⟨Tryz.f56, by kernel_rfl, by kernel_rfl⟩
theorem has_print_plain : Has Tryz.prog n_print_plain 85 [(2, none)] Q15I := ⟨Tryz.f58, by kernel_rfl, by kernel_rfl⟩
theorem has_ref1_small : Has Tryz.prog n_ref1_small 9 [(2, none)] Q15M := ⟨Tryz.f59, by kernel_rfl, by kernel_rfl⟩
theorem has_ref1_digit : Has Tryz.prog n_ref1_digit 9 [(2, none)] Q15Q := ⟨Tryz.f60, by kernel_rfl, by kernel_rfl⟩
theorem has_ref1_Word : Has Tryz.prog n_ref1_Word 15 [(2, none)] Q16D := ⟨Tryz.f61, by kernel_rfl, by kernel_rfl⟩
theorem has_ref3_MayExpr : Has Tryz.prog n_ref3_MayExpr 10 [(2, none)] Q16H := ⟨Tryz.f62, by kernel_rfl, by kernel_rfl⟩
theorem has_ref3_none : Has Tryz.prog n_ref3_none 22 [(2, none)] Q16L := ⟨Tryz.f63, by kernel_rfl, by kernel_rfl⟩
theorem has_ref3_arg : Has Tryz.prog n_ref3_arg 21 [(2, none)] Q16V := ⟨Tryz.f64, by kernel_rfl, by kernel_rfl⟩
theorem has_ref3_flat : Has Tryz.prog n_ref3_flat 65 [(10, none)] Q17J := ⟨Tryz.f65, by kernel_rfl, by kernel_rfl⟩
theorem has_ref3_Size : Has Tryz.prog n_ref3_Size 31 [(4, none)] Q182 := ⟨Tryz.f66, by kernel_rfl, by kernel_rfl⟩
theorem has_parse_reader_take : Has Tryz.prog n_parse_reader_take 21 [(4, none)] Q18E := ⟨Tryz.f67, by kernel_rfl, by kernel_rfl⟩
theorem has_parse_reader_names : Has Tryz.prog n_parse_reader_names 25 [(6, none)] Q18Z := ⟨Tryz.f68, by kernel_rfl, by kernel_rfl⟩
theorem has_parse_reader_good : Has Tryz.prog n_parse_reader_good 9 [(2, none)] Q193 := ⟨Tryz.f69, by kernel_rfl, by kernel_rfl⟩
theorem has_parse_reader_is : Has Tryz.prog n_parse_reader_is 22 [(4, none)] Q199 := ⟨Tryz.f70, by kernel_rfl, by kernel_rfl⟩
theorem has_parse_reader_bad : Has Tryz.prog n_parse_reader_bad 14 [] Q19D := ⟨Tryz.f71, by kernel_rfl, by kernel_rfl⟩
theorem has_parse_reader_proc : Has Tryz.prog n_parse_reader_proc 56 [(2, (some (true, 5)))] Q1AI := ⟨Tryz.f72, by kernel_rfl, by kernel_rfl⟩
theorem has_parse_reader_peek : Has Tryz.prog n_parse_reader_peek 13 [(2, (some (true, 4)))] Q1AM := ⟨Tryz.f73, by kernel_rfl, by kernel_rfl⟩
theorem has_slices_Clone_string : Has Tryz.prog n_slices_Clone_string 8 [(2, none)] Q1AW := ⟨Tryz.f74, by kernel_rfl, by kernel_rfl⟩
theorem has_slices_Clone_api_Param : Has Tryz.prog n_slices_Clone_api_Param 8 [(2, none)] Q1B6 := ⟨Tryz.f75, by kernel_rfl, by kernel_rfl⟩
theorem has_tree_copied : Has Tryz.prog n_tree_copied 78 [(6, none), (7, none)] Q1CN := ⟨Tryz.f76, by kernel_rfl, by kernel_rfl⟩
theorem has_ref3_eqOne : Has Tryz.prog n_ref3_eqOne 127 [(4, none)] Q1DG := ⟨Tryz.f77, by kernel_rfl, by kernel_rfl⟩
theorem has_ref3_SwapExpr : Has Tryz.prog n_ref3_SwapExpr 40 [(6, (some (true, 4)))] Q1E1 := ⟨Tryz.f78, by kernel_rfl, by kernel_rfl⟩
theorem has_tree_deep : Has Tryz.prog n_tree_deep 61 [(4, none)] Q1FE := ⟨Tryz.f79, by kernel_rfl, by kernel_rfl⟩
theorem has_print_sign : Has Tryz.prog n_print_sign 31 [(2, none), (3, none)] Q1HF := ⟨Tryz.f81, by kernel_rfl, by kernel_rfl⟩
theorem has_tree_fields : Has Tryz.prog n_tree_fields 93 [(2, none)] Q1J6 := ⟨Tryz.f82, by kernel_rfl, by kernel_rfl⟩

end Go.Abs

/-! Codes2 -/

namespace Go.Abs

abbrev Q1J9 : AC := .seq (.run [(.o 1 (.bslice [(.str [])] 1 13 [(0, (.k (.str [103, 108, 111, 98, 97, 108]))), (1, (.k (.str [112, 114, 111, 99]))), (2, (.k (.str [118, 97, 114]))), (3, (.k (.str [114, 101, 102]))), (4, (.k (.str [105, 102]))), (5, (.k (.str [101, 108, 115, 101]))), (6, (.k (.str [119, 104, 105, 108, 101]))), (7, (.k (.str [98, 114, 101, 97, 107]))), (8, (.k (.str [99, 111, 110, 116, 105, 110, 117, 101]))), (9, (.k (.str [114, 101, 116, 117, 114, 110]))), (10, (.k (.str [103, 111, 116, 111]))), (11, (.k (.str [114, 101, 97, 100]))), (12, (.k (.str [112, 114, 105, 110, 116])))])), .m 0 z1_]) .ret
abbrev Q1JA : AC := .seq (.run [.o 0 (.mv (.k (.slice .full 0 [])))]) Q1J9
abbrev Q1JF : AC := .cond z9_ (.seq (.run [.o 4 (.mv (.k (.int .i64 1)))]) .ret) .skip
abbrev Q1JS : AC := .block 1 (.seq (.run [.o 22 (.faddr z2_ 3), .o 23 (.load z22_ false 1), .m 24 z6_, .o 25 (.iaddr z23_ z24_ 4), .o 26 (.load z25_ true 4), .m 27 z1_, .o 28 (.bin .sub z27_ (.k (.int .i64 1))), .c 29 n_ref3_deep [z26_, z28_], .m 7 z29_]) (.seq (.run [.m 30 z7_, .m 31 z5_, .o 32 (.bin .gtr z30_ z31_)]) (.cond z32_ (.run [.m 33 z7_, .m 5 z33_]) .skip)))
abbrev Q1JV : AC := .seq (.seq (.run [.m 10 z6_, .o 11 (.faddr z2_ 3), .o 12 (.load z11_ false 1), .o 13 (.len z12_), .o 14 (.bin .lss z10_ z13_), .m 15 z14_, .g 16 15 true (.mv z5_), .g 17 15 true (.mv z1_), .g 18 15 true (.bin .lss z16_ z17_), .o 19 (.pick z15_ z18_ (.k (.bool false)))]) (.cond z19_ .skip (.exit 0))) (.seq Q1JS (.run [.m 20 z6_, .o 21 (.bin .add z20_ (.k (.int .i64 1))), .m 6 z21_]))
abbrev Q1K1 : AC := .seq (.seq (.run [.o 6 (.mv (.k (.int .i64 0)))]) (.block 0 (.loop Q1JV))) (.seq (.run [.m 34 z5_, .o 35 (.bin .add z34_ (.k (.int .i64 1))), .m 4 z35_]) .ret)
abbrev Q1K3 : AC := .seq (.seq (.run [.m 8 z1_, .o 9 (.bin .eql z8_ (.k (.int .i64 0)))]) Q1JF) (.seq (.run [.o 5 (.mv (.k (.int .i64 0)))]) Q1K1)
abbrev Q1K4 : AC := .seq (.run [.o 2 (.box z0_), .o 4 (.mv (.k (.int .i64 0)))]) Q1K3
abbrev Q1K6 : AC := .par [.o 4 (.faddr z1_ 0), .o 5 (.load z4_ false 1), .c 6 n_ref3_Arity [z5_], .o 7 (.faddr z1_ 3), .o 8 (.load z7_ false 1), .o 9 (.len z8_), .o 10 (.bin .neq z6_ z9_), .m 11 z10_, .g 12 11 false (.faddr z1_ 0), .g 13 11 false (.load z12_ false 1), .g 14 11 false (.bin .neq z13_ (.k (.int .i64 1))), .g 15 11 false (.mv z14_), .g 16 15 true (.faddr z1_ 1), .g 17 15 true (.load z16_ false 1), .g 18 15 true (.bin .neq z17_ (.k (.int .i64 0))), .g 19 11 false (.pick z15_ z18_ (.k (.bool false))), .o 20 (.pick z11_ (.k (.bool true)) z19_), .m 21 z20_, .g 22 21 false (.faddr z1_ 1), .g 23 21 false (.load z22_ false 1), .g 24 21 false (.bin .lss z23_ (.k (.int .i64 0))), .o 25 (.pick z21_ (.k (.bool true)) z24_), .m 26 z25_, .g 27 26 false (.faddr z1_ 0), .g 28 26 false (.load z27_ false 1), .g 29 26 false (.bin .eql z28_ (.k (.int .i64 2))), .g 30 26 false (.faddr z1_ 2), .g 31 26 false (.load z30_ false 1), .g 32 26 false (.bin .neq z31_ (.k (.str []))), .g 33 26 false (.eqb true z29_ z32_), .o 34 (.pick z26_ (.k (.bool true)) z33_), .m 35 z34_, .g 36 35 false (.faddr z1_ 2), .g 37 35 false (.load z36_ false 1), .g 38 35 false (.bin .neq z37_ (.k (.str []))), .g 39 35 false (.mv z38_), .g 40 39 true (.faddr z1_ 2), .g 41 39 true (.load z40_ false 1), .d 42 39 true n_ref1_Name [z41_], .g 43 39 true (.un .not z42_), .g 44 35 false (.pick z39_ z43_ (.k (.bool false))), .o 45 (.pick z35_ (.k (.bool true)) z44_)] [(0, 0), (1, 0), (2, 0), (3, 0), (4, 1), (5, 0), (6, 0), (7, 0), (8, 0), (9, 0), (10, 0), (11, 0), (12, 0), (13, 0), (14, 0), (15, 0), (16, 0), (17, 0), (18, 0), (19, 0), (20, 0), (21, 0), (22, 0), (23, 0), (24, 0), (25, 0), (26, 0), (27, 0), (28, 0), (29, 0), (30, 0), (31, 0), (32, 0), (33, 0), (34, 0), (35, 0), (36, 0), (37, 0), (38, 0), (39, 0), (40, 0), (41, 0)]
abbrev Q1K9 : AC := .cond z45_ (.seq (.run [.o 2 (.mv (.k (.bool false)))]) .ret) .skip
abbrev Q1KI : AC := .cond z58_ (.seq (.run [.o 2 (.mv (.k (.bool false)))]) .ret) .skip
abbrev Q1KN : AC := .seq (.block 1 (.seq (.run [.m 51 z49_, .m 3 z51_]) (.seq (.run [.o 52 (.faddr z1_ 3), .o 53 (.load z52_ false 1), .m 54 z3_, .o 55 (.iaddr z53_ z54_ 4), .o 56 (.load z55_ true 4), .c 57 n_ref3_form [z56_], .o 58 (.un .not z57_)]) Q1KI))) (.run [.o 59 (.bin .add z49_ (.k (.int .i64 1))), .m 49 z59_])
abbrev Q1KR : AC := .block 0 (.loop (.seq (.run [.o 50 (.bin .lss z49_ z48_)]) (.seq (.cond z50_ .skip (.exit 0)) Q1KN)))
abbrev Q1KV : AC := .seq (.seq (.run [.o 46 (.faddr z1_ 3), .o 47 (.load z46_ false 1), .o 48 (.len z47_), .o 49 (.mv (.k (.int .i64 0)))]) Q1KR) (.seq (.run [.o 2 (.mv (.k (.bool true)))]) .ret)
abbrev Q1KX : AC := .seq (.run [.o 1 (.box z0_), .o 2 (.mv (.k (.bool false)))]) (.seq (.seq Q1K6 Q1K9) Q1KV)
abbrev Q1L4 : AC := .seq (.run [.m 16 z0_, .c 17 n_parse_reader_bad [z16_, (.k (.int .i64 3))]]) (.seq (.run [.o 4 (.mv (.k (.str [])))]) .ret)
abbrev Q1LB : AC := .seq (.run [.m 20 z0_, .c 21 n_parse_reader_bad [z20_, (.k (.int .i64 4))]]) (.seq (.run [.o 4 (.mv (.k (.str [])))]) .ret)
abbrev Q1LI : AC := .seq (.seq (.run [.m 18 z1_, .o 19 (.un .not z18_)]) (.cond z19_ Q1LB .skip)) (.seq (.run [.m 22 z0_, .o 23 (.nilck z22_), .o 24 (.faddr z23_ 1), .o 25 (.load z24_ false 1), .o 26 (.bin .add z25_ (.k (.int .i64 1))), .o 27 (.nilck z22_), .o 28 (.faddr z27_ 1), .op none none (.store z28_ z26_ 1)]) (.seq (.run [.o 29 (.faddr z5_ 1), .o 30 (.load z29_ false 1), .m 4 z30_]) .ret))
abbrev Q1LJ : AC := .seq (.seq (.run [.m 8 z0_, .c 9 n_parse_reader_good [z8_], .o 10 (.un .not z9_), .m 11 z10_, .g 12 11 false (.faddr z5_ 0), .g 13 11 false (.load z12_ false 1), .g 14 11 false (.bin .neq z13_ (.k (.int .i64 1))), .o 15 (.pick z11_ (.k (.bool true)) z14_)]) (.cond z15_ Q1L4 .skip)) Q1LI
abbrev Q1LL : AC := .seq (.run [.o 4 (.mv (.k (.str [])))]) (.seq (.run [.m 6 z0_, .c 7 n_parse_reader_peek [z6_], .o 5 (.alloc [(.int .i64 0), (.str []), (.int .i64 0), (.int .i64 0)]), .op none none (.store z5_ z7_ 4)]) Q1LJ)
abbrev Q1LP : AC := .seq (.run [.m 4 z0_, .m 5 z1_, .c 6 n_parse_reader_take [z4_, z5_], .o 7 (.un .not z6_)]) (.cond z7_ (.run [.m 8 z0_, .c 9 n_parse_reader_bad [z8_, (.k (.int .i64 3))]]) .skip)
abbrev Q1M1 : AC := .cond z24_ (.seq (.run [.m 25 z0_, .o 26 (.nilck z25_), .o 27 (.faddr z26_ 1), .o 28 (.load z27_ false 1), .o 29 (.bin .add z28_ (.k (.int .i64 1))), .o 30 (.nilck z25_), .o 31 (.faddr z30_ 1), .op none none (.store z31_ z29_ 1)]) (.seq (.run [.m 32 z8_, .m 33 z9_, .m 6 z32_, .m 7 z33_]) .ret)) .skip
abbrev Q1M8 : AC := .seq (.seq (.run [.m 15 z0_, (.c 16 n_parse_reader_is [z15_, (.k (.str [125]))]), .m 17 z16_, .g 18 17 true (.mv z2_), .g 19 17 true (.mv z18_), .g 20 19 false (.mv z9_), .g 21 19 false (.len z20_), .g 22 19 false (.bin .eql z21_ (.k (.int .i64 0))), .g 23 17 true (.pick z19_ (.k (.bool true)) z22_), .o 24 (.pick z17_ z23_ (.k (.bool false)))]) Q1M1) (.seq (.run [.m 34 z0_, .m 35 z1_, .c 36 n_parse_reader_stmt [z34_, z35_], .o 10 (.alloc [(.int .i64 0), (.int .i64 0), (.slice .full 0 []), (.str []), (.str []), (.int .i64 0), (.int .i64 0), (.str []), (.slice .full 0 []), (.bool false), (.slice .full 0 []), (.slice .full 0 []), (.slice .full 0 [])]), .op none none (.store z10_ z36_ 13)]) (.seq (.run [.m 37 z9_, .o 38 (.faddr z10_ 2), .op none none (.store z38_ z37_ 1)]) (.run [.m 39 z8_, .o 40 (.load z10_ true 13), .o 41 (.bslice [(.int .i64 0), (.int .i64 0), (.slice .full 0 []), (.str []), (.str []), (.int .i64 0), (.int .i64 0), (.str []), (.slice .full 0 []), (.bool false), (.slice .full 0 []), (.slice .full 0 []), (.slice .full 0 [])] 13 1 [(0, z40_)]), .o 42 (.app 13 208 z39_ z41_), .m 8 z42_])))
abbrev Q1MD : AC := .block 0 (.loop (.seq (.seq (.run [.m 11 z0_, .c 12 n_parse_reader_good [z11_]]) (.cond z12_ .skip (.exit 0))) (.block 1 (.seq (.run [.m 13 z0_, .c 14 n_parse_reader_labels [z13_], .m 9 z14_]) Q1M8))))
abbrev Q1MG : AC := .seq Q1MD (.seq (.run [.o 6 (.mv (.k (.slice .full 0 []))), .o 7 (.mv (.k (.slice .full 0 [])))]) .ret)
abbrev Q1MI : AC := .seq (.run [.o 6 (.mv (.k (.slice .full 0 []))), .o 7 (.mv (.k (.slice .full 0 [])))]) (.seq (.run [.o 8 (.mv (.k (.slice .full 0 [])))]) Q1MG)
abbrev Q1MQ : AC := .par [.o 15 (.faddr z1_ 3), .o 16 (.load z15_ false 1), .o 17 (.load z5_ true 4), .c 18 n_tree_expr [z17_], .o 19 (.bslice [(.int .i64 0), (.int .i64 0), (.str []), (.slice .full 0 [])] 4 1 [(0, z18_)]), .o 20 (.app 4 56 z16_ z19_), .o 21 (.faddr z1_ 3), .op none none (.store z21_ z20_ 1)] [(2, 0), (3, 0), (0, 0), (1, 1), (4, 0), (5, 0), (6, 0), (7, 0)]
abbrev Q1MU : AC := .seq (.block 1 (.seq (.run [.o 13 (.iaddr z9_ z11_ 4), .o 14 (.load z13_ true 4), .o 5 (.alloc [(.int .i64 0), (.int .i64 0), (.str []), (.slice .full 0 [])]), .op none none (.store z5_ z14_ 4)]) Q1MQ)) (.run [.o 22 (.bin .add z11_ (.k (.int .i64 1))), .m 11 z22_])
abbrev Q1MY : AC := .block 0 (.loop (.seq (.run [.o 12 (.bin .lss z11_ z10_)]) (.seq (.cond z12_ .skip (.exit 0)) Q1MU)))
abbrev Q1N2 : AC := .seq (.seq (.run [.m 9 z3_, .o 10 (.len z9_), .o 11 (.mv (.k (.int .i64 0)))]) Q1MY) (.seq (.run [.o 23 (.load z1_ true 4), .op none none (.store z2_ z23_ 4)]) .ret)
abbrev Q1N4 : AC := .seq (.run [.o 6 (.faddr z1_ 3), .o 7 (.load z6_ false 1), .m 3 z7_]) (.seq (.run [.o 8 (.faddr z1_ 3), .op none none (.store z8_ (.k (.slice .full 0 [])) 1)]) Q1N2)
abbrev Q1N5 : AC := .seq (.run [.o 1 (.box z0_), .o 2 (.alloc [(.int .i64 0), (.int .i64 0), (.str []), (.slice .full 0 [])])]) Q1N4
abbrev Q1N7 : AC := .run [.o 6 (.faddr z2_ 0), .o 7 (.load z6_ false 1), .o 8 (.faddr z3_ 0), .o 9 (.load z8_ false 1), .o 10 (.bin .neq z7_ z9_), .m 11 z10_, .g 12 11 false (.faddr z2_ 1), .g 13 11 false (.load z12_ false 1), .g 14 11 false (.faddr z3_ 1), .g 15 11 false (.load z14_ false 1), .g 16 11 false (.bin .neq z13_ z15_), .o 17 (.pick z11_ (.k (.bool true)) z16_), .m 18 z17_, .g 19 18 false (.faddr z2_ 2), .g 20 18 false (.load z19_ false 1), .g 21 18 false (.faddr z3_ 2), .g 22 18 false (.load z21_ false 1), .g 23 18 false (.bin .neq z20_ z22_), .o 24 (.pick z18_ (.k (.bool true)) z23_), .m 25 z24_, .g 26 25 false (.faddr z2_ 3), .g 27 25 false (.load z26_ false 1), .g 28 25 false (.len z27_), .g 29 25 false (.faddr z3_ 3), .g 30 25 false (.load z29_ false 1), .g 31 25 false (.len z30_), .g 32 25 false (.bin .neq z28_ z31_), .o 33 (.pick z25_ (.k (.bool true)) z32_)]
abbrev Q1NA : AC := .cond z33_ (.seq (.run [.o 4 (.mv (.k (.bool false)))]) .ret) .skip
abbrev Q1NG : AC := .par [.o 40 (.faddr z2_ 3), .o 41 (.load z40_ false 1), .m 42 z5_, .o 43 (.iaddr z41_ z42_ 4), .o 44 (.load z43_ true 4), .o 45 (.faddr z3_ 3), .o 46 (.load z45_ false 1), .m 47 z5_, .o 48 (.iaddr z46_ z47_ 4), .o 49 (.load z48_ true 4), .c 50 n_ref3_EqExpr [z44_, z49_], .o 51 (.un .not z50_)] [(0, 0), (1, 0), (2, 0), (3, 0), (4, 0), (5, 0), (6, 0), (7, 0), (8, 0), (9, 0), (10, 0), (11, 0)]
abbrev Q1NJ : AC := .cond z51_ (.seq (.run [.o 4 (.mv (.k (.bool false)))]) .ret) .skip
abbrev Q1NP : AC := .seq (.cond z38_ .skip (.exit 0)) (.seq (.block 1 (.seq (.run [.m 39 z37_, .m 5 z39_]) (.seq Q1NG Q1NJ))) (.run [.o 52 (.bin .add z37_ (.k (.int .i64 1))), .m 37 z52_]))
abbrev Q1NT : AC := .seq (.run [.o 34 (.faddr z2_ 3), .o 35 (.load z34_ false 1), .o 36 (.len z35_), .o 37 (.mv (.k (.int .i64 0)))]) (.block 0 (.loop (.seq (.run [.o 38 (.bin .lss z37_ z36_)]) Q1NP)))
abbrev Q1NW : AC := .seq Q1NT (.seq (.run [.o 4 (.mv (.k (.bool true)))]) .ret)
abbrev Q1NY : AC := .seq (.run [.o 2 (.box z0_), .o 3 (.box z1_), .o 4 (.mv (.k (.bool false)))]) (.seq (.seq Q1N7 Q1NA) Q1NW)
abbrev Q1O9 : AC := .cond z17_ (.seq (.run [.o 2 (.mv (.k (.int .i64 2)))]) .ret) .skip
abbrev Q1OB : AC := .cond z10_ (.seq (.run [.o 2 (.mv (.k (.int .i64 1)))]) .ret) (.seq (.run [.m 18 z0_, .o 19 (.bin .geq z18_ (.k (.int .i64 5))), .m 20 z19_, .g 21 20 true (.mv z0_), .g 22 20 true (.bin .leq z21_ (.k (.int .i64 17))), .o 23 (.pick z20_ z22_ (.k (.bool false))), .m 17 z23_]) Q1O9)
abbrev Q1OD : AC := .cond z3_ (.seq (.run [.o 2 (.mv (.k (.int .i64 0)))]) .ret) (.seq (.run [.m 11 z0_, .o 12 (.bin .eql z11_ (.k (.int .i64 3))), .m 13 z12_, .g 14 13 false (.mv z0_), .g 15 13 false (.bin .eql z14_ (.k (.int .i64 4))), .o 16 (.pick z13_ (.k (.bool true)) z15_), .m 10 z16_]) Q1OB)
abbrev Q1OF : AC := .block 0 (.seq (.run [.m 4 z0_, .o 5 (.bin .eql z4_ (.k (.int .i64 1))), .m 6 z5_, .g 7 6 false (.mv z0_), .g 8 6 false (.bin .eql z7_ (.k (.int .i64 2))), .o 9 (.pick z6_ (.k (.bool true)) z8_), .m 3 z9_]) Q1OD)
abbrev Q1OH : AC := .seq (.run [(.o 2 (.mv (.k (.int .i64 (-1)))))]) .ret
abbrev Q1OJ : AC := .seq (.run [.o 2 (.mv (.k (.int .i64 0)))]) (.seq Q1OF Q1OH)
abbrev Q1ON : AC := .seq (.run [.o 4 (.mv (.k (.bool false)))]) (.seq (.run [.m 5 z1_, .m 6 z5_, .g 7 6 true (.mv z0_), .d 8 6 true n_lex_Name [z7_], .o 9 (.pick z6_ z8_ (.k (.bool false))), .m 10 z9_, .g 11 10 false (.mv z1_), .g 12 10 false (.un .not z11_), .g 13 10 false (.mv z12_), .g 14 13 true (.mv z0_), .g 15 13 true (.bin .eql z14_ (.k (.str []))), .g 16 10 false (.pick z13_ z15_ (.k (.bool false))), .o 17 (.pick z10_ (.k (.bool true)) z16_), .m 4 z17_]) .ret)
abbrev Q1OR : AC := .seq (.run [.o 2 (.box z0_), .o 4 (.mv (.k (.bool false)))]) (.seq (.run [.m 5 z1_, .m 6 z5_, .g 7 6 true (.load z2_ true 4), .d 8 6 true n_tree_MayExpr [z7_], .o 9 (.pick z6_ z8_ (.k (.bool false))), .m 10 z9_, .g 11 10 false (.mv z1_), .g 12 10 false (.un .not z11_), .g 13 10 false (.mv z12_), .g 14 13 true (.load z2_ true 4), .d 15 13 true n_tree_none [z14_], .g 16 10 false (.pick z13_ z15_ (.k (.bool false))), .o 17 (.pick z10_ (.k (.bool true)) z16_), .m 4 z17_]) .ret)
abbrev Q1P0 : AC := .cond z25_ (.seq (.run [.o 2 (.mv (.k (.bool false)))]) .ret) .skip
abbrev Q1P2 : AC := .seq (.run [.o 9 (.iaddr z5_ z7_ 6), .o 10 (.load z9_ true 6), .o 4 (.alloc [(.bool false), (.str []), (.int .i64 0), (.int .i64 0), (.str []), (.slice .full 0 [])]), .op none none (.store z4_ z10_ 6)]) (.seq (.run [.o 11 (.faddr z4_ 1), .o 12 (.load z11_ false 1), .o 13 (.faddr z4_ 0), .o 14 (.load z13_ false 1), .c 15 n_tree_named [z12_, z14_], .o 16 (.un .not z15_), .m 17 z16_, .g 18 17 false (.faddr z4_ 2), .g 19 17 false (.load z18_ true 4), .g 20 17 false (.faddr z4_ 0), .g 21 17 false (.load z20_ false 1), .g 22 17 false (.un .not z21_), .d 23 17 false n_tree_worth [z19_, z22_], .g 24 17 false (.un .not z23_), .o 25 (.pick z17_ (.k (.bool true)) z24_)]) Q1P0)
abbrev Q1P6 : AC := .seq (.cond z8_ .skip (.exit 0)) (.seq (.block 1 Q1P2) (.run [.o 26 (.bin .add z7_ (.k (.int .i64 1))), .m 7 z26_]))
abbrev Q1PA : AC := .seq (.run [.m 5 z0_, .o 6 (.len z5_), .o 7 (.mv (.k (.int .i64 0)))]) (.block 0 (.loop (.seq (.run [.o 8 (.bin .lss z7_ z6_)]) Q1P6)))
abbrev Q1PD : AC := .seq Q1PA (.seq (.run [.o 2 (.mv (.k (.bool true)))]) .ret)
abbrev Q1PE : AC := .seq (.run [.o 2 (.mv (.k (.bool false)))]) Q1PD
abbrev Q1PP : AC := .cond z17_ (.seq (.run [.o 2 (.mv (.k (.int .i64 2)))]) .ret) .skip
abbrev Q1PR : AC := .cond z10_ (.seq (.run [.o 2 (.mv (.k (.int .i64 1)))]) .ret) (.seq (.run [.m 18 z0_, .o 19 (.bin .geq z18_ (.k (.int .i64 5))), .m 20 z19_, .g 21 20 true (.mv z0_), .g 22 20 true (.bin .leq z21_ (.k (.int .i64 17))), .o 23 (.pick z20_ z22_ (.k (.bool false))), .m 17 z23_]) Q1PP)
abbrev Q1PT : AC := .cond z3_ (.seq (.run [.o 2 (.mv (.k (.int .i64 0)))]) .ret) (.seq (.run [.m 11 z0_, .o 12 (.bin .eql z11_ (.k (.int .i64 3))), .m 13 z12_, .g 14 13 false (.mv z0_), .g 15 13 false (.bin .eql z14_ (.k (.int .i64 4))), .o 16 (.pick z13_ (.k (.bool true)) z15_), .m 10 z16_]) Q1PR)
abbrev Q1PV : AC := .block 0 (.seq (.run [.m 4 z0_, .o 5 (.bin .eql z4_ (.k (.int .i64 1))), .m 6 z5_, .g 7 6 false (.mv z0_), .g 8 6 false (.bin .eql z7_ (.k (.int .i64 2))), .o 9 (.pick z6_ (.k (.bool true)) z8_), .m 3 z9_]) Q1PT)
abbrev Q1PX : AC := .seq (.run [(.o 2 (.mv (.k (.int .i64 (-1)))))]) .ret
abbrev Q1PZ : AC := .seq (.run [.o 2 (.mv (.k (.int .i64 0)))]) (.seq Q1PV Q1PX)
abbrev Q1Q2 : AC := .par [.m 4 z0_, .c 5 n_parse_reader_good [z4_], .m 6 z5_, .g 7 6 true (.mv z0_), .d 8 6 true n_parse_reader_peek [z7_], .g 9 6 true (.fld z8_ 0 false 1), .g 10 6 true (.bin .eql z9_ (.k (.int .i64 1))), .o 11 (.pick z6_ z10_ (.k (.bool false))), .m 12 z11_, .g 13 12 true (.mv z0_), .g 14 12 true (.nilck z13_), .g 15 12 true (.faddr z14_ 0), .g 16 12 true (.load z15_ false 1), .g 17 12 true (.mv z0_), .g 18 12 true (.nilck z17_), .g 19 12 true (.faddr z18_ 1), .g 20 12 true (.load z19_ false 1), .g 21 12 true (.bin .add z20_ (.k (.int .i64 1))), .g 22 12 true (.iaddr z16_ z21_ 4), .g 23 12 true (.faddr z22_ 0), .g 24 12 true (.load z23_ false 1), .g 25 12 true (.bin .eql z24_ (.k (.int .i64 4))), .o 26 (.pick z12_ z25_ (.k (.bool false))), .m 27 z26_, .g 28 27 true (.mv z0_), .g 29 27 true (.nilck z28_), .g 30 27 true (.faddr z29_ 0), .g 31 27 true (.load z30_ false 1), .g 32 27 true (.mv z0_), .g 33 27 true (.nilck z32_), .g 34 27 true (.faddr z33_ 1), .g 35 27 true (.load z34_ false 1), .g 36 27 true (.bin .add z35_ (.k (.int .i64 1))), .g 37 27 true (.iaddr z31_ z36_ 4), .g 38 27 true (.faddr z37_ 1), .g 39 27 true (.load z38_ false 1), .g 40 27 true (.bin .eql z39_ (.k (.str [58]))), .o 41 (.pick z27_ z40_ (.k (.bool false)))] [(0, 0), (1, 0), (2, 0), (3, 0), (4, 0), (5, 0), (6, 0), (7, 0), (8, 0), (9, 0), (10, 0), (11, 0), (12, 0), (13, 0), (14, 0), (15, 0), (16, 0), (17, 0), (18, 0), (19, 0), (20, 0), (21, 0), (22, 0), (23, 0), (24, 0), (25, 0), (26, 0), (27, 0), (28, 0), (29, 0), (30, 0), (31, 0), (32, 0), (33, 0), (34, 0), (35, 0), (36, 0), (37, 0)]
abbrev Q1Q8 : AC := .block 1 (.seq (.run [.m 42 z3_, .m 43 z0_, .c 44 n_parse_reader_peek [z43_], .o 45 (.fld z44_ 1 false 1), .o 46 (.bslice [(.str [])] 1 1 [(0, z45_)]), .o 47 (.app 1 16 z42_ z46_), .m 3 z47_]) (.run [.m 48 z0_, .o 49 (.nilck z48_), .o 50 (.faddr z49_ 1), .o 51 (.load z50_ false 1), .o 52 (.bin .add z51_ (.k (.int .i64 2))), .o 53 (.nilck z48_), .o 54 (.faddr z53_ 1), .op none none (.store z54_ z52_ 1)]))
abbrev Q1QB : AC := .block 0 (.loop (.seq (.seq Q1Q2 (.cond z41_ .skip (.exit 0))) Q1Q8))
abbrev Q1QG : AC := .seq (.run [.o 2 (.mv (.k (.slice .full 0 [])))]) (.seq (.run [.o 3 (.mv (.k (.slice .full 0 [])))]) (.seq Q1QB (.seq (.run [.m 55 z3_, .m 2 z55_]) .ret)))
abbrev Q1QN : AC := .cond z10_ (.seq (.run [.m 11 z0_, .c 12 n_parse_reader_bad [z11_, (.k (.int .i64 3))]]) (.seq (.run [.o 13 (.build [(.int .i64 0), (.int .i64 0), (.slice .full 0 []), (.str []), (.str []), (.int .i64 0), (.int .i64 0), (.str []), (.slice .full 0 []), (.bool false), (.slice .full 0 []), (.slice .full 0 []), (.slice .full 0 [])] []), .op none none (.store z4_ z13_ 13)]) .ret)) .skip
abbrev Q1QV : AC := .cond z29_ (.seq (.run [.m 30 z0_, .c 31 n_parse_reader_bad [z30_, (.k (.int .i64 4))]]) (.seq (.run [.o 32 (.build [(.int .i64 0), (.int .i64 0), (.slice .full 0 []), (.str []), (.str []), (.int .i64 0), (.int .i64 0), (.str []), (.slice .full 0 []), (.bool false), (.slice .full 0 []), (.slice .full 0 []), (.slice .full 0 [])] []), .op none none (.store z4_ z32_ 13)]) .ret)) .skip
abbrev Q1RE : AC := .seq (.run [.m 56 z0_, .c 57 n_parse_reader_head [z56_], (.o 58 (.build [(.int .i64 0), (.int .i64 0), (.slice .full 0 []), (.str []), (.str []), (.int .i64 0), (.int .i64 0), (.str []), (.slice .full 0 []), (.bool false), (.slice .full 0 []), (.slice .full 0 []), (.slice .full 0 [])] [(1, (1, (.k (.int .i64 6)))), (5, (4, z57_))])), .o 6 (.alloc [(.int .i64 0), (.int .i64 0), (.slice .full 0 []), (.str []), (.str []), (.int .i64 0), (.int .i64 0), (.str []), (.slice .full 0 []), (.bool false), (.slice .full 0 []), (.slice .full 0 []), (.slice .full 0 [])]), .op none none (.store z6_ z58_ 13)]) (.seq (.run [.m 59 z0_, .m 60 z1_, .c 61 n_parse_reader_block [z59_, z60_], .o 62 (.faddr z6_ 11), .op none none (.store z62_ z61_ 1)]) (.seq (.run [.o 63 (.load z6_ true 13), .op none none (.store z4_ z63_ 13)]) .ret))
abbrev Q1RH : AC := .cond z49_ (.seq (.run [.m 51 z0_, .m 52 z1_, .c 53 n_parse_reader_choice [z51_, z52_], .op none none (.store z4_ z53_ 13)]) .ret) (.seq (.run [.o 55 (.bin .eql z48_ (.k (.str [119, 104, 105, 108, 101]))), .m 54 z55_]) (.cond z54_ Q1RE .skip))
abbrev Q1RJ : AC := .block 0 (.seq (.run [.o 50 (.bin .eql z48_ (.k (.str [105, 102]))), .m 49 z50_]) Q1RH)
abbrev Q1RQ : AC := .seq (.run [.m 64 z0_, .o 65 (.faddr z5_ 1), .o 66 (.load z65_ false 1), .c 67 n_parse_reader_plain [z64_, z66_], .o 7 (.alloc [(.int .i64 0), (.int .i64 0), (.slice .full 0 []), (.str []), (.str []), (.int .i64 0), (.int .i64 0), (.str []), (.slice .full 0 []), (.bool false), (.slice .full 0 []), (.slice .full 0 []), (.slice .full 0 [])]), .op none none (.store z7_ z67_ 13)]) (.seq (.run [.m 68 z0_, (.c 69 n_parse_reader_want [z68_, (.k (.str [59]))])]) (.seq (.run [.o 70 (.load z7_ true 13), .op none none (.store z4_ z70_ 13)]) .ret))
abbrev Q1RT : AC := .seq (.seq (.run [.o 35 (.faddr z5_ 0), .o 36 (.load z35_ false 1), .o 37 (.bin .eql z36_ (.k (.int .i64 1)))]) (.cond z37_ (.seq (.run [.m 38 z0_, .c 39 n_parse_reader_named [z38_], .op none none (.store z4_ z39_ 13)]) .ret) .skip)) (.seq (.run [.m 40 z0_, .o 41 (.nilck z40_), .o 42 (.faddr z41_ 1), .o 43 (.load z42_ false 1), .o 44 (.bin .add z43_ (.k (.int .i64 1))), .o 45 (.nilck z40_), .o 46 (.faddr z45_ 1), .op none none (.store z46_ z44_ 1)]) (.seq (.seq (.run [.o 47 (.faddr z5_ 1), .o 48 (.load z47_ false 1)]) Q1RJ) Q1RQ))
abbrev Q1RV : AC := .seq (.seq (.run [.m 21 z0_, .o 22 (.nilck z21_), .o 23 (.faddr z22_ 4), .o 24 (.load z23_ false 1), .o 25 (.bin .gtr z24_ (.k (.int .i64 200))), .m 26 z25_, .g 27 26 false (.mv z1_), .g 28 26 false (.bin .gtr z27_ (.k (.int .i64 12))), .o 29 (.pick z26_ (.k (.bool true)) z28_)]) Q1QV) (.seq (.run [.m 33 z0_, .c 34 n_parse_reader_peek [z33_], .o 5 (.alloc [(.int .i64 0), (.str []), (.int .i64 0), (.int .i64 0)]), .op none none (.store z5_ z34_ 4)]) Q1RT)
abbrev Q1RX : AC := .seq (.seq (.run [.m 8 z0_, .c 9 n_parse_reader_begins [z8_], .o 10 (.un .not z9_)]) Q1QN) (.seq (.run [.m 14 z0_, .o 15 (.nilck z14_), .o 16 (.faddr z15_ 4), .o 17 (.load z16_ false 1), .o 18 (.bin .add z17_ (.k (.int .i64 1))), .o 19 (.nilck z14_), .o 20 (.faddr z19_ 4), .op none none (.store z20_ z18_ 1)]) Q1RV)
abbrev Q1RY : AC := .seq (.run [.o 4 (.alloc [(.int .i64 0), (.int .i64 0), (.slice .full 0 []), (.str []), (.str []), (.int .i64 0), (.int .i64 0), (.str []), (.slice .full 0 []), (.bool false), (.slice .full 0 []), (.slice .full 0 []), (.slice .full 0 [])])]) Q1RX
abbrev Q1S2 : AC := .seq (.run [.o 1 (.box z0_), .o 2 (.mv (.k (.bool false)))]) (.seq (.run [.o 3 (.faddr z1_ 0), .o 4 (.load z3_ false 1), .o 5 (.bin .eql z4_ (.k (.int .i64 0))), .m 6 z5_, .g 7 6 true (.faddr z1_ 1), .g 8 6 true (.load z7_ false 1), .g 9 6 true (.bin .eql z8_ (.k (.int .i64 0))), .o 10 (.pick z6_ z9_ (.k (.bool false))), .m 11 z10_, .g 12 11 true (.faddr z1_ 2), .g 13 11 true (.load z12_ false 1), .g 14 11 true (.bin .eql z13_ (.k (.str []))), .o 15 (.pick z11_ z14_ (.k (.bool false))), .m 16 z15_, .g 17 16 true (.faddr z1_ 3), .g 18 16 true (.load z17_ false 1), .g 19 16 true (.len z18_), .g 20 16 true (.bin .eql z19_ (.k (.int .i64 0))), .o 21 (.pick z16_ z20_ (.k (.bool false))), .m 2 z21_]) .ret)
abbrev Q1S8 : AC := .cond z8_ (.seq (.run [.o 2 (.mv (.k (.bool true)))]) .ret) .skip
abbrev Q1SD : AC := .cond z11_ (.seq (.run [.o 2 (.mv (.k (.bool false)))]) .ret) .skip
abbrev Q1SP : AC := .seq (.run [.o 21 (.bin .eql z13_ (.k (.str [114, 101, 97, 100]))), .m 14 z21_]) (.cond z14_ .skip (.run [.o 22 (.bin .eql z13_ (.k (.str [112, 114, 105, 110, 116]))), .m 14 z22_]))
abbrev Q1SS : AC := .cond z14_ .skip (.seq (.run [.o 20 (.bin .eql z13_ (.k (.str [103, 111, 116, 111]))), .m 14 z20_]) (.cond z14_ .skip Q1SP))
abbrev Q1SU : AC := .cond z14_ .skip (.seq (.run [.o 19 (.bin .eql z13_ (.k (.str [114, 101, 116, 117, 114, 110]))), .m 14 z19_]) Q1SS)
abbrev Q1SW : AC := .cond z14_ .skip (.seq (.run [.o 18 (.bin .eql z13_ (.k (.str [99, 111, 110, 116, 105, 110, 117, 101]))), .m 14 z18_]) Q1SU)
abbrev Q1SY : AC := .cond z14_ .skip (.seq (.run [.o 17 (.bin .eql z13_ (.k (.str [98, 114, 101, 97, 107]))), .m 14 z17_]) Q1SW)
abbrev Q1T0 : AC := .cond z14_ .skip (.seq (.run [.o 16 (.bin .eql z13_ (.k (.str [119, 104, 105, 108, 101]))), .m 14 z16_]) Q1SY)
abbrev Q1T4 : AC := .cond z14_ (.seq (.run [.o 2 (.mv (.k (.bool true)))]) .ret) .skip
abbrev Q1T5 : AC := .seq (.seq (.run [.o 15 (.bin .eql z13_ (.k (.str [105, 102]))), .m 14 z15_]) Q1T0) Q1T4
abbrev Q1TA : AC := .seq (.seq (.run [.o 12 (.faddr z3_ 1), .o 13 (.load z12_ false 1)]) (.block 0 Q1T5)) (.seq (.run [.o 2 (.mv (.k (.bool false)))]) .ret)
abbrev Q1TB : AC := .seq (.seq (.run [.o 9 (.faddr z3_ 0), .o 10 (.load z9_ false 1), .o 11 (.bin .neq z10_ (.k (.int .i64 3)))]) Q1SD) Q1TA
abbrev Q1TC : AC := .seq (.seq (.run [.o 6 (.faddr z3_ 0), .o 7 (.load z6_ false 1), .o 8 (.bin .eql z7_ (.k (.int .i64 1)))]) Q1S8) Q1TB
abbrev Q1TE : AC := .seq (.run [.o 2 (.mv (.k (.bool false)))]) (.seq (.run [.m 4 z0_, .c 5 n_parse_reader_peek [z4_], .o 3 (.alloc [(.int .i64 0), (.str []), (.int .i64 0), (.int .i64 0)]), .op none none (.store z3_ z5_ 4)]) Q1TC)
abbrev Q1TK : AC := .cond z8_ (.seq (.run [.m 9 z0_, .m 10 z3_, (.c 11 n_parse_reader_call [z9_, (.k (.str [])), z10_]), .op none none (.store z2_ z11_ 13)]) .ret) .skip
abbrev Q1TN : AC := .par [.m 14 z0_, .c 15 n_parse_reader_good [z14_], .m 16 z15_, .g 17 16 true (.mv z0_), .d 18 16 true n_parse_reader_peek [z17_], .g 19 16 true (.fld z18_ 0 false 1), .g 20 16 true (.bin .eql z19_ (.k (.int .i64 1))), .o 21 (.pick z16_ z20_ (.k (.bool false))), .m 22 z21_, .g 23 22 true (.mv z0_), .g 24 22 true (.nilck z23_), .g 25 22 true (.faddr z24_ 0), .g 26 22 true (.load z25_ false 1), .g 27 22 true (.mv z0_), .g 28 22 true (.nilck z27_), .g 29 22 true (.faddr z28_ 1), .g 30 22 true (.load z29_ false 1), .g 31 22 true (.bin .add z30_ (.k (.int .i64 1))), .g 32 22 true (.iaddr z26_ z31_ 4), .g 33 22 true (.faddr z32_ 0), .g 34 22 true (.load z33_ false 1), .g 35 22 true (.bin .eql z34_ (.k (.int .i64 4))), .o 36 (.pick z22_ z35_ (.k (.bool false))), .m 37 z36_, .g 38 37 true (.mv z0_), .g 39 37 true (.nilck z38_), .g 40 37 true (.faddr z39_ 0), .g 41 37 true (.load z40_ false 1), .g 42 37 true (.mv z0_), .g 43 37 true (.nilck z42_), .g 44 37 true (.faddr z43_ 1), .g 45 37 true (.load z44_ false 1), .g 46 37 true (.bin .add z45_ (.k (.int .i64 1))), .g 47 37 true (.iaddr z41_ z46_ 4), .g 48 37 true (.faddr z47_ 1), .g 49 37 true (.load z48_ false 1), .g 50 37 true (.bin .eql z49_ (.k (.str [40]))), .o 51 (.pick z37_ z50_ (.k (.bool false)))] [(0, 0), (1, 0), (2, 0), (3, 0), (4, 0), (5, 0), (6, 0), (7, 0), (8, 0), (9, 0), (10, 0), (11, 0), (12, 0), (13, 0), (14, 0), (15, 0), (16, 0), (17, 0), (18, 0), (19, 0), (20, 0), (21, 0), (22, 0), (23, 0), (24, 0), (25, 0), (26, 0), (27, 0), (28, 0), (29, 0), (30, 0), (31, 0), (32, 0), (33, 0), (34, 0), (35, 0), (36, 0), (37, 0)]
abbrev Q1TR : AC := .seq Q1TN (.cond z51_ (.seq (.run [.m 52 z0_, .m 53 z3_, .m 54 z0_, .c 55 n_parse_reader_name [z54_, (.k (.bool true))], .c 56 n_parse_reader_call [z52_, z53_, z55_], .op none none (.store z2_ z56_ 13)]) .ret) .skip)
abbrev Q1TX : AC := .seq (.run [.m 57 z3_, .m 58 z0_, .c 59 n_parse_reader_whole [z58_], (.o 60 (.build [(.int .i64 0), (.int .i64 0), (.slice .full 0 []), (.str []), (.str []), (.int .i64 0), (.int .i64 0), (.str []), (.slice .full 0 []), (.bool false), (.slice .full 0 []), (.slice .full 0 []), (.slice .full 0 [])] [(1, (1, (.k (.int .i64 1)))), (3, (1, z57_)), (5, (4, z59_))])), .o 4 (.alloc [(.int .i64 0), (.int .i64 0), (.slice .full 0 []), (.str []), (.str []), (.int .i64 0), (.int .i64 0), (.str []), (.slice .full 0 []), (.bool false), (.slice .full 0 []), (.slice .full 0 []), (.slice .full 0 [])]), .op none none (.store z4_ z60_ 13)]) (.seq (.run [.m 61 z0_, (.c 62 n_parse_reader_want [z61_, (.k (.str [59]))])]) (.seq (.run [.o 63 (.load z4_ true 13), .op none none (.store z2_ z63_ 13)]) .ret))
abbrev Q1U0 : AC := .seq (.seq (.run [.m 7 z0_, (.c 8 n_parse_reader_is [z7_, (.k (.str [40]))])]) Q1TK) (.seq (.run [.m 12 z0_, (.c 13 n_parse_reader_want [z12_, (.k (.str [61]))])]) (.seq Q1TR Q1TX))
abbrev Q1U2 : AC := .seq (.run [.o 2 (.alloc [(.int .i64 0), (.int .i64 0), (.slice .full 0 []), (.str []), (.str []), (.int .i64 0), (.int .i64 0), (.str []), (.slice .full 0 []), (.bool false), (.slice .full 0 []), (.slice .full 0 []), (.slice .full 0 [])])]) (.seq (.run [.m 5 z0_, .c 6 n_parse_reader_name [z5_, (.k (.bool true))], .m 3 z6_]) Q1U0)
abbrev Q1UC : AC := .seq (.seq (.run [.m 13 z0_, (.c 14 n_parse_reader_take [z13_, (.k (.str [101, 108, 115, 101]))])]) (.cond z14_ (.run [.m 15 z0_, .m 16 z1_, .c 17 n_parse_reader_block [z15_, z16_], .o 18 (.faddr z5_ 12), .op none none (.store z18_ z17_ 1)]) .skip)) (.seq (.run [.o 19 (.load z5_ true 13), .op none none (.store z4_ z19_ 13)]) .ret)
abbrev Q1UE : AC := .seq (.run [.m 6 z0_, .c 7 n_parse_reader_head [z6_], (.o 8 (.build [(.int .i64 0), (.int .i64 0), (.slice .full 0 []), (.str []), (.str []), (.int .i64 0), (.int .i64 0), (.str []), (.slice .full 0 []), (.bool false), (.slice .full 0 []), (.slice .full 0 []), (.slice .full 0 [])] [(1, (1, (.k (.int .i64 5)))), (5, (4, z7_))])), .o 5 (.alloc [(.int .i64 0), (.int .i64 0), (.slice .full 0 []), (.str []), (.str []), (.int .i64 0), (.int .i64 0), (.str []), (.slice .full 0 []), (.bool false), (.slice .full 0 []), (.slice .full 0 []), (.slice .full 0 [])]), .op none none (.store z5_ z8_ 13)]) (.seq (.run [.m 9 z0_, .m 10 z1_, .c 11 n_parse_reader_block [z9_, z10_], .o 12 (.faddr z5_ 11), .op none none (.store z12_ z11_ 1)]) Q1UC)
abbrev Q1UF : AC := .seq (.run [.o 4 (.alloc [(.int .i64 0), (.int .i64 0), (.slice .full 0 []), (.str []), (.str []), (.int .i64 0), (.int .i64 0), (.str []), (.slice .full 0 []), (.bool false), (.slice .full 0 []), (.slice .full 0 []), (.slice .full 0 [])])]) Q1UE
abbrev Q1UN : AC := .seq (.run [.m 6 z0_, .c 7 n_parse_reader_whole [z6_], .o 3 (.alloc [(.int .i64 0), (.int .i64 0), (.str []), (.slice .full 0 [])]), .op none none (.store z3_ z7_ 4)]) (.seq (.run [.m 8 z0_, (.c 9 n_parse_reader_want [z8_, (.k (.str [41]))])]) (.seq (.run [.o 10 (.load z3_ true 4), .op none none (.store z2_ z10_ 4)]) .ret))
abbrev Q1UP : AC := .seq (.run [.o 2 (.alloc [(.int .i64 0), (.int .i64 0), (.str []), (.slice .full 0 [])])]) (.seq (.run [.m 4 z0_, (.c 5 n_parse_reader_want [z4_, (.k (.str [40]))])]) Q1UN)
abbrev Q1UW : AC := .seq (.run [.m 7 z0_, (.c 8 n_parse_reader_want [z7_, (.k (.str [123]))])]) (.seq (.run [.m 10 z0_, .m 11 z1_, .o 12 (.bin .add z11_ (.k (.int .i64 1))), .c 13 n_parse_reader_rows [z10_, z12_, (.k (.bool false))], .m 9 z13_, .o 14 (.ext z9_ 0), .o 15 (.ext z9_ 1), .m 5 z14_, .m 6 z15_]) (.seq (.run [.m 16 z5_, .m 4 z16_]) .ret))
abbrev Q1UX : AC := .seq (.run [.o 4 (.mv (.k (.slice .full 0 [])))]) Q1UW
abbrev Q1VA : AC := .seq (.run [.m 16 z0_, (.c 17 n_parse_reader_is [z16_, (.k (.str [59]))]), .o 18 (.un .not z17_)]) (.cond z18_ (.run [.m 19 z0_, .c 20 n_parse_reader_whole [z19_], .o 21 (.faddr z5_ 9), .op none none (.store z21_ (.k (.bool true)) 1), .o 22 (.faddr z5_ 5), .op none none (.store z22_ z20_ 4)]) .skip)
abbrev Q1VJ : AC := .seq (.run [.o 36 (.bin .eql z6_ (.k (.str [112, 114, 105, 110, 116]))), .m 35 z36_]) (.cond z35_ (.run [.m 37 z0_, .c 38 n_parse_reader_whole [z37_], .o 39 (.faddr z5_ 1), .op none none (.store z39_ (.k (.int .i64 3)) 1), .o 40 (.faddr z5_ 5), .op none none (.store z40_ z38_ 4)]) .skip)
abbrev Q1VL : AC := .seq (.run [.o 30 (.bin .eql z6_ (.k (.str [114, 101, 97, 100]))), .m 29 z30_]) (.cond z29_ (.run [.m 31 z0_, .c 32 n_parse_reader_name [z31_, (.k (.bool true))], .o 33 (.faddr z5_ 1), .op none none (.store z33_ (.k (.int .i64 2)) 1), .o 34 (.faddr z5_ 3), .op none none (.store z34_ z32_ 1)]) Q1VJ)
abbrev Q1VN : AC := .seq (.run [.o 24 (.bin .eql z6_ (.k (.str [103, 111, 116, 111]))), .m 23 z24_]) (.cond z23_ (.run [.m 25 z0_, .c 26 n_parse_reader_name [z25_, (.k (.bool true))], .o 27 (.faddr z5_ 1), .op none none (.store z27_ (.k (.int .i64 10)) 1), .o 28 (.faddr z5_ 3), .op none none (.store z28_ z26_ 1)]) Q1VL)
abbrev Q1VO : AC := .cond z13_ (.seq (.run [.o 15 (.faddr z5_ 1), .op none none (.store z15_ (.k (.int .i64 9)) 1)]) Q1VA) Q1VN
abbrev Q1VQ : AC := .cond z10_ (.run [.o 12 (.faddr z5_ 1), .op none none (.store z12_ (.k (.int .i64 8)) 1)]) (.seq (.run [.o 14 (.bin .eql z6_ (.k (.str [114, 101, 116, 117, 114, 110]))), .m 13 z14_]) Q1VO)
abbrev Q1VS : AC := .cond z7_ (.run [.o 9 (.faddr z5_ 1), .op none none (.store z9_ (.k (.int .i64 7)) 1)]) (.seq (.run [.o 11 (.bin .eql z6_ (.k (.str [99, 111, 110, 116, 105, 110, 117, 101]))), .m 10 z11_]) Q1VQ)
abbrev Q1VU : AC := .block 0 (.seq (.run [.o 8 (.bin .eql z6_ (.k (.str [98, 114, 101, 97, 107]))), .m 7 z8_]) Q1VS)
abbrev Q1W0 : AC := .seq (.run [.o 4 (.alloc [(.int .i64 0), (.int .i64 0), (.slice .full 0 []), (.str []), (.str []), (.int .i64 0), (.int .i64 0), (.str []), (.slice .full 0 []), (.bool false), (.slice .full 0 []), (.slice .full 0 []), (.slice .full 0 [])])]) (.seq (.run [.o 5 (.alloc [(.int .i64 0), (.int .i64 0), (.slice .full 0 []), (.str []), (.str []), (.int .i64 0), (.int .i64 0), (.str []), (.slice .full 0 []), (.bool false), (.slice .full 0 []), (.slice .full 0 []), (.slice .full 0 [])])]) (.seq (.seq (.run [.m 6 z1_]) Q1VU) (.seq (.run [.o 41 (.load z5_ true 13), .op none none (.store z4_ z41_ 13)]) .ret)))
abbrev Q1W9 : AC := .par [.o 24 (.faddr z7_ 10), .o 25 (.load z24_ false 1), .m 26 z0_, .c 27 n_parse_reader_name [z26_, (.k (.bool true))], (.o 28 (.build [(.bool false), (.str []), (.int .i64 0), (.int .i64 0), (.str []), (.slice .full 0 [])] [(0, (1, (.k (.bool true)))), (1, (1, z27_))])), .o 29 (.bslice [(.bool false), (.str []), (.int .i64 0), (.int .i64 0), (.str []), (.slice .full 0 [])] 6 1 [(0, z28_)]), .o 30 (.app 6 80 z25_ z29_), .o 31 (.faddr z7_ 10), .op none none (.store z31_ z30_ 1)] [(2, 0), (3, 0), (0, 0), (1, 1), (4, 0), (5, 0), (6, 0), (7, 0), (8, 0)]
abbrev Q1WA : AC := .par [.o 32 (.faddr z7_ 10), .o 33 (.load z32_ false 1), .m 34 z0_, .c 35 n_parse_reader_whole [z34_], .o 36 (.build [(.bool false), (.str []), (.int .i64 0), (.int .i64 0), (.str []), (.slice .full 0 [])] [(2, (4, z35_))]), .o 37 (.bslice [(.bool false), (.str []), (.int .i64 0), (.int .i64 0), (.str []), (.slice .full 0 [])] 6 1 [(0, z36_)]), .o 38 (.app 6 80 z33_ z37_), .o 39 (.faddr z7_ 10), .op none none (.store z39_ z38_ 1)] [(2, 0), (3, 0), (0, 0), (1, 1), (4, 0), (5, 0), (6, 0), (7, 0), (8, 0)]
abbrev Q1WG : AC := .seq (.seq (.run [.m 22 z0_, (.c 23 n_parse_reader_take [z22_, (.k (.str [114, 101, 102]))])]) (.cond z23_ Q1W9 Q1WA)) (.seq (.run [.m 40 z0_, (.c 41 n_parse_reader_take [z40_, (.k (.str [44]))]), .o 42 (.un .not z41_)]) (.cond z42_ (.exit 0) .skip))
abbrev Q1WK : AC := .block 0 (.loop (.seq (.seq (.run [.m 20 z0_, .c 21 n_parse_reader_good [z20_]]) (.cond z21_ .skip (.exit 0))) (.block 1 Q1WG)))
abbrev Q1WS : AC := .seq (.run [.m 43 z0_, (.c 44 n_parse_reader_want [z43_, (.k (.str [41]))])]) (.seq (.run [.m 45 z0_, (.c 46 n_parse_reader_want [z45_, (.k (.str [59]))])]) (.seq (.run [.o 47 (.load z7_ true 13), .op none none (.store z6_ z47_ 13)]) .ret))
abbrev Q1WT : AC := .seq (.seq (.run [.m 13 z0_, .c 14 n_parse_reader_good [z13_], .m 15 z14_, .g 16 15 true (.mv z0_), (.d 17 15 true n_parse_reader_is [z16_, (.k (.str [41]))]), .g 18 15 true (.un .not z17_), .o 19 (.pick z15_ z18_ (.k (.bool false)))]) (.cond z19_ Q1WK .skip)) Q1WS
abbrev Q1WV : AC := .seq (.run [.m 8 z1_, .m 9 z2_, (.o 10 (.build [(.int .i64 0), (.int .i64 0), (.slice .full 0 []), (.str []), (.str []), (.int .i64 0), (.int .i64 0), (.str []), (.slice .full 0 []), (.bool false), (.slice .full 0 []), (.slice .full 0 []), (.slice .full 0 [])] [(1, (1, (.k (.int .i64 4)))), (3, (1, z8_)), (4, (1, z9_))])), .o 7 (.alloc [(.int .i64 0), (.int .i64 0), (.slice .full 0 []), (.str []), (.str []), (.int .i64 0), (.int .i64 0), (.str []), (.slice .full 0 []), (.bool false), (.slice .full 0 []), (.slice .full 0 []), (.slice .full 0 [])]), .op none none (.store z7_ z10_ 13)]) (.seq (.run [.m 11 z0_, (.c 12 n_parse_reader_want [z11_, (.k (.str [40]))])]) Q1WT)
abbrev Q1WW : AC := .seq (.run [.o 6 (.alloc [(.int .i64 0), (.int .i64 0), (.slice .full 0 []), (.str []), (.str []), (.int .i64 0), (.int .i64 0), (.str []), (.slice .full 0 []), (.bool false), (.slice .full 0 []), (.slice .full 0 []), (.slice .full 0 [])])]) Q1WV
abbrev Q1X2 : AC := .cond z16_ (.run [.m 17 z0_, .m 18 z3_, (.o 19 (.build [(.int .i64 0), (.int .i64 0)] [(0, (1, (.k (.int .i64 4)))), (1, (1, z18_))])), .o 20 (.nilck z17_), .o 21 (.faddr z20_ 2), .op none none (.store z21_ z19_ 2)]) .skip
abbrev Q1X6 : AC := .seq (.seq (.run [.m 10 z0_, .c 11 n_parse_reader_good [z10_], .m 12 z11_, .g 13 12 true (.load z4_ true 4), .d 14 12 true n_parse_depth [z13_], .g 15 12 true (.bin .gtr z14_ (.k (.int .i64 20))), .o 16 (.pick z12_ z15_ (.k (.bool false)))]) Q1X2) (.seq (.run [.o 22 (.load z4_ true 4), .op none none (.store z2_ z22_ 4)]) .ret)
abbrev Q1X9 : AC := .seq (.run [.o 2 (.alloc [(.int .i64 0), (.int .i64 0), (.str []), (.slice .full 0 [])])]) (.seq (.run [.m 5 z0_, .c 6 n_parse_reader_peek [z5_], .o 7 (.fld z6_ 3 false 1), .m 3 z7_]) (.seq (.run [.m 8 z0_, .c 9 n_parse_reader_two [z8_, (.k (.int .i64 1))], .o 4 (.alloc [(.int .i64 0), (.int .i64 0), (.str []), (.slice .full 0 [])]), .op none none (.store z4_ z9_ 4)]) Q1X6))
abbrev Q1XP : AC := .seq (.run [.m 27 z0_, .o 28 (.nilck z27_), .o 29 (.faddr z28_ 1), .o 30 (.load z29_ false 1), .o 31 (.bin .add z30_ (.k (.int .i64 1))), .o 32 (.nilck z27_), .o 33 (.faddr z32_ 1), .op none none (.store z33_ z31_ 1)]) (.seq (.run [.m 34 z0_, .m 35 z7_, .o 36 (.bin .add z35_ (.k (.int .i64 1))), .c 37 n_parse_reader_two [z34_, z36_], .o 8 (.alloc [(.int .i64 0), (.int .i64 0), (.str []), (.slice .full 0 [])]), .op none none (.store z8_ z37_ 4)]) (.run [.m 38 z6_, .o 39 (.load z5_ true 4), .o 40 (.load z8_ true 4), .o 41 (.bslice [(.int .i64 0), (.int .i64 0), (.str []), (.slice .full 0 [])] 4 2 [(0, z39_), (1, z40_)]), .o 42 (.build [(.int .i64 0), (.int .i64 0), (.str []), (.slice .full 0 [])] [(0, (1, z38_)), (3, (1, z41_))]), .op none none (.store z5_ z42_ 4)]))
abbrev Q1XQ : AC := .seq (.seq (.run [.m 19 z7_, .m 20 z1_, .o 21 (.bin .lss z19_ z20_), .m 22 z21_, .g 23 22 false (.mv z6_), .g 24 22 false (.bin .eql z23_ (.k (.int .i64 0))), .o 25 (.pick z22_ (.k (.bool true)) z24_)]) (.cond z25_ (.seq (.run [.o 26 (.load z5_ true 4), .op none none (.store z4_ z26_ 4)]) .ret) .skip)) Q1XP
abbrev Q1XU : AC := .loop (.seq (.seq (.run [.m 11 z0_, .c 12 n_parse_reader_good [z11_]]) (.cond z12_ .skip (.exit 0))) (.block 1 (.seq (.run [.m 14 z0_, .c 15 n_parse_reader_peek [z14_], .c 16 n_parse_op [z15_], .m 13 z16_, .o 17 (.ext z13_ 0), .o 18 (.ext z13_ 1), .m 6 z17_, .m 7 z18_]) Q1XQ)))
abbrev Q1Y0 : AC := .seq (.run [.o 4 (.alloc [(.int .i64 0), (.int .i64 0), (.str []), (.slice .full 0 [])])]) (.seq (.run [.m 9 z0_, .c 10 n_parse_reader_one [z9_], .o 5 (.alloc [(.int .i64 0), (.int .i64 0), (.str []), (.slice .full 0 [])]), .op none none (.store z5_ z10_ 4)]) (.seq (.block 0 Q1XU) (.seq (.run [.o 43 (.load z5_ true 4), .op none none (.store z4_ z43_ 4)]) .ret)))
abbrev Q1YB : AC := .seq (.block 1 (.seq (.run [.o 11 (.iaddr z7_ z9_ 4), .o 12 (.load z11_ true 4), .o 5 (.alloc [(.int .i64 0), (.int .i64 0), (.str []), (.slice .full 0 [])]), .op none none (.store z5_ z12_ 4)]) (.run [.m 13 z3_, .o 14 (.load z5_ true 4), .c 15 n_parse_depth [z14_], .o 16 (.mm true z13_ z15_), .m 3 z16_]))) (.run [.o 17 (.bin .add z9_ (.k (.int .i64 1))), .m 9 z17_])
abbrev Q1YF : AC := .block 0 (.loop (.seq (.run [.o 10 (.bin .lss z9_ z8_)]) (.seq (.cond z10_ .skip (.exit 0)) Q1YB)))
abbrev Q1YJ : AC := .seq (.seq (.run [.o 6 (.faddr z1_ 3), .o 7 (.load z6_ false 1), .o 8 (.len z7_), .o 9 (.mv (.k (.int .i64 0)))]) Q1YF) (.seq (.run [.m 18 z3_, .o 19 (.bin .add z18_ (.k (.int .i64 1))), .m 2 z19_]) .ret)
abbrev Q1YL : AC := .seq (.run [.o 1 (.box z0_), .o 2 (.mv (.k (.int .i64 0)))]) (.seq (.run [.o 3 (.mv (.k (.int .i64 0)))]) Q1YJ)
abbrev Q1YS : AC := .seq (.run [.m 7 z0_, .c 8 n_parse_reader_good [z7_], .o 9 (.un .not z8_)]) (.cond z9_ (.seq (.run [.o 10 (.build [(.int .i64 0), (.int .i64 0), (.str []), (.slice .full 0 [])] []), .op none none (.store z2_ z10_ 4)]) .ret) .skip)
abbrev Q1YW : AC := .seq (.run [.o 22 (.faddr z3_ 2), .o 23 (.load z22_ false 1), (.o 24 (.build [(.int .i64 0), (.int .i64 0), (.str []), (.slice .full 0 [])] [(0, (1, (.k (.int .i64 1)))), (1, (1, z23_))])), .op none none (.store z2_ z24_ 4)]) .ret
abbrev Q1Z1 : AC := .seq (.run [.o 36 (.faddr z3_ 1), .o 37 (.load z36_ false 1), (.o 38 (.build [(.int .i64 0), (.int .i64 0), (.str []), (.slice .full 0 [])] [(0, (1, (.k (.int .i64 2)))), (2, (1, z37_))])), .op none none (.store z2_ z38_ 4)]) .ret
abbrev Q1Z9 : AC := .seq (.run [.m 42 z0_, .c 43 n_parse_reader_two [z42_, (.k (.int .i64 1))], .o 4 (.alloc [(.int .i64 0), (.int .i64 0), (.str []), (.slice .full 0 [])]), .op none none (.store z4_ z43_ 4)]) (.seq (.run [.m 44 z0_, (.c 45 n_parse_reader_want [z44_, (.k (.str [41]))])]) (.seq (.run [.o 46 (.load z4_ true 4), .op none none (.store z2_ z46_ 4)]) .ret))
abbrev Q1ZC : AC := .seq (.run [.m 50 z0_, .c 51 n_parse_reader_one [z50_], .o 52 (.bslice [(.int .i64 0), (.int .i64 0), (.str []), (.slice .full 0 [])] 4 1 [(0, z51_)]), (.o 53 (.build [(.int .i64 0), (.int .i64 0), (.str []), (.slice .full 0 [])] [(0, (1, (.k (.int .i64 3)))), (3, (1, z52_))])), .op none none (.store z2_ z53_ 4)]) .ret
abbrev Q1ZF : AC := .seq (.run [.m 57 z0_, .c 58 n_parse_reader_one [z57_], .o 59 (.bslice [(.int .i64 0), (.int .i64 0), (.str []), (.slice .full 0 [])] 4 1 [(0, z58_)]), (.o 60 (.build [(.int .i64 0), (.int .i64 0), (.str []), (.slice .full 0 [])] [(0, (1, (.k (.int .i64 4)))), (3, (1, z59_))])), .op none none (.store z2_ z60_ 4)]) .ret
abbrev Q1ZI : AC := .cond z47_ Q1ZC (.seq (.run [.m 55 z0_, (.c 56 n_parse_reader_take [z55_, (.k (.str [33]))]), .m 54 z56_]) (.cond z54_ Q1ZF .skip))
abbrev Q1ZK : AC := .cond z39_ Q1Z9 (.seq (.run [.m 48 z0_, (.c 49 n_parse_reader_take [z48_, (.k (.str [45]))]), .m 47 z49_]) Q1ZI)
abbrev Q1ZM : AC := .cond z25_ (.seq (.run [.m 29 z0_, .o 30 (.nilck z29_), .o 31 (.faddr z30_ 1), .o 32 (.load z31_ false 1), .o 33 (.bin .add z32_ (.k (.int .i64 1))), .o 34 (.nilck z29_), .o 35 (.faddr z34_ 1), .op none none (.store z35_ z33_ 1)]) Q1Z1) (.seq (.run [.m 40 z0_, (.c 41 n_parse_reader_take [z40_, (.k (.str [40]))]), .m 39 z41_]) Q1ZK)
abbrev Q1ZO : AC := .cond z11_ (.seq (.run [.m 15 z0_, .o 16 (.nilck z15_), .o 17 (.faddr z16_ 1), .o 18 (.load z17_ false 1), .o 19 (.bin .add z18_ (.k (.int .i64 1))), .o 20 (.nilck z15_), .o 21 (.faddr z20_ 1), .op none none (.store z21_ z19_ 1)]) Q1YW) (.seq (.run [.o 26 (.faddr z3_ 0), .o 27 (.load z26_ false 1), .o 28 (.bin .eql z27_ (.k (.int .i64 1))), .m 25 z28_]) Q1ZM)
abbrev Q1ZQ : AC := .block 0 (.seq (.run [.o 12 (.faddr z3_ 0), .o 13 (.load z12_ false 1), .o 14 (.bin .eql z13_ (.k (.int .i64 2))), .m 11 z14_]) Q1ZO)
abbrev Q1ZV : AC := .seq Q1ZQ (.seq (.run [.m 61 z0_, .c 62 n_parse_reader_bad [z61_, (.k (.int .i64 3))]]) (.seq (.run [.o 63 (.build [(.int .i64 0), (.int .i64 0), (.str []), (.slice .full 0 [])] []), .op none none (.store z2_ z63_ 4)]) .ret))
abbrev Q1ZY : AC := .seq (.run [.o 2 (.alloc [(.int .i64 0), (.int .i64 0), (.str []), (.slice .full 0 [])])]) (.seq (.run [.m 5 z0_, .c 6 n_parse_reader_peek [z5_], .o 3 (.alloc [(.int .i64 0), (.str []), (.int .i64 0), (.int .i64 0)]), .op none none (.store z3_ z6_ 4)]) (.seq Q1YS Q1ZV))
abbrev Q203 : AC := .cond z6_ (.seq (.run [.o 2 (.mv (.k (.int .i64 0))), .o 3 (.mv (.k (.int .i64 0)))]) .ret) .skip
abbrev Q219 : AC := .cond z33_ (.seq (.run [.o 2 (.mv (.k (.int .i64 7))), .o 3 (.mv (.k (.int .i64 6)))]) .ret) .skip
abbrev Q21B : AC := .cond z31_ (.seq (.run [.o 2 (.mv (.k (.int .i64 6))), .o 3 (.mv (.k (.int .i64 6)))]) .ret) (.seq (.run [.o 34 (.bin .eql z8_ (.k (.str [37]))), .m 33 z34_]) Q219)
abbrev Q21D : AC := .cond z29_ (.seq (.run [.o 2 (.mv (.k (.int .i64 5))), .o 3 (.mv (.k (.int .i64 6)))]) .ret) (.seq (.run [.o 32 (.bin .eql z8_ (.k (.str [47]))), .m 31 z32_]) Q21B)
abbrev Q21F : AC := .cond z27_ (.seq (.run [.o 2 (.mv (.k (.int .i64 9))), .o 3 (.mv (.k (.int .i64 5)))]) .ret) (.seq (.run [.o 30 (.bin .eql z8_ (.k (.str [42]))), .m 29 z30_]) Q21D)
abbrev Q21H : AC := .cond z25_ (.seq (.run [.o 2 (.mv (.k (.int .i64 8))), .o 3 (.mv (.k (.int .i64 5)))]) .ret) (.seq (.run [.o 28 (.bin .eql z8_ (.k (.str [45]))), .m 27 z28_]) Q21F)
abbrev Q21J : AC := .cond z23_ (.seq (.run [.o 2 (.mv (.k (.int .i64 13))), .o 3 (.mv (.k (.int .i64 4)))]) .ret) (.seq (.run [.o 26 (.bin .eql z8_ (.k (.str [43]))), .m 25 z26_]) Q21H)
abbrev Q21L : AC := .cond z21_ (.seq (.run [.o 2 (.mv (.k (.int .i64 12))), .o 3 (.mv (.k (.int .i64 4)))]) .ret) (.seq (.run [.o 24 (.bin .eql z8_ (.k (.str [62, 61]))), .m 23 z24_]) Q21J)
abbrev Q21N : AC := .cond z19_ (.seq (.run [.o 2 (.mv (.k (.int .i64 11))), .o 3 (.mv (.k (.int .i64 4)))]) .ret) (.seq (.run [.o 22 (.bin .eql z8_ (.k (.str [62]))), .m 21 z22_]) Q21L)
abbrev Q21P : AC := .cond z17_ (.seq (.run [.o 2 (.mv (.k (.int .i64 10))), .o 3 (.mv (.k (.int .i64 4)))]) .ret) (.seq (.run [.o 20 (.bin .eql z8_ (.k (.str [60, 61]))), .m 19 z20_]) Q21N)
abbrev Q21R : AC := .cond z15_ (.seq (.run [.o 2 (.mv (.k (.int .i64 15))), .o 3 (.mv (.k (.int .i64 3)))]) .ret) (.seq (.run [.o 18 (.bin .eql z8_ (.k (.str [60]))), .m 17 z18_]) Q21P)
abbrev Q21T : AC := .cond z13_ (.seq (.run [.o 2 (.mv (.k (.int .i64 14))), .o 3 (.mv (.k (.int .i64 3)))]) .ret) (.seq (.run [.o 16 (.bin .eql z8_ (.k (.str [33, 61]))), .m 15 z16_]) Q21R)
abbrev Q21V : AC := .cond z11_ (.seq (.run [.o 2 (.mv (.k (.int .i64 16))), .o 3 (.mv (.k (.int .i64 2)))]) .ret) (.seq (.run [.o 14 (.bin .eql z8_ (.k (.str [61, 61]))), .m 13 z14_]) Q21T)
abbrev Q21X : AC := .cond z9_ (.seq (.run [.o 2 (.mv (.k (.int .i64 17))), .o 3 (.mv (.k (.int .i64 1)))]) .ret) (.seq (.run [.o 12 (.bin .eql z8_ (.k (.str [38, 38]))), .m 11 z12_]) Q21V)
abbrev Q21Z : AC := .block 0 (.seq (.run [.o 10 (.bin .eql z8_ (.k (.str [124, 124]))), .m 9 z10_]) Q21X)
abbrev Q223 : AC := .seq (.seq (.run [.o 7 (.faddr z1_ 1), .o 8 (.load z7_ false 1)]) Q21Z) (.seq (.run [.o 2 (.mv (.k (.int .i64 0))), .o 3 (.mv (.k (.int .i64 0)))]) .ret)
abbrev Q224 : AC := .seq (.seq (.run [.o 4 (.faddr z1_ 0), .o 5 (.load z4_ false 1), .o 6 (.bin .neq z5_ (.k (.int .i64 4)))]) Q203) Q223
abbrev Q225 : AC := .seq (.run [.o 1 (.box z0_), .o 2 (.mv (.k (.int .i64 0))), .o 3 (.mv (.k (.int .i64 0)))]) Q224

end Go.Abs

/-! Have2 -/

namespace Go.Abs
open Go.Proofs

theorem has_ref1_Words : Has Tryz.prog n_ref1_Words 2 [(0, none)] Q1JA := ⟨Tryz.f85, by kernel_rfl, by kernel_rfl⟩
theorem has_ref3_deep : Has Tryz.prog n_ref3_deep 36 [(4, none)] Q1K4 := ⟨Tryz.f86, by kernel_rfl, by kernel_rfl⟩
theorem has_ref3_form : Has Tryz.prog n_ref3_form 60 [(2, none)] Q1KX := ⟨Tryz.f87, by kernel_rfl, by kernel_rfl⟩
theorem has_parse_reader_name : Has Tryz.prog n_parse_reader_name 31 [(4, none)] Q1LL := ⟨Tryz.f88, by kernel_rfl, by kernel_rfl⟩
theorem has_parse_reader_want : Has Tryz.prog n_parse_reader_want 10 [] Q1LP := ⟨Tryz.f89, by kernel_rfl, by kernel_rfl⟩
theorem has_parse_reader_rows : Has Tryz.prog n_parse_reader_rows 43 [(6, none), (7, none)] Q1MI := ⟨Tryz.f90, by kernel_rfl, by kernel_rfl⟩
theorem has_tree_expr : Has Tryz.prog n_tree_expr 24 [(2, (some (true, 4)))] Q1N5 := ⟨Tryz.f91, by kernel_rfl, by kernel_rfl⟩
theorem has_ref3_EqExpr : Has Tryz.prog n_ref3_EqExpr 53 [(4, none)] Q1NY := ⟨Tryz.f92, by kernel_rfl, by kernel_rfl⟩
theorem has_tree_kids : Has Tryz.prog n_tree_kids 24 [(2, none)] Q1OJ := ⟨Tryz.f93, by kernel_rfl, by kernel_rfl⟩
theorem has_tree_named : Has Tryz.prog n_tree_named 18 [(4, none)] Q1ON := ⟨Tryz.f95, by kernel_rfl, by kernel_rfl⟩
theorem has_tree_worth : Has Tryz.prog n_tree_worth 18 [(4, none)] Q1OR := ⟨Tryz.f96, by kernel_rfl, by kernel_rfl⟩
theorem has_tree_handed : Has Tryz.prog n_tree_handed 27 [(2, none)] Q1PE := ⟨Tryz.f97, by kernel_rfl, by kernel_rfl⟩
theorem has_ref3_Arity : Has Tryz.prog n_ref3_Arity 24 [(2, none)] Q1PZ := ⟨Tryz.f100, by kernel_rfl, by kernel_rfl⟩
theorem has_parse_reader_labels : Has Tryz.prog n_parse_reader_labels 56 [(2, none)] Q1QG := ⟨Tryz.f101, by kernel_rfl, by kernel_rfl⟩
theorem has_parse_reader_stmt : Has Tryz.prog n_parse_reader_stmt 71 [(4, (some (true, 13)))] Q1RY := ⟨Tryz.f102, by kernel_rfl, by kernel_rfl⟩
theorem has_tree_none : Has Tryz.prog n_tree_none 22 [(2, none)] Q1S2 := ⟨Tryz.f107, by kernel_rfl, by kernel_rfl⟩
theorem has_parse_reader_begins : Has Tryz.prog n_parse_reader_begins 23 [(2, none)] Q1TE := ⟨Tryz.f108, by kernel_rfl, by kernel_rfl⟩
theorem has_parse_reader_named : Has Tryz.prog n_parse_reader_named 64 [(2, (some (true, 13)))] Q1U2 := ⟨Tryz.f109, by kernel_rfl, by kernel_rfl⟩
theorem has_parse_reader_choice : Has Tryz.prog n_parse_reader_choice 20 [(4, (some (true, 13)))] Q1UF := ⟨Tryz.f110, by kernel_rfl, by kernel_rfl⟩
theorem has_parse_reader_head : Has Tryz.prog n_parse_reader_head 11 [(2, (some (true, 4)))] Q1UP := ⟨Tryz.f111, by kernel_rfl, by kernel_rfl⟩
theorem has_parse_reader_block : Has Tryz.prog n_parse_reader_block 17 [(4, none)] Q1UX := ⟨Tryz.f112, by kernel_rfl, by kernel_rfl⟩
theorem has_parse_reader_plain : Has Tryz.prog n_parse_reader_plain 42 [(4, (some (true, 13)))] Q1W0 := ⟨Tryz.f113, by kernel_rfl, by kernel_rfl⟩
theorem has_parse_reader_call : Has Tryz.prog n_parse_reader_call 48 [(6, (some (true, 13)))] Q1WW := ⟨Tryz.f119, by kernel_rfl, by kernel_rfl⟩
theorem has_parse_reader_whole : Has Tryz.prog n_parse_reader_whole 23 [(2, (some (true, 4)))] Q1X9 := ⟨Tryz.f120, by kernel_rfl, by kernel_rfl⟩
theorem has_parse_reader_two : Has Tryz.prog n_parse_reader_two 44 [(4, (some (true, 4)))] Q1Y0 := ⟨Tryz.f123, by kernel_rfl, by kernel_rfl⟩
theorem has_parse_depth : Has Tryz.prog n_parse_depth 20 [(2, none)] Q1YL := ⟨Tryz.f124, by kernel_rfl, by kernel_rfl⟩
theorem has_parse_reader_one : Has Tryz.prog n_parse_reader_one 64 [(2, (some (true, 4)))] Q1ZY := ⟨Tryz.f125, by kernel_rfl, by kernel_rfl⟩
theorem has_parse_op : Has Tryz.prog n_parse_op 35 [(2, none), (3, none)] Q225 := ⟨Tryz.f126, by kernel_rfl, by kernel_rfl⟩

end Go.Abs

/-! Codes3 -/

namespace Go.Abs
end Go.Abs

/-! Have3 -/

namespace Go.Abs
end Go.Abs

/-! Prs -/

namespace Go.Abs

set_option maxRecDepth 8000
open Go.Proofs

@[go_sem] def encRd (r : Rd) : List D := [.slice .shared 4 (r.l.map encTok), .int .i64 r.i, .int .i64 r.code, .int .i64 r.fat, .int .i64 r.n]
theorem okRd (r : Rd) : D.oks 0 0 (encRd r) = true := by simp [encRd, D.oks, D.ok, Tag.ok, okrTok]

theorem peek_lt {r : Rd} {t : Tok} (h : r.peek = some t) : r.i < 4611686018427387904 := (peek_get h).1
theorem is_lt {r : Rd} {s : Str} {t : Bool} (h : r.is s = some t) : r.i < 4611686018427387904 := by
 obtain ⟨t, h1, h⟩ := Option.bind_eq_some_iff.1 h
 exact peek_lt h1

-- good
theorem good_0 (l : List Tok) (i c f n : Int) : Fun Tryz.prog n_parse_reader_good [.ptr 0 0] ⟨[[.slice .shared 4 (l.map encTok), .int .i64 i, .int .i64 c, .int .i64 f, .int .i64 n]], []⟩ (.bool (c == 0)) ⟨[[.slice .shared 4 (l.map encTok), .int .i64 i, .int .i64 c, .int .i64 f, .int .i64 n]], []⟩ := by
 refine Fun.go has_parse_reader_good rfl fun B Q hB hQ => ?_
 have ⟨hH, hJ, hY, hZ⟩ := H4_
 repeat' (first
 | simp only [go_sem, hH, hJ, hY, hZ, fgrTok]
 | (with_reducible first | refine kT_ fun hc => ?_ | refine kF_ fun hc => ?_ | refine kS_ (fun hc => ?_) fun hc => ?_) <;> (try simp only [hc, bs, ↓reduceIte] at h) <;> try simp only [hc]
 | (with_reducible refine lA_ hQ ?_; (try cases h); simp only [resL, oneD, sI_, eL_, go_sem, hH, hJ, hY, hZ, fgrTok]; try exact lE_)
 | (cases h; done))
theorem good_s {l : List Tok} {i c f n : Int} {s : St} {o : Nat} (ho : s.objs[o]? = some [.slice .shared 4 (l.map encTok), .int .i64 i, .int .i64 c, .int .i64 f, .int .i64 n]) : Fun Tryz.prog n_parse_reader_good [.ptr o 0] s (.bool (c == 0)) ⟨s.objs.set o [.slice .shared 4 (l.map encTok), .int .i64 i, .int .i64 c, .int .i64 f, .int .i64 n], s.toks⟩ :=
 have hk : D.oks 0 0 [.slice .shared 4 (l.map encTok), .int .i64 i, .int .i64 c, .int .i64 f, .int .i64 n] = true := by simp [D.oks, D.ok, Tag.ok, okrTok]
 Fun.meth (good_0 l i c f n) rfl hk hk rfl ho
theorem peek_0 {r : Rd} {t : Tok} (h : r.peek = some t) : Fun Tryz.prog n_parse_reader_peek [.ptr 0 0] ⟨[encRd r], []⟩ (.agg (encTok t)) ⟨[encRd r], []⟩ := by
 obtain ⟨h2, h, _, _⟩ := peek_get h
 refine Fun.go has_parse_reader_peek rfl fun B Q hB hQ => ?_
 have ⟨hH, hJ, hY, hZ⟩ := H4_
 repeat' (first
 | simp only [go_sem, hH, hJ, hY, hZ, fgrTok, h]
 | (with_reducible first | refine kT_ fun hc => ?_ | refine kF_ fun hc => ?_ | refine kS_ (fun hc => ?_) fun hc => ?_) <;> (try simp only [hc, bs, ↓reduceIte] at h) <;> try simp only [hc]
 | (with_reducible refine lA_ hQ ?_; (try cases h); simp only [resL, oneD, sI_, eL_, go_sem, hH, hJ, hY, hZ, fgrTok, h]; try exact lE_)
 | (cases h; done))
theorem peek_s {r : Rd} {t : Tok} (h : r.peek = some t) {s : St} {o : Nat} (ho : s.objs[o]? = some (encRd r)) : Fun Tryz.prog n_parse_reader_peek [.ptr o 0] s (.agg (encTok t)) ⟨s.objs.set o (encRd r), s.toks⟩ :=
 (peek_0 h).meth rfl (okRd r) (okRd r) (okTok t) ho
theorem is_0 {r : Rd} {text : Str} {b : Bool} (h : r.is text = some b) : Fun Tryz.prog n_parse_reader_is [.ptr 0 0, .str text] ⟨[encRd r], []⟩ (.bool b) ⟨[encRd r], []⟩ := by
 unfold Rd.is at h
 refine Fun.go has_parse_reader_is rfl fun B Q hB hQ => ?_
 have ⟨hH, hJ, hY, hZ⟩ := H4_
 repeat' (first
 | simp only [go_sem, hH, hJ, hY, hZ, fgrTok]
 | (rw [Option.bind_eq_some_iff] at h; obtain ⟨_, h1, h⟩ := h; first | (with_reducible refine CU (peek_s h1 (by with_unfolding_all rfl)) ?_))
 | (with_reducible first | refine kT_ fun hc => ?_ | refine kF_ fun hc => ?_ | refine kS_ (fun hc => ?_) fun hc => ?_) <;> (try simp only [hc, bs, ↓reduceIte] at h) <;> try simp only [hc]
 | (with_reducible refine lA_ hQ ?_; (try cases h); simp only [resL, oneD, sI_, eL_, go_sem, hH, hJ, hY, hZ, fgrTok]; try exact lE_)
 | (cases h; done))
theorem is_s {r : Rd} {text : Str} {b : Bool} (h : r.is text = some b) {s : St} {o : Nat} (ho : s.objs[o]? = some (encRd r)) : Fun Tryz.prog n_parse_reader_is [.ptr o 0, .str text] s (.bool b) ⟨s.objs.set o (encRd r), s.toks⟩ :=
 (is_0 h).meth rfl (okRd r) (okRd r) rfl ho
theorem bad_0 {r r' : Rd} {c : Int} (h : r.bad c = some r') : Fun Tryz.prog n_parse_reader_bad [.ptr 0 0, .int .i64 c] ⟨[encRd r], []⟩ (.tuple []) ⟨[encRd r'], []⟩ := by
 unfold Rd.bad at h
 refine Fun.go has_parse_reader_bad rfl fun B Q hB hQ => ?_
 have ⟨hH, hJ, hY, hZ⟩ := H4_
 repeat' (first
 | simp only [go_sem, hH, hJ, hY, hZ, fgrTok]
 | (rw [Option.bind_eq_some_iff] at h; obtain ⟨_, h1, h⟩ := h; first | (with_reducible refine CU (peek_s h1 (by with_unfolding_all rfl)) ?_))
 | (with_reducible refine CU (good_s (by with_unfolding_all rfl)) ?_)
 | (with_reducible first | refine kT_ fun hc => ?_ | refine kF_ fun hc => ?_ | refine kS_ (fun hc => ?_) fun hc => ?_) <;> (try simp only [hc, bs, ↓reduceIte] at h) <;> try simp only [hc]
 | (with_reducible refine lA_ hQ ?_; (try cases h); simp only [resL, oneD, sI_, eL_, go_sem, hH, hJ, hY, hZ, fgrTok]; try exact lE_)
 | (cases h; done))
theorem bad_s {r r' : Rd} {c : Int} (h : r.bad c = some r') {s : St} {o : Nat} (ho : s.objs[o]? = some (encRd r)) : Fun Tryz.prog n_parse_reader_bad [.ptr o 0, .int .i64 c] s (.tuple []) ⟨s.objs.set o (encRd r'), s.toks⟩ :=
 (bad_0 h).meth rfl (okRd r) (okRd r') rfl ho
theorem take_0 {r : Rd} {text : Str} {p : Bool × Rd} (h : r.take text = some p) : Fun Tryz.prog n_parse_reader_take [.ptr 0 0, .str text] ⟨[encRd r], []⟩ (.bool p.1) ⟨[encRd p.2], []⟩ := by
 unfold Rd.take at h
 refine Fun.go has_parse_reader_take rfl fun B Q hB hQ => ?_
 have ⟨hH, hJ, hY, hZ⟩ := H4_
 repeat' (first
 | simp only [go_sem, hH, hJ, hY, hZ, fgrTok]
 | (rw [Option.bind_eq_some_iff] at h; obtain ⟨_, h1, h⟩ := h; first | (with_reducible refine CU (is_s h1 (by with_unfolding_all rfl)) ?_; have hH := is_lt h1))
 | (with_reducible refine CU (good_s (by with_unfolding_all rfl)) ?_)
 | (with_reducible first | refine kT_ fun hc => ?_ | refine kF_ fun hc => ?_ | refine kS_ (fun hc => ?_) fun hc => ?_) <;> (try simp only [hc, bs, ↓reduceIte] at h) <;> try simp only [hc]
 | (with_reducible refine lA_ hQ ?_; (try cases h); simp only [resL, oneD, sI_, eL_, go_sem, hH, hJ, hY, hZ, fgrTok]; try exact lE_)
 | (cases h; done))
theorem take_s {r : Rd} {text : Str} {p : Bool × Rd} (h : r.take text = some p) {s : St} {o : Nat} (ho : s.objs[o]? = some (encRd r)) : Fun Tryz.prog n_parse_reader_take [.ptr o 0, .str text] s (.bool p.1) ⟨s.objs.set o (encRd p.2), s.toks⟩ :=
 (take_0 h).meth rfl (okRd r) (okRd p.2) rfl ho
theorem want_0 {r r' : Rd} {text : Str} (h : r.want text = some r') : Fun Tryz.prog n_parse_reader_want [.ptr 0 0, .str text] ⟨[encRd r], []⟩ (.tuple []) ⟨[encRd r'], []⟩ := by
 unfold Rd.want at h
 refine Fun.go has_parse_reader_want rfl fun B Q hB hQ => ?_
 have ⟨hH, hJ, hY, hZ⟩ := H4_
 repeat' (first
 | simp only [go_sem, hH, hJ, hY, hZ, fgrTok]
 | (rw [Option.bind_eq_some_iff] at h; obtain ⟨_, h1, h⟩ := h; first | (with_reducible refine CU (take_s h1 (by with_unfolding_all rfl)) ?_))
 | (with_reducible refine CU (bad_s h (by with_unfolding_all rfl)) ?_)
 | (with_reducible first | refine kT_ fun hc => ?_ | refine kF_ fun hc => ?_ | refine kS_ (fun hc => ?_) fun hc => ?_) <;> (try simp only [hc, bs, ↓reduceIte] at h) <;> try simp only [hc]
 | (with_reducible refine lA_ hQ ?_; (try cases h); simp only [resL, oneD, sI_, eL_, go_sem, hH, hJ, hY, hZ, fgrTok]; try exact lE_)
 | (cases h; done))
theorem want_s {r r' : Rd} {text : Str} (h : r.want text = some r') {s : St} {o : Nat} (ho : s.objs[o]? = some (encRd r)) : Fun Tryz.prog n_parse_reader_want [.ptr o 0, .str text] s (.tuple []) ⟨s.objs.set o (encRd r'), s.toks⟩ :=
 (want_0 h).meth rfl (okRd r) (okRd r') rfl ho
theorem name_0 {r : Rd} {room : Bool} {p : Str × Rd} (h : r.name room = some p) : Fun Tryz.prog n_parse_reader_name [.ptr 0 0, .bool room] ⟨[encRd r], []⟩ (.str p.1) ⟨[encRd p.2], []⟩ := by
 unfold Rd.name at h
 refine Fun.go has_parse_reader_name rfl fun B Q hB hQ => ?_
 have ⟨hH, hJ, hY, hZ⟩ := H4_
 repeat' (first
 | simp only [go_sem, hH, hJ, hY, hZ, fgrTok]
 | (rw [Option.bind_eq_some_iff] at h; obtain ⟨_, h1, h⟩ := h; first | (with_reducible refine CU (peek_s h1 (by with_unfolding_all rfl)) ?_; have hH := peek_lt h1) | (with_reducible refine CU (bad_s h1 (by with_unfolding_all rfl)) ?_))
 | (with_reducible refine CU (good_s (by with_unfolding_all rfl)) ?_)
 | (with_reducible first | refine kT_ fun hc => ?_ | refine kF_ fun hc => ?_ | refine kS_ (fun hc => ?_) fun hc => ?_) <;> (try simp only [hc, bs, ↓reduceIte] at h) <;> try simp only [hc]
 | (with_reducible refine lA_ hQ ?_; (try cases h); simp only [resL, oneD, sI_, eL_, go_sem, hH, hJ, hY, hZ, fgrTok]; try exact lE_)
 | (cases h; done))
theorem name_s {r : Rd} {room : Bool} {p : Str × Rd} (h : r.name room = some p) {s : St} {o : Nat} (ho : s.objs[o]? = some (encRd r)) : Fun Tryz.prog n_parse_reader_name [.ptr o 0, .bool room] s (.str p.1) ⟨s.objs.set o (encRd p.2), s.toks⟩ :=
 (name_0 h).meth rfl (okRd r) (okRd p.2) rfl ho
end Go.Abs

/-! Lex1 -/

namespace Go.Abs

set_option maxRecDepth 8000
open Go.Proofs

theorem letter_s (c : UInt8) (s : St) : Fun Tryz.prog n_lex_letter [.int .u8 (c.toNat : Int)] s (.bool (isL c)) s := by
 refine Fun.pure ?_ rfl rfl s
 generalize h : isL c = b
 unfold isL at h
 unfold S0
 refine Fun.go has_lex_letter rfl fun B Q hB hQ => ?_
 have ⟨hH, hJ, hY, hZ⟩ := H4_
 repeat' (first
 | simp only [go_sem, hH, hJ, hY, hZ]
 | (with_reducible first | refine kT_ fun hc => ?_ | refine kF_ fun hc => ?_ | refine kS_ (fun hc => ?_) fun hc => ?_) <;> (try simp only [hc, bs, ↓reduceIte] at h) <;> try simp only [hc]
 | (with_reducible refine lA_ hQ ?_; exact lY_)
 | (cases h; done))

theorem digit_s (c : UInt8) (s : St) : Fun Tryz.prog n_lex_digit [.int .u8 (c.toNat : Int)] s (.bool (isD c)) s := by
 refine Fun.pure ?_ rfl rfl s
 generalize h : isD c = b
 unfold isD at h
 unfold S0
 refine Fun.go has_lex_digit rfl fun B Q hB hQ => ?_
 have ⟨hH, hJ, hY, hZ⟩ := H4_
 repeat' (first
 | simp only [go_sem, hH, hJ, hY, hZ]
 | (with_reducible first | refine kT_ fun hc => ?_ | refine kF_ fun hc => ?_ | refine kS_ (fun hc => ?_) fun hc => ?_) <;> (try simp only [hc, bs, ↓reduceIte] at h) <;> try simp only [hc]
 | (with_reducible refine lA_ hQ ?_; exact lY_)
 | (cases h; done))

theorem word_s (t : Str) (s : St) : Fun Tryz.prog n_lex_Word [.str t] s (.bool (isWord t)) s := by
 refine Fun.pure ?_ rfl rfl s
 generalize h : isWord t = b
 unfold isWord at h
 unfold S0
 refine Fun.go has_lex_Word rfl fun B Q hB hQ => ?_
 have ⟨hH, hJ, hY, hZ⟩ := H4_
 repeat' (first
 | simp only [go_sem, hH, hJ, hY, hZ]
 | (with_reducible first | refine kT_ fun hc => ?_ | refine kF_ fun hc => ?_ | refine kS_ (fun hc => ?_) fun hc => ?_) <;> (try simp only [hc, bs, ↓reduceIte] at h) <;> try simp only [hc]
 | (with_reducible refine lA_ hQ ?_; exact lY_)
 | (cases h; done))

theorem run_s {text : Str} {pos : Nat} (hl : text.length < 4611686018427387904) (s : St) : Fun Tryz.prog n_lex_run [.str text, .int .i64 (pos : Int)] s (.int .i64 ((pos + runL (text.drop pos) : Nat) : Int)) s := by
 refine Fun.pure ?_ rfl rfl s
 unfold S0
 refine Fun.go has_lex_run rfl fun B Q hB hQ => ?_
 have ⟨hH, hJ, hY, hZ⟩ := H4_
 repeat' (first
 | simp only [go_sem, hH, hJ, hY, hZ]
 | (with_reducible first | refine kT_ fun hc => ?_ | refine kF_ fun hc => ?_ | refine kS_ (fun hc => ?_) fun hc => ?_) <;> (try simp only [hc, bs, ↓reduceIte] at h) <;> try simp only [hc]
 | (with_reducible refine lA_ hQ ?_; exact lY_)
 | (cases h; done))
 refine rL_ 0 0 (SemL.ind (ι := Str × Nat) (fun i => text.drop i.2 = i.1 ∧ i.2 + runL i.1 = pos + runL (text.drop pos)) (fun i => i.1.length)
   (fun i => [(0, .str text), (1, .int .i64 (i.2 : Int))]) (fun i => ⟨[], []⟩) ?_ (text.drop pos, pos) ⟨rfl, rfl⟩)
 rintro ⟨rest, k⟩ ⟨h1, h2⟩ IH
 dsimp only at h1 h2
 cases rest with
 | nil =>
   have hH := drop_nil h1
   simp only [runL, Nat.add_zero] at h2
   rw [← h2] at hQ
   repeat' (first
 | simp only [go_sem, hH, hJ, hY, hZ]
 | (with_reducible first | refine kT_ fun hc => ?_ | refine kF_ fun hc => ?_ | refine kS_ (fun hc => ?_) fun hc => ?_) <;> (try simp only [hc, bs, ↓reduceIte] at h) <;> try simp only [hc]
 | (with_reducible refine lA_ hQ ?_; exact lY_)
 | (cases h; done))
 | cons c rest =>
   obtain ⟨hJ, g2, hH, g4⟩ := drop_cons h1
   have hY : k < 4611686018427387904 := by omega
   cases hb : (isL c || isD c)
   · simp only [runL, hb, Bool.false_eq_true, ↓reduceIte, Nat.add_zero] at h2
     rw [← h2] at hQ
     simp only [Bool.or_eq_false_iff] at hb
     repeat' (first
 | simp only [go_sem, hH, hJ, hY, hZ, hb.1, hb.2]
 | (with_reducible refine CU (letter_s _ _) ?_)
 | (with_reducible refine CU (digit_s _ _) ?_)
 | (with_reducible first | refine kT_ fun hc => ?_ | refine kF_ fun hc => ?_ | refine kS_ (fun hc => ?_) fun hc => ?_) <;> (try simp only [hc, bs, ↓reduceIte] at h) <;> try simp only [hc]
 | (with_reducible refine lA_ hQ ?_; (try cases h); simp only [resL, oneD, sI_, eL_, go_sem, hH, hJ, hY, hZ, hb.1, hb.2]; try exact lE_)
 | (cases h; done))
   · simp only [runL, hb, ↓reduceIte] at h2
     cases hb1 : isL c
     · rw [hb1, Bool.false_or] at hb
       repeat' (first
 | simp only [go_sem, hH, hJ, hY, hZ, hb, hb1]
 | (with_reducible refine CU (letter_s _ _) ?_)
 | (with_reducible refine CU (digit_s _ _) ?_)
 | (with_reducible first | refine kT_ fun hc => ?_ | refine kF_ fun hc => ?_ | refine kS_ (fun hc => ?_) fun hc => ?_) <;> (try simp only [hc, bs, ↓reduceIte] at h) <;> try simp only [hc]
 | (with_reducible refine lA_ hQ ?_; (try cases h); simp only [resL, oneD, sI_, eL_, go_sem, hH, hJ, hY, hZ, hb, hb1]; try exact lE_)
 | (cases h; done))
       refine rL_ 0 0 (IH (rest, k + 1) ⟨g2, by dsimp only; omega⟩ (Nat.lt_succ_self _))
     · repeat' (first
 | simp only [go_sem, hH, hJ, hY, hZ, hb1]
 | (with_reducible refine CU (letter_s _ _) ?_)
 | (with_reducible refine CU (digit_s _ _) ?_)
 | (with_reducible first | refine kT_ fun hc => ?_ | refine kF_ fun hc => ?_ | refine kS_ (fun hc => ?_) fun hc => ?_) <;> (try simp only [hc, bs, ↓reduceIte] at h) <;> try simp only [hc]
 | (with_reducible refine lA_ hQ ?_; (try cases h); simp only [resL, oneD, sI_, eL_, go_sem, hH, hJ, hY, hZ, hb1]; try exact lE_)
 | (cases h; done))
       refine rL_ 0 0 (IH (rest, k + 1) ⟨g2, by dsimp only; omega⟩ (Nat.lt_succ_self _))

theorem slice_at (text : Str) (a b : Nat) : (text.take (a + b)).drop a = (text.drop a).take b := by rw [List.drop_take]; congr 1; omega

set_option maxRecDepth 20000 in
theorem sign_s {text : Str} {pos : Nat} {c : UInt8} {r : Str} (hd : text.drop pos = c :: r) (hl : text.length < 4611686018427387904) (s : St) :
   Fun Tryz.prog n_lex_sign [.str text, .int .i64 (pos : Int)] s (.int .i64 ((signL (c :: r) : Nat) : Int)) s := by
 refine Fun.pure ?_ rfl rfl s
 obtain ⟨hJ, g2, g3, g4⟩ := drop_cons hd
 have hY : pos < 4611686018427387904 := by omega
 have hZ : 0 < 1 := Nat.zero_lt_one
 generalize h : signL (c :: r) = k
 unfold S0
 cases r with
 | nil =>
   have hH : decide (((pos + 1 : Nat) : Int) < (text.length : Int)) = false := drop_nil g2
   simp only [signL, sign1] at h
   refine Fun.go has_lex_sign rfl fun B Q hB hQ => ?_
   repeat' (first
 | simp only [go_sem, hH, hJ, hY, hZ]
 | (with_reducible first | refine kT_ fun hc => ?_ | refine kF_ fun hc => ?_ | refine kS_ (fun hc => ?_) fun hc => ?_) <;> (try simp only [hc, bs, ↓reduceIte] at h) <;> try simp only [hc]
 | (with_reducible refine lA_ hQ ?_; exact lY_)
 | (cases h; done))
 | cons d r =>
   obtain ⟨_, _, hH, _⟩ := drop_cons g2
   have e1 : (text.take (pos + 2)).drop pos = [c, d] := by rw [slice_at, hd]; rfl
   have e2 : (0 : Int) ≤ (pos : Int) ∧ (pos : Int) ≤ ((pos + 2 : Nat) : Int) ∧ ((pos + 2 : Nat) : Int) ≤ (text.length : Int) := by omega
   simp only [signL, sign1, sign2] at h
   refine Fun.go has_lex_sign rfl fun B Q hB hQ => ?_
   repeat' (first
 | simp only [go_sem, hH, hJ, hY, hZ, e1, e2]
 | (with_reducible first | refine kT_ fun hc => ?_ | refine kF_ fun hc => ?_ | refine kS_ (fun hc => ?_) fun hc => ?_) <;> (try simp only [hc, bs, ↓reduceIte] at h) <;> try simp only [hc]
 | (with_reducible refine lA_ hQ ?_; (try cases h); simp only [resL, oneD, sI_, eL_, go_sem, hH, hJ, hY, hZ, e1, e2]; try exact lE_)
 | (cases h; done))

theorem isD_range {c : UInt8} (h : isD c = true) : 48 ≤ (c.toNat : Int) ∧ (c.toNat : Int) ≤ 57 := by
 simp only [isD, Bool.and_eq_true, decide_eq_true_eq] at h
 omega

def worthP (s : Str) : Int × Bool := match worth 0 s with | some n => (n, true) | none => (0, false)

theorem number_s {text : Str} (hd : ∀ c ∈ text, isD c = true) (hl : text.length < 4611686018427387904) (s : St) :
   Fun Tryz.prog n_lex_number [.str text] s (.tuple [.int .i64 (worthP text).1, .bool (worthP text).2]) s := by
 refine Fun.pure ?_ rfl rfl s
 generalize hw : worthP text = p
 unfold S0
 refine Fun.go has_lex_number rfl fun B Q hB hQ => ?_
 have ⟨hH, hJ, hY, hZ⟩ := H4_
 repeat' (first
 | simp only [go_sem, hH, hJ, hY, hZ]
 | (with_reducible first | refine kT_ fun hc => ?_ | refine kF_ fun hc => ?_ | refine kS_ (fun hc => ?_) fun hc => ?_) <;> (try simp only [hc, bs, ↓reduceIte] at h) <;> try simp only [hc]
 | (with_reducible refine lA_ hQ ?_; exact lY_)
 | (cases h; done))
 refine rL_ 0 0 (SemL.ind (ι := Str × Nat × Int) (fun i => text.drop i.2.1 = i.1 ∧ 0 ≤ i.2.2 ∧ i.2.2 ≤ 9223372036854775807 ∧ (match worth i.2.2 i.1 with | some n => (n, true) | none => (0, false)) = p) (fun i => i.1.length)
   (fun i => [(0, .str text), (4, .int .i64 i.2.2), (5, .int .i64 (i.2.1 : Int))]) (fun i => ⟨[], []⟩) ?_ (text, 0, 0) ⟨rfl, Int.le_refl 0, by dsimp only; omega, hw⟩)
 rintro ⟨rest, k, n⟩ ⟨h1, h2, h3, h⟩ IH
 dsimp only at h1 h2 h3 h
 cases rest with
 | nil =>
   have hH := drop_nil h1
   simp only [worth] at h
   repeat' (first
 | simp only [go_sem, hH, hJ, hY, hZ]
 | (with_reducible first | refine kT_ fun hc => ?_ | refine kF_ fun hc => ?_ | refine kS_ (fun hc => ?_) fun hc => ?_) <;> (try simp only [hc, bs, ↓reduceIte] at h) <;> try simp only [hc]
 | (with_reducible refine lA_ hQ ?_; exact lY_)
 | (cases h; done))
 | cons c rest =>
   obtain ⟨hJ, g2, hH, g4⟩ := drop_cons h1
   have hY : k < 4611686018427387904 := by omega
   have hc := isD_range (hd c (List.mem_of_getElem? hJ))
   have w1 : IntKind.wrap .u8 ((c.toNat : Int) - 48) = (c.toNat : Int) - 48 := by rw [IntKind.wrap_u8]; omega
   have w2 : IntKind.wrap .i64 ((c.toNat : Int) - 48) = (c.toNat : Int) - 48 := wrap_ok (by omega) (by omega)
   have w3 : IntKind.wrap .i64 (9223372036854775807 - ((c.toNat : Int) - 48)) = 9223372036854775807 - ((c.toNat : Int) - 48) := wrap_ok (by omega) (by omega)
   have w4 : IntKind.wrap .i64 ((9223372036854775807 - ((c.toNat : Int) - 48)).tdiv 10) = (9223372036854775807 - ((c.toNat : Int) - 48)) / 10 := by
     rw [Int.tdiv_eq_ediv_of_nonneg (by omega)]; exact wrap_ok (by omega) (by omega)
   have t10 : ((10 : Int) = 0) = False := by simp
   simp only [worth] at h
   by_cases hn : n > (9223372036854775807 - ((c.toNat : Int) - 48)) / 10
   · have hn' : decide (n > (9223372036854775807 - ((c.toNat : Int) - 48)) / 10) = true := by simpa using hn
     rw [if_pos hn] at h
     repeat' (first
 | simp only [go_sem, hH, hJ, hY, hZ, w1, w2, w3, w4, t10, hn']
 | (with_reducible first | refine kT_ fun hc => ?_ | refine kF_ fun hc => ?_ | refine kS_ (fun hc => ?_) fun hc => ?_) <;> (try simp only [hc, bs, ↓reduceIte] at h) <;> try simp only [hc]
 | (with_reducible refine lA_ hQ ?_; (try cases h); simp only [resL, oneD, sI_, eL_, go_sem, hH, hJ, hY, hZ, w1, w2, w3, w4, t10, hn']; try exact lE_)
 | (cases h; done))
   · have hn' : decide (n > (9223372036854775807 - ((c.toNat : Int) - 48)) / 10) = false := by simpa using hn
     rw [if_neg hn] at h
     have w5 : IntKind.wrap .i64 (n * 10) = n * 10 := wrap_ok (by omega) (by omega)
     have w6 : IntKind.wrap .i64 (n * 10 + ((c.toNat : Int) - 48)) = n * 10 + ((c.toNat : Int) - 48) := wrap_ok (by omega) (by omega)
     repeat' (first
 | simp only [go_sem, hH, hJ, hY, hZ, w1, w2, w3, w4, t10, hn', w5, w6]
 | (with_reducible first | refine kT_ fun hc => ?_ | refine kF_ fun hc => ?_ | refine kS_ (fun hc => ?_) fun hc => ?_) <;> (try simp only [hc, bs, ↓reduceIte] at h) <;> try simp only [hc]
 | (with_reducible refine lA_ hQ ?_; (try cases h); simp only [resL, oneD, sI_, eL_, go_sem, hH, hJ, hY, hZ, w1, w2, w3, w4, t10, hn', w5, w6]; try exact lE_)
 | (cases h; done))
     refine rL_ 0 0 (IH (rest, k + 1, n * 10 + ((c.toNat : Int) - 48)) ⟨g2, by dsimp only; omega, by dsimp only; omega, h⟩ (Nat.lt_succ_self _))

end Go.Abs

/-! Lex2 -/

namespace Go.Abs

set_option maxRecDepth 8000
open Go.Proofs

theorem runL_pos {c : UInt8} {r : Str} (h : isL c = true) : 0 < runL (c :: r) := by simp [runL, h]
theorem runL_len : ∀ s : Str, runL s ≤ s.length
 | [] => Nat.le_refl _
 | c :: r => by simp only [runL]; split <;> simp only [List.length_cons] <;> have := runL_len r <;> omega
theorem runD_len : ∀ s : Str, runD s ≤ s.length
 | [] => Nat.le_refl _
 | c :: r => by simp only [runD]; split <;> simp only [List.length_cons] <;> have := runD_len r <;> omega
theorem lineL_len : ∀ s : Str, lineL s ≤ s.length
 | [] => Nat.le_refl _
 | c :: r => by simp only [lineL]; split <;> simp only [List.length_cons] <;> have := lineL_len r <;> omega
theorem signL_len : ∀ s : Str, signL s ≤ s.length
 | [] => Nat.le_refl _
 | [c] => by simp only [signL]; split <;> simp
 | c :: d :: r => by simp only [signL]; (repeat' split) <;> simp
theorem runD_all : ∀ (s : Str), ∀ c ∈ s.take (runD s), isD c = true
 | [], c, h => by simp [runD] at h
 | d :: r, c, h => by
   simp only [runD] at h
   split at h
   · rw [List.take_succ_cons] at h
     rcases List.mem_cons.1 h with rfl | h
     · assumption
     · exact runD_all r c h
   · simp at h

def encF (f : Int × Int) : List D := [.int .i64 f.1, .int .i64 f.2]

def lexTM (text : Str) (out : List Tok) (pos : Nat) : Tm := [(0, .str text), (3, .ptr 0 0), (4, .slice (.tok 0) 4 (out.map encTok)), (5, .ptr 1 0), (6, .int .i64 (pos : Int))]
def lexST (out : List Tok) : St := ⟨[[.int .i64 0, .int .i64 0], [.junk, .junk, .junk, .junk]], [some out.length]⟩

theorem lineL_pos {c : UInt8} {r : Str} (h : ((c.toNat : Int) == 35) = true) : 0 < lineL (c :: r) := by
 have : ((c.toNat : Int) != 10) = true := by simp only [beq_iff_eq] at h; simp [h]
 simp [lineL, this]

def LexGo (text : Str) (B : Base) (Q : Exit → Tm → St → Prop) (p : List Tok × Int × Int) (N : Nat) : Prop :=
 ∀ (n pos : Nat) (rest : Str) (out : List Tok), text.drop pos = rest → lexF n pos rest out = p → rest.length < n → out.length ≤ 2000 → pos ≤ text.length → n < N →
   SemS Tryz.prog B 152 Q8S (.seq .skip Q8N) Q (lexTM text out pos) (lexST out)

theorem LexGo.to {text : Str} {B : Base} {Q : Exit → Tm → St → Prop} {p : List Tok × Int × Int} {N : Nat} (hB : B.s = S0) (IH : LexGo text B Q p N) {n pos : Nat} {rest : Str} {out : List Tok} {tm : Tm} {s : St}
   (h1 : text.drop pos = rest) (h : lexF n pos rest out = p) (h2 : rest.length < n) (h3 : out.length ≤ 2000) (h4 : pos ≤ text.length) (h5 : n < N)
   (ht : TmW tm 2 1 (lexTM text out pos)) (ho : WkR (s.cut 2 1).objs (lexST out).objs) (hk : (s.cut 2 1).toks = (lexST out).toks) :
   jumpA Tryz.prog B 152 Q8S Q (.goto 0) tm s := by
 refine jumpA_to (l := 0) (r := .seq .skip Q8N) rfl (SemS.re _ _ 2 1 (by rw [hB]; exact lB_ rfl) (by rw [hB]; exact lB_ rfl) ht ho ?_)
 have := IH n pos rest out h1 h h2 h3 h4 h5
 rw [hk]
 exact this

attribute [go_sem] lexTM lexST encF
theorem lex_nil {text : Str} (hl : text.length ≤ 100000) {B : Base} {Q : Exit → Tm → St → Prop} {p : List Tok × Int × Int} (hB : B.s = S0)
   (hQ : retF 0 0 [(2, none), (3, some (true, 2))] (.tuple [.slice .shared 4 (p.1.map encTok), .agg (encF p.2)]) ⟨[], []⟩ = Q)
   {n pos : Nat} {out : List Tok} (ho : out.length ≤ 2000) (hp : pos ≤ text.length) (IH : LexGo text B Q p (n + 1))
   (h1 : text.drop pos = []) (h : lexF (n + 1) pos [] out = p) : wpC Tryz.prog B 152 Q8N (jumpA Tryz.prog B 152 Q8S Q) (lexTM text out pos) (lexST out) := by
 have ⟨hH, hJ, hY, hZ⟩ := H4_
 have hroom : (out.length + 1) * 41 ≤ maxStr := by simp only [maxStr]; omega
 have hge : decide ((pos : Int) ≥ (text.length : Int)) = true := by have := List.drop_eq_nil_iff.1 h1; simp; omega
 have : pos = text.length := by have := List.drop_eq_nil_iff.1 h1; omega
 subst this
 simp only [lexF] at h
 repeat' (first
 | simp only [go_sem, hH, hJ, hY, hZ, hge, hroom]
 | (with_reducible first | refine kT_ fun hc => ?_ | refine kF_ fun hc => ?_ | refine kS_ (fun hc => ?_) fun hc => ?_) <;> (try simp only [hc, bs, ↓reduceIte] at h) <;> try simp only [hc]
 | (with_reducible refine lA_ hQ ?_; (try cases h); simp only [resL, oneD, sI_, eL_, go_sem, hH, hJ, hY, hZ, hge, hroom]; try exact lE_)
 | (cases h; done))

theorem lex_blank {text : Str} (hl : text.length ≤ 100000) {B : Base} {Q : Exit → Tm → St → Prop} {p : List Tok × Int × Int} (hB : B.s = S0)
   (hQ : retF 0 0 [(2, none), (3, some (true, 2))] (.tuple [.slice .shared 4 (p.1.map encTok), .agg (encF p.2)]) ⟨[], []⟩ = Q)
   {n pos : Nat} {out : List Tok} (ho : out.length ≤ 2000) (hp : pos ≤ text.length) (IH : LexGo text B Q p (n + 1))
   {c : UInt8} {r : Str} (h1 : text.drop pos = c :: r) (hb : isB c = true) (hn : (c :: r).length < n + 1) (h : lexF (n + 1) pos (c :: r) out = p) :
   wpC Tryz.prog B 152 Q8N (jumpA Tryz.prog B 152 Q8S Q) (lexTM text out pos) (lexST out) := by
 have hY : 0 < 1 := Nat.zero_lt_one
 have hZ : 0 < 1 := Nat.zero_lt_one
 obtain ⟨hJ, g2, g3, g4⟩ := drop_cons h1
 have hH : pos < 4611686018427387904 := by omega
 have hge : decide ((pos : Int) ≥ (text.length : Int)) = false := by simp; omega
 simp only [lexF, hb, ↓reduceIte] at h
 have hn' : r.length < n := by simp only [List.length_cons] at hn; omega
 have e : ∀ x y : Int, (x == y) = false → (x == y) = true → False := fun x y a b => by rw [a] at b; cases b
 simp only [isB] at hb
 repeat' (first
 | simp only [go_sem, hH, hJ, hY, hZ, hge]
 | (refine IH.to hB g2 h hn' ho g4 (Nat.lt_succ_self _) ?_ ?_ ?_ <;> ((try simp only [go_sem, hH, hJ, hY, hZ]); repeat' (first | exact Ok.out | with_reducible refine aI_ ?_ ?_ | omega | (simp; done))); done)
 | (with_reducible first | refine kT_ fun hc => ?_ | refine kF_ fun hc => ?_ | refine kS_ (fun hc => ?_) fun hc => ?_) <;> (try simp only [hc, bs, ↓reduceIte] at h) <;> try simp only [hc]
 | (with_reducible refine lA_ hQ ?_; (try cases h); simp only [resL, oneD, sI_, eL_, go_sem, hH, hJ, hY, hZ, hge]; repeat' (first | exact Ok.out | with_reducible refine aI_ ?_ ?_ | (simp; done)))
 | (cases h; done))
 all_goals (exfalso; simp_all; done)

theorem lex_remark {text : Str} (hl : text.length ≤ 100000) {B : Base} {Q : Exit → Tm → St → Prop} {p : List Tok × Int × Int} (hB : B.s = S0)
   (hQ : retF 0 0 [(2, none), (3, some (true, 2))] (.tuple [.slice .shared 4 (p.1.map encTok), .agg (encF p.2)]) ⟨[], []⟩ = Q)
   {n pos : Nat} {out : List Tok} (ho : out.length ≤ 2000) (hp : pos ≤ text.length) (IH : LexGo text B Q p (n + 1))
   {c : UInt8} {r : Str} (h1 : text.drop pos = c :: r) (hb : isB c = false) (hc : ((c.toNat : Int) == 35) = true) (hn : (c :: r).length < n + 1) (h : lexF (n + 1) pos (c :: r) out = p) :
   wpC Tryz.prog B 152 Q8N (jumpA Tryz.prog B 152 Q8S Q) (lexTM text out pos) (lexST out) := by
 have hY : 0 < 1 := Nat.zero_lt_one
 have hZ : 0 < 1 := Nat.zero_lt_one
 have hget0 := (drop_cons h1).1
 have hJ := hget0
 have g4 := (drop_cons h1).2.2.2
 have hH : pos < 4611686018427387904 := by omega
 have hge : decide ((pos : Int) ≥ (text.length : Int)) = false := by simp; omega
 simp only [lexF, hb, Bool.false_eq_true, ↓reduceIte, hc] at h
 simp only [isB, Bool.or_eq_false_iff] at hb
 have hk := lineL_pos (r := r) hc
 have hk2 := lineL_len (c :: r)
 have hk3 : (c :: r).length = text.length - pos := by rw [← h1, List.length_drop]
 generalize hL : lineL (c :: r) = L at h hk hk2
 repeat' (first
 | simp only [go_sem, hH, hJ, hY, hZ, hge, hb.1.1.1, hb.1.1.2, hb.1.2, hb.2, hc]
 | (with_reducible refine jumpA_go (l := 1) (by with_unfolding_all rfl) ?_)
 | (with_reducible first | refine kT_ fun hc => ?_ | refine kF_ fun hc => ?_ | refine kS_ (fun hc => ?_) fun hc => ?_) <;> (try simp only [hc, bs, ↓reduceIte] at h) <;> try simp only [hc]
 | (with_reducible refine lA_ hQ ?_; (try cases h); simp only [resL, oneD, sI_, eL_, go_sem, hH, hJ, hY, hZ, hge, hb.1.1.1, hb.1.1.2, hb.1.2, hb.2, hc]; try exact lE_)
 | (cases h; done))
 refine rL_ 2 1 (SemL.ind (ι := Str × Nat) (fun i => text.drop i.2 = i.1 ∧ i.2 + lineL i.1 = pos + L) (fun i => i.1.length)
   (fun i => lexTM text out i.2) (fun i => lexST out) ?_ (c :: r, pos) ⟨h1, by dsimp only; omega⟩)
 rintro ⟨rest, k⟩ ⟨j1, j2⟩ IHl
 dsimp only at j1 j2
 have fin : text.drop (pos + L) = (c :: r).drop L := by rw [← h1, List.drop_drop]
 have hlen : ((c :: r).drop L).length < n := by rw [List.length_drop]; omega
 cases rest with
 | nil =>
   have hge := drop_nil j1
   simp only [lineL, Nat.add_zero] at j2
   subst j2
   repeat' (first
 | simp only [go_sem, hH, hJ, hY, hZ, hge]
 | (refine IH.to hB fin h hlen ho (by omega) (Nat.lt_succ_self _) ?_ ?_ ?_ <;> ((try simp only [go_sem, hH, hJ, hY, hZ]); repeat' (first | exact Ok.out | with_reducible refine aI_ ?_ ?_ | omega | (simp; done))); done)
 | (with_reducible first | refine kT_ fun hc => ?_ | refine kF_ fun hc => ?_ | refine kS_ (fun hc => ?_) fun hc => ?_) <;> (try simp only [hc, bs, ↓reduceIte] at h) <;> try simp only [hc]
 | (with_reducible refine lA_ hQ ?_; (try cases h); simp only [resL, oneD, sI_, eL_, go_sem, hH, hJ, hY, hZ, hge]; try exact lE_)
 | (cases h; done))
 | cons d rest =>
   obtain ⟨hJ, g2, hge, g5⟩ := drop_cons j1
   have hH : k < 4611686018427387904 := by omega
   cases hd : ((d.toNat : Int) != 10)
   · simp only [lineL, hd, Bool.false_eq_true, ↓reduceIte, Nat.add_zero] at j2
     subst j2
     repeat' (first
 | simp only [go_sem, hH, hJ, hY, hZ, hge, hd]
 | (refine IH.to hB fin h hlen ho (by omega) (Nat.lt_succ_self _) ?_ ?_ ?_ <;> ((try simp only [go_sem, hH, hJ, hY, hZ]); repeat' (first | exact Ok.out | with_reducible refine aI_ ?_ ?_ | omega | (simp; done))); done)
 | (with_reducible first | refine kT_ fun hc => ?_ | refine kF_ fun hc => ?_ | refine kS_ (fun hc => ?_) fun hc => ?_) <;> (try simp only [hc, bs, ↓reduceIte] at h) <;> try simp only [hc]
 | (with_reducible refine lA_ hQ ?_; (try cases h); simp only [resL, oneD, sI_, eL_, go_sem, hH, hJ, hY, hZ, hge, hd]; try exact lE_)
 | (cases h; done))
   · simp only [lineL, hd, ↓reduceIte] at j2
     repeat' (first
 | simp only [go_sem, hH, hJ, hY, hZ, hge, hd]
 | (with_reducible first | refine kT_ fun hc => ?_ | refine kF_ fun hc => ?_ | refine kS_ (fun hc => ?_) fun hc => ?_) <;> (try simp only [hc, bs, ↓reduceIte] at h) <;> try simp only [hc]
 | (with_reducible refine lA_ hQ ?_; (try cases h); simp only [resL, oneD, sI_, eL_, go_sem, hH, hJ, hY, hZ, hge, hd]; try exact lE_)
 | (cases h; done))
     refine rL_ 2 1 (IHl (rest, k + 1) ⟨g2, by dsimp only; omega⟩ (Nat.lt_succ_self _))

theorem lex_sign {text : Str} (hl : text.length ≤ 100000) {B : Base} {Q : Exit → Tm → St → Prop} {p : List Tok × Int × Int} (hB : B.s = S0)
   (hQ : retF 0 0 [(2, none), (3, some (true, 2))] (.tuple [.slice .shared 4 (p.1.map encTok), .agg (encF p.2)]) ⟨[], []⟩ = Q)
   {n pos : Nat} {out : List Tok} (ho : out.length ≤ 2000) (hp : pos ≤ text.length) (IH : LexGo text B Q p (n + 1))
   {c : UInt8} {r : Str} (h1 : text.drop pos = c :: r) (hb : isB c = false) (hc : ((c.toNat : Int) == 35) = false) (hL : isL c = false) (hD : isD c = false) (hn : (c :: r).length < n + 1) (h : lexF (n + 1) pos (c :: r) out = p) :
   wpC Tryz.prog B 152 Q8N (jumpA Tryz.prog B 152 Q8S Q) (lexTM text out pos) (lexST out) := by
 have hY : 0 < 1 := Nat.zero_lt_one
 have hZ : 0 < 1 := Nat.zero_lt_one
 have hJ := (drop_cons h1).1
 have g4 := (drop_cons h1).2.2.2
 have hH : pos < 4611686018427387904 := by omega
 have hge : decide ((pos : Int) ≥ (text.length : Int)) = false := by simp; omega
 have hroom : (out.length + 1) * 41 ≤ maxStr := by simp only [maxStr]; omega
 have hsign := fun s => sign_s h1 (by omega) s
 have hk2 := signL_len (c :: r)
 have hk3 : (c :: r).length = text.length - pos := by rw [← h1, List.length_drop]
 simp only [lexF, hb, Bool.false_eq_true, ↓reduceIte, hc, tokE, hL, hD] at h
 simp only [isB, Bool.or_eq_false_iff] at hb
 generalize hK : signL (c :: r) = k at h hsign hk2
 have e1 : IntKind.wrap .i64 ((pos : Int) + (k : Int)) = ((pos + k : Nat) : Int) := by rw [wrap_ok] <;> omega
 have e2 : (0 : Int) ≤ (pos : Int) ∧ (pos : Int) ≤ ((pos + k : Nat) : Int) ∧ ((pos + k : Nat) : Int) ≤ (text.length : Int) := by omega
 have e3 : (text.take (pos + k)).drop pos = (c :: r).take k := by rw [slice_at, h1]
 by_cases hz : k = 0
 · have hgt : decide (((pos + k : Nat) : Int) > (pos : Int)) = false := by simp; omega
   simp only [hz, ↓reduceIte] at h
   repeat' (first
 | simp only [go_sem, hH, hJ, hY, hZ, hge, hb.1.1.1, hb.1.1.2, hb.1.2, hb.2, hc, hL, hD, e1, e2, e3, hgt]
 | (with_reducible refine CU (letter_s _ _) ?_)
 | (with_reducible refine CU (digit_s _ _) ?_)
 | (with_reducible refine CU (hsign _) ?_)
 | (with_reducible refine jumpA_go (l := 4) (by with_unfolding_all rfl) ?_)
 | (with_reducible refine jumpA_go (l := 5) (by with_unfolding_all rfl) ?_)
 | (with_reducible first | refine kT_ fun hc => ?_ | refine kF_ fun hc => ?_ | refine kS_ (fun hc => ?_) fun hc => ?_) <;> (try simp only [hc, bs, ↓reduceIte] at h) <;> try simp only [hc]
 | (with_reducible refine lA_ hQ ?_; (try cases h); simp only [resL, oneD, sI_, eL_, go_sem, hH, hJ, hY, hZ, hge, hb.1.1.1, hb.1.1.2, hb.1.2, hb.2, hc, hL, hD, e1, e2, e3, hgt]; try exact lE_)
 | (cases h; done))
 · have hgt : decide (((pos + k : Nat) : Int) > (pos : Int)) = true := by simp; omega
   have hlen : ((c :: r).take k).length = k := by rw [List.length_take]; omega
   have fin : text.drop (pos + k) = (c :: r).drop k := by rw [← h1, List.drop_drop]
   have hlen2 : ((c :: r).drop k).length < n := by rw [List.length_drop]; omega
   simp only [hz, ↓reduceIte, hlen] at h
   by_cases ho2 : out.length = 2000
   · have ho3 : ((out.length : Int) == 2000) = true := by simp [ho2]
     simp only [ho2, ↓reduceIte] at h
     repeat' (first
 | simp only [go_sem, hH, hJ, hY, hZ, hge, hb.1.1.1, hb.1.1.2, hb.1.2, hb.2, hc, hL, hD, e1, e2, e3, hgt, ho3]
 | (with_reducible refine CU (letter_s _ _) ?_)
 | (with_reducible refine CU (digit_s _ _) ?_)
 | (with_reducible refine CU (hsign _) ?_)
 | (with_reducible refine jumpA_go (l := 4) (by with_unfolding_all rfl) ?_)
 | (with_reducible refine jumpA_go (l := 5) (by with_unfolding_all rfl) ?_)
 | (with_reducible first | refine kT_ fun hc => ?_ | refine kF_ fun hc => ?_ | refine kS_ (fun hc => ?_) fun hc => ?_) <;> (try simp only [hc, bs, ↓reduceIte] at h) <;> try simp only [hc]
 | (with_reducible refine lA_ hQ ?_; (try cases h); simp only [resL, oneD, sI_, eL_, go_sem, hH, hJ, hY, hZ, hge, hb.1.1.1, hb.1.1.2, hb.1.2, hb.2, hc, hL, hD, e1, e2, e3, hgt, ho3]; try exact lE_)
 | (cases h; done))
   · have ho3 : ((out.length : Int) == 2000) = false := by simp; omega
     have ho4 : ∀ t : Tok, (out ++ [t]).length ≤ 2000 := by intro t; simp; omega
     simp only [ho2, ↓reduceIte] at h
     repeat' (first
 | simp only [go_sem, hH, hJ, hY, hZ, hge, hb.1.1.1, hb.1.1.2, hb.1.2, hb.2, hc, hL, hD, e1, e2, e3, hgt, ho3, hroom]
 | (with_reducible refine CU (letter_s _ _) ?_)
 | (with_reducible refine CU (digit_s _ _) ?_)
 | (with_reducible refine CU (hsign _) ?_)
 | (with_reducible refine jumpA_go (l := 4) (by with_unfolding_all rfl) ?_)
 | (with_reducible refine jumpA_go (l := 5) (by with_unfolding_all rfl) ?_)
 | (refine IH.to hB fin h hlen2 (ho4 _) (by omega) (Nat.lt_succ_self _) ?_ ?_ ?_ <;> ((try simp only [go_sem, hH, hJ, hY, hZ]); repeat' (first | exact Ok.out | with_reducible refine aI_ ?_ ?_ | omega | (simp; done))); done)
 | (with_reducible first | refine kT_ fun hc => ?_ | refine kF_ fun hc => ?_ | refine kS_ (fun hc => ?_) fun hc => ?_) <;> (try simp only [hc, bs, ↓reduceIte] at h) <;> try simp only [hc]
 | (with_reducible refine lA_ hQ ?_; (try cases h); simp only [resL, oneD, sI_, eL_, go_sem, hH, hJ, hY, hZ, hge, hb.1.1.1, hb.1.1.2, hb.1.2, hb.2, hc, hL, hD, e1, e2, e3, hgt, ho3, hroom]; try exact lE_)
 | (cases h; done))

theorem lex_name {text : Str} (hl : text.length ≤ 100000) {B : Base} {Q : Exit → Tm → St → Prop} {p : List Tok × Int × Int} (hB : B.s = S0)
   (hQ : retF 0 0 [(2, none), (3, some (true, 2))] (.tuple [.slice .shared 4 (p.1.map encTok), .agg (encF p.2)]) ⟨[], []⟩ = Q)
   {n pos : Nat} {out : List Tok} (ho : out.length ≤ 2000) (hp : pos ≤ text.length) (IH : LexGo text B Q p (n + 1))
   {c : UInt8} {r : Str} (h1 : text.drop pos = c :: r) (hb : isB c = false) (hc : ((c.toNat : Int) == 35) = false) (hL : isL c = true) (hn : (c :: r).length < n + 1) (h : lexF (n + 1) pos (c :: r) out = p) :
   wpC Tryz.prog B 152 Q8N (jumpA Tryz.prog B 152 Q8S Q) (lexTM text out pos) (lexST out) := by
 have hY : 0 < 1 := Nat.zero_lt_one
 have hZ : 0 < 1 := Nat.zero_lt_one
 have hJ := (drop_cons h1).1
 have g4 := (drop_cons h1).2.2.2
 have hH : pos < 4611686018427387904 := by omega
 have hge : decide ((pos : Int) ≥ (text.length : Int)) = false := by simp; omega
 have hroom : (out.length + 1) * 41 ≤ maxStr := by simp only [maxStr]; omega
 have hrun := fun s => run_s (text := text) (pos := pos) (by omega) s
 rw [h1] at hrun
 have hk2 := runL_len (c :: r)
 have hk1 := runL_pos (r := r) hL
 have hk3 : (c :: r).length = text.length - pos := by rw [← h1, List.length_drop]
 simp only [lexF, hb, Bool.false_eq_true, ↓reduceIte, hc, tokE, hL] at h
 simp only [isB, Bool.or_eq_false_iff] at hb
 generalize hK : runL (c :: r) = k at h hrun hk2 hk1
 have hlen : ((c :: r).take k).length = k := by rw [List.length_take]; omega
 simp only [hlen] at h
 have e1 : IntKind.wrap .i64 (((pos + k : Nat) : Int) - (pos : Int)) = (k : Int) := by rw [wrap_ok] <;> omega
 have e2 : (0 : Int) ≤ (pos : Int) ∧ (pos : Int) ≤ ((pos + k : Nat) : Int) ∧ ((pos + k : Nat) : Int) ≤ (text.length : Int) := by omega
 have e3 : (text.take (pos + k)).drop pos = (c :: r).take k := by rw [slice_at, h1]
 by_cases hz : k > 8
 · have hgt : decide ((k : Int) > 8) = true := by simp; omega
   simp only [hz, ↓reduceIte] at h
   cases hw : isWord ((c :: r).take k)
   · repeat' (first
 | simp only [go_sem, hH, hJ, hY, hZ, hge, hb.1.1.1, hb.1.1.2, hb.1.2, hb.2, hc, hL, e1, e2, e3, hgt, hw]
 | (with_reducible refine CU (letter_s _ _) ?_)
 | (with_reducible refine CU (hrun _) ?_)
 | (with_reducible refine CU (word_s _ _) ?_)
 | (with_reducible refine jumpA_go (l := 2) (by with_unfolding_all rfl) ?_)
 | (with_reducible refine jumpA_go (l := 4) (by with_unfolding_all rfl) ?_)
 | (with_reducible refine jumpA_go (l := 5) (by with_unfolding_all rfl) ?_)
 | (with_reducible first | refine kT_ fun hc => ?_ | refine kF_ fun hc => ?_ | refine kS_ (fun hc => ?_) fun hc => ?_) <;> (try simp only [hc, bs, ↓reduceIte] at h) <;> try simp only [hc]
 | (with_reducible refine lA_ hQ ?_; (try cases h); simp only [resL, oneD, sI_, eL_, go_sem, hH, hJ, hY, hZ, hge, hb.1.1.1, hb.1.1.2, hb.1.2, hb.2, hc, hL, e1, e2, e3, hgt, hw]; try exact lE_)
 | (cases h; done))
   · repeat' (first
 | simp only [go_sem, hH, hJ, hY, hZ, hge, hb.1.1.1, hb.1.1.2, hb.1.2, hb.2, hc, hL, e1, e2, e3, hgt, hw]
 | (with_reducible refine CU (letter_s _ _) ?_)
 | (with_reducible refine CU (hrun _) ?_)
 | (with_reducible refine CU (word_s _ _) ?_)
 | (with_reducible refine jumpA_go (l := 2) (by with_unfolding_all rfl) ?_)
 | (with_reducible refine jumpA_go (l := 4) (by with_unfolding_all rfl) ?_)
 | (with_reducible refine jumpA_go (l := 5) (by with_unfolding_all rfl) ?_)
 | (with_reducible first | refine kT_ fun hc => ?_ | refine kF_ fun hc => ?_ | refine kS_ (fun hc => ?_) fun hc => ?_) <;> (try simp only [hc, bs, ↓reduceIte] at h) <;> try simp only [hc]
 | (with_reducible refine lA_ hQ ?_; (try cases h); simp only [resL, oneD, sI_, eL_, go_sem, hH, hJ, hY, hZ, hge, hb.1.1.1, hb.1.1.2, hb.1.2, hb.2, hc, hL, e1, e2, e3, hgt, hw]; try exact lE_)
 | (cases h; done))
 · have hgt : decide ((k : Int) > 8) = false := by simp; omega
   have fin : text.drop (pos + k) = (c :: r).drop k := by rw [← h1, List.drop_drop]
   have hlen2 : ((c :: r).drop k).length < n := by rw [List.length_drop]; omega
   simp only [hz, ↓reduceIte, hlen] at h
   by_cases ho2 : out.length = 2000
   · have ho3 : ((out.length : Int) == 2000) = true := by simp [ho2]
     simp only [ho2, ↓reduceIte] at h
     cases hw : isWord ((c :: r).take k)
     · repeat' (first
 | simp only [go_sem, hH, hJ, hY, hZ, hge, hb.1.1.1, hb.1.1.2, hb.1.2, hb.2, hc, hL, e1, e2, e3, hgt, ho3, hw]
 | (with_reducible refine CU (letter_s _ _) ?_)
 | (with_reducible refine CU (hrun _) ?_)
 | (with_reducible refine CU (word_s _ _) ?_)
 | (with_reducible refine jumpA_go (l := 2) (by with_unfolding_all rfl) ?_)
 | (with_reducible refine jumpA_go (l := 4) (by with_unfolding_all rfl) ?_)
 | (with_reducible refine jumpA_go (l := 5) (by with_unfolding_all rfl) ?_)
 | (with_reducible first | refine kT_ fun hc => ?_ | refine kF_ fun hc => ?_ | refine kS_ (fun hc => ?_) fun hc => ?_) <;> (try simp only [hc, bs, ↓reduceIte] at h) <;> try simp only [hc]
 | (with_reducible refine lA_ hQ ?_; (try cases h); simp only [resL, oneD, sI_, eL_, go_sem, hH, hJ, hY, hZ, hge, hb.1.1.1, hb.1.1.2, hb.1.2, hb.2, hc, hL, e1, e2, e3, hgt, ho3, hw]; try exact lE_)
 | (cases h; done))
     · repeat' (first
 | simp only [go_sem, hH, hJ, hY, hZ, hge, hb.1.1.1, hb.1.1.2, hb.1.2, hb.2, hc, hL, e1, e2, e3, hgt, ho3, hw]
 | (with_reducible refine CU (letter_s _ _) ?_)
 | (with_reducible refine CU (hrun _) ?_)
 | (with_reducible refine CU (word_s _ _) ?_)
 | (with_reducible refine jumpA_go (l := 2) (by with_unfolding_all rfl) ?_)
 | (with_reducible refine jumpA_go (l := 4) (by with_unfolding_all rfl) ?_)
 | (with_reducible refine jumpA_go (l := 5) (by with_unfolding_all rfl) ?_)
 | (with_reducible first | refine kT_ fun hc => ?_ | refine kF_ fun hc => ?_ | refine kS_ (fun hc => ?_) fun hc => ?_) <;> (try simp only [hc, bs, ↓reduceIte] at h) <;> try simp only [hc]
 | (with_reducible refine lA_ hQ ?_; (try cases h); simp only [resL, oneD, sI_, eL_, go_sem, hH, hJ, hY, hZ, hge, hb.1.1.1, hb.1.1.2, hb.1.2, hb.2, hc, hL, e1, e2, e3, hgt, ho3, hw]; try exact lE_)
 | (cases h; done))
   · have ho3 : ((out.length : Int) == 2000) = false := by simp; omega
     have ho4 : ∀ t : Tok, (out ++ [t]).length ≤ 2000 := by intro t; simp; omega
     simp only [ho2, ↓reduceIte] at h
     cases hw : isWord ((c :: r).take k)
     · simp only [hw, Bool.false_eq_true, ↓reduceIte] at h
       repeat' (first
 | simp only [go_sem, hH, hJ, hY, hZ, hge, hb.1.1.1, hb.1.1.2, hb.1.2, hb.2, hc, hL, e1, e2, e3, hgt, ho3, hroom, hw]
 | (with_reducible refine CU (letter_s _ _) ?_)
 | (with_reducible refine CU (hrun _) ?_)
 | (with_reducible refine CU (word_s _ _) ?_)
 | (with_reducible refine jumpA_go (l := 2) (by with_unfolding_all rfl) ?_)
 | (with_reducible refine jumpA_go (l := 4) (by with_unfolding_all rfl) ?_)
 | (with_reducible refine jumpA_go (l := 5) (by with_unfolding_all rfl) ?_)
 | (refine IH.to hB fin h hlen2 (ho4 _) (by omega) (Nat.lt_succ_self _) ?_ ?_ ?_ <;> ((try simp only [go_sem, hH, hJ, hY, hZ]); repeat' (first | exact Ok.out | with_reducible refine aI_ ?_ ?_ | omega | (simp; done))); done)
 | (with_reducible first | refine kT_ fun hc => ?_ | refine kF_ fun hc => ?_ | refine kS_ (fun hc => ?_) fun hc => ?_) <;> (try simp only [hc, bs, ↓reduceIte] at h) <;> try simp only [hc]
 | (with_reducible refine lA_ hQ ?_; (try cases h); simp only [resL, oneD, sI_, eL_, go_sem, hH, hJ, hY, hZ, hge, hb.1.1.1, hb.1.1.2, hb.1.2, hb.2, hc, hL, e1, e2, e3, hgt, ho3, hroom, hw]; try exact lE_)
 | (cases h; done))
     · simp only [hw, ↓reduceIte] at h
       repeat' (first
 | simp only [go_sem, hH, hJ, hY, hZ, hge, hb.1.1.1, hb.1.1.2, hb.1.2, hb.2, hc, hL, e1, e2, e3, hgt, ho3, hroom, hw]
 | (with_reducible refine CU (letter_s _ _) ?_)
 | (with_reducible refine CU (hrun _) ?_)
 | (with_reducible refine CU (word_s _ _) ?_)
 | (with_reducible refine jumpA_go (l := 2) (by with_unfolding_all rfl) ?_)
 | (with_reducible refine jumpA_go (l := 4) (by with_unfolding_all rfl) ?_)
 | (with_reducible refine jumpA_go (l := 5) (by with_unfolding_all rfl) ?_)
 | (refine IH.to hB fin h hlen2 (ho4 _) (by omega) (Nat.lt_succ_self _) ?_ ?_ ?_ <;> ((try simp only [go_sem, hH, hJ, hY, hZ]); repeat' (first | exact Ok.out | with_reducible refine aI_ ?_ ?_ | omega | (simp; done))); done)
 | (with_reducible first | refine kT_ fun hc => ?_ | refine kF_ fun hc => ?_ | refine kS_ (fun hc => ?_) fun hc => ?_) <;> (try simp only [hc, bs, ↓reduceIte] at h) <;> try simp only [hc]
 | (with_reducible refine lA_ hQ ?_; (try cases h); simp only [resL, oneD, sI_, eL_, go_sem, hH, hJ, hY, hZ, hge, hb.1.1.1, hb.1.1.2, hb.1.2, hb.2, hc, hL, e1, e2, e3, hgt, ho3, hroom, hw]; try exact lE_)
 | (cases h; done))

end Go.Abs

/-! RefLex1 -/

namespace Go.Abs

set_option maxRecDepth 8000
open Go.Proofs

theorem Rsmall_s (c : UInt8) (s : St) : Fun Tryz.prog n_ref1_small [.int .u8 (c.toNat : Int)] s (.bool (isL c)) s := by
 refine Fun.pure ?_ rfl rfl s
 generalize h : isL c = b
 unfold isL at h
 unfold S0
 refine Fun.go has_ref1_small rfl fun B Q hB hQ => ?_
 have ⟨hH, hJ, hY, hZ⟩ := H4_
 repeat' (first
 | simp only [go_sem, hH, hJ, hY, hZ]
 | (with_reducible first | refine kT_ fun hc => ?_ | refine kF_ fun hc => ?_ | refine kS_ (fun hc => ?_) fun hc => ?_) <;> (try simp only [hc, bs, ↓reduceIte] at h) <;> try simp only [hc]
 | (with_reducible refine lA_ hQ ?_; exact lY_)
 | (cases h; done))

theorem Rdigit_s (c : UInt8) (s : St) : Fun Tryz.prog n_ref1_digit [.int .u8 (c.toNat : Int)] s (.bool (isD c)) s := by
 refine Fun.pure ?_ rfl rfl s
 generalize h : isD c = b
 unfold isD at h
 unfold S0
 refine Fun.go has_ref1_digit rfl fun B Q hB hQ => ?_
 have ⟨hH, hJ, hY, hZ⟩ := H4_
 repeat' (first
 | simp only [go_sem, hH, hJ, hY, hZ]
 | (with_reducible first | refine kT_ fun hc => ?_ | refine kF_ fun hc => ?_ | refine kS_ (fun hc => ?_) fun hc => ?_) <;> (try simp only [hc, bs, ↓reduceIte] at h) <;> try simp only [hc]
 | (with_reducible refine lA_ hQ ?_; exact lY_)
 | (cases h; done))

theorem Words_s (s : St) : Fun Tryz.prog n_ref1_Words [] s (.slice .shared 1 [[.str [103, 108, 111, 98, 97, 108]], [.str [112, 114, 111, 99]], [.str [118, 97, 114]], [.str [114, 101, 102]], [.str [105, 102]], [.str [101, 108, 115, 101]], [.str [119, 104, 105, 108, 101]], [.str [98, 114, 101, 97, 107]], [.str [99, 111, 110, 116, 105, 110, 117, 101]], [.str [114, 101, 116, 117, 114, 110]], [.str [103, 111, 116, 111]], [.str [114, 101, 97, 100]], [.str [112, 114, 105, 110, 116]]]) s := by
 refine Fun.pure ?_ rfl rfl s
 unfold S0
 refine Fun.go has_ref1_Words rfl fun B Q hB hQ => ?_
 have ⟨hH, hJ, hY, hZ⟩ := H4_
 repeat' (first
 | simp only [go_sem, hH, hJ, hY, hZ]
 | (with_reducible first | refine kT_ fun hc => ?_ | refine kF_ fun hc => ?_ | refine kS_ (fun hc => ?_) fun hc => ?_) <;> (try simp only [hc, bs, ↓reduceIte] at h) <;> try simp only [hc]
 | (with_reducible refine lA_ hQ ?_; exact lY_)
 | (cases h; done))

def isWordR (s : Str) : Bool :=
 [103, 108, 111, 98, 97, 108] == s || [112, 114, 111, 99] == s || [118, 97, 114] == s || [114, 101, 102] == s || [105, 102] == s || [101, 108, 115, 101] == s || [119, 104, 105, 108, 101] == s || [98, 114, 101, 97, 107] == s || [99, 111, 110, 116, 105, 110, 117, 101] == s || [114, 101, 116, 117, 114, 110] == s || [103, 111, 116, 111] == s || [114, 101, 97, 100] == s || [112, 114, 105, 110, 116] == s
theorem isWordR_eq (s : Str) : isWordR s = isWord s := by
 have e : ∀ a : Str, (a == s) = (s == a) := fun a => BEq.comm
 simp only [isWordR, isWord, e]

theorem RWord_s (text : Str) (s : St) : Fun Tryz.prog n_ref1_Word [.str text] s (.bool (isWord text)) s := by
 refine Fun.pure ?_ rfl rfl s
 rw [← isWordR_eq]
 generalize h : isWordR text = p
 unfold isWordR at h
 unfold S0
 refine Fun.go has_ref1_Word rfl fun B Q hB hQ => ?_
 have ⟨hH, hJ, hY, hZ⟩ := H4_
 repeat' (first
 | simp only [go_sem, hH, hJ, hY, hZ, Int.cast_ofNat_Int, wrap_ok, Int.reduceAdd, Int.reduceLT, Int.reduceNeg, decide_true, decide_false, Int.reduceToNat]
 | (with_reducible refine CU (Words_s _) ?_)
 | (with_reducible refine SemL.onceW ?_)
 | (with_reducible first | refine kT_ fun hc => ?_ | refine kF_ fun hc => ?_ | refine kS_ (fun hc => ?_) fun hc => ?_) <;> (try simp only [hc, bs, ↓reduceIte] at h) <;> try simp only [hc]
 | (with_reducible refine lA_ hQ ?_; (try cases h); simp only [resL, oneD, sI_, eL_, go_sem, hH, hJ, hY, hZ, Int.cast_ofNat_Int, wrap_ok, Int.reduceAdd, Int.reduceLT, Int.reduceNeg, decide_true, decide_false, Int.reduceToNat]; try exact lE_)
 | (cases h; done))

end Go.Abs

/-! Prs2 -/

namespace Go.Abs

set_option maxRecDepth 8000
open Go.Proofs

theorem op_0 {t : Tok} {p : Int × Int} (h : opOf t = p) : Fun Tryz.prog n_parse_op [.agg (encTok t)] S0 (.tuple [.int .i64 p.1, .int .i64 p.2]) S0 := by
 unfold opOf at h
 unfold S0
 refine Fun.go has_parse_op rfl fun B Q hB hQ => ?_
 have ⟨hH, hJ, hY, hZ⟩ := H4_
 repeat' (first
 | simp only [go_sem, hH, hJ, hY, hZ]
 | (with_reducible first | refine kT_ fun hc => ?_ | refine kF_ fun hc => ?_ | refine kS_ (fun hc => ?_) fun hc => ?_) <;> (try simp only [hc, bs, ↓reduceIte] at h) <;> try simp only [hc]
 | (with_reducible refine lA_ hQ ?_; exact lY_)
 | (cases h; done))

theorem depth_n : ∀ n, n < 4611686018427387904 → ∀ x : Ex, x.size ≤ n → Fun Tryz.prog n_parse_depth [.agg (encEx x)] S0 (.int .i64 (x.depth : Int)) S0 := by
 intro n
 induction n with
 | zero => rintro _ ⟨op, m, name, kids⟩ h; simp only [Ex.size] at h; omega
 | succ n ihn =>
 rintro hn ⟨op, m, name, kids⟩ hx
 have hk : ∀ y ∈ kids, Fun Tryz.prog n_parse_depth [.agg (encEx y)] S0 (.int .i64 (y.depth : Int)) S0 := fun y hy => ihn (by omega) y (by simp only [Ex.size] at hx; have := Ex.sizes_mem hy; omega)
 have hlen : kids.length < 4611686018427387904 := by simp only [Ex.size] at hx; have := Ex.sizes_len kids; omega
 have hdep : Ex.depths kids < 4611686018427387904 := by have := Ex.depth_size _ _ hx; simp only [Ex.depth] at this; omega
 unfold S0
 refine Fun.go has_parse_depth rfl fun B Q hB hQ => ?_
 have ⟨hH, hJ, hY, hZ⟩ := H4_
 repeat' (first
 | simp only [go_sem, hH, hJ, hY, hZ]
 | (with_reducible first | refine kT_ fun hc => ?_ | refine kF_ fun hc => ?_ | refine kS_ (fun hc => ?_) fun hc => ?_) <;> (try simp only [hc, bs, ↓reduceIte] at h) <;> try simp only [hc]
 | (with_reducible refine lA_ hQ ?_; exact lY_)
 | (cases h; done))
 refine rL_ 0 0 (SemL.ind (ι := List Ex × Nat × Nat) (fun i => kids.drop i.2.1 = i.1 ∧ max i.2.2 (Ex.depths i.1) = Ex.depths kids) (fun i => i.1.length)
   (fun i => [(3, .int .i64 (i.2.2 : Int)), (7, .slice .shared 4 (kids.map encEx)), (8, .int .i64 (kids.length : Int)), (9, .int .i64 (i.2.1 : Int))]) (fun _ => S0) ?_ (kids, 0, 0) ⟨rfl, by simp⟩)
 rintro ⟨rest, k, acc⟩ ⟨h1, h2⟩ IH
 unfold S0
 cases rest with
 | nil =>
   have hH := drop_nil h1
   simp only [Ex.depths, Nat.max_zero] at h2
   subst h2
   repeat' (first
 | simp only [go_sem, hH, hJ, hY, hZ, wrap_inc hdep, Ex.depth]
 | (with_reducible first | refine kT_ fun hc => ?_ | refine kF_ fun hc => ?_ | refine kS_ (fun hc => ?_) fun hc => ?_) <;> (try simp only [hc, bs, ↓reduceIte] at h) <;> try simp only [hc]
 | (with_reducible refine lA_ hQ ?_; (try cases h); simp only [resL, oneD, sI_, eL_, go_sem, hH, hJ, hY, hZ, wrap_inc hdep, Ex.depth]; try exact lE_)
 | (cases h; done))
 | cons y rest =>
   obtain ⟨g1, g2, hH, g4⟩ := drop_cons h1
   simp only [Ex.depths] at h2
   have hy := fun s => (hk y (List.mem_of_getElem? g1)).pure (by simp [D.oks, D.ok, okEx]) rfl s
   dsimp only at g1 g2 hH g4 h2
   repeat' (first
 | simp only [go_sem, hH, hJ, hY, hZ, g1]
 | (with_reducible refine CU (hy _) ?_)
 | (with_reducible first | refine kT_ fun hc => ?_ | refine kF_ fun hc => ?_ | refine kS_ (fun hc => ?_) fun hc => ?_) <;> (try simp only [hc, bs, ↓reduceIte] at h) <;> try simp only [hc]
 | (with_reducible refine lA_ hQ ?_; (try cases h); simp only [resL, oneD, sI_, eL_, go_sem, hH, hJ, hY, hZ, g1]; try exact lE_)
 | (cases h; done))
   refine rl_ 0 0 ?_ ?_ (IH (rest, k + 1, max acc y.depth) ⟨g2, by dsimp only; omega⟩ (by simp))
   · (simp only [go_sem, hH, hJ, hY, hZ, mx, wrap_inc (show k < 4611686018427387904 by omega)]; try exact lF_)
   · (simp only [go_sem, hH, hJ, hY, hZ, mx, wrap_inc (show k < 4611686018427387904 by omega)]; try exact lF_)

theorem depth_s {x : Ex} {d : Int} (h : depthO x = some d) (s : St) : Fun Tryz.prog n_parse_depth [.agg (encEx x)] s (.int .i64 d) s := by
 unfold depthO at h
 split at h
 · cases h; exact (depth_n x.size ‹_› x (Nat.le_refl _)).pure (by simp [D.oks, D.ok, okEx]) rfl s
 · cases h

theorem op_s (t : Tok) (s : St) : Fun Tryz.prog n_parse_op [.agg (encTok t)] s (.tuple [.int .i64 (opOf t).1, .int .i64 (opOf t).2]) s := (op_0 rfl).pure rfl rfl s


theorem ite_p {c : Prop} [Decidable c] {α : Type} {P : α → Prop} {a b : α} (ha : P a) (hb : P b) : P (if c then a else b) := by
 by_cases h : c
 · rw [if_pos h]; exact ha
 · rw [if_neg h]; exact hb
def OpR (p : Int × Int) : Prop := 0 ≤ p.2 ∧ p.2 ≤ 6
theorem op_range (t : Tok) : OpR (opOf t) := by
 unfold opOf
 repeat' with_reducible refine ite_p (P := OpR) ?_ ?_
 all_goals exact ⟨by decide, by decide⟩
theorem op_wrap (t : Tok) : IntKind.wrap .i64 ((opOf t).2 + 1) = (opOf t).2 + 1 := by
 have : 0 ≤ (opOf t).2 ∧ (opOf t).2 ≤ 6 := op_range t
 rw [wrap_ok] <;> omega

abbrev C_one (m : Nat) : Prop := ∀ {r : Rd} {p : Ex × Rd}, Rd.one m r = some p → ∀ {s : St} {o : Nat}, s.objs[o]? = some (encRd r) → Fun Tryz.prog n_parse_reader_one [.ptr o 0] s (.agg (encEx p.1)) ⟨s.objs.set o (encRd p.2), s.toks⟩
abbrev C_two (m : Nat) : Prop := ∀ {k : Int} {r : Rd} {p : Ex × Rd}, Rd.two m k r = some p → ∀ {s : St} {o : Nat}, s.objs[o]? = some (encRd r) → Fun Tryz.prog n_parse_reader_two [.ptr o 0, .int .i64 k] s (.agg (encEx p.1)) ⟨s.objs.set o (encRd p.2), s.toks⟩

theorem one_step {m : Nat} (one_s : C_one m) (two_s : C_two m) : C_one (m + 1) := by
 intro r p h s o ho
 refine Fun.meth ?_ rfl (okRd r) (okRd p.2) (by simp [D.ok, okEx]) ho
 unfold Rd.one at h
 refine Fun.go has_parse_reader_one rfl fun B Q hB hQ => ?_
 have ⟨hH, hJ, hY, hZ⟩ := H4_
 repeat' (first
 | simp only [go_sem, hH, hJ, hY, hZ]
 | (rw [Option.bind_eq_some_iff] at h; obtain ⟨_, h1, h⟩ := h; first | (with_reducible refine CU (peek_s h1 (by with_unfolding_all rfl)) ?_; have hH := peek_lt h1) | (with_reducible refine CU (take_s h1 (by with_unfolding_all rfl)) ?_) | (with_reducible refine CU (two_s h1 (by with_unfolding_all rfl)) ?_) | (with_reducible refine CU (want_s h1 (by with_unfolding_all rfl)) ?_) | (with_reducible refine CU (one_s h1 (by with_unfolding_all rfl)) ?_) | (with_reducible refine CU (bad_s h1 (by with_unfolding_all rfl)) ?_))
 | (with_reducible refine CU (good_s (by with_unfolding_all rfl)) ?_)
 | (with_reducible first | refine kT_ fun hc => ?_ | refine kF_ fun hc => ?_ | refine kS_ (fun hc => ?_) fun hc => ?_) <;> (try simp only [hc, bs, ↓reduceIte] at h) <;> try simp only [hc]
 | (with_reducible refine lA_ hQ ?_; exact lY_)
 | (cases h; done))

theorem two_step {m : Nat} (one_s : C_one m) (two_s : ∀ j < m, C_two j) : C_two (m + 1) := by
 intro k r p h s o ho
 refine Fun.meth ?_ rfl (okRd r) (okRd p.2) (by simp [D.ok, okEx]) ho
 unfold Rd.two at h
 refine Fun.go has_parse_reader_two rfl fun B Q hB hQ => ?_
 have ⟨hH, hJ, hY, hZ⟩ := H4_
 repeat' (first
 | simp only [go_sem, hH, hJ, hY, hZ]
 | (rw [Option.bind_eq_some_iff] at h; obtain ⟨_, h1, h⟩ := h; first | (with_reducible refine CU (one_s h1 (by with_unfolding_all rfl)) ?_))
 | (with_reducible first | refine kT_ fun hc => ?_ | refine kF_ fun hc => ?_ | refine kS_ (fun hc => ?_) fun hc => ?_) <;> (try simp only [hc, bs, ↓reduceIte] at h) <;> try simp only [hc]
 | (with_reducible refine lA_ hQ ?_; exact lY_)
 | (cases h; done))
 refine rL_ 3 0 (SemL.ind (ι := Nat × Ex × Rd) (fun i => Rd.twoL i.1 k i.2.1 i.2.2 = some p ∧ i.1 ≤ m) (fun i => i.1)
   (fun i => [(0, .ptr 0 0), (1, .int .i64 k), (4, .ptr 1 0), (5, .ptr 2 0)]) (fun i => ⟨[encRd i.2.2, encEx ex0, encEx i.2.1], []⟩) ?_ (m, _, _) ⟨h, Nat.le_refl _⟩)
 rintro ⟨n, x, r⟩ ⟨h, hn⟩ IH
 cases n with
 | zero => simp only [Rd.twoL] at h; cases h
 | succ n =>
   have two_n := @two_s n (by omega)
   simp only [Rd.twoL] at h
   repeat' (first
 | simp only [go_sem, hH, hJ, hY, hZ, op_wrap]
 | (rw [Option.bind_eq_some_iff] at h; obtain ⟨_, h1, h⟩ := h; first | (with_reducible refine CU (peek_s h1 (by with_unfolding_all rfl)) ?_; have hH := peek_lt h1) | (with_reducible refine CU (two_n h1 (by with_unfolding_all rfl)) ?_))
 | (with_reducible refine CU (good_s (by with_unfolding_all rfl)) ?_)
 | (with_reducible refine CU (op_s _ _) ?_)
 | (with_reducible first | refine kT_ fun hc => ?_ | refine kF_ fun hc => ?_ | refine kS_ (fun hc => ?_) fun hc => ?_) <;> (try simp only [hc, bs, ↓reduceIte] at h) <;> try simp only [hc]
 | (with_reducible refine lA_ hQ ?_; (try cases h); simp only [resL, oneD, sI_, eL_, go_sem, hH, hJ, hY, hZ, op_wrap]; try exact lE_)
 | (cases h; done))
   refine rL_ 3 0 (IH (n, _, _) ⟨h, by dsimp only at hn ⊢; omega⟩ (Nat.lt_succ_self _))

theorem one_two : ∀ n, ∀ m < n, C_one m ∧ C_two m := by
 intro n
 induction n with
 | zero => intro m h; exact absurd h (Nat.not_lt_zero _)
 | succ n ih =>
   intro m h
   cases m with
   | zero =>
     refine ⟨?_, ?_⟩
     · intro r p h; simp only [Rd.one] at h; cases h
     · intro k r p h; simp only [Rd.two] at h; cases h
   | succ m =>
     have hm := ih m (by omega)
     exact ⟨one_step hm.1 hm.2, two_step hm.1 fun j hj => (ih j (by omega)).2⟩

theorem two_s {m : Nat} {k : Int} {r : Rd} {p : Ex × Rd} (h : Rd.two m k r = some p) {s : St} {o : Nat} (ho : s.objs[o]? = some (encRd r)) :
   Fun Tryz.prog n_parse_reader_two [.ptr o 0, .int .i64 k] s (.agg (encEx p.1)) ⟨s.objs.set o (encRd p.2), s.toks⟩ := (one_two (m + 1) m (Nat.lt_succ_self _)).2 h ho

theorem whole_s {n : Nat} {r : Rd} {p : Ex × Rd} (h : Rd.whole n r = some p) {s : St} {o : Nat} (ho : s.objs[o]? = some (encRd r)) :
   Fun Tryz.prog n_parse_reader_whole [.ptr o 0] s (.agg (encEx p.1)) ⟨s.objs.set o (encRd p.2), s.toks⟩ := by
 refine Fun.meth ?_ rfl (okRd r) (okRd p.2) (by simp [D.ok, okEx]) ho
 unfold Rd.whole at h
 refine Fun.go has_parse_reader_whole rfl fun B Q hB hQ => ?_
 have ⟨hH, hJ, hY, hZ⟩ := H4_
 repeat' (first
 | simp only [go_sem, hH, hJ, hY, hZ]
 | (rw [Option.bind_eq_some_iff] at h; obtain ⟨_, h1, h⟩ := h; first | (with_reducible refine CU (peek_s h1 (by with_unfolding_all rfl)) ?_) | (with_reducible refine CU (depth_s h1 _) ?_) | (with_reducible refine CU (two_s h1 (by with_unfolding_all rfl)) ?_))
 | (with_reducible refine CU (good_s (by with_unfolding_all rfl)) ?_)
 | (with_reducible first | refine kT_ fun hc => ?_ | refine kF_ fun hc => ?_ | refine kS_ (fun hc => ?_) fun hc => ?_) <;> (try simp only [hc, bs, ↓reduceIte] at h) <;> try simp only [hc]
 | (with_reducible refine lA_ hQ ?_; exact lY_)
 | (cases h; done))

end Go.Abs

/-! Ref1 -/

namespace Go.Abs
open Go.Proofs

@[go_sem] def encRc (z : D) (r : Rd) : List D := [.slice .shared 4 (r.l.map encTok), .int .i64 r.i, .int .i64 r.code, .int .i64 r.fat, z]
class Cell (z : D) : Prop where
 ok : D.ok 0 0 z = true
 fg : ∀ n m, D.fg n m z = z
instance (n : Int) : Cell (.int .i64 n) := ⟨rfl, fun _ _ => rfl⟩
instance : Cell .junk := ⟨rfl, fun _ _ => rfl⟩
theorem Cell_fg (z : D) [h : Cell z] (n m : Nat) : D.fg n m z = z := h.fg n m
attribute [go_sem] Cell_fg
def Rd.isO (text : Str) (r : Rd) : Option Bool := if r.good then r.is text else some false

end Go.Abs

/-! Ref2 -/

namespace Go.Abs
open Go.Proofs

def bindsR (s : Str) : Int × Int :=
 if [42] == s then (6, 5) else if [47] == s then (6, 6) else if [37] == s then (6, 7) else if [43] == s then (5, 8) else if [45] == s then (5, 9)
 else if [60] == s then (4, 10) else if [60, 61] == s then (4, 11) else if [62] == s then (4, 12) else if [62, 61] == s then (4, 13)
 else if [61, 61] == s then (3, 14) else if [33, 61] == s then (3, 15) else if [38, 38] == s then (2, 16) else if [124, 124] == s then (1, 17) else (0, 0)

theorem binds_op (t : Tok) (hk : t.kind = 4) : opOf t = ((bindsR t.text).2, (bindsR t.text).1) := by
 obtain ⟨kind, text, n, pos⟩ := t
 dsimp only at hk
 subst hk
 simp only [opOf]
 by_cases h1 : text = [42]
 · subst h1; rfl
 by_cases h2 : text = [47]
 · subst h2; rfl
 by_cases h3 : text = [37]
 · subst h3; rfl
 by_cases h4 : text = [43]
 · subst h4; rfl
 by_cases h5 : text = [45]
 · subst h5; rfl
 by_cases h6 : text = [60]
 · subst h6; rfl
 by_cases h7 : text = [60, 61]
 · subst h7; rfl
 by_cases h8 : text = [62]
 · subst h8; rfl
 by_cases h9 : text = [62, 61]
 · subst h9; rfl
 by_cases h10 : text = [61, 61]
 · subst h10; rfl
 by_cases h11 : text = [33, 61]
 · subst h11; rfl
 by_cases h12 : text = [38, 38]
 · subst h12; rfl
 by_cases h13 : text = [124, 124]
 · subst h13; rfl
 have e : ∀ c : Str, ¬ text = c → (text == c) = false := fun c h => by simpa using h
 have e' : ∀ c : Str, ¬ text = c → (c == text) = false := fun c h => by simpa using fun h' => h h'.symm
 simp only [bindsR, e _ h1, e _ h2, e _ h3, e _ h4, e _ h5, e _ h6, e _ h7, e _ h8, e _ h9, e _ h10, e _ h11, e _ h12, e _ h13, e' _ h1, e' _ h2, e' _ h3, e' _ h4, e' _ h5, e' _ h6, e' _ h7, e' _ h8, e' _ h9, e' _ h10, e' _ h11, e' _ h12, e' _ h13,
   Bool.false_eq_true, ↓reduceIte]
 rfl
def BZ (p : Int × Int) : Prop := (p.2 == 0) = (p.1 == 0)
end Go.Abs

/-! Ref3 -/

namespace Go.Abs

set_option maxRecDepth 8000
open Go.Proofs

theorem deep_n : ∀ (most : Nat), most < 1000000 → ∀ x : Ex, x.size < 4611686018427387904 → ∀ s : St, Fun Tryz.prog n_ref3_deep [.agg (encEx x), .int .i64 (most : Int)] s (.int .i64 ((min x.depth (most + 1) : Nat) : Int)) s := by
 intro most
 induction most with
 | zero =>
   rintro _ ⟨op, m, name, kids⟩ hx s
   refine Fun.pure ?_ (by simp [D.oks, D.ok, okEx]) rfl s
   have hz : ((0 : Int) == 0) = true := rfl
   have e : min (Ex.depth ⟨op, m, name, kids⟩) (0 + 1) = 1 := by simp only [Ex.depth]; omega
   rw [e]
   unfold S0
   refine Fun.go has_ref3_deep rfl fun B Q hB hQ => ?_
   have ⟨hH, hJ, hY, hZ⟩ := H4_
   repeat' (first
 | simp only [go_sem, hH, hJ, hY, hZ, hz]
 | (with_reducible first | refine kT_ fun hc => ?_ | refine kF_ fun hc => ?_ | refine kS_ (fun hc => ?_) fun hc => ?_) <;> (try simp only [hc, bs, ↓reduceIte] at h) <;> try simp only [hc]
 | (with_reducible refine lA_ hQ ?_; (try cases h); simp only [resL, oneD, sI_, eL_, go_sem, hH, hJ, hY, hZ, hz]; try exact lE_)
 | (cases h; done))
 | succ most ih =>
   rintro hmost ⟨op, m, name, kids⟩ hx s
   refine Fun.pure ?_ (by simp [D.oks, D.ok, okEx]) rfl s
   have hlen : kids.length < 4611686018427387904 := by simp only [Ex.size] at hx; have := Ex.sizes_len kids; omega
   have hk : ∀ y ∈ kids, ∀ s, Fun Tryz.prog n_ref3_deep [.agg (encEx y), .int .i64 (most : Int)] s (.int .i64 ((min y.depth (most + 1) : Nat) : Int)) s := fun y hy s =>
     ih (by omega) y (by simp only [Ex.size] at hx; have := Ex.sizes_mem hy; omega) s
   have hz : (((most + 1 : Nat) : Int) == 0) = false := by simp; omega
   have w1 : IntKind.wrap .i64 (((most + 1 : Nat) : Int) - 1) = (most : Int) := by rw [wrap_ok] <;> omega
   unfold S0
   refine Fun.go has_ref3_deep rfl fun B Q hB hQ => ?_
   have ⟨hH, hJ, hY, hZ⟩ := H4_
   repeat' (first
 | simp only [go_sem, hH, hJ, hY, hZ, hz]
 | (with_reducible first | refine kT_ fun hc => ?_ | refine kF_ fun hc => ?_ | refine kS_ (fun hc => ?_) fun hc => ?_) <;> (try simp only [hc, bs, ↓reduceIte] at h) <;> try simp only [hc]
 | (with_reducible refine lA_ hQ ?_; (try cases h); simp only [resL, oneD, sI_, eL_, go_sem, hH, hJ, hY, hZ, hz]; try exact lE_)
 | (cases h; done))
   refine rL_ 1 0 (SemL.ind (ι := List Ex × Nat × Nat) (fun i => kids.drop i.2.1 = i.1 ∧ i.2.2 ≤ most + 1 ∧ min (max i.2.2 (Ex.depths i.1)) (most + 1) = min (Ex.depths kids) (most + 1)) (fun i => i.1.length)
     (fun i => [(1, .int .i64 ((most + 1 : Nat) : Int)), (2, .ptr 0 0), (5, .int .i64 (i.2.2 : Int)), (6, .int .i64 (i.2.1 : Int))]) (fun i => ⟨[encEx ⟨op, m, name, kids⟩], []⟩) ?_ (kids, 0, 0) ⟨rfl, Nat.zero_le _, by simp⟩)
   rintro ⟨rest, k, d⟩ ⟨h1, h2, h3⟩ IH
   dsimp only at h1 h2 h3
   have hd : min (Ex.depth ⟨op, m, name, kids⟩) (most + 1 + 1) = min (Ex.depths kids) (most + 1) + 1 := by simp only [Ex.depth]; omega
   rw [hd, ← h3] at hQ
   have w2 : IntKind.wrap .i64 ((d : Int) + 1) = ((d + 1 : Nat) : Int) := by rw [wrap_ok] <;> omega
   by_cases hmax : d < most + 1
   · have c2 : decide ((d : Int) < ((most + 1 : Nat) : Int)) = true := by simp; omega
     cases rest with
     | nil =>
       have hH := drop_nil h1
       simp only [Ex.depths, Nat.max_zero] at hQ
       have e : min d (most + 1) = d := by omega
       rw [e] at hQ
       repeat' (first
 | simp only [go_sem, hH, hJ, hY, hZ, c2, w2]
 | (with_reducible first | refine kT_ fun hc => ?_ | refine kF_ fun hc => ?_ | refine kS_ (fun hc => ?_) fun hc => ?_) <;> (try simp only [hc, bs, ↓reduceIte] at h) <;> try simp only [hc]
 | (with_reducible refine lA_ hQ ?_; (try cases h); simp only [resL, oneD, sI_, eL_, go_sem, hH, hJ, hY, hZ, c2, w2]; try exact lE_)
 | (cases h; done))
     | cons y rest =>
       obtain ⟨hJ, g2, hH, g4⟩ := drop_cons h1
       have hy := hk y (List.mem_of_getElem? hJ)
       simp only [Ex.depths] at h3
       have hk2 : k < 4611686018427387904 := by omega
       by_cases hgt : min y.depth (most + 1) > d
       · have c3 : decide (((min y.depth (most + 1) : Nat) : Int) > (d : Int)) = true := by simp only [decide_eq_true_eq]; omega
         repeat' (first
 | simp only [go_sem, hH, hJ, hY, hZ, c2, w1, c3]
 | (with_reducible refine CU (hy _) ?_)
 | (with_reducible first | refine kT_ fun hc => ?_ | refine kF_ fun hc => ?_ | refine kS_ (fun hc => ?_) fun hc => ?_) <;> (try simp only [hc, bs, ↓reduceIte] at h) <;> try simp only [hc]
 | (with_reducible refine lA_ hQ ?_; (try cases h); simp only [resL, oneD, sI_, eL_, go_sem, hH, hJ, hY, hZ, c2, w1, c3]; try exact lE_)
 | (cases h; done))
         refine rl_ 1 0 ?_ ?_ (IH (rest, k + 1, min y.depth (most + 1)) ⟨g2, by dsimp only; omega, by dsimp only; omega⟩ (Nat.lt_succ_self _))
         · (simp only [go_sem, hH, hJ, hY, hZ, wrap_inc hk2]; try exact lF_)
         · (simp only [go_sem, hH, hJ, hY, hZ, wrap_inc hk2]; try exact lF_)
       · have c3 : decide (((min y.depth (most + 1) : Nat) : Int) > (d : Int)) = false := by simp only [decide_eq_false_iff_not]; omega
         repeat' (first
 | simp only [go_sem, hH, hJ, hY, hZ, c2, w1, c3]
 | (with_reducible refine CU (hy _) ?_)
 | (with_reducible first | refine kT_ fun hc => ?_ | refine kF_ fun hc => ?_ | refine kS_ (fun hc => ?_) fun hc => ?_) <;> (try simp only [hc, bs, ↓reduceIte] at h) <;> try simp only [hc]
 | (with_reducible refine lA_ hQ ?_; (try cases h); simp only [resL, oneD, sI_, eL_, go_sem, hH, hJ, hY, hZ, c2, w1, c3]; try exact lE_)
 | (cases h; done))
         refine rl_ 1 0 ?_ ?_ (IH (rest, k + 1, d) ⟨g2, h2, by dsimp only; omega⟩ (Nat.lt_succ_self _))
         · (simp only [go_sem, hH, hJ, hY, hZ, wrap_inc hk2]; try exact lF_)
         · (simp only [go_sem, hH, hJ, hY, hZ, wrap_inc hk2]; try exact lF_)
   · have c2 : decide ((d : Int) < ((most + 1 : Nat) : Int)) = false := by simp; omega
     have e : min (max d (Ex.depths rest)) (most + 1) = d := by omega
     rw [e] at hQ
     cases rest with
     | nil =>
       have hH := drop_nil h1
       repeat' (first
 | simp only [go_sem, hH, hJ, hY, hZ, c2, w2]
 | (with_reducible first | refine kT_ fun hc => ?_ | refine kF_ fun hc => ?_ | refine kS_ (fun hc => ?_) fun hc => ?_) <;> (try simp only [hc, bs, ↓reduceIte] at h) <;> try simp only [hc]
 | (with_reducible refine lA_ hQ ?_; (try cases h); simp only [resL, oneD, sI_, eL_, go_sem, hH, hJ, hY, hZ, c2, w2]; try exact lE_)
 | (cases h; done))
     | cons y rest =>
       obtain ⟨hJ, g2, hH, g4⟩ := drop_cons h1
       repeat' (first
 | simp only [go_sem, hH, hJ, hY, hZ, c2, w2]
 | (with_reducible first | refine kT_ fun hc => ?_ | refine kF_ fun hc => ?_ | refine kS_ (fun hc => ?_) fun hc => ?_) <;> (try simp only [hc, bs, ↓reduceIte] at h) <;> try simp only [hc]
 | (with_reducible refine lA_ hQ ?_; (try cases h); simp only [resL, oneD, sI_, eL_, go_sem, hH, hJ, hY, hZ, c2, w2]; try exact lE_)
 | (cases h; done))

theorem EqExpr_n : ∀ N, N < 4611686018427387904 → ∀ x y : Ex, x.size ≤ N → ∀ s : St, Fun Tryz.prog n_ref3_EqExpr [.agg (encEx x), .agg (encEx y)] s (.bool (Ex.beq x y)) s := by
 intro N
 induction N with
 | zero => rintro _ ⟨op, m, name, kids⟩ y h; simp only [Ex.size] at h; omega
 | succ N ih =>
 rintro hN ⟨op, m, name, kids⟩ ⟨op', m', name', kids'⟩ hx s
 refine Fun.pure ?_ (by simp [D.oks, D.ok, okEx]) rfl s
 have hk : ∀ a ∈ kids, ∀ b s, Fun Tryz.prog n_ref3_EqExpr [.agg (encEx a), .agg (encEx b)] s (.bool (Ex.beq a b)) s := fun a ha b s =>
   ih (by omega) a b (by simp only [Ex.size] at hx; have := Ex.sizes_mem ha; omega) s
 have hlen : kids.length < 4611686018427387904 := by simp only [Ex.size] at hx; have := Ex.sizes_len kids; omega
 generalize h : Ex.beq ⟨op, m, name, kids⟩ ⟨op', m', name', kids'⟩ = p
 simp only [Ex.beq] at h
 unfold S0
 refine Fun.go has_ref3_EqExpr rfl fun B Q hB hQ => ?_
 have ⟨hH, hJ, hY, hZ⟩ := H4_
 repeat' (first
 | simp only [go_sem, hH, hJ, hY, hZ]
 | (with_reducible first | refine kT_ fun hc => ?_ | refine kF_ fun hc => ?_ | refine kS_ (fun hc => ?_) fun hc => ?_) <;> (try simp only [hc, bs, ↓reduceIte] at h) <;> try simp only [hc]
 | (with_reducible refine lA_ hQ ?_; exact lY_)
 | (cases h; done))
 rename_i hl4
 have hl5 : kids.length = kids'.length := by
   have : ((kids.length : Int) != (kids'.length : Int)) = false := by assumption
   simp only [bne_eq_false_iff_eq] at this
   omega
 refine rL_ 2 0 (SemL.ind (ι := List Ex × List Ex × Nat) (fun i => kids.drop i.2.2 = i.1 ∧ kids'.drop i.2.2 = i.2.1 ∧ Ex.beqs i.1 i.2.1 = p) (fun i => i.1.length)
   (fun i => [(2, .ptr 0 0), (3, .ptr 1 0), (36, .int .i64 (kids.length : Int)), (37, .int .i64 (i.2.2 : Int))]) (fun i => ⟨[encEx ⟨op, m, name, kids⟩, encEx ⟨op', m', name', kids'⟩], []⟩) ?_ (kids, kids', 0) ⟨rfl, rfl, h⟩)
 rintro ⟨r1, r2, k⟩ ⟨h1, h2, h⟩ IH
 dsimp only at h1 h2 h
 cases r1 with
 | nil =>
   have hH := drop_nil h1
   simp only [Ex.beqs] at h
   repeat' (first
 | simp only [go_sem, hH, hJ, hY, hZ]
 | (with_reducible first | refine kT_ fun hc => ?_ | refine kF_ fun hc => ?_ | refine kS_ (fun hc => ?_) fun hc => ?_) <;> (try simp only [hc, bs, ↓reduceIte] at h) <;> try simp only [hc]
 | (with_reducible refine lA_ hQ ?_; exact lY_)
 | (cases h; done))
 | cons a r1 =>
   obtain ⟨hJ, g2, hH, g4⟩ := drop_cons h1
   cases r2 with
   | nil => have := List.drop_eq_nil_iff.1 h2; omega
   | cons b r2 =>
     obtain ⟨hgb, b2, _, _⟩ := drop_cons h2
     have hk2 : k < 4611686018427387904 := by omega
     have hab := hk a (List.mem_of_getElem? hJ)
     simp only [Ex.beqs] at h
     repeat' (first
 | simp only [go_sem, hH, hJ, hY, hZ, hgb]
 | (with_reducible refine CU (hab _ _) ?_)
 | (with_reducible first | refine kT_ fun hc => ?_ | refine kF_ fun hc => ?_ | refine kS_ (fun hc => ?_) fun hc => ?_) <;> (try simp only [hc, bs, ↓reduceIte] at h) <;> try simp only [hc]
 | (with_reducible refine lA_ hQ ?_; (try cases h); simp only [resL, oneD, sI_, eL_, go_sem, hH, hJ, hY, hZ, hgb]; try exact lE_)
 | (cases h; done))
     refine rl_ 2 0 ?_ ?_ (IH (r1, r2, k + 1) ⟨g2, b2, h⟩ (Nat.lt_succ_self _))
     · (simp only [go_sem, hH, hJ, hY, hZ, wrap_inc hk2]; try exact lF_)
     · (simp only [go_sem, hH, hJ, hY, hZ, wrap_inc hk2]; try exact lF_)

theorem EqExpr_s {x y : Ex} (hx : x.size < 4611686018427387904) (s : St) : Fun Tryz.prog n_ref3_EqExpr [.agg (encEx x), .agg (encEx y)] s (.bool (Ex.beq x y)) s := EqExpr_n _ hx x y (Nat.le_refl _) s

end Go.Abs

/-! RefMay1 -/

namespace Go.Abs

set_option maxRecDepth 8000
open Go.Proofs

theorem RName_s (text : Str) (hl : text.length < 4611686018427387904) (s : St) : Fun Tryz.prog n_ref1_Name [.str text] s (.bool (isName text)) s := by
 refine Fun.pure ?_ rfl rfl s
 unfold S0
 cases text with
 | nil =>
   have e : (([] : Str) == []) = true := rfl
   refine Fun.go has_ref1_Name rfl fun B Q hB hQ => ?_
   have ⟨hH, hJ, hY, hZ⟩ := H4_
   repeat' (first
 | simp only [go_sem, hH, hJ, hY, hZ, e, isName]
 | (with_reducible first | refine kT_ fun hc => ?_ | refine kF_ fun hc => ?_ | refine kS_ (fun hc => ?_) fun hc => ?_) <;> (try simp only [hc, bs, ↓reduceIte] at h) <;> try simp only [hc]
 | (with_reducible refine lA_ hQ ?_; (try cases h); simp only [resL, oneD, sI_, eL_, go_sem, hH, hJ, hY, hZ, e, isName]; try exact lE_)
 | (cases h; done))
 | cons c r =>
   have e : ((c :: r) == []) = false := rfl
   generalize h : isName (c :: r) = p
   simp only [isName] at h
   refine Fun.go has_ref1_Name rfl fun B Q hB hQ => ?_
   have ⟨hH, hJ, hY, hZ⟩ := H4_
   repeat' (first
 | simp only [go_sem, hH, hJ, hY, hZ, e]
 | (with_reducible refine CU (Rsmall_s _ _) ?_)
 | (with_reducible first | refine kT_ fun hc => ?_ | refine kF_ fun hc => ?_ | refine kS_ (fun hc => ?_) fun hc => ?_) <;> (try simp only [hc, bs, ↓reduceIte] at h) <;> try simp only [hc]
 | (with_reducible refine lA_ hQ ?_; (try cases h); simp only [resL, oneD, sI_, eL_, go_sem, hH, hJ, hY, hZ, e]; try exact lE_)
 | (cases h; done))
   refine rL_ 0 0 (SemL.ind (ι := Str × Nat) (fun i => (c :: r).drop i.2 = i.1 ∧ (if nameT i.1 then !(isWord (c :: r)) else false) = p) (fun i => i.1.length)
     (fun i => [(0, .str (c :: r)), (3, .int .i64 (i.2 : Int))]) (fun i => ⟨[], []⟩) ?_ (r, 1) ⟨rfl, h⟩)
   rintro ⟨rest, k⟩ ⟨h1, h⟩ IH
   dsimp only at h1 h
   cases rest with
   | nil =>
     have hH := drop_nil h1
     simp only [List.length_cons] at hH
     simp only [nameT, ↓reduceIte] at h
     repeat' (first
 | simp only [go_sem, hH, hJ, hY, hZ]
 | (with_reducible refine CU (RWord_s _ _) ?_)
 | (with_reducible first | refine kT_ fun hc => ?_ | refine kF_ fun hc => ?_ | refine kS_ (fun hc => ?_) fun hc => ?_) <;> (try simp only [hc, bs, ↓reduceIte] at h) <;> try simp only [hc]
 | (with_reducible refine lA_ hQ ?_; exact lY_)
 | (cases h; done))
   | cons d rest =>
     obtain ⟨hJ, g2, hH, g4⟩ := drop_cons h1
     simp only [List.length_cons] at hH
     have hY : k < 4611686018427387904 := by omega
     simp only [nameT] at h
     repeat' (first
 | simp only [go_sem, hH, hJ, hY, hZ]
 | (with_reducible refine CU (Rsmall_s _ _) ?_)
 | (with_reducible refine CU (Rdigit_s _ _) ?_)
 | (with_reducible first | refine kT_ fun hc => ?_ | refine kF_ fun hc => ?_ | refine kS_ (fun hc => ?_) fun hc => ?_) <;> (try simp only [hc, bs, ↓reduceIte] at h) <;> try simp only [hc]
 | (with_reducible refine lA_ hQ ?_; (try cases h); simp only [resL, oneD, sI_, eL_, go_sem, hH, hJ, hY, hZ]; repeat' (first | exact Ok.out | with_reducible refine aI_ ?_ ?_ | (simp; done)))
 | (cases h; done))
     all_goals
       refine rL_ 0 0 (IH (rest, k + 1) ⟨g2, h⟩ (Nat.lt_succ_self _))

theorem Arity_s (op : Int) (s : St) : Fun Tryz.prog n_ref3_Arity [.int .i64 op] s (.int .i64 (arityI op)) s := by
 refine Fun.pure ?_ rfl rfl s
 unfold S0
 generalize h : arityI op = p
 unfold arityI at h
 refine Fun.go has_ref3_Arity rfl fun B Q hB hQ => ?_
 have ⟨hH, hJ, hY, hZ⟩ := H4_
 repeat' (first
 | simp only [go_sem, hH, hJ, hY, hZ]
 | (with_reducible first | refine kT_ fun hc => ?_ | refine kF_ fun hc => ?_ | refine kS_ (fun hc => ?_) fun hc => ?_) <;> (try simp only [hc, bs, ↓reduceIte] at h) <;> try simp only [hc]
 | (with_reducible refine lA_ hQ ?_; exact lY_)
 | (cases h; done))

theorem names_s' {l : List Str} (hl : l.length < 4611686018427387904) (hs : ∀ t ∈ l, t.length < 4611686018427387904) (s : St) : Fun Tryz.prog n_ref3_names [.slice .shared 1 (l.map encStr)] s (.bool (mayNames l)) s := by
 refine Fun.pure ?_ (by simp [D.oks, D.ok, okrStr, Tag.ok]) rfl s
 unfold S0
 generalize h : mayNames l = p
 refine Fun.go has_ref3_names rfl fun B Q hB hQ => ?_
 have ⟨hH, hJ, hY, hZ⟩ := H4_
 repeat' (first
 | simp only [go_sem, hH, hJ, hY, hZ]
 | (with_reducible first | refine kT_ fun hc => ?_ | refine kF_ fun hc => ?_ | refine kS_ (fun hc => ?_) fun hc => ?_) <;> (try simp only [hc, bs, ↓reduceIte] at h) <;> try simp only [hc]
 | (with_reducible refine lA_ hQ ?_; exact lY_)
 | (cases h; done))
 refine rL_ 0 0 (SemL.ind (ι := List Str × Nat) (fun i => l.drop i.2 = i.1 ∧ mayNames i.1 = p) (fun i => i.1.length)
   (fun i => [(5, .slice .shared 1 (l.map encStr)), (6, .int .i64 (l.length : Int)), (7, .int .i64 (i.2 : Int))]) (fun i => ⟨[], []⟩) ?_ (l, 0) ⟨rfl, h⟩)
 rintro ⟨rest, k⟩ ⟨h1, h⟩ IH
 dsimp only at h1 h
 cases rest with
 | nil =>
   have hH := drop_nil h1
   simp only [mayNames] at h
   repeat' (first
 | simp only [go_sem, hH, hJ, hY, hZ]
 | (with_reducible first | refine kT_ fun hc => ?_ | refine kF_ fun hc => ?_ | refine kS_ (fun hc => ?_) fun hc => ?_) <;> (try simp only [hc, bs, ↓reduceIte] at h) <;> try simp only [hc]
 | (with_reducible refine lA_ hQ ?_; exact lY_)
 | (cases h; done))
 | cons t rest =>
   obtain ⟨hJ, g2, hH, g4⟩ := drop_cons h1
   have hY : k < 4611686018427387904 := by omega
   have hn := RName_s t (hs t (List.mem_of_getElem? hJ))
   simp only [mayNames] at h
   repeat' (first
 | simp only [go_sem, hH, hJ, hY, hZ]
 | (with_reducible refine CU (hn _) ?_)
 | (with_reducible first | refine kT_ fun hc => ?_ | refine kF_ fun hc => ?_ | refine kS_ (fun hc => ?_) fun hc => ?_) <;> (try simp only [hc, bs, ↓reduceIte] at h) <;> try simp only [hc]
 | (with_reducible refine lA_ hQ ?_; exact lY_)
 | (cases h; done))
   refine rL_ 0 0 (IH (rest, k + 1) ⟨g2, h⟩ (Nat.lt_succ_self _))

theorem form_n : ∀ (n : Nat) (x : Ex), x.size ≤ n → x.size < 4611686018427387904 → x.texts → ∀ s : St, Fun Tryz.prog n_ref3_form [.agg (encEx x)] s (.bool x.form) s := by
 intro n
 induction n with
 | zero => rintro ⟨op, m, name, kids⟩ h; simp only [Ex.size] at h; omega
 | succ n ih =>
   rintro ⟨op, m, name, kids⟩ h hx ht s
   refine Fun.pure ?_ (by simp [D.oks, D.ok, okEx]) rfl s
   have hlen : kids.length < 4611686018427387904 := by simp only [Ex.size] at hx; have := Ex.sizes_len kids; omega
   have hk : ∀ y ∈ kids, ∀ s, Fun Tryz.prog n_ref3_form [.agg (encEx y)] s (.bool y.form) s := fun y hy s =>
     ih y (by simp only [Ex.size] at h; have := Ex.sizes_mem hy; omega) (by simp only [Ex.size] at hx; have := Ex.sizes_mem hy; omega) (Ex.texts_mem ht hy) s
   have hn := RName_s name ht.1
   unfold S0
   generalize h : Ex.form ⟨op, m, name, kids⟩ = p
   simp only [Ex.form] at h
   refine Fun.go has_ref3_form rfl fun B Q hB hQ => ?_
   have ⟨hH, hJ, hY, hZ⟩ := H4_
   repeat' (first
 | simp only [go_sem, hH, hJ, hY, hZ]
 | (with_reducible refine CU (Arity_s _ _) ?_)
 | (with_reducible refine CU (hn _) ?_)
 | (with_reducible first | refine kT_ fun hc => ?_ | refine kF_ fun hc => ?_ | refine kS_ (fun hc => ?_) fun hc => ?_) <;> (try simp only [hc, bs, ↓reduceIte] at h) <;> try simp only [hc]
 | (with_reducible refine lA_ hQ ?_; (try cases h); simp only [resL, oneD, sI_, eL_, go_sem, hH, hJ, hY, hZ]; repeat' (first | exact Ok.out | with_reducible refine aI_ ?_ ?_ | (simp; done)))
 | (cases h; done))
   all_goals
     refine rL_ 1 0 (SemL.ind (ι := List Ex × Nat) (fun i => kids.drop i.2 = i.1 ∧ Ex.forms i.1 = p) (fun i => i.1.length)
       (fun i => [(1, .ptr 0 0), (48, .int .i64 (kids.length : Int)), (49, .int .i64 (i.2 : Int))]) (fun i => ⟨[encEx ⟨op, m, name, kids⟩], []⟩) ?_ (kids, 0) ⟨rfl, h⟩)
     rintro ⟨rest, k⟩ ⟨h1, h⟩ IH
     dsimp only at h1 h
     cases rest with
     | nil =>
       have hH := drop_nil h1
       simp only [Ex.forms] at h
       repeat' (first
 | simp only [go_sem, hH, hJ, hY, hZ]
 | (with_reducible first | refine kT_ fun hc => ?_ | refine kF_ fun hc => ?_ | refine kS_ (fun hc => ?_) fun hc => ?_) <;> (try simp only [hc, bs, ↓reduceIte] at h) <;> try simp only [hc]
 | (with_reducible refine lA_ hQ ?_; exact lY_)
 | (cases h; done))
     | cons y rest =>
       obtain ⟨hJ, g2, hH, g4⟩ := drop_cons h1
       have hy := hk y (List.mem_of_getElem? hJ)
       have hY : k < 4611686018427387904 := by omega
       simp only [Ex.forms] at h
       repeat' (first
 | simp only [go_sem, hH, hJ, hY, hZ]
 | (with_reducible refine CU (hy _) ?_)
 | (with_reducible first | refine kT_ fun hc => ?_ | refine kF_ fun hc => ?_ | refine kS_ (fun hc => ?_) fun hc => ?_) <;> (try simp only [hc, bs, ↓reduceIte] at h) <;> try simp only [hc]
 | (with_reducible refine lA_ hQ ?_; exact lY_)
 | (cases h; done))
       refine rL_ 1 0 (IH (rest, k + 1) ⟨g2, h⟩ (Nat.lt_succ_self _))

theorem MayExpr_s {x : Ex} (hx : x.size < 4611686018427387904) (ht : x.texts) (s : St) : Fun Tryz.prog n_ref3_MayExpr [.agg (encEx x)] s (.bool x.may) s := by
 refine Fun.pure ?_ (by simp [D.oks, D.ok, okEx]) rfl s
 have hd := fun s => deep_n 20 (by decide) x hx s
 have c20 : ((20 : Nat) : Int) = 20 := rfl
 rw [c20] at hd
 have hf := form_n _ x (Nat.le_refl _) hx ht
 unfold S0
 generalize h : Ex.may x = p
 unfold Ex.may at h
 refine Fun.go has_ref3_MayExpr rfl fun B Q hB hQ => ?_
 have ⟨hH, hJ, hY, hZ⟩ := H4_
 repeat' (first
 | simp only [go_sem, hH, hJ, hY, hZ]
 | (with_reducible refine CU (hd _) ?_)
 | (with_reducible refine CU (hf _) ?_)
 | (with_reducible first | refine kT_ fun hc => ?_ | refine kF_ fun hc => ?_ | refine kS_ (fun hc => ?_) fun hc => ?_) <;> (try simp only [hc, bs, ↓reduceIte] at h) <;> try simp only [hc]
 | (with_reducible refine lA_ hQ ?_; exact lY_)
 | (cases h; done))

theorem none_s (x : Ex) (s : St) : Fun Tryz.prog n_ref3_none [.agg (encEx x)] s (.bool x.none) s := by
 refine Fun.pure ?_ (by simp [D.oks, D.ok, okEx]) rfl s
 unfold S0
 generalize h : Ex.none x = p
 unfold Ex.none at h
 refine Fun.go has_ref3_none rfl fun B Q hB hQ => ?_
 have ⟨hH, hJ, hY, hZ⟩ := H4_
 repeat' (first
 | simp only [go_sem, hH, hJ, hY, hZ]
 | (with_reducible first | refine kT_ fun hc => ?_ | refine kF_ fun hc => ?_ | refine kS_ (fun hc => ?_) fun hc => ?_) <;> (try simp only [hc, bs, ↓reduceIte] at h) <;> try simp only [hc]
 | (with_reducible refine lA_ hQ ?_; exact lY_)
 | (cases h; done))

theorem arg_s {a : Ar} (hx : a.x.size < 4611686018427387904) (ht : a.x.texts) (hn : a.name.length < 4611686018427387904) (s : St) : Fun Tryz.prog n_ref3_arg [.agg (encAr a)] s (.bool a.may) s := by
 refine Fun.pure ?_ (by simp [D.oks, D.ok, okAr]) rfl s
 have hm := MayExpr_s hx ht
 have h1 := RName_s a.name hn
 unfold S0
 generalize h : Ar.may a = p
 simp only [Ar.may] at h
 refine Fun.go has_ref3_arg rfl fun B Q hB hQ => ?_
 have ⟨hH, hJ, hY, hZ⟩ := H4_
 repeat' (first
 | simp only [go_sem, hH, hJ, hY, hZ]
 | (with_reducible refine CU (hm _) ?_)
 | (with_reducible refine CU (h1 _) ?_)
 | (with_reducible refine CU (none_s _ _) ?_)
 | (with_reducible first | refine kT_ fun hc => ?_ | refine kF_ fun hc => ?_ | refine kS_ (fun hc => ?_) fun hc => ?_) <;> (try simp only [hc, bs, ↓reduceIte] at h) <;> try simp only [hc]
 | (with_reducible refine lA_ hQ ?_; exact lY_)
 | (cases h; done))

end Go.Abs

/-! Full1 -/

namespace Go.Abs

set_option maxRecDepth 8000
open Go.Proofs

def weighT (t : Str) (n : Int) : Int := if n > 20000 then 20001 else if (t.length : Int) ≥ 20000 - n then 20001 else n + 1 + t.length
mutual
def weighE : Ex → Int → Int
 | ⟨_, _, name, kids⟩, n => weighEs kids (weighT name n)
def weighEs : List Ex → Int → Int
 | [], n => n
 | x :: l, n => if n ≤ 20000 then weighEs l (weighE x n) else n
end

theorem weighT_in {t : Str} {n : Int} (h0 : 0 ≤ n) : weighT t n ≤ 20001 ∧ (n ≤ 20000 → n + 1 ≤ weighT t n) ∧ 0 ≤ weighT t n ∧ (weighT t n ≤ 20000 → n + 1 + t.length = weighT t n) := by
 unfold weighT; split
 · omega
 · split <;> omega

theorem weigh_in : ∀ (m : Nat) (x : Ex), x.size ≤ m → ∀ n : Int, 0 ≤ n → weighE x n ≤ 20001 ∧ (n ≤ 20000 → n + 1 ≤ weighE x n) ∧ 0 ≤ weighE x n ∧ (weighE x n ≤ 20000 → (x.size : Int) + 1 ≤ 2 * (weighE x n - n) ∧ x.texts) := by
 intro m
 induction m with
 | zero => rintro ⟨op, v, name, kids⟩ h; simp only [Ex.size] at h; omega
 | succ m ih =>
   rintro ⟨op, v, name, kids⟩ h n h0
   simp only [Ex.size] at h
   obtain ⟨t1, t2, t3, t4⟩ := weighT_in (t := name) h0
   have go : ∀ (l : List Ex), Ex.sizes l ≤ m → ∀ c : Int, 0 ≤ c → c ≤ 20001 → weighEs l c ≤ 20001 ∧ c ≤ weighEs l c ∧ (weighEs l c ≤ 20000 → (Ex.sizes l : Int) ≤ 2 * (weighEs l c - c) ∧ Ex.textss l) := by
     intro l
     induction l with
     | nil => intro _ c h0 h1; simp only [weighEs, Ex.sizes]; exact ⟨h1, Int.le_refl _, fun _ => ⟨by omega, trivial⟩⟩
     | cons y l ihl =>
       intro hs c h0 h1
       simp only [Ex.sizes] at hs ⊢
       simp only [weighEs]
       split
       · rename_i hc
         obtain ⟨a1, a2, a3, a4⟩ := ih y (by omega) c h0
         obtain ⟨b1, b2, b3⟩ := ihl (by omega) (weighE y c) a3 a1
         have := a2 hc
         refine ⟨b1, by omega, fun hw => ?_⟩
         obtain ⟨c1, c2⟩ := b3 hw
         obtain ⟨d1, d2⟩ := a4 (by omega)
         exact ⟨by omega, d2, c2⟩
       · exact ⟨h1, Int.le_refl _, fun hw => by omega⟩
   obtain ⟨g1, g2, g3⟩ := go kids (by omega) (weighT name n) t3 t1
   simp only [weighE, Ex.size]
   refine ⟨g1, fun hn => by have := t2 hn; omega, by omega, fun hw => ?_⟩
   obtain ⟨k1, k2⟩ := g3 hw
   have := t4 (by omega)
   exact ⟨by omega, by omega, k2⟩

theorem weighT_s (t : Str) {n : Int} (h0 : 0 ≤ n) (h1 : n ≤ 20001) (s : St) : Fun Tryz.prog n_ref3_weighText [.str t, .int .i64 n] s (.int .i64 (weighT t n)) s := by
 refine Fun.pure ?_ rfl rfl s
 unfold S0
 have w1 : IntKind.wrap .i64 (20000 - n) = 20000 - n := wrap_ok (by omega) (by omega)
 have w2 : IntKind.wrap .i64 (n + 1) = n + 1 := wrap_ok (by omega) (by omega)
 by_cases c : n > 20000
 · have c1 : decide (n > 20000) = true := by simp; omega
   have e : weighT t n = 20001 := by simp [weighT, c]
   rw [e]
   refine Fun.go has_ref3_weighText rfl fun B Q hB hQ => ?_
   have ⟨hH, hJ, hY, hZ⟩ := H4_
   repeat' (first
 | simp only [go_sem, hH, hJ, hY, hZ, c1, w1, w2]
 | (with_reducible first | refine kT_ fun hc => ?_ | refine kF_ fun hc => ?_ | refine kS_ (fun hc => ?_) fun hc => ?_) <;> (try simp only [hc, bs, ↓reduceIte] at h) <;> try simp only [hc]
 | (with_reducible refine lA_ hQ ?_; (try cases h); simp only [resL, oneD, sI_, eL_, go_sem, hH, hJ, hY, hZ, c1, w1, w2]; try exact lE_)
 | (cases h; done))
 · have c1 : decide (n > 20000) = false := by simp; omega
   by_cases d : (t.length : Int) ≥ 20000 - n
   · have d1 : decide ((t.length : Int) ≥ 20000 - n) = true := by simp; omega
     have e : weighT t n = 20001 := by unfold weighT; rw [if_neg c, if_pos d]
     rw [e]
     refine Fun.go has_ref3_weighText rfl fun B Q hB hQ => ?_
     have ⟨hH, hJ, hY, hZ⟩ := H4_
     repeat' (first
 | simp only [go_sem, hH, hJ, hY, hZ, c1, d1, w1, w2]
 | (with_reducible first | refine kT_ fun hc => ?_ | refine kF_ fun hc => ?_ | refine kS_ (fun hc => ?_) fun hc => ?_) <;> (try simp only [hc, bs, ↓reduceIte] at h) <;> try simp only [hc]
 | (with_reducible refine lA_ hQ ?_; (try cases h); simp only [resL, oneD, sI_, eL_, go_sem, hH, hJ, hY, hZ, c1, d1, w1, w2]; try exact lE_)
 | (cases h; done))
   · have d1 : decide ((t.length : Int) ≥ 20000 - n) = false := by simp; omega
     have e : weighT t n = n + 1 + t.length := by unfold weighT; rw [if_neg c, if_neg d]
     have w3 : IntKind.wrap .i64 (n + 1 + t.length) = n + 1 + t.length := wrap_ok (by omega) (by omega)
     rw [e]
     refine Fun.go has_ref3_weighText rfl fun B Q hB hQ => ?_
     have ⟨hH, hJ, hY, hZ⟩ := H4_
     repeat' (first
 | simp only [go_sem, hH, hJ, hY, hZ, c1, d1, w1, w2, w3]
 | (with_reducible first | refine kT_ fun hc => ?_ | refine kF_ fun hc => ?_ | refine kS_ (fun hc => ?_) fun hc => ?_) <;> (try simp only [hc, bs, ↓reduceIte] at h) <;> try simp only [hc]
 | (with_reducible refine lA_ hQ ?_; (try cases h); simp only [resL, oneD, sI_, eL_, go_sem, hH, hJ, hY, hZ, c1, d1, w1, w2, w3]; try exact lE_)
 | (cases h; done))

theorem weighE_s : ∀ (m : Nat) (x : Ex), x.size ≤ m → ∀ {n : Int}, 0 ≤ n → n ≤ 20000 → ∀ s : St, Fun Tryz.prog n_ref3_weighExpr [.agg (encEx x), .int .i64 n] s (.int .i64 (weighE x n)) s := by
 intro m
 induction m with
 | zero => rintro ⟨op, v, name, kids⟩ h; simp only [Ex.size] at h; omega
 | succ m ih =>
   rintro ⟨op, v, name, kids⟩ hsz n h0 h1 s
   refine Fun.pure ?_ (by simp [D.oks, D.ok, okEx]) rfl s
   simp only [Ex.size] at hsz
   have hk : ∀ y ∈ kids, ∀ {n : Int}, 0 ≤ n → n ≤ 20000 → ∀ s : St, Fun Tryz.prog n_ref3_weighExpr [.agg (encEx y), .int .i64 n] s (.int .i64 (weighE y n)) s := fun y hy => ih y (by have := Ex.sizes_mem hy; omega)
   have ht := fun s => weighT_s name h0 (by omega) s
   obtain ⟨t1, t2, t3, t4⟩ := weighT_in (t := name) h0
   unfold S0
   generalize h : weighE ⟨op, v, name, kids⟩ n = p
   simp only [weighE] at h
   refine Fun.go has_ref3_weighExpr rfl fun B Q hB hQ => ?_
   have ⟨hH, hJ, hY, hZ⟩ := H4_
   repeat' (first
 | simp only [go_sem, hH, hJ, hY, hZ]
 | (with_reducible refine CU (ht _) ?_)
 | (with_reducible first | refine kT_ fun hc => ?_ | refine kF_ fun hc => ?_ | refine kS_ (fun hc => ?_) fun hc => ?_) <;> (try simp only [hc, bs, ↓reduceIte] at h) <;> try simp only [hc]
 | (with_reducible refine lA_ hQ ?_; exact lY_)
 | (cases h; done))
   refine rL_ 1 0 (SemL.ind (ι := List Ex × Nat × Int) (fun i => kids.drop i.2.1 = i.1 ∧ weighEs i.1 i.2.2 = p ∧ (i.2.1 : Int) ≤ i.2.2 ∧ i.2.2 ≤ 20001) (fun i => i.1.length)
     (fun i => [(1, .int .i64 i.2.2), (2, .ptr 0 0), (5, .int .i64 (i.2.1 : Int))]) (fun i => ⟨[encEx ⟨op, v, name, kids⟩], []⟩) ?_ (kids, 0, weighT name n) ⟨rfl, h, t3, t1⟩)
   rintro ⟨rest, k, c⟩ ⟨g1, h, g3, g4⟩ IH
   dsimp only at g1 h g3 g4
   cases rest with
   | nil =>
     have hH := drop_nil g1
     simp only [weighEs] at h
     repeat' (first
 | simp only [go_sem, hH, hJ, hY, hZ]
 | (with_reducible first | refine kT_ fun hc => ?_ | refine kF_ fun hc => ?_ | refine kS_ (fun hc => ?_) fun hc => ?_) <;> (try simp only [hc, bs, ↓reduceIte] at h) <;> try simp only [hc]
 | (with_reducible refine lA_ hQ ?_; exact lY_)
 | (cases h; done))
   | cons y rest =>
     obtain ⟨hJ, g2, hH, g5⟩ := drop_cons g1
     simp only [weighEs] at h
     by_cases hc : c ≤ 20000
     · have c1 : decide (c ≤ 20000) = true := by simp; omega
       have hy := fun s => hk y (List.mem_of_getElem? hJ) (n := c) (by omega) hc s
       obtain ⟨a1, a2, a3, a4⟩ := weigh_in _ y (Nat.le_refl _) c (by omega)
       have := a2 hc
       have w3 : IntKind.wrap .i64 ((k : Int) + 1) = ((k + 1 : Nat) : Int) := by rw [wrap_ok] <;> omega
       rw [if_pos hc] at h
       repeat' (first
 | simp only [go_sem, hH, hJ, hY, hZ, c1, w3]
 | (with_reducible refine CU (hy _) ?_)
 | (with_reducible first | refine kT_ fun hc => ?_ | refine kF_ fun hc => ?_ | refine kS_ (fun hc => ?_) fun hc => ?_) <;> (try simp only [hc, bs, ↓reduceIte] at h) <;> try simp only [hc]
 | (with_reducible refine lA_ hQ ?_; (try cases h); simp only [resL, oneD, sI_, eL_, go_sem, hH, hJ, hY, hZ, c1, w3]; try exact lE_)
 | (cases h; done))
       refine rL_ 1 0 (IH (rest, k + 1, weighE y c) ⟨g2, h, by dsimp only; omega, a1⟩ (Nat.lt_succ_self _))
     · have c1 : decide (c ≤ 20000) = false := by simp; omega
       rw [if_neg hc] at h
       repeat' (first
 | simp only [go_sem, hH, hJ, hY, hZ, c1]
 | (with_reducible first | refine kT_ fun hc => ?_ | refine kF_ fun hc => ?_ | refine kS_ (fun hc => ?_) fun hc => ?_) <;> (try simp only [hc, bs, ↓reduceIte] at h) <;> try simp only [hc]
 | (with_reducible refine lA_ hQ ?_; (try cases h); simp only [resL, oneD, sI_, eL_, go_sem, hH, hJ, hY, hZ, c1]; try exact lE_)
 | (cases h; done))

end Go.Abs

/-! Full2 -/

namespace Go.Abs

set_option maxRecDepth 8000
open Go.Proofs

mutual
def Ex.nodes : Ex → Nat
 | ⟨_, _, _, kids⟩ => 1 + Ex.nodess kids
def Ex.nodess : List Ex → Nat
 | [] => 0
 | x :: l => x.nodes + Ex.nodess l
end
mutual
def sizeM : Ex → Int → Int
 | ⟨_, _, _, kids⟩, most => sizeL kids most 1
def sizeL : List Ex → Int → Int → Int
 | [], _, n => n
 | x :: l, most, n => if n ≤ most then sizeL l most (n + sizeM x (most - n)) else n
end

theorem size_in : ∀ (m : Nat) (x : Ex), x.size ≤ m → ∀ most : Int, 0 ≤ most → 1 ≤ sizeM x most ∧ sizeM x most ≤ most + 1 ∧ (sizeM x most ≤ most → sizeM x most = x.nodes) := by
 intro m
 induction m with
 | zero => rintro ⟨op, v, name, kids⟩ h; simp only [Ex.size] at h; omega
 | succ m ih =>
   rintro ⟨op, v, name, kids⟩ h most h0
   simp only [Ex.size] at h
   have go : ∀ (l : List Ex), Ex.sizes l ≤ m → ∀ c : Int, 1 ≤ c → c ≤ most + 1 → 1 ≤ sizeL l most c ∧ sizeL l most c ≤ most + 1 ∧ (sizeL l most c ≤ most → sizeL l most c = c + Ex.nodess l) := by
     intro l
     induction l with
     | nil => intro _ c h0 h1; simp only [sizeL, Ex.nodess]; exact ⟨h0, h1, fun _ => by omega⟩
     | cons y l ihl =>
       intro hs c h0 h1
       simp only [Ex.sizes] at hs
       simp only [sizeL, Ex.nodess]
       split
       · rename_i hc
         obtain ⟨a1, a2, a3⟩ := ih y (by omega) (most - c) (by omega)
         obtain ⟨b1, b2, b3⟩ := ihl (by omega) (c + sizeM y (most - c)) (by omega) (by omega)
         refine ⟨b1, b2, fun hw => ?_⟩
         have mono : ∀ (l : List Ex), Ex.sizes l ≤ m → ∀ c : Int, 1 ≤ c → c ≤ most + 1 → c ≤ sizeL l most c := by
           intro l
           induction l with
           | nil => intro _ c _ _; simp only [sizeL]; omega
           | cons z l ihz =>
             intro hs c h0 h1
             simp only [Ex.sizes] at hs
             simp only [sizeL]
             split
             · obtain ⟨a1, a2, a3⟩ := ih z (by omega) (most - c) (by omega)
               have := ihz (by omega) (c + sizeM z (most - c)) (by omega) (by omega)
               omega
             · omega
         have := mono l (by omega) (c + sizeM y (most - c)) (by omega) (by omega)
         have e1 := b3 hw
         have e2 := a3 (by omega)
         omega
       · exact ⟨h0, h1, fun hw => by omega⟩
   obtain ⟨g1, g2, g3⟩ := go kids (by omega) 1 (by omega) (by omega)
   simp only [sizeM, Ex.nodes]
   refine ⟨g1, g2, fun hw => ?_⟩
   have := g3 hw
   omega

theorem Size_s : ∀ (m : Nat) (x : Ex), x.size ≤ m → ∀ {most : Int}, 0 ≤ most → most ≤ 1000000 → ∀ s : St, Fun Tryz.prog n_ref3_Size [.agg (encEx x), .int .i64 most] s (.int .i64 (sizeM x most)) s := by
 intro m
 induction m with
 | zero => rintro ⟨op, v, name, kids⟩ h; simp only [Ex.size] at h; omega
 | succ m ih =>
   rintro ⟨op, v, name, kids⟩ hsz most h0 h1 s
   refine Fun.pure ?_ (by simp [D.oks, D.ok, okEx]) rfl s
   simp only [Ex.size] at hsz
   have hk : ∀ y ∈ kids, ∀ {n : Int}, 0 ≤ n → n ≤ 1000000 → ∀ s : St, Fun Tryz.prog n_ref3_Size [.agg (encEx y), .int .i64 n] s (.int .i64 (sizeM y n)) s := fun y hy => ih y (by have := Ex.sizes_mem hy; omega)
   unfold S0
   generalize h : sizeM ⟨op, v, name, kids⟩ most = p
   simp only [sizeM] at h
   refine Fun.go has_ref3_Size rfl fun B Q hB hQ => ?_
   have ⟨hH, hJ, hY, hZ⟩ := H4_
   repeat' (first
 | simp only [go_sem, hH, hJ, hY, hZ]
 | (with_reducible first | refine kT_ fun hc => ?_ | refine kF_ fun hc => ?_ | refine kS_ (fun hc => ?_) fun hc => ?_) <;> (try simp only [hc, bs, ↓reduceIte] at h) <;> try simp only [hc]
 | (with_reducible refine lA_ hQ ?_; exact lY_)
 | (cases h; done))
   refine rL_ 1 0 (SemL.ind (ι := List Ex × Nat × Int) (fun i => kids.drop i.2.1 = i.1 ∧ sizeL i.1 most i.2.2 = p ∧ (i.2.1 : Int) + 1 ≤ i.2.2 ∧ i.2.2 ≤ most + 1) (fun i => i.1.length)
     (fun i => [(1, .int .i64 most), (2, .ptr 0 0), (5, .int .i64 i.2.2), (6, .int .i64 (i.2.1 : Int))]) (fun i => ⟨[encEx ⟨op, v, name, kids⟩], []⟩) ?_ (kids, 0, 1) ⟨rfl, h, by dsimp only; omega, by dsimp only; omega⟩)
   rintro ⟨rest, k, c⟩ ⟨g1, h, g3, g4⟩ IH
   dsimp only at g1 h g3 g4
   cases rest with
   | nil =>
     have hH := drop_nil g1
     simp only [sizeL] at h
     repeat' (first
 | simp only [go_sem, hH, hJ, hY, hZ]
 | (with_reducible first | refine kT_ fun hc => ?_ | refine kF_ fun hc => ?_ | refine kS_ (fun hc => ?_) fun hc => ?_) <;> (try simp only [hc, bs, ↓reduceIte] at h) <;> try simp only [hc]
 | (with_reducible refine lA_ hQ ?_; exact lY_)
 | (cases h; done))
   | cons y rest =>
     obtain ⟨hJ, g2, hH, g5⟩ := drop_cons g1
     simp only [sizeL] at h
     by_cases hc : c ≤ most
     · have c1 : decide (c ≤ most) = true := by simp; omega
       have hy := fun s => hk y (List.mem_of_getElem? hJ) (n := most - c) (by omega) (by omega) s
       obtain ⟨a1, a2, a3⟩ := size_in _ y (Nat.le_refl _) (most - c) (by omega)
       have w3 : IntKind.wrap .i64 ((k : Int) + 1) = ((k + 1 : Nat) : Int) := by rw [wrap_ok] <;> omega
       have w4 : IntKind.wrap .i64 (most - c) = most - c := wrap_ok (by omega) (by omega)
       have w5 : IntKind.wrap .i64 (c + sizeM y (most - c)) = c + sizeM y (most - c) := wrap_ok (by omega) (by omega)
       rw [if_pos hc] at h
       repeat' (first
 | simp only [go_sem, hH, hJ, hY, hZ, c1, w3, w4, w5]
 | (with_reducible refine CU (hy _) ?_)
 | (with_reducible first | refine kT_ fun hc => ?_ | refine kF_ fun hc => ?_ | refine kS_ (fun hc => ?_) fun hc => ?_) <;> (try simp only [hc, bs, ↓reduceIte] at h) <;> try simp only [hc]
 | (with_reducible refine lA_ hQ ?_; (try cases h); simp only [resL, oneD, sI_, eL_, go_sem, hH, hJ, hY, hZ, c1, w3, w4, w5]; try exact lE_)
 | (cases h; done))
       refine rL_ 1 0 (IH (rest, k + 1, c + sizeM y (most - c)) ⟨g2, h, by dsimp only; omega, by dsimp only; omega⟩ (Nat.lt_succ_self _))
     · have c1 : decide (c ≤ most) = false := by simp; omega
       rw [if_neg hc] at h
       repeat' (first
 | simp only [go_sem, hH, hJ, hY, hZ, c1]
 | (with_reducible first | refine kT_ fun hc => ?_ | refine kF_ fun hc => ?_ | refine kS_ (fun hc => ?_) fun hc => ?_) <;> (try simp only [hc, bs, ↓reduceIte] at h) <;> try simp only [hc]
 | (with_reducible refine lA_ hQ ?_; (try cases h); simp only [resL, oneD, sI_, eL_, go_sem, hH, hJ, hY, hZ, c1]; try exact lE_)
 | (cases h; done))

end Go.Abs

/-! MirEq -/

namespace Go.Abs

def eqTs : List Str → List Str → Bool
 | [], _ => true
 | _ :: _, [] => true
 | x :: l, y :: l' => if !(x == y) then false else eqTs l l'
def eqT (l l' : List Str) : Bool := if (l.length : Int) != (l'.length : Int) then false else eqTs l l'

def Ar.beqs : List Ar → List Ar → Bool
 | [], _ => true
 | _ :: _, [] => true
 | a :: l, b :: l' => if !(a.ref == b.ref) || !(a.name == b.name) || !(Ex.beq a.x b.x) then false else Ar.beqs l l'

mutual
def Sm.beq : Sm → Sm → Bool
 | ⟨id, kind, labels, name, proc, x, has, args, thn, els⟩, ⟨id', kind', labels', name', proc', x', has', args', thn', els'⟩ =>
   if id != id' || kind != kind' || !(name == name') || !(proc == proc') || !(has == has') || !(eqT labels labels') || !(Ex.beq x x') || (args.length : Int) != (args'.length : Int) then false
   else if !(Ar.beqs args args') then false
   else if (if (thn.length : Int) != (thn'.length : Int) then false else Sm.beqs thn thn') then (if (els.length : Int) != (els'.length : Int) then false else Sm.beqs els els') else false
def Sm.beqs : List Sm → List Sm → Bool
 | [], _ => true
 | _ :: _, [] => true
 | s :: l, t :: l' => if !(Sm.beq s t) then false else Sm.beqs l l'
end
def Sm.beqL (l l' : List Sm) : Bool := if (l.length : Int) != (l'.length : Int) then false else Sm.beqs l l'

def Pm.beqs : List Pm → List Pm → Bool
 | [], _ => true
 | _ :: _, [] => true
 | a :: l, b :: l' => if !((a.name == b.name) && (a.ref == b.ref)) then false else Pm.beqs l l'

def Pc.beqs : List Pc → List Pc → Bool
 | [], _ => true
 | _ :: _, [] => true
 | f :: l, g :: l' =>
   if !(f.name == g.name) || (f.params.length : Int) != (g.params.length : Int) || !(eqT f.vars g.vars) || !(eqT f.fin g.fin) || !(Sm.beqL f.body g.body) then false
   else if !(Pm.beqs f.params g.params) then false else Pc.beqs l l'

def Pg.beq (p q : Pg) : Bool := if !(eqT p.globals q.globals) || (p.procs.length : Int) != (q.procs.length : Int) then false else Pc.beqs p.procs q.procs

/-! ### What is the same is the same -/

theorem eqTs_refl : ∀ l, eqTs l l = true
 | [] => rfl
 | x :: l => by simp [eqTs, eqTs_refl l]
theorem eqT_refl (l : List Str) : eqT l l = true := by simp [eqT, eqTs_refl]
theorem Ar.beqs_refl : ∀ l, Ar.beqs l l = true
 | [] => rfl
 | x :: l => by simp [Ar.beqs, Ar.beqs_refl l, Ex.beq_refl]
mutual
theorem Sm.beq_refl : ∀ s, Sm.beq s s = true
 | ⟨id, kind, labels, name, proc, x, has, args, thn, els⟩ => by simp [Sm.beq, eqT_refl, Ex.beq_refl, Ar.beqs_refl, Sm.beqs_refl thn, Sm.beqs_refl els]
theorem Sm.beqs_refl : ∀ l, Sm.beqs l l = true
 | [] => rfl
 | x :: l => by simp [Sm.beqs, Sm.beq_refl x, Sm.beqs_refl l]
end
theorem Sm.beqL_refl (l : List Sm) : Sm.beqL l l = true := by simp [Sm.beqL, Sm.beqs_refl]
theorem Pm.beqs_refl : ∀ l, Pm.beqs l l = true
 | [] => rfl
 | x :: l => by simp [Pm.beqs, Pm.beqs_refl l]
theorem Pc.beqs_refl : ∀ l, Pc.beqs l l = true
 | [] => rfl
 | x :: l => by simp [Pc.beqs, Pc.beqs_refl l, eqT_refl, Sm.beqL_refl, Pm.beqs_refl]
theorem Pg.beq_refl (p : Pg) : Pg.beq p p = true := by simp [Pg.beq, eqT_refl, Pc.beqs_refl]

end Go.Abs

/-! RefEq -/

namespace Go.Abs

set_option maxRecDepth 8000
open Go.Proofs

theorem EqTexts_s {l l' : List Str} (hl : l.length < 4611686018427387904) (s : St) : Fun Tryz.prog n_ref3_EqTexts [.slice .shared 1 (l.map encStr), .slice .shared 1 (l'.map encStr)] s (.bool (eqT l l')) s := by
 refine Fun.pure ?_ (by simp [D.oks, D.ok, Tag.ok, okrStr]) rfl s
 generalize h : eqT l l' = p
 simp only [eqT] at h
 unfold S0
 refine Fun.go has_ref3_EqTexts rfl fun B Q hB hQ => ?_
 have ⟨hH, hJ, hY, hZ⟩ := H4_
 repeat' (first
 | simp only [go_sem, hH, hJ, hY, hZ]
 | (with_reducible first | refine kT_ fun hc => ?_ | refine kF_ fun hc => ?_ | refine kS_ (fun hc => ?_) fun hc => ?_) <;> (try simp only [hc, bs, ↓reduceIte] at h) <;> try simp only [hc]
 | (with_reducible refine lA_ hQ ?_; exact lY_)
 | (cases h; done))
 have hl5 : l.length = l'.length := by
   have : ((l.length : Int) != (l'.length : Int)) = false := by assumption
   simp only [bne_eq_false_iff_eq] at this
   omega
 refine rL_ 0 0 (SemL.ind (ι := List Str × List Str × Nat) (fun i => l.drop i.2.2 = i.1 ∧ l'.drop i.2.2 = i.2.1 ∧ eqTs i.1 i.2.1 = p) (fun i => i.1.length)
   (fun i => [(0, .slice .shared 1 (l.map encStr)), (1, .slice .shared 1 (l'.map encStr)), (12, .int .i64 (l.length : Int)), (13, .int .i64 (i.2.2 : Int))]) (fun i => ⟨[], []⟩) ?_ (l, l', 0) ⟨rfl, rfl, h⟩)
 rintro ⟨r1, r2, k⟩ ⟨h1, h2, h⟩ IH
 dsimp only at h1 h2 h
 cases r1 with
 | nil =>
   have hH := drop_nil h1
   simp only [eqTs] at h
   repeat' (first
 | simp only [go_sem, hH, hJ, hY, hZ]
 | (with_reducible first | refine kT_ fun hc => ?_ | refine kF_ fun hc => ?_ | refine kS_ (fun hc => ?_) fun hc => ?_) <;> (try simp only [hc, bs, ↓reduceIte] at h) <;> try simp only [hc]
 | (with_reducible refine lA_ hQ ?_; exact lY_)
 | (cases h; done))
 | cons a r1 =>
   obtain ⟨hJ, g2, hH, g4⟩ := drop_cons h1
   cases r2 with
   | nil => have := List.drop_eq_nil_iff.1 h2; omega
   | cons b r2 =>
     obtain ⟨hgb, b2, _, _⟩ := drop_cons h2
     have hk2 : k < 4611686018427387904 := by omega
     simp only [eqTs] at h
     repeat' (first
 | simp only [go_sem, hH, hJ, hY, hZ, hgb]
 | (with_reducible first | refine kT_ fun hc => ?_ | refine kF_ fun hc => ?_ | refine kS_ (fun hc => ?_) fun hc => ?_) <;> (try simp only [hc, bs, ↓reduceIte] at h) <;> try simp only [hc]
 | (with_reducible refine lA_ hQ ?_; (try cases h); simp only [resL, oneD, sI_, eL_, go_sem, hH, hJ, hY, hZ, hgb]; try exact lE_)
 | (cases h; done))
     refine rl_ 0 0 ?_ ?_ (IH (r1, r2, k + 1) ⟨g2, b2, h⟩ (Nat.lt_succ_self _))
     · (simp only [go_sem, hH, hJ, hY, hZ, wrap_inc hk2]; try exact lF_)
     · (simp only [go_sem, hH, hJ, hY, hZ, wrap_inc hk2]; try exact lF_)

abbrev C_eqOne (N : Nat) : Prop := ∀ s t : Sm, s.size < N → ∀ st : St, Fun Tryz.prog n_ref3_eqOne [.agg (encSm s), .agg (encSm t)] st (.bool (Sm.beq s t)) st
abbrev C_eqL (N : Nat) : Prop := ∀ l l' : List Sm, Sm.sizes l < N → ∀ st : St, Fun Tryz.prog n_ref3_EqStmts [.slice .shared 13 (l.map encSm), .slice .shared 13 (l'.map encSm)] st (.bool (Sm.beqL l l')) st

theorem eqL_step {N : Nat} (hN : N < 4611686018427387904) (one : C_eqOne N) : C_eqL (N + 1) := by
 intro l l' hs st
 have hl : l.length < 4611686018427387904 := by have := Sm.sizes_len l; omega
 have hk : ∀ a ∈ l, ∀ b s, Fun Tryz.prog n_ref3_eqOne [.agg (encSm a), .agg (encSm b)] s (.bool (Sm.beq a b)) s := fun a ha b s =>
   one a b (by have := Sm.sizes_mem ha; omega) s
 refine Fun.pure ?_ (by simp [D.oks, D.ok, Tag.ok, okrSm]) rfl st
 generalize h : Sm.beqL l l' = p
 simp only [Sm.beqL] at h
 unfold S0
 refine Fun.go has_ref3_EqStmts rfl fun B Q hB hQ => ?_
 have ⟨hH, hJ, hY, hZ⟩ := H4_
 repeat' (first
 | simp only [go_sem, hH, hJ, hY, hZ]
 | (with_reducible first | refine kT_ fun hc => ?_ | refine kF_ fun hc => ?_ | refine kS_ (fun hc => ?_) fun hc => ?_) <;> (try simp only [hc, bs, ↓reduceIte] at h) <;> try simp only [hc]
 | (with_reducible refine lA_ hQ ?_; exact lY_)
 | (cases h; done))
 have hl5 : l.length = l'.length := by
   have : ((l.length : Int) != (l'.length : Int)) = false := by assumption
   simp only [bne_eq_false_iff_eq] at this
   omega
 refine rL_ 0 0 (SemL.ind (ι := List Sm × List Sm × Nat) (fun i => l.drop i.2.2 = i.1 ∧ l'.drop i.2.2 = i.2.1 ∧ Sm.beqs i.1 i.2.1 = p) (fun i => i.1.length)
   (fun i => [(0, .slice .shared 13 (l.map encSm)), (1, .slice .shared 13 (l'.map encSm)), (12, .int .i64 (l.length : Int)), (13, .int .i64 (i.2.2 : Int))]) (fun i => ⟨[], []⟩) ?_ (l, l', 0) ⟨rfl, rfl, h⟩)
 rintro ⟨r1, r2, k⟩ ⟨h1, h2, h⟩ IH
 dsimp only at h1 h2 h
 cases r1 with
 | nil =>
   have hH := drop_nil h1
   simp only [Sm.beqs] at h
   repeat' (first
 | simp only [go_sem, hH, hJ, hY, hZ]
 | (with_reducible first | refine kT_ fun hc => ?_ | refine kF_ fun hc => ?_ | refine kS_ (fun hc => ?_) fun hc => ?_) <;> (try simp only [hc, bs, ↓reduceIte] at h) <;> try simp only [hc]
 | (with_reducible refine lA_ hQ ?_; exact lY_)
 | (cases h; done))
 | cons a r1 =>
   obtain ⟨hJ, g2, hH, g4⟩ := drop_cons h1
   cases r2 with
   | nil => have := List.drop_eq_nil_iff.1 h2; omega
   | cons b r2 =>
     obtain ⟨hgb, b2, _, _⟩ := drop_cons h2
     have hk2 : k < 4611686018427387904 := by omega
     have hab := hk a (List.mem_of_getElem? hJ)
     simp only [Sm.beqs] at h
     repeat' (first
 | simp only [go_sem, hH, hJ, hY, hZ, hgb]
 | (with_reducible refine CU (hab _ _) ?_)
 | (with_reducible first | refine kT_ fun hc => ?_ | refine kF_ fun hc => ?_ | refine kS_ (fun hc => ?_) fun hc => ?_) <;> (try simp only [hc, bs, ↓reduceIte] at h) <;> try simp only [hc]
 | (with_reducible refine lA_ hQ ?_; (try cases h); simp only [resL, oneD, sI_, eL_, go_sem, hH, hJ, hY, hZ, hgb]; try exact lE_)
 | (cases h; done))
     refine rl_ 0 0 ?_ ?_ (IH (r1, r2, k + 1) ⟨g2, b2, h⟩ (Nat.lt_succ_self _))
     · (simp only [go_sem, hH, hJ, hY, hZ, wrap_inc hk2]; try exact lF_)
     · (simp only [go_sem, hH, hJ, hY, hZ, wrap_inc hk2]; try exact lF_)

theorem eqOne_step {N : Nat} (hN : N < 4611686018427387904) (eql : C_eqL N) : C_eqOne (N + 1) := by
 rintro ⟨id, kind, labels, name, proc, x, has, args, thn, els⟩ ⟨id', kind', labels', name', proc', x', has', args', thn', els'⟩ hs st
 simp only [Sm.size] at hs
 refine Fun.pure ?_ (by simp [D.oks, D.ok, okSm]) rfl st
 have hal := Ar.sizes_len args
 have hT := fun s => EqTexts_s (l := labels) (l' := labels') (by omega) s
 have hX := fun s => EqExpr_s (x := x) (y := x') (by omega) s
 simp only [encEx_eq] at hX
 have h1 := eql thn thn' (by omega)
 have h2 := eql els els' (by omega)
 generalize h : Sm.beq ⟨id, kind, labels, name, proc, x, has, args, thn, els⟩ ⟨id', kind', labels', name', proc', x', has', args', thn', els'⟩ = p
 simp only [Sm.beq] at h
 change (if id != id' || kind != kind' || !(name == name') || !(proc == proc') || !(has == has') || !(eqT labels labels') || !(Ex.beq x x') || (args.length : Int) != (args'.length : Int) then false
   else if !(Ar.beqs args args') then false else if Sm.beqL thn thn' then Sm.beqL els els' else false) = p at h
 unfold S0
 refine Fun.go has_ref3_eqOne rfl fun B Q hB hQ => ?_
 have ⟨hH, hJ, hY, hZ⟩ := H4_
 repeat' (first
 | simp only [go_sem, hH, hJ, hY, hZ]
 | (with_reducible refine CU (hT _) ?_)
 | (with_reducible refine CU (hX _) ?_)
 | (with_reducible first | refine kT_ fun hc => ?_ | refine kF_ fun hc => ?_ | refine kS_ (fun hc => ?_) fun hc => ?_) <;> (try simp only [hc, bs, ↓reduceIte] at h) <;> try simp only [hc]
 | (with_reducible refine lA_ hQ ?_; exact lY_)
 | (cases h; done))
 have hl5 : args.length = args'.length := by
   have : ((args.length : Int) != (args'.length : Int)) = false := by assumption
   simp only [bne_eq_false_iff_eq] at this
   omega
 refine rL_ 2 0 (SemL.ind (ι := List Ar × List Ar × Nat) (fun i => args.drop i.2.2 = i.1 ∧ args'.drop i.2.2 = i.2.1 ∧ (if !(Ar.beqs i.1 i.2.1) then false else if Sm.beqL thn thn' then Sm.beqL els els' else false) = p) (fun i => i.1.length)
   (fun i => [(2, .ptr 0 0), (3, .ptr 1 0), (66, .int .i64 (args.length : Int)), (67, .int .i64 (i.2.2 : Int))]) (fun i => ⟨[encSm ⟨id, kind, labels, name, proc, x, has, args, thn, els⟩, encSm ⟨id', kind', labels', name', proc', x', has', args', thn', els'⟩], []⟩) ?_ (args, args', 0) ⟨rfl, rfl, h⟩)
 rintro ⟨r1, r2, k⟩ ⟨j1, j2, h⟩ IH
 dsimp only at j1 j2 h
 cases r1 with
 | nil =>
   have hH := drop_nil j1
   simp only [Ar.beqs, Bool.not_true, Bool.false_eq_true, ↓reduceIte] at h
   repeat' (first
 | simp only [go_sem, hH, hJ, hY, hZ]
 | (with_reducible refine CU (h1 _) ?_)
 | (with_reducible refine CU (h2 _) ?_)
 | (with_reducible first | refine kT_ fun hc => ?_ | refine kF_ fun hc => ?_ | refine kS_ (fun hc => ?_) fun hc => ?_) <;> (try simp only [hc, bs, ↓reduceIte] at h) <;> try simp only [hc]
 | (with_reducible refine lA_ hQ ?_; exact lY_)
 | (cases h; done))
 | cons a r1 =>
   obtain ⟨hJ, g2, hH, g4⟩ := drop_cons j1
   cases r2 with
   | nil => have := List.drop_eq_nil_iff.1 j2; omega
   | cons b r2 =>
     obtain ⟨hgb, b2, _, _⟩ := drop_cons j2
     have hk2 : k < 4611686018427387904 := by omega
     have hax : a.x.size < 4611686018427387904 := by have := Ar.sizes_mem (List.mem_of_getElem? hJ); omega
     have hab := fun s => EqExpr_s (x := a.x) (y := b.x) hax s
     simp only [Ar.beqs] at h
     repeat' (first
 | simp only [go_sem, hH, hJ, hY, hZ, hgb]
 | (with_reducible refine CU (hab _) ?_)
 | (with_reducible first | refine kT_ fun hc => ?_ | refine kF_ fun hc => ?_ | refine kS_ (fun hc => ?_) fun hc => ?_) <;> (try simp only [hc, bs, ↓reduceIte] at h) <;> try simp only [hc]
 | (with_reducible refine lA_ hQ ?_; (try cases h); simp only [resL, oneD, sI_, eL_, go_sem, hH, hJ, hY, hZ, hgb]; try exact lE_)
 | (cases h; done))
     refine rl_ 2 0 ?_ ?_ (IH (r1, r2, k + 1) ⟨g2, b2, h⟩ (Nat.lt_succ_self _))
     · (simp only [go_sem, hH, hJ, hY, hZ, wrap_inc hk2]; try exact lF_)
     · (simp only [go_sem, hH, hJ, hY, hZ, wrap_inc hk2]; try exact lF_)

theorem eq_all : ∀ N, N < 4611686018427387904 → C_eqOne N ∧ C_eqL N := by
 intro N
 induction N with
 | zero => exact fun _ => ⟨fun s t h => absurd h (Nat.not_lt_zero _), fun l l' h => absurd h (Nat.not_lt_zero _)⟩
 | succ N ih =>
   intro h
   have := ih (by omega)
   exact ⟨eqOne_step (by omega) this.2, eqL_step (by omega) this.1⟩

theorem EqStmts_s {l l' : List Sm} (h : Sm.sizes l < 4611686018427387000) (st : St) : Fun Tryz.prog n_ref3_EqStmts [.slice .shared 13 (l.map encSm), .slice .shared 13 (l'.map encSm)] st (.bool (Sm.beqL l l')) st :=
 (eq_all (Sm.sizes l + 1) (by omega)).2 l l' (Nat.lt_succ_self _) st

end Go.Abs

/-! RefEq2 -/

namespace Go.Abs

set_option maxRecDepth 8000
open Go.Proofs

theorem Eq_s {a b : Pg} (hs : a.size < 1073741824) (st : St) : Fun Tryz.prog n_ref3_Eq [.agg (encPg a), .agg (encPg b)] st (.bool (Pg.beq a b)) st := by
 obtain ⟨g, ps⟩ := a
 obtain ⟨g', ps'⟩ := b
 simp only [Pg.size] at hs
 have hpl := Pc.sizes_len ps
 refine Fun.pure ?_ (by simp [D.oks, D.ok, okPg]) rfl st
 have hT := fun s => EqTexts_s (l := g) (l' := g') (by omega) s
 generalize h : Pg.beq ⟨g, ps⟩ ⟨g', ps'⟩ = p
 simp only [Pg.beq] at h
 unfold S0
 refine Fun.go has_ref3_Eq rfl fun B Q hB hQ => ?_
 have ⟨hH, hJ, hY, hZ⟩ := H4_
 repeat' (first
 | simp only [go_sem, hH, hJ, hY, hZ]
 | (with_reducible refine CU (hT _) ?_)
 | (with_reducible first | refine kT_ fun hc => ?_ | refine kF_ fun hc => ?_ | refine kS_ (fun hc => ?_) fun hc => ?_) <;> (try simp only [hc, bs, ↓reduceIte] at h) <;> try simp only [hc]
 | (with_reducible refine lA_ hQ ?_; exact lY_)
 | (cases h; done))
 have hl5 : ps.length = ps'.length := by
   have : ((ps.length : Int) != (ps'.length : Int)) = false := by assumption
   simp only [bne_eq_false_iff_eq] at this
   omega
 refine rL_ 2 0 (SemL.ind (ι := List Pc × List Pc × Nat) (fun i => ps.drop i.2.2 = i.1 ∧ ps'.drop i.2.2 = i.2.1 ∧ Pc.beqs i.1 i.2.1 = p) (fun i => i.1.length)
   (fun i => [(2, .ptr 0 0), (3, .ptr 1 0), (26, .int .i64 (ps.length : Int)), (27, .int .i64 (i.2.2 : Int))]) (fun i => ⟨[encPg ⟨g, ps⟩, encPg ⟨g', ps'⟩], []⟩) ?_ (ps, ps', 0) ⟨rfl, rfl, h⟩)
 rintro ⟨r1, r2, k⟩ ⟨j1, j2, h⟩ IH
 dsimp only at j1 j2 h
 cases r1 with
 | nil =>
   have hH := drop_nil j1
   simp only [Pc.beqs] at h
   repeat' (first
 | simp only [go_sem, hH, hJ, hY, hZ]
 | (with_reducible first | refine kT_ fun hc => ?_ | refine kF_ fun hc => ?_ | refine kS_ (fun hc => ?_) fun hc => ?_) <;> (try simp only [hc, bs, ↓reduceIte] at h) <;> try simp only [hc]
 | (with_reducible refine lA_ hQ ?_; exact lY_)
 | (cases h; done))
 | cons x r1 =>
   obtain ⟨hJ, g2, hH, g4⟩ := drop_cons j1
   cases r2 with
   | nil => have := List.drop_eq_nil_iff.1 j2; omega
   | cons y r2 =>
     obtain ⟨hgb, b2, _, _⟩ := drop_cons j2
     have hk2 : k < 4611686018427387904 := by omega
     have hsz := Pc.sizes_mem (List.mem_of_getElem? hJ)
     obtain ⟨name, params, vars, body, fin⟩ := x
     obtain ⟨name', params', vars', body', fin'⟩ := y
     simp only [Pc.size] at hsz
     have h1 := fun s => EqTexts_s (l := vars) (l' := vars') (by omega) s
     have h2 := fun s => EqTexts_s (l := fin) (l' := fin') (by omega) s
     have h3 := fun s => EqStmts_s (l := body) (l' := body') (by omega) s
     simp only [Pc.beqs] at h
     repeat' (first
 | simp only [go_sem, hH, hJ, hY, hZ, hgb]
 | (with_reducible refine CU (h1 _) ?_)
 | (with_reducible refine CU (h2 _) ?_)
 | (with_reducible refine CU (h3 _) ?_)
 | (with_reducible first | refine kT_ fun hc => ?_ | refine kF_ fun hc => ?_ | refine kS_ (fun hc => ?_) fun hc => ?_) <;> (try simp only [hc, bs, ↓reduceIte] at h) <;> try simp only [hc]
 | (with_reducible refine lA_ hQ ?_; (try cases h); simp only [resL, oneD, sI_, eL_, go_sem, hH, hJ, hY, hZ, hgb]; try exact lE_)
 | (cases h; done))
     have hm5 : params.length = params'.length := by
       have : ((params.length : Int) != (params'.length : Int)) = false := by assumption
       simp only [bne_eq_false_iff_eq] at this
       omega
     refine rL_ 4 0 (SemL.ind (ι := List Pm × List Pm × Nat) (fun i => params.drop i.2.2 = i.1 ∧ params'.drop i.2.2 = i.2.1 ∧ (if !(Pm.beqs i.1 i.2.1) then false else Pc.beqs r1 r2) = p) (fun i => i.1.length)
       (fun i => [(2, .ptr 0 0), (3, .ptr 1 0), (6, .ptr 2 0), (7, .ptr 3 0), (26, .int .i64 (ps.length : Int)), (27, .int .i64 (k : Int)), (80, .int .i64 (params.length : Int)), (81, .int .i64 (i.2.2 : Int))])
       (fun i => ⟨[encPg ⟨g, ps⟩, encPg ⟨g', ps'⟩, encPc ⟨name, params, vars, body, fin⟩, encPc ⟨name', params', vars', body', fin'⟩], []⟩) ?_ (params, params', 0) ⟨rfl, rfl, h⟩)
     rintro ⟨s1, s2, q⟩ ⟨i1, i2, h⟩ IHm
     dsimp only at i1 i2 h
     cases s1 with
     | nil =>
       have hH := drop_nil i1
       simp only [Pm.beqs, Bool.not_true, Bool.false_eq_true, ↓reduceIte] at h
       repeat' (first
 | simp only [go_sem, hH, hJ, hY, hZ]
 | (with_reducible first | refine kT_ fun hc => ?_ | refine kF_ fun hc => ?_ | refine kS_ (fun hc => ?_) fun hc => ?_) <;> (try simp only [hc, bs, ↓reduceIte] at h) <;> try simp only [hc]
 | (with_reducible refine lA_ hQ ?_; exact lY_)
 | (cases h; done))
       refine rl_ 2 0 ?_ ?_ (IH (r1, r2, k + 1) ⟨g2, b2, h⟩ (Nat.lt_succ_self _))
       · (simp only [go_sem, hH, hJ, hY, hZ, wrap_inc hk2]; try exact lF_)
       · (simp only [go_sem, hH, hJ, hY, hZ, wrap_inc hk2]; try exact lF_)
     | cons u s1 =>
       obtain ⟨hJ, u2, hH, u4⟩ := drop_cons i1
       cases s2 with
       | nil => have := List.drop_eq_nil_iff.1 i2; omega
       | cons v s2 =>
         obtain ⟨hgb, v2, _, _⟩ := drop_cons i2
         have hq2 : q < 4611686018427387904 := by omega
         simp only [Pm.beqs] at h
         cases e1 : (u.name == v.name)
         · simp only [e1, Bool.false_and, Bool.not_false, ↓reduceIte] at h
           repeat' (first
 | simp only [go_sem, hH, hJ, hY, hZ, hgb, encPm, e1]
 | (with_reducible first | refine kT_ fun hc => ?_ | refine kF_ fun hc => ?_ | refine kS_ (fun hc => ?_) fun hc => ?_) <;> (try simp only [hc, bs, ↓reduceIte] at h) <;> try simp only [hc]
 | (with_reducible refine lA_ hQ ?_; (try cases h); simp only [resL, oneD, sI_, eL_, go_sem, hH, hJ, hY, hZ, hgb, encPm, e1]; try exact lE_)
 | (cases h; done))
         · cases e2 : (u.ref == v.ref)
           · simp only [e1, e2, Bool.and_false, Bool.not_false, ↓reduceIte] at h
             repeat' (first
 | simp only [go_sem, hH, hJ, hY, hZ, hgb, encPm, e1, e2]
 | (with_reducible first | refine kT_ fun hc => ?_ | refine kF_ fun hc => ?_ | refine kS_ (fun hc => ?_) fun hc => ?_) <;> (try simp only [hc, bs, ↓reduceIte] at h) <;> try simp only [hc]
 | (with_reducible refine lA_ hQ ?_; (try cases h); simp only [resL, oneD, sI_, eL_, go_sem, hH, hJ, hY, hZ, hgb, encPm, e1, e2]; try exact lE_)
 | (cases h; done))
           · simp only [e1, e2, Bool.and_true, Bool.not_true, Bool.false_eq_true, ↓reduceIte] at h
             repeat' (first
 | simp only [go_sem, hH, hJ, hY, hZ, hgb, encPm, e1, e2]
 | (with_reducible first | refine kT_ fun hc => ?_ | refine kF_ fun hc => ?_ | refine kS_ (fun hc => ?_) fun hc => ?_) <;> (try simp only [hc, bs, ↓reduceIte] at h) <;> try simp only [hc]
 | (with_reducible refine lA_ hQ ?_; (try cases h); simp only [resL, oneD, sI_, eL_, go_sem, hH, hJ, hY, hZ, hgb, encPm, e1, e2]; try exact lE_)
 | (cases h; done))
             refine rl_ 4 0 ?_ ?_ (IHm (s1, s2, q + 1) ⟨u2, v2, h⟩ (Nat.lt_succ_self _))
             · (simp only [go_sem, hH, hJ, hY, hZ, wrap_inc hq2]; try exact lF_)
             · (simp only [go_sem, hH, hJ, hY, hZ, wrap_inc hq2]; try exact lF_)

/-! ### The sample -/

def exNum (n : Int) : Ex := ⟨1, n, [], []⟩
def exName (s : Str) : Ex := ⟨2, 0, s, []⟩
def exTwo (op : Int) (a b : Ex) : Ex := ⟨op, 0, [], [a, b]⟩

theorem num_s (n : Int) (s : St) : Fun Tryz.prog n_ref3_num [.int .i64 n] s (.agg (encEx (exNum n))) s := by
 refine Fun.pure ?_ rfl (by simp [D.ok, okEx]) s
 unfold S0
 refine Fun.go has_ref3_num rfl fun B Q hB hQ => ?_
 have ⟨hH, hJ, hY, hZ⟩ := H4_
 repeat' (first
 | simp only [go_sem, hH, hJ, hY, hZ, exNum]
 | (with_reducible first | refine kT_ fun hc => ?_ | refine kF_ fun hc => ?_ | refine kS_ (fun hc => ?_) fun hc => ?_) <;> (try simp only [hc, bs, ↓reduceIte] at h) <;> try simp only [hc]
 | (with_reducible refine lA_ hQ ?_; (try cases h); simp only [resL, oneD, sI_, eL_, go_sem, hH, hJ, hY, hZ, exNum]; try exact lE_)
 | (cases h; done))
theorem name_ref_s (t : Str) (s : St) : Fun Tryz.prog n_ref3_name [.str t] s (.agg (encEx (exName t))) s := by
 refine Fun.pure ?_ rfl (by simp [D.ok, okEx]) s
 unfold S0
 refine Fun.go has_ref3_name rfl fun B Q hB hQ => ?_
 have ⟨hH, hJ, hY, hZ⟩ := H4_
 repeat' (first
 | simp only [go_sem, hH, hJ, hY, hZ, exName]
 | (with_reducible first | refine kT_ fun hc => ?_ | refine kF_ fun hc => ?_ | refine kS_ (fun hc => ?_) fun hc => ?_) <;> (try simp only [hc, bs, ↓reduceIte] at h) <;> try simp only [hc]
 | (with_reducible refine lA_ hQ ?_; (try cases h); simp only [resL, oneD, sI_, eL_, go_sem, hH, hJ, hY, hZ, exName]; try exact lE_)
 | (cases h; done))
theorem two_ref_s (op : Int) (a b : Ex) (s : St) : Fun Tryz.prog n_ref3_two [.int .i64 op, .agg (encEx a), .agg (encEx b)] s (.agg (encEx (exTwo op a b))) s := by
 refine Fun.pure ?_ (by simp [D.oks, D.ok, okEx]) (by simp [D.ok, okEx]) s
 unfold S0
 refine Fun.go has_ref3_two rfl fun B Q hB hQ => ?_
 have ⟨hH, hJ, hY, hZ⟩ := H4_
 repeat' (first
 | simp only [go_sem, hH, hJ, hY, hZ, exTwo]
 | (with_reducible first | refine kT_ fun hc => ?_ | refine kF_ fun hc => ?_ | refine kS_ (fun hc => ?_) fun hc => ?_) <;> (try simp only [hc, bs, ↓reduceIte] at h) <;> try simp only [hc]
 | (with_reducible refine lA_ hQ ?_; (try cases h); simp only [resL, oneD, sI_, eL_, go_sem, hH, hJ, hY, hZ, exTwo]; try exact lE_)
 | (cases h; done))

def source : Str := [103, 108, 111, 98, 97, 108, 32, 103, 59, 10, 112, 114, 111, 99, 32, 109, 97, 105, 110, 40, 41, 32, 123, 10, 32, 118, 97, 114, 32, 118, 59, 10, 32, 118, 32, 61, 32, 50, 59, 10, 32, 103, 32, 61, 32, 112, 40, 51, 44, 32, 114, 101, 102, 32, 118, 41, 59, 10, 32, 112, 114, 105, 110, 116, 32, 118, 59, 10, 32, 112, 114, 105, 110, 116, 32, 103, 59, 10, 125, 10, 112, 114, 111, 99, 32, 112, 40, 120, 44, 32, 114, 101, 102, 32, 121, 41, 32, 123, 10, 32, 121, 32, 61, 32, 121, 32, 43, 32, 120, 59, 10, 32, 105, 102, 32, 40, 121, 32, 62, 32, 57, 41, 32, 123, 10, 32, 32, 103, 111, 116, 111, 32, 101, 59, 10, 32, 125, 10, 32, 114, 101, 116, 117, 114, 110, 32, 121, 59, 10, 101, 58, 32, 125, 10]

theorem Source_s (s : St) : Fun Tryz.prog n_ref3_Source [] s (.str source) s := by
 refine Fun.pure ?_ rfl rfl s
 unfold S0
 refine Fun.go has_ref3_Source rfl fun B Q hB hQ => ?_
 have ⟨hH, hJ, hY, hZ⟩ := H4_
 repeat' (first
 | simp only [go_sem, hH, hJ, hY, hZ, source]
 | (with_reducible first | refine kT_ fun hc => ?_ | refine kF_ fun hc => ?_ | refine kS_ (fun hc => ?_) fun hc => ?_) <;> (try simp only [hc, bs, ↓reduceIte] at h) <;> try simp only [hc]
 | (with_reducible refine lA_ hQ ?_; (try cases h); simp only [resL, oneD, sI_, eL_, go_sem, hH, hJ, hY, hZ, source]; try exact lE_)
 | (cases h; done))

def some0 : Pg := ⟨[[103]], [
 ⟨[109, 97, 105, 110], [], [[118]], [
   ⟨1, 1, [], [118], [], exNum 2, false, [], [], []⟩,
   ⟨2, 4, [], [103], [112], ex0, false, [⟨false, [], exNum 3⟩, ⟨true, [118], ex0⟩], [], []⟩,
   ⟨3, 3, [], [], [], exName [118], false, [], [], []⟩,
   ⟨4, 3, [], [], [], exName [103], false, [], [], []⟩], []⟩,
 ⟨[112], [⟨[120], false⟩, ⟨[121], true⟩], [], [
   ⟨5, 1, [], [121], [], exTwo 8 (exName [121]) (exName [120]), false, [], [], []⟩,
   ⟨6, 5, [], [], [], exTwo 12 (exName [121]) (exNum 9), false, [], [⟨7, 10, [], [101], [], ex0, false, [], [], []⟩], []⟩,
   ⟨8, 9, [], [], [], exName [121], true, [], [], []⟩], [[101]]⟩]⟩

theorem Some_s (s : St) : Fun Tryz.prog n_ref3_Some [] s (.agg (encPg some0)) s := by
 refine Fun.pure ?_ rfl (by simp [D.ok, okPg]) s
 unfold S0
 refine Fun.go has_ref3_Some rfl fun B Q hB hQ => ?_
 have ⟨hH, hJ, hY, hZ⟩ := H4_
 repeat' (first
 | simp only [go_sem, hH, hJ, hY, hZ, some0]
 | (with_reducible refine CU (num_s _ _) ?_)
 | (with_reducible refine CU (name_ref_s _ _) ?_)
 | (with_reducible refine CU (two_ref_s _ _ _ _) ?_)
 | (with_reducible first | refine kT_ fun hc => ?_ | refine kF_ fun hc => ?_ | refine kS_ (fun hc => ?_) fun hc => ?_) <;> (try simp only [hc, bs, ↓reduceIte] at h) <;> try simp only [hc]
 | (with_reducible refine lA_ hQ ?_; (try cases h); simp only [resL, oneD, sI_, eL_, go_sem, hH, hJ, hY, hZ, some0]; repeat' (first | exact Ok.out | with_reducible refine aI_ ?_ ?_ | (simp; done)))
 | (cases h; done))
 repeat' (first | exact Ok.out | with_reducible refine Wk.agg ?_ | with_reducible refine Wk.rows ?_ | with_reducible refine Wk.slice ?_ | with_reducible refine WkR.cons ?_ ?_ | with_reducible refine WkL.cons ?_ ?_)

end Go.Abs

/-! Prs3 -/

namespace Go.Abs

set_option maxRecDepth 8000
open Go.Proofs

theorem names_0 {n : Nat} {l : List Str} {most : Int} {r : Rd} {p : List Str × Rd} (h : Rd.names n l most r = some p) :
   Fun Tryz.prog n_parse_reader_names [.ptr 0 0, .slice (.tok 0) 1 (l.map encStr), .int .i64 most] ⟨[encRd r], [some l.length]⟩ (.slice (.tok 0) 1 (p.1.map encStr)) ⟨[encRd p.2], [some p.1.length]⟩ := by
 refine Fun.go has_parse_reader_names rfl fun B Q hB hQ => ?_
 have ⟨hH, hJ, hY, hZ⟩ := H4_
 repeat' (first
 | simp only [go_sem, hH, hJ, hY, hZ]
 | (with_reducible first | refine kT_ fun hc => ?_ | refine kF_ fun hc => ?_ | refine kS_ (fun hc => ?_) fun hc => ?_) <;> (try simp only [hc, bs, ↓reduceIte] at h) <;> try simp only [hc]
 | (with_reducible refine lA_ hQ ?_; exact lY_)
 | (cases h; done))
 refine rL_ 1 1 (SemL.ind (ι := Nat × List Str × Rd × Nat) (fun i => Rd.names i.1 i.2.1 most i.2.2.1 = some p ∧ i.2.2.2 = i.2.1.length) (fun i => i.1)
   (fun i => [(0, .ptr 0 0), (1, .slice (.tok 0) 1 (i.2.1.map encStr)), (2, .int .i64 most)]) (fun i => ⟨[encRd i.2.2.1], [some i.2.2.2]⟩) ?_ (n, l, r, l.length) ⟨h, rfl⟩)
 rintro ⟨n, l, r, k⟩ ⟨h, hk⟩ IH
 dsimp only at hk; subst hk
 cases n with
 | zero => simp only [Rd.names] at h; cases h
 | succ n =>
   simp only [Rd.names] at h
   repeat' (first
 | simp only [go_sem, hH, hJ, hY, hZ]
 | (rw [Option.bind_eq_some_iff] at h; obtain ⟨_, h1, h⟩ := h; first | (with_reducible refine CU (name_s h1 (by with_unfolding_all rfl)) ?_) | (obtain ⟨hY, hpush⟩ := push_some h1; subst hpush; simp only [go_sem, hH, hJ, hY, hZ]) | (with_reducible refine CU (take_s h1 (by with_unfolding_all rfl)) ?_) | (with_reducible refine CU (want_s h1 (by with_unfolding_all rfl)) ?_))
 | (with_reducible refine CU (good_s (by with_unfolding_all rfl)) ?_)
 | (with_reducible first | refine kT_ fun hc => ?_ | refine kF_ fun hc => ?_ | refine kS_ (fun hc => ?_) fun hc => ?_) <;> (try simp only [hc, bs, ↓reduceIte] at h) <;> try simp only [hc]
 | (with_reducible refine lA_ hQ ?_; exact lY_)
 | (cases h; done))
   refine rL_ 1 1 (IH (n, _, _, l.length + 1) ⟨h, by simp⟩ (Nat.lt_succ_self _))

theorem names_s {n : Nat} {l : List Str} {most : Int} {r : Rd} {p : List Str × Rd} (h : Rd.names n l most r = some p) {s : St} {o t : Nat} (ho : s.objs[o]? = some (encRd r)) (ht : s.toks[t]? = some (some l.length)) :
   Fun Tryz.prog n_parse_reader_names [.ptr o 0, .slice (.tok t) 1 (l.map encStr), .int .i64 most] s (.slice (.tok t) 1 (p.1.map encStr)) ⟨s.objs.set o (encRd p.2), s.toks.set t (some p.1.length)⟩ :=
 (names_0 h).methT rfl (okRd r) (okRd p.2) (okrStr l) (okrStr p.1) ho ht

theorem labels_s {n : Nat} {r : Rd} {p : List Str × Rd} (h : Rd.labels n [] r = some p) {s : St} {o : Nat} (ho : s.objs[o]? = some (encRd r)) :
   Fun Tryz.prog n_parse_reader_labels [.ptr o 0] s (.slice .shared 1 (p.1.map encStr)) ⟨s.objs.set o (encRd p.2), s.toks⟩ := by
 refine Fun.meth ?_ rfl (okRd r) (okRd p.2) (by simp [D.ok, okrStr, Tag.ok]) ho
 refine Fun.go has_parse_reader_labels rfl fun B Q hB hQ => ?_
 have ⟨hH, hJ, hY, hZ⟩ := H4_
 repeat' (first
 | simp only [go_sem, hH, hJ, hY, hZ]
 | (with_reducible first | refine kT_ fun hc => ?_ | refine kF_ fun hc => ?_ | refine kS_ (fun hc => ?_) fun hc => ?_) <;> (try simp only [hc, bs, ↓reduceIte] at h) <;> try simp only [hc]
 | (with_reducible refine lA_ hQ ?_; exact lY_)
 | (cases h; done))
 refine SemL.tokT 3 1 rfl ?_
 simp only [go_sem, hH, hJ, hY, hZ]
 refine rL_ 1 1 (SemL.ind (ι := Nat × List Str × Rd × Nat) (fun i => Rd.labels i.1 i.2.1 i.2.2.1 = some p ∧ i.2.2.2 = i.2.1.length) (fun i => i.1)
   (fun i => [(0, .ptr 0 0), (3, .slice (.tok 0) 1 (i.2.1.map encStr))]) (fun i => ⟨[encRd i.2.2.1], [some i.2.2.2]⟩) ?_ (n, [], r, 0) ⟨h, rfl⟩)
 rintro ⟨n, l, r, k⟩ ⟨h, hk⟩ IH
 dsimp only at hk; subst hk
 cases n with
 | zero => simp only [Rd.labels] at h; cases h
 | succ n =>
   simp only [Rd.labels, Rd.ahead] at h
   repeat' (first
 | simp only [go_sem, hH, hJ, hY, hZ]
 | (rw [Option.bind_eq_some_iff] at h; obtain ⟨_, h1, h⟩ := h; first | (with_reducible refine CU (peek_s h1 (by with_unfolding_all rfl)) ?_; have hH := peek_lt h1) | (obtain ⟨hY, hpush⟩ := push_some h1; subst hpush; simp only [go_sem, hH, hJ, hY, hZ]) | (obtain ⟨hltq, hJ⟩ := getO_some h1; simp only [go_sem, hJ, hH, hJ, hY, hZ]))
 | (with_reducible refine CU (good_s (by with_unfolding_all rfl)) ?_)
 | (with_reducible first | refine kT_ fun hc => ?_ | refine kF_ fun hc => ?_ | refine kS_ (fun hc => ?_) fun hc => ?_) <;> (try simp only [hc, bs, ↓reduceIte] at h) <;> try simp only [hc]
 | (with_reducible refine lA_ hQ ?_; exact lY_)
 | (cases h; done))
   refine rL_ 1 1 (IH (n, _, _, l.length + 1) ⟨h, by simp⟩ (Nat.lt_succ_self _))

end Go.Abs

/-! Prs4 -/

namespace Go.Abs

set_option maxRecDepth 8000
open Go.Proofs

theorem begins_s {r : Rd} {b : Bool} (h : r.begins = some b) {s : St} {o : Nat} (ho : s.objs[o]? = some (encRd r)) :
   Fun Tryz.prog n_parse_reader_begins [.ptr o 0] s (.bool b) ⟨s.objs.set o (encRd r), s.toks⟩ := by
 refine Fun.meth ?_ rfl (okRd r) (okRd r) rfl ho
 unfold Rd.begins at h
 refine Fun.go has_parse_reader_begins rfl fun B Q hB hQ => ?_
 have ⟨hH, hJ, hY, hZ⟩ := H4_
 repeat' (first
 | simp only [go_sem, hH, hJ, hY, hZ]
 | (rw [Option.bind_eq_some_iff] at h; obtain ⟨_, h1, h⟩ := h; first | (with_reducible refine CU (peek_s h1 (by with_unfolding_all rfl)) ?_))
 | (with_reducible first | refine kT_ fun hc => ?_ | refine kF_ fun hc => ?_ | refine kS_ (fun hc => ?_) fun hc => ?_) <;> (try simp only [hc, bs, ↓reduceIte] at h) <;> try simp only [hc]
 | (with_reducible refine lA_ hQ ?_; exact lY_)
 | (cases h; done))

theorem call_s {m : Nat} {name proc : Str} {r : Rd} {p : Sm × Rd} (h : Rd.call m name proc r = some p) {s : St} {o : Nat} (ho : s.objs[o]? = some (encRd r)) :
   Fun Tryz.prog n_parse_reader_call [.ptr o 0, .str name, .str proc] s (.agg (encSm p.1)) ⟨s.objs.set o (encRd p.2), s.toks⟩ := by
 refine Fun.meth ?_ rfl (okRd r) (okRd p.2) (by simp [D.ok, okSm]) ho
 unfold Rd.call Rd.other at h
 refine Fun.go has_parse_reader_call rfl fun B Q hB hQ => ?_
 have ⟨hH, hJ, hY, hZ⟩ := H4_
 repeat' (first
 | simp only [go_sem, hH, hJ, hY, hZ]
 | (rw [Option.bind_eq_some_iff] at h; obtain ⟨_, h1, h⟩ := h; first | (with_reducible refine CU (want_s h1 (by with_unfolding_all rfl)) ?_) | (with_reducible refine CU (is_s h1 (by with_unfolding_all rfl)) ?_))
 | (with_reducible refine CU (good_s (by with_unfolding_all rfl)) ?_)
 | (with_reducible first | refine kT_ fun hc => ?_ | refine kF_ fun hc => ?_ | refine kS_ (fun hc => ?_) fun hc => ?_) <;> (try simp only [hc, bs, ↓reduceIte] at h) <;> try simp only [hc]
 | (with_reducible refine lA_ hQ ?_; exact lY_)
 | (cases h; replace h := hr; clear hr; (try simp only [bs, ↓reduceIte] at h))
 | (cases h; done))
 rw [Option.bind_eq_some_iff] at h
 obtain ⟨q, h, hr⟩ := h
 refine SemL.tokO 2 10 6 rfl rfl ?_
 simp only [go_sem, hH, hJ, hY, hZ]
 refine rL_ 3 1 (SemL.ind (ι := Nat × List Ar × Rd × Nat) (fun i => Rd.callL m i.1 i.2.1 i.2.2.1 = some q ∧ i.2.2.2 = i.2.1.length) (fun i => i.1)
   (fun i => [(0, .ptr 0 0), (6, .ptr 1 0), (7, .ptr 2 0)]) (fun i => ⟨[encRd i.2.2.1, encSm sm0, [.int .i64 0, .int .i64 4, .slice .shared 1 [], .str name, .str proc, .int .i64 0, .int .i64 0, .str [], .slice .shared 4 [], .bool false, .slice (.tok 0) 6 (i.2.1.map encAr), .slice .shared 13 [], .slice .shared 13 []]], [some i.2.2.2]⟩) ?_ (m, [], _, 0) ⟨h, rfl⟩)
 rintro ⟨n, l, r, k⟩ ⟨h, hk⟩ IH
 dsimp only at hk; subst hk
 cases n with
 | zero => simp only [Rd.callL] at h; cases h
 | succ n =>
   simp only [Rd.callL] at h
   repeat' (first
 | simp only [go_sem, hH, hJ, hY, hZ]
 | (rw [Option.bind_eq_some_iff] at h; obtain ⟨_, h1, h⟩ := h; first | (with_reducible refine CU (take_s h1 (by with_unfolding_all rfl)) ?_) | (obtain ⟨hY, hpush⟩ := push_some h1; subst hpush; simp only [go_sem, hH, hJ, hY, hZ]) | (with_reducible refine CU (name_s h1 (by with_unfolding_all rfl)) ?_) | (with_reducible refine CU (whole_s h1 (by with_unfolding_all rfl)) ?_) | (with_reducible refine CU (want_s h1 (by with_unfolding_all rfl)) ?_))
 | (with_reducible refine CU (good_s (by with_unfolding_all rfl)) ?_)
 | (with_reducible first | refine kT_ fun hc => ?_ | refine kF_ fun hc => ?_ | refine kS_ (fun hc => ?_) fun hc => ?_) <;> (try simp only [hc, bs, ↓reduceIte] at h) <;> try simp only [hc]
 | (with_reducible refine lA_ hQ ?_; exact lY_)
 | (cases h; replace h := hr; clear hr; (try simp only [bs, ↓reduceIte] at h))
 | (cases h; done))
   · refine rL_ 3 1 (IH (n, _, _, l.length + 1) ⟨h, by simp⟩ (Nat.lt_succ_self _))
   · refine rL_ 3 1 (IH (n, _, _, l.length + 1) ⟨h, by simp⟩ (Nat.lt_succ_self _))

theorem named_s {m : Nat} {r : Rd} {p : Sm × Rd} (h : Rd.named m r = some p) {s : St} {o : Nat} (ho : s.objs[o]? = some (encRd r)) :
   Fun Tryz.prog n_parse_reader_named [.ptr o 0] s (.agg (encSm p.1)) ⟨s.objs.set o (encRd p.2), s.toks⟩ := by
 refine Fun.meth ?_ rfl (okRd r) (okRd p.2) (by simp [D.ok, okSm]) ho
 unfold Rd.named Rd.ahead at h
 refine Fun.go has_parse_reader_named rfl fun B Q hB hQ => ?_
 have ⟨hH, hJ, hY, hZ⟩ := H4_
 repeat' (first
 | simp only [go_sem, hH, hJ, hY, hZ]
 | (rw [Option.bind_eq_some_iff] at h; obtain ⟨_, h1, h⟩ := h; first | (with_reducible refine CU (name_s h1 (by with_unfolding_all rfl)) ?_) | (with_reducible refine CU (want_s h1 (by with_unfolding_all rfl)) ?_) | (with_reducible refine CU (is_s h1 (by with_unfolding_all rfl)) ?_) | (with_reducible refine CU (peek_s h1 (by with_unfolding_all rfl)) ?_; have hH := peek_lt h1) | (obtain ⟨hltq, hJ⟩ := getO_some h1; simp only [go_sem, hJ, hH, hJ, hY, hZ]) | (with_reducible refine CU (whole_s h1 (by with_unfolding_all rfl)) ?_))
 | (with_reducible refine CU (good_s (by with_unfolding_all rfl)) ?_)
 | (with_reducible refine CU (call_s h (by with_unfolding_all rfl)) ?_)
 | (with_reducible first | refine kT_ fun hc => ?_ | refine kF_ fun hc => ?_ | refine kS_ (fun hc => ?_) fun hc => ?_) <;> (try simp only [hc, bs, ↓reduceIte] at h) <;> try simp only [hc]
 | (with_reducible refine lA_ hQ ?_; exact lY_)
 | (cases h; done))

theorem plain_s {m : Nat} {word : Str} {r : Rd} {p : Sm × Rd} (h : Rd.plain m word r = some p) {s : St} {o : Nat} (ho : s.objs[o]? = some (encRd r)) :
   Fun Tryz.prog n_parse_reader_plain [.ptr o 0, .str word] s (.agg (encSm p.1)) ⟨s.objs.set o (encRd p.2), s.toks⟩ := by
 refine Fun.meth ?_ rfl (okRd r) (okRd p.2) (by simp [D.ok, okSm]) ho
 unfold Rd.plain at h
 refine Fun.go has_parse_reader_plain rfl fun B Q hB hQ => ?_
 have ⟨hH, hJ, hY, hZ⟩ := H4_
 repeat' (first
 | simp only [go_sem, hH, hJ, hY, hZ]
 | (rw [Option.bind_eq_some_iff] at h; obtain ⟨_, h1, h⟩ := h; first | (with_reducible refine CU (name_s h1 (by with_unfolding_all rfl)) ?_) | (with_reducible refine CU (is_s h1 (by with_unfolding_all rfl)) ?_) | (with_reducible refine CU (whole_s h1 (by with_unfolding_all rfl)) ?_))
 | (with_reducible first | refine kT_ fun hc => ?_ | refine kF_ fun hc => ?_ | refine kS_ (fun hc => ?_) fun hc => ?_) <;> (try simp only [hc, bs, ↓reduceIte] at h) <;> try simp only [hc]
 | (with_reducible refine lA_ hQ ?_; exact lY_)
 | (cases h; done))

theorem head_s {m : Nat} {r : Rd} {p : Ex × Rd} (h : Rd.head m r = some p) {s : St} {o : Nat} (ho : s.objs[o]? = some (encRd r)) :
   Fun Tryz.prog n_parse_reader_head [.ptr o 0] s (.agg (encEx p.1)) ⟨s.objs.set o (encRd p.2), s.toks⟩ := by
 refine Fun.meth ?_ rfl (okRd r) (okRd p.2) (by simp [D.ok, okEx]) ho
 unfold Rd.head at h
 refine Fun.go has_parse_reader_head rfl fun B Q hB hQ => ?_
 have ⟨hH, hJ, hY, hZ⟩ := H4_
 repeat' (first
 | simp only [go_sem, hH, hJ, hY, hZ]
 | (rw [Option.bind_eq_some_iff] at h; obtain ⟨_, h1, h⟩ := h; first | (with_reducible refine CU (want_s h1 (by with_unfolding_all rfl)) ?_) | (with_reducible refine CU (whole_s h1 (by with_unfolding_all rfl)) ?_))
 | (with_reducible first | refine kT_ fun hc => ?_ | refine kF_ fun hc => ?_ | refine kS_ (fun hc => ?_) fun hc => ?_) <;> (try simp only [hc, bs, ↓reduceIte] at h) <;> try simp only [hc]
 | (with_reducible refine lA_ hQ ?_; exact lY_)
 | (cases h; done))

end Go.Abs

/-! Prs5 -/

namespace Go.Abs

set_option maxRecDepth 8000
open Go.Proofs

abbrev C_rows (m n : Nat) : Prop := ∀ {nest : Int} {body : Bool} {r : Rd} {p : (List Sm × List Str) × Rd}, Rd.rows m n nest body r = some p → ∀ {s : St} {o : Nat}, s.objs[o]? = some (encRd r) →
 Fun Tryz.prog n_parse_reader_rows [.ptr o 0, .int .i64 nest, .bool body] s (.tuple [.slice .shared 13 (p.1.1.map encSm), .slice .shared 1 (p.1.2.map encStr)]) ⟨s.objs.set o (encRd p.2), s.toks⟩
abbrev C_stmt (m n : Nat) : Prop := ∀ {nest : Int} {r : Rd} {p : Sm × Rd}, Rd.stmt m n nest r = some p → ∀ {s : St} {o : Nat}, s.objs[o]? = some (encRd r) →
 Fun Tryz.prog n_parse_reader_stmt [.ptr o 0, .int .i64 nest] s (.agg (encSm p.1)) ⟨s.objs.set o (encRd p.2), s.toks⟩
abbrev C_block (m n : Nat) : Prop := ∀ {nest : Int} {r : Rd} {p : List Sm × Rd}, Rd.block m n nest r = some p → ∀ {s : St} {o : Nat}, s.objs[o]? = some (encRd r) →
 Fun Tryz.prog n_parse_reader_block [.ptr o 0, .int .i64 nest] s (.slice .shared 13 (p.1.map encSm)) ⟨s.objs.set o (encRd p.2), s.toks⟩
abbrev C_choice (m n : Nat) : Prop := ∀ {nest : Int} {r : Rd} {p : Sm × Rd}, Rd.choice m n nest r = some p → ∀ {s : St} {o : Nat}, s.objs[o]? = some (encRd r) →
 Fun Tryz.prog n_parse_reader_choice [.ptr o 0, .int .i64 nest] s (.agg (encSm p.1)) ⟨s.objs.set o (encRd p.2), s.toks⟩

theorem choice_step {m n : Nat} (block_s : C_block m n) : C_choice m (n + 1) := by
 intro nest r p h s o ho
 refine Fun.meth ?_ rfl (okRd r) (okRd p.2) (by simp [D.ok, okSm]) ho
 unfold Rd.choice at h
 refine Fun.go has_parse_reader_choice rfl fun B Q hB hQ => ?_
 have ⟨hH, hJ, hY, hZ⟩ := H4_
 repeat' (first
 | simp only [go_sem, hH, hJ, hY, hZ]
 | (rw [Option.bind_eq_some_iff] at h; obtain ⟨_, h1, h⟩ := h; first | (with_reducible refine CU (head_s h1 (by with_unfolding_all rfl)) ?_) | (with_reducible refine CU (block_s h1 (by with_unfolding_all rfl)) ?_) | (with_reducible refine CU (take_s h1 (by with_unfolding_all rfl)) ?_))
 | (with_reducible first | refine kT_ fun hc => ?_ | refine kF_ fun hc => ?_ | refine kS_ (fun hc => ?_) fun hc => ?_) <;> (try simp only [hc, bs, ↓reduceIte] at h) <;> try simp only [hc]
 | (with_reducible refine lA_ hQ ?_; exact lY_)
 | (cases h; done))

theorem block_step {m n : Nat} (rows_s : C_rows m n) : C_block m (n + 1) := by
 intro nest r p h s o ho
 refine Fun.meth ?_ rfl (okRd r) (okRd p.2) (by simp [D.ok, okrSm, Tag.ok]) ho
 unfold Rd.block at h
 refine Fun.go has_parse_reader_block rfl fun B Q hB hQ => ?_
 have ⟨hH, hJ, hY, hZ⟩ := H4_
 repeat' (first
 | simp only [go_sem, hH, hJ, hY, hZ]
 | (rw [Option.bind_eq_some_iff] at h; obtain ⟨_, h1, h⟩ := h; first | (with_reducible refine CU (want_s h1 (by with_unfolding_all rfl)) ?_) | (obtain ⟨hZ, hik⟩ := incI_some h1; subst hik; simp only [go_sem, hZ, hH, hJ, hY, hZ]) | (with_reducible refine CU (rows_s h1 (by with_unfolding_all rfl)) ?_))
 | (with_reducible first | refine kT_ fun hc => ?_ | refine kF_ fun hc => ?_ | refine kS_ (fun hc => ?_) fun hc => ?_) <;> (try simp only [hc, bs, ↓reduceIte] at h) <;> try simp only [hc]
 | (with_reducible refine lA_ hQ ?_; exact lY_)
 | (cases h; done))

theorem stmt_step {m n : Nat} (block_s : C_block m n) (choice_s : C_choice m n) : C_stmt m (n + 1) := by
 intro nest r p h s o ho
 refine Fun.meth ?_ rfl (okRd r) (okRd p.2) (by simp [D.ok, okSm]) ho
 unfold Rd.stmt at h
 refine Fun.go has_parse_reader_stmt rfl fun B Q hB hQ => ?_
 have ⟨hH, hJ, hY, hZ⟩ := H4_
 repeat' (first
 | simp only [go_sem, hH, hJ, hY, hZ]
 | (rw [Option.bind_eq_some_iff] at h; obtain ⟨_, h1, h⟩ := h; first | (with_reducible refine CU (begins_s h1 (by with_unfolding_all rfl)) ?_) | (obtain ⟨hZ, hik⟩ := inc_some h1; subst hik; simp only [go_sem, hZ, hH, hJ, hY, hZ]) | (with_reducible refine CU (peek_s h1 (by with_unfolding_all rfl)) ?_; have hH := peek_lt h1) | (with_reducible refine CU (head_s h1 (by with_unfolding_all rfl)) ?_) | (with_reducible refine CU (block_s h1 (by with_unfolding_all rfl)) ?_) | (with_reducible refine CU (plain_s h1 (by with_unfolding_all rfl)) ?_) | (with_reducible refine CU (want_s h1 (by with_unfolding_all rfl)) ?_) | (with_reducible refine CU (bad_s h1 (by with_unfolding_all rfl)) ?_))
 | (with_reducible refine CU (choice_s h (by with_unfolding_all rfl)) ?_)
 | (with_reducible refine CU (named_s h (by with_unfolding_all rfl)) ?_)
 | (with_reducible first | refine kT_ fun hc => ?_ | refine kF_ fun hc => ?_ | refine kS_ (fun hc => ?_) fun hc => ?_) <;> (try simp only [hc, bs, ↓reduceIte] at h) <;> try simp only [hc]
 | (with_reducible refine lA_ hQ ?_; exact lY_)
 | (cases h; done))

theorem rows_true {m n : Nat} (stmt_s : ∀ j < n, C_stmt m j) {nest : Int} {r : Rd} {p : (List Sm × List Str) × Rd} (h : Rd.rows m (n + 1) nest true r = some p) :
   Fun Tryz.prog n_parse_reader_rows [.ptr 0 0, .int .i64 nest, .bool true] ⟨[encRd r], []⟩ (.tuple [.slice .shared 13 (p.1.1.map encSm), .slice .shared 1 (p.1.2.map encStr)]) ⟨[encRd p.2], []⟩ := by
 unfold Rd.rows at h
 refine Fun.go has_parse_reader_rows rfl fun B Q hB hQ => ?_
 have ⟨hH, hJ, hY, hZ⟩ := H4_
 repeat' (first
 | simp only [go_sem, hH, hJ, hY, hZ]
 | (with_reducible first | refine kT_ fun hc => ?_ | refine kF_ fun hc => ?_ | refine kS_ (fun hc => ?_) fun hc => ?_) <;> (try simp only [hc, bs, ↓reduceIte] at h) <;> try simp only [hc]
 | (with_reducible refine lA_ hQ ?_; exact lY_)
 | (cases h; done))
 refine SemL.tokT 8 13 rfl ?_
 simp only [go_sem, hH, hJ, hY, hZ]
 refine rL_ 1 1 (SemL.ind (ι := Nat × List Sm × Rd × Nat) (fun i => Rd.rowsL m i.1 nest true i.2.1 i.2.2.1 = some p ∧ i.2.2.2 = i.2.1.length ∧ i.1 ≤ n) (fun i => i.1)
   (fun i => [(0, .ptr 0 0), (1, .int .i64 nest), (2, .bool true), (8, .slice (.tok 0) 13 (i.2.1.map encSm))]) (fun i => ⟨[encRd i.2.2.1], [some i.2.2.2]⟩) ?_ (n, [], r, 0) ⟨h, rfl, Nat.le_refl _⟩)
 rintro ⟨j, l, r, k⟩ ⟨h, hk, hj⟩ IH
 dsimp only at hk hj; subst hk
 cases j with
 | zero => simp only [Rd.rowsL] at h; cases h
 | succ j =>
   have stmt_j := @stmt_s j (by omega)
   simp only [Rd.rowsL] at h
   repeat' (first
 | simp only [go_sem, hH, hJ, hY, hZ, encSm_eq]
 | (rw [Option.bind_eq_some_iff] at h; obtain ⟨_, h1, h⟩ := h; first | (with_reducible refine CU (labels_s h1 (by with_unfolding_all rfl)) ?_) | (with_reducible refine CU (is_s h1 (by with_unfolding_all rfl)) ?_; have hH := is_lt h1) | (obtain ⟨hY, hpush⟩ := push_some h1; subst hpush; simp only [go_sem, hH, hJ, hY, hZ]) | (with_reducible refine CU (stmt_j h1 (by with_unfolding_all rfl)) ?_))
 | (with_reducible refine CU (good_s (by with_unfolding_all rfl)) ?_)
 | (with_reducible first | refine kT_ fun hc => ?_ | refine kF_ fun hc => ?_ | refine kS_ (fun hc => ?_) fun hc => ?_) <;> (try simp only [hc, bs, ↓reduceIte] at h) <;> try simp only [hc]
 | (with_reducible refine lA_ hQ ?_; (try cases h); simp only [resL, oneD, sI_, eL_, go_sem, hH, hJ, hY, hZ, encSm_eq]; try exact lE_)
 | (cases h; done))
   · refine rl_ 1 1 ?_ ?_ (IH (j, _, _, l.length + 1) ⟨h, by simp, by dsimp only; omega⟩ (Nat.lt_succ_self _))
     · (simp only [go_sem, hH, hJ, hY, hZ, encSm_eq]; try exact lF_)
     · (simp only [go_sem, hH, hJ, hY, hZ, encSm_eq]; try exact lF_)

theorem rows_false {m n : Nat} (stmt_s : ∀ j < n, C_stmt m j) {nest : Int} {r : Rd} {p : (List Sm × List Str) × Rd} (h : Rd.rows m (n + 1) nest false r = some p) :
   Fun Tryz.prog n_parse_reader_rows [.ptr 0 0, .int .i64 nest, .bool false] ⟨[encRd r], []⟩ (.tuple [.slice .shared 13 (p.1.1.map encSm), .slice .shared 1 (p.1.2.map encStr)]) ⟨[encRd p.2], []⟩ := by
 unfold Rd.rows at h
 refine Fun.go has_parse_reader_rows rfl fun B Q hB hQ => ?_
 have ⟨hH, hJ, hY, hZ⟩ := H4_
 repeat' (first
 | simp only [go_sem, hH, hJ, hY, hZ]
 | (with_reducible first | refine kT_ fun hc => ?_ | refine kF_ fun hc => ?_ | refine kS_ (fun hc => ?_) fun hc => ?_) <;> (try simp only [hc, bs, ↓reduceIte] at h) <;> try simp only [hc]
 | (with_reducible refine lA_ hQ ?_; exact lY_)
 | (cases h; done))
 refine SemL.tokT 8 13 rfl ?_
 simp only [go_sem, hH, hJ, hY, hZ]
 refine rL_ 1 1 (SemL.ind (ι := Nat × List Sm × Rd × Nat) (fun i => Rd.rowsL m i.1 nest false i.2.1 i.2.2.1 = some p ∧ i.2.2.2 = i.2.1.length ∧ i.1 ≤ n) (fun i => i.1)
   (fun i => [(0, .ptr 0 0), (1, .int .i64 nest), (2, .bool false), (8, .slice (.tok 0) 13 (i.2.1.map encSm))]) (fun i => ⟨[encRd i.2.2.1], [some i.2.2.2]⟩) ?_ (n, [], r, 0) ⟨h, rfl, Nat.le_refl _⟩)
 rintro ⟨j, l, r, k⟩ ⟨h, hk, hj⟩ IH
 dsimp only at hk hj; subst hk
 cases j with
 | zero => simp only [Rd.rowsL] at h; cases h
 | succ j =>
   have stmt_j := @stmt_s j (by omega)
   simp only [Rd.rowsL] at h
   repeat' (first
 | simp only [go_sem, hH, hJ, hY, hZ, encSm_eq]
 | (rw [Option.bind_eq_some_iff] at h; obtain ⟨_, h1, h⟩ := h; first | (with_reducible refine CU (labels_s h1 (by with_unfolding_all rfl)) ?_) | (with_reducible refine CU (is_s h1 (by with_unfolding_all rfl)) ?_; have hH := is_lt h1) | (obtain ⟨hY, hpush⟩ := push_some h1; subst hpush; simp only [go_sem, hH, hJ, hY, hZ]) | (with_reducible refine CU (stmt_j h1 (by with_unfolding_all rfl)) ?_))
 | (with_reducible refine CU (good_s (by with_unfolding_all rfl)) ?_)
 | (with_reducible first | refine kT_ fun hc => ?_ | refine kF_ fun hc => ?_ | refine kS_ (fun hc => ?_) fun hc => ?_) <;> (try simp only [hc, bs, ↓reduceIte] at h) <;> try simp only [hc]
 | (with_reducible refine lA_ hQ ?_; (try cases h); simp only [resL, oneD, sI_, eL_, go_sem, hH, hJ, hY, hZ, encSm_eq]; try exact lE_)
 | (cases h; done))
   · refine rl_ 1 1 ?_ ?_ (IH (j, _, _, l.length + 1) ⟨h, by simp, by dsimp only; omega⟩ (Nat.lt_succ_self _))
     · (simp only [go_sem, hH, hJ, hY, hZ, encSm_eq]; try exact lF_)
     · (simp only [go_sem, hH, hJ, hY, hZ, encSm_eq]; try exact lF_)
   · refine rl_ 1 1 ?_ ?_ (IH (j, _, _, l.length + 1) ⟨h, by simp, by dsimp only; omega⟩ (Nat.lt_succ_self _))
     · (simp only [go_sem, hH, hJ, hY, hZ, encSm_eq]; try exact lF_)
     · (simp only [go_sem, hH, hJ, hY, hZ, encSm_eq]; try exact lF_)

theorem rows_step {m n : Nat} (stmt_s : ∀ j < n, C_stmt m j) : C_rows m (n + 1) := by
 intro nest body r p h s o ho
 refine Fun.meth ?_ rfl (okRd r) (okRd p.2) (by simp [D.ok, D.oks, okrSm, okrStr, Tag.ok]) ho
 cases body
 · exact rows_false stmt_s h
 · exact rows_true stmt_s h

theorem allR_s (m : Nat) : ∀ n, ∀ k < n, C_rows m k ∧ C_stmt m k ∧ C_block m k ∧ C_choice m k := by
 intro n
 induction n with
 | zero => intro k h; exact absurd h (Nat.not_lt_zero _)
 | succ n ih =>
   intro k hk
   cases k with
   | zero =>
     refine ⟨?_, ?_, ?_, ?_⟩
     · intro nest body r p h; simp only [Rd.rows] at h; cases h
     · intro nest r p h; simp only [Rd.stmt] at h; cases h
     · intro nest r p h; simp only [Rd.block] at h; cases h
     · intro nest r p h; simp only [Rd.choice] at h; cases h
   | succ k =>
     obtain ⟨h1, h2, h3, h4⟩ := ih k (by omega)
     exact ⟨rows_step fun j hj => (ih j (by omega)).2.1, stmt_step h3 h4, block_step h1, choice_step h3⟩

theorem rows_s {m n : Nat} {nest : Int} {body : Bool} {r : Rd} {p : (List Sm × List Str) × Rd} (h : Rd.rows m n nest body r = some p) {s : St} {o : Nat} (ho : s.objs[o]? = some (encRd r)) :
   Fun Tryz.prog n_parse_reader_rows [.ptr o 0, .int .i64 nest, .bool body] s (.tuple [.slice .shared 13 (p.1.1.map encSm), .slice .shared 1 (p.1.2.map encStr)]) ⟨s.objs.set o (encRd p.2), s.toks⟩ :=
 (allR_s m (n + 1) n (Nat.lt_succ_self _)).1 h ho

end Go.Abs
