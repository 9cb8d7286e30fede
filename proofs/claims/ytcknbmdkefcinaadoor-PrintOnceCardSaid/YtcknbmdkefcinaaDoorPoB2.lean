/-
  What is proved here: part 2 of the road to the claim (Codes1, Have1, Codes2, Have2, Codes3, Have3, Prs, Lex1, Lex2, RefLex1, Prs2, Ref1, Ref2, Ref3, RefMay1, Full1, Full2, MirEq, RefEq, RefEq2, Prs3, Prs4, Prs5, Prs6).
  No conditions.
-/
import Derived.Test.YtcknbmdkefcinaaDoorPoB1
import Derived.Test.YtcknbmdkefcinaaDoorProg
import Derived.KernelRfl

set_option linter.unusedSimpArgs false
set_option linter.unusedVariables false

/-! Codes1 -/

namespace Go.Abs

abbrev Q7U : AC := .seq (.seq (.run [.m 6 z1_, .o 7 (.bin .gtr z6_ (.k (.int .i64 0)))]) (.cond z7_ .skip (.exit 0))) (.seq (.block 1 (.run [.m 10 z0_, .o 11 (.nilck z10_), .o 12 (.faddr z11_ 0), .c 13 n_strings_Builder_WriteByte [z12_, (.k (.int .u8 32))]])) (.run [.m 8 z1_, .o 9 (.bin .sub z8_ (.k (.int .i64 1))), .m 1 z9_]))
abbrev Q80 : AC := .seq (.block 0 (.loop Q7U)) (.seq (.run [.m 14 z0_, .o 15 (.nilck z14_), .o 16 (.faddr z15_ 0), .m 17 z2_, .c 18 n_strings_Builder_WriteString [z16_, z17_]]) (.run [.m 19 z0_, .o 20 (.nilck z19_), .o 21 (.faddr z20_ 0), .c 22 n_strings_Builder_WriteByte [z21_, (.k (.int .u8 10))]]))
abbrev Q85 : AC := .cond z3_ (.seq (.run [.o 2 (.mv (.k (.str [114, 101, 102, 32])))]) .ret) .skip
abbrev Q89 : AC := .seq (.seq (.run [.m 3 z0_]) Q85) (.seq (.run [.o 2 (.mv (.k (.str [])))]) .ret)
abbrev Q8A : AC := .seq (.run [.o 2 (.mv (.k (.str [])))]) Q89
abbrev Q8M : AC := .seq (.run [.m 30 z0_, .m 31 z2_, .m 32 z8_, .o 33 (.bin .add z32_ (.k (.str [119, 104, 105, 108, 101, 32, 40]))), .o 34 (.faddr z7_ 5), .o 35 (.load z34_ true 4), .c 36 n_print_expr [z35_, (.k (.int .i64 0))], .o 37 (.bin .add z33_ z36_), .o 38 (.bin .add z37_ (.k (.str [41, 32, 123]))), .c 39 n_print_writer_line [z30_, z31_, z38_]]) (.seq (.run [.m 40 z0_, .o 41 (.faddr z7_ 11), .o 42 (.load z41_ false 1), .m 43 z2_, .o 44 (.bin .add z43_ (.k (.int .i64 1))), .c 45 n_print_writer_rows [z40_, z42_, z44_]]) (.run [.m 46 z0_, .m 47 z2_, (.c 48 n_print_writer_line [z46_, z47_, (.k (.str [125]))])]))
abbrev Q8U : AC := .cond z70_ (.seq (.run [.m 71 z0_, .m 72 z2_, (.c 73 n_print_writer_line [z71_, z72_, (.k (.str [125, 32, 101, 108, 115, 101, 32, 123]))])]) (.run [.m 74 z0_, .o 75 (.faddr z7_ 12), .o 76 (.load z75_ false 1), .m 77 z2_, .o 78 (.bin .add z77_ (.k (.int .i64 1))), .c 79 n_print_writer_rows [z74_, z76_, z78_]])) .skip
abbrev Q8X : AC := .seq (.seq (.run [.o 67 (.faddr z7_ 12), .o 68 (.load z67_ false 1), .o 69 (.len z68_), .o 70 (.bin .gtr z69_ (.k (.int .i64 0)))]) Q8U) (.run [.m 80 z0_, .m 81 z2_, (.c 82 n_print_writer_line [z80_, z81_, (.k (.str [125]))])])
abbrev Q8Z : AC := .seq (.run [.m 51 z0_, .m 52 z2_, .m 53 z8_, .o 54 (.bin .add z53_ (.k (.str [105, 102, 32, 40]))), .o 55 (.faddr z7_ 5), .o 56 (.load z55_ true 4), .c 57 n_print_expr [z56_, (.k (.int .i64 0))], .o 58 (.bin .add z54_ z57_), .o 59 (.bin .add z58_ (.k (.str [41, 32, 123]))), .c 60 n_print_writer_line [z51_, z52_, z59_]]) (.seq (.run [.m 61 z0_, .o 62 (.faddr z7_ 11), .o 63 (.load z62_ false 1), .m 64 z2_, .o 65 (.bin .add z64_ (.k (.int .i64 1))), .c 66 n_print_writer_rows [z61_, z63_, z65_]]) Q8X)
abbrev Q92 : AC := .seq (.run [.o 50 (.bin .eql z19_ (.k (.int .i64 5))), .m 49 z50_]) (.cond z49_ Q8Z (.run [.m 20 z0_, .m 21 z2_, .m 22 z8_, .o 23 (.load z7_ true 13), .c 24 n_print_plain [z23_], .o 25 (.bin .add z22_ z24_), .o 26 (.bin .add z25_ (.k (.str [59]))), .c 27 n_print_writer_line [z20_, z21_, z26_]]))
abbrev Q95 : AC := .block 2 (.seq (.run [.o 29 (.bin .eql z19_ (.k (.int .i64 6))), .m 28 z29_]) (.cond z28_ Q8M Q92))
abbrev Q99 : AC := .block 1 (.seq (.run [.o 13 (.iaddr z9_ z11_ 13), .o 14 (.load z13_ true 13), .o 7 (.alloc [(.int .i64 0), (.int .i64 0), (.slice .full 0 []), (.str []), (.str []), (.int .i64 0), (.int .i64 0), (.str []), (.slice .full 0 []), (.bool false), (.slice .full 0 []), (.slice .full 0 []), (.slice .full 0 [])]), .op none none (.store z7_ z14_ 13)]) (.seq (.run [.o 15 (.faddr z7_ 2), .o 16 (.load z15_ false 1), .c 17 n_print_marks [z16_], .m 8 z17_]) (.seq (.run [.o 18 (.faddr z7_ 1), .o 19 (.load z18_ false 1)]) Q95)))
abbrev Q9C : AC := .seq (.cond z12_ .skip (.exit 0)) (.seq Q99 (.run [.o 83 (.bin .add z11_ (.k (.int .i64 1))), .m 11 z83_]))
abbrev Q9G : AC := .seq (.run [.m 9 z1_, .o 10 (.len z9_), .o 11 (.mv (.k (.int .i64 0)))]) (.block 0 (.loop (.seq (.run [.o 12 (.bin .lss z11_ z10_)]) Q9C)))
abbrev Q9P : AC := .block 1 (.seq (.run [.o 10 (.iaddr z6_ z8_ 1), .o 11 (.load z10_ false 1), .m 5 z11_]) (.run [.m 12 z3_, .m 13 z5_, .o 14 (.bin .add z13_ (.k (.str [58, 32]))), .o 15 (.bin .add z12_ z14_), .m 3 z15_]))
abbrev Q9S : AC := .seq (.cond z9_ .skip (.exit 0)) (.seq Q9P (.run [.o 16 (.bin .add z8_ (.k (.int .i64 1))), .m 8 z16_]))
abbrev Q9W : AC := .seq (.run [.m 6 z0_, .o 7 (.len z6_), .o 8 (.mv (.k (.int .i64 0)))]) (.block 0 (.loop (.seq (.run [.o 9 (.bin .lss z8_ z7_)]) Q9S)))
abbrev QA1 : AC := .seq (.run [.o 2 (.mv (.k (.str [])))]) (.seq (.run [.o 3 (.mv (.k (.str [])))]) (.seq Q9W (.seq (.run [.m 17 z3_, .m 2 z17_]) .ret)))
abbrev QA5 : AC := .seq (.run [.o 1 (.box z0_), .o 2 (.mv (.k (.bool false)))]) (.seq (.run [.o 3 (.load z1_ true 4), .c 4 n_tree_deep [z3_, (.k (.int .i64 20))], .m 2 z4_]) .ret)
abbrev QAK : AC := .cond z27_ (.seq (.run [.o 29 (.faddr z2_ 3), .o 30 (.load z29_ false 1), .o 31 (.iaddr z30_ (.k (.int .i64 0)) 4), .o 32 (.load z31_ true 4), .c 33 n_print_expr [z32_, (.k (.int .i64 7))], .o 34 (.bin .add (.k (.str [33])) z33_), .m 4 z34_]) .ret) .skip
abbrev QAM : AC := .cond z19_ (.seq (.run [.o 21 (.faddr z2_ 3), .o 22 (.load z21_ false 1), .o 23 (.iaddr z22_ (.k (.int .i64 0)) 4), .o 24 (.load z23_ true 4), .c 25 n_print_expr [z24_, (.k (.int .i64 7))], .o 26 (.bin .add (.k (.str [45])) z25_), .m 4 z26_]) .ret) (.seq (.run [.o 28 (.bin .eql z9_ (.k (.int .i64 4))), .m 27 z28_]) QAK)
abbrev QAO : AC := .cond z15_ (.seq (.run [.o 17 (.faddr z2_ 2), .o 18 (.load z17_ false 1), .m 4 z18_]) .ret) (.seq (.run [.o 20 (.bin .eql z9_ (.k (.int .i64 3))), .m 19 z20_]) QAM)
abbrev QAQ : AC := .cond z10_ (.seq (.run [.o 12 (.faddr z2_ 1), .o 13 (.load z12_ false 1), .c 14 n_strconv_FormatInt [z13_, (.k (.int .i64 10))], .m 4 z14_]) .ret) (.seq (.run [.o 16 (.bin .eql z9_ (.k (.int .i64 2))), .m 15 z16_]) QAO)
abbrev QAS : AC := .block 0 (.seq (.run [.o 11 (.bin .eql z9_ (.k (.int .i64 1))), .m 10 z11_]) QAQ)
abbrev QAV : AC := .par [.o 41 (.faddr z2_ 3), .o 42 (.load z41_ false 1), .o 43 (.iaddr z42_ (.k (.int .i64 0)) 4), .o 44 (.load z43_ true 4), .m 45 z6_, .c 46 n_print_expr [z44_, z45_], .o 47 (.bin .add z46_ (.k (.str [32]))), .m 48 z5_, .o 49 (.bin .add z47_ z48_), .o 50 (.bin .add z49_ (.k (.str [32]))), .o 51 (.faddr z2_ 3), .o 52 (.load z51_ false 1), .o 53 (.iaddr z52_ (.k (.int .i64 1)) 4), .o 54 (.load z53_ true 4), .m 55 z6_, .o 56 (.bin .add z55_ (.k (.int .i64 1))), .c 57 n_print_expr [z54_, z56_], .o 58 (.bin .add z50_ z57_), .m 7 z58_] [(0, 0), (1, 0), (2, 0), (3, 0), (4, 0), (5, 0), (10, 0), (11, 1), (12, 0), (13, 1), (14, 0), (15, 0), (16, 0), (6, 0), (7, 0), (8, 0), (9, 0), (17, 0), (18, 0)]
abbrev QAZ : AC := .cond z61_ (.seq (.run [.m 62 z7_, .o 63 (.bin .add (.k (.str [40])) z62_), .o 64 (.bin .add z63_ (.k (.str [41]))), .m 4 z64_]) .ret) .skip
abbrev QB5 : AC := .seq (.run [.o 36 (.faddr z2_ 0), .o 37 (.load z36_ false 1), .c 38 n_print_sign [z37_], .m 35 z38_, .o 39 (.ext z35_ 0), .o 40 (.ext z35_ 1), .m 5 z39_, .m 6 z40_]) (.seq QAV (.seq (.seq (.run [.m 59 z6_, .m 60 z1_, .o 61 (.bin .lss z59_ z60_)]) QAZ) (.seq (.run [.m 65 z7_, .m 4 z65_]) .ret)))
abbrev QB7 : AC := .seq (.run [.o 2 (.box z0_), .o 4 (.mv (.k (.str [])))]) (.seq (.seq (.run [.o 8 (.faddr z2_ 0), .o 9 (.load z8_ false 1)]) QAS) QB5)
abbrev QBG : AC := .cond z13_ (.seq (.run [.o 2 (.mv (.k (.bool false)))]) .ret) .skip
abbrev QBL : AC := .seq (.block 1 (.seq (.run [.o 9 (.iaddr z5_ z7_ 1), .o 10 (.load z9_ false 1), .m 4 z10_]) (.seq (.run [.m 11 z4_, .c 12 n_ref1_Name [z11_], .o 13 (.un .not z12_)]) QBG))) (.run [.o 14 (.bin .add z7_ (.k (.int .i64 1))), .m 7 z14_])
abbrev QBP : AC := .block 0 (.loop (.seq (.run [.o 8 (.bin .lss z7_ z6_)]) (.seq (.cond z8_ .skip (.exit 0)) QBL)))
abbrev QBT : AC := .seq (.seq (.run [.m 5 z0_, .o 6 (.len z5_), .o 7 (.mv (.k (.int .i64 0)))]) QBP) (.seq (.run [.o 2 (.mv (.k (.bool true)))]) .ret)
abbrev QBU : AC := .seq (.run [.o 2 (.mv (.k (.bool false)))]) QBT
abbrev QBZ : AC := .cond z16_ (.seq (.run [.o 2 (.mv (.k (.bool false)))]) .ret) .skip
abbrev QC8 : AC := .cond z34_ (.seq (.run [.o 2 (.mv (.k (.bool false)))]) .ret) .skip
abbrev QCA : AC := .block 1 (.seq (.run [.m 23 z0_, .m 24 z3_, .o 25 (.sidx z23_ z24_), .c 26 n_ref1_small [z25_], .o 27 (.un .not z26_), .m 28 z27_, .g 29 28 true (.mv z0_), .g 30 28 true (.mv z3_), .g 31 28 true (.sidx z29_ z30_), .d 32 28 true n_ref1_digit [z31_], .g 33 28 true (.un .not z32_), .o 34 (.pick z28_ z33_ (.k (.bool false)))]) QC8)
abbrev QCD : AC := .seq (.seq (.run [.m 17 z3_, .m 18 z0_, .o 19 (.slen z18_), .o 20 (.bin .lss z17_ z19_)]) (.cond z20_ .skip (.exit 0))) (.seq QCA (.run [.m 21 z3_, .o 22 (.bin .add z21_ (.k (.int .i64 1))), .m 3 z22_]))
abbrev QCJ : AC := .seq (.seq (.run [.o 3 (.mv (.k (.int .i64 1)))]) (.block 0 (.loop QCD))) (.seq (.run [.m 35 z0_, .c 36 n_ref1_Word [z35_], .o 37 (.un .not z36_), .m 2 z37_]) .ret)
abbrev QCK : AC := .seq (.seq (.run [.m 4 z0_, .o 5 (.bin .eql z4_ (.k (.str []))), .m 6 z5_, .g 7 6 false (.mv z0_), .g 8 6 false (.slen z7_), .g 9 6 false (.bin .gtr z8_ (.k (.int .i64 8))), .o 10 (.pick z6_ (.k (.bool true)) z9_), .m 11 z10_, .g 12 11 false (.mv z0_), .g 13 11 false (.sidx z12_ (.k (.int .i64 0))), .d 14 11 false n_ref1_small [z13_], .g 15 11 false (.un .not z14_), .o 16 (.pick z11_ (.k (.bool true)) z15_)]) QBZ) QCJ
abbrev QCL : AC := .seq (.run [.o 2 (.mv (.k (.bool false)))]) QCK
abbrev QCN : AC := .run [.o 8 (.faddr z1_ 1), .o 9 (.load z8_ false 1), .o 10 (.bin .eql z9_ (.k (.int .i64 1))), .m 11 z10_, .g 12 11 false (.faddr z1_ 1), .g 13 11 false (.load z12_ false 1), .g 14 11 false (.bin .eql z13_ (.k (.int .i64 3))), .o 15 (.pick z11_ (.k (.bool true)) z14_), .m 16 z15_, .g 17 16 false (.faddr z1_ 1), .g 18 16 false (.load z17_ false 1), .g 19 16 false (.bin .eql z18_ (.k (.int .i64 5))), .o 20 (.pick z16_ (.k (.bool true)) z19_), .m 21 z20_, .g 22 21 false (.faddr z1_ 1), .g 23 21 false (.load z22_ false 1), .g 24 21 false (.bin .eql z23_ (.k (.int .i64 6))), .o 25 (.pick z21_ (.k (.bool true)) z24_), .m 26 z25_, .g 27 26 false (.faddr z1_ 1), .g 28 26 false (.load z27_ false 1), .g 29 26 false (.bin .eql z28_ (.k (.int .i64 9))), .g 30 26 false (.mv z29_), .g 31 30 true (.faddr z1_ 9), .g 32 30 true (.load z31_ false 1), .g 33 26 false (.pick z30_ z32_ (.k (.bool false))), .o 34 (.pick z26_ (.k (.bool true)) z33_), .m 3 z34_]
abbrev QCQ : AC := .run [.o 51 (.faddr z1_ 1), .o 52 (.load z51_ false 1), .o 53 (.bin .lss z52_ (.k (.int .i64 1))), .m 54 z53_, .g 55 54 false (.faddr z1_ 1), .g 56 54 false (.load z55_ false 1), .g 57 54 false (.bin .gtr z56_ (.k (.int .i64 10))), .o 58 (.pick z54_ (.k (.bool true)) z57_), .m 59 z58_, .g 60 59 false (.faddr z1_ 2), .g 61 59 false (.load z60_ false 1), .d 62 59 false n_ref3_names [z61_], .g 63 59 false (.un .not z62_), .o 64 (.pick z59_ (.k (.bool true)) z63_), .m 65 z64_, .g 66 65 false (.mv z3_), .g 67 65 false (.mv z66_), .g 68 67 true (.faddr z1_ 5), .g 69 67 true (.load z68_ true 4), .d 70 67 true n_ref3_MayExpr [z69_], .g 71 67 true (.un .not z70_), .g 72 65 false (.pick z67_ z71_ (.k (.bool false))), .o 73 (.pick z65_ (.k (.bool true)) z72_), .m 74 z73_, .g 75 74 false (.mv z3_), .g 76 74 false (.un .not z75_), .g 77 74 false (.mv z76_), .g 78 77 true (.faddr z1_ 5), .g 79 77 true (.load z78_ true 4), .d 80 77 true n_ref3_none [z79_], .g 81 77 true (.un .not z80_), .g 82 74 false (.pick z77_ z81_ (.k (.bool false))), .o 83 (.pick z74_ (.k (.bool true)) z82_), .m 84 z83_, .g 85 84 false (.faddr z1_ 9), .g 86 84 false (.load z85_ false 1), .g 87 84 false (.mv z86_), .g 88 87 true (.faddr z1_ 1), .g 89 87 true (.load z88_ false 1), .g 90 87 true (.bin .neq z89_ (.k (.int .i64 9))), .g 91 84 false (.pick z87_ z90_ (.k (.bool false))), .o 92 (.pick z84_ (.k (.bool true)) z91_)]
abbrev QCT : AC := .cond z92_ (.seq (.run [.o 2 (.mv (.k (.bool false)))]) .ret) .skip
abbrev QCV : AC := .run [.m 93 z4_, .m 94 z93_, .g 95 94 true (.faddr z1_ 3), .g 96 94 true (.load z95_ false 1), .d 97 94 true n_ref1_Name [z96_], .g 98 94 true (.un .not z97_), .o 99 (.pick z94_ z98_ (.k (.bool false))), .m 100 z99_, .g 101 100 false (.mv z4_), .g 102 100 false (.un .not z101_), .g 103 100 false (.mv z102_), .g 104 103 true (.faddr z1_ 3), .g 105 103 true (.load z104_ false 1), .g 106 103 true (.bin .neq z105_ (.k (.str []))), .g 107 100 false (.pick z103_ z106_ (.k (.bool false))), .g 108 100 false (.mv z107_), .g 109 108 true (.mv z5_), .g 110 108 true (.mv z109_), .g 111 110 true (.faddr z1_ 3), .g 112 110 true (.load z111_ false 1), .d 113 110 true n_ref1_Name [z112_], .g 114 108 true (.pick z110_ z113_ (.k (.bool false))), .g 115 108 true (.un .not z114_), .g 116 100 false (.pick z108_ z115_ (.k (.bool false))), .o 117 (.pick z100_ (.k (.bool true)) z116_)]
abbrev QCY : AC := .cond z117_ (.seq (.run [.o 2 (.mv (.k (.bool false)))]) .ret) .skip
abbrev QD0 : AC := .run [.m 118 z5_, .o 119 (.faddr z1_ 4), .o 120 (.load z119_ false 1), .o 121 (.bin .neq z120_ (.k (.str []))), .o 122 (.eqb true z118_ z121_), .m 123 z122_, .g 124 123 false (.mv z5_), .g 125 123 false (.mv z124_), .g 126 125 true (.faddr z1_ 4), .g 127 125 true (.load z126_ false 1), .d 128 125 true n_ref1_Name [z127_], .g 129 125 true (.un .not z128_), .g 130 123 false (.pick z125_ z129_ (.k (.bool false))), .o 131 (.pick z123_ (.k (.bool true)) z130_), .m 132 z131_, .g 133 132 false (.mv z5_), .g 134 132 false (.un .not z133_), .g 135 132 false (.mv z134_), .g 136 135 true (.faddr z1_ 10), .g 137 135 true (.load z136_ false 1), .g 138 135 true (.len z137_), .g 139 135 true (.bin .gtr z138_ (.k (.int .i64 0))), .g 140 132 false (.pick z135_ z139_ (.k (.bool false))), .o 141 (.pick z132_ (.k (.bool true)) z140_)]
abbrev QD3 : AC := .cond z141_ (.seq (.run [.o 2 (.mv (.k (.bool false)))]) .ret) .skip
abbrev QDC : AC := .cond z151_ (.seq (.run [.o 2 (.mv (.k (.bool false)))]) .ret) .skip
abbrev QDH : AC := .seq (.block 1 (.seq (.run [.o 147 (.iaddr z143_ z145_ 6), .o 148 (.load z147_ true 6), .o 7 (.alloc [(.bool false), (.str []), (.int .i64 0), (.int .i64 0), (.str []), (.slice .full 0 [])]), .op none none (.store z7_ z148_ 6)]) (.seq (.run [.o 149 (.load z7_ true 6), .c 150 n_ref3_arg [z149_], .o 151 (.un .not z150_)]) QDC))) (.run [.o 152 (.bin .add z145_ (.k (.int .i64 1))), .m 145 z152_])
abbrev QDL : AC := .block 0 (.loop (.seq (.run [.o 146 (.bin .lss z145_ z144_)]) (.seq (.cond z146_ .skip (.exit 0)) QDH)))
abbrev QDN : AC := .run [.o 153 (.faddr z1_ 11), .o 154 (.load z153_ false 1), .o 155 (.len z154_), .o 156 (.bin .eql z155_ (.k (.int .i64 0))), .m 157 z156_, .g 158 157 false (.faddr z1_ 1), .g 159 157 false (.load z158_ false 1), .g 160 157 false (.bin .eql z159_ (.k (.int .i64 5))), .o 161 (.pick z157_ (.k (.bool true)) z160_), .m 162 z161_, .g 163 162 false (.faddr z1_ 1), .g 164 162 false (.load z163_ false 1), .g 165 162 false (.bin .eql z164_ (.k (.int .i64 6))), .o 166 (.pick z162_ (.k (.bool true)) z165_), .m 167 z166_, .g 168 167 true (.faddr z1_ 12), .g 169 167 true (.load z168_ false 1), .g 170 167 true (.len z169_), .g 171 167 true (.bin .eql z170_ (.k (.int .i64 0))), .g 172 167 true (.mv z171_), .g 173 172 false (.faddr z1_ 1), .g 174 172 false (.load z173_ false 1), .g 175 172 false (.bin .eql z174_ (.k (.int .i64 5))), .g 176 167 true (.pick z172_ (.k (.bool true)) z175_), .o 177 (.pick z167_ z176_ (.k (.bool false))), .m 2 z177_]
abbrev QDP : AC := .seq (.seq (.run [.o 142 (.faddr z1_ 10), .o 143 (.load z142_ false 1), .o 144 (.len z143_), .o 145 (.mv (.k (.int .i64 0)))]) QDL) (.seq QDN .ret)
abbrev QDQ : AC := .seq (.seq QD0 QD3) QDP
abbrev QDR : AC := .seq (.seq QCV QCY) QDQ
abbrev QDS : AC := .seq (.seq QCQ QCT) QDR
abbrev QDT : AC := .seq (.run [.o 48 (.faddr z1_ 1), .o 49 (.load z48_ false 1), .o 50 (.bin .eql z49_ (.k (.int .i64 4))), .m 5 z50_]) QDS
abbrev QDU : AC := .seq (.run [.o 35 (.faddr z1_ 1), .o 36 (.load z35_ false 1), .o 37 (.bin .eql z36_ (.k (.int .i64 1))), .m 38 z37_, .g 39 38 false (.faddr z1_ 1), .g 40 38 false (.load z39_ false 1), .g 41 38 false (.bin .eql z40_ (.k (.int .i64 2))), .o 42 (.pick z38_ (.k (.bool true)) z41_), .m 43 z42_, .g 44 43 false (.faddr z1_ 1), .g 45 43 false (.load z44_ false 1), .g 46 43 false (.bin .eql z45_ (.k (.int .i64 10))), .o 47 (.pick z43_ (.k (.bool true)) z46_), .m 4 z47_]) QDT
abbrev QDV : AC := .seq QCN QDU
abbrev QDW : AC := .seq (.run [.o 1 (.box z0_), .o 2 (.mv (.k (.bool false)))]) QDV
abbrev QE1 : AC := .cond z10_ (.seq (.run [.o 4 (.mv (.k (.bool false)))]) .ret) .skip
abbrev QE7 : AC := .par [.m 16 z0_, .m 17 z5_, .o 18 (.iaddr z16_ z17_ 1), .o 19 (.load z18_ false 1), .m 20 z1_, .m 21 z5_, .o 22 (.iaddr z20_ z21_ 1), .o 23 (.load z22_ false 1), .o 24 (.bin .neq z19_ z23_)] [(0, 0), (1, 0), (2, 0), (3, 0), (4, 0), (5, 0), (6, 0), (7, 0), (8, 0)]
abbrev QEA : AC := .cond z24_ (.seq (.run [.o 4 (.mv (.k (.bool false)))]) .ret) .skip
abbrev QEG : AC := .seq (.cond z14_ .skip (.exit 0)) (.seq (.block 1 (.seq (.run [.m 15 z13_, .m 5 z15_]) (.seq QE7 QEA))) (.run [.o 25 (.bin .add z13_ (.k (.int .i64 1))), .m 13 z25_]))
abbrev QEK : AC := .seq (.run [.m 11 z0_, .o 12 (.len z11_), .o 13 (.mv (.k (.int .i64 0)))]) (.block 0 (.loop (.seq (.run [.o 14 (.bin .lss z13_ z12_)]) QEG)))
abbrev QEN : AC := .seq QEK (.seq (.run [.o 4 (.mv (.k (.bool true)))]) .ret)
abbrev QEP : AC := .seq (.run [.o 4 (.mv (.k (.bool false)))]) (.seq (.seq (.run [.m 6 z0_, .o 7 (.len z6_), .m 8 z1_, .o 9 (.len z8_), .o 10 (.bin .neq z7_ z9_)]) QE1) QEN)
abbrev QEU : AC := .cond z10_ (.seq (.run [.o 4 (.mv (.k (.bool false)))]) .ret) .skip
abbrev QF0 : AC := .par [.m 16 z0_, .m 17 z5_, .o 18 (.iaddr z16_ z17_ 13), .o 19 (.load z18_ true 13), .m 20 z1_, .m 21 z5_, .o 22 (.iaddr z20_ z21_ 13), .o 23 (.load z22_ true 13), .c 24 n_ref3_eqOne [z19_, z23_], .o 25 (.un .not z24_)] [(0, 0), (1, 0), (2, 0), (3, 0), (4, 0), (5, 0), (6, 0), (7, 0), (8, 0), (9, 0)]
abbrev QF3 : AC := .cond z25_ (.seq (.run [.o 4 (.mv (.k (.bool false)))]) .ret) .skip
abbrev QF9 : AC := .seq (.cond z14_ .skip (.exit 0)) (.seq (.block 1 (.seq (.run [.m 15 z13_, .m 5 z15_]) (.seq QF0 QF3))) (.run [.o 26 (.bin .add z13_ (.k (.int .i64 1))), .m 13 z26_]))
abbrev QFD : AC := .seq (.run [.m 11 z0_, .o 12 (.len z11_), .o 13 (.mv (.k (.int .i64 0)))]) (.block 0 (.loop (.seq (.run [.o 14 (.bin .lss z13_ z12_)]) QF9)))
abbrev QFG : AC := .seq QFD (.seq (.run [.o 4 (.mv (.k (.bool true)))]) .ret)
abbrev QFI : AC := .seq (.run [.o 4 (.mv (.k (.bool false)))]) (.seq (.seq (.run [.m 6 z0_, .o 7 (.len z6_), .m 8 z1_, .o 9 (.len z8_), .o 10 (.bin .neq z7_ z9_)]) QEU) QFG)
abbrev QFN : AC := .cond z9_ (.seq (.run [.o 4 (.mv (.k (.int .i64 1)))]) .ret) .skip
abbrev QG0 : AC := .block 1 (.seq (.run [.o 22 (.faddr z2_ 3), .o 23 (.load z22_ false 1), .m 24 z6_, .o 25 (.iaddr z23_ z24_ 4), .o 26 (.load z25_ true 4), .m 27 z1_, .o 28 (.bin .sub z27_ (.k (.int .i64 1))), .c 29 n_ref3_deep [z26_, z28_], .m 7 z29_]) (.seq (.run [.m 30 z7_, .m 31 z5_, .o 32 (.bin .gtr z30_ z31_)]) (.cond z32_ (.run [.m 33 z7_, .m 5 z33_]) .skip)))
abbrev QG3 : AC := .seq (.seq (.run [.m 10 z6_, .o 11 (.faddr z2_ 3), .o 12 (.load z11_ false 1), .o 13 (.len z12_), .o 14 (.bin .lss z10_ z13_), .m 15 z14_, .g 16 15 true (.mv z5_), .g 17 15 true (.mv z1_), .g 18 15 true (.bin .lss z16_ z17_), .o 19 (.pick z15_ z18_ (.k (.bool false)))]) (.cond z19_ .skip (.exit 0))) (.seq QG0 (.run [.m 20 z6_, .o 21 (.bin .add z20_ (.k (.int .i64 1))), .m 6 z21_]))
abbrev QG9 : AC := .seq (.seq (.run [.o 6 (.mv (.k (.int .i64 0)))]) (.block 0 (.loop QG3))) (.seq (.run [.m 34 z5_, .o 35 (.bin .add z34_ (.k (.int .i64 1))), .m 4 z35_]) .ret)
abbrev QGB : AC := .seq (.seq (.run [.m 8 z1_, .o 9 (.bin .eql z8_ (.k (.int .i64 0)))]) QFN) (.seq (.run [.o 5 (.mv (.k (.int .i64 0)))]) QG9)
abbrev QGC : AC := .seq (.run [.o 2 (.box z0_), .o 4 (.mv (.k (.int .i64 0)))]) QGB
abbrev QGE : AC := .par [.o 4 (.faddr z1_ 0), .o 5 (.load z4_ false 1), .c 6 n_ref3_Arity [z5_], .o 7 (.faddr z1_ 3), .o 8 (.load z7_ false 1), .o 9 (.len z8_), .o 10 (.bin .neq z6_ z9_), .m 11 z10_, .g 12 11 false (.faddr z1_ 0), .g 13 11 false (.load z12_ false 1), .g 14 11 false (.bin .neq z13_ (.k (.int .i64 1))), .g 15 11 false (.mv z14_), .g 16 15 true (.faddr z1_ 1), .g 17 15 true (.load z16_ false 1), .g 18 15 true (.bin .neq z17_ (.k (.int .i64 0))), .g 19 11 false (.pick z15_ z18_ (.k (.bool false))), .o 20 (.pick z11_ (.k (.bool true)) z19_), .m 21 z20_, .g 22 21 false (.faddr z1_ 1), .g 23 21 false (.load z22_ false 1), .g 24 21 false (.bin .lss z23_ (.k (.int .i64 0))), .o 25 (.pick z21_ (.k (.bool true)) z24_), .m 26 z25_, .g 27 26 false (.faddr z1_ 0), .g 28 26 false (.load z27_ false 1), .g 29 26 false (.bin .eql z28_ (.k (.int .i64 2))), .g 30 26 false (.faddr z1_ 2), .g 31 26 false (.load z30_ false 1), .g 32 26 false (.bin .neq z31_ (.k (.str []))), .g 33 26 false (.eqb true z29_ z32_), .o 34 (.pick z26_ (.k (.bool true)) z33_), .m 35 z34_, .g 36 35 false (.faddr z1_ 2), .g 37 35 false (.load z36_ false 1), .g 38 35 false (.bin .neq z37_ (.k (.str []))), .g 39 35 false (.mv z38_), .g 40 39 true (.faddr z1_ 2), .g 41 39 true (.load z40_ false 1), .d 42 39 true n_ref1_Name [z41_], .g 43 39 true (.un .not z42_), .g 44 35 false (.pick z39_ z43_ (.k (.bool false))), .o 45 (.pick z35_ (.k (.bool true)) z44_)] [(0, 0), (1, 0), (2, 0), (3, 0), (4, 1), (5, 0), (6, 0), (7, 0), (8, 0), (9, 0), (10, 0), (11, 0), (12, 0), (13, 0), (14, 0), (15, 0), (16, 0), (17, 0), (18, 0), (19, 0), (20, 0), (21, 0), (22, 0), (23, 0), (24, 0), (25, 0), (26, 0), (27, 0), (28, 0), (29, 0), (30, 0), (31, 0), (32, 0), (33, 0), (34, 0), (35, 0), (36, 0), (37, 0), (38, 0), (39, 0), (40, 0), (41, 0)]
abbrev QGH : AC := .cond z45_ (.seq (.run [.o 2 (.mv (.k (.bool false)))]) .ret) .skip
abbrev QGQ : AC := .cond z58_ (.seq (.run [.o 2 (.mv (.k (.bool false)))]) .ret) .skip
abbrev QGV : AC := .seq (.block 1 (.seq (.run [.m 51 z49_, .m 3 z51_]) (.seq (.run [.o 52 (.faddr z1_ 3), .o 53 (.load z52_ false 1), .m 54 z3_, .o 55 (.iaddr z53_ z54_ 4), .o 56 (.load z55_ true 4), .c 57 n_ref3_form [z56_], .o 58 (.un .not z57_)]) QGQ))) (.run [.o 59 (.bin .add z49_ (.k (.int .i64 1))), .m 49 z59_])
abbrev QGZ : AC := .block 0 (.loop (.seq (.run [.o 50 (.bin .lss z49_ z48_)]) (.seq (.cond z50_ .skip (.exit 0)) QGV)))
abbrev QH3 : AC := .seq (.seq (.run [.o 46 (.faddr z1_ 3), .o 47 (.load z46_ false 1), .o 48 (.len z47_), .o 49 (.mv (.k (.int .i64 0)))]) QGZ) (.seq (.run [.o 2 (.mv (.k (.bool true)))]) .ret)
abbrev QH5 : AC := .seq (.run [.o 1 (.box z0_), .o 2 (.mv (.k (.bool false)))]) (.seq (.seq QGE QGH) QH3)
abbrev QHC : AC := .seq (.run [(.o 13 (.build [(.int .i64 0), (.int .i64 0)] [(0, (1, (.k (.int .i64 4))))])), .o 2 (.mv (.k (.slice .full 0 []))), .op none none (.store z3_ z13_ 2)]) .ret
abbrev QHI : AC := .cond z17_ (.seq (.run [.m 18 z4_, .m 19 z0_, .o 20 (.slen z19_), .o 21 (.build [(.int .i64 0), (.str []), (.int .i64 0), (.int .i64 0)] [(3, (1, z20_))]), .o 22 (.bslice [(.int .i64 0), (.str []), (.int .i64 0), (.int .i64 0)] 4 1 [(0, z21_)]), .o 23 (.app 4 40 z18_ z22_), .o 24 (.build [(.int .i64 0), (.int .i64 0)] []), .m 2 z23_, .op none none (.store z3_ z24_ 2)]) .ret) .skip
abbrev QHW : AC := .cond z47_ (.goto 1) (.seq (.run [.m 51 z9_, .c 52 n_lex_letter [z51_], .m 50 z52_]) (.cond z50_ (.goto 2) (.seq (.run [.m 54 z9_, .c 55 n_lex_digit [z54_], .m 53 z55_]) (.cond z53_ (.goto 3) .skip))))
abbrev QHY : AC := .cond z30_ (.seq (.run [.m 45 z6_, .o 46 (.bin .add z45_ (.k (.int .i64 1))), .m 6 z46_]) (.goto 0)) (.seq (.run [.m 48 z9_, .o 49 (.bin .eql z48_ (.k (.int .u8 35))), .m 47 z49_]) QHW)
abbrev QI0 : AC := .block 0 (.seq (.run [.m 31 z9_, .o 32 (.bin .eql z31_ (.k (.int .u8 32))), .m 33 z32_, .g 34 33 false (.mv z9_), .g 35 33 false (.bin .eql z34_ (.k (.int .u8 9))), .o 36 (.pick z33_ (.k (.bool true)) z35_), .m 37 z36_, .g 38 37 false (.mv z9_), .g 39 37 false (.bin .eql z38_ (.k (.int .u8 10))), .o 40 (.pick z37_ (.k (.bool true)) z39_), .m 41 z40_, .g 42 41 false (.mv z9_), .g 43 41 false (.bin .eql z42_ (.k (.int .u8 13))), .o 44 (.pick z41_ (.k (.bool true)) z43_), .m 30 z44_]) QHY)
abbrev QIE : AC := .seq (.seq (.run [.m 72 z6_, .m 73 z0_, .o 74 (.slen z73_), .o 75 (.bin .lss z72_ z74_), .m 76 z75_, .g 77 76 true (.mv z0_), .g 78 76 true (.mv z6_), .g 79 76 true (.sidx z77_ z78_), .g 80 76 true (.bin .neq z79_ (.k (.int .u8 10))), .o 81 (.pick z76_ z80_ (.k (.bool false)))]) (.cond z81_ .skip (.exit 1))) (.block 2 (.run [.m 82 z6_, .o 83 (.bin .add z82_ (.k (.int .i64 1))), .m 6 z83_]))
abbrev QII : AC := .par [.m 87 z0_, .o 88 (.faddr z5_ 3), .o 89 (.load z88_ false 1), .m 90 z6_, .o 91 (.sslc z87_ (some z89_) (some z90_)), .o 92 (.faddr z5_ 0), .op none none (.store z92_ (.k (.int .i64 1)) 1), .o 93 (.faddr z5_ 1), .op none none (.store z93_ z91_ 1)] [(1, 0), (2, 0), (5, 0), (6, 0), (0, 0), (3, 0), (4, 0), (7, 0), (8, 0)]
abbrev QIM : AC := .seq (.run [.o 94 (.faddr z5_ 1), .o 95 (.load z94_ false 1), .c 96 n_lex_Word [z95_]]) (.cond z96_ (.run [.o 97 (.faddr z5_ 0), .op none none (.store z97_ (.k (.int .i64 3)) 1)]) .skip)
abbrev QIW : AC := .seq (.seq (.run [.m 103 z6_, .m 104 z0_, .o 105 (.slen z104_), .o 106 (.bin .lss z103_ z105_), .m 107 z106_, .g 108 107 true (.mv z0_), .g 109 107 true (.mv z6_), .g 110 107 true (.sidx z108_ z109_), .d 111 107 true n_lex_digit [z110_], .o 112 (.pick z107_ z111_ (.k (.bool false)))]) (.cond z112_ .skip (.exit 3))) (.block 4 (.run [.m 113 z6_, .o 114 (.bin .add z113_ (.k (.int .i64 1))), .m 6 z114_]))
abbrev QIZ : AC := .par [.m 115 z0_, .o 116 (.faddr z5_ 3), .o 117 (.load z116_ false 1), .m 118 z6_, .o 119 (.sslc z115_ (some z117_) (some z118_)), .o 120 (.faddr z5_ 0), .op none none (.store z120_ (.k (.int .i64 2)) 1), .o 121 (.faddr z5_ 1), .op none none (.store z121_ z119_ 1), .o 7 (.mv (.k (.int .i64 2)))] [(1, 0), (2, 0), (5, 0), (6, 0), (0, 0), (3, 0), (4, 0), (7, 0), (8, 0), (9, 0)]
abbrev QJD : AC := .par [.m 148 z7_, .o 149 (.faddr z5_ 3), .o 150 (.load z149_ false 1), .o 151 (.build [(.int .i64 0), (.int .i64 0)] [(0, (1, z148_)), (1, (1, z150_))]), .o 2 (.mv (.k (.slice .full 0 []))), .op none none (.store z3_ z151_ 2)] [(0, 0), (1, 0), (2, 0), (3, 0), (4, 0), (5, 0)]
abbrev QJI : AC := .seq (.seq (.run [.m 141 z4_, .o 142 (.len z141_), .o 143 (.bin .eql z142_ (.k (.int .i64 2000)))]) (.cond z143_ (.goto 5) .skip)) (.seq (.run [.m 144 z4_, .o 145 (.load z5_ true 4), .o 146 (.bslice [(.int .i64 0), (.str []), (.int .i64 0), (.int .i64 0)] 4 1 [(0, z145_)]), .o 147 (.app 4 40 z144_ z146_), .m 4 z147_]) (.seq (.goto 0) (.seq (.label 5) (.seq QJD .ret))))
abbrev QJK : AC := .seq (.label 4) (.seq (.run [.o 7 (.mv (.k (.int .i64 4)))]) QJI)
abbrev QJN : AC := .seq (.run [.o 133 (.faddr z5_ 1), .o 134 (.load z133_ false 1), .c 135 n_lex_number [z134_], .m 132 z135_, .o 136 (.ext z132_ 0), .o 137 (.ext z132_ 1), .o 138 (.faddr z5_ 2), .op none none (.store z138_ z136_ 1), .m 8 z137_]) (.seq (.run [.o 7 (.mv (.k (.int .i64 4)))]) (.seq (.seq (.run [.m 139 z8_, .o 140 (.un .not z139_)]) (.cond z140_ (.goto 5) .skip)) QJK))
abbrev QJO : AC := .seq (.seq (.run [.o 122 (.faddr z5_ 1), .o 123 (.load z122_ false 1), .o 124 (.slen z123_), .o 125 (.bin .gtr z124_ (.k (.int .i64 1))), .m 126 z125_, .g 127 126 true (.faddr z5_ 1), .g 128 126 true (.load z127_ false 1), .g 129 126 true (.sidx z128_ (.k (.int .i64 0))), .g 130 126 true (.bin .eql z129_ (.k (.int .u8 48))), .o 131 (.pick z126_ z130_ (.k (.bool false)))]) (.cond z131_ (.goto 5) .skip)) QJN
abbrev QJP : AC := .seq QIZ QJO
abbrev QJT : AC := .seq (.seq (.run [.m 98 z6_, .o 99 (.faddr z5_ 3), .o 100 (.load z99_ false 1), .o 101 (.bin .sub z98_ z100_), .o 102 (.bin .gtr z101_ (.k (.int .i64 8)))]) (.cond z102_ (.goto 5) .skip)) (.seq (.goto 4) (.seq (.label 3) (.seq (.block 3 (.loop QIW)) QJP)))
abbrev QJV : AC := .seq QIM (.seq (.run [.o 7 (.mv (.k (.int .i64 4)))]) QJT)
abbrev QK1 : AC := .seq (.label 1) (.seq (.block 1 (.loop QIE)) (.seq (.goto 0) (.seq (.label 2) (.seq (.run [.m 84 z0_, .m 85 z6_, .c 86 n_lex_run [z84_, z85_], .m 6 z86_]) (.seq QII QJV)))))
abbrev QK5 : AC := .seq (.run [.m 62 z0_, .o 63 (.faddr z5_ 3), .o 64 (.load z63_ false 1), .m 65 z6_, .o 66 (.sslc z62_ (some z64_) (some z65_)), .o 67 (.faddr z5_ 1), .op none none (.store z67_ z66_ 1)]) (.seq (.run [.o 7 (.mv (.k (.int .i64 2)))]) (.seq (.seq (.run [.m 68 z6_, .o 69 (.faddr z5_ 3), .o 70 (.load z69_ false 1), .o 71 (.bin .gtr z68_ z70_)]) (.cond z71_ (.goto 4) .skip)) (.seq (.goto 5) QK1)))
abbrev QK8 : AC := .seq (.seq (.run [.m 27 z0_, .m 28 z6_, .o 29 (.sidx z27_ z28_), .m 9 z29_]) QI0) (.seq (.run [.o 56 (.faddr z5_ 0), .op none none (.store z56_ (.k (.int .i64 4)) 1)]) (.seq (.run [.m 57 z6_, .m 58 z0_, .m 59 z6_, .c 60 n_lex_sign [z58_, z59_], .o 61 (.bin .add z57_ z60_), .m 6 z61_]) QK5))
abbrev QKA : AC := .seq (.seq (.run [.m 14 z6_, .m 15 z0_, .o 16 (.slen z15_), .o 17 (.bin .geq z14_ z16_)]) QHI) (.seq (.run [.m 25 z6_, .o 26 (.build [(.int .i64 0), (.str []), (.int .i64 0), (.int .i64 0)] [(3, (1, z25_))]), .op none none (.store z5_ z26_ 4)]) QK8)
abbrev QKC : AC := .seq (.seq (.run [.m 10 z0_, .o 11 (.slen z10_), .o 12 (.bin .gtr z11_ (.k (.int .i64 100000)))]) (.cond z12_ QHC .skip)) (.seq (.label 0) QKA)
abbrev QKE : AC := .seq (.run [.o 5 (.alloc [(.int .i64 0), (.str []), (.int .i64 0), (.int .i64 0)])]) (.seq (.run [.o 6 (.mv (.k (.int .i64 0))), .o 7 (.mv (.k (.int .i64 0))), .o 8 (.mv (.k (.bool true)))]) QKC)
abbrev QKF : AC := .seq (.run [.o 4 (.mv (.k (.slice .full 0 [])))]) QKE
abbrev QKG : AC := .scope QKF
abbrev QKH : AC := .seq (.run [.o 2 (.mv (.k (.slice .full 0 []))), .o 3 (.alloc [(.int .i64 0), (.int .i64 0)])]) QKG
abbrev QKN : AC := .cond z16_ (.run [.m 17 z0_, .m 18 z3_, (.o 19 (.build [(.int .i64 0), (.int .i64 0)] [(0, (1, (.k (.int .i64 4)))), (1, (1, z18_))])), .o 20 (.nilck z17_), .o 21 (.faddr z20_ 2), .op none none (.store z21_ z19_ 2)]) .skip
abbrev QKR : AC := .seq (.seq (.run [.m 10 z0_, .c 11 n_parse_reader_good [z10_], .m 12 z11_, .g 13 12 true (.load z4_ true 4), .d 14 12 true n_parse_depth [z13_], .g 15 12 true (.bin .gtr z14_ (.k (.int .i64 20))), .o 16 (.pick z12_ z15_ (.k (.bool false)))]) QKN) (.seq (.run [.o 22 (.load z4_ true 4), .op none none (.store z2_ z22_ 4)]) .ret)
abbrev QKU : AC := .seq (.run [.o 2 (.alloc [(.int .i64 0), (.int .i64 0), (.str []), (.slice .full 0 [])])]) (.seq (.run [.m 5 z0_, .c 6 n_parse_reader_peek [z5_], .o 7 (.fld z6_ 3 false 1), .m 3 z7_]) (.seq (.run [.m 8 z0_, .c 9 n_parse_reader_two [z8_, (.k (.int .i64 1))], .o 4 (.alloc [(.int .i64 0), (.int .i64 0), (.str []), (.slice .full 0 [])]), .op none none (.store z4_ z9_ 4)]) QKR))
abbrev QKY : AC := .seq (.run [.o 2 (.mv (.k (.bool false)))]) (.seq (.run [.m 3 z0_, .o 4 (.nilck z3_), .o 5 (.faddr z4_ 2), .o 6 (.faddr z5_ 0), .o 7 (.load z6_ false 1), .o 8 (.bin .eql z7_ (.k (.int .i64 0))), .m 2 z8_]) .ret)
abbrev QL0 : AC := .par [.m 3 z0_, .o 4 (.nilck z3_), .o 5 (.faddr z4_ 0), .o 6 (.load z5_ false 1), .m 7 z0_, .o 8 (.nilck z7_), .o 9 (.faddr z8_ 1), .o 10 (.load z9_ false 1), .o 11 (.iaddr z6_ z10_ 4), .o 12 (.load z11_ true 4), .op none none (.store z2_ z12_ 4)] [(0, 0), (1, 0), (2, 0), (3, 0), (4, 0), (5, 0), (6, 0), (7, 0), (8, 0), (9, 0), (10, 0)]
abbrev QL2 : AC := .seq (.run [.o 2 (.alloc [(.int .i64 0), (.str []), (.int .i64 0), (.int .i64 0)])]) (.seq QL0 .ret)
abbrev QL6 : AC := .seq (.run [.m 4 z0_, .c 5 n_parse_reader_good [z4_]]) (.cond z5_ (.run [.m 6 z0_, .m 7 z1_, .m 8 z0_, .c 9 n_parse_reader_peek [z8_], .o 10 (.fld z9_ 3 false 1), .o 11 (.build [(.int .i64 0), (.int .i64 0)] [(0, (1, z7_)), (1, (1, z10_))]), .o 12 (.nilck z6_), .o 13 (.faddr z12_ 2), .op none none (.store z13_ z11_ 2)]) .skip)
abbrev QLE : AC := .seq (.seq (.run [.m 4 z0_, (.c 5 n_parse_reader_take [z4_, (.k (.str [103, 108, 111, 98, 97, 108]))])]) (.cond z5_ .skip (.exit 0))) (.block 1 (.run [.m 6 z0_, .o 7 (.faddr z3_ 0), .o 8 (.load z7_ false 1), .c 9 n_parse_reader_names [z6_, z8_, (.k (.int .i64 16))], .o 10 (.faddr z3_ 0), .op none none (.store z10_ z9_ 1)]))
abbrev QLQ : AC := .seq (.run [.o 17 (.faddr z3_ 1), .o 18 (.load z17_ false 1), .o 19 (.len z18_), .o 20 (.bin .eql z19_ (.k (.int .i64 16)))]) (.cond z20_ (.seq (.run [.m 21 z0_, .c 22 n_parse_reader_bad [z21_, (.k (.int .i64 4))]]) (.seq (.run [.o 23 (.load z3_ true 2), .op none none (.store z2_ z23_ 2)]) .ret)) .skip)
abbrev QLS : AC := .par [.o 31 (.faddr z3_ 1), .o 32 (.load z31_ false 1), .m 33 z0_, .c 34 n_parse_reader_proc [z33_], .o 35 (.bslice [(.str []), (.slice .full 0 []), (.slice .full 0 []), (.slice .full 0 []), (.slice .full 0 [])] 5 1 [(0, z34_)]), .o 36 (.app 5 112 z32_ z35_), .o 37 (.faddr z3_ 1), .op none none (.store z37_ z36_ 1)] [(2, 0), (3, 0), (0, 0), (1, 1), (4, 0), (5, 0), (6, 0), (7, 0)]
abbrev QLU : AC := .seq QLQ (.seq (.run [.m 24 z0_, .o 25 (.nilck z24_), .o 26 (.faddr z25_ 1), .o 27 (.load z26_ false 1), .o 28 (.bin .add z27_ (.k (.int .i64 1))), .o 29 (.nilck z24_), .o 30 (.faddr z29_ 1), .op none none (.store z30_ z28_ 1)]) QLS)
abbrev QLW : AC := .seq (.seq (.run [.m 11 z0_, .c 12 n_parse_reader_good [z11_], .m 13 z12_, .g 14 13 true (.mv z0_), (.d 15 13 true n_parse_reader_is [z14_, (.k (.str [112, 114, 111, 99]))]), .o 16 (.pick z13_ z15_ (.k (.bool false)))]) (.cond z16_ .skip (.exit 2))) (.block 3 QLU)
abbrev QM5 : AC := .seq (.seq (.run [.m 38 z0_, .c 39 n_parse_reader_good [z38_], .m 40 z39_, .g 41 40 true (.mv z0_), .d 42 40 true n_parse_reader_peek [z41_], .g 43 40 true (.fld z42_ 0 false 1), .g 44 40 true (.bin .neq z43_ (.k (.int .i64 0))), .o 45 (.pick z40_ z44_ (.k (.bool false)))]) (.cond z45_ (.run [.m 46 z0_, .c 47 n_parse_reader_bad [z46_, (.k (.int .i64 3))]]) .skip)) (.seq (.run [.o 48 (.load z3_ true 2), .op none none (.store z2_ z48_ 2)]) .ret)
abbrev QM9 : AC := .seq (.run [.o 2 (.alloc [(.slice .full 0 []), (.slice .full 0 [])])]) (.seq (.run [.o 3 (.alloc [(.slice .full 0 []), (.slice .full 0 [])])]) (.seq (.block 0 (.loop QLE)) (.seq (.block 2 (.loop QLW)) QM5)))
abbrev QMH : AC := .par [.o 19 (.faddr z6_ 0), .o 20 (.load z19_ false 1), .o 21 (.faddr z6_ 1), .o 22 (.load z21_ false 1), .c 23 n_slices_Clone_api_Param [z22_], .o 24 (.faddr z6_ 2), .o 25 (.load z24_ false 1), .c 26 n_slices_Clone_string [z25_], .o 27 (.faddr z6_ 4), .o 28 (.load z27_ false 1), .c 29 n_slices_Clone_string [z28_], .o 30 (.build [(.str []), (.slice .full 0 []), (.slice .full 0 []), (.slice .full 0 []), (.slice .full 0 [])] [(0, (1, z20_)), (1, (1, z23_)), (2, (1, z26_)), (4, (1, z29_))]), .o 7 (.alloc [(.str []), (.slice .full 0 []), (.slice .full 0 []), (.slice .full 0 []), (.slice .full 0 [])]), .op none none (.store z7_ z30_ 5)] [(2, 0), (3, 0), (4, 0), (5, 0), (6, 1), (7, 0), (8, 0), (9, 2), (10, 0), (12, 0), (0, 0), (1, 4), (11, 0), (13, 0)]
abbrev QMM : AC := .seq (.run [.o 17 (.iaddr z13_ z15_ 5), .o 18 (.load z17_ true 5), .o 6 (.alloc [(.str []), (.slice .full 0 []), (.slice .full 0 []), (.slice .full 0 []), (.slice .full 0 [])]), .op none none (.store z6_ z18_ 5)]) (.seq QMH (.seq (.run [.o 32 (.faddr z6_ 3), .o 33 (.load z32_ false 1), .m 34 z3_, .c 35 n_tree_copied [z33_, z34_, (.k (.bool true))], .m 31 z35_, .o 36 (.ext z31_ 0), .o 37 (.ext z31_ 1), .o 38 (.faddr z7_ 3), .op none none (.store z38_ z36_ 1), .m 3 z37_]) (.run [.o 39 (.faddr z4_ 1), .o 40 (.load z39_ false 1), .o 41 (.load z7_ true 5), .o 42 (.bslice [(.str []), (.slice .full 0 []), (.slice .full 0 []), (.slice .full 0 []), (.slice .full 0 [])] 5 1 [(0, z41_)]), .o 43 (.app 5 112 z40_ z42_), .o 44 (.faddr z4_ 1), .op none none (.store z44_ z43_ 1)])))
abbrev QMQ : AC := .seq (.cond z16_ .skip (.exit 0)) (.seq (.block 1 QMM) (.run [.o 45 (.bin .add z15_ (.k (.int .i64 1))), .m 15 z45_]))
abbrev QMU : AC := .seq (.run [.o 12 (.faddr z1_ 1), .o 13 (.load z12_ false 1), .o 14 (.len z13_), .o 15 (.mv (.k (.int .i64 0)))]) (.block 0 (.loop (.seq (.run [.o 16 (.bin .lss z15_ z14_)]) QMQ)))
abbrev QMZ : AC := .seq (.run [.o 3 (.mv (.k (.int .i64 0)))]) (.seq (.run [.o 8 (.faddr z1_ 0), .o 9 (.load z8_ false 1), .c 10 n_slices_Clone_string [z9_], .o 11 (.build [(.slice .full 0 []), (.slice .full 0 [])] [(0, (1, z10_))]), .o 4 (.alloc [(.slice .full 0 []), (.slice .full 0 [])]), .op none none (.store z4_ z11_ 2)]) (.seq QMU (.seq (.run [.o 46 (.load z4_ true 2), .op none none (.store z2_ z46_ 2)]) .ret)))
abbrev QN0 : AC := .seq (.run [.o 1 (.box z0_), .o 2 (.alloc [(.slice .full 0 []), (.slice .full 0 [])])]) QMZ
abbrev QN3 : AC := .seq (.run [.m 3 z0_, (.o 4 (.build [(.int .i64 0), (.int .i64 0), (.str []), (.slice .full 0 [])] [(0, (1, (.k (.int .i64 1)))), (1, (1, z3_))])), .op none none (.store z2_ z4_ 4)]) .ret
abbrev QN4 : AC := .seq (.run [.o 2 (.alloc [(.int .i64 0), (.int .i64 0), (.str []), (.slice .full 0 [])])]) QN3
abbrev QN7 : AC := .seq (.run [.m 3 z0_, (.o 4 (.build [(.int .i64 0), (.int .i64 0), (.str []), (.slice .full 0 [])] [(0, (1, (.k (.int .i64 2)))), (2, (1, z3_))])), .op none none (.store z2_ z4_ 4)]) .ret
abbrev QN8 : AC := .seq (.run [.o 2 (.alloc [(.int .i64 0), (.int .i64 0), (.str []), (.slice .full 0 [])])]) QN7
abbrev QNC : AC := .seq (.run [.o 4 (.box z1_), .o 5 (.box z2_), .o 6 (.alloc [(.int .i64 0), (.int .i64 0), (.str []), (.slice .full 0 [])])]) (.seq (.run [.m 7 z0_, .o 8 (.load z4_ true 4), .o 9 (.load z5_ true 4), .o 10 (.bslice [(.int .i64 0), (.int .i64 0), (.str []), (.slice .full 0 [])] 4 2 [(0, z8_), (1, z9_)]), .o 11 (.build [(.int .i64 0), (.int .i64 0), (.str []), (.slice .full 0 [])] [(0, (1, z7_)), (3, (1, z10_))]), .op none none (.store z6_ z11_ 4)]) .ret)
abbrev QNL : AC := .cond z13_ (.seq (.run [.o 2 (.mv (.k (.bool false)))]) .ret) .skip
abbrev QNQ : AC := .seq (.block 1 (.seq (.run [.o 9 (.iaddr z5_ z7_ 1), .o 10 (.load z9_ false 1), .m 4 z10_]) (.seq (.run [.m 11 z4_, .c 12 n_lex_Name [z11_], .o 13 (.un .not z12_)]) QNL))) (.run [.o 14 (.bin .add z7_ (.k (.int .i64 1))), .m 7 z14_])
abbrev QNU : AC := .block 0 (.loop (.seq (.run [.o 8 (.bin .lss z7_ z6_)]) (.seq (.cond z8_ .skip (.exit 0)) QNQ)))
abbrev QNY : AC := .seq (.seq (.run [.m 5 z0_, .o 6 (.len z5_), .o 7 (.mv (.k (.int .i64 0)))]) QNU) (.seq (.run [.o 2 (.mv (.k (.bool true)))]) .ret)
abbrev QNZ : AC := .seq (.run [.o 2 (.mv (.k (.bool false)))]) QNY
abbrev QO4 : AC := .cond z16_ (.seq (.run [.o 2 (.mv (.k (.bool false)))]) .ret) .skip
abbrev QO8 : AC := .seq (.seq (.run [.m 3 z0_, .o 4 (.slen z3_), .o 5 (.bin .lss z4_ (.k (.int .i64 1))), .m 6 z5_, .g 7 6 false (.mv z0_), .g 8 6 false (.slen z7_), .g 9 6 false (.bin .gtr z8_ (.k (.int .i64 8))), .o 10 (.pick z6_ (.k (.bool true)) z9_), .m 11 z10_, .g 12 11 false (.mv z0_), .g 13 11 false (.sidx z12_ (.k (.int .i64 0))), .d 14 11 false n_lex_letter [z13_], .g 15 11 false (.un .not z14_), .o 16 (.pick z11_ (.k (.bool true)) z15_)]) QO4) (.seq (.run [.m 17 z0_, .c 18 n_lex_run [z17_, (.k (.int .i64 0))], .m 19 z0_, .o 20 (.slen z19_), .o 21 (.bin .eql z18_ z20_), .m 22 z21_, .g 23 22 true (.mv z0_), .d 24 22 true n_lex_Word [z23_], .g 25 22 true (.un .not z24_), .o 26 (.pick z22_ z25_ (.k (.bool false))), .m 2 z26_]) .ret)
abbrev QO9 : AC := .seq (.run [.o 2 (.mv (.k (.bool false)))]) QO8
abbrev QOE : AC := .cond z15_ (.seq (.run [.o 6 (.mv (.k (.bool false)))]) .ret) .skip
abbrev QOL : AC := .par [.m 29 z0_, .o 30 (.nilck z29_), .o 31 (.faddr z30_ 0), .o 32 (.load z31_ false 1), .o 33 (.bin .gtr z32_ (.k (.int .i64 200))), .m 34 z33_, .g 35 34 false (.faddr z8_ 0), .g 36 34 false (.load z35_ false 1), .g 37 34 false (.mv z0_), .g 38 34 false (.nilck z37_), .g 39 34 false (.faddr z38_ 0), .g 40 34 false (.load z39_ false 1), .g 41 34 false (.bin .neq z36_ z40_), .o 42 (.pick z34_ (.k (.bool true)) z41_), .m 43 z42_, .g 44 43 false (.faddr z8_ 2), .g 45 43 false (.load z44_ false 1), .d 46 43 false n_tree_names [z45_], .g 47 43 false (.un .not z46_), .o 48 (.pick z43_ (.k (.bool true)) z47_), .m 49 z48_, .g 50 49 false (.load z8_ true 13), .d 51 49 false n_tree_fields [z50_], .g 52 49 false (.un .not z51_), .o 53 (.pick z49_ (.k (.bool true)) z52_)] [(0, 0), (1, 0), (2, 0), (3, 0), (4, 0), (5, 0), (6, 0), (7, 0), (8, 0), (9, 0), (10, 0), (11, 0), (12, 0), (13, 0), (14, 0), (15, 0), (16, 0), (17, 0), (18, 0), (19, 0), (20, 0), (21, 0), (22, 0), (23, 0), (24, 0)]
abbrev QOO : AC := .cond z53_ (.seq (.run [.o 6 (.mv (.k (.bool false)))]) .ret) .skip
abbrev QOT : AC := .cond z69_ (.seq (.run [.o 6 (.mv (.k (.bool false)))]) .ret) .skip
abbrev QOV : AC := .seq (.seq QOL QOO) (.seq (.run [.m 54 z0_, .o 55 (.faddr z8_ 11), .o 56 (.load z55_ false 1), .m 57 z2_, .o 58 (.bin .add z57_ (.k (.int .i64 1))), .c 59 n_tree_looker_rows [z54_, z56_, z58_], .o 60 (.un .not z59_), .m 61 z60_, .g 62 61 false (.mv z0_), .g 63 61 false (.faddr z8_ 12), .g 64 61 false (.load z63_ false 1), .g 65 61 false (.mv z2_), .g 66 61 false (.bin .add z65_ (.k (.int .i64 1))), .d 67 61 false n_tree_looker_rows [z62_, z64_, z66_], .g 68 61 false (.un .not z67_), .o 69 (.pick z61_ (.k (.bool true)) z68_)]) QOT)
abbrev QOX : AC := .seq (.run [.o 20 (.iaddr z16_ z18_ 13), .o 21 (.load z20_ true 13), .o 8 (.alloc [(.int .i64 0), (.int .i64 0), (.slice .full 0 []), (.str []), (.str []), (.int .i64 0), (.int .i64 0), (.str []), (.slice .full 0 []), (.bool false), (.slice .full 0 []), (.slice .full 0 []), (.slice .full 0 [])]), .op none none (.store z8_ z21_ 13)]) (.seq (.run [.m 22 z0_, .o 23 (.nilck z22_), .o 24 (.faddr z23_ 0), .o 25 (.load z24_ false 1), .o 26 (.bin .add z25_ (.k (.int .i64 1))), .o 27 (.nilck z22_), .o 28 (.faddr z27_ 0), .op none none (.store z28_ z26_ 1)]) QOV)
abbrev QP1 : AC := .seq (.cond z19_ .skip (.exit 0)) (.seq (.block 1 QOX) (.run [.o 70 (.bin .add z18_ (.k (.int .i64 1))), .m 18 z70_]))
abbrev QP5 : AC := .seq (.run [.m 16 z1_, .o 17 (.len z16_), .o 18 (.mv (.k (.int .i64 0)))]) (.block 0 (.loop (.seq (.run [.o 19 (.bin .lss z18_ z17_)]) QP1)))
abbrev QP8 : AC := .seq QP5 (.seq (.run [.o 6 (.mv (.k (.bool true)))]) .ret)
abbrev QP9 : AC := .seq (.seq (.run [.m 9 z2_, .o 10 (.bin .gtr z9_ (.k (.int .i64 12))), .m 11 z10_, .g 12 11 true (.mv z1_), .g 13 11 true (.len z12_), .g 14 11 true (.bin .gtr z13_ (.k (.int .i64 0))), .o 15 (.pick z11_ z14_ (.k (.bool false)))]) QOE) QP8
abbrev QPA : AC := .seq (.run [.o 6 (.mv (.k (.bool false)))]) QP9

end Go.Abs

/-! Have1 -/

namespace Go.Abs
open Go.Proofs

theorem has_print_writer_line : Has Tryd.prog n_print_writer_line 23 [] Q80 := ⟨Tryd.f34, by kernel_rfl, by kernel_rfl⟩
theorem has_print_ref : Has Tryd.prog n_print_ref 4 [(2, none)] Q8A := ⟨Tryd.f36, by kernel_rfl, by kernel_rfl⟩
theorem has_print_writer_rows : Has Tryd.prog n_print_writer_rows 84 [] Q9G := ⟨Tryd.f37, by kernel_rfl, by kernel_rfl⟩
theorem has_print_marks : Has Tryd.prog n_print_marks 18 [(2, none)] QA1 := ⟨Tryd.f38, by kernel_rfl, by kernel_rfl⟩
theorem has_tree_MayExpr : Has Tryd.prog n_tree_MayExpr 5 [(2, none)] QA5 := ⟨Tryd.f44, by kernel_rfl, by kernel_rfl⟩
theorem has_print_expr : Has Tryd.prog n_print_expr 66 [(4, none)] QB7 := ⟨Tryd.f45, by kernel_rfl, by kernel_rfl⟩
theorem has_ref3_names : Has Tryd.prog n_ref3_names 15 [(2, none)] QBU := ⟨Tryd.f47, by kernel_rfl, by kernel_rfl⟩
theorem has_ref1_Name : Has Tryd.prog n_ref1_Name 38 [(2, none)] QCL := ⟨Tryd.f48, by kernel_rfl, by kernel_rfl⟩
theorem has_ref3_one : Has Tryd.prog n_ref3_one 178 [(2, none)] QDW := ⟨Tryd.f50, by kernel_rfl, by kernel_rfl⟩
theorem has_ref3_EqTexts : Has Tryd.prog n_ref3_EqTexts 26 [(4, none)] QEP := ⟨Tryd.f51, by kernel_rfl, by kernel_rfl⟩
theorem has_ref3_EqStmts : Has Tryd.prog n_ref3_EqStmts 27 [(4, none)] QFI := ⟨Tryd.f52, by kernel_rfl, by kernel_rfl⟩
theorem has_ref3_deep : Has Tryd.prog n_ref3_deep 36 [(4, none)] QGC := ⟨Tryd.f53, by kernel_rfl, by kernel_rfl⟩
theorem has_ref3_form : Has Tryd.prog n_ref3_form 60 [(2, none)] QH5 := ⟨Tryd.f54, by kernel_rfl, by kernel_rfl⟩
theorem has_lex_All : Has Tryd.prog n_lex_All 152 [(2, none), (3, (some (true, 2)))] QKH := ⟨Tryd.f55, by kernel_rfl, by kernel_rfl⟩
theorem has_parse_reader_whole : Has Tryd.prog n_parse_reader_whole 23 [(2, (some (true, 4)))] QKU := ⟨Tryd.f56, by kernel_rfl, by kernel_rfl⟩
theorem has_parse_reader_good : Has Tryd.prog n_parse_reader_good 9 [(2, none)] QKY := ⟨Tryd.f57, by kernel_rfl, by kernel_rfl⟩
theorem has_parse_reader_peek : Has Tryd.prog n_parse_reader_peek 13 [(2, (some (true, 4)))] QL2 := ⟨Tryd.f58, by kernel_rfl, by kernel_rfl⟩
theorem has_parse_reader_bad : Has Tryd.prog n_parse_reader_bad 14 [] QL6 := ⟨Tryd.f59, by kernel_rfl, by kernel_rfl⟩
theorem has_parse_reader_program : Has Tryd.prog n_parse_reader_program 49 [(2, (some (true, 2)))] QM9 := ⟨Tryd.f60, by kernel_rfl, by kernel_rfl⟩
theorem has_tree_Number : Has Tryd.prog n_tree_Number 47 [(2, (some (true, 2)))] QN0 := ⟨Tryd.f61, by kernel_rfl, by kernel_rfl⟩
theorem has_ref3_num : Has Tryd.prog n_ref3_num 5 [(2, (some (true, 4)))] QN4 := ⟨Tryd.f62, by kernel_rfl, by kernel_rfl⟩
theorem has_ref3_name : Has Tryd.prog n_ref3_name 5 [(2, (some (true, 4)))] QN8 := ⟨Tryd.f63, by kernel_rfl, by kernel_rfl⟩
theorem has_ref3_two : Has Tryd.prog n_ref3_two 12 [(6, (some (true, 4)))] QNC := ⟨Tryd.f64, by kernel_rfl, by kernel_rfl⟩
theorem has_tree_names : Has Tryd.prog n_tree_names 15 [(2, none)] QNZ := ⟨Tryd.f65, by kernel_rfl, by kernel_rfl⟩
theorem has_lex_Name : Has Tryd.prog n_lex_Name 27 [(2, none)] QO9 := ⟨Tryd.f66, by kernel_rfl, by kernel_rfl⟩
theorem has_tree_looker_rows : Has Tryd.prog n_tree_looker_rows 71 [(6, none)] QPA := ⟨Tryd.f67, by kernel_rfl, by kernel_rfl⟩

end Go.Abs

/-! Codes2 -/

namespace Go.Abs

abbrev QPG : AC := .seq (.run [.m 7 z0_, .m 8 z0_, .o 9 (.nilck z8_), .o 10 (.faddr z9_ 1), .o 11 (.load z10_ false 1), .m 12 z1_, .o 13 (.bslice [(.int .u8 0)] 1 1 [(0, z12_)]), .o 14 (.appb z11_ z13_), .o 15 (.nilck z7_), .o 16 (.faddr z15_ 1), .op none none (.store z16_ z14_ 1)]) (.seq (.run [.o 4 (.mv (.k (.val .nilIface)))]) .ret)
abbrev QPI : AC := .seq (.run [.o 4 (.mv (.k (.val .nilIface)))]) (.seq (.run [.m 5 z0_, .c 6 n_strings_Builder_copyCheck [z5_]]) QPG)
abbrev QPO : AC := .seq (.run [.m 8 z0_, .m 9 z0_, .o 10 (.nilck z9_), .o 11 (.faddr z10_ 1), .o 12 (.load z11_ false 1), .m 13 z1_, .o 14 (.apps z12_ z13_), .o 15 (.nilck z8_), .o 16 (.faddr z15_ 1), .op none none (.store z16_ z14_ 1)]) (.seq (.run [.m 17 z1_, .o 18 (.slen z17_), .m 4 z18_, .o 5 (.mv (.k (.val .nilIface)))]) .ret)
abbrev QPQ : AC := .seq (.run [.o 4 (.mv (.k (.int .i64 0))), .o 5 (.mv (.k (.val .nilIface)))]) (.seq (.run [.m 6 z0_, .c 7 n_strings_Builder_copyCheck [z6_]]) QPO)
abbrev QPU : AC := .par [.o 11 (.faddr z1_ 3), .o 12 (.load z11_ false 1), .o 13 (.bin .add z12_ (.k (.str [32, 61, 32]))), .o 14 (.faddr z1_ 5), .o 15 (.load z14_ true 4), .c 16 n_print_expr [z15_, (.k (.int .i64 0))], .o 17 (.bin .add z13_ z16_), .m 2 z17_] [(3, 0), (4, 0), (5, 0), (0, 0), (1, 1), (2, 0), (6, 0), (7, 0)]
abbrev QQF : AC := .cond z41_ (.seq (.run [.o 42 (.faddr z1_ 5), .o 43 (.load z42_ true 4), .c 44 n_print_expr [z43_, (.k (.int .i64 0))], .o 45 (.bin .add (.k (.str [114, 101, 116, 117, 114, 110, 32])) z44_), .m 2 z45_]) .ret) .skip
abbrev QQJ : AC := .seq (.seq (.run [.o 40 (.faddr z1_ 9), .o 41 (.load z40_ false 1)]) QQF) (.seq (.run [.o 2 (.mv (.k (.str [114, 101, 116, 117, 114, 110])))]) .ret)
abbrev QQM : AC := .cond z33_ (.seq (.run [.o 35 (.faddr z1_ 3), .o 36 (.load z35_ false 1), .o 37 (.bin .add (.k (.str [103, 111, 116, 111, 32])) z36_), .m 2 z37_]) .ret) (.seq (.run [.o 39 (.bin .eql z8_ (.k (.int .i64 9))), .m 38 z39_]) (.cond z38_ QQJ .skip))
abbrev QQO : AC := .cond z31_ (.seq (.run [.o 2 (.mv (.k (.str [99, 111, 110, 116, 105, 110, 117, 101])))]) .ret) (.seq (.run [.o 34 (.bin .eql z8_ (.k (.int .i64 10))), .m 33 z34_]) QQM)
abbrev QQQ : AC := .cond z29_ (.seq (.run [.o 2 (.mv (.k (.str [98, 114, 101, 97, 107])))]) .ret) (.seq (.run [.o 32 (.bin .eql z8_ (.k (.int .i64 8))), .m 31 z32_]) QQO)
abbrev QQS : AC := .cond z23_ (.seq (.run [.o 25 (.faddr z1_ 5), .o 26 (.load z25_ true 4), .c 27 n_print_expr [z26_, (.k (.int .i64 0))], .o 28 (.bin .add (.k (.str [112, 114, 105, 110, 116, 32])) z27_), .m 2 z28_]) .ret) (.seq (.run [.o 30 (.bin .eql z8_ (.k (.int .i64 7))), .m 29 z30_]) QQQ)
abbrev QQU : AC := .cond z18_ (.seq (.run [.o 20 (.faddr z1_ 3), .o 21 (.load z20_ false 1), .o 22 (.bin .add (.k (.str [114, 101, 97, 100, 32])) z21_), .m 2 z22_]) .ret) (.seq (.run [.o 24 (.bin .eql z8_ (.k (.int .i64 3))), .m 23 z24_]) QQS)
abbrev QQW : AC := .cond z9_ (.seq QPU .ret) (.seq (.run [.o 19 (.bin .eql z8_ (.k (.int .i64 2))), .m 18 z19_]) QQU)
abbrev QQY : AC := .block 0 (.seq (.run [.o 10 (.bin .eql z8_ (.k (.int .i64 1))), .m 9 z10_]) QQW)
abbrev QR6 : AC := .par [.m 55 z3_, .c 56 n_print_ref [(.k (.bool true))], .o 57 (.faddr z5_ 1), .o 58 (.load z57_ false 1), .o 59 (.bin .add z56_ z58_), .o 60 (.bslice [(.str [])] 1 1 [(0, z59_)]), .o 61 (.app 1 16 z55_ z60_), .m 3 z61_] [(1, 0), (0, 0), (2, 0), (3, 1), (4, 0), (5, 0), (6, 0), (7, 0)]
abbrev QRA : AC := .seq (.run [.o 51 (.iaddr z47_ z49_ 6), .o 52 (.load z51_ true 6), .o 5 (.alloc [(.bool false), (.str []), (.int .i64 0), (.int .i64 0), (.str []), (.slice .full 0 [])]), .op none none (.store z5_ z52_ 6)]) (.seq (.run [.o 53 (.faddr z5_ 0), .o 54 (.load z53_ false 1)]) (.cond z54_ QR6 (.run [.m 62 z3_, .o 63 (.faddr z5_ 2), .o 64 (.load z63_ true 4), .c 65 n_print_expr [z64_, (.k (.int .i64 0))], .o 66 (.bslice [(.str [])] 1 1 [(0, z65_)]), .o 67 (.app 1 16 z62_ z66_), .m 3 z67_])))
abbrev QRE : AC := .seq (.cond z50_ .skip (.exit 1)) (.seq (.block 2 QRA) (.run [.o 68 (.bin .add z49_ (.k (.int .i64 1))), .m 49 z68_]))
abbrev QRI : AC := .seq (.run [.o 46 (.faddr z1_ 10), .o 47 (.load z46_ false 1), .o 48 (.len z47_), .o 49 (.mv (.k (.int .i64 0)))]) (.block 1 (.loop (.seq (.run [.o 50 (.bin .lss z49_ z48_)]) QRE)))
abbrev QRJ : AC := .par [.o 69 (.faddr z1_ 4), .o 70 (.load z69_ false 1), .o 71 (.bin .add z70_ (.k (.str [40]))), .m 72 z3_, (.c 73 n_strings_Join [z72_, (.k (.str [44, 32]))]), .o 74 (.bin .add z71_ z73_), .o 75 (.bin .add z74_ (.k (.str [41]))), .m 6 z75_] [(3, 0), (4, 0), (0, 0), (1, 1), (2, 0), (5, 0), (6, 0), (7, 0)]
abbrev QRN : AC := .cond z78_ (.seq (.run [.o 79 (.faddr z1_ 3), .o 80 (.load z79_ false 1), .o 81 (.bin .add z80_ (.k (.str [32, 61, 32]))), .m 82 z6_, .o 83 (.bin .add z81_ z82_), .m 2 z83_]) .ret) .skip
abbrev QRR : AC := .seq (.seq (.run [.o 76 (.faddr z1_ 3), .o 77 (.load z76_ false 1), .o 78 (.bin .neq z77_ (.k (.str [])))]) QRN) (.seq (.run [.m 84 z6_, .m 2 z84_]) .ret)
abbrev QRV : AC := .seq (.seq (.run [.o 7 (.faddr z1_ 1), .o 8 (.load z7_ false 1)]) QQY) (.seq (.run [.o 3 (.mv (.k (.slice .full 0 [])))]) (.seq QRI (.seq QRJ QRR)))
abbrev QRW : AC := .seq (.run [.o 1 (.box z0_), .o 2 (.mv (.k (.str [])))]) QRV
abbrev QRY : AC := .par [.m 7 z1_, .o 8 (.bin .lss z7_ (.k (.int .i64 1))), .m 9 z8_, .g 10 9 false (.faddr z2_ 3), .g 11 9 false (.load z10_ false 1), .g 12 9 false (.len z11_), .g 13 9 false (.faddr z2_ 0), .g 14 9 false (.load z13_ false 1), .d 15 9 false n_tree_kids [z14_], .g 16 9 false (.bin .neq z12_ z15_), .o 17 (.pick z9_ (.k (.bool true)) z16_)] [(0, 0), (1, 0), (2, 0), (6, 0), (7, 0), (8, 0), (3, 0), (4, 1), (5, 0), (9, 0), (10, 0)]
abbrev QS1 : AC := .cond z17_ (.seq (.run [.o 4 (.mv (.k (.bool false)))]) .ret) .skip
abbrev QSA : AC := .cond z30_ (.seq (.run [.o 32 (.faddr z2_ 1), .o 33 (.load z32_ false 1), .o 34 (.bin .eql z33_ (.k (.int .i64 0))), .m 35 z34_, .g 36 35 true (.faddr z2_ 2), .g 37 35 true (.load z36_ false 1), .d 38 35 true n_lex_Name [z37_], .o 39 (.pick z35_ z38_ (.k (.bool false))), .m 4 z39_]) .ret) .skip
abbrev QSC : AC := .cond z20_ (.seq (.run [.o 22 (.faddr z2_ 1), .o 23 (.load z22_ false 1), .o 24 (.bin .geq z23_ (.k (.int .i64 0))), .m 25 z24_, .g 26 25 true (.faddr z2_ 2), .g 27 25 true (.load z26_ false 1), .g 28 25 true (.bin .eql z27_ (.k (.str []))), .o 29 (.pick z25_ z28_ (.k (.bool false))), .m 4 z29_]) .ret) (.seq (.run [.o 31 (.bin .eql z19_ (.k (.int .i64 2))), .m 30 z31_]) QSA)
abbrev QSE : AC := .block 0 (.seq (.run [.o 21 (.bin .eql z19_ (.k (.int .i64 1))), .m 20 z21_]) QSC)
abbrev QSJ : AC := .cond z47_ (.seq (.run [.o 4 (.mv (.k (.bool false)))]) .ret) .skip
abbrev QSS : AC := .cond z59_ (.seq (.run [.o 4 (.mv (.k (.bool false)))]) .ret) .skip
abbrev QSU : AC := .seq (.run [.o 53 (.iaddr z49_ z51_ 4), .o 54 (.load z53_ true 4), .o 6 (.alloc [(.int .i64 0), (.int .i64 0), (.str []), (.slice .full 0 [])]), .op none none (.store z6_ z54_ 4)]) (.seq (.run [.o 55 (.load z6_ true 4), .m 56 z1_, .o 57 (.bin .sub z56_ (.k (.int .i64 1))), .c 58 n_tree_deep [z55_, z57_], .o 59 (.un .not z58_)]) QSS)
abbrev QSY : AC := .seq (.cond z52_ .skip (.exit 1)) (.seq (.block 2 QSU) (.run [.o 60 (.bin .add z51_ (.k (.int .i64 1))), .m 51 z60_]))
abbrev QT2 : AC := .seq (.run [.o 48 (.faddr z2_ 3), .o 49 (.load z48_ false 1), .o 50 (.len z49_), .o 51 (.mv (.k (.int .i64 0)))]) (.block 1 (.loop (.seq (.run [.o 52 (.bin .lss z51_ z50_)]) QSY)))
abbrev QT5 : AC := .seq QT2 (.seq (.run [.o 4 (.mv (.k (.bool true)))]) .ret)
abbrev QT6 : AC := .seq (.seq (.run [.o 40 (.faddr z2_ 1), .o 41 (.load z40_ false 1), .o 42 (.bin .neq z41_ (.k (.int .i64 0))), .m 43 z42_, .g 44 43 false (.faddr z2_ 2), .g 45 43 false (.load z44_ false 1), .g 46 43 false (.bin .neq z45_ (.k (.str []))), .o 47 (.pick z43_ (.k (.bool true)) z46_)]) QSJ) QT5
abbrev QT9 : AC := .seq (.run [.o 2 (.box z0_), .o 4 (.mv (.k (.bool false)))]) (.seq (.seq QRY QS1) (.seq (.seq (.run [.o 18 (.faddr z2_ 0), .o 19 (.load z18_ false 1)]) QSE) QT6))
abbrev QUF : AC := .cond z29_ (.seq (.run [.o 2 (.mv (.k (.str [37]))), .o 3 (.mv (.k (.int .i64 6)))]) .ret) .skip
abbrev QUH : AC := .cond z27_ (.seq (.run [.o 2 (.mv (.k (.str [47]))), .o 3 (.mv (.k (.int .i64 6)))]) .ret) (.seq (.run [.o 30 (.bin .eql z4_ (.k (.int .i64 7))), .m 29 z30_]) QUF)
abbrev QUJ : AC := .cond z25_ (.seq (.run [.o 2 (.mv (.k (.str [42]))), .o 3 (.mv (.k (.int .i64 6)))]) .ret) (.seq (.run [.o 28 (.bin .eql z4_ (.k (.int .i64 6))), .m 27 z28_]) QUH)
abbrev QUL : AC := .cond z23_ (.seq (.run [.o 2 (.mv (.k (.str [45]))), .o 3 (.mv (.k (.int .i64 5)))]) .ret) (.seq (.run [.o 26 (.bin .eql z4_ (.k (.int .i64 5))), .m 25 z26_]) QUJ)
abbrev QUN : AC := .cond z21_ (.seq (.run [.o 2 (.mv (.k (.str [43]))), .o 3 (.mv (.k (.int .i64 5)))]) .ret) (.seq (.run [.o 24 (.bin .eql z4_ (.k (.int .i64 9))), .m 23 z24_]) QUL)
abbrev QUP : AC := .cond z19_ (.seq (.run [.o 2 (.mv (.k (.str [62, 61]))), .o 3 (.mv (.k (.int .i64 4)))]) .ret) (.seq (.run [.o 22 (.bin .eql z4_ (.k (.int .i64 8))), .m 21 z22_]) QUN)
abbrev QUR : AC := .cond z17_ (.seq (.run [.o 2 (.mv (.k (.str [62]))), .o 3 (.mv (.k (.int .i64 4)))]) .ret) (.seq (.run [.o 20 (.bin .eql z4_ (.k (.int .i64 13))), .m 19 z20_]) QUP)
abbrev QUT : AC := .cond z15_ (.seq (.run [.o 2 (.mv (.k (.str [60, 61]))), .o 3 (.mv (.k (.int .i64 4)))]) .ret) (.seq (.run [.o 18 (.bin .eql z4_ (.k (.int .i64 12))), .m 17 z18_]) QUR)
abbrev QUV : AC := .cond z13_ (.seq (.run [.o 2 (.mv (.k (.str [60]))), .o 3 (.mv (.k (.int .i64 4)))]) .ret) (.seq (.run [.o 16 (.bin .eql z4_ (.k (.int .i64 11))), .m 15 z16_]) QUT)
abbrev QUX : AC := .cond z11_ (.seq (.run [.o 2 (.mv (.k (.str [33, 61]))), .o 3 (.mv (.k (.int .i64 3)))]) .ret) (.seq (.run [.o 14 (.bin .eql z4_ (.k (.int .i64 10))), .m 13 z14_]) QUV)
abbrev QUZ : AC := .cond z9_ (.seq (.run [.o 2 (.mv (.k (.str [61, 61]))), .o 3 (.mv (.k (.int .i64 3)))]) .ret) (.seq (.run [.o 12 (.bin .eql z4_ (.k (.int .i64 15))), .m 11 z12_]) QUX)
abbrev QV1 : AC := .cond z7_ (.seq (.run [.o 2 (.mv (.k (.str [38, 38]))), .o 3 (.mv (.k (.int .i64 2)))]) .ret) (.seq (.run [.o 10 (.bin .eql z4_ (.k (.int .i64 14))), .m 9 z10_]) QUZ)
abbrev QV3 : AC := .cond z5_ (.seq (.run [.o 2 (.mv (.k (.str [124, 124]))), .o 3 (.mv (.k (.int .i64 1)))]) .ret) (.seq (.run [.o 8 (.bin .eql z4_ (.k (.int .i64 16))), .m 7 z8_]) QV1)
abbrev QV5 : AC := .block 0 (.seq (.run [.o 6 (.bin .eql z4_ (.k (.int .i64 17))), .m 5 z6_]) QV3)
abbrev QV9 : AC := .seq (.seq (.run [.m 4 z0_]) QV5) (.seq (.run [.o 2 (.mv (.k (.str []))), .o 3 (.mv (.k (.int .i64 7)))]) .ret)
abbrev QVA : AC := .seq (.run [.o 2 (.mv (.k (.str []))), .o 3 (.mv (.k (.int .i64 0)))]) QV9
abbrev QVL : AC := .cond z17_ (.seq (.run [.o 2 (.mv (.k (.int .i64 2)))]) .ret) .skip
abbrev QVN : AC := .cond z10_ (.seq (.run [.o 2 (.mv (.k (.int .i64 1)))]) .ret) (.seq (.run [.m 18 z0_, .o 19 (.bin .geq z18_ (.k (.int .i64 5))), .m 20 z19_, .g 21 20 true (.mv z0_), .g 22 20 true (.bin .leq z21_ (.k (.int .i64 17))), .o 23 (.pick z20_ z22_ (.k (.bool false))), .m 17 z23_]) QVL)
abbrev QVP : AC := .cond z3_ (.seq (.run [.o 2 (.mv (.k (.int .i64 0)))]) .ret) (.seq (.run [.m 11 z0_, .o 12 (.bin .eql z11_ (.k (.int .i64 3))), .m 13 z12_, .g 14 13 false (.mv z0_), .g 15 13 false (.bin .eql z14_ (.k (.int .i64 4))), .o 16 (.pick z13_ (.k (.bool true)) z15_), .m 10 z16_]) QVN)
abbrev QVR : AC := .block 0 (.seq (.run [.m 4 z0_, .o 5 (.bin .eql z4_ (.k (.int .i64 1))), .m 6 z5_, .g 7 6 false (.mv z0_), .g 8 6 false (.bin .eql z7_ (.k (.int .i64 2))), .o 9 (.pick z6_ (.k (.bool true)) z8_), .m 3 z9_]) QVP)
abbrev QVT : AC := .seq (.run [(.o 2 (.mv (.k (.int .i64 (-1)))))]) .ret
abbrev QVV : AC := .seq (.run [.o 2 (.mv (.k (.int .i64 0)))]) (.seq QVR QVT)
abbrev QVZ : AC := .seq (.run [.o 2 (.mv (.k (.bool false)))]) (.seq (.run [.m 3 z0_, .o 4 (.bin .geq z3_ (.k (.int .u8 97))), .m 5 z4_, .g 6 5 true (.mv z0_), .g 7 5 true (.bin .leq z6_ (.k (.int .u8 122))), .o 8 (.pick z5_ z7_ (.k (.bool false))), .m 2 z8_]) .ret)
abbrev QW3 : AC := .seq (.run [.o 2 (.mv (.k (.bool false)))]) (.seq (.run [.m 3 z0_, .o 4 (.bin .geq z3_ (.k (.int .u8 48))), .m 5 z4_, .g 6 5 true (.mv z0_), .g 7 5 true (.bin .leq z6_ (.k (.int .u8 57))), .o 8 (.pick z5_ z7_ (.k (.bool false))), .m 2 z8_]) .ret)
abbrev QWC : AC := .cond z13_ (.seq (.run [.o 2 (.mv (.k (.bool true)))]) .ret) .skip
abbrev QWH : AC := .seq (.block 1 (.seq (.run [.o 9 (.iaddr z5_ z7_ 1), .o 10 (.load z9_ false 1), .m 4 z10_]) (.seq (.run [.m 11 z4_, .m 12 z0_, .o 13 (.bin .eql z11_ z12_)]) QWC))) (.run [.o 14 (.bin .add z7_ (.k (.int .i64 1))), .m 7 z14_])
abbrev QWL : AC := .block 0 (.loop (.seq (.run [.o 8 (.bin .lss z7_ z6_)]) (.seq (.cond z8_ .skip (.exit 0)) QWH)))
abbrev QWP : AC := .seq (.seq (.run [.c 5 n_ref1_Words [], .o 6 (.len z5_), .o 7 (.mv (.k (.int .i64 0)))]) QWL) (.seq (.run [.o 2 (.mv (.k (.bool false)))]) .ret)
abbrev QWQ : AC := .seq (.run [.o 2 (.mv (.k (.bool false)))]) QWP
abbrev QWU : AC := .seq (.run [.o 1 (.box z0_), .o 2 (.mv (.k (.bool false)))]) (.seq (.run [.o 3 (.faddr z1_ 0), .o 4 (.load z3_ false 1), .o 5 (.bin .eql z4_ (.k (.int .i64 0))), .m 6 z5_, .g 7 6 true (.faddr z1_ 1), .g 8 6 true (.load z7_ false 1), .g 9 6 true (.bin .eql z8_ (.k (.int .i64 0))), .o 10 (.pick z6_ z9_ (.k (.bool false))), .m 11 z10_, .g 12 11 true (.faddr z1_ 2), .g 13 11 true (.load z12_ false 1), .g 14 11 true (.bin .eql z13_ (.k (.str []))), .o 15 (.pick z11_ z14_ (.k (.bool false))), .m 16 z15_, .g 17 16 true (.faddr z1_ 3), .g 18 16 true (.load z17_ false 1), .g 19 16 true (.len z18_), .g 20 16 true (.bin .eql z19_ (.k (.int .i64 0))), .o 21 (.pick z16_ z20_ (.k (.bool false))), .m 2 z21_]) .ret)
abbrev QWZ : AC := .cond z4_ (.seq (.run [.o 5 (.faddr z1_ 1), .o 6 (.load z5_ false 1), .c 7 n_ref1_Name [z6_], .m 8 z7_, .g 9 8 true (.faddr z1_ 2), .g 10 8 true (.load z9_ true 4), .d 11 8 true n_ref3_none [z10_], .o 12 (.pick z8_ z11_ (.k (.bool false))), .m 2 z12_]) .ret) .skip
abbrev QX3 : AC := .seq (.seq (.run [.o 3 (.faddr z1_ 0), .o 4 (.load z3_ false 1)]) QWZ) (.seq (.run [.o 13 (.faddr z1_ 1), .o 14 (.load z13_ false 1), .o 15 (.bin .eql z14_ (.k (.str []))), .m 16 z15_, .g 17 16 true (.faddr z1_ 2), .g 18 16 true (.load z17_ true 4), .d 19 16 true n_ref3_MayExpr [z18_], .o 20 (.pick z16_ z19_ (.k (.bool false))), .m 2 z20_]) .ret)
abbrev QX4 : AC := .seq (.run [.o 1 (.box z0_), .o 2 (.mv (.k (.bool false)))]) QX3
abbrev QX6 : AC := .run [.o 6 (.faddr z2_ 0), .o 7 (.load z6_ false 1), .o 8 (.faddr z3_ 0), .o 9 (.load z8_ false 1), .o 10 (.bin .neq z7_ z9_), .m 11 z10_, .g 12 11 false (.faddr z2_ 1), .g 13 11 false (.load z12_ false 1), .g 14 11 false (.faddr z3_ 1), .g 15 11 false (.load z14_ false 1), .g 16 11 false (.bin .neq z13_ z15_), .o 17 (.pick z11_ (.k (.bool true)) z16_), .m 18 z17_, .g 19 18 false (.faddr z2_ 3), .g 20 18 false (.load z19_ false 1), .g 21 18 false (.faddr z3_ 3), .g 22 18 false (.load z21_ false 1), .g 23 18 false (.bin .neq z20_ z22_), .o 24 (.pick z18_ (.k (.bool true)) z23_), .m 25 z24_, .g 26 25 false (.faddr z2_ 4), .g 27 25 false (.load z26_ false 1), .g 28 25 false (.faddr z3_ 4), .g 29 25 false (.load z28_ false 1), .g 30 25 false (.bin .neq z27_ z29_), .o 31 (.pick z25_ (.k (.bool true)) z30_), .m 32 z31_, .g 33 32 false (.faddr z2_ 9), .g 34 32 false (.load z33_ false 1), .g 35 32 false (.faddr z3_ 9), .g 36 32 false (.load z35_ false 1), .g 37 32 false (.eqb true z34_ z36_), .o 38 (.pick z32_ (.k (.bool true)) z37_), .m 39 z38_, .g 40 39 false (.faddr z2_ 2), .g 41 39 false (.load z40_ false 1), .g 42 39 false (.faddr z3_ 2), .g 43 39 false (.load z42_ false 1), .d 44 39 false n_ref3_EqTexts [z41_, z43_], .g 45 39 false (.un .not z44_), .o 46 (.pick z39_ (.k (.bool true)) z45_), .m 47 z46_, .g 48 47 false (.faddr z2_ 5), .g 49 47 false (.load z48_ true 4), .g 50 47 false (.faddr z3_ 5), .g 51 47 false (.load z50_ true 4), .d 52 47 false n_ref3_EqExpr [z49_, z51_], .g 53 47 false (.un .not z52_), .o 54 (.pick z47_ (.k (.bool true)) z53_), .m 55 z54_, .g 56 55 false (.faddr z2_ 10), .g 57 55 false (.load z56_ false 1), .g 58 55 false (.len z57_), .g 59 55 false (.faddr z3_ 10), .g 60 55 false (.load z59_ false 1), .g 61 55 false (.len z60_), .g 62 55 false (.bin .neq z58_ z61_), .o 63 (.pick z55_ (.k (.bool true)) z62_)]
abbrev QX9 : AC := .cond z63_ (.seq (.run [.o 4 (.mv (.k (.bool false)))]) .ret) .skip
abbrev QXF : AC := .par [.o 70 (.faddr z2_ 10), .o 71 (.load z70_ false 1), .m 72 z5_, .o 73 (.iaddr z71_ z72_ 6), .o 74 (.faddr z73_ 0), .o 75 (.load z74_ false 1), .o 76 (.faddr z3_ 10), .o 77 (.load z76_ false 1), .m 78 z5_, .o 79 (.iaddr z77_ z78_ 6), .o 80 (.faddr z79_ 0), .o 81 (.load z80_ false 1), .o 82 (.eqb true z75_ z81_), .m 83 z82_, .g 84 83 false (.faddr z2_ 10), .g 85 83 false (.load z84_ false 1), .g 86 83 false (.mv z5_), .g 87 83 false (.iaddr z85_ z86_ 6), .g 88 83 false (.faddr z87_ 1), .g 89 83 false (.load z88_ false 1), .g 90 83 false (.faddr z3_ 10), .g 91 83 false (.load z90_ false 1), .g 92 83 false (.mv z5_), .g 93 83 false (.iaddr z91_ z92_ 6), .g 94 83 false (.faddr z93_ 1), .g 95 83 false (.load z94_ false 1), .g 96 83 false (.bin .neq z89_ z95_), .o 97 (.pick z83_ (.k (.bool true)) z96_), .m 98 z97_, .g 99 98 false (.faddr z2_ 10), .g 100 98 false (.load z99_ false 1), .g 101 98 false (.mv z5_), .g 102 98 false (.iaddr z100_ z101_ 6), .g 103 98 false (.faddr z102_ 2), .g 104 98 false (.load z103_ true 4), .g 105 98 false (.faddr z3_ 10), .g 106 98 false (.load z105_ false 1), .g 107 98 false (.mv z5_), .g 108 98 false (.iaddr z106_ z107_ 6), .g 109 98 false (.faddr z108_ 2), .g 110 98 false (.load z109_ true 4), .d 111 98 false n_ref3_EqExpr [z104_, z110_], .g 112 98 false (.un .not z111_), .o 113 (.pick z98_ (.k (.bool true)) z112_)] [(0, 0), (1, 0), (2, 0), (3, 0), (4, 0), (5, 0), (6, 0), (7, 0), (8, 0), (9, 0), (10, 0), (11, 0), (12, 0), (13, 0), (14, 0), (15, 0), (16, 0), (17, 0), (18, 0), (19, 0), (20, 0), (21, 0), (22, 0), (23, 0), (24, 0), (25, 0), (26, 0), (27, 0), (28, 0), (29, 0), (30, 0), (31, 0), (32, 0), (33, 0), (34, 0), (35, 0), (36, 0), (37, 0), (38, 0), (39, 0), (40, 0), (41, 0), (42, 0), (43, 0)]
abbrev QXI : AC := .cond z113_ (.seq (.run [.o 4 (.mv (.k (.bool false)))]) .ret) .skip
abbrev QXO : AC := .seq (.cond z68_ .skip (.exit 0)) (.seq (.block 1 (.seq (.run [.m 69 z67_, .m 5 z69_]) (.seq QXF QXI))) (.run [.o 114 (.bin .add z67_ (.k (.int .i64 1))), .m 67 z114_]))
abbrev QXS : AC := .seq (.run [.o 64 (.faddr z2_ 10), .o 65 (.load z64_ false 1), .o 66 (.len z65_), .o 67 (.mv (.k (.int .i64 0)))]) (.block 0 (.loop (.seq (.run [.o 68 (.bin .lss z67_ z66_)]) QXO)))
abbrev QXV : AC := .seq QXS (.seq (.run [.o 115 (.faddr z2_ 11), .o 116 (.load z115_ false 1), .o 117 (.faddr z3_ 11), .o 118 (.load z117_ false 1), .c 119 n_ref3_EqStmts [z116_, z118_], .m 120 z119_, .g 121 120 true (.faddr z2_ 12), .g 122 120 true (.load z121_ false 1), .g 123 120 true (.faddr z3_ 12), .g 124 120 true (.load z123_ false 1), .d 125 120 true n_ref3_EqStmts [z122_, z124_], .o 126 (.pick z120_ z125_ (.k (.bool false))), .m 4 z126_]) .ret)
abbrev QXX : AC := .seq (.run [.o 2 (.box z0_), .o 3 (.box z1_), .o 4 (.mv (.k (.bool false)))]) (.seq (.seq QX6 QX9) QXV)
abbrev QY1 : AC := .seq (.run [.o 2 (.mv (.k (.bool false)))]) (.seq (.run [.m 3 z0_, .o 4 (.bin .geq z3_ (.k (.int .u8 97))), .m 5 z4_, .g 6 5 true (.mv z0_), .g 7 5 true (.bin .leq z6_ (.k (.int .u8 122))), .o 8 (.pick z5_ z7_ (.k (.bool false))), .m 2 z8_]) .ret)
abbrev QY5 : AC := .seq (.run [.o 2 (.mv (.k (.bool false)))]) (.seq (.run [.m 3 z0_, .o 4 (.bin .geq z3_ (.k (.int .u8 48))), .m 5 z4_, .g 6 5 true (.mv z0_), .g 7 5 true (.bin .leq z6_ (.k (.int .u8 57))), .o 8 (.pick z5_ z7_ (.k (.bool false))), .m 2 z8_]) .ret)
abbrev QYG : AC := .seq (.run [.o 20 (.bin .eql z14_ (.k (.str [38, 38]))), .m 15 z20_]) (.cond z15_ .skip (.run [.o 21 (.bin .eql z14_ (.k (.str [124, 124]))), .m 15 z21_]))
abbrev QYJ : AC := .cond z15_ .skip (.seq (.run [.o 19 (.bin .eql z14_ (.k (.str [62, 61]))), .m 15 z19_]) (.cond z15_ .skip QYG))
abbrev QYL : AC := .cond z15_ .skip (.seq (.run [.o 18 (.bin .eql z14_ (.k (.str [60, 61]))), .m 15 z18_]) QYJ)
abbrev QYN : AC := .cond z15_ .skip (.seq (.run [.o 17 (.bin .eql z14_ (.k (.str [33, 61]))), .m 15 z17_]) QYL)
abbrev QYR : AC := .cond z15_ (.seq (.run [.o 4 (.mv (.k (.int .i64 2)))]) .ret) .skip
abbrev QYS : AC := .seq (.seq (.run [.o 16 (.bin .eql z14_ (.k (.str [61, 61]))), .m 15 z16_]) QYN) QYR
abbrev QYV : AC := .cond z9_ (.seq (.run [.m 10 z0_, .m 11 z1_, .m 12 z1_, .o 13 (.bin .add z12_ (.k (.int .i64 2))), .o 14 (.sslc z10_ (some z11_) (some z13_))]) (.block 0 QYS)) .skip
abbrev QZF : AC := .seq (.run [.o 40 (.bin .eql z24_ (.k (.int .u8 47))), .m 25 z40_]) (.cond z25_ .skip (.run [.o 41 (.bin .eql z24_ (.k (.int .u8 37))), .m 25 z41_]))
abbrev QZI : AC := .cond z25_ .skip (.seq (.run [.o 39 (.bin .eql z24_ (.k (.int .u8 42))), .m 25 z39_]) (.cond z25_ .skip QZF))
abbrev QZK : AC := .cond z25_ .skip (.seq (.run [.o 38 (.bin .eql z24_ (.k (.int .u8 45))), .m 25 z38_]) QZI)
abbrev QZM : AC := .cond z25_ .skip (.seq (.run [.o 37 (.bin .eql z24_ (.k (.int .u8 43))), .m 25 z37_]) QZK)
abbrev QZO : AC := .cond z25_ .skip (.seq (.run [.o 36 (.bin .eql z24_ (.k (.int .u8 62))), .m 25 z36_]) QZM)
abbrev QZQ : AC := .cond z25_ .skip (.seq (.run [.o 35 (.bin .eql z24_ (.k (.int .u8 60))), .m 25 z35_]) QZO)
abbrev QZS : AC := .cond z25_ .skip (.seq (.run [.o 34 (.bin .eql z24_ (.k (.int .u8 33))), .m 25 z34_]) QZQ)
abbrev QZU : AC := .cond z25_ .skip (.seq (.run [.o 33 (.bin .eql z24_ (.k (.int .u8 61))), .m 25 z33_]) QZS)
abbrev QZW : AC := .cond z25_ .skip (.seq (.run [.o 32 (.bin .eql z24_ (.k (.int .u8 58))), .m 25 z32_]) QZU)
abbrev QZY : AC := .cond z25_ .skip (.seq (.run [.o 31 (.bin .eql z24_ (.k (.int .u8 59))), .m 25 z31_]) QZW)
abbrev Q100 : AC := .cond z25_ .skip (.seq (.run [.o 30 (.bin .eql z24_ (.k (.int .u8 44))), .m 25 z30_]) QZY)
abbrev Q102 : AC := .cond z25_ .skip (.seq (.run [.o 29 (.bin .eql z24_ (.k (.int .u8 125))), .m 25 z29_]) Q100)
abbrev Q104 : AC := .cond z25_ .skip (.seq (.run [.o 28 (.bin .eql z24_ (.k (.int .u8 123))), .m 25 z28_]) Q102)
abbrev Q106 : AC := .cond z25_ .skip (.seq (.run [.o 27 (.bin .eql z24_ (.k (.int .u8 41))), .m 25 z27_]) Q104)
abbrev Q10A : AC := .cond z25_ (.seq (.run [.o 4 (.mv (.k (.int .i64 1)))]) .ret) .skip
abbrev Q10B : AC := .seq (.seq (.run [.o 26 (.bin .eql z24_ (.k (.int .u8 40))), .m 25 z26_]) Q106) Q10A
abbrev Q10G : AC := .seq (.seq (.run [.m 22 z0_, .m 23 z1_, .o 24 (.sidx z22_ z23_)]) (.block 1 Q10B)) (.seq (.run [.o 4 (.mv (.k (.int .i64 0)))]) .ret)
abbrev Q10H : AC := .seq (.seq (.run [.m 5 z1_, .o 6 (.bin .add z5_ (.k (.int .i64 1))), .m 7 z0_, .o 8 (.slen z7_), .o 9 (.bin .lss z6_ z8_)]) QYV) Q10G
abbrev Q10I : AC := .seq (.run [.o 4 (.mv (.k (.int .i64 0)))]) Q10H
abbrev Q10P : AC := .seq (.seq (.run [.m 5 z1_, .m 6 z0_, .o 7 (.slen z6_), .o 8 (.bin .lss z5_ z7_), .m 9 z8_, .g 10 9 true (.mv z0_), .g 11 9 true (.mv z1_), .g 12 9 true (.sidx z10_ z11_), .d 13 9 true n_lex_letter [z12_], .g 14 9 true (.mv z13_), .g 15 14 false (.mv z0_), .g 16 14 false (.mv z1_), .g 17 14 false (.sidx z15_ z16_), .d 18 14 false n_lex_digit [z17_], .g 19 9 true (.pick z14_ (.k (.bool true)) z18_), .o 20 (.pick z9_ z19_ (.k (.bool false)))]) (.cond z20_ .skip (.exit 0))) (.block 1 (.run [.m 21 z1_, .o 22 (.bin .add z21_ (.k (.int .i64 1))), .m 1 z22_]))
abbrev Q10V : AC := .seq (.run [.o 4 (.mv (.k (.int .i64 0)))]) (.seq (.block 0 (.loop Q10P)) (.seq (.run [.m 23 z1_, .m 4 z23_]) .ret))
abbrev Q11C : AC := .seq (.run [.o 16 (.bin .eql z3_ (.k (.str [114, 101, 97, 100]))), .m 4 z16_]) (.cond z4_ .skip (.run [.o 17 (.bin .eql z3_ (.k (.str [112, 114, 105, 110, 116]))), .m 4 z17_]))
abbrev Q11F : AC := .cond z4_ .skip (.seq (.run [.o 15 (.bin .eql z3_ (.k (.str [103, 111, 116, 111]))), .m 4 z15_]) (.cond z4_ .skip Q11C))
abbrev Q11H : AC := .cond z4_ .skip (.seq (.run [.o 14 (.bin .eql z3_ (.k (.str [114, 101, 116, 117, 114, 110]))), .m 4 z14_]) Q11F)
abbrev Q11J : AC := .cond z4_ .skip (.seq (.run [.o 13 (.bin .eql z3_ (.k (.str [99, 111, 110, 116, 105, 110, 117, 101]))), .m 4 z13_]) Q11H)
abbrev Q11L : AC := .cond z4_ .skip (.seq (.run [.o 12 (.bin .eql z3_ (.k (.str [98, 114, 101, 97, 107]))), .m 4 z12_]) Q11J)
abbrev Q11N : AC := .cond z4_ .skip (.seq (.run [.o 11 (.bin .eql z3_ (.k (.str [119, 104, 105, 108, 101]))), .m 4 z11_]) Q11L)
abbrev Q11P : AC := .cond z4_ .skip (.seq (.run [.o 10 (.bin .eql z3_ (.k (.str [101, 108, 115, 101]))), .m 4 z10_]) Q11N)
abbrev Q11R : AC := .cond z4_ .skip (.seq (.run [.o 9 (.bin .eql z3_ (.k (.str [105, 102]))), .m 4 z9_]) Q11P)
abbrev Q11T : AC := .cond z4_ .skip (.seq (.run [.o 8 (.bin .eql z3_ (.k (.str [114, 101, 102]))), .m 4 z8_]) Q11R)
abbrev Q11V : AC := .cond z4_ .skip (.seq (.run [.o 7 (.bin .eql z3_ (.k (.str [118, 97, 114]))), .m 4 z7_]) Q11T)
abbrev Q11X : AC := .cond z4_ .skip (.seq (.run [.o 6 (.bin .eql z3_ (.k (.str [112, 114, 111, 99]))), .m 4 z6_]) Q11V)
abbrev Q121 : AC := .cond z4_ (.seq (.run [.o 2 (.mv (.k (.bool true)))]) .ret) .skip
abbrev Q122 : AC := .seq (.seq (.run [.o 5 (.bin .eql z3_ (.k (.str [103, 108, 111, 98, 97, 108]))), .m 4 z5_]) Q11X) Q121
abbrev Q127 : AC := .seq (.seq (.run [.m 3 z0_]) (.block 0 Q122)) (.seq (.run [.o 2 (.mv (.k (.bool false)))]) .ret)
abbrev Q128 : AC := .seq (.run [.o 2 (.mv (.k (.bool false)))]) Q127
abbrev Q12J : AC := .cond z22_ (.seq (.run [.o 2 (.mv (.k (.int .i64 0))), .o 3 (.mv (.k (.bool false)))]) .ret) .skip
abbrev Q12M : AC := .seq (.seq (.run [.m 18 z4_, .m 19 z6_, .o 20 (.bin .sub (.k (.int .i64 9223372036854775807)) z19_), .o 21 (.bin .quo z20_ (.k (.int .i64 10))), .o 22 (.bin .gtr z18_ z21_)]) Q12J) (.run [.m 23 z4_, .o 24 (.bin .mul z23_ (.k (.int .i64 10))), .m 25 z6_, .o 26 (.bin .add z24_ z25_), .m 4 z26_])
abbrev Q12O : AC := .block 1 (.seq (.run [.m 13 z0_, .m 14 z5_, .o 15 (.sidx z13_ z14_), .o 16 (.bin .sub z15_ (.k (.int .u8 48))), .o 17 (.conv .i64 z16_), .m 6 z17_]) Q12M)
abbrev Q12R : AC := .seq (.seq (.run [.m 7 z5_, .m 8 z0_, .o 9 (.slen z8_), .o 10 (.bin .lss z7_ z9_)]) (.cond z10_ .skip (.exit 0))) (.seq Q12O (.run [.m 11 z5_, .o 12 (.bin .add z11_ (.k (.int .i64 1))), .m 5 z12_]))
abbrev Q12X : AC := .seq (.seq (.run [.o 5 (.mv (.k (.int .i64 0)))]) (.block 0 (.loop Q12R))) (.seq (.run [.m 27 z4_, .m 2 z27_, .o 3 (.mv (.k (.bool true)))]) .ret)
abbrev Q12Z : AC := .seq (.run [.o 2 (.mv (.k (.int .i64 0))), .o 3 (.mv (.k (.bool false)))]) (.seq (.run [.o 4 (.mv (.k (.int .i64 0)))]) Q12X)
abbrev Q13F : AC := .seq (.run [.m 27 z0_, .o 28 (.nilck z27_), .o 29 (.faddr z28_ 1), .o 30 (.load z29_ false 1), .o 31 (.bin .add z30_ (.k (.int .i64 1))), .o 32 (.nilck z27_), .o 33 (.faddr z32_ 1), .op none none (.store z33_ z31_ 1)]) (.seq (.run [.m 34 z0_, .m 35 z7_, .o 36 (.bin .add z35_ (.k (.int .i64 1))), .c 37 n_parse_reader_two [z34_, z36_], .o 8 (.alloc [(.int .i64 0), (.int .i64 0), (.str []), (.slice .full 0 [])]), .op none none (.store z8_ z37_ 4)]) (.run [.m 38 z6_, .o 39 (.load z5_ true 4), .o 40 (.load z8_ true 4), .o 41 (.bslice [(.int .i64 0), (.int .i64 0), (.str []), (.slice .full 0 [])] 4 2 [(0, z39_), (1, z40_)]), .o 42 (.build [(.int .i64 0), (.int .i64 0), (.str []), (.slice .full 0 [])] [(0, (1, z38_)), (3, (1, z41_))]), .op none none (.store z5_ z42_ 4)]))
abbrev Q13G : AC := .seq (.seq (.run [.m 19 z7_, .m 20 z1_, .o 21 (.bin .lss z19_ z20_), .m 22 z21_, .g 23 22 false (.mv z6_), .g 24 22 false (.bin .eql z23_ (.k (.int .i64 0))), .o 25 (.pick z22_ (.k (.bool true)) z24_)]) (.cond z25_ (.seq (.run [.o 26 (.load z5_ true 4), .op none none (.store z4_ z26_ 4)]) .ret) .skip)) Q13F
abbrev Q13K : AC := .loop (.seq (.seq (.run [.m 11 z0_, .c 12 n_parse_reader_good [z11_]]) (.cond z12_ .skip (.exit 0))) (.block 1 (.seq (.run [.m 14 z0_, .c 15 n_parse_reader_peek [z14_], .c 16 n_parse_op [z15_], .m 13 z16_, .o 17 (.ext z13_ 0), .o 18 (.ext z13_ 1), .m 6 z17_, .m 7 z18_]) Q13G)))
abbrev Q13Q : AC := .seq (.run [.o 4 (.alloc [(.int .i64 0), (.int .i64 0), (.str []), (.slice .full 0 [])])]) (.seq (.run [.m 9 z0_, .c 10 n_parse_reader_one [z9_], .o 5 (.alloc [(.int .i64 0), (.int .i64 0), (.str []), (.slice .full 0 [])]), .op none none (.store z5_ z10_ 4)]) (.seq (.block 0 Q13K) (.seq (.run [.o 43 (.load z5_ true 4), .op none none (.store z4_ z43_ 4)]) .ret)))
abbrev Q141 : AC := .seq (.block 1 (.seq (.run [.o 11 (.iaddr z7_ z9_ 4), .o 12 (.load z11_ true 4), .o 5 (.alloc [(.int .i64 0), (.int .i64 0), (.str []), (.slice .full 0 [])]), .op none none (.store z5_ z12_ 4)]) (.run [.m 13 z3_, .o 14 (.load z5_ true 4), .c 15 n_parse_depth [z14_], .o 16 (.mm true z13_ z15_), .m 3 z16_]))) (.run [.o 17 (.bin .add z9_ (.k (.int .i64 1))), .m 9 z17_])
abbrev Q145 : AC := .block 0 (.loop (.seq (.run [.o 10 (.bin .lss z9_ z8_)]) (.seq (.cond z10_ .skip (.exit 0)) Q141)))
abbrev Q149 : AC := .seq (.seq (.run [.o 6 (.faddr z1_ 3), .o 7 (.load z6_ false 1), .o 8 (.len z7_), .o 9 (.mv (.k (.int .i64 0)))]) Q145) (.seq (.run [.m 18 z3_, .o 19 (.bin .add z18_ (.k (.int .i64 1))), .m 2 z19_]) .ret)
abbrev Q14B : AC := .seq (.run [.o 1 (.box z0_), .o 2 (.mv (.k (.int .i64 0)))]) (.seq (.run [.o 3 (.mv (.k (.int .i64 0)))]) Q149)
abbrev Q14G : AC := .cond z13_ (.seq (.run [.o 4 (.mv (.k (.bool false)))]) .ret) .skip
abbrev Q14L : AC := .seq (.run [.m 14 z0_, .o 15 (.nilck z14_), .o 16 (.faddr z15_ 1), .o 17 (.load z16_ false 1), .o 18 (.bin .add z17_ (.k (.int .i64 1))), .o 19 (.nilck z14_), .o 20 (.faddr z19_ 1), .op none none (.store z20_ z18_ 1)]) (.seq (.run [.o 4 (.mv (.k (.bool true)))]) .ret)
abbrev Q14M : AC := .seq (.seq (.run [.m 5 z0_, .c 6 n_parse_reader_good [z5_], .o 7 (.un .not z6_), .m 8 z7_, .g 9 8 false (.mv z0_), .g 10 8 false (.mv z1_), .d 11 8 false n_parse_reader_is [z9_, z10_], .g 12 8 false (.un .not z11_), .o 13 (.pick z8_ (.k (.bool true)) z12_)]) Q14G) Q14L
abbrev Q14N : AC := .seq (.run [.o 4 (.mv (.k (.bool false)))]) Q14M
abbrev Q14Y : AC := .cond z20_ (.seq (.run [.m 21 z0_, (.c 22 n_parse_reader_want [z21_, (.k (.str [59]))])]) (.seq (.run [.m 23 z1_, .m 6 z23_]) .ret)) .skip
abbrev Q150 : AC := .seq (.run [.m 9 z1_, .m 10 z0_, .m 11 z1_, .o 12 (.len z11_), .m 13 z2_, .o 14 (.bin .lss z12_ z13_), .c 15 n_parse_reader_name [z10_, z14_], .o 16 (.bslice [(.str [])] 1 1 [(0, z15_)]), .o 17 (.app 1 16 z9_ z16_), .m 1 z17_]) (.seq (.run [.m 18 z0_, (.c 19 n_parse_reader_take [z18_, (.k (.str [44]))]), .o 20 (.un .not z19_)]) Q14Y)
abbrev Q154 : AC := .block 0 (.loop (.seq (.seq (.run [.m 7 z0_, .c 8 n_parse_reader_good [z7_]]) (.cond z8_ .skip (.exit 0))) (.block 1 Q150)))
abbrev Q158 : AC := .seq (.run [.o 6 (.mv (.k (.slice .full 0 [])))]) (.seq Q154 (.seq (.run [.m 24 z1_, .m 6 z24_]) .ret))
abbrev Q15D : AC := .seq (.run [.m 6 z0_, .c 7 n_parse_reader_peek [z6_], .o 5 (.alloc [(.int .i64 0), (.str []), (.int .i64 0), (.int .i64 0)]), .op none none (.store z5_ z7_ 4)]) (.seq (.run [.o 8 (.faddr z5_ 0), .o 9 (.load z8_ false 1), .o 10 (.bin .eql z9_ (.k (.int .i64 3))), .m 11 z10_, .g 12 11 false (.faddr z5_ 0), .g 13 11 false (.load z12_ false 1), .g 14 11 false (.bin .eql z13_ (.k (.int .i64 4))), .o 15 (.pick z11_ (.k (.bool true)) z14_), .m 16 z15_, .g 17 16 true (.faddr z5_ 1), .g 18 16 true (.load z17_ false 1), .g 19 16 true (.mv z1_), .g 20 16 true (.bin .eql z18_ z19_), .o 21 (.pick z16_ z20_ (.k (.bool false))), .m 4 z21_]) .ret)
abbrev Q15E : AC := .seq (.run [.o 4 (.mv (.k (.bool false)))]) Q15D
abbrev Q15N : AC := .par [.o 21 (.faddr z3_ 1), .o 22 (.load z21_ false 1), .m 23 z0_, .o 24 (.faddr z3_ 1), .o 25 (.load z24_ false 1), .o 26 (.len z25_), .o 27 (.bin .lss z26_ (.k (.int .i64 8))), .c 28 n_parse_reader_name [z23_, z27_], .m 29 z4_, .o 30 (.build [(.str []), (.bool false)] [(0, (1, z28_)), (1, (1, z29_))]), .o 31 (.bslice [(.str []), (.bool false)] 2 1 [(0, z30_)]), .o 32 (.app 2 24 z22_ z31_), .o 33 (.faddr z3_ 1), .op none none (.store z33_ z32_ 1)] [(2, 0), (3, 0), (4, 0), (5, 0), (6, 0), (7, 0), (0, 0), (1, 1), (8, 0), (9, 0), (10, 0), (11, 0), (12, 0), (13, 0)]
abbrev Q15R : AC := .seq Q15N (.seq (.run [.m 34 z0_, (.c 35 n_parse_reader_take [z34_, (.k (.str [44]))]), .o 36 (.un .not z35_)]) (.cond z36_ (.exit 0) .skip))
abbrev Q15T : AC := .block 1 (.seq (.run [.m 19 z0_, (.c 20 n_parse_reader_take [z19_, (.k (.str [114, 101, 102]))]), .m 4 z20_]) Q15R)
abbrev Q15W : AC := .block 0 (.loop (.seq (.seq (.run [.m 17 z0_, .c 18 n_parse_reader_good [z17_]]) (.cond z18_ .skip (.exit 0))) Q15T))
abbrev Q166 : AC := .seq (.seq (.run [.m 41 z0_, (.c 42 n_parse_reader_take [z41_, (.k (.str [118, 97, 114]))])]) (.cond z42_ .skip (.exit 2))) (.block 3 (.run [.m 43 z0_, .o 44 (.faddr z3_ 2), .o 45 (.load z44_ false 1), .c 46 n_parse_reader_names [z43_, z45_, (.k (.int .i64 16))], .o 47 (.faddr z3_ 2), .op none none (.store z47_ z46_ 1)]))
abbrev Q16C : AC := .seq (.run [.m 49 z0_, .c 50 n_parse_reader_rows [z49_, (.k (.int .i64 1)), (.k (.bool true))], .m 48 z50_, .o 51 (.ext z48_ 0), .o 52 (.ext z48_ 1), .o 53 (.faddr z3_ 3), .op none none (.store z53_ z51_ 1), .o 54 (.faddr z3_ 4), .op none none (.store z54_ z52_ 1)]) (.seq (.run [.o 55 (.load z3_ true 5), .op none none (.store z2_ z55_ 5)]) .ret)
abbrev Q16F : AC := .seq (.run [.m 37 z0_, (.c 38 n_parse_reader_want [z37_, (.k (.str [41]))])]) (.seq (.run [.m 39 z0_, (.c 40 n_parse_reader_want [z39_, (.k (.str [123]))])]) (.seq (.block 2 (.loop Q166)) Q16C))
abbrev Q16G : AC := .seq (.seq (.run [.m 10 z0_, .c 11 n_parse_reader_good [z10_], .m 12 z11_, .g 13 12 true (.mv z0_), (.d 14 12 true n_parse_reader_is [z13_, (.k (.str [41]))]), .g 15 12 true (.un .not z14_), .o 16 (.pick z12_ z15_ (.k (.bool false)))]) (.cond z16_ Q15W .skip)) Q16F
abbrev Q16I : AC := .seq (.run [.m 5 z0_, .c 6 n_parse_reader_name [z5_, (.k (.bool true))], .o 7 (.build [(.str []), (.slice .full 0 []), (.slice .full 0 []), (.slice .full 0 []), (.slice .full 0 [])] [(0, (1, z6_))]), .o 3 (.alloc [(.str []), (.slice .full 0 []), (.slice .full 0 []), (.slice .full 0 []), (.slice .full 0 [])]), .op none none (.store z3_ z7_ 5)]) (.seq (.run [.m 8 z0_, (.c 9 n_parse_reader_want [z8_, (.k (.str [40]))])]) Q16G)
abbrev Q16J : AC := .seq (.run [.o 2 (.alloc [(.str []), (.slice .full 0 []), (.slice .full 0 []), (.slice .full 0 []), (.slice .full 0 [])])]) Q16I
abbrev Q16O : AC := .cond z4_ (.seq (.run [.o 2 (.mv (.k (.slice .full 0 [])))]) .ret) .skip
abbrev Q16T : AC := .seq (.run [.o 2 (.mv (.k (.slice .full 0 [])))]) (.seq (.seq (.run [.m 3 z0_, .nil (some 4) none false z3_]) Q16O) (.seq (.run [.o 5 (.bslice [(.str [])] 1 0 []), .m 6 z0_, .o 7 (.app 1 16 z5_ z6_), .m 2 z7_]) .ret))
abbrev Q16Y : AC := .cond z4_ (.seq (.run [.o 2 (.mv (.k (.slice .full 0 [])))]) .ret) .skip
abbrev Q173 : AC := .seq (.run [.o 2 (.mv (.k (.slice .full 0 [])))]) (.seq (.seq (.run [.m 3 z0_, .nil (some 4) none false z3_]) Q16Y) (.seq (.run [.o 5 (.bslice [(.str []), (.bool false)] 2 0 []), .m 6 z0_, .o 7 (.app 2 24 z5_ z6_), .m 2 z7_]) .ret))
abbrev Q17G : AC := .par [.o 26 (.faddr z10_ 2), .o 27 (.load z26_ false 1), .c 28 n_slices_Clone_string [z27_], .o 29 (.faddr z10_ 5), .o 30 (.load z29_ true 4), .c 31 n_tree_expr [z30_], .o 32 (.faddr z11_ 2), .op none none (.store z32_ z28_ 1), .o 33 (.faddr z11_ 5), .op none none (.store z33_ z31_ 4), .o 34 (.faddr z11_ 10), .op none none (.store z34_ (.k (.slice .full 0 [])) 1)] [(0, 0), (1, 0), (2, 0), (3, 0), (4, 1), (5, 0), (6, 0), (7, 0), (8, 0), (9, 0), (10, 0), (11, 0)]
abbrev Q17P : AC := .block 3 (.seq (.run [.o 40 (.iaddr z36_ z38_ 6), .o 41 (.load z40_ true 6), .o 13 (.alloc [(.bool false), (.str []), (.int .i64 0), (.int .i64 0), (.str []), (.slice .full 0 [])]), .op none none (.store z13_ z41_ 6)]) (.seq (.run [.o 42 (.faddr z13_ 2), .o 43 (.load z42_ true 4), .c 44 n_tree_expr [z43_], .o 45 (.faddr z13_ 2), .op none none (.store z45_ z44_ 4)]) (.run [.o 46 (.faddr z11_ 10), .o 47 (.load z46_ false 1), .o 48 (.load z13_ true 6), .o 49 (.bslice [(.bool false), (.str []), (.int .i64 0), (.int .i64 0), (.str []), (.slice .full 0 [])] 6 1 [(0, z48_)]), .o 50 (.app 6 80 z47_ z49_), .o 51 (.faddr z11_ 10), .op none none (.store z51_ z50_ 1)])))
abbrev Q17S : AC := .seq (.cond z39_ .skip (.exit 2)) (.seq Q17P (.run [.o 52 (.bin .add z38_ (.k (.int .i64 1))), .m 38 z52_]))
abbrev Q17W : AC := .seq (.run [.o 35 (.faddr z10_ 10), .o 36 (.load z35_ false 1), .o 37 (.len z36_), .o 38 (.mv (.k (.int .i64 0)))]) (.block 2 (.loop (.seq (.run [.o 39 (.bin .lss z38_ z37_)]) Q17S)))
abbrev Q182 : AC := .seq Q17W (.seq (.run [.o 54 (.faddr z10_ 11), .o 55 (.load z54_ false 1), .m 56 z1_, .m 57 z2_, .c 58 n_tree_copied [z55_, z56_, z57_], .m 53 z58_, .o 59 (.ext z53_ 0), .o 60 (.ext z53_ 1), .o 61 (.faddr z11_ 11), .op none none (.store z61_ z59_ 1), .m 1 z60_]) (.seq (.run [.o 63 (.faddr z10_ 12), .o 64 (.load z63_ false 1), .m 65 z1_, .m 66 z2_, .c 67 n_tree_copied [z64_, z65_, z66_], .m 62 z67_, .o 68 (.ext z62_ 0), .o 69 (.ext z62_ 1), .o 70 (.faddr z11_ 12), .op none none (.store z70_ z68_ 1), .m 1 z69_]) (.run [.m 71 z8_, .o 72 (.load z11_ true 13), .o 73 (.bslice [(.int .i64 0), (.int .i64 0), (.slice .full 0 []), (.str []), (.str []), (.int .i64 0), (.int .i64 0), (.str []), (.slice .full 0 []), (.bool false), (.slice .full 0 []), (.slice .full 0 []), (.slice .full 0 [])] 13 1 [(0, z72_)]), .o 74 (.app 13 208 z71_ z73_), .m 8 z74_])))
abbrev Q185 : AC := .seq (.run [.o 22 (.load z10_ true 13), .o 11 (.alloc [(.int .i64 0), (.int .i64 0), (.slice .full 0 []), (.str []), (.str []), (.int .i64 0), (.int .i64 0), (.str []), (.slice .full 0 []), (.bool false), (.slice .full 0 []), (.slice .full 0 []), (.slice .full 0 [])]), .op none none (.store z11_ z22_ 13)]) (.seq (.seq (.run [.m 23 z2_]) (.cond z23_ (.run [.m 24 z1_, .o 25 (.faddr z11_ 0), .op none none (.store z25_ z24_ 1)]) .skip)) (.seq Q17G Q182))
abbrev Q187 : AC := .seq (.run [.o 18 (.iaddr z14_ z16_ 13), .o 19 (.load z18_ true 13), .o 10 (.alloc [(.int .i64 0), (.int .i64 0), (.slice .full 0 []), (.str []), (.str []), (.int .i64 0), (.int .i64 0), (.str []), (.slice .full 0 []), (.bool false), (.slice .full 0 []), (.slice .full 0 []), (.slice .full 0 [])]), .op none none (.store z10_ z19_ 13)]) (.seq (.run [.m 20 z1_, .o 21 (.bin .add z20_ (.k (.int .i64 1))), .m 1 z21_]) Q185)
abbrev Q18B : AC := .seq (.cond z17_ .skip (.exit 0)) (.seq (.block 1 Q187) (.run [.o 75 (.bin .add z16_ (.k (.int .i64 1))), .m 16 z75_]))
abbrev Q18F : AC := .seq (.run [.m 14 z0_, .o 15 (.len z14_), .o 16 (.mv (.k (.int .i64 0)))]) (.block 0 (.loop (.seq (.run [.o 17 (.bin .lss z16_ z15_)]) Q18B)))
abbrev Q18K : AC := .seq (.run [.o 6 (.mv (.k (.slice .full 0 []))), .o 7 (.mv (.k (.int .i64 0)))]) (.seq (.run [.o 8 (.mv (.k (.slice .full 0 [])))]) (.seq Q18F (.seq (.run [.m 76 z8_, .m 77 z1_, .m 6 z76_, .m 7 z77_]) .ret)))
abbrev Q18M : AC := .par [.o 10 (.faddr z1_ 9), .o 11 (.load z10_ false 1), .o 3 (.mv (.k (.bool false))), .o 4 (.mv (.k (.bool false))), .o 5 (.mv (.k (.bool false))), .m 6 z11_, .o 7 (.mv (.k (.bool false))), .o 8 (.mv (.k (.bool false)))] [(0, 0), (1, 0), (2, 0), (3, 0), (4, 0), (5, 0), (6, 0), (7, 0)]
abbrev Q18U : AC := .seq (.run [.o 20 (.bin .eql z16_ (.k (.int .i64 2))), .m 19 z20_]) (.cond z19_ .skip (.run [.o 21 (.bin .eql z16_ (.k (.int .i64 10))), .m 19 z21_]))
abbrev Q199 : AC := .seq (.run [.o 38 (.bin .eql z16_ (.k (.int .i64 7))), .m 37 z38_]) (.cond z37_ .skip (.run [.o 39 (.bin .eql z16_ (.k (.int .i64 8))), .m 37 z39_]))
abbrev Q19C : AC := .cond z37_ .skip (.seq (.run [.o 2 (.mv (.k (.bool false)))]) .ret)
abbrev Q19F : AC := .seq (.run [.o 34 (.bin .eql z16_ (.k (.int .i64 9))), .m 33 z34_]) (.cond z33_ (.run [.o 35 (.faddr z1_ 9), .o 36 (.load z35_ false 1), .m 5 z36_, .o 6 (.mv (.k (.bool false)))]) (.seq Q199 Q19C))
abbrev Q19H : AC := .seq (.run [.o 32 (.bin .eql z16_ (.k (.int .i64 6))), .m 31 z32_]) (.cond z31_ (.run [.o 5 (.mv (.k (.bool true))), .o 7 (.mv (.k (.bool true)))]) Q19F)
abbrev Q19J : AC := .seq (.run [.o 30 (.bin .eql z16_ (.k (.int .i64 5))), .m 29 z30_]) (.cond z29_ (.run [.o 5 (.mv (.k (.bool true))), .o 7 (.mv (.k (.bool true))), .o 8 (.mv (.k (.bool true)))]) Q19H)
abbrev Q19L : AC := .seq (.run [.o 25 (.bin .eql z16_ (.k (.int .i64 4))), .m 24 z25_]) (.cond z24_ (.run [.o 26 (.faddr z1_ 3), .o 27 (.load z26_ false 1), .o 28 (.bin .neq z27_ (.k (.str []))), .m 3 z28_, .o 4 (.mv (.k (.bool true)))]) Q19J)
abbrev Q19N : AC := .seq (.run [.o 23 (.bin .eql z16_ (.k (.int .i64 3))), .m 22 z23_]) (.cond z22_ (.run [.o 5 (.mv (.k (.bool true)))]) Q19L)
abbrev Q19P : AC := .seq Q18U (.cond z19_ (.run [.o 3 (.mv (.k (.bool true)))]) Q19N)
abbrev Q19R : AC := .seq (.run [.o 18 (.bin .eql z16_ (.k (.int .i64 1))), .m 17 z18_]) (.cond z17_ (.run [.o 3 (.mv (.k (.bool true))), .o 5 (.mv (.k (.bool true)))]) Q19P)
abbrev Q19U : AC := .run [.m 40 z6_, .m 41 z40_, .g 42 41 false (.mv z7_), .g 43 41 false (.un .not z42_), .g 44 41 false (.mv z43_), .g 45 44 true (.faddr z1_ 11), .g 46 44 true (.load z45_ false 1), .g 47 44 true (.len z46_), .g 48 44 true (.bin .gtr z47_ (.k (.int .i64 0))), .g 49 41 false (.pick z44_ z48_ (.k (.bool false))), .o 50 (.pick z41_ (.k (.bool true)) z49_), .m 51 z50_, .g 52 51 false (.mv z8_), .g 53 51 false (.un .not z52_), .g 54 51 false (.mv z53_), .g 55 54 true (.faddr z1_ 12), .g 56 54 true (.load z55_ false 1), .g 57 54 true (.len z56_), .g 58 54 true (.bin .gtr z57_ (.k (.int .i64 0))), .g 59 51 false (.pick z54_ z58_ (.k (.bool false))), .o 60 (.pick z51_ (.k (.bool true)) z59_), .m 61 z60_, .g 62 61 false (.mv z9_), .g 63 61 false (.un .not z62_), .g 64 61 false (.mv z63_), .g 65 64 true (.faddr z1_ 10), .g 66 64 true (.load z65_ false 1), .g 67 64 true (.len z66_), .g 68 64 true (.bin .gtr z67_ (.k (.int .i64 0))), .g 69 61 false (.pick z64_ z68_ (.k (.bool false))), .o 70 (.pick z61_ (.k (.bool true)) z69_)]
abbrev Q19X : AC := .cond z70_ (.seq (.run [.o 2 (.mv (.k (.bool false)))]) .ret) .skip
abbrev Q1A2 : AC := .cond z89_ (.seq (.run [.o 2 (.mv (.k (.bool false)))]) .ret) .skip
abbrev Q1A6 : AC := .seq (.seq (.run [.o 71 (.faddr z1_ 3), .o 72 (.load z71_ false 1), .m 73 z3_, .c 74 n_tree_named [z72_, z73_], .o 75 (.un .not z74_), .m 76 z75_, .g 77 76 false (.faddr z1_ 4), .g 78 76 false (.load z77_ false 1), .g 79 76 false (.mv z4_), .d 80 76 false n_tree_named [z78_, z79_], .g 81 76 false (.un .not z80_), .o 82 (.pick z76_ (.k (.bool true)) z81_), .m 83 z82_, .g 84 83 false (.faddr z1_ 5), .g 85 83 false (.load z84_ true 4), .g 86 83 false (.mv z5_), .d 87 83 false n_tree_worth [z85_, z86_], .g 88 83 false (.un .not z87_), .o 89 (.pick z83_ (.k (.bool true)) z88_)]) Q1A2) (.seq (.run [.o 90 (.faddr z1_ 10), .o 91 (.load z90_ false 1), .c 92 n_tree_handed [z91_], .m 2 z92_]) .ret)
abbrev Q1A7 : AC := .seq (.seq Q19U Q19X) Q1A6
abbrev Q1A8 : AC := .seq (.seq (.run [.o 15 (.faddr z1_ 1), .o 16 (.load z15_ false 1)]) (.block 0 Q19R)) Q1A7
abbrev Q1A9 : AC := .seq (.run [.o 12 (.faddr z1_ 1), .o 13 (.load z12_ false 1), .o 14 (.bin .eql z13_ (.k (.int .i64 4))), .m 9 z14_]) Q1A8
abbrev Q1AA : AC := .seq Q18M Q1A9
abbrev Q1AB : AC := .seq (.run [.o 1 (.box z0_), .o 2 (.mv (.k (.bool false)))]) Q1AA
abbrev Q1AM : AC := .cond z17_ (.seq (.run [.o 2 (.mv (.k (.int .i64 2)))]) .ret) .skip
abbrev Q1AO : AC := .cond z10_ (.seq (.run [.o 2 (.mv (.k (.int .i64 1)))]) .ret) (.seq (.run [.m 18 z0_, .o 19 (.bin .geq z18_ (.k (.int .i64 5))), .m 20 z19_, .g 21 20 true (.mv z0_), .g 22 20 true (.bin .leq z21_ (.k (.int .i64 17))), .o 23 (.pick z20_ z22_ (.k (.bool false))), .m 17 z23_]) Q1AM)
abbrev Q1AQ : AC := .cond z3_ (.seq (.run [.o 2 (.mv (.k (.int .i64 0)))]) .ret) (.seq (.run [.m 11 z0_, .o 12 (.bin .eql z11_ (.k (.int .i64 3))), .m 13 z12_, .g 14 13 false (.mv z0_), .g 15 13 false (.bin .eql z14_ (.k (.int .i64 4))), .o 16 (.pick z13_ (.k (.bool true)) z15_), .m 10 z16_]) Q1AO)
abbrev Q1AS : AC := .block 0 (.seq (.run [.m 4 z0_, .o 5 (.bin .eql z4_ (.k (.int .i64 1))), .m 6 z5_, .g 7 6 false (.mv z0_), .g 8 6 false (.bin .eql z7_ (.k (.int .i64 2))), .o 9 (.pick z6_ (.k (.bool true)) z8_), .m 3 z9_]) Q1AQ)
abbrev Q1AU : AC := .seq (.run [(.o 2 (.mv (.k (.int .i64 (-1)))))]) .ret
abbrev Q1AW : AC := .seq (.run [.o 2 (.mv (.k (.int .i64 0)))]) (.seq Q1AS Q1AU)

end Go.Abs

/-! Have2 -/

namespace Go.Abs
open Go.Proofs

theorem has_strings_Builder_WriteByte : Has Tryd.prog n_strings_Builder_WriteByte 17 [(4, none)] QPI := ⟨Tryd.f68, by kernel_rfl, by kernel_rfl⟩
theorem has_strings_Builder_WriteString : Has Tryd.prog n_strings_Builder_WriteString 19 [(4, none), (5, none)] QPQ := ⟨Tryd.f69, by kernel_rfl, by kernel_rfl⟩
theorem has_print_plain : Has Tryd.prog n_print_plain 85 [(2, none)] QRW := ⟨Tryd.f71, by kernel_rfl, by kernel_rfl⟩
theorem has_tree_deep : Has Tryd.prog n_tree_deep 61 [(4, none)] QT9 := ⟨Tryd.f73, by kernel_rfl, by kernel_rfl⟩
theorem has_print_sign : Has Tryd.prog n_print_sign 31 [(2, none), (3, none)] QVA := ⟨Tryd.f75, by kernel_rfl, by kernel_rfl⟩
theorem has_ref3_Arity : Has Tryd.prog n_ref3_Arity 24 [(2, none)] QVV := ⟨Tryd.f76, by kernel_rfl, by kernel_rfl⟩
theorem has_ref1_small : Has Tryd.prog n_ref1_small 9 [(2, none)] QVZ := ⟨Tryd.f81, by kernel_rfl, by kernel_rfl⟩
theorem has_ref1_digit : Has Tryd.prog n_ref1_digit 9 [(2, none)] QW3 := ⟨Tryd.f82, by kernel_rfl, by kernel_rfl⟩
theorem has_ref1_Word : Has Tryd.prog n_ref1_Word 15 [(2, none)] QWQ := ⟨Tryd.f83, by kernel_rfl, by kernel_rfl⟩
theorem has_ref3_none : Has Tryd.prog n_ref3_none 22 [(2, none)] QWU := ⟨Tryd.f85, by kernel_rfl, by kernel_rfl⟩
theorem has_ref3_arg : Has Tryd.prog n_ref3_arg 21 [(2, none)] QX4 := ⟨Tryd.f86, by kernel_rfl, by kernel_rfl⟩
theorem has_ref3_eqOne : Has Tryd.prog n_ref3_eqOne 127 [(4, none)] QXX := ⟨Tryd.f87, by kernel_rfl, by kernel_rfl⟩
theorem has_lex_letter : Has Tryd.prog n_lex_letter 9 [(2, none)] QY1 := ⟨Tryd.f88, by kernel_rfl, by kernel_rfl⟩
theorem has_lex_digit : Has Tryd.prog n_lex_digit 9 [(2, none)] QY5 := ⟨Tryd.f89, by kernel_rfl, by kernel_rfl⟩
theorem has_lex_sign : Has Tryd.prog n_lex_sign 42 [(4, none)] Q10I := ⟨Tryd.f90, by kernel_rfl, by kernel_rfl⟩
theorem has_lex_run : Has Tryd.prog n_lex_run 24 [(4, none)] Q10V := ⟨Tryd.f91, by kernel_rfl, by kernel_rfl⟩
theorem has_lex_Word : Has Tryd.prog n_lex_Word 18 [(2, none)] Q128 := ⟨Tryd.f92, by kernel_rfl, by kernel_rfl⟩
theorem has_lex_number : Has Tryd.prog n_lex_number 28 [(2, none), (3, none)] Q12Z := ⟨Tryd.f93, by kernel_rfl, by kernel_rfl⟩
theorem has_parse_reader_two : Has Tryd.prog n_parse_reader_two 44 [(4, (some (true, 4)))] Q13Q := ⟨Tryd.f94, by kernel_rfl, by kernel_rfl⟩
theorem has_parse_depth : Has Tryd.prog n_parse_depth 20 [(2, none)] Q14B := ⟨Tryd.f95, by kernel_rfl, by kernel_rfl⟩
theorem has_parse_reader_take : Has Tryd.prog n_parse_reader_take 21 [(4, none)] Q14N := ⟨Tryd.f96, by kernel_rfl, by kernel_rfl⟩
theorem has_parse_reader_names : Has Tryd.prog n_parse_reader_names 25 [(6, none)] Q158 := ⟨Tryd.f97, by kernel_rfl, by kernel_rfl⟩
theorem has_parse_reader_is : Has Tryd.prog n_parse_reader_is 22 [(4, none)] Q15E := ⟨Tryd.f98, by kernel_rfl, by kernel_rfl⟩
theorem has_parse_reader_proc : Has Tryd.prog n_parse_reader_proc 56 [(2, (some (true, 5)))] Q16J := ⟨Tryd.f99, by kernel_rfl, by kernel_rfl⟩
theorem has_slices_Clone_string : Has Tryd.prog n_slices_Clone_string 8 [(2, none)] Q16T := ⟨Tryd.f100, by kernel_rfl, by kernel_rfl⟩
theorem has_slices_Clone_api_Param : Has Tryd.prog n_slices_Clone_api_Param 8 [(2, none)] Q173 := ⟨Tryd.f101, by kernel_rfl, by kernel_rfl⟩
theorem has_tree_copied : Has Tryd.prog n_tree_copied 78 [(6, none), (7, none)] Q18K := ⟨Tryd.f102, by kernel_rfl, by kernel_rfl⟩
theorem has_tree_fields : Has Tryd.prog n_tree_fields 93 [(2, none)] Q1AB := ⟨Tryd.f103, by kernel_rfl, by kernel_rfl⟩
theorem has_tree_kids : Has Tryd.prog n_tree_kids 24 [(2, none)] Q1AW := ⟨Tryd.f107, by kernel_rfl, by kernel_rfl⟩
end Go.Abs

/-! Codes3 -/

namespace Go.Abs

abbrev Q1AZ : AC := .seq (.run [(.o 1 (.bslice [(.str [])] 1 13 [(0, (.k (.str [103, 108, 111, 98, 97, 108]))), (1, (.k (.str [112, 114, 111, 99]))), (2, (.k (.str [118, 97, 114]))), (3, (.k (.str [114, 101, 102]))), (4, (.k (.str [105, 102]))), (5, (.k (.str [101, 108, 115, 101]))), (6, (.k (.str [119, 104, 105, 108, 101]))), (7, (.k (.str [98, 114, 101, 97, 107]))), (8, (.k (.str [99, 111, 110, 116, 105, 110, 117, 101]))), (9, (.k (.str [114, 101, 116, 117, 114, 110]))), (10, (.k (.str [103, 111, 116, 111]))), (11, (.k (.str [114, 101, 97, 100]))), (12, (.k (.str [112, 114, 105, 110, 116])))])), .m 0 z1_]) .ret
abbrev Q1B0 : AC := .seq (.run [.o 0 (.mv (.k (.slice .full 0 [])))]) Q1AZ
abbrev Q1B7 : AC := .seq (.run [.m 7 z0_, .c 8 n_parse_reader_good [z7_], .o 9 (.un .not z8_)]) (.cond z9_ (.seq (.run [.o 10 (.build [(.int .i64 0), (.int .i64 0), (.str []), (.slice .full 0 [])] []), .op none none (.store z2_ z10_ 4)]) .ret) .skip)
abbrev Q1BB : AC := .seq (.run [.o 22 (.faddr z3_ 2), .o 23 (.load z22_ false 1), (.o 24 (.build [(.int .i64 0), (.int .i64 0), (.str []), (.slice .full 0 [])] [(0, (1, (.k (.int .i64 1)))), (1, (1, z23_))])), .op none none (.store z2_ z24_ 4)]) .ret
abbrev Q1BG : AC := .seq (.run [.o 36 (.faddr z3_ 1), .o 37 (.load z36_ false 1), (.o 38 (.build [(.int .i64 0), (.int .i64 0), (.str []), (.slice .full 0 [])] [(0, (1, (.k (.int .i64 2)))), (2, (1, z37_))])), .op none none (.store z2_ z38_ 4)]) .ret
abbrev Q1BO : AC := .seq (.run [.m 42 z0_, .c 43 n_parse_reader_two [z42_, (.k (.int .i64 1))], .o 4 (.alloc [(.int .i64 0), (.int .i64 0), (.str []), (.slice .full 0 [])]), .op none none (.store z4_ z43_ 4)]) (.seq (.run [.m 44 z0_, (.c 45 n_parse_reader_want [z44_, (.k (.str [41]))])]) (.seq (.run [.o 46 (.load z4_ true 4), .op none none (.store z2_ z46_ 4)]) .ret))
abbrev Q1BR : AC := .seq (.run [.m 50 z0_, .c 51 n_parse_reader_one [z50_], .o 52 (.bslice [(.int .i64 0), (.int .i64 0), (.str []), (.slice .full 0 [])] 4 1 [(0, z51_)]), (.o 53 (.build [(.int .i64 0), (.int .i64 0), (.str []), (.slice .full 0 [])] [(0, (1, (.k (.int .i64 3)))), (3, (1, z52_))])), .op none none (.store z2_ z53_ 4)]) .ret
abbrev Q1BU : AC := .seq (.run [.m 57 z0_, .c 58 n_parse_reader_one [z57_], .o 59 (.bslice [(.int .i64 0), (.int .i64 0), (.str []), (.slice .full 0 [])] 4 1 [(0, z58_)]), (.o 60 (.build [(.int .i64 0), (.int .i64 0), (.str []), (.slice .full 0 [])] [(0, (1, (.k (.int .i64 4)))), (3, (1, z59_))])), .op none none (.store z2_ z60_ 4)]) .ret
abbrev Q1BX : AC := .cond z47_ Q1BR (.seq (.run [.m 55 z0_, (.c 56 n_parse_reader_take [z55_, (.k (.str [33]))]), .m 54 z56_]) (.cond z54_ Q1BU .skip))
abbrev Q1BZ : AC := .cond z39_ Q1BO (.seq (.run [.m 48 z0_, (.c 49 n_parse_reader_take [z48_, (.k (.str [45]))]), .m 47 z49_]) Q1BX)
abbrev Q1C1 : AC := .cond z25_ (.seq (.run [.m 29 z0_, .o 30 (.nilck z29_), .o 31 (.faddr z30_ 1), .o 32 (.load z31_ false 1), .o 33 (.bin .add z32_ (.k (.int .i64 1))), .o 34 (.nilck z29_), .o 35 (.faddr z34_ 1), .op none none (.store z35_ z33_ 1)]) Q1BG) (.seq (.run [.m 40 z0_, (.c 41 n_parse_reader_take [z40_, (.k (.str [40]))]), .m 39 z41_]) Q1BZ)
abbrev Q1C3 : AC := .cond z11_ (.seq (.run [.m 15 z0_, .o 16 (.nilck z15_), .o 17 (.faddr z16_ 1), .o 18 (.load z17_ false 1), .o 19 (.bin .add z18_ (.k (.int .i64 1))), .o 20 (.nilck z15_), .o 21 (.faddr z20_ 1), .op none none (.store z21_ z19_ 1)]) Q1BB) (.seq (.run [.o 26 (.faddr z3_ 0), .o 27 (.load z26_ false 1), .o 28 (.bin .eql z27_ (.k (.int .i64 1))), .m 25 z28_]) Q1C1)
abbrev Q1C5 : AC := .block 0 (.seq (.run [.o 12 (.faddr z3_ 0), .o 13 (.load z12_ false 1), .o 14 (.bin .eql z13_ (.k (.int .i64 2))), .m 11 z14_]) Q1C3)
abbrev Q1CA : AC := .seq Q1C5 (.seq (.run [.m 61 z0_, .c 62 n_parse_reader_bad [z61_, (.k (.int .i64 3))]]) (.seq (.run [.o 63 (.build [(.int .i64 0), (.int .i64 0), (.str []), (.slice .full 0 [])] []), .op none none (.store z2_ z63_ 4)]) .ret))
abbrev Q1CD : AC := .seq (.run [.o 2 (.alloc [(.int .i64 0), (.int .i64 0), (.str []), (.slice .full 0 [])])]) (.seq (.run [.m 5 z0_, .c 6 n_parse_reader_peek [z5_], .o 3 (.alloc [(.int .i64 0), (.str []), (.int .i64 0), (.int .i64 0)]), .op none none (.store z3_ z6_ 4)]) (.seq Q1B7 Q1CA))
abbrev Q1CI : AC := .cond z6_ (.seq (.run [.o 2 (.mv (.k (.int .i64 0))), .o 3 (.mv (.k (.int .i64 0)))]) .ret) .skip
abbrev Q1DO : AC := .cond z33_ (.seq (.run [.o 2 (.mv (.k (.int .i64 7))), .o 3 (.mv (.k (.int .i64 6)))]) .ret) .skip
abbrev Q1DQ : AC := .cond z31_ (.seq (.run [.o 2 (.mv (.k (.int .i64 6))), .o 3 (.mv (.k (.int .i64 6)))]) .ret) (.seq (.run [.o 34 (.bin .eql z8_ (.k (.str [37]))), .m 33 z34_]) Q1DO)
abbrev Q1DS : AC := .cond z29_ (.seq (.run [.o 2 (.mv (.k (.int .i64 5))), .o 3 (.mv (.k (.int .i64 6)))]) .ret) (.seq (.run [.o 32 (.bin .eql z8_ (.k (.str [47]))), .m 31 z32_]) Q1DQ)
abbrev Q1DU : AC := .cond z27_ (.seq (.run [.o 2 (.mv (.k (.int .i64 9))), .o 3 (.mv (.k (.int .i64 5)))]) .ret) (.seq (.run [.o 30 (.bin .eql z8_ (.k (.str [42]))), .m 29 z30_]) Q1DS)
abbrev Q1DW : AC := .cond z25_ (.seq (.run [.o 2 (.mv (.k (.int .i64 8))), .o 3 (.mv (.k (.int .i64 5)))]) .ret) (.seq (.run [.o 28 (.bin .eql z8_ (.k (.str [45]))), .m 27 z28_]) Q1DU)
abbrev Q1DY : AC := .cond z23_ (.seq (.run [.o 2 (.mv (.k (.int .i64 13))), .o 3 (.mv (.k (.int .i64 4)))]) .ret) (.seq (.run [.o 26 (.bin .eql z8_ (.k (.str [43]))), .m 25 z26_]) Q1DW)
abbrev Q1E0 : AC := .cond z21_ (.seq (.run [.o 2 (.mv (.k (.int .i64 12))), .o 3 (.mv (.k (.int .i64 4)))]) .ret) (.seq (.run [.o 24 (.bin .eql z8_ (.k (.str [62, 61]))), .m 23 z24_]) Q1DY)
abbrev Q1E2 : AC := .cond z19_ (.seq (.run [.o 2 (.mv (.k (.int .i64 11))), .o 3 (.mv (.k (.int .i64 4)))]) .ret) (.seq (.run [.o 22 (.bin .eql z8_ (.k (.str [62]))), .m 21 z22_]) Q1E0)
abbrev Q1E4 : AC := .cond z17_ (.seq (.run [.o 2 (.mv (.k (.int .i64 10))), .o 3 (.mv (.k (.int .i64 4)))]) .ret) (.seq (.run [.o 20 (.bin .eql z8_ (.k (.str [60, 61]))), .m 19 z20_]) Q1E2)
abbrev Q1E6 : AC := .cond z15_ (.seq (.run [.o 2 (.mv (.k (.int .i64 15))), .o 3 (.mv (.k (.int .i64 3)))]) .ret) (.seq (.run [.o 18 (.bin .eql z8_ (.k (.str [60]))), .m 17 z18_]) Q1E4)
abbrev Q1E8 : AC := .cond z13_ (.seq (.run [.o 2 (.mv (.k (.int .i64 14))), .o 3 (.mv (.k (.int .i64 3)))]) .ret) (.seq (.run [.o 16 (.bin .eql z8_ (.k (.str [33, 61]))), .m 15 z16_]) Q1E6)
abbrev Q1EA : AC := .cond z11_ (.seq (.run [.o 2 (.mv (.k (.int .i64 16))), .o 3 (.mv (.k (.int .i64 2)))]) .ret) (.seq (.run [.o 14 (.bin .eql z8_ (.k (.str [61, 61]))), .m 13 z14_]) Q1E8)
abbrev Q1EC : AC := .cond z9_ (.seq (.run [.o 2 (.mv (.k (.int .i64 17))), .o 3 (.mv (.k (.int .i64 1)))]) .ret) (.seq (.run [.o 12 (.bin .eql z8_ (.k (.str [38, 38]))), .m 11 z12_]) Q1EA)
abbrev Q1EE : AC := .block 0 (.seq (.run [.o 10 (.bin .eql z8_ (.k (.str [124, 124]))), .m 9 z10_]) Q1EC)
abbrev Q1EI : AC := .seq (.seq (.run [.o 7 (.faddr z1_ 1), .o 8 (.load z7_ false 1)]) Q1EE) (.seq (.run [.o 2 (.mv (.k (.int .i64 0))), .o 3 (.mv (.k (.int .i64 0)))]) .ret)
abbrev Q1EJ : AC := .seq (.seq (.run [.o 4 (.faddr z1_ 0), .o 5 (.load z4_ false 1), .o 6 (.bin .neq z5_ (.k (.int .i64 4)))]) Q1CI) Q1EI
abbrev Q1EK : AC := .seq (.run [.o 1 (.box z0_), .o 2 (.mv (.k (.int .i64 0))), .o 3 (.mv (.k (.int .i64 0)))]) Q1EJ
abbrev Q1ER : AC := .seq (.run [.m 16 z0_, .c 17 n_parse_reader_bad [z16_, (.k (.int .i64 3))]]) (.seq (.run [.o 4 (.mv (.k (.str [])))]) .ret)
abbrev Q1EY : AC := .seq (.run [.m 20 z0_, .c 21 n_parse_reader_bad [z20_, (.k (.int .i64 4))]]) (.seq (.run [.o 4 (.mv (.k (.str [])))]) .ret)
abbrev Q1F5 : AC := .seq (.seq (.run [.m 18 z1_, .o 19 (.un .not z18_)]) (.cond z19_ Q1EY .skip)) (.seq (.run [.m 22 z0_, .o 23 (.nilck z22_), .o 24 (.faddr z23_ 1), .o 25 (.load z24_ false 1), .o 26 (.bin .add z25_ (.k (.int .i64 1))), .o 27 (.nilck z22_), .o 28 (.faddr z27_ 1), .op none none (.store z28_ z26_ 1)]) (.seq (.run [.o 29 (.faddr z5_ 1), .o 30 (.load z29_ false 1), .m 4 z30_]) .ret))
abbrev Q1F6 : AC := .seq (.seq (.run [.m 8 z0_, .c 9 n_parse_reader_good [z8_], .o 10 (.un .not z9_), .m 11 z10_, .g 12 11 false (.faddr z5_ 0), .g 13 11 false (.load z12_ false 1), .g 14 11 false (.bin .neq z13_ (.k (.int .i64 1))), .o 15 (.pick z11_ (.k (.bool true)) z14_)]) (.cond z15_ Q1ER .skip)) Q1F5
abbrev Q1F8 : AC := .seq (.run [.o 4 (.mv (.k (.str [])))]) (.seq (.run [.m 6 z0_, .c 7 n_parse_reader_peek [z6_], .o 5 (.alloc [(.int .i64 0), (.str []), (.int .i64 0), (.int .i64 0)]), .op none none (.store z5_ z7_ 4)]) Q1F6)
abbrev Q1FC : AC := .seq (.run [.m 4 z0_, .m 5 z1_, .c 6 n_parse_reader_take [z4_, z5_], .o 7 (.un .not z6_)]) (.cond z7_ (.run [.m 8 z0_, .c 9 n_parse_reader_bad [z8_, (.k (.int .i64 3))]]) .skip)
abbrev Q1FO : AC := .cond z24_ (.seq (.run [.m 25 z0_, .o 26 (.nilck z25_), .o 27 (.faddr z26_ 1), .o 28 (.load z27_ false 1), .o 29 (.bin .add z28_ (.k (.int .i64 1))), .o 30 (.nilck z25_), .o 31 (.faddr z30_ 1), .op none none (.store z31_ z29_ 1)]) (.seq (.run [.m 32 z8_, .m 33 z9_, .m 6 z32_, .m 7 z33_]) .ret)) .skip
abbrev Q1FV : AC := .seq (.seq (.run [.m 15 z0_, (.c 16 n_parse_reader_is [z15_, (.k (.str [125]))]), .m 17 z16_, .g 18 17 true (.mv z2_), .g 19 17 true (.mv z18_), .g 20 19 false (.mv z9_), .g 21 19 false (.len z20_), .g 22 19 false (.bin .eql z21_ (.k (.int .i64 0))), .g 23 17 true (.pick z19_ (.k (.bool true)) z22_), .o 24 (.pick z17_ z23_ (.k (.bool false)))]) Q1FO) (.seq (.run [.m 34 z0_, .m 35 z1_, .c 36 n_parse_reader_stmt [z34_, z35_], .o 10 (.alloc [(.int .i64 0), (.int .i64 0), (.slice .full 0 []), (.str []), (.str []), (.int .i64 0), (.int .i64 0), (.str []), (.slice .full 0 []), (.bool false), (.slice .full 0 []), (.slice .full 0 []), (.slice .full 0 [])]), .op none none (.store z10_ z36_ 13)]) (.seq (.run [.m 37 z9_, .o 38 (.faddr z10_ 2), .op none none (.store z38_ z37_ 1)]) (.run [.m 39 z8_, .o 40 (.load z10_ true 13), .o 41 (.bslice [(.int .i64 0), (.int .i64 0), (.slice .full 0 []), (.str []), (.str []), (.int .i64 0), (.int .i64 0), (.str []), (.slice .full 0 []), (.bool false), (.slice .full 0 []), (.slice .full 0 []), (.slice .full 0 [])] 13 1 [(0, z40_)]), .o 42 (.app 13 208 z39_ z41_), .m 8 z42_])))
abbrev Q1G0 : AC := .block 0 (.loop (.seq (.seq (.run [.m 11 z0_, .c 12 n_parse_reader_good [z11_]]) (.cond z12_ .skip (.exit 0))) (.block 1 (.seq (.run [.m 13 z0_, .c 14 n_parse_reader_labels [z13_], .m 9 z14_]) Q1FV))))
abbrev Q1G3 : AC := .seq Q1G0 (.seq (.run [.o 6 (.mv (.k (.slice .full 0 []))), .o 7 (.mv (.k (.slice .full 0 [])))]) .ret)
abbrev Q1G5 : AC := .seq (.run [.o 6 (.mv (.k (.slice .full 0 []))), .o 7 (.mv (.k (.slice .full 0 [])))]) (.seq (.run [.o 8 (.mv (.k (.slice .full 0 [])))]) Q1G3)
abbrev Q1GD : AC := .par [.o 15 (.faddr z1_ 3), .o 16 (.load z15_ false 1), .o 17 (.load z5_ true 4), .c 18 n_tree_expr [z17_], .o 19 (.bslice [(.int .i64 0), (.int .i64 0), (.str []), (.slice .full 0 [])] 4 1 [(0, z18_)]), .o 20 (.app 4 56 z16_ z19_), .o 21 (.faddr z1_ 3), .op none none (.store z21_ z20_ 1)] [(2, 0), (3, 0), (0, 0), (1, 1), (4, 0), (5, 0), (6, 0), (7, 0)]
abbrev Q1GH : AC := .seq (.block 1 (.seq (.run [.o 13 (.iaddr z9_ z11_ 4), .o 14 (.load z13_ true 4), .o 5 (.alloc [(.int .i64 0), (.int .i64 0), (.str []), (.slice .full 0 [])]), .op none none (.store z5_ z14_ 4)]) Q1GD)) (.run [.o 22 (.bin .add z11_ (.k (.int .i64 1))), .m 11 z22_])
abbrev Q1GL : AC := .block 0 (.loop (.seq (.run [.o 12 (.bin .lss z11_ z10_)]) (.seq (.cond z12_ .skip (.exit 0)) Q1GH)))
abbrev Q1GP : AC := .seq (.seq (.run [.m 9 z3_, .o 10 (.len z9_), .o 11 (.mv (.k (.int .i64 0)))]) Q1GL) (.seq (.run [.o 23 (.load z1_ true 4), .op none none (.store z2_ z23_ 4)]) .ret)
abbrev Q1GR : AC := .seq (.run [.o 6 (.faddr z1_ 3), .o 7 (.load z6_ false 1), .m 3 z7_]) (.seq (.run [.o 8 (.faddr z1_ 3), .op none none (.store z8_ (.k (.slice .full 0 [])) 1)]) Q1GP)
abbrev Q1GS : AC := .seq (.run [.o 1 (.box z0_), .o 2 (.alloc [(.int .i64 0), (.int .i64 0), (.str []), (.slice .full 0 [])])]) Q1GR
abbrev Q1GW : AC := .seq (.run [.o 4 (.mv (.k (.bool false)))]) (.seq (.run [.m 5 z1_, .m 6 z5_, .g 7 6 true (.mv z0_), .d 8 6 true n_lex_Name [z7_], .o 9 (.pick z6_ z8_ (.k (.bool false))), .m 10 z9_, .g 11 10 false (.mv z1_), .g 12 10 false (.un .not z11_), .g 13 10 false (.mv z12_), .g 14 13 true (.mv z0_), .g 15 13 true (.bin .eql z14_ (.k (.str []))), .g 16 10 false (.pick z13_ z15_ (.k (.bool false))), .o 17 (.pick z10_ (.k (.bool true)) z16_), .m 4 z17_]) .ret)
abbrev Q1H0 : AC := .seq (.run [.o 2 (.box z0_), .o 4 (.mv (.k (.bool false)))]) (.seq (.run [.m 5 z1_, .m 6 z5_, .g 7 6 true (.load z2_ true 4), .d 8 6 true n_tree_MayExpr [z7_], .o 9 (.pick z6_ z8_ (.k (.bool false))), .m 10 z9_, .g 11 10 false (.mv z1_), .g 12 10 false (.un .not z11_), .g 13 10 false (.mv z12_), .g 14 13 true (.load z2_ true 4), .d 15 13 true n_tree_none [z14_], .g 16 10 false (.pick z13_ z15_ (.k (.bool false))), .o 17 (.pick z10_ (.k (.bool true)) z16_), .m 4 z17_]) .ret)
abbrev Q1H9 : AC := .cond z25_ (.seq (.run [.o 2 (.mv (.k (.bool false)))]) .ret) .skip
abbrev Q1HB : AC := .seq (.run [.o 9 (.iaddr z5_ z7_ 6), .o 10 (.load z9_ true 6), .o 4 (.alloc [(.bool false), (.str []), (.int .i64 0), (.int .i64 0), (.str []), (.slice .full 0 [])]), .op none none (.store z4_ z10_ 6)]) (.seq (.run [.o 11 (.faddr z4_ 1), .o 12 (.load z11_ false 1), .o 13 (.faddr z4_ 0), .o 14 (.load z13_ false 1), .c 15 n_tree_named [z12_, z14_], .o 16 (.un .not z15_), .m 17 z16_, .g 18 17 false (.faddr z4_ 2), .g 19 17 false (.load z18_ true 4), .g 20 17 false (.faddr z4_ 0), .g 21 17 false (.load z20_ false 1), .g 22 17 false (.un .not z21_), .d 23 17 false n_tree_worth [z19_, z22_], .g 24 17 false (.un .not z23_), .o 25 (.pick z17_ (.k (.bool true)) z24_)]) Q1H9)
abbrev Q1HF : AC := .seq (.cond z8_ .skip (.exit 0)) (.seq (.block 1 Q1HB) (.run [.o 26 (.bin .add z7_ (.k (.int .i64 1))), .m 7 z26_]))
abbrev Q1HJ : AC := .seq (.run [.m 5 z0_, .o 6 (.len z5_), .o 7 (.mv (.k (.int .i64 0)))]) (.block 0 (.loop (.seq (.run [.o 8 (.bin .lss z7_ z6_)]) Q1HF)))
abbrev Q1HM : AC := .seq Q1HJ (.seq (.run [.o 2 (.mv (.k (.bool true)))]) .ret)
abbrev Q1HN : AC := .seq (.run [.o 2 (.mv (.k (.bool false)))]) Q1HM
abbrev Q1HQ : AC := .par [.m 4 z0_, .c 5 n_parse_reader_good [z4_], .m 6 z5_, .g 7 6 true (.mv z0_), .d 8 6 true n_parse_reader_peek [z7_], .g 9 6 true (.fld z8_ 0 false 1), .g 10 6 true (.bin .eql z9_ (.k (.int .i64 1))), .o 11 (.pick z6_ z10_ (.k (.bool false))), .m 12 z11_, .g 13 12 true (.mv z0_), .g 14 12 true (.nilck z13_), .g 15 12 true (.faddr z14_ 0), .g 16 12 true (.load z15_ false 1), .g 17 12 true (.mv z0_), .g 18 12 true (.nilck z17_), .g 19 12 true (.faddr z18_ 1), .g 20 12 true (.load z19_ false 1), .g 21 12 true (.bin .add z20_ (.k (.int .i64 1))), .g 22 12 true (.iaddr z16_ z21_ 4), .g 23 12 true (.faddr z22_ 0), .g 24 12 true (.load z23_ false 1), .g 25 12 true (.bin .eql z24_ (.k (.int .i64 4))), .o 26 (.pick z12_ z25_ (.k (.bool false))), .m 27 z26_, .g 28 27 true (.mv z0_), .g 29 27 true (.nilck z28_), .g 30 27 true (.faddr z29_ 0), .g 31 27 true (.load z30_ false 1), .g 32 27 true (.mv z0_), .g 33 27 true (.nilck z32_), .g 34 27 true (.faddr z33_ 1), .g 35 27 true (.load z34_ false 1), .g 36 27 true (.bin .add z35_ (.k (.int .i64 1))), .g 37 27 true (.iaddr z31_ z36_ 4), .g 38 27 true (.faddr z37_ 1), .g 39 27 true (.load z38_ false 1), .g 40 27 true (.bin .eql z39_ (.k (.str [58]))), .o 41 (.pick z27_ z40_ (.k (.bool false)))] [(0, 0), (1, 0), (2, 0), (3, 0), (4, 0), (5, 0), (6, 0), (7, 0), (8, 0), (9, 0), (10, 0), (11, 0), (12, 0), (13, 0), (14, 0), (15, 0), (16, 0), (17, 0), (18, 0), (19, 0), (20, 0), (21, 0), (22, 0), (23, 0), (24, 0), (25, 0), (26, 0), (27, 0), (28, 0), (29, 0), (30, 0), (31, 0), (32, 0), (33, 0), (34, 0), (35, 0), (36, 0), (37, 0)]
abbrev Q1HW : AC := .block 1 (.seq (.run [.m 42 z3_, .m 43 z0_, .c 44 n_parse_reader_peek [z43_], .o 45 (.fld z44_ 1 false 1), .o 46 (.bslice [(.str [])] 1 1 [(0, z45_)]), .o 47 (.app 1 16 z42_ z46_), .m 3 z47_]) (.run [.m 48 z0_, .o 49 (.nilck z48_), .o 50 (.faddr z49_ 1), .o 51 (.load z50_ false 1), .o 52 (.bin .add z51_ (.k (.int .i64 2))), .o 53 (.nilck z48_), .o 54 (.faddr z53_ 1), .op none none (.store z54_ z52_ 1)]))
abbrev Q1HZ : AC := .block 0 (.loop (.seq (.seq Q1HQ (.cond z41_ .skip (.exit 0))) Q1HW))
abbrev Q1I4 : AC := .seq (.run [.o 2 (.mv (.k (.slice .full 0 [])))]) (.seq (.run [.o 3 (.mv (.k (.slice .full 0 [])))]) (.seq Q1HZ (.seq (.run [.m 55 z3_, .m 2 z55_]) .ret)))
abbrev Q1IB : AC := .cond z10_ (.seq (.run [.m 11 z0_, .c 12 n_parse_reader_bad [z11_, (.k (.int .i64 3))]]) (.seq (.run [.o 13 (.build [(.int .i64 0), (.int .i64 0), (.slice .full 0 []), (.str []), (.str []), (.int .i64 0), (.int .i64 0), (.str []), (.slice .full 0 []), (.bool false), (.slice .full 0 []), (.slice .full 0 []), (.slice .full 0 [])] []), .op none none (.store z4_ z13_ 13)]) .ret)) .skip
abbrev Q1IJ : AC := .cond z29_ (.seq (.run [.m 30 z0_, .c 31 n_parse_reader_bad [z30_, (.k (.int .i64 4))]]) (.seq (.run [.o 32 (.build [(.int .i64 0), (.int .i64 0), (.slice .full 0 []), (.str []), (.str []), (.int .i64 0), (.int .i64 0), (.str []), (.slice .full 0 []), (.bool false), (.slice .full 0 []), (.slice .full 0 []), (.slice .full 0 [])] []), .op none none (.store z4_ z32_ 13)]) .ret)) .skip
abbrev Q1J2 : AC := .seq (.run [.m 56 z0_, .c 57 n_parse_reader_head [z56_], (.o 58 (.build [(.int .i64 0), (.int .i64 0), (.slice .full 0 []), (.str []), (.str []), (.int .i64 0), (.int .i64 0), (.str []), (.slice .full 0 []), (.bool false), (.slice .full 0 []), (.slice .full 0 []), (.slice .full 0 [])] [(1, (1, (.k (.int .i64 6)))), (5, (4, z57_))])), .o 6 (.alloc [(.int .i64 0), (.int .i64 0), (.slice .full 0 []), (.str []), (.str []), (.int .i64 0), (.int .i64 0), (.str []), (.slice .full 0 []), (.bool false), (.slice .full 0 []), (.slice .full 0 []), (.slice .full 0 [])]), .op none none (.store z6_ z58_ 13)]) (.seq (.run [.m 59 z0_, .m 60 z1_, .c 61 n_parse_reader_block [z59_, z60_], .o 62 (.faddr z6_ 11), .op none none (.store z62_ z61_ 1)]) (.seq (.run [.o 63 (.load z6_ true 13), .op none none (.store z4_ z63_ 13)]) .ret))
abbrev Q1J5 : AC := .cond z49_ (.seq (.run [.m 51 z0_, .m 52 z1_, .c 53 n_parse_reader_choice [z51_, z52_], .op none none (.store z4_ z53_ 13)]) .ret) (.seq (.run [.o 55 (.bin .eql z48_ (.k (.str [119, 104, 105, 108, 101]))), .m 54 z55_]) (.cond z54_ Q1J2 .skip))
abbrev Q1J7 : AC := .block 0 (.seq (.run [.o 50 (.bin .eql z48_ (.k (.str [105, 102]))), .m 49 z50_]) Q1J5)
abbrev Q1JE : AC := .seq (.run [.m 64 z0_, .o 65 (.faddr z5_ 1), .o 66 (.load z65_ false 1), .c 67 n_parse_reader_plain [z64_, z66_], .o 7 (.alloc [(.int .i64 0), (.int .i64 0), (.slice .full 0 []), (.str []), (.str []), (.int .i64 0), (.int .i64 0), (.str []), (.slice .full 0 []), (.bool false), (.slice .full 0 []), (.slice .full 0 []), (.slice .full 0 [])]), .op none none (.store z7_ z67_ 13)]) (.seq (.run [.m 68 z0_, (.c 69 n_parse_reader_want [z68_, (.k (.str [59]))])]) (.seq (.run [.o 70 (.load z7_ true 13), .op none none (.store z4_ z70_ 13)]) .ret))
abbrev Q1JH : AC := .seq (.seq (.run [.o 35 (.faddr z5_ 0), .o 36 (.load z35_ false 1), .o 37 (.bin .eql z36_ (.k (.int .i64 1)))]) (.cond z37_ (.seq (.run [.m 38 z0_, .c 39 n_parse_reader_named [z38_], .op none none (.store z4_ z39_ 13)]) .ret) .skip)) (.seq (.run [.m 40 z0_, .o 41 (.nilck z40_), .o 42 (.faddr z41_ 1), .o 43 (.load z42_ false 1), .o 44 (.bin .add z43_ (.k (.int .i64 1))), .o 45 (.nilck z40_), .o 46 (.faddr z45_ 1), .op none none (.store z46_ z44_ 1)]) (.seq (.seq (.run [.o 47 (.faddr z5_ 1), .o 48 (.load z47_ false 1)]) Q1J7) Q1JE))
abbrev Q1JJ : AC := .seq (.seq (.run [.m 21 z0_, .o 22 (.nilck z21_), .o 23 (.faddr z22_ 4), .o 24 (.load z23_ false 1), .o 25 (.bin .gtr z24_ (.k (.int .i64 200))), .m 26 z25_, .g 27 26 false (.mv z1_), .g 28 26 false (.bin .gtr z27_ (.k (.int .i64 12))), .o 29 (.pick z26_ (.k (.bool true)) z28_)]) Q1IJ) (.seq (.run [.m 33 z0_, .c 34 n_parse_reader_peek [z33_], .o 5 (.alloc [(.int .i64 0), (.str []), (.int .i64 0), (.int .i64 0)]), .op none none (.store z5_ z34_ 4)]) Q1JH)
abbrev Q1JL : AC := .seq (.seq (.run [.m 8 z0_, .c 9 n_parse_reader_begins [z8_], .o 10 (.un .not z9_)]) Q1IB) (.seq (.run [.m 14 z0_, .o 15 (.nilck z14_), .o 16 (.faddr z15_ 4), .o 17 (.load z16_ false 1), .o 18 (.bin .add z17_ (.k (.int .i64 1))), .o 19 (.nilck z14_), .o 20 (.faddr z19_ 4), .op none none (.store z20_ z18_ 1)]) Q1JJ)
abbrev Q1JM : AC := .seq (.run [.o 4 (.alloc [(.int .i64 0), (.int .i64 0), (.slice .full 0 []), (.str []), (.str []), (.int .i64 0), (.int .i64 0), (.str []), (.slice .full 0 []), (.bool false), (.slice .full 0 []), (.slice .full 0 []), (.slice .full 0 [])])]) Q1JL
abbrev Q1JQ : AC := .seq (.run [.o 1 (.box z0_), .o 2 (.mv (.k (.bool false)))]) (.seq (.run [.o 3 (.faddr z1_ 0), .o 4 (.load z3_ false 1), .o 5 (.bin .eql z4_ (.k (.int .i64 0))), .m 6 z5_, .g 7 6 true (.faddr z1_ 1), .g 8 6 true (.load z7_ false 1), .g 9 6 true (.bin .eql z8_ (.k (.int .i64 0))), .o 10 (.pick z6_ z9_ (.k (.bool false))), .m 11 z10_, .g 12 11 true (.faddr z1_ 2), .g 13 11 true (.load z12_ false 1), .g 14 11 true (.bin .eql z13_ (.k (.str []))), .o 15 (.pick z11_ z14_ (.k (.bool false))), .m 16 z15_, .g 17 16 true (.faddr z1_ 3), .g 18 16 true (.load z17_ false 1), .g 19 16 true (.len z18_), .g 20 16 true (.bin .eql z19_ (.k (.int .i64 0))), .o 21 (.pick z16_ z20_ (.k (.bool false))), .m 2 z21_]) .ret)
abbrev Q1JW : AC := .cond z8_ (.seq (.run [.o 2 (.mv (.k (.bool true)))]) .ret) .skip
abbrev Q1K1 : AC := .cond z11_ (.seq (.run [.o 2 (.mv (.k (.bool false)))]) .ret) .skip
abbrev Q1KD : AC := .seq (.run [.o 21 (.bin .eql z13_ (.k (.str [114, 101, 97, 100]))), .m 14 z21_]) (.cond z14_ .skip (.run [.o 22 (.bin .eql z13_ (.k (.str [112, 114, 105, 110, 116]))), .m 14 z22_]))
abbrev Q1KG : AC := .cond z14_ .skip (.seq (.run [.o 20 (.bin .eql z13_ (.k (.str [103, 111, 116, 111]))), .m 14 z20_]) (.cond z14_ .skip Q1KD))
abbrev Q1KI : AC := .cond z14_ .skip (.seq (.run [.o 19 (.bin .eql z13_ (.k (.str [114, 101, 116, 117, 114, 110]))), .m 14 z19_]) Q1KG)
abbrev Q1KK : AC := .cond z14_ .skip (.seq (.run [.o 18 (.bin .eql z13_ (.k (.str [99, 111, 110, 116, 105, 110, 117, 101]))), .m 14 z18_]) Q1KI)
abbrev Q1KM : AC := .cond z14_ .skip (.seq (.run [.o 17 (.bin .eql z13_ (.k (.str [98, 114, 101, 97, 107]))), .m 14 z17_]) Q1KK)
abbrev Q1KO : AC := .cond z14_ .skip (.seq (.run [.o 16 (.bin .eql z13_ (.k (.str [119, 104, 105, 108, 101]))), .m 14 z16_]) Q1KM)
abbrev Q1KS : AC := .cond z14_ (.seq (.run [.o 2 (.mv (.k (.bool true)))]) .ret) .skip
abbrev Q1KT : AC := .seq (.seq (.run [.o 15 (.bin .eql z13_ (.k (.str [105, 102]))), .m 14 z15_]) Q1KO) Q1KS
abbrev Q1KY : AC := .seq (.seq (.run [.o 12 (.faddr z3_ 1), .o 13 (.load z12_ false 1)]) (.block 0 Q1KT)) (.seq (.run [.o 2 (.mv (.k (.bool false)))]) .ret)
abbrev Q1KZ : AC := .seq (.seq (.run [.o 9 (.faddr z3_ 0), .o 10 (.load z9_ false 1), .o 11 (.bin .neq z10_ (.k (.int .i64 3)))]) Q1K1) Q1KY
abbrev Q1L0 : AC := .seq (.seq (.run [.o 6 (.faddr z3_ 0), .o 7 (.load z6_ false 1), .o 8 (.bin .eql z7_ (.k (.int .i64 1)))]) Q1JW) Q1KZ
abbrev Q1L2 : AC := .seq (.run [.o 2 (.mv (.k (.bool false)))]) (.seq (.run [.m 4 z0_, .c 5 n_parse_reader_peek [z4_], .o 3 (.alloc [(.int .i64 0), (.str []), (.int .i64 0), (.int .i64 0)]), .op none none (.store z3_ z5_ 4)]) Q1L0)
abbrev Q1L8 : AC := .cond z8_ (.seq (.run [.m 9 z0_, .m 10 z3_, (.c 11 n_parse_reader_call [z9_, (.k (.str [])), z10_]), .op none none (.store z2_ z11_ 13)]) .ret) .skip
abbrev Q1LB : AC := .par [.m 14 z0_, .c 15 n_parse_reader_good [z14_], .m 16 z15_, .g 17 16 true (.mv z0_), .d 18 16 true n_parse_reader_peek [z17_], .g 19 16 true (.fld z18_ 0 false 1), .g 20 16 true (.bin .eql z19_ (.k (.int .i64 1))), .o 21 (.pick z16_ z20_ (.k (.bool false))), .m 22 z21_, .g 23 22 true (.mv z0_), .g 24 22 true (.nilck z23_), .g 25 22 true (.faddr z24_ 0), .g 26 22 true (.load z25_ false 1), .g 27 22 true (.mv z0_), .g 28 22 true (.nilck z27_), .g 29 22 true (.faddr z28_ 1), .g 30 22 true (.load z29_ false 1), .g 31 22 true (.bin .add z30_ (.k (.int .i64 1))), .g 32 22 true (.iaddr z26_ z31_ 4), .g 33 22 true (.faddr z32_ 0), .g 34 22 true (.load z33_ false 1), .g 35 22 true (.bin .eql z34_ (.k (.int .i64 4))), .o 36 (.pick z22_ z35_ (.k (.bool false))), .m 37 z36_, .g 38 37 true (.mv z0_), .g 39 37 true (.nilck z38_), .g 40 37 true (.faddr z39_ 0), .g 41 37 true (.load z40_ false 1), .g 42 37 true (.mv z0_), .g 43 37 true (.nilck z42_), .g 44 37 true (.faddr z43_ 1), .g 45 37 true (.load z44_ false 1), .g 46 37 true (.bin .add z45_ (.k (.int .i64 1))), .g 47 37 true (.iaddr z41_ z46_ 4), .g 48 37 true (.faddr z47_ 1), .g 49 37 true (.load z48_ false 1), .g 50 37 true (.bin .eql z49_ (.k (.str [40]))), .o 51 (.pick z37_ z50_ (.k (.bool false)))] [(0, 0), (1, 0), (2, 0), (3, 0), (4, 0), (5, 0), (6, 0), (7, 0), (8, 0), (9, 0), (10, 0), (11, 0), (12, 0), (13, 0), (14, 0), (15, 0), (16, 0), (17, 0), (18, 0), (19, 0), (20, 0), (21, 0), (22, 0), (23, 0), (24, 0), (25, 0), (26, 0), (27, 0), (28, 0), (29, 0), (30, 0), (31, 0), (32, 0), (33, 0), (34, 0), (35, 0), (36, 0), (37, 0)]
abbrev Q1LF : AC := .seq Q1LB (.cond z51_ (.seq (.run [.m 52 z0_, .m 53 z3_, .m 54 z0_, .c 55 n_parse_reader_name [z54_, (.k (.bool true))], .c 56 n_parse_reader_call [z52_, z53_, z55_], .op none none (.store z2_ z56_ 13)]) .ret) .skip)
abbrev Q1LL : AC := .seq (.run [.m 57 z3_, .m 58 z0_, .c 59 n_parse_reader_whole [z58_], (.o 60 (.build [(.int .i64 0), (.int .i64 0), (.slice .full 0 []), (.str []), (.str []), (.int .i64 0), (.int .i64 0), (.str []), (.slice .full 0 []), (.bool false), (.slice .full 0 []), (.slice .full 0 []), (.slice .full 0 [])] [(1, (1, (.k (.int .i64 1)))), (3, (1, z57_)), (5, (4, z59_))])), .o 4 (.alloc [(.int .i64 0), (.int .i64 0), (.slice .full 0 []), (.str []), (.str []), (.int .i64 0), (.int .i64 0), (.str []), (.slice .full 0 []), (.bool false), (.slice .full 0 []), (.slice .full 0 []), (.slice .full 0 [])]), .op none none (.store z4_ z60_ 13)]) (.seq (.run [.m 61 z0_, (.c 62 n_parse_reader_want [z61_, (.k (.str [59]))])]) (.seq (.run [.o 63 (.load z4_ true 13), .op none none (.store z2_ z63_ 13)]) .ret))
abbrev Q1LO : AC := .seq (.seq (.run [.m 7 z0_, (.c 8 n_parse_reader_is [z7_, (.k (.str [40]))])]) Q1L8) (.seq (.run [.m 12 z0_, (.c 13 n_parse_reader_want [z12_, (.k (.str [61]))])]) (.seq Q1LF Q1LL))
abbrev Q1LQ : AC := .seq (.run [.o 2 (.alloc [(.int .i64 0), (.int .i64 0), (.slice .full 0 []), (.str []), (.str []), (.int .i64 0), (.int .i64 0), (.str []), (.slice .full 0 []), (.bool false), (.slice .full 0 []), (.slice .full 0 []), (.slice .full 0 [])])]) (.seq (.run [.m 5 z0_, .c 6 n_parse_reader_name [z5_, (.k (.bool true))], .m 3 z6_]) Q1LO)
abbrev Q1M0 : AC := .seq (.seq (.run [.m 13 z0_, (.c 14 n_parse_reader_take [z13_, (.k (.str [101, 108, 115, 101]))])]) (.cond z14_ (.run [.m 15 z0_, .m 16 z1_, .c 17 n_parse_reader_block [z15_, z16_], .o 18 (.faddr z5_ 12), .op none none (.store z18_ z17_ 1)]) .skip)) (.seq (.run [.o 19 (.load z5_ true 13), .op none none (.store z4_ z19_ 13)]) .ret)
abbrev Q1M2 : AC := .seq (.run [.m 6 z0_, .c 7 n_parse_reader_head [z6_], (.o 8 (.build [(.int .i64 0), (.int .i64 0), (.slice .full 0 []), (.str []), (.str []), (.int .i64 0), (.int .i64 0), (.str []), (.slice .full 0 []), (.bool false), (.slice .full 0 []), (.slice .full 0 []), (.slice .full 0 [])] [(1, (1, (.k (.int .i64 5)))), (5, (4, z7_))])), .o 5 (.alloc [(.int .i64 0), (.int .i64 0), (.slice .full 0 []), (.str []), (.str []), (.int .i64 0), (.int .i64 0), (.str []), (.slice .full 0 []), (.bool false), (.slice .full 0 []), (.slice .full 0 []), (.slice .full 0 [])]), .op none none (.store z5_ z8_ 13)]) (.seq (.run [.m 9 z0_, .m 10 z1_, .c 11 n_parse_reader_block [z9_, z10_], .o 12 (.faddr z5_ 11), .op none none (.store z12_ z11_ 1)]) Q1M0)
abbrev Q1M3 : AC := .seq (.run [.o 4 (.alloc [(.int .i64 0), (.int .i64 0), (.slice .full 0 []), (.str []), (.str []), (.int .i64 0), (.int .i64 0), (.str []), (.slice .full 0 []), (.bool false), (.slice .full 0 []), (.slice .full 0 []), (.slice .full 0 [])])]) Q1M2
abbrev Q1MB : AC := .seq (.run [.m 6 z0_, .c 7 n_parse_reader_whole [z6_], .o 3 (.alloc [(.int .i64 0), (.int .i64 0), (.str []), (.slice .full 0 [])]), .op none none (.store z3_ z7_ 4)]) (.seq (.run [.m 8 z0_, (.c 9 n_parse_reader_want [z8_, (.k (.str [41]))])]) (.seq (.run [.o 10 (.load z3_ true 4), .op none none (.store z2_ z10_ 4)]) .ret))
abbrev Q1MD : AC := .seq (.run [.o 2 (.alloc [(.int .i64 0), (.int .i64 0), (.str []), (.slice .full 0 [])])]) (.seq (.run [.m 4 z0_, (.c 5 n_parse_reader_want [z4_, (.k (.str [40]))])]) Q1MB)
abbrev Q1MK : AC := .seq (.run [.m 7 z0_, (.c 8 n_parse_reader_want [z7_, (.k (.str [123]))])]) (.seq (.run [.m 10 z0_, .m 11 z1_, .o 12 (.bin .add z11_ (.k (.int .i64 1))), .c 13 n_parse_reader_rows [z10_, z12_, (.k (.bool false))], .m 9 z13_, .o 14 (.ext z9_ 0), .o 15 (.ext z9_ 1), .m 5 z14_, .m 6 z15_]) (.seq (.run [.m 16 z5_, .m 4 z16_]) .ret))
abbrev Q1ML : AC := .seq (.run [.o 4 (.mv (.k (.slice .full 0 [])))]) Q1MK
abbrev Q1MY : AC := .seq (.run [.m 16 z0_, (.c 17 n_parse_reader_is [z16_, (.k (.str [59]))]), .o 18 (.un .not z17_)]) (.cond z18_ (.run [.m 19 z0_, .c 20 n_parse_reader_whole [z19_], .o 21 (.faddr z5_ 9), .op none none (.store z21_ (.k (.bool true)) 1), .o 22 (.faddr z5_ 5), .op none none (.store z22_ z20_ 4)]) .skip)
abbrev Q1N7 : AC := .seq (.run [.o 36 (.bin .eql z6_ (.k (.str [112, 114, 105, 110, 116]))), .m 35 z36_]) (.cond z35_ (.run [.m 37 z0_, .c 38 n_parse_reader_whole [z37_], .o 39 (.faddr z5_ 1), .op none none (.store z39_ (.k (.int .i64 3)) 1), .o 40 (.faddr z5_ 5), .op none none (.store z40_ z38_ 4)]) .skip)
abbrev Q1N9 : AC := .seq (.run [.o 30 (.bin .eql z6_ (.k (.str [114, 101, 97, 100]))), .m 29 z30_]) (.cond z29_ (.run [.m 31 z0_, .c 32 n_parse_reader_name [z31_, (.k (.bool true))], .o 33 (.faddr z5_ 1), .op none none (.store z33_ (.k (.int .i64 2)) 1), .o 34 (.faddr z5_ 3), .op none none (.store z34_ z32_ 1)]) Q1N7)
abbrev Q1NB : AC := .seq (.run [.o 24 (.bin .eql z6_ (.k (.str [103, 111, 116, 111]))), .m 23 z24_]) (.cond z23_ (.run [.m 25 z0_, .c 26 n_parse_reader_name [z25_, (.k (.bool true))], .o 27 (.faddr z5_ 1), .op none none (.store z27_ (.k (.int .i64 10)) 1), .o 28 (.faddr z5_ 3), .op none none (.store z28_ z26_ 1)]) Q1N9)
abbrev Q1NC : AC := .cond z13_ (.seq (.run [.o 15 (.faddr z5_ 1), .op none none (.store z15_ (.k (.int .i64 9)) 1)]) Q1MY) Q1NB
abbrev Q1NE : AC := .cond z10_ (.run [.o 12 (.faddr z5_ 1), .op none none (.store z12_ (.k (.int .i64 8)) 1)]) (.seq (.run [.o 14 (.bin .eql z6_ (.k (.str [114, 101, 116, 117, 114, 110]))), .m 13 z14_]) Q1NC)
abbrev Q1NG : AC := .cond z7_ (.run [.o 9 (.faddr z5_ 1), .op none none (.store z9_ (.k (.int .i64 7)) 1)]) (.seq (.run [.o 11 (.bin .eql z6_ (.k (.str [99, 111, 110, 116, 105, 110, 117, 101]))), .m 10 z11_]) Q1NE)
abbrev Q1NI : AC := .block 0 (.seq (.run [.o 8 (.bin .eql z6_ (.k (.str [98, 114, 101, 97, 107]))), .m 7 z8_]) Q1NG)
abbrev Q1NO : AC := .seq (.run [.o 4 (.alloc [(.int .i64 0), (.int .i64 0), (.slice .full 0 []), (.str []), (.str []), (.int .i64 0), (.int .i64 0), (.str []), (.slice .full 0 []), (.bool false), (.slice .full 0 []), (.slice .full 0 []), (.slice .full 0 [])])]) (.seq (.run [.o 5 (.alloc [(.int .i64 0), (.int .i64 0), (.slice .full 0 []), (.str []), (.str []), (.int .i64 0), (.int .i64 0), (.str []), (.slice .full 0 []), (.bool false), (.slice .full 0 []), (.slice .full 0 []), (.slice .full 0 [])])]) (.seq (.seq (.run [.m 6 z1_]) Q1NI) (.seq (.run [.o 41 (.load z5_ true 13), .op none none (.store z4_ z41_ 13)]) .ret)))
abbrev Q1NX : AC := .par [.o 24 (.faddr z7_ 10), .o 25 (.load z24_ false 1), .m 26 z0_, .c 27 n_parse_reader_name [z26_, (.k (.bool true))], (.o 28 (.build [(.bool false), (.str []), (.int .i64 0), (.int .i64 0), (.str []), (.slice .full 0 [])] [(0, (1, (.k (.bool true)))), (1, (1, z27_))])), .o 29 (.bslice [(.bool false), (.str []), (.int .i64 0), (.int .i64 0), (.str []), (.slice .full 0 [])] 6 1 [(0, z28_)]), .o 30 (.app 6 80 z25_ z29_), .o 31 (.faddr z7_ 10), .op none none (.store z31_ z30_ 1)] [(2, 0), (3, 0), (0, 0), (1, 1), (4, 0), (5, 0), (6, 0), (7, 0), (8, 0)]
abbrev Q1NY : AC := .par [.o 32 (.faddr z7_ 10), .o 33 (.load z32_ false 1), .m 34 z0_, .c 35 n_parse_reader_whole [z34_], .o 36 (.build [(.bool false), (.str []), (.int .i64 0), (.int .i64 0), (.str []), (.slice .full 0 [])] [(2, (4, z35_))]), .o 37 (.bslice [(.bool false), (.str []), (.int .i64 0), (.int .i64 0), (.str []), (.slice .full 0 [])] 6 1 [(0, z36_)]), .o 38 (.app 6 80 z33_ z37_), .o 39 (.faddr z7_ 10), .op none none (.store z39_ z38_ 1)] [(2, 0), (3, 0), (0, 0), (1, 1), (4, 0), (5, 0), (6, 0), (7, 0), (8, 0)]
abbrev Q1O4 : AC := .seq (.seq (.run [.m 22 z0_, (.c 23 n_parse_reader_take [z22_, (.k (.str [114, 101, 102]))])]) (.cond z23_ Q1NX Q1NY)) (.seq (.run [.m 40 z0_, (.c 41 n_parse_reader_take [z40_, (.k (.str [44]))]), .o 42 (.un .not z41_)]) (.cond z42_ (.exit 0) .skip))
abbrev Q1O8 : AC := .block 0 (.loop (.seq (.seq (.run [.m 20 z0_, .c 21 n_parse_reader_good [z20_]]) (.cond z21_ .skip (.exit 0))) (.block 1 Q1O4)))
abbrev Q1OG : AC := .seq (.run [.m 43 z0_, (.c 44 n_parse_reader_want [z43_, (.k (.str [41]))])]) (.seq (.run [.m 45 z0_, (.c 46 n_parse_reader_want [z45_, (.k (.str [59]))])]) (.seq (.run [.o 47 (.load z7_ true 13), .op none none (.store z6_ z47_ 13)]) .ret))
abbrev Q1OH : AC := .seq (.seq (.run [.m 13 z0_, .c 14 n_parse_reader_good [z13_], .m 15 z14_, .g 16 15 true (.mv z0_), (.d 17 15 true n_parse_reader_is [z16_, (.k (.str [41]))]), .g 18 15 true (.un .not z17_), .o 19 (.pick z15_ z18_ (.k (.bool false)))]) (.cond z19_ Q1O8 .skip)) Q1OG
abbrev Q1OJ : AC := .seq (.run [.m 8 z1_, .m 9 z2_, (.o 10 (.build [(.int .i64 0), (.int .i64 0), (.slice .full 0 []), (.str []), (.str []), (.int .i64 0), (.int .i64 0), (.str []), (.slice .full 0 []), (.bool false), (.slice .full 0 []), (.slice .full 0 []), (.slice .full 0 [])] [(1, (1, (.k (.int .i64 4)))), (3, (1, z8_)), (4, (1, z9_))])), .o 7 (.alloc [(.int .i64 0), (.int .i64 0), (.slice .full 0 []), (.str []), (.str []), (.int .i64 0), (.int .i64 0), (.str []), (.slice .full 0 []), (.bool false), (.slice .full 0 []), (.slice .full 0 []), (.slice .full 0 [])]), .op none none (.store z7_ z10_ 13)]) (.seq (.run [.m 11 z0_, (.c 12 n_parse_reader_want [z11_, (.k (.str [40]))])]) Q1OH)
abbrev Q1OK : AC := .seq (.run [.o 6 (.alloc [(.int .i64 0), (.int .i64 0), (.slice .full 0 []), (.str []), (.str []), (.int .i64 0), (.int .i64 0), (.str []), (.slice .full 0 []), (.bool false), (.slice .full 0 []), (.slice .full 0 []), (.slice .full 0 [])])]) Q1OJ

end Go.Abs

/-! Have3 -/

namespace Go.Abs
open Go.Proofs

theorem has_ref1_Words : Has Tryd.prog n_ref1_Words 2 [(0, none)] Q1B0 := ⟨Tryd.f111, by kernel_rfl, by kernel_rfl⟩
theorem has_parse_reader_one : Has Tryd.prog n_parse_reader_one 64 [(2, (some (true, 4)))] Q1CD := ⟨Tryd.f113, by kernel_rfl, by kernel_rfl⟩
theorem has_parse_op : Has Tryd.prog n_parse_op 35 [(2, none), (3, none)] Q1EK := ⟨Tryd.f114, by kernel_rfl, by kernel_rfl⟩
theorem has_parse_reader_name : Has Tryd.prog n_parse_reader_name 31 [(4, none)] Q1F8 := ⟨Tryd.f115, by kernel_rfl, by kernel_rfl⟩
theorem has_parse_reader_want : Has Tryd.prog n_parse_reader_want 10 [] Q1FC := ⟨Tryd.f116, by kernel_rfl, by kernel_rfl⟩
theorem has_parse_reader_rows : Has Tryd.prog n_parse_reader_rows 43 [(6, none), (7, none)] Q1G5 := ⟨Tryd.f117, by kernel_rfl, by kernel_rfl⟩
theorem has_tree_expr : Has Tryd.prog n_tree_expr 24 [(2, (some (true, 4)))] Q1GS := ⟨Tryd.f118, by kernel_rfl, by kernel_rfl⟩
theorem has_tree_named : Has Tryd.prog n_tree_named 18 [(4, none)] Q1GW := ⟨Tryd.f119, by kernel_rfl, by kernel_rfl⟩
theorem has_tree_worth : Has Tryd.prog n_tree_worth 18 [(4, none)] Q1H0 := ⟨Tryd.f120, by kernel_rfl, by kernel_rfl⟩
theorem has_tree_handed : Has Tryd.prog n_tree_handed 27 [(2, none)] Q1HN := ⟨Tryd.f121, by kernel_rfl, by kernel_rfl⟩
theorem has_parse_reader_labels : Has Tryd.prog n_parse_reader_labels 56 [(2, none)] Q1I4 := ⟨Tryd.f128, by kernel_rfl, by kernel_rfl⟩
theorem has_parse_reader_stmt : Has Tryd.prog n_parse_reader_stmt 71 [(4, (some (true, 13)))] Q1JM := ⟨Tryd.f129, by kernel_rfl, by kernel_rfl⟩
theorem has_tree_none : Has Tryd.prog n_tree_none 22 [(2, none)] Q1JQ := ⟨Tryd.f130, by kernel_rfl, by kernel_rfl⟩
theorem has_parse_reader_begins : Has Tryd.prog n_parse_reader_begins 23 [(2, none)] Q1L2 := ⟨Tryd.f136, by kernel_rfl, by kernel_rfl⟩
theorem has_parse_reader_named : Has Tryd.prog n_parse_reader_named 64 [(2, (some (true, 13)))] Q1LQ := ⟨Tryd.f137, by kernel_rfl, by kernel_rfl⟩
theorem has_parse_reader_choice : Has Tryd.prog n_parse_reader_choice 20 [(4, (some (true, 13)))] Q1M3 := ⟨Tryd.f138, by kernel_rfl, by kernel_rfl⟩
theorem has_parse_reader_head : Has Tryd.prog n_parse_reader_head 11 [(2, (some (true, 4)))] Q1MD := ⟨Tryd.f139, by kernel_rfl, by kernel_rfl⟩
theorem has_parse_reader_block : Has Tryd.prog n_parse_reader_block 17 [(4, none)] Q1ML := ⟨Tryd.f140, by kernel_rfl, by kernel_rfl⟩
theorem has_parse_reader_plain : Has Tryd.prog n_parse_reader_plain 42 [(4, (some (true, 13)))] Q1NO := ⟨Tryd.f141, by kernel_rfl, by kernel_rfl⟩
theorem has_parse_reader_call : Has Tryd.prog n_parse_reader_call 48 [(6, (some (true, 13)))] Q1OK := ⟨Tryd.f144, by kernel_rfl, by kernel_rfl⟩

end Go.Abs

/-! Prs -/

namespace Go.Abs

set_option maxRecDepth 8000
open Go.Proofs

@[go_sem] def encRd (r : Rd) : List D := [.slice .shared 4 (r.l.map encTok), .int .i64 r.i, .int .i64 r.code, .int .i64 r.fat, .int .i64 r.n]
theorem okRd (r : Rd) : D.oks 0 0 (encRd r) = true := by simp [encRd, D.oks, D.ok, Tag.ok, okrTok]

theorem peek_lt {r : Rd} {t : Tok} (h : r.peek = some t) : r.i < 4611686018427387904 := (peek_get h).1
theorem is_lt {r : Rd} {s : Str} {t : Bool} (h : r.is s = some t) : r.i < 4611686018427387904 := by
 obtain ⟨t, h1, h⟩ := Option.bind_eq_some_iff.1 h
 exact peek_lt h1

-- good
theorem good_0 (l : List Tok) (i c f n : Int) : Fun Tryd.prog n_parse_reader_good [.ptr 0 0] ⟨[[.slice .shared 4 (l.map encTok), .int .i64 i, .int .i64 c, .int .i64 f, .int .i64 n]], []⟩ (.bool (c == 0)) ⟨[[.slice .shared 4 (l.map encTok), .int .i64 i, .int .i64 c, .int .i64 f, .int .i64 n]], []⟩ := by
 refine Fun.go has_parse_reader_good rfl fun B Q hB hQ => ?_
 have ⟨hC, hH, hJ, hM⟩ := H4_
 repeat' (first
 | simp only [go_sem, hC, hH, hJ, hM, fgrTok]
 | (with_reducible first | refine kT_ fun hc => ?_ | refine kF_ fun hc => ?_ | refine kS_ (fun hc => ?_) fun hc => ?_) <;> (try simp only [hc, bs, ↓reduceIte] at h) <;> try simp only [hc]
 | (with_reducible refine lA_ hQ ?_; (try cases h); simp only [resL, oneD, sI_, eL_, go_sem, hC, hH, hJ, hM, fgrTok]; try exact lE_)
 | (cases h; done))
theorem good_s {l : List Tok} {i c f n : Int} {s : St} {o : Nat} (ho : s.objs[o]? = some [.slice .shared 4 (l.map encTok), .int .i64 i, .int .i64 c, .int .i64 f, .int .i64 n]) : Fun Tryd.prog n_parse_reader_good [.ptr o 0] s (.bool (c == 0)) ⟨s.objs.set o [.slice .shared 4 (l.map encTok), .int .i64 i, .int .i64 c, .int .i64 f, .int .i64 n], s.toks⟩ :=
 have hk : D.oks 0 0 [.slice .shared 4 (l.map encTok), .int .i64 i, .int .i64 c, .int .i64 f, .int .i64 n] = true := by simp [D.oks, D.ok, Tag.ok, okrTok]
 Fun.meth (good_0 l i c f n) rfl hk hk rfl ho
theorem peek_0 {r : Rd} {t : Tok} (h : r.peek = some t) : Fun Tryd.prog n_parse_reader_peek [.ptr 0 0] ⟨[encRd r], []⟩ (.agg (encTok t)) ⟨[encRd r], []⟩ := by
 obtain ⟨h2, h, _, _⟩ := peek_get h
 refine Fun.go has_parse_reader_peek rfl fun B Q hB hQ => ?_
 have ⟨hC, hH, hJ, hM⟩ := H4_
 repeat' (first
 | simp only [go_sem, hC, hH, hJ, hM, fgrTok, h]
 | (with_reducible first | refine kT_ fun hc => ?_ | refine kF_ fun hc => ?_ | refine kS_ (fun hc => ?_) fun hc => ?_) <;> (try simp only [hc, bs, ↓reduceIte] at h) <;> try simp only [hc]
 | (with_reducible refine lA_ hQ ?_; (try cases h); simp only [resL, oneD, sI_, eL_, go_sem, hC, hH, hJ, hM, fgrTok, h]; try exact lE_)
 | (cases h; done))
theorem peek_s {r : Rd} {t : Tok} (h : r.peek = some t) {s : St} {o : Nat} (ho : s.objs[o]? = some (encRd r)) : Fun Tryd.prog n_parse_reader_peek [.ptr o 0] s (.agg (encTok t)) ⟨s.objs.set o (encRd r), s.toks⟩ :=
 (peek_0 h).meth rfl (okRd r) (okRd r) (okTok t) ho
theorem is_0 {r : Rd} {text : Str} {b : Bool} (h : r.is text = some b) : Fun Tryd.prog n_parse_reader_is [.ptr 0 0, .str text] ⟨[encRd r], []⟩ (.bool b) ⟨[encRd r], []⟩ := by
 unfold Rd.is at h
 refine Fun.go has_parse_reader_is rfl fun B Q hB hQ => ?_
 have ⟨hC, hH, hJ, hM⟩ := H4_
 repeat' (first
 | simp only [go_sem, hC, hH, hJ, hM, fgrTok]
 | (rw [Option.bind_eq_some_iff] at h; obtain ⟨_, h1, h⟩ := h; first | (with_reducible refine CU (peek_s h1 (by with_unfolding_all rfl)) ?_))
 | (with_reducible first | refine kT_ fun hc => ?_ | refine kF_ fun hc => ?_ | refine kS_ (fun hc => ?_) fun hc => ?_) <;> (try simp only [hc, bs, ↓reduceIte] at h) <;> try simp only [hc]
 | (with_reducible refine lA_ hQ ?_; (try cases h); simp only [resL, oneD, sI_, eL_, go_sem, hC, hH, hJ, hM, fgrTok]; try exact lE_)
 | (cases h; done))
theorem is_s {r : Rd} {text : Str} {b : Bool} (h : r.is text = some b) {s : St} {o : Nat} (ho : s.objs[o]? = some (encRd r)) : Fun Tryd.prog n_parse_reader_is [.ptr o 0, .str text] s (.bool b) ⟨s.objs.set o (encRd r), s.toks⟩ :=
 (is_0 h).meth rfl (okRd r) (okRd r) rfl ho
theorem bad_0 {r r' : Rd} {c : Int} (h : r.bad c = some r') : Fun Tryd.prog n_parse_reader_bad [.ptr 0 0, .int .i64 c] ⟨[encRd r], []⟩ (.tuple []) ⟨[encRd r'], []⟩ := by
 unfold Rd.bad at h
 refine Fun.go has_parse_reader_bad rfl fun B Q hB hQ => ?_
 have ⟨hC, hH, hJ, hM⟩ := H4_
 repeat' (first
 | simp only [go_sem, hC, hH, hJ, hM, fgrTok]
 | (rw [Option.bind_eq_some_iff] at h; obtain ⟨_, h1, h⟩ := h; first | (with_reducible refine CU (peek_s h1 (by with_unfolding_all rfl)) ?_))
 | (with_reducible refine CU (good_s (by with_unfolding_all rfl)) ?_)
 | (with_reducible first | refine kT_ fun hc => ?_ | refine kF_ fun hc => ?_ | refine kS_ (fun hc => ?_) fun hc => ?_) <;> (try simp only [hc, bs, ↓reduceIte] at h) <;> try simp only [hc]
 | (with_reducible refine lA_ hQ ?_; (try cases h); simp only [resL, oneD, sI_, eL_, go_sem, hC, hH, hJ, hM, fgrTok]; try exact lE_)
 | (cases h; done))
theorem bad_s {r r' : Rd} {c : Int} (h : r.bad c = some r') {s : St} {o : Nat} (ho : s.objs[o]? = some (encRd r)) : Fun Tryd.prog n_parse_reader_bad [.ptr o 0, .int .i64 c] s (.tuple []) ⟨s.objs.set o (encRd r'), s.toks⟩ :=
 (bad_0 h).meth rfl (okRd r) (okRd r') rfl ho
theorem take_0 {r : Rd} {text : Str} {p : Bool × Rd} (h : r.take text = some p) : Fun Tryd.prog n_parse_reader_take [.ptr 0 0, .str text] ⟨[encRd r], []⟩ (.bool p.1) ⟨[encRd p.2], []⟩ := by
 unfold Rd.take at h
 refine Fun.go has_parse_reader_take rfl fun B Q hB hQ => ?_
 have ⟨hC, hH, hJ, hM⟩ := H4_
 repeat' (first
 | simp only [go_sem, hC, hH, hJ, hM, fgrTok]
 | (rw [Option.bind_eq_some_iff] at h; obtain ⟨_, h1, h⟩ := h; first | (with_reducible refine CU (is_s h1 (by with_unfolding_all rfl)) ?_; have hC := is_lt h1))
 | (with_reducible refine CU (good_s (by with_unfolding_all rfl)) ?_)
 | (with_reducible first | refine kT_ fun hc => ?_ | refine kF_ fun hc => ?_ | refine kS_ (fun hc => ?_) fun hc => ?_) <;> (try simp only [hc, bs, ↓reduceIte] at h) <;> try simp only [hc]
 | (with_reducible refine lA_ hQ ?_; (try cases h); simp only [resL, oneD, sI_, eL_, go_sem, hC, hH, hJ, hM, fgrTok]; try exact lE_)
 | (cases h; done))
theorem take_s {r : Rd} {text : Str} {p : Bool × Rd} (h : r.take text = some p) {s : St} {o : Nat} (ho : s.objs[o]? = some (encRd r)) : Fun Tryd.prog n_parse_reader_take [.ptr o 0, .str text] s (.bool p.1) ⟨s.objs.set o (encRd p.2), s.toks⟩ :=
 (take_0 h).meth rfl (okRd r) (okRd p.2) rfl ho
theorem want_0 {r r' : Rd} {text : Str} (h : r.want text = some r') : Fun Tryd.prog n_parse_reader_want [.ptr 0 0, .str text] ⟨[encRd r], []⟩ (.tuple []) ⟨[encRd r'], []⟩ := by
 unfold Rd.want at h
 refine Fun.go has_parse_reader_want rfl fun B Q hB hQ => ?_
 have ⟨hC, hH, hJ, hM⟩ := H4_
 repeat' (first
 | simp only [go_sem, hC, hH, hJ, hM, fgrTok]
 | (rw [Option.bind_eq_some_iff] at h; obtain ⟨_, h1, h⟩ := h; first | (with_reducible refine CU (take_s h1 (by with_unfolding_all rfl)) ?_))
 | (with_reducible refine CU (bad_s h (by with_unfolding_all rfl)) ?_)
 | (with_reducible first | refine kT_ fun hc => ?_ | refine kF_ fun hc => ?_ | refine kS_ (fun hc => ?_) fun hc => ?_) <;> (try simp only [hc, bs, ↓reduceIte] at h) <;> try simp only [hc]
 | (with_reducible refine lA_ hQ ?_; (try cases h); simp only [resL, oneD, sI_, eL_, go_sem, hC, hH, hJ, hM, fgrTok]; try exact lE_)
 | (cases h; done))
theorem want_s {r r' : Rd} {text : Str} (h : r.want text = some r') {s : St} {o : Nat} (ho : s.objs[o]? = some (encRd r)) : Fun Tryd.prog n_parse_reader_want [.ptr o 0, .str text] s (.tuple []) ⟨s.objs.set o (encRd r'), s.toks⟩ :=
 (want_0 h).meth rfl (okRd r) (okRd r') rfl ho
theorem name_0 {r : Rd} {room : Bool} {p : Str × Rd} (h : r.name room = some p) : Fun Tryd.prog n_parse_reader_name [.ptr 0 0, .bool room] ⟨[encRd r], []⟩ (.str p.1) ⟨[encRd p.2], []⟩ := by
 unfold Rd.name at h
 refine Fun.go has_parse_reader_name rfl fun B Q hB hQ => ?_
 have ⟨hC, hH, hJ, hM⟩ := H4_
 repeat' (first
 | simp only [go_sem, hC, hH, hJ, hM, fgrTok]
 | (rw [Option.bind_eq_some_iff] at h; obtain ⟨_, h1, h⟩ := h; first | (with_reducible refine CU (peek_s h1 (by with_unfolding_all rfl)) ?_; have hC := peek_lt h1) | (with_reducible refine CU (bad_s h1 (by with_unfolding_all rfl)) ?_))
 | (with_reducible refine CU (good_s (by with_unfolding_all rfl)) ?_)
 | (with_reducible first | refine kT_ fun hc => ?_ | refine kF_ fun hc => ?_ | refine kS_ (fun hc => ?_) fun hc => ?_) <;> (try simp only [hc, bs, ↓reduceIte] at h) <;> try simp only [hc]
 | (with_reducible refine lA_ hQ ?_; (try cases h); simp only [resL, oneD, sI_, eL_, go_sem, hC, hH, hJ, hM, fgrTok]; try exact lE_)
 | (cases h; done))
theorem name_s {r : Rd} {room : Bool} {p : Str × Rd} (h : r.name room = some p) {s : St} {o : Nat} (ho : s.objs[o]? = some (encRd r)) : Fun Tryd.prog n_parse_reader_name [.ptr o 0, .bool room] s (.str p.1) ⟨s.objs.set o (encRd p.2), s.toks⟩ :=
 (name_0 h).meth rfl (okRd r) (okRd p.2) rfl ho
end Go.Abs

/-! Lex1 -/

namespace Go.Abs

set_option maxRecDepth 8000
open Go.Proofs

theorem letter_s (c : UInt8) (s : St) : Fun Tryd.prog n_lex_letter [.int .u8 (c.toNat : Int)] s (.bool (isL c)) s := by
 refine Fun.pure ?_ rfl rfl s
 generalize h : isL c = b
 unfold isL at h
 unfold S0
 refine Fun.go has_lex_letter rfl fun B Q hB hQ => ?_
 have ⟨hC, hH, hJ, hM⟩ := H4_
 repeat' (first
 | simp only [go_sem, hC, hH, hJ, hM]
 | (with_reducible first | refine kT_ fun hc => ?_ | refine kF_ fun hc => ?_ | refine kS_ (fun hc => ?_) fun hc => ?_) <;> (try simp only [hc, bs, ↓reduceIte] at h) <;> try simp only [hc]
 | (with_reducible refine lA_ hQ ?_; exact lY_)
 | (cases h; done))

theorem digit_s (c : UInt8) (s : St) : Fun Tryd.prog n_lex_digit [.int .u8 (c.toNat : Int)] s (.bool (isD c)) s := by
 refine Fun.pure ?_ rfl rfl s
 generalize h : isD c = b
 unfold isD at h
 unfold S0
 refine Fun.go has_lex_digit rfl fun B Q hB hQ => ?_
 have ⟨hC, hH, hJ, hM⟩ := H4_
 repeat' (first
 | simp only [go_sem, hC, hH, hJ, hM]
 | (with_reducible first | refine kT_ fun hc => ?_ | refine kF_ fun hc => ?_ | refine kS_ (fun hc => ?_) fun hc => ?_) <;> (try simp only [hc, bs, ↓reduceIte] at h) <;> try simp only [hc]
 | (with_reducible refine lA_ hQ ?_; exact lY_)
 | (cases h; done))

theorem word_s (t : Str) (s : St) : Fun Tryd.prog n_lex_Word [.str t] s (.bool (isWord t)) s := by
 refine Fun.pure ?_ rfl rfl s
 generalize h : isWord t = b
 unfold isWord at h
 unfold S0
 refine Fun.go has_lex_Word rfl fun B Q hB hQ => ?_
 have ⟨hC, hH, hJ, hM⟩ := H4_
 repeat' (first
 | simp only [go_sem, hC, hH, hJ, hM]
 | (with_reducible first | refine kT_ fun hc => ?_ | refine kF_ fun hc => ?_ | refine kS_ (fun hc => ?_) fun hc => ?_) <;> (try simp only [hc, bs, ↓reduceIte] at h) <;> try simp only [hc]
 | (with_reducible refine lA_ hQ ?_; exact lY_)
 | (cases h; done))

theorem run_s {text : Str} {pos : Nat} (hl : text.length < 4611686018427387904) (s : St) : Fun Tryd.prog n_lex_run [.str text, .int .i64 (pos : Int)] s (.int .i64 ((pos + runL (text.drop pos) : Nat) : Int)) s := by
 refine Fun.pure ?_ rfl rfl s
 unfold S0
 refine Fun.go has_lex_run rfl fun B Q hB hQ => ?_
 have ⟨hC, hH, hJ, hM⟩ := H4_
 repeat' (first
 | simp only [go_sem, hC, hH, hJ, hM]
 | (with_reducible first | refine kT_ fun hc => ?_ | refine kF_ fun hc => ?_ | refine kS_ (fun hc => ?_) fun hc => ?_) <;> (try simp only [hc, bs, ↓reduceIte] at h) <;> try simp only [hc]
 | (with_reducible refine lA_ hQ ?_; exact lY_)
 | (cases h; done))
 refine rL_ 0 0 (SemL.ind (ι := Str × Nat) (fun i => text.drop i.2 = i.1 ∧ i.2 + runL i.1 = pos + runL (text.drop pos)) (fun i => i.1.length)
   (fun i => [(0, .str text), (1, .int .i64 (i.2 : Int))]) (fun i => ⟨[], []⟩) ?_ (text.drop pos, pos) ⟨rfl, rfl⟩)
 rintro ⟨rest, k⟩ ⟨h1, h2⟩ IH
 dsimp only at h1 h2
 cases rest with
 | nil =>
   have hC := drop_nil h1
   simp only [runL, Nat.add_zero] at h2
   rw [← h2] at hQ
   repeat' (first
 | simp only [go_sem, hC, hH, hJ, hM]
 | (with_reducible first | refine kT_ fun hc => ?_ | refine kF_ fun hc => ?_ | refine kS_ (fun hc => ?_) fun hc => ?_) <;> (try simp only [hc, bs, ↓reduceIte] at h) <;> try simp only [hc]
 | (with_reducible refine lA_ hQ ?_; exact lY_)
 | (cases h; done))
 | cons c rest =>
   obtain ⟨hH, g2, hC, g4⟩ := drop_cons h1
   have hJ : k < 4611686018427387904 := by omega
   cases hb : (isL c || isD c)
   · simp only [runL, hb, Bool.false_eq_true, ↓reduceIte, Nat.add_zero] at h2
     rw [← h2] at hQ
     simp only [Bool.or_eq_false_iff] at hb
     repeat' (first
 | simp only [go_sem, hC, hH, hJ, hM, hb.1, hb.2]
 | (with_reducible refine CU (letter_s _ _) ?_)
 | (with_reducible refine CU (digit_s _ _) ?_)
 | (with_reducible first | refine kT_ fun hc => ?_ | refine kF_ fun hc => ?_ | refine kS_ (fun hc => ?_) fun hc => ?_) <;> (try simp only [hc, bs, ↓reduceIte] at h) <;> try simp only [hc]
 | (with_reducible refine lA_ hQ ?_; (try cases h); simp only [resL, oneD, sI_, eL_, go_sem, hC, hH, hJ, hM, hb.1, hb.2]; try exact lE_)
 | (cases h; done))
   · simp only [runL, hb, ↓reduceIte] at h2
     cases hb1 : isL c
     · rw [hb1, Bool.false_or] at hb
       repeat' (first
 | simp only [go_sem, hC, hH, hJ, hM, hb, hb1]
 | (with_reducible refine CU (letter_s _ _) ?_)
 | (with_reducible refine CU (digit_s _ _) ?_)
 | (with_reducible first | refine kT_ fun hc => ?_ | refine kF_ fun hc => ?_ | refine kS_ (fun hc => ?_) fun hc => ?_) <;> (try simp only [hc, bs, ↓reduceIte] at h) <;> try simp only [hc]
 | (with_reducible refine lA_ hQ ?_; (try cases h); simp only [resL, oneD, sI_, eL_, go_sem, hC, hH, hJ, hM, hb, hb1]; try exact lE_)
 | (cases h; done))
       refine rL_ 0 0 (IH (rest, k + 1) ⟨g2, by dsimp only; omega⟩ (Nat.lt_succ_self _))
     · repeat' (first
 | simp only [go_sem, hC, hH, hJ, hM, hb1]
 | (with_reducible refine CU (letter_s _ _) ?_)
 | (with_reducible refine CU (digit_s _ _) ?_)
 | (with_reducible first | refine kT_ fun hc => ?_ | refine kF_ fun hc => ?_ | refine kS_ (fun hc => ?_) fun hc => ?_) <;> (try simp only [hc, bs, ↓reduceIte] at h) <;> try simp only [hc]
 | (with_reducible refine lA_ hQ ?_; (try cases h); simp only [resL, oneD, sI_, eL_, go_sem, hC, hH, hJ, hM, hb1]; try exact lE_)
 | (cases h; done))
       refine rL_ 0 0 (IH (rest, k + 1) ⟨g2, by dsimp only; omega⟩ (Nat.lt_succ_self _))

theorem slice_at (text : Str) (a b : Nat) : (text.take (a + b)).drop a = (text.drop a).take b := by rw [List.drop_take]; congr 1; omega

set_option maxRecDepth 20000 in
theorem sign_s {text : Str} {pos : Nat} {c : UInt8} {r : Str} (hd : text.drop pos = c :: r) (hl : text.length < 4611686018427387904) (s : St) :
   Fun Tryd.prog n_lex_sign [.str text, .int .i64 (pos : Int)] s (.int .i64 ((signL (c :: r) : Nat) : Int)) s := by
 refine Fun.pure ?_ rfl rfl s
 obtain ⟨hH, g2, g3, g4⟩ := drop_cons hd
 have hJ : pos < 4611686018427387904 := by omega
 have hM : 0 < 1 := Nat.zero_lt_one
 generalize h : signL (c :: r) = k
 unfold S0
 cases r with
 | nil =>
   have hC : decide (((pos + 1 : Nat) : Int) < (text.length : Int)) = false := drop_nil g2
   simp only [signL, sign1] at h
   refine Fun.go has_lex_sign rfl fun B Q hB hQ => ?_
   repeat' (first
 | simp only [go_sem, hC, hH, hJ, hM]
 | (with_reducible first | refine kT_ fun hc => ?_ | refine kF_ fun hc => ?_ | refine kS_ (fun hc => ?_) fun hc => ?_) <;> (try simp only [hc, bs, ↓reduceIte] at h) <;> try simp only [hc]
 | (with_reducible refine lA_ hQ ?_; exact lY_)
 | (cases h; done))
 | cons d r =>
   obtain ⟨_, _, hC, _⟩ := drop_cons g2
   have e1 : (text.take (pos + 2)).drop pos = [c, d] := by rw [slice_at, hd]; rfl
   have e2 : (0 : Int) ≤ (pos : Int) ∧ (pos : Int) ≤ ((pos + 2 : Nat) : Int) ∧ ((pos + 2 : Nat) : Int) ≤ (text.length : Int) := by omega
   simp only [signL, sign1, sign2] at h
   refine Fun.go has_lex_sign rfl fun B Q hB hQ => ?_
   repeat' (first
 | simp only [go_sem, hC, hH, hJ, hM, e1, e2]
 | (with_reducible first | refine kT_ fun hc => ?_ | refine kF_ fun hc => ?_ | refine kS_ (fun hc => ?_) fun hc => ?_) <;> (try simp only [hc, bs, ↓reduceIte] at h) <;> try simp only [hc]
 | (with_reducible refine lA_ hQ ?_; (try cases h); simp only [resL, oneD, sI_, eL_, go_sem, hC, hH, hJ, hM, e1, e2]; try exact lE_)
 | (cases h; done))

theorem isD_range {c : UInt8} (h : isD c = true) : 48 ≤ (c.toNat : Int) ∧ (c.toNat : Int) ≤ 57 := by
 simp only [isD, Bool.and_eq_true, decide_eq_true_eq] at h
 omega

def worthP (s : Str) : Int × Bool := match worth 0 s with | some n => (n, true) | none => (0, false)

theorem number_s {text : Str} (hd : ∀ c ∈ text, isD c = true) (hl : text.length < 4611686018427387904) (s : St) :
   Fun Tryd.prog n_lex_number [.str text] s (.tuple [.int .i64 (worthP text).1, .bool (worthP text).2]) s := by
 refine Fun.pure ?_ rfl rfl s
 generalize hw : worthP text = p
 unfold S0
 refine Fun.go has_lex_number rfl fun B Q hB hQ => ?_
 have ⟨hC, hH, hJ, hM⟩ := H4_
 repeat' (first
 | simp only [go_sem, hC, hH, hJ, hM]
 | (with_reducible first | refine kT_ fun hc => ?_ | refine kF_ fun hc => ?_ | refine kS_ (fun hc => ?_) fun hc => ?_) <;> (try simp only [hc, bs, ↓reduceIte] at h) <;> try simp only [hc]
 | (with_reducible refine lA_ hQ ?_; exact lY_)
 | (cases h; done))
 refine rL_ 0 0 (SemL.ind (ι := Str × Nat × Int) (fun i => text.drop i.2.1 = i.1 ∧ 0 ≤ i.2.2 ∧ i.2.2 ≤ 9223372036854775807 ∧ (match worth i.2.2 i.1 with | some n => (n, true) | none => (0, false)) = p) (fun i => i.1.length)
   (fun i => [(0, .str text), (4, .int .i64 i.2.2), (5, .int .i64 (i.2.1 : Int))]) (fun i => ⟨[], []⟩) ?_ (text, 0, 0) ⟨rfl, Int.le_refl 0, by dsimp only; omega, hw⟩)
 rintro ⟨rest, k, n⟩ ⟨h1, h2, h3, h⟩ IH
 dsimp only at h1 h2 h3 h
 cases rest with
 | nil =>
   have hC := drop_nil h1
   simp only [worth] at h
   repeat' (first
 | simp only [go_sem, hC, hH, hJ, hM]
 | (with_reducible first | refine kT_ fun hc => ?_ | refine kF_ fun hc => ?_ | refine kS_ (fun hc => ?_) fun hc => ?_) <;> (try simp only [hc, bs, ↓reduceIte] at h) <;> try simp only [hc]
 | (with_reducible refine lA_ hQ ?_; exact lY_)
 | (cases h; done))
 | cons c rest =>
   obtain ⟨hH, g2, hC, g4⟩ := drop_cons h1
   have hJ : k < 4611686018427387904 := by omega
   have hc := isD_range (hd c (List.mem_of_getElem? hH))
   have w1 : IntKind.wrap .u8 ((c.toNat : Int) - 48) = (c.toNat : Int) - 48 := by rw [IntKind.wrap_u8]; omega
   have w2 : IntKind.wrap .i64 ((c.toNat : Int) - 48) = (c.toNat : Int) - 48 := wrap_ok (by omega) (by omega)
   have w3 : IntKind.wrap .i64 (9223372036854775807 - ((c.toNat : Int) - 48)) = 9223372036854775807 - ((c.toNat : Int) - 48) := wrap_ok (by omega) (by omega)
   have w4 : IntKind.wrap .i64 ((9223372036854775807 - ((c.toNat : Int) - 48)).tdiv 10) = (9223372036854775807 - ((c.toNat : Int) - 48)) / 10 := by
     rw [Int.tdiv_eq_ediv_of_nonneg (by omega)]; exact wrap_ok (by omega) (by omega)
   have t10 : ((10 : Int) = 0) = False := by simp
   simp only [worth] at h
   by_cases hn : n > (9223372036854775807 - ((c.toNat : Int) - 48)) / 10
   · have hn' : decide (n > (9223372036854775807 - ((c.toNat : Int) - 48)) / 10) = true := by simpa using hn
     rw [if_pos hn] at h
     repeat' (first
 | simp only [go_sem, hC, hH, hJ, hM, w1, w2, w3, w4, t10, hn']
 | (with_reducible first | refine kT_ fun hc => ?_ | refine kF_ fun hc => ?_ | refine kS_ (fun hc => ?_) fun hc => ?_) <;> (try simp only [hc, bs, ↓reduceIte] at h) <;> try simp only [hc]
 | (with_reducible refine lA_ hQ ?_; (try cases h); simp only [resL, oneD, sI_, eL_, go_sem, hC, hH, hJ, hM, w1, w2, w3, w4, t10, hn']; try exact lE_)
 | (cases h; done))
   · have hn' : decide (n > (9223372036854775807 - ((c.toNat : Int) - 48)) / 10) = false := by simpa using hn
     rw [if_neg hn] at h
     have w5 : IntKind.wrap .i64 (n * 10) = n * 10 := wrap_ok (by omega) (by omega)
     have w6 : IntKind.wrap .i64 (n * 10 + ((c.toNat : Int) - 48)) = n * 10 + ((c.toNat : Int) - 48) := wrap_ok (by omega) (by omega)
     repeat' (first
 | simp only [go_sem, hC, hH, hJ, hM, w1, w2, w3, w4, t10, hn', w5, w6]
 | (with_reducible first | refine kT_ fun hc => ?_ | refine kF_ fun hc => ?_ | refine kS_ (fun hc => ?_) fun hc => ?_) <;> (try simp only [hc, bs, ↓reduceIte] at h) <;> try simp only [hc]
 | (with_reducible refine lA_ hQ ?_; (try cases h); simp only [resL, oneD, sI_, eL_, go_sem, hC, hH, hJ, hM, w1, w2, w3, w4, t10, hn', w5, w6]; try exact lE_)
 | (cases h; done))
     refine rL_ 0 0 (IH (rest, k + 1, n * 10 + ((c.toNat : Int) - 48)) ⟨g2, by dsimp only; omega, by dsimp only; omega, h⟩ (Nat.lt_succ_self _))

end Go.Abs

/-! Lex2 -/

namespace Go.Abs

set_option maxRecDepth 8000
open Go.Proofs

theorem runL_pos {c : UInt8} {r : Str} (h : isL c = true) : 0 < runL (c :: r) := by simp [runL, h]
theorem runL_len : ∀ s : Str, runL s ≤ s.length
 | [] => Nat.le_refl _
 | c :: r => by simp only [runL]; split <;> simp only [List.length_cons] <;> have := runL_len r <;> omega
theorem runD_len : ∀ s : Str, runD s ≤ s.length
 | [] => Nat.le_refl _
 | c :: r => by simp only [runD]; split <;> simp only [List.length_cons] <;> have := runD_len r <;> omega
theorem lineL_len : ∀ s : Str, lineL s ≤ s.length
 | [] => Nat.le_refl _
 | c :: r => by simp only [lineL]; split <;> simp only [List.length_cons] <;> have := lineL_len r <;> omega
theorem signL_len : ∀ s : Str, signL s ≤ s.length
 | [] => Nat.le_refl _
 | [c] => by simp only [signL]; split <;> simp
 | c :: d :: r => by simp only [signL]; (repeat' split) <;> simp
theorem runD_all : ∀ (s : Str), ∀ c ∈ s.take (runD s), isD c = true
 | [], c, h => by simp [runD] at h
 | d :: r, c, h => by
   simp only [runD] at h
   split at h
   · rw [List.take_succ_cons] at h
     rcases List.mem_cons.1 h with rfl | h
     · assumption
     · exact runD_all r c h
   · simp at h

def encF (f : Int × Int) : List D := [.int .i64 f.1, .int .i64 f.2]

def lexTM (text : Str) (out : List Tok) (pos : Nat) : Tm := [(0, .str text), (3, .ptr 0 0), (4, .slice (.tok 0) 4 (out.map encTok)), (5, .ptr 1 0), (6, .int .i64 (pos : Int))]
def lexST (out : List Tok) : St := ⟨[[.int .i64 0, .int .i64 0], [.junk, .junk, .junk, .junk]], [some out.length]⟩

theorem lineL_pos {c : UInt8} {r : Str} (h : ((c.toNat : Int) == 35) = true) : 0 < lineL (c :: r) := by
 have : ((c.toNat : Int) != 10) = true := by simp only [beq_iff_eq] at h; simp [h]
 simp [lineL, this]

def LexGo (text : Str) (B : Base) (Q : Exit → Tm → St → Prop) (p : List Tok × Int × Int) (N : Nat) : Prop :=
 ∀ (n pos : Nat) (rest : Str) (out : List Tok), text.drop pos = rest → lexF n pos rest out = p → rest.length < n → out.length ≤ 2000 → pos ≤ text.length → n < N →
   SemS Tryd.prog B 152 QKF (.seq .skip QKA) Q (lexTM text out pos) (lexST out)

theorem LexGo.to {text : Str} {B : Base} {Q : Exit → Tm → St → Prop} {p : List Tok × Int × Int} {N : Nat} (hB : B.s = S0) (IH : LexGo text B Q p N) {n pos : Nat} {rest : Str} {out : List Tok} {tm : Tm} {s : St}
   (h1 : text.drop pos = rest) (h : lexF n pos rest out = p) (h2 : rest.length < n) (h3 : out.length ≤ 2000) (h4 : pos ≤ text.length) (h5 : n < N)
   (ht : TmW tm 2 1 (lexTM text out pos)) (ho : WkR (s.cut 2 1).objs (lexST out).objs) (hk : (s.cut 2 1).toks = (lexST out).toks) :
   jumpA Tryd.prog B 152 QKF Q (.goto 0) tm s := by
 refine jumpA_to (l := 0) (r := .seq .skip QKA) rfl (SemS.re _ _ 2 1 (by rw [hB]; exact lB_ rfl) (by rw [hB]; exact lB_ rfl) ht ho ?_)
 have := IH n pos rest out h1 h h2 h3 h4 h5
 rw [hk]
 exact this

attribute [go_sem] lexTM lexST encF
theorem lex_nil {text : Str} (hl : text.length ≤ 100000) {B : Base} {Q : Exit → Tm → St → Prop} {p : List Tok × Int × Int} (hB : B.s = S0)
   (hQ : retF 0 0 [(2, none), (3, some (true, 2))] (.tuple [.slice .shared 4 (p.1.map encTok), .agg (encF p.2)]) ⟨[], []⟩ = Q)
   {n pos : Nat} {out : List Tok} (ho : out.length ≤ 2000) (hp : pos ≤ text.length) (IH : LexGo text B Q p (n + 1))
   (h1 : text.drop pos = []) (h : lexF (n + 1) pos [] out = p) : wpC Tryd.prog B 152 QKA (jumpA Tryd.prog B 152 QKF Q) (lexTM text out pos) (lexST out) := by
 have ⟨hC, hH, hJ, hM⟩ := H4_
 have hroom : (out.length + 1) * 41 ≤ maxStr := by simp only [maxStr]; omega
 have hge : decide ((pos : Int) ≥ (text.length : Int)) = true := by have := List.drop_eq_nil_iff.1 h1; simp; omega
 have : pos = text.length := by have := List.drop_eq_nil_iff.1 h1; omega
 subst this
 simp only [lexF] at h
 repeat' (first
 | simp only [go_sem, hC, hH, hJ, hM, hge, hroom]
 | (with_reducible first | refine kT_ fun hc => ?_ | refine kF_ fun hc => ?_ | refine kS_ (fun hc => ?_) fun hc => ?_) <;> (try simp only [hc, bs, ↓reduceIte] at h) <;> try simp only [hc]
 | (with_reducible refine lA_ hQ ?_; (try cases h); simp only [resL, oneD, sI_, eL_, go_sem, hC, hH, hJ, hM, hge, hroom]; try exact lE_)
 | (cases h; done))

theorem lex_blank {text : Str} (hl : text.length ≤ 100000) {B : Base} {Q : Exit → Tm → St → Prop} {p : List Tok × Int × Int} (hB : B.s = S0)
   (hQ : retF 0 0 [(2, none), (3, some (true, 2))] (.tuple [.slice .shared 4 (p.1.map encTok), .agg (encF p.2)]) ⟨[], []⟩ = Q)
   {n pos : Nat} {out : List Tok} (ho : out.length ≤ 2000) (hp : pos ≤ text.length) (IH : LexGo text B Q p (n + 1))
   {c : UInt8} {r : Str} (h1 : text.drop pos = c :: r) (hb : isB c = true) (hn : (c :: r).length < n + 1) (h : lexF (n + 1) pos (c :: r) out = p) :
   wpC Tryd.prog B 152 QKA (jumpA Tryd.prog B 152 QKF Q) (lexTM text out pos) (lexST out) := by
 have hJ : 0 < 1 := Nat.zero_lt_one
 have hM : 0 < 1 := Nat.zero_lt_one
 obtain ⟨hH, g2, g3, g4⟩ := drop_cons h1
 have hC : pos < 4611686018427387904 := by omega
 have hge : decide ((pos : Int) ≥ (text.length : Int)) = false := by simp; omega
 simp only [lexF, hb, ↓reduceIte] at h
 have hn' : r.length < n := by simp only [List.length_cons] at hn; omega
 have e : ∀ x y : Int, (x == y) = false → (x == y) = true → False := fun x y a b => by rw [a] at b; cases b
 simp only [isB] at hb
 repeat' (first
 | simp only [go_sem, hC, hH, hJ, hM, hge]
 | (refine IH.to hB g2 h hn' ho g4 (Nat.lt_succ_self _) ?_ ?_ ?_ <;> ((try simp only [go_sem, hC, hH, hJ, hM]); repeat' (first | exact Ok.out | with_reducible refine aI_ ?_ ?_ | omega | (simp; done))); done)
 | (with_reducible first | refine kT_ fun hc => ?_ | refine kF_ fun hc => ?_ | refine kS_ (fun hc => ?_) fun hc => ?_) <;> (try simp only [hc, bs, ↓reduceIte] at h) <;> try simp only [hc]
 | (with_reducible refine lA_ hQ ?_; (try cases h); simp only [resL, oneD, sI_, eL_, go_sem, hC, hH, hJ, hM, hge]; repeat' (first | exact Ok.out | with_reducible refine aI_ ?_ ?_ | (simp; done)))
 | (cases h; done))
 all_goals (exfalso; simp_all; done)

theorem lex_remark {text : Str} (hl : text.length ≤ 100000) {B : Base} {Q : Exit → Tm → St → Prop} {p : List Tok × Int × Int} (hB : B.s = S0)
   (hQ : retF 0 0 [(2, none), (3, some (true, 2))] (.tuple [.slice .shared 4 (p.1.map encTok), .agg (encF p.2)]) ⟨[], []⟩ = Q)
   {n pos : Nat} {out : List Tok} (ho : out.length ≤ 2000) (hp : pos ≤ text.length) (IH : LexGo text B Q p (n + 1))
   {c : UInt8} {r : Str} (h1 : text.drop pos = c :: r) (hb : isB c = false) (hc : ((c.toNat : Int) == 35) = true) (hn : (c :: r).length < n + 1) (h : lexF (n + 1) pos (c :: r) out = p) :
   wpC Tryd.prog B 152 QKA (jumpA Tryd.prog B 152 QKF Q) (lexTM text out pos) (lexST out) := by
 have hJ : 0 < 1 := Nat.zero_lt_one
 have hM : 0 < 1 := Nat.zero_lt_one
 have hget0 := (drop_cons h1).1
 have hH := hget0
 have g4 := (drop_cons h1).2.2.2
 have hC : pos < 4611686018427387904 := by omega
 have hge : decide ((pos : Int) ≥ (text.length : Int)) = false := by simp; omega
 simp only [lexF, hb, Bool.false_eq_true, ↓reduceIte, hc] at h
 simp only [isB, Bool.or_eq_false_iff] at hb
 have hk := lineL_pos (r := r) hc
 have hk2 := lineL_len (c :: r)
 have hk3 : (c :: r).length = text.length - pos := by rw [← h1, List.length_drop]
 generalize hL : lineL (c :: r) = L at h hk hk2
 repeat' (first
 | simp only [go_sem, hC, hH, hJ, hM, hge, hb.1.1.1, hb.1.1.2, hb.1.2, hb.2, hc]
 | (with_reducible refine jumpA_go (l := 1) (by with_unfolding_all rfl) ?_)
 | (with_reducible first | refine kT_ fun hc => ?_ | refine kF_ fun hc => ?_ | refine kS_ (fun hc => ?_) fun hc => ?_) <;> (try simp only [hc, bs, ↓reduceIte] at h) <;> try simp only [hc]
 | (with_reducible refine lA_ hQ ?_; (try cases h); simp only [resL, oneD, sI_, eL_, go_sem, hC, hH, hJ, hM, hge, hb.1.1.1, hb.1.1.2, hb.1.2, hb.2, hc]; try exact lE_)
 | (cases h; done))
 refine rL_ 2 1 (SemL.ind (ι := Str × Nat) (fun i => text.drop i.2 = i.1 ∧ i.2 + lineL i.1 = pos + L) (fun i => i.1.length)
   (fun i => lexTM text out i.2) (fun i => lexST out) ?_ (c :: r, pos) ⟨h1, by dsimp only; omega⟩)
 rintro ⟨rest, k⟩ ⟨j1, j2⟩ IHl
 dsimp only at j1 j2
 have fin : text.drop (pos + L) = (c :: r).drop L := by rw [← h1, List.drop_drop]
 have hlen : ((c :: r).drop L).length < n := by rw [List.length_drop]; omega
 cases rest with
 | nil =>
   have hge := drop_nil j1
   simp only [lineL, Nat.add_zero] at j2
   subst j2
   repeat' (first
 | simp only [go_sem, hC, hH, hJ, hM, hge]
 | (refine IH.to hB fin h hlen ho (by omega) (Nat.lt_succ_self _) ?_ ?_ ?_ <;> ((try simp only [go_sem, hC, hH, hJ, hM]); repeat' (first | exact Ok.out | with_reducible refine aI_ ?_ ?_ | omega | (simp; done))); done)
 | (with_reducible first | refine kT_ fun hc => ?_ | refine kF_ fun hc => ?_ | refine kS_ (fun hc => ?_) fun hc => ?_) <;> (try simp only [hc, bs, ↓reduceIte] at h) <;> try simp only [hc]
 | (with_reducible refine lA_ hQ ?_; (try cases h); simp only [resL, oneD, sI_, eL_, go_sem, hC, hH, hJ, hM, hge]; try exact lE_)
 | (cases h; done))
 | cons d rest =>
   obtain ⟨hH, g2, hge, g5⟩ := drop_cons j1
   have hC : k < 4611686018427387904 := by omega
   cases hd : ((d.toNat : Int) != 10)
   · simp only [lineL, hd, Bool.false_eq_true, ↓reduceIte, Nat.add_zero] at j2
     subst j2
     repeat' (first
 | simp only [go_sem, hC, hH, hJ, hM, hge, hd]
 | (refine IH.to hB fin h hlen ho (by omega) (Nat.lt_succ_self _) ?_ ?_ ?_ <;> ((try simp only [go_sem, hC, hH, hJ, hM]); repeat' (first | exact Ok.out | with_reducible refine aI_ ?_ ?_ | omega | (simp; done))); done)
 | (with_reducible first | refine kT_ fun hc => ?_ | refine kF_ fun hc => ?_ | refine kS_ (fun hc => ?_) fun hc => ?_) <;> (try simp only [hc, bs, ↓reduceIte] at h) <;> try simp only [hc]
 | (with_reducible refine lA_ hQ ?_; (try cases h); simp only [resL, oneD, sI_, eL_, go_sem, hC, hH, hJ, hM, hge, hd]; try exact lE_)
 | (cases h; done))
   · simp only [lineL, hd, ↓reduceIte] at j2
     repeat' (first
 | simp only [go_sem, hC, hH, hJ, hM, hge, hd]
 | (with_reducible first | refine kT_ fun hc => ?_ | refine kF_ fun hc => ?_ | refine kS_ (fun hc => ?_) fun hc => ?_) <;> (try simp only [hc, bs, ↓reduceIte] at h) <;> try simp only [hc]
 | (with_reducible refine lA_ hQ ?_; (try cases h); simp only [resL, oneD, sI_, eL_, go_sem, hC, hH, hJ, hM, hge, hd]; try exact lE_)
 | (cases h; done))
     refine rL_ 2 1 (IHl (rest, k + 1) ⟨g2, by dsimp only; omega⟩ (Nat.lt_succ_self _))

theorem lex_sign {text : Str} (hl : text.length ≤ 100000) {B : Base} {Q : Exit → Tm → St → Prop} {p : List Tok × Int × Int} (hB : B.s = S0)
   (hQ : retF 0 0 [(2, none), (3, some (true, 2))] (.tuple [.slice .shared 4 (p.1.map encTok), .agg (encF p.2)]) ⟨[], []⟩ = Q)
   {n pos : Nat} {out : List Tok} (ho : out.length ≤ 2000) (hp : pos ≤ text.length) (IH : LexGo text B Q p (n + 1))
   {c : UInt8} {r : Str} (h1 : text.drop pos = c :: r) (hb : isB c = false) (hc : ((c.toNat : Int) == 35) = false) (hL : isL c = false) (hD : isD c = false) (hn : (c :: r).length < n + 1) (h : lexF (n + 1) pos (c :: r) out = p) :
   wpC Tryd.prog B 152 QKA (jumpA Tryd.prog B 152 QKF Q) (lexTM text out pos) (lexST out) := by
 have hJ : 0 < 1 := Nat.zero_lt_one
 have hM : 0 < 1 := Nat.zero_lt_one
 have hH := (drop_cons h1).1
 have g4 := (drop_cons h1).2.2.2
 have hC : pos < 4611686018427387904 := by omega
 have hge : decide ((pos : Int) ≥ (text.length : Int)) = false := by simp; omega
 have hroom : (out.length + 1) * 41 ≤ maxStr := by simp only [maxStr]; omega
 have hsign := fun s => sign_s h1 (by omega) s
 have hk2 := signL_len (c :: r)
 have hk3 : (c :: r).length = text.length - pos := by rw [← h1, List.length_drop]
 simp only [lexF, hb, Bool.false_eq_true, ↓reduceIte, hc, tokE, hL, hD] at h
 simp only [isB, Bool.or_eq_false_iff] at hb
 generalize hK : signL (c :: r) = k at h hsign hk2
 have e1 : IntKind.wrap .i64 ((pos : Int) + (k : Int)) = ((pos + k : Nat) : Int) := by rw [wrap_ok] <;> omega
 have e2 : (0 : Int) ≤ (pos : Int) ∧ (pos : Int) ≤ ((pos + k : Nat) : Int) ∧ ((pos + k : Nat) : Int) ≤ (text.length : Int) := by omega
 have e3 : (text.take (pos + k)).drop pos = (c :: r).take k := by rw [slice_at, h1]
 by_cases hz : k = 0
 · have hgt : decide (((pos + k : Nat) : Int) > (pos : Int)) = false := by simp; omega
   simp only [hz, ↓reduceIte] at h
   repeat' (first
 | simp only [go_sem, hC, hH, hJ, hM, hge, hb.1.1.1, hb.1.1.2, hb.1.2, hb.2, hc, hL, hD, e1, e2, e3, hgt]
 | (with_reducible refine CU (letter_s _ _) ?_)
 | (with_reducible refine CU (digit_s _ _) ?_)
 | (with_reducible refine CU (hsign _) ?_)
 | (with_reducible refine jumpA_go (l := 4) (by with_unfolding_all rfl) ?_)
 | (with_reducible refine jumpA_go (l := 5) (by with_unfolding_all rfl) ?_)
 | (with_reducible first | refine kT_ fun hc => ?_ | refine kF_ fun hc => ?_ | refine kS_ (fun hc => ?_) fun hc => ?_) <;> (try simp only [hc, bs, ↓reduceIte] at h) <;> try simp only [hc]
 | (with_reducible refine lA_ hQ ?_; (try cases h); simp only [resL, oneD, sI_, eL_, go_sem, hC, hH, hJ, hM, hge, hb.1.1.1, hb.1.1.2, hb.1.2, hb.2, hc, hL, hD, e1, e2, e3, hgt]; try exact lE_)
 | (cases h; done))
 · have hgt : decide (((pos + k : Nat) : Int) > (pos : Int)) = true := by simp; omega
   have hlen : ((c :: r).take k).length = k := by rw [List.length_take]; omega
   have fin : text.drop (pos + k) = (c :: r).drop k := by rw [← h1, List.drop_drop]
   have hlen2 : ((c :: r).drop k).length < n := by rw [List.length_drop]; omega
   simp only [hz, ↓reduceIte, hlen] at h
   by_cases ho2 : out.length = 2000
   · have ho3 : ((out.length : Int) == 2000) = true := by simp [ho2]
     simp only [ho2, ↓reduceIte] at h
     repeat' (first
 | simp only [go_sem, hC, hH, hJ, hM, hge, hb.1.1.1, hb.1.1.2, hb.1.2, hb.2, hc, hL, hD, e1, e2, e3, hgt, ho3]
 | (with_reducible refine CU (letter_s _ _) ?_)
 | (with_reducible refine CU (digit_s _ _) ?_)
 | (with_reducible refine CU (hsign _) ?_)
 | (with_reducible refine jumpA_go (l := 4) (by with_unfolding_all rfl) ?_)
 | (with_reducible refine jumpA_go (l := 5) (by with_unfolding_all rfl) ?_)
 | (with_reducible first | refine kT_ fun hc => ?_ | refine kF_ fun hc => ?_ | refine kS_ (fun hc => ?_) fun hc => ?_) <;> (try simp only [hc, bs, ↓reduceIte] at h) <;> try simp only [hc]
 | (with_reducible refine lA_ hQ ?_; (try cases h); simp only [resL, oneD, sI_, eL_, go_sem, hC, hH, hJ, hM, hge, hb.1.1.1, hb.1.1.2, hb.1.2, hb.2, hc, hL, hD, e1, e2, e3, hgt, ho3]; try exact lE_)
 | (cases h; done))
   · have ho3 : ((out.length : Int) == 2000) = false := by simp; omega
     have ho4 : ∀ t : Tok, (out ++ [t]).length ≤ 2000 := by intro t; simp; omega
     simp only [ho2, ↓reduceIte] at h
     repeat' (first
 | simp only [go_sem, hC, hH, hJ, hM, hge, hb.1.1.1, hb.1.1.2, hb.1.2, hb.2, hc, hL, hD, e1, e2, e3, hgt, ho3, hroom]
 | (with_reducible refine CU (letter_s _ _) ?_)
 | (with_reducible refine CU (digit_s _ _) ?_)
 | (with_reducible refine CU (hsign _) ?_)
 | (with_reducible refine jumpA_go (l := 4) (by with_unfolding_all rfl) ?_)
 | (with_reducible refine jumpA_go (l := 5) (by with_unfolding_all rfl) ?_)
 | (refine IH.to hB fin h hlen2 (ho4 _) (by omega) (Nat.lt_succ_self _) ?_ ?_ ?_ <;> ((try simp only [go_sem, hC, hH, hJ, hM]); repeat' (first | exact Ok.out | with_reducible refine aI_ ?_ ?_ | omega | (simp; done))); done)
 | (with_reducible first | refine kT_ fun hc => ?_ | refine kF_ fun hc => ?_ | refine kS_ (fun hc => ?_) fun hc => ?_) <;> (try simp only [hc, bs, ↓reduceIte] at h) <;> try simp only [hc]
 | (with_reducible refine lA_ hQ ?_; (try cases h); simp only [resL, oneD, sI_, eL_, go_sem, hC, hH, hJ, hM, hge, hb.1.1.1, hb.1.1.2, hb.1.2, hb.2, hc, hL, hD, e1, e2, e3, hgt, ho3, hroom]; try exact lE_)
 | (cases h; done))

theorem lex_name {text : Str} (hl : text.length ≤ 100000) {B : Base} {Q : Exit → Tm → St → Prop} {p : List Tok × Int × Int} (hB : B.s = S0)
   (hQ : retF 0 0 [(2, none), (3, some (true, 2))] (.tuple [.slice .shared 4 (p.1.map encTok), .agg (encF p.2)]) ⟨[], []⟩ = Q)
   {n pos : Nat} {out : List Tok} (ho : out.length ≤ 2000) (hp : pos ≤ text.length) (IH : LexGo text B Q p (n + 1))
   {c : UInt8} {r : Str} (h1 : text.drop pos = c :: r) (hb : isB c = false) (hc : ((c.toNat : Int) == 35) = false) (hL : isL c = true) (hn : (c :: r).length < n + 1) (h : lexF (n + 1) pos (c :: r) out = p) :
   wpC Tryd.prog B 152 QKA (jumpA Tryd.prog B 152 QKF Q) (lexTM text out pos) (lexST out) := by
 have hJ : 0 < 1 := Nat.zero_lt_one
 have hM : 0 < 1 := Nat.zero_lt_one
 have hH := (drop_cons h1).1
 have g4 := (drop_cons h1).2.2.2
 have hC : pos < 4611686018427387904 := by omega
 have hge : decide ((pos : Int) ≥ (text.length : Int)) = false := by simp; omega
 have hroom : (out.length + 1) * 41 ≤ maxStr := by simp only [maxStr]; omega
 have hrun := fun s => run_s (text := text) (pos := pos) (by omega) s
 rw [h1] at hrun
 have hk2 := runL_len (c :: r)
 have hk1 := runL_pos (r := r) hL
 have hk3 : (c :: r).length = text.length - pos := by rw [← h1, List.length_drop]
 simp only [lexF, hb, Bool.false_eq_true, ↓reduceIte, hc, tokE, hL] at h
 simp only [isB, Bool.or_eq_false_iff] at hb
 generalize hK : runL (c :: r) = k at h hrun hk2 hk1
 have hlen : ((c :: r).take k).length = k := by rw [List.length_take]; omega
 simp only [hlen] at h
 have e1 : IntKind.wrap .i64 (((pos + k : Nat) : Int) - (pos : Int)) = (k : Int) := by rw [wrap_ok] <;> omega
 have e2 : (0 : Int) ≤ (pos : Int) ∧ (pos : Int) ≤ ((pos + k : Nat) : Int) ∧ ((pos + k : Nat) : Int) ≤ (text.length : Int) := by omega
 have e3 : (text.take (pos + k)).drop pos = (c :: r).take k := by rw [slice_at, h1]
 by_cases hz : k > 8
 · have hgt : decide ((k : Int) > 8) = true := by simp; omega
   simp only [hz, ↓reduceIte] at h
   cases hw : isWord ((c :: r).take k)
   · repeat' (first
 | simp only [go_sem, hC, hH, hJ, hM, hge, hb.1.1.1, hb.1.1.2, hb.1.2, hb.2, hc, hL, e1, e2, e3, hgt, hw]
 | (with_reducible refine CU (letter_s _ _) ?_)
 | (with_reducible refine CU (hrun _) ?_)
 | (with_reducible refine CU (word_s _ _) ?_)
 | (with_reducible refine jumpA_go (l := 2) (by with_unfolding_all rfl) ?_)
 | (with_reducible refine jumpA_go (l := 4) (by with_unfolding_all rfl) ?_)
 | (with_reducible refine jumpA_go (l := 5) (by with_unfolding_all rfl) ?_)
 | (with_reducible first | refine kT_ fun hc => ?_ | refine kF_ fun hc => ?_ | refine kS_ (fun hc => ?_) fun hc => ?_) <;> (try simp only [hc, bs, ↓reduceIte] at h) <;> try simp only [hc]
 | (with_reducible refine lA_ hQ ?_; (try cases h); simp only [resL, oneD, sI_, eL_, go_sem, hC, hH, hJ, hM, hge, hb.1.1.1, hb.1.1.2, hb.1.2, hb.2, hc, hL, e1, e2, e3, hgt, hw]; try exact lE_)
 | (cases h; done))
   · repeat' (first
 | simp only [go_sem, hC, hH, hJ, hM, hge, hb.1.1.1, hb.1.1.2, hb.1.2, hb.2, hc, hL, e1, e2, e3, hgt, hw]
 | (with_reducible refine CU (letter_s _ _) ?_)
 | (with_reducible refine CU (hrun _) ?_)
 | (with_reducible refine CU (word_s _ _) ?_)
 | (with_reducible refine jumpA_go (l := 2) (by with_unfolding_all rfl) ?_)
 | (with_reducible refine jumpA_go (l := 4) (by with_unfolding_all rfl) ?_)
 | (with_reducible refine jumpA_go (l := 5) (by with_unfolding_all rfl) ?_)
 | (with_reducible first | refine kT_ fun hc => ?_ | refine kF_ fun hc => ?_ | refine kS_ (fun hc => ?_) fun hc => ?_) <;> (try simp only [hc, bs, ↓reduceIte] at h) <;> try simp only [hc]
 | (with_reducible refine lA_ hQ ?_; (try cases h); simp only [resL, oneD, sI_, eL_, go_sem, hC, hH, hJ, hM, hge, hb.1.1.1, hb.1.1.2, hb.1.2, hb.2, hc, hL, e1, e2, e3, hgt, hw]; try exact lE_)
 | (cases h; done))
 · have hgt : decide ((k : Int) > 8) = false := by simp; omega
   have fin : text.drop (pos + k) = (c :: r).drop k := by rw [← h1, List.drop_drop]
   have hlen2 : ((c :: r).drop k).length < n := by rw [List.length_drop]; omega
   simp only [hz, ↓reduceIte, hlen] at h
   by_cases ho2 : out.length = 2000
   · have ho3 : ((out.length : Int) == 2000) = true := by simp [ho2]
     simp only [ho2, ↓reduceIte] at h
     cases hw : isWord ((c :: r).take k)
     · repeat' (first
 | simp only [go_sem, hC, hH, hJ, hM, hge, hb.1.1.1, hb.1.1.2, hb.1.2, hb.2, hc, hL, e1, e2, e3, hgt, ho3, hw]
 | (with_reducible refine CU (letter_s _ _) ?_)
 | (with_reducible refine CU (hrun _) ?_)
 | (with_reducible refine CU (word_s _ _) ?_)
 | (with_reducible refine jumpA_go (l := 2) (by with_unfolding_all rfl) ?_)
 | (with_reducible refine jumpA_go (l := 4) (by with_unfolding_all rfl) ?_)
 | (with_reducible refine jumpA_go (l := 5) (by with_unfolding_all rfl) ?_)
 | (with_reducible first | refine kT_ fun hc => ?_ | refine kF_ fun hc => ?_ | refine kS_ (fun hc => ?_) fun hc => ?_) <;> (try simp only [hc, bs, ↓reduceIte] at h) <;> try simp only [hc]
 | (with_reducible refine lA_ hQ ?_; (try cases h); simp only [resL, oneD, sI_, eL_, go_sem, hC, hH, hJ, hM, hge, hb.1.1.1, hb.1.1.2, hb.1.2, hb.2, hc, hL, e1, e2, e3, hgt, ho3, hw]; try exact lE_)
 | (cases h; done))
     · repeat' (first
 | simp only [go_sem, hC, hH, hJ, hM, hge, hb.1.1.1, hb.1.1.2, hb.1.2, hb.2, hc, hL, e1, e2, e3, hgt, ho3, hw]
 | (with_reducible refine CU (letter_s _ _) ?_)
 | (with_reducible refine CU (hrun _) ?_)
 | (with_reducible refine CU (word_s _ _) ?_)
 | (with_reducible refine jumpA_go (l := 2) (by with_unfolding_all rfl) ?_)
 | (with_reducible refine jumpA_go (l := 4) (by with_unfolding_all rfl) ?_)
 | (with_reducible refine jumpA_go (l := 5) (by with_unfolding_all rfl) ?_)
 | (with_reducible first | refine kT_ fun hc => ?_ | refine kF_ fun hc => ?_ | refine kS_ (fun hc => ?_) fun hc => ?_) <;> (try simp only [hc, bs, ↓reduceIte] at h) <;> try simp only [hc]
 | (with_reducible refine lA_ hQ ?_; (try cases h); simp only [resL, oneD, sI_, eL_, go_sem, hC, hH, hJ, hM, hge, hb.1.1.1, hb.1.1.2, hb.1.2, hb.2, hc, hL, e1, e2, e3, hgt, ho3, hw]; try exact lE_)
 | (cases h; done))
   · have ho3 : ((out.length : Int) == 2000) = false := by simp; omega
     have ho4 : ∀ t : Tok, (out ++ [t]).length ≤ 2000 := by intro t; simp; omega
     simp only [ho2, ↓reduceIte] at h
     cases hw : isWord ((c :: r).take k)
     · simp only [hw, Bool.false_eq_true, ↓reduceIte] at h
       repeat' (first
 | simp only [go_sem, hC, hH, hJ, hM, hge, hb.1.1.1, hb.1.1.2, hb.1.2, hb.2, hc, hL, e1, e2, e3, hgt, ho3, hroom, hw]
 | (with_reducible refine CU (letter_s _ _) ?_)
 | (with_reducible refine CU (hrun _) ?_)
 | (with_reducible refine CU (word_s _ _) ?_)
 | (with_reducible refine jumpA_go (l := 2) (by with_unfolding_all rfl) ?_)
 | (with_reducible refine jumpA_go (l := 4) (by with_unfolding_all rfl) ?_)
 | (with_reducible refine jumpA_go (l := 5) (by with_unfolding_all rfl) ?_)
 | (refine IH.to hB fin h hlen2 (ho4 _) (by omega) (Nat.lt_succ_self _) ?_ ?_ ?_ <;> ((try simp only [go_sem, hC, hH, hJ, hM]); repeat' (first | exact Ok.out | with_reducible refine aI_ ?_ ?_ | omega | (simp; done))); done)
 | (with_reducible first | refine kT_ fun hc => ?_ | refine kF_ fun hc => ?_ | refine kS_ (fun hc => ?_) fun hc => ?_) <;> (try simp only [hc, bs, ↓reduceIte] at h) <;> try simp only [hc]
 | (with_reducible refine lA_ hQ ?_; (try cases h); simp only [resL, oneD, sI_, eL_, go_sem, hC, hH, hJ, hM, hge, hb.1.1.1, hb.1.1.2, hb.1.2, hb.2, hc, hL, e1, e2, e3, hgt, ho3, hroom, hw]; try exact lE_)
 | (cases h; done))
     · simp only [hw, ↓reduceIte] at h
       repeat' (first
 | simp only [go_sem, hC, hH, hJ, hM, hge, hb.1.1.1, hb.1.1.2, hb.1.2, hb.2, hc, hL, e1, e2, e3, hgt, ho3, hroom, hw]
 | (with_reducible refine CU (letter_s _ _) ?_)
 | (with_reducible refine CU (hrun _) ?_)
 | (with_reducible refine CU (word_s _ _) ?_)
 | (with_reducible refine jumpA_go (l := 2) (by with_unfolding_all rfl) ?_)
 | (with_reducible refine jumpA_go (l := 4) (by with_unfolding_all rfl) ?_)
 | (with_reducible refine jumpA_go (l := 5) (by with_unfolding_all rfl) ?_)
 | (refine IH.to hB fin h hlen2 (ho4 _) (by omega) (Nat.lt_succ_self _) ?_ ?_ ?_ <;> ((try simp only [go_sem, hC, hH, hJ, hM]); repeat' (first | exact Ok.out | with_reducible refine aI_ ?_ ?_ | omega | (simp; done))); done)
 | (with_reducible first | refine kT_ fun hc => ?_ | refine kF_ fun hc => ?_ | refine kS_ (fun hc => ?_) fun hc => ?_) <;> (try simp only [hc, bs, ↓reduceIte] at h) <;> try simp only [hc]
 | (with_reducible refine lA_ hQ ?_; (try cases h); simp only [resL, oneD, sI_, eL_, go_sem, hC, hH, hJ, hM, hge, hb.1.1.1, hb.1.1.2, hb.1.2, hb.2, hc, hL, e1, e2, e3, hgt, ho3, hroom, hw]; try exact lE_)
 | (cases h; done))

end Go.Abs

/-! RefLex1 -/

namespace Go.Abs

set_option maxRecDepth 8000
open Go.Proofs

theorem Rsmall_s (c : UInt8) (s : St) : Fun Tryd.prog n_ref1_small [.int .u8 (c.toNat : Int)] s (.bool (isL c)) s := by
 refine Fun.pure ?_ rfl rfl s
 generalize h : isL c = b
 unfold isL at h
 unfold S0
 refine Fun.go has_ref1_small rfl fun B Q hB hQ => ?_
 have ⟨hC, hH, hJ, hM⟩ := H4_
 repeat' (first
 | simp only [go_sem, hC, hH, hJ, hM]
 | (with_reducible first | refine kT_ fun hc => ?_ | refine kF_ fun hc => ?_ | refine kS_ (fun hc => ?_) fun hc => ?_) <;> (try simp only [hc, bs, ↓reduceIte] at h) <;> try simp only [hc]
 | (with_reducible refine lA_ hQ ?_; exact lY_)
 | (cases h; done))

theorem Rdigit_s (c : UInt8) (s : St) : Fun Tryd.prog n_ref1_digit [.int .u8 (c.toNat : Int)] s (.bool (isD c)) s := by
 refine Fun.pure ?_ rfl rfl s
 generalize h : isD c = b
 unfold isD at h
 unfold S0
 refine Fun.go has_ref1_digit rfl fun B Q hB hQ => ?_
 have ⟨hC, hH, hJ, hM⟩ := H4_
 repeat' (first
 | simp only [go_sem, hC, hH, hJ, hM]
 | (with_reducible first | refine kT_ fun hc => ?_ | refine kF_ fun hc => ?_ | refine kS_ (fun hc => ?_) fun hc => ?_) <;> (try simp only [hc, bs, ↓reduceIte] at h) <;> try simp only [hc]
 | (with_reducible refine lA_ hQ ?_; exact lY_)
 | (cases h; done))

theorem Words_s (s : St) : Fun Tryd.prog n_ref1_Words [] s (.slice .shared 1 [[.str [103, 108, 111, 98, 97, 108]], [.str [112, 114, 111, 99]], [.str [118, 97, 114]], [.str [114, 101, 102]], [.str [105, 102]], [.str [101, 108, 115, 101]], [.str [119, 104, 105, 108, 101]], [.str [98, 114, 101, 97, 107]], [.str [99, 111, 110, 116, 105, 110, 117, 101]], [.str [114, 101, 116, 117, 114, 110]], [.str [103, 111, 116, 111]], [.str [114, 101, 97, 100]], [.str [112, 114, 105, 110, 116]]]) s := by
 refine Fun.pure ?_ rfl rfl s
 unfold S0
 refine Fun.go has_ref1_Words rfl fun B Q hB hQ => ?_
 have ⟨hC, hH, hJ, hM⟩ := H4_
 repeat' (first
 | simp only [go_sem, hC, hH, hJ, hM]
 | (with_reducible first | refine kT_ fun hc => ?_ | refine kF_ fun hc => ?_ | refine kS_ (fun hc => ?_) fun hc => ?_) <;> (try simp only [hc, bs, ↓reduceIte] at h) <;> try simp only [hc]
 | (with_reducible refine lA_ hQ ?_; exact lY_)
 | (cases h; done))

def isWordR (s : Str) : Bool :=
 [103, 108, 111, 98, 97, 108] == s || [112, 114, 111, 99] == s || [118, 97, 114] == s || [114, 101, 102] == s || [105, 102] == s || [101, 108, 115, 101] == s || [119, 104, 105, 108, 101] == s || [98, 114, 101, 97, 107] == s || [99, 111, 110, 116, 105, 110, 117, 101] == s || [114, 101, 116, 117, 114, 110] == s || [103, 111, 116, 111] == s || [114, 101, 97, 100] == s || [112, 114, 105, 110, 116] == s
theorem isWordR_eq (s : Str) : isWordR s = isWord s := by
 have e : ∀ a : Str, (a == s) = (s == a) := fun a => BEq.comm
 simp only [isWordR, isWord, e]

theorem RWord_s (text : Str) (s : St) : Fun Tryd.prog n_ref1_Word [.str text] s (.bool (isWord text)) s := by
 refine Fun.pure ?_ rfl rfl s
 rw [← isWordR_eq]
 generalize h : isWordR text = p
 unfold isWordR at h
 unfold S0
 refine Fun.go has_ref1_Word rfl fun B Q hB hQ => ?_
 have ⟨hC, hH, hJ, hM⟩ := H4_
 repeat' (first
 | simp only [go_sem, hC, hH, hJ, hM, Int.cast_ofNat_Int, wrap_ok, Int.reduceAdd, Int.reduceLT, Int.reduceNeg, decide_true, decide_false, Int.reduceToNat]
 | (with_reducible refine CU (Words_s _) ?_)
 | (with_reducible refine SemL.onceW ?_)
 | (with_reducible first | refine kT_ fun hc => ?_ | refine kF_ fun hc => ?_ | refine kS_ (fun hc => ?_) fun hc => ?_) <;> (try simp only [hc, bs, ↓reduceIte] at h) <;> try simp only [hc]
 | (with_reducible refine lA_ hQ ?_; (try cases h); simp only [resL, oneD, sI_, eL_, go_sem, hC, hH, hJ, hM, Int.cast_ofNat_Int, wrap_ok, Int.reduceAdd, Int.reduceLT, Int.reduceNeg, decide_true, decide_false, Int.reduceToNat]; try exact lE_)
 | (cases h; done))

end Go.Abs

/-! Prs2 -/

namespace Go.Abs

set_option maxRecDepth 8000
open Go.Proofs

theorem op_0 {t : Tok} {p : Int × Int} (h : opOf t = p) : Fun Tryd.prog n_parse_op [.agg (encTok t)] S0 (.tuple [.int .i64 p.1, .int .i64 p.2]) S0 := by
 unfold opOf at h
 unfold S0
 refine Fun.go has_parse_op rfl fun B Q hB hQ => ?_
 have ⟨hC, hH, hJ, hM⟩ := H4_
 repeat' (first
 | simp only [go_sem, hC, hH, hJ, hM]
 | (with_reducible first | refine kT_ fun hc => ?_ | refine kF_ fun hc => ?_ | refine kS_ (fun hc => ?_) fun hc => ?_) <;> (try simp only [hc, bs, ↓reduceIte] at h) <;> try simp only [hc]
 | (with_reducible refine lA_ hQ ?_; exact lY_)
 | (cases h; done))

theorem depth_n : ∀ n, n < 4611686018427387904 → ∀ x : Ex, x.size ≤ n → Fun Tryd.prog n_parse_depth [.agg (encEx x)] S0 (.int .i64 (x.depth : Int)) S0 := by
 intro n
 induction n with
 | zero => rintro _ ⟨op, m, name, kids⟩ h; simp only [Ex.size] at h; omega
 | succ n ihn =>
 rintro hn ⟨op, m, name, kids⟩ hx
 have hk : ∀ y ∈ kids, Fun Tryd.prog n_parse_depth [.agg (encEx y)] S0 (.int .i64 (y.depth : Int)) S0 := fun y hy => ihn (by omega) y (by simp only [Ex.size] at hx; have := Ex.sizes_mem hy; omega)
 have hlen : kids.length < 4611686018427387904 := by simp only [Ex.size] at hx; have := Ex.sizes_len kids; omega
 have hdep : Ex.depths kids < 4611686018427387904 := by have := Ex.depth_size _ _ hx; simp only [Ex.depth] at this; omega
 unfold S0
 refine Fun.go has_parse_depth rfl fun B Q hB hQ => ?_
 have ⟨hC, hH, hJ, hM⟩ := H4_
 repeat' (first
 | simp only [go_sem, hC, hH, hJ, hM]
 | (with_reducible first | refine kT_ fun hc => ?_ | refine kF_ fun hc => ?_ | refine kS_ (fun hc => ?_) fun hc => ?_) <;> (try simp only [hc, bs, ↓reduceIte] at h) <;> try simp only [hc]
 | (with_reducible refine lA_ hQ ?_; exact lY_)
 | (cases h; done))
 refine rL_ 0 0 (SemL.ind (ι := List Ex × Nat × Nat) (fun i => kids.drop i.2.1 = i.1 ∧ max i.2.2 (Ex.depths i.1) = Ex.depths kids) (fun i => i.1.length)
   (fun i => [(3, .int .i64 (i.2.2 : Int)), (7, .slice .shared 4 (kids.map encEx)), (8, .int .i64 (kids.length : Int)), (9, .int .i64 (i.2.1 : Int))]) (fun _ => S0) ?_ (kids, 0, 0) ⟨rfl, by simp⟩)
 rintro ⟨rest, k, acc⟩ ⟨h1, h2⟩ IH
 unfold S0
 cases rest with
 | nil =>
   have hC := drop_nil h1
   simp only [Ex.depths, Nat.max_zero] at h2
   subst h2
   repeat' (first
 | simp only [go_sem, hC, hH, hJ, hM, wrap_inc hdep, Ex.depth]
 | (with_reducible first | refine kT_ fun hc => ?_ | refine kF_ fun hc => ?_ | refine kS_ (fun hc => ?_) fun hc => ?_) <;> (try simp only [hc, bs, ↓reduceIte] at h) <;> try simp only [hc]
 | (with_reducible refine lA_ hQ ?_; (try cases h); simp only [resL, oneD, sI_, eL_, go_sem, hC, hH, hJ, hM, wrap_inc hdep, Ex.depth]; try exact lE_)
 | (cases h; done))
 | cons y rest =>
   obtain ⟨g1, g2, hC, g4⟩ := drop_cons h1
   simp only [Ex.depths] at h2
   have hy := fun s => (hk y (List.mem_of_getElem? g1)).pure (by simp [D.oks, D.ok, okEx]) rfl s
   dsimp only at g1 g2 hC g4 h2
   repeat' (first
 | simp only [go_sem, hC, hH, hJ, hM, g1]
 | (with_reducible refine CU (hy _) ?_)
 | (with_reducible first | refine kT_ fun hc => ?_ | refine kF_ fun hc => ?_ | refine kS_ (fun hc => ?_) fun hc => ?_) <;> (try simp only [hc, bs, ↓reduceIte] at h) <;> try simp only [hc]
 | (with_reducible refine lA_ hQ ?_; (try cases h); simp only [resL, oneD, sI_, eL_, go_sem, hC, hH, hJ, hM, g1]; try exact lE_)
 | (cases h; done))
   refine rl_ 0 0 ?_ ?_ (IH (rest, k + 1, max acc y.depth) ⟨g2, by dsimp only; omega⟩ (by simp))
   · (simp only [go_sem, hC, hH, hJ, hM, mx, wrap_inc (show k < 4611686018427387904 by omega)]; try exact lF_)
   · (simp only [go_sem, hC, hH, hJ, hM, mx, wrap_inc (show k < 4611686018427387904 by omega)]; try exact lF_)

theorem depth_s {x : Ex} {d : Int} (h : depthO x = some d) (s : St) : Fun Tryd.prog n_parse_depth [.agg (encEx x)] s (.int .i64 d) s := by
 unfold depthO at h
 split at h
 · cases h; exact (depth_n x.size ‹_› x (Nat.le_refl _)).pure (by simp [D.oks, D.ok, okEx]) rfl s
 · cases h

theorem op_s (t : Tok) (s : St) : Fun Tryd.prog n_parse_op [.agg (encTok t)] s (.tuple [.int .i64 (opOf t).1, .int .i64 (opOf t).2]) s := (op_0 rfl).pure rfl rfl s


theorem ite_p {c : Prop} [Decidable c] {α : Type} {P : α → Prop} {a b : α} (ha : P a) (hb : P b) : P (if c then a else b) := by
 by_cases h : c
 · rw [if_pos h]; exact ha
 · rw [if_neg h]; exact hb
def OpR (p : Int × Int) : Prop := 0 ≤ p.2 ∧ p.2 ≤ 6
theorem op_range (t : Tok) : OpR (opOf t) := by
 unfold opOf
 repeat' with_reducible refine ite_p (P := OpR) ?_ ?_
 all_goals exact ⟨by decide, by decide⟩
theorem op_wrap (t : Tok) : IntKind.wrap .i64 ((opOf t).2 + 1) = (opOf t).2 + 1 := by
 have : 0 ≤ (opOf t).2 ∧ (opOf t).2 ≤ 6 := op_range t
 rw [wrap_ok] <;> omega

abbrev C_one (m : Nat) : Prop := ∀ {r : Rd} {p : Ex × Rd}, Rd.one m r = some p → ∀ {s : St} {o : Nat}, s.objs[o]? = some (encRd r) → Fun Tryd.prog n_parse_reader_one [.ptr o 0] s (.agg (encEx p.1)) ⟨s.objs.set o (encRd p.2), s.toks⟩
abbrev C_two (m : Nat) : Prop := ∀ {k : Int} {r : Rd} {p : Ex × Rd}, Rd.two m k r = some p → ∀ {s : St} {o : Nat}, s.objs[o]? = some (encRd r) → Fun Tryd.prog n_parse_reader_two [.ptr o 0, .int .i64 k] s (.agg (encEx p.1)) ⟨s.objs.set o (encRd p.2), s.toks⟩

theorem one_step {m : Nat} (one_s : C_one m) (two_s : C_two m) : C_one (m + 1) := by
 intro r p h s o ho
 refine Fun.meth ?_ rfl (okRd r) (okRd p.2) (by simp [D.ok, okEx]) ho
 unfold Rd.one at h
 refine Fun.go has_parse_reader_one rfl fun B Q hB hQ => ?_
 have ⟨hC, hH, hJ, hM⟩ := H4_
 repeat' (first
 | simp only [go_sem, hC, hH, hJ, hM]
 | (rw [Option.bind_eq_some_iff] at h; obtain ⟨_, h1, h⟩ := h; first | (with_reducible refine CU (peek_s h1 (by with_unfolding_all rfl)) ?_; have hC := peek_lt h1) | (with_reducible refine CU (take_s h1 (by with_unfolding_all rfl)) ?_) | (with_reducible refine CU (two_s h1 (by with_unfolding_all rfl)) ?_) | (with_reducible refine CU (want_s h1 (by with_unfolding_all rfl)) ?_) | (with_reducible refine CU (one_s h1 (by with_unfolding_all rfl)) ?_) | (with_reducible refine CU (bad_s h1 (by with_unfolding_all rfl)) ?_))
 | (with_reducible refine CU (good_s (by with_unfolding_all rfl)) ?_)
 | (with_reducible first | refine kT_ fun hc => ?_ | refine kF_ fun hc => ?_ | refine kS_ (fun hc => ?_) fun hc => ?_) <;> (try simp only [hc, bs, ↓reduceIte] at h) <;> try simp only [hc]
 | (with_reducible refine lA_ hQ ?_; exact lY_)
 | (cases h; done))

theorem two_step {m : Nat} (one_s : C_one m) (two_s : ∀ j < m, C_two j) : C_two (m + 1) := by
 intro k r p h s o ho
 refine Fun.meth ?_ rfl (okRd r) (okRd p.2) (by simp [D.ok, okEx]) ho
 unfold Rd.two at h
 refine Fun.go has_parse_reader_two rfl fun B Q hB hQ => ?_
 have ⟨hC, hH, hJ, hM⟩ := H4_
 repeat' (first
 | simp only [go_sem, hC, hH, hJ, hM]
 | (rw [Option.bind_eq_some_iff] at h; obtain ⟨_, h1, h⟩ := h; first | (with_reducible refine CU (one_s h1 (by with_unfolding_all rfl)) ?_))
 | (with_reducible first | refine kT_ fun hc => ?_ | refine kF_ fun hc => ?_ | refine kS_ (fun hc => ?_) fun hc => ?_) <;> (try simp only [hc, bs, ↓reduceIte] at h) <;> try simp only [hc]
 | (with_reducible refine lA_ hQ ?_; exact lY_)
 | (cases h; done))
 refine rL_ 3 0 (SemL.ind (ι := Nat × Ex × Rd) (fun i => Rd.twoL i.1 k i.2.1 i.2.2 = some p ∧ i.1 ≤ m) (fun i => i.1)
   (fun i => [(0, .ptr 0 0), (1, .int .i64 k), (4, .ptr 1 0), (5, .ptr 2 0)]) (fun i => ⟨[encRd i.2.2, encEx ex0, encEx i.2.1], []⟩) ?_ (m, _, _) ⟨h, Nat.le_refl _⟩)
 rintro ⟨n, x, r⟩ ⟨h, hn⟩ IH
 cases n with
 | zero => simp only [Rd.twoL] at h; cases h
 | succ n =>
   have two_n := @two_s n (by omega)
   simp only [Rd.twoL] at h
   repeat' (first
 | simp only [go_sem, hC, hH, hJ, hM, op_wrap]
 | (rw [Option.bind_eq_some_iff] at h; obtain ⟨_, h1, h⟩ := h; first | (with_reducible refine CU (peek_s h1 (by with_unfolding_all rfl)) ?_; have hC := peek_lt h1) | (with_reducible refine CU (two_n h1 (by with_unfolding_all rfl)) ?_))
 | (with_reducible refine CU (good_s (by with_unfolding_all rfl)) ?_)
 | (with_reducible refine CU (op_s _ _) ?_)
 | (with_reducible first | refine kT_ fun hc => ?_ | refine kF_ fun hc => ?_ | refine kS_ (fun hc => ?_) fun hc => ?_) <;> (try simp only [hc, bs, ↓reduceIte] at h) <;> try simp only [hc]
 | (with_reducible refine lA_ hQ ?_; (try cases h); simp only [resL, oneD, sI_, eL_, go_sem, hC, hH, hJ, hM, op_wrap]; try exact lE_)
 | (cases h; done))
   refine rL_ 3 0 (IH (n, _, _) ⟨h, by dsimp only at hn ⊢; omega⟩ (Nat.lt_succ_self _))

theorem one_two : ∀ n, ∀ m < n, C_one m ∧ C_two m := by
 intro n
 induction n with
 | zero => intro m h; exact absurd h (Nat.not_lt_zero _)
 | succ n ih =>
   intro m h
   cases m with
   | zero =>
     refine ⟨?_, ?_⟩
     · intro r p h; simp only [Rd.one] at h; cases h
     · intro k r p h; simp only [Rd.two] at h; cases h
   | succ m =>
     have hm := ih m (by omega)
     exact ⟨one_step hm.1 hm.2, two_step hm.1 fun j hj => (ih j (by omega)).2⟩

theorem two_s {m : Nat} {k : Int} {r : Rd} {p : Ex × Rd} (h : Rd.two m k r = some p) {s : St} {o : Nat} (ho : s.objs[o]? = some (encRd r)) :
   Fun Tryd.prog n_parse_reader_two [.ptr o 0, .int .i64 k] s (.agg (encEx p.1)) ⟨s.objs.set o (encRd p.2), s.toks⟩ := (one_two (m + 1) m (Nat.lt_succ_self _)).2 h ho

theorem whole_s {n : Nat} {r : Rd} {p : Ex × Rd} (h : Rd.whole n r = some p) {s : St} {o : Nat} (ho : s.objs[o]? = some (encRd r)) :
   Fun Tryd.prog n_parse_reader_whole [.ptr o 0] s (.agg (encEx p.1)) ⟨s.objs.set o (encRd p.2), s.toks⟩ := by
 refine Fun.meth ?_ rfl (okRd r) (okRd p.2) (by simp [D.ok, okEx]) ho
 unfold Rd.whole at h
 refine Fun.go has_parse_reader_whole rfl fun B Q hB hQ => ?_
 have ⟨hC, hH, hJ, hM⟩ := H4_
 repeat' (first
 | simp only [go_sem, hC, hH, hJ, hM]
 | (rw [Option.bind_eq_some_iff] at h; obtain ⟨_, h1, h⟩ := h; first | (with_reducible refine CU (peek_s h1 (by with_unfolding_all rfl)) ?_) | (with_reducible refine CU (depth_s h1 _) ?_) | (with_reducible refine CU (two_s h1 (by with_unfolding_all rfl)) ?_))
 | (with_reducible refine CU (good_s (by with_unfolding_all rfl)) ?_)
 | (with_reducible first | refine kT_ fun hc => ?_ | refine kF_ fun hc => ?_ | refine kS_ (fun hc => ?_) fun hc => ?_) <;> (try simp only [hc, bs, ↓reduceIte] at h) <;> try simp only [hc]
 | (with_reducible refine lA_ hQ ?_; exact lY_)
 | (cases h; done))

end Go.Abs

/-! Ref1 -/

namespace Go.Abs
open Go.Proofs

@[go_sem] def encRc (z : D) (r : Rd) : List D := [.slice .shared 4 (r.l.map encTok), .int .i64 r.i, .int .i64 r.code, .int .i64 r.fat, z]
class Cell (z : D) : Prop where
 ok : D.ok 0 0 z = true
 fg : ∀ n m, D.fg n m z = z
instance (n : Int) : Cell (.int .i64 n) := ⟨rfl, fun _ _ => rfl⟩
instance : Cell .junk := ⟨rfl, fun _ _ => rfl⟩
theorem Cell_fg (z : D) [h : Cell z] (n m : Nat) : D.fg n m z = z := h.fg n m
attribute [go_sem] Cell_fg
def Rd.isO (text : Str) (r : Rd) : Option Bool := if r.good then r.is text else some false

end Go.Abs

/-! Ref2 -/

namespace Go.Abs

set_option maxRecDepth 8000
open Go.Proofs

def bindsR (s : Str) : Int × Int :=
 if [42] == s then (6, 5) else if [47] == s then (6, 6) else if [37] == s then (6, 7) else if [43] == s then (5, 8) else if [45] == s then (5, 9)
 else if [60] == s then (4, 10) else if [60, 61] == s then (4, 11) else if [62] == s then (4, 12) else if [62, 61] == s then (4, 13)
 else if [61, 61] == s then (3, 14) else if [33, 61] == s then (3, 15) else if [38, 38] == s then (2, 16) else if [124, 124] == s then (1, 17) else (0, 0)

theorem binds_op (t : Tok) (hk : t.kind = 4) : opOf t = ((bindsR t.text).2, (bindsR t.text).1) := by
 obtain ⟨kind, text, n, pos⟩ := t
 dsimp only at hk
 subst hk
 simp only [opOf]
 by_cases h1 : text = [42]
 · subst h1; rfl
 by_cases h2 : text = [47]
 · subst h2; rfl
 by_cases h3 : text = [37]
 · subst h3; rfl
 by_cases h4 : text = [43]
 · subst h4; rfl
 by_cases h5 : text = [45]
 · subst h5; rfl
 by_cases h6 : text = [60]
 · subst h6; rfl
 by_cases h7 : text = [60, 61]
 · subst h7; rfl
 by_cases h8 : text = [62]
 · subst h8; rfl
 by_cases h9 : text = [62, 61]
 · subst h9; rfl
 by_cases h10 : text = [61, 61]
 · subst h10; rfl
 by_cases h11 : text = [33, 61]
 · subst h11; rfl
 by_cases h12 : text = [38, 38]
 · subst h12; rfl
 by_cases h13 : text = [124, 124]
 · subst h13; rfl
 have e : ∀ c : Str, ¬ text = c → (text == c) = false := fun c h => by simpa using h
 have e' : ∀ c : Str, ¬ text = c → (c == text) = false := fun c h => by simpa using fun h' => h h'.symm
 simp only [bindsR, e _ h1, e _ h2, e _ h3, e _ h4, e _ h5, e _ h6, e _ h7, e _ h8, e _ h9, e _ h10, e _ h11, e _ h12, e _ h13, e' _ h1, e' _ h2, e' _ h3, e' _ h4, e' _ h5, e' _ h6, e' _ h7, e' _ h8, e' _ h9, e' _ h10, e' _ h11, e' _ h12, e' _ h13,
   Bool.false_eq_true, ↓reduceIte]
 rfl
def BZ (p : Int × Int) : Prop := (p.2 == 0) = (p.1 == 0)
end Go.Abs

/-! Ref3 -/

namespace Go.Abs

set_option maxRecDepth 8000
open Go.Proofs

theorem deep_n : ∀ (most : Nat), most < 1000000 → ∀ x : Ex, x.size < 4611686018427387904 → ∀ s : St, Fun Tryd.prog n_ref3_deep [.agg (encEx x), .int .i64 (most : Int)] s (.int .i64 ((min x.depth (most + 1) : Nat) : Int)) s := by
 intro most
 induction most with
 | zero =>
   rintro _ ⟨op, m, name, kids⟩ hx s
   refine Fun.pure ?_ (by simp [D.oks, D.ok, okEx]) rfl s
   have hz : ((0 : Int) == 0) = true := rfl
   have e : min (Ex.depth ⟨op, m, name, kids⟩) (0 + 1) = 1 := by simp only [Ex.depth]; omega
   rw [e]
   unfold S0
   refine Fun.go has_ref3_deep rfl fun B Q hB hQ => ?_
   have ⟨hC, hH, hJ, hM⟩ := H4_
   repeat' (first
 | simp only [go_sem, hC, hH, hJ, hM, hz]
 | (with_reducible first | refine kT_ fun hc => ?_ | refine kF_ fun hc => ?_ | refine kS_ (fun hc => ?_) fun hc => ?_) <;> (try simp only [hc, bs, ↓reduceIte] at h) <;> try simp only [hc]
 | (with_reducible refine lA_ hQ ?_; (try cases h); simp only [resL, oneD, sI_, eL_, go_sem, hC, hH, hJ, hM, hz]; try exact lE_)
 | (cases h; done))
 | succ most ih =>
   rintro hmost ⟨op, m, name, kids⟩ hx s
   refine Fun.pure ?_ (by simp [D.oks, D.ok, okEx]) rfl s
   have hlen : kids.length < 4611686018427387904 := by simp only [Ex.size] at hx; have := Ex.sizes_len kids; omega
   have hk : ∀ y ∈ kids, ∀ s, Fun Tryd.prog n_ref3_deep [.agg (encEx y), .int .i64 (most : Int)] s (.int .i64 ((min y.depth (most + 1) : Nat) : Int)) s := fun y hy s =>
     ih (by omega) y (by simp only [Ex.size] at hx; have := Ex.sizes_mem hy; omega) s
   have hz : (((most + 1 : Nat) : Int) == 0) = false := by simp; omega
   have w1 : IntKind.wrap .i64 (((most + 1 : Nat) : Int) - 1) = (most : Int) := by rw [wrap_ok] <;> omega
   unfold S0
   refine Fun.go has_ref3_deep rfl fun B Q hB hQ => ?_
   have ⟨hC, hH, hJ, hM⟩ := H4_
   repeat' (first
 | simp only [go_sem, hC, hH, hJ, hM, hz]
 | (with_reducible first | refine kT_ fun hc => ?_ | refine kF_ fun hc => ?_ | refine kS_ (fun hc => ?_) fun hc => ?_) <;> (try simp only [hc, bs, ↓reduceIte] at h) <;> try simp only [hc]
 | (with_reducible refine lA_ hQ ?_; (try cases h); simp only [resL, oneD, sI_, eL_, go_sem, hC, hH, hJ, hM, hz]; try exact lE_)
 | (cases h; done))
   refine rL_ 1 0 (SemL.ind (ι := List Ex × Nat × Nat) (fun i => kids.drop i.2.1 = i.1 ∧ i.2.2 ≤ most + 1 ∧ min (max i.2.2 (Ex.depths i.1)) (most + 1) = min (Ex.depths kids) (most + 1)) (fun i => i.1.length)
     (fun i => [(1, .int .i64 ((most + 1 : Nat) : Int)), (2, .ptr 0 0), (5, .int .i64 (i.2.2 : Int)), (6, .int .i64 (i.2.1 : Int))]) (fun i => ⟨[encEx ⟨op, m, name, kids⟩], []⟩) ?_ (kids, 0, 0) ⟨rfl, Nat.zero_le _, by simp⟩)
   rintro ⟨rest, k, d⟩ ⟨h1, h2, h3⟩ IH
   dsimp only at h1 h2 h3
   have hd : min (Ex.depth ⟨op, m, name, kids⟩) (most + 1 + 1) = min (Ex.depths kids) (most + 1) + 1 := by simp only [Ex.depth]; omega
   rw [hd, ← h3] at hQ
   have w2 : IntKind.wrap .i64 ((d : Int) + 1) = ((d + 1 : Nat) : Int) := by rw [wrap_ok] <;> omega
   by_cases hmax : d < most + 1
   · have c2 : decide ((d : Int) < ((most + 1 : Nat) : Int)) = true := by simp; omega
     cases rest with
     | nil =>
       have hC := drop_nil h1
       simp only [Ex.depths, Nat.max_zero] at hQ
       have e : min d (most + 1) = d := by omega
       rw [e] at hQ
       repeat' (first
 | simp only [go_sem, hC, hH, hJ, hM, c2, w2]
 | (with_reducible first | refine kT_ fun hc => ?_ | refine kF_ fun hc => ?_ | refine kS_ (fun hc => ?_) fun hc => ?_) <;> (try simp only [hc, bs, ↓reduceIte] at h) <;> try simp only [hc]
 | (with_reducible refine lA_ hQ ?_; (try cases h); simp only [resL, oneD, sI_, eL_, go_sem, hC, hH, hJ, hM, c2, w2]; try exact lE_)
 | (cases h; done))
     | cons y rest =>
       obtain ⟨hH, g2, hC, g4⟩ := drop_cons h1
       have hy := hk y (List.mem_of_getElem? hH)
       simp only [Ex.depths] at h3
       have hk2 : k < 4611686018427387904 := by omega
       by_cases hgt : min y.depth (most + 1) > d
       · have c3 : decide (((min y.depth (most + 1) : Nat) : Int) > (d : Int)) = true := by simp only [decide_eq_true_eq]; omega
         repeat' (first
 | simp only [go_sem, hC, hH, hJ, hM, c2, w1, c3]
 | (with_reducible refine CU (hy _) ?_)
 | (with_reducible first | refine kT_ fun hc => ?_ | refine kF_ fun hc => ?_ | refine kS_ (fun hc => ?_) fun hc => ?_) <;> (try simp only [hc, bs, ↓reduceIte] at h) <;> try simp only [hc]
 | (with_reducible refine lA_ hQ ?_; (try cases h); simp only [resL, oneD, sI_, eL_, go_sem, hC, hH, hJ, hM, c2, w1, c3]; try exact lE_)
 | (cases h; done))
         refine rl_ 1 0 ?_ ?_ (IH (rest, k + 1, min y.depth (most + 1)) ⟨g2, by dsimp only; omega, by dsimp only; omega⟩ (Nat.lt_succ_self _))
         · (simp only [go_sem, hC, hH, hJ, hM, wrap_inc hk2]; try exact lF_)
         · (simp only [go_sem, hC, hH, hJ, hM, wrap_inc hk2]; try exact lF_)
       · have c3 : decide (((min y.depth (most + 1) : Nat) : Int) > (d : Int)) = false := by simp only [decide_eq_false_iff_not]; omega
         repeat' (first
 | simp only [go_sem, hC, hH, hJ, hM, c2, w1, c3]
 | (with_reducible refine CU (hy _) ?_)
 | (with_reducible first | refine kT_ fun hc => ?_ | refine kF_ fun hc => ?_ | refine kS_ (fun hc => ?_) fun hc => ?_) <;> (try simp only [hc, bs, ↓reduceIte] at h) <;> try simp only [hc]
 | (with_reducible refine lA_ hQ ?_; (try cases h); simp only [resL, oneD, sI_, eL_, go_sem, hC, hH, hJ, hM, c2, w1, c3]; try exact lE_)
 | (cases h; done))
         refine rl_ 1 0 ?_ ?_ (IH (rest, k + 1, d) ⟨g2, h2, by dsimp only; omega⟩ (Nat.lt_succ_self _))
         · (simp only [go_sem, hC, hH, hJ, hM, wrap_inc hk2]; try exact lF_)
         · (simp only [go_sem, hC, hH, hJ, hM, wrap_inc hk2]; try exact lF_)
   · have c2 : decide ((d : Int) < ((most + 1 : Nat) : Int)) = false := by simp; omega
     have e : min (max d (Ex.depths rest)) (most + 1) = d := by omega
     rw [e] at hQ
     cases rest with
     | nil =>
       have hC := drop_nil h1
       repeat' (first
 | simp only [go_sem, hC, hH, hJ, hM, c2, w2]
 | (with_reducible first | refine kT_ fun hc => ?_ | refine kF_ fun hc => ?_ | refine kS_ (fun hc => ?_) fun hc => ?_) <;> (try simp only [hc, bs, ↓reduceIte] at h) <;> try simp only [hc]
 | (with_reducible refine lA_ hQ ?_; (try cases h); simp only [resL, oneD, sI_, eL_, go_sem, hC, hH, hJ, hM, c2, w2]; try exact lE_)
 | (cases h; done))
     | cons y rest =>
       obtain ⟨hH, g2, hC, g4⟩ := drop_cons h1
       repeat' (first
 | simp only [go_sem, hC, hH, hJ, hM, c2, w2]
 | (with_reducible first | refine kT_ fun hc => ?_ | refine kF_ fun hc => ?_ | refine kS_ (fun hc => ?_) fun hc => ?_) <;> (try simp only [hc, bs, ↓reduceIte] at h) <;> try simp only [hc]
 | (with_reducible refine lA_ hQ ?_; (try cases h); simp only [resL, oneD, sI_, eL_, go_sem, hC, hH, hJ, hM, c2, w2]; try exact lE_)
 | (cases h; done))

theorem EqExpr_n : ∀ N, N < 4611686018427387904 → ∀ x y : Ex, x.size ≤ N → ∀ s : St, Fun Tryd.prog n_ref3_EqExpr [.agg (encEx x), .agg (encEx y)] s (.bool (Ex.beq x y)) s := by
 intro N
 induction N with
 | zero => rintro _ ⟨op, m, name, kids⟩ y h; simp only [Ex.size] at h; omega
 | succ N ih =>
 rintro hN ⟨op, m, name, kids⟩ ⟨op', m', name', kids'⟩ hx s
 refine Fun.pure ?_ (by simp [D.oks, D.ok, okEx]) rfl s
 have hk : ∀ a ∈ kids, ∀ b s, Fun Tryd.prog n_ref3_EqExpr [.agg (encEx a), .agg (encEx b)] s (.bool (Ex.beq a b)) s := fun a ha b s =>
   ih (by omega) a b (by simp only [Ex.size] at hx; have := Ex.sizes_mem ha; omega) s
 have hlen : kids.length < 4611686018427387904 := by simp only [Ex.size] at hx; have := Ex.sizes_len kids; omega
 generalize h : Ex.beq ⟨op, m, name, kids⟩ ⟨op', m', name', kids'⟩ = p
 simp only [Ex.beq] at h
 unfold S0
 refine Fun.go has_ref3_EqExpr rfl fun B Q hB hQ => ?_
 have ⟨hC, hH, hJ, hM⟩ := H4_
 repeat' (first
 | simp only [go_sem, hC, hH, hJ, hM]
 | (with_reducible first | refine kT_ fun hc => ?_ | refine kF_ fun hc => ?_ | refine kS_ (fun hc => ?_) fun hc => ?_) <;> (try simp only [hc, bs, ↓reduceIte] at h) <;> try simp only [hc]
 | (with_reducible refine lA_ hQ ?_; exact lY_)
 | (cases h; done))
 rename_i hl4
 have hl5 : kids.length = kids'.length := by
   have : ((kids.length : Int) != (kids'.length : Int)) = false := by assumption
   simp only [bne_eq_false_iff_eq] at this
   omega
 refine rL_ 2 0 (SemL.ind (ι := List Ex × List Ex × Nat) (fun i => kids.drop i.2.2 = i.1 ∧ kids'.drop i.2.2 = i.2.1 ∧ Ex.beqs i.1 i.2.1 = p) (fun i => i.1.length)
   (fun i => [(2, .ptr 0 0), (3, .ptr 1 0), (36, .int .i64 (kids.length : Int)), (37, .int .i64 (i.2.2 : Int))]) (fun i => ⟨[encEx ⟨op, m, name, kids⟩, encEx ⟨op', m', name', kids'⟩], []⟩) ?_ (kids, kids', 0) ⟨rfl, rfl, h⟩)
 rintro ⟨r1, r2, k⟩ ⟨h1, h2, h⟩ IH
 dsimp only at h1 h2 h
 cases r1 with
 | nil =>
   have hC := drop_nil h1
   simp only [Ex.beqs] at h
   repeat' (first
 | simp only [go_sem, hC, hH, hJ, hM]
 | (with_reducible first | refine kT_ fun hc => ?_ | refine kF_ fun hc => ?_ | refine kS_ (fun hc => ?_) fun hc => ?_) <;> (try simp only [hc, bs, ↓reduceIte] at h) <;> try simp only [hc]
 | (with_reducible refine lA_ hQ ?_; exact lY_)
 | (cases h; done))
 | cons a r1 =>
   obtain ⟨hH, g2, hC, g4⟩ := drop_cons h1
   cases r2 with
   | nil => have := List.drop_eq_nil_iff.1 h2; omega
   | cons b r2 =>
     obtain ⟨hgb, b2, _, _⟩ := drop_cons h2
     have hk2 : k < 4611686018427387904 := by omega
     have hab := hk a (List.mem_of_getElem? hH)
     simp only [Ex.beqs] at h
     repeat' (first
 | simp only [go_sem, hC, hH, hJ, hM, hgb]
 | (with_reducible refine CU (hab _ _) ?_)
 | (with_reducible first | refine kT_ fun hc => ?_ | refine kF_ fun hc => ?_ | refine kS_ (fun hc => ?_) fun hc => ?_) <;> (try simp only [hc, bs, ↓reduceIte] at h) <;> try simp only [hc]
 | (with_reducible refine lA_ hQ ?_; (try cases h); simp only [resL, oneD, sI_, eL_, go_sem, hC, hH, hJ, hM, hgb]; try exact lE_)
 | (cases h; done))
     refine rl_ 2 0 ?_ ?_ (IH (r1, r2, k + 1) ⟨g2, b2, h⟩ (Nat.lt_succ_self _))
     · (simp only [go_sem, hC, hH, hJ, hM, wrap_inc hk2]; try exact lF_)
     · (simp only [go_sem, hC, hH, hJ, hM, wrap_inc hk2]; try exact lF_)

theorem EqExpr_s {x y : Ex} (hx : x.size < 4611686018427387904) (s : St) : Fun Tryd.prog n_ref3_EqExpr [.agg (encEx x), .agg (encEx y)] s (.bool (Ex.beq x y)) s := EqExpr_n _ hx x y (Nat.le_refl _) s

end Go.Abs

/-! RefMay1 -/

namespace Go.Abs

set_option maxRecDepth 8000
open Go.Proofs

theorem RName_s (text : Str) (hl : text.length < 4611686018427387904) (s : St) : Fun Tryd.prog n_ref1_Name [.str text] s (.bool (isName text)) s := by
 refine Fun.pure ?_ rfl rfl s
 unfold S0
 cases text with
 | nil =>
   have e : (([] : Str) == []) = true := rfl
   refine Fun.go has_ref1_Name rfl fun B Q hB hQ => ?_
   have ⟨hC, hH, hJ, hM⟩ := H4_
   repeat' (first
 | simp only [go_sem, hC, hH, hJ, hM, e, isName]
 | (with_reducible first | refine kT_ fun hc => ?_ | refine kF_ fun hc => ?_ | refine kS_ (fun hc => ?_) fun hc => ?_) <;> (try simp only [hc, bs, ↓reduceIte] at h) <;> try simp only [hc]
 | (with_reducible refine lA_ hQ ?_; (try cases h); simp only [resL, oneD, sI_, eL_, go_sem, hC, hH, hJ, hM, e, isName]; try exact lE_)
 | (cases h; done))
 | cons c r =>
   have e : ((c :: r) == []) = false := rfl
   generalize h : isName (c :: r) = p
   simp only [isName] at h
   refine Fun.go has_ref1_Name rfl fun B Q hB hQ => ?_
   have ⟨hC, hH, hJ, hM⟩ := H4_
   repeat' (first
 | simp only [go_sem, hC, hH, hJ, hM, e]
 | (with_reducible refine CU (Rsmall_s _ _) ?_)
 | (with_reducible first | refine kT_ fun hc => ?_ | refine kF_ fun hc => ?_ | refine kS_ (fun hc => ?_) fun hc => ?_) <;> (try simp only [hc, bs, ↓reduceIte] at h) <;> try simp only [hc]
 | (with_reducible refine lA_ hQ ?_; (try cases h); simp only [resL, oneD, sI_, eL_, go_sem, hC, hH, hJ, hM, e]; try exact lE_)
 | (cases h; done))
   refine rL_ 0 0 (SemL.ind (ι := Str × Nat) (fun i => (c :: r).drop i.2 = i.1 ∧ (if nameT i.1 then !(isWord (c :: r)) else false) = p) (fun i => i.1.length)
     (fun i => [(0, .str (c :: r)), (3, .int .i64 (i.2 : Int))]) (fun i => ⟨[], []⟩) ?_ (r, 1) ⟨rfl, h⟩)
   rintro ⟨rest, k⟩ ⟨h1, h⟩ IH
   dsimp only at h1 h
   cases rest with
   | nil =>
     have hC := drop_nil h1
     simp only [List.length_cons] at hC
     simp only [nameT, ↓reduceIte] at h
     repeat' (first
 | simp only [go_sem, hC, hH, hJ, hM]
 | (with_reducible refine CU (RWord_s _ _) ?_)
 | (with_reducible first | refine kT_ fun hc => ?_ | refine kF_ fun hc => ?_ | refine kS_ (fun hc => ?_) fun hc => ?_) <;> (try simp only [hc, bs, ↓reduceIte] at h) <;> try simp only [hc]
 | (with_reducible refine lA_ hQ ?_; exact lY_)
 | (cases h; done))
   | cons d rest =>
     obtain ⟨hH, g2, hC, g4⟩ := drop_cons h1
     simp only [List.length_cons] at hC
     have hJ : k < 4611686018427387904 := by omega
     simp only [nameT] at h
     repeat' (first
 | simp only [go_sem, hC, hH, hJ, hM]
 | (with_reducible refine CU (Rsmall_s _ _) ?_)
 | (with_reducible refine CU (Rdigit_s _ _) ?_)
 | (with_reducible first | refine kT_ fun hc => ?_ | refine kF_ fun hc => ?_ | refine kS_ (fun hc => ?_) fun hc => ?_) <;> (try simp only [hc, bs, ↓reduceIte] at h) <;> try simp only [hc]
 | (with_reducible refine lA_ hQ ?_; (try cases h); simp only [resL, oneD, sI_, eL_, go_sem, hC, hH, hJ, hM]; repeat' (first | exact Ok.out | with_reducible refine aI_ ?_ ?_ | (simp; done)))
 | (cases h; done))
     all_goals
       refine rL_ 0 0 (IH (rest, k + 1) ⟨g2, h⟩ (Nat.lt_succ_self _))

theorem Arity_s (op : Int) (s : St) : Fun Tryd.prog n_ref3_Arity [.int .i64 op] s (.int .i64 (arityI op)) s := by
 refine Fun.pure ?_ rfl rfl s
 unfold S0
 generalize h : arityI op = p
 unfold arityI at h
 refine Fun.go has_ref3_Arity rfl fun B Q hB hQ => ?_
 have ⟨hC, hH, hJ, hM⟩ := H4_
 repeat' (first
 | simp only [go_sem, hC, hH, hJ, hM]
 | (with_reducible first | refine kT_ fun hc => ?_ | refine kF_ fun hc => ?_ | refine kS_ (fun hc => ?_) fun hc => ?_) <;> (try simp only [hc, bs, ↓reduceIte] at h) <;> try simp only [hc]
 | (with_reducible refine lA_ hQ ?_; exact lY_)
 | (cases h; done))

theorem names_s' {l : List Str} (hl : l.length < 4611686018427387904) (hs : ∀ t ∈ l, t.length < 4611686018427387904) (s : St) : Fun Tryd.prog n_ref3_names [.slice .shared 1 (l.map encStr)] s (.bool (mayNames l)) s := by
 refine Fun.pure ?_ (by simp [D.oks, D.ok, okrStr, Tag.ok]) rfl s
 unfold S0
 generalize h : mayNames l = p
 refine Fun.go has_ref3_names rfl fun B Q hB hQ => ?_
 have ⟨hC, hH, hJ, hM⟩ := H4_
 repeat' (first
 | simp only [go_sem, hC, hH, hJ, hM]
 | (with_reducible first | refine kT_ fun hc => ?_ | refine kF_ fun hc => ?_ | refine kS_ (fun hc => ?_) fun hc => ?_) <;> (try simp only [hc, bs, ↓reduceIte] at h) <;> try simp only [hc]
 | (with_reducible refine lA_ hQ ?_; exact lY_)
 | (cases h; done))
 refine rL_ 0 0 (SemL.ind (ι := List Str × Nat) (fun i => l.drop i.2 = i.1 ∧ mayNames i.1 = p) (fun i => i.1.length)
   (fun i => [(5, .slice .shared 1 (l.map encStr)), (6, .int .i64 (l.length : Int)), (7, .int .i64 (i.2 : Int))]) (fun i => ⟨[], []⟩) ?_ (l, 0) ⟨rfl, h⟩)
 rintro ⟨rest, k⟩ ⟨h1, h⟩ IH
 dsimp only at h1 h
 cases rest with
 | nil =>
   have hC := drop_nil h1
   simp only [mayNames] at h
   repeat' (first
 | simp only [go_sem, hC, hH, hJ, hM]
 | (with_reducible first | refine kT_ fun hc => ?_ | refine kF_ fun hc => ?_ | refine kS_ (fun hc => ?_) fun hc => ?_) <;> (try simp only [hc, bs, ↓reduceIte] at h) <;> try simp only [hc]
 | (with_reducible refine lA_ hQ ?_; exact lY_)
 | (cases h; done))
 | cons t rest =>
   obtain ⟨hH, g2, hC, g4⟩ := drop_cons h1
   have hJ : k < 4611686018427387904 := by omega
   have hn := RName_s t (hs t (List.mem_of_getElem? hH))
   simp only [mayNames] at h
   repeat' (first
 | simp only [go_sem, hC, hH, hJ, hM]
 | (with_reducible refine CU (hn _) ?_)
 | (with_reducible first | refine kT_ fun hc => ?_ | refine kF_ fun hc => ?_ | refine kS_ (fun hc => ?_) fun hc => ?_) <;> (try simp only [hc, bs, ↓reduceIte] at h) <;> try simp only [hc]
 | (with_reducible refine lA_ hQ ?_; exact lY_)
 | (cases h; done))
   refine rL_ 0 0 (IH (rest, k + 1) ⟨g2, h⟩ (Nat.lt_succ_self _))

theorem form_n : ∀ (n : Nat) (x : Ex), x.size ≤ n → x.size < 4611686018427387904 → x.texts → ∀ s : St, Fun Tryd.prog n_ref3_form [.agg (encEx x)] s (.bool x.form) s := by
 intro n
 induction n with
 | zero => rintro ⟨op, m, name, kids⟩ h; simp only [Ex.size] at h; omega
 | succ n ih =>
   rintro ⟨op, m, name, kids⟩ h hx ht s
   refine Fun.pure ?_ (by simp [D.oks, D.ok, okEx]) rfl s
   have hlen : kids.length < 4611686018427387904 := by simp only [Ex.size] at hx; have := Ex.sizes_len kids; omega
   have hk : ∀ y ∈ kids, ∀ s, Fun Tryd.prog n_ref3_form [.agg (encEx y)] s (.bool y.form) s := fun y hy s =>
     ih y (by simp only [Ex.size] at h; have := Ex.sizes_mem hy; omega) (by simp only [Ex.size] at hx; have := Ex.sizes_mem hy; omega) (Ex.texts_mem ht hy) s
   have hn := RName_s name ht.1
   unfold S0
   generalize h : Ex.form ⟨op, m, name, kids⟩ = p
   simp only [Ex.form] at h
   refine Fun.go has_ref3_form rfl fun B Q hB hQ => ?_
   have ⟨hC, hH, hJ, hM⟩ := H4_
   repeat' (first
 | simp only [go_sem, hC, hH, hJ, hM]
 | (with_reducible refine CU (Arity_s _ _) ?_)
 | (with_reducible refine CU (hn _) ?_)
 | (with_reducible first | refine kT_ fun hc => ?_ | refine kF_ fun hc => ?_ | refine kS_ (fun hc => ?_) fun hc => ?_) <;> (try simp only [hc, bs, ↓reduceIte] at h) <;> try simp only [hc]
 | (with_reducible refine lA_ hQ ?_; (try cases h); simp only [resL, oneD, sI_, eL_, go_sem, hC, hH, hJ, hM]; repeat' (first | exact Ok.out | with_reducible refine aI_ ?_ ?_ | (simp; done)))
 | (cases h; done))
   all_goals
     refine rL_ 1 0 (SemL.ind (ι := List Ex × Nat) (fun i => kids.drop i.2 = i.1 ∧ Ex.forms i.1 = p) (fun i => i.1.length)
       (fun i => [(1, .ptr 0 0), (48, .int .i64 (kids.length : Int)), (49, .int .i64 (i.2 : Int))]) (fun i => ⟨[encEx ⟨op, m, name, kids⟩], []⟩) ?_ (kids, 0) ⟨rfl, h⟩)
     rintro ⟨rest, k⟩ ⟨h1, h⟩ IH
     dsimp only at h1 h
     cases rest with
     | nil =>
       have hC := drop_nil h1
       simp only [Ex.forms] at h
       repeat' (first
 | simp only [go_sem, hC, hH, hJ, hM]
 | (with_reducible first | refine kT_ fun hc => ?_ | refine kF_ fun hc => ?_ | refine kS_ (fun hc => ?_) fun hc => ?_) <;> (try simp only [hc, bs, ↓reduceIte] at h) <;> try simp only [hc]
 | (with_reducible refine lA_ hQ ?_; exact lY_)
 | (cases h; done))
     | cons y rest =>
       obtain ⟨hH, g2, hC, g4⟩ := drop_cons h1
       have hy := hk y (List.mem_of_getElem? hH)
       have hJ : k < 4611686018427387904 := by omega
       simp only [Ex.forms] at h
       repeat' (first
 | simp only [go_sem, hC, hH, hJ, hM]
 | (with_reducible refine CU (hy _) ?_)
 | (with_reducible first | refine kT_ fun hc => ?_ | refine kF_ fun hc => ?_ | refine kS_ (fun hc => ?_) fun hc => ?_) <;> (try simp only [hc, bs, ↓reduceIte] at h) <;> try simp only [hc]
 | (with_reducible refine lA_ hQ ?_; exact lY_)
 | (cases h; done))
       refine rL_ 1 0 (IH (rest, k + 1) ⟨g2, h⟩ (Nat.lt_succ_self _))

theorem MayExpr_s {x : Ex} (hx : x.size < 4611686018427387904) (ht : x.texts) (s : St) : Fun Tryd.prog n_ref3_MayExpr [.agg (encEx x)] s (.bool x.may) s := by
 refine Fun.pure ?_ (by simp [D.oks, D.ok, okEx]) rfl s
 have hd := fun s => deep_n 20 (by decide) x hx s
 have c20 : ((20 : Nat) : Int) = 20 := rfl
 rw [c20] at hd
 have hf := form_n _ x (Nat.le_refl _) hx ht
 unfold S0
 generalize h : Ex.may x = p
 unfold Ex.may at h
 refine Fun.go has_ref3_MayExpr rfl fun B Q hB hQ => ?_
 have ⟨hC, hH, hJ, hM⟩ := H4_
 repeat' (first
 | simp only [go_sem, hC, hH, hJ, hM]
 | (with_reducible refine CU (hd _) ?_)
 | (with_reducible refine CU (hf _) ?_)
 | (with_reducible first | refine kT_ fun hc => ?_ | refine kF_ fun hc => ?_ | refine kS_ (fun hc => ?_) fun hc => ?_) <;> (try simp only [hc, bs, ↓reduceIte] at h) <;> try simp only [hc]
 | (with_reducible refine lA_ hQ ?_; exact lY_)
 | (cases h; done))

theorem none_s (x : Ex) (s : St) : Fun Tryd.prog n_ref3_none [.agg (encEx x)] s (.bool x.none) s := by
 refine Fun.pure ?_ (by simp [D.oks, D.ok, okEx]) rfl s
 unfold S0
 generalize h : Ex.none x = p
 unfold Ex.none at h
 refine Fun.go has_ref3_none rfl fun B Q hB hQ => ?_
 have ⟨hC, hH, hJ, hM⟩ := H4_
 repeat' (first
 | simp only [go_sem, hC, hH, hJ, hM]
 | (with_reducible first | refine kT_ fun hc => ?_ | refine kF_ fun hc => ?_ | refine kS_ (fun hc => ?_) fun hc => ?_) <;> (try simp only [hc, bs, ↓reduceIte] at h) <;> try simp only [hc]
 | (with_reducible refine lA_ hQ ?_; exact lY_)
 | (cases h; done))

theorem arg_s {a : Ar} (hx : a.x.size < 4611686018427387904) (ht : a.x.texts) (hn : a.name.length < 4611686018427387904) (s : St) : Fun Tryd.prog n_ref3_arg [.agg (encAr a)] s (.bool a.may) s := by
 refine Fun.pure ?_ (by simp [D.oks, D.ok, okAr]) rfl s
 have hm := MayExpr_s hx ht
 have h1 := RName_s a.name hn
 unfold S0
 generalize h : Ar.may a = p
 simp only [Ar.may] at h
 refine Fun.go has_ref3_arg rfl fun B Q hB hQ => ?_
 have ⟨hC, hH, hJ, hM⟩ := H4_
 repeat' (first
 | simp only [go_sem, hC, hH, hJ, hM]
 | (with_reducible refine CU (hm _) ?_)
 | (with_reducible refine CU (h1 _) ?_)
 | (with_reducible refine CU (none_s _ _) ?_)
 | (with_reducible first | refine kT_ fun hc => ?_ | refine kF_ fun hc => ?_ | refine kS_ (fun hc => ?_) fun hc => ?_) <;> (try simp only [hc, bs, ↓reduceIte] at h) <;> try simp only [hc]
 | (with_reducible refine lA_ hQ ?_; exact lY_)
 | (cases h; done))

end Go.Abs

/-! Full1 -/

namespace Go.Abs

set_option maxRecDepth 8000
open Go.Proofs

def weighT (t : Str) (n : Int) : Int := if n > 20000 then 20001 else if (t.length : Int) ≥ 20000 - n then 20001 else n + 1 + t.length
mutual
def weighE : Ex → Int → Int
 | ⟨_, _, name, kids⟩, n => weighEs kids (weighT name n)
def weighEs : List Ex → Int → Int
 | [], n => n
 | x :: l, n => if n ≤ 20000 then weighEs l (weighE x n) else n
end

end Go.Abs

/-! Full2 -/

namespace Go.Abs

set_option maxRecDepth 8000
open Go.Proofs

mutual
def Ex.nodes : Ex → Nat
 | ⟨_, _, _, kids⟩ => 1 + Ex.nodess kids
def Ex.nodess : List Ex → Nat
 | [] => 0
 | x :: l => x.nodes + Ex.nodess l
end
mutual
def sizeM : Ex → Int → Int
 | ⟨_, _, _, kids⟩, most => sizeL kids most 1
def sizeL : List Ex → Int → Int → Int
 | [], _, n => n
 | x :: l, most, n => if n ≤ most then sizeL l most (n + sizeM x (most - n)) else n
end

end Go.Abs

/-! MirEq -/

namespace Go.Abs

def eqTs : List Str → List Str → Bool
 | [], _ => true
 | _ :: _, [] => true
 | x :: l, y :: l' => if !(x == y) then false else eqTs l l'
def eqT (l l' : List Str) : Bool := if (l.length : Int) != (l'.length : Int) then false else eqTs l l'

def Ar.beqs : List Ar → List Ar → Bool
 | [], _ => true
 | _ :: _, [] => true
 | a :: l, b :: l' => if !(a.ref == b.ref) || !(a.name == b.name) || !(Ex.beq a.x b.x) then false else Ar.beqs l l'

mutual
def Sm.beq : Sm → Sm → Bool
 | ⟨id, kind, labels, name, proc, x, has, args, thn, els⟩, ⟨id', kind', labels', name', proc', x', has', args', thn', els'⟩ =>
   if id != id' || kind != kind' || !(name == name') || !(proc == proc') || !(has == has') || !(eqT labels labels') || !(Ex.beq x x') || (args.length : Int) != (args'.length : Int) then false
   else if !(Ar.beqs args args') then false
   else if (if (thn.length : Int) != (thn'.length : Int) then false else Sm.beqs thn thn') then (if (els.length : Int) != (els'.length : Int) then false else Sm.beqs els els') else false
def Sm.beqs : List Sm → List Sm → Bool
 | [], _ => true
 | _ :: _, [] => true
 | s :: l, t :: l' => if !(Sm.beq s t) then false else Sm.beqs l l'
end
def Sm.beqL (l l' : List Sm) : Bool := if (l.length : Int) != (l'.length : Int) then false else Sm.beqs l l'

def Pm.beqs : List Pm → List Pm → Bool
 | [], _ => true
 | _ :: _, [] => true
 | a :: l, b :: l' => if !((a.name == b.name) && (a.ref == b.ref)) then false else Pm.beqs l l'

def Pc.beqs : List Pc → List Pc → Bool
 | [], _ => true
 | _ :: _, [] => true
 | f :: l, g :: l' =>
   if !(f.name == g.name) || (f.params.length : Int) != (g.params.length : Int) || !(eqT f.vars g.vars) || !(eqT f.fin g.fin) || !(Sm.beqL f.body g.body) then false
   else if !(Pm.beqs f.params g.params) then false else Pc.beqs l l'

def Pg.beq (p q : Pg) : Bool := if !(eqT p.globals q.globals) || (p.procs.length : Int) != (q.procs.length : Int) then false else Pc.beqs p.procs q.procs

/-! ### What is the same is the same -/

theorem eqTs_refl : ∀ l, eqTs l l = true
 | [] => rfl
 | x :: l => by simp [eqTs, eqTs_refl l]
theorem eqT_refl (l : List Str) : eqT l l = true := by simp [eqT, eqTs_refl]
theorem Ar.beqs_refl : ∀ l, Ar.beqs l l = true
 | [] => rfl
 | x :: l => by simp [Ar.beqs, Ar.beqs_refl l, Ex.beq_refl]
mutual
theorem Sm.beq_refl : ∀ s, Sm.beq s s = true
 | ⟨id, kind, labels, name, proc, x, has, args, thn, els⟩ => by simp [Sm.beq, eqT_refl, Ex.beq_refl, Ar.beqs_refl, Sm.beqs_refl thn, Sm.beqs_refl els]
theorem Sm.beqs_refl : ∀ l, Sm.beqs l l = true
 | [] => rfl
 | x :: l => by simp [Sm.beqs, Sm.beq_refl x, Sm.beqs_refl l]
end
theorem Sm.beqL_refl (l : List Sm) : Sm.beqL l l = true := by simp [Sm.beqL, Sm.beqs_refl]
theorem Pm.beqs_refl : ∀ l, Pm.beqs l l = true
 | [] => rfl
 | x :: l => by simp [Pm.beqs, Pm.beqs_refl l]
theorem Pc.beqs_refl : ∀ l, Pc.beqs l l = true
 | [] => rfl
 | x :: l => by simp [Pc.beqs, Pc.beqs_refl l, eqT_refl, Sm.beqL_refl, Pm.beqs_refl]
theorem Pg.beq_refl (p : Pg) : Pg.beq p p = true := by simp [Pg.beq, eqT_refl, Pc.beqs_refl]

end Go.Abs

/-! RefEq -/

namespace Go.Abs

set_option maxRecDepth 8000
open Go.Proofs

theorem EqTexts_s {l l' : List Str} (hl : l.length < 4611686018427387904) (s : St) : Fun Tryd.prog n_ref3_EqTexts [.slice .shared 1 (l.map encStr), .slice .shared 1 (l'.map encStr)] s (.bool (eqT l l')) s := by
 refine Fun.pure ?_ (by simp [D.oks, D.ok, Tag.ok, okrStr]) rfl s
 generalize h : eqT l l' = p
 simp only [eqT] at h
 unfold S0
 refine Fun.go has_ref3_EqTexts rfl fun B Q hB hQ => ?_
 have ⟨hC, hH, hJ, hM⟩ := H4_
 repeat' (first
 | simp only [go_sem, hC, hH, hJ, hM]
 | (with_reducible first | refine kT_ fun hc => ?_ | refine kF_ fun hc => ?_ | refine kS_ (fun hc => ?_) fun hc => ?_) <;> (try simp only [hc, bs, ↓reduceIte] at h) <;> try simp only [hc]
 | (with_reducible refine lA_ hQ ?_; exact lY_)
 | (cases h; done))
 have hl5 : l.length = l'.length := by
   have : ((l.length : Int) != (l'.length : Int)) = false := by assumption
   simp only [bne_eq_false_iff_eq] at this
   omega
 refine rL_ 0 0 (SemL.ind (ι := List Str × List Str × Nat) (fun i => l.drop i.2.2 = i.1 ∧ l'.drop i.2.2 = i.2.1 ∧ eqTs i.1 i.2.1 = p) (fun i => i.1.length)
   (fun i => [(0, .slice .shared 1 (l.map encStr)), (1, .slice .shared 1 (l'.map encStr)), (12, .int .i64 (l.length : Int)), (13, .int .i64 (i.2.2 : Int))]) (fun i => ⟨[], []⟩) ?_ (l, l', 0) ⟨rfl, rfl, h⟩)
 rintro ⟨r1, r2, k⟩ ⟨h1, h2, h⟩ IH
 dsimp only at h1 h2 h
 cases r1 with
 | nil =>
   have hC := drop_nil h1
   simp only [eqTs] at h
   repeat' (first
 | simp only [go_sem, hC, hH, hJ, hM]
 | (with_reducible first | refine kT_ fun hc => ?_ | refine kF_ fun hc => ?_ | refine kS_ (fun hc => ?_) fun hc => ?_) <;> (try simp only [hc, bs, ↓reduceIte] at h) <;> try simp only [hc]
 | (with_reducible refine lA_ hQ ?_; exact lY_)
 | (cases h; done))
 | cons a r1 =>
   obtain ⟨hH, g2, hC, g4⟩ := drop_cons h1
   cases r2 with
   | nil => have := List.drop_eq_nil_iff.1 h2; omega
   | cons b r2 =>
     obtain ⟨hgb, b2, _, _⟩ := drop_cons h2
     have hk2 : k < 4611686018427387904 := by omega
     simp only [eqTs] at h
     repeat' (first
 | simp only [go_sem, hC, hH, hJ, hM, hgb]
 | (with_reducible first | refine kT_ fun hc => ?_ | refine kF_ fun hc => ?_ | refine kS_ (fun hc => ?_) fun hc => ?_) <;> (try simp only [hc, bs, ↓reduceIte] at h) <;> try simp only [hc]
 | (with_reducible refine lA_ hQ ?_; (try cases h); simp only [resL, oneD, sI_, eL_, go_sem, hC, hH, hJ, hM, hgb]; try exact lE_)
 | (cases h; done))
     refine rl_ 0 0 ?_ ?_ (IH (r1, r2, k + 1) ⟨g2, b2, h⟩ (Nat.lt_succ_self _))
     · (simp only [go_sem, hC, hH, hJ, hM, wrap_inc hk2]; try exact lF_)
     · (simp only [go_sem, hC, hH, hJ, hM, wrap_inc hk2]; try exact lF_)

abbrev C_eqOne (N : Nat) : Prop := ∀ s t : Sm, s.size < N → ∀ st : St, Fun Tryd.prog n_ref3_eqOne [.agg (encSm s), .agg (encSm t)] st (.bool (Sm.beq s t)) st
abbrev C_eqL (N : Nat) : Prop := ∀ l l' : List Sm, Sm.sizes l < N → ∀ st : St, Fun Tryd.prog n_ref3_EqStmts [.slice .shared 13 (l.map encSm), .slice .shared 13 (l'.map encSm)] st (.bool (Sm.beqL l l')) st

theorem eqL_step {N : Nat} (hN : N < 4611686018427387904) (one : C_eqOne N) : C_eqL (N + 1) := by
 intro l l' hs st
 have hl : l.length < 4611686018427387904 := by have := Sm.sizes_len l; omega
 have hk : ∀ a ∈ l, ∀ b s, Fun Tryd.prog n_ref3_eqOne [.agg (encSm a), .agg (encSm b)] s (.bool (Sm.beq a b)) s := fun a ha b s =>
   one a b (by have := Sm.sizes_mem ha; omega) s
 refine Fun.pure ?_ (by simp [D.oks, D.ok, Tag.ok, okrSm]) rfl st
 generalize h : Sm.beqL l l' = p
 simp only [Sm.beqL] at h
 unfold S0
 refine Fun.go has_ref3_EqStmts rfl fun B Q hB hQ => ?_
 have ⟨hC, hH, hJ, hM⟩ := H4_
 repeat' (first
 | simp only [go_sem, hC, hH, hJ, hM]
 | (with_reducible first | refine kT_ fun hc => ?_ | refine kF_ fun hc => ?_ | refine kS_ (fun hc => ?_) fun hc => ?_) <;> (try simp only [hc, bs, ↓reduceIte] at h) <;> try simp only [hc]
 | (with_reducible refine lA_ hQ ?_; exact lY_)
 | (cases h; done))
 have hl5 : l.length = l'.length := by
   have : ((l.length : Int) != (l'.length : Int)) = false := by assumption
   simp only [bne_eq_false_iff_eq] at this
   omega
 refine rL_ 0 0 (SemL.ind (ι := List Sm × List Sm × Nat) (fun i => l.drop i.2.2 = i.1 ∧ l'.drop i.2.2 = i.2.1 ∧ Sm.beqs i.1 i.2.1 = p) (fun i => i.1.length)
   (fun i => [(0, .slice .shared 13 (l.map encSm)), (1, .slice .shared 13 (l'.map encSm)), (12, .int .i64 (l.length : Int)), (13, .int .i64 (i.2.2 : Int))]) (fun i => ⟨[], []⟩) ?_ (l, l', 0) ⟨rfl, rfl, h⟩)
 rintro ⟨r1, r2, k⟩ ⟨h1, h2, h⟩ IH
 dsimp only at h1 h2 h
 cases r1 with
 | nil =>
   have hC := drop_nil h1
   simp only [Sm.beqs] at h
   repeat' (first
 | simp only [go_sem, hC, hH, hJ, hM]
 | (with_reducible first | refine kT_ fun hc => ?_ | refine kF_ fun hc => ?_ | refine kS_ (fun hc => ?_) fun hc => ?_) <;> (try simp only [hc, bs, ↓reduceIte] at h) <;> try simp only [hc]
 | (with_reducible refine lA_ hQ ?_; exact lY_)
 | (cases h; done))
 | cons a r1 =>
   obtain ⟨hH, g2, hC, g4⟩ := drop_cons h1
   cases r2 with
   | nil => have := List.drop_eq_nil_iff.1 h2; omega
   | cons b r2 =>
     obtain ⟨hgb, b2, _, _⟩ := drop_cons h2
     have hk2 : k < 4611686018427387904 := by omega
     have hab := hk a (List.mem_of_getElem? hH)
     simp only [Sm.beqs] at h
     repeat' (first
 | simp only [go_sem, hC, hH, hJ, hM, hgb]
 | (with_reducible refine CU (hab _ _) ?_)
 | (with_reducible first | refine kT_ fun hc => ?_ | refine kF_ fun hc => ?_ | refine kS_ (fun hc => ?_) fun hc => ?_) <;> (try simp only [hc, bs, ↓reduceIte] at h) <;> try simp only [hc]
 | (with_reducible refine lA_ hQ ?_; (try cases h); simp only [resL, oneD, sI_, eL_, go_sem, hC, hH, hJ, hM, hgb]; try exact lE_)
 | (cases h; done))
     refine rl_ 0 0 ?_ ?_ (IH (r1, r2, k + 1) ⟨g2, b2, h⟩ (Nat.lt_succ_self _))
     · (simp only [go_sem, hC, hH, hJ, hM, wrap_inc hk2]; try exact lF_)
     · (simp only [go_sem, hC, hH, hJ, hM, wrap_inc hk2]; try exact lF_)

theorem eqOne_step {N : Nat} (hN : N < 4611686018427387904) (eql : C_eqL N) : C_eqOne (N + 1) := by
 rintro ⟨id, kind, labels, name, proc, x, has, args, thn, els⟩ ⟨id', kind', labels', name', proc', x', has', args', thn', els'⟩ hs st
 simp only [Sm.size] at hs
 refine Fun.pure ?_ (by simp [D.oks, D.ok, okSm]) rfl st
 have hal := Ar.sizes_len args
 have hT := fun s => EqTexts_s (l := labels) (l' := labels') (by omega) s
 have hX := fun s => EqExpr_s (x := x) (y := x') (by omega) s
 simp only [encEx_eq] at hX
 have h1 := eql thn thn' (by omega)
 have h2 := eql els els' (by omega)
 generalize h : Sm.beq ⟨id, kind, labels, name, proc, x, has, args, thn, els⟩ ⟨id', kind', labels', name', proc', x', has', args', thn', els'⟩ = p
 simp only [Sm.beq] at h
 change (if id != id' || kind != kind' || !(name == name') || !(proc == proc') || !(has == has') || !(eqT labels labels') || !(Ex.beq x x') || (args.length : Int) != (args'.length : Int) then false
   else if !(Ar.beqs args args') then false else if Sm.beqL thn thn' then Sm.beqL els els' else false) = p at h
 unfold S0
 refine Fun.go has_ref3_eqOne rfl fun B Q hB hQ => ?_
 have ⟨hC, hH, hJ, hM⟩ := H4_
 repeat' (first
 | simp only [go_sem, hC, hH, hJ, hM]
 | (with_reducible refine CU (hT _) ?_)
 | (with_reducible refine CU (hX _) ?_)
 | (with_reducible first | refine kT_ fun hc => ?_ | refine kF_ fun hc => ?_ | refine kS_ (fun hc => ?_) fun hc => ?_) <;> (try simp only [hc, bs, ↓reduceIte] at h) <;> try simp only [hc]
 | (with_reducible refine lA_ hQ ?_; exact lY_)
 | (cases h; done))
 have hl5 : args.length = args'.length := by
   have : ((args.length : Int) != (args'.length : Int)) = false := by assumption
   simp only [bne_eq_false_iff_eq] at this
   omega
 refine rL_ 2 0 (SemL.ind (ι := List Ar × List Ar × Nat) (fun i => args.drop i.2.2 = i.1 ∧ args'.drop i.2.2 = i.2.1 ∧ (if !(Ar.beqs i.1 i.2.1) then false else if Sm.beqL thn thn' then Sm.beqL els els' else false) = p) (fun i => i.1.length)
   (fun i => [(2, .ptr 0 0), (3, .ptr 1 0), (66, .int .i64 (args.length : Int)), (67, .int .i64 (i.2.2 : Int))]) (fun i => ⟨[encSm ⟨id, kind, labels, name, proc, x, has, args, thn, els⟩, encSm ⟨id', kind', labels', name', proc', x', has', args', thn', els'⟩], []⟩) ?_ (args, args', 0) ⟨rfl, rfl, h⟩)
 rintro ⟨r1, r2, k⟩ ⟨j1, j2, h⟩ IH
 dsimp only at j1 j2 h
 cases r1 with
 | nil =>
   have hC := drop_nil j1
   simp only [Ar.beqs, Bool.not_true, Bool.false_eq_true, ↓reduceIte] at h
   repeat' (first
 | simp only [go_sem, hC, hH, hJ, hM]
 | (with_reducible refine CU (h1 _) ?_)
 | (with_reducible refine CU (h2 _) ?_)
 | (with_reducible first | refine kT_ fun hc => ?_ | refine kF_ fun hc => ?_ | refine kS_ (fun hc => ?_) fun hc => ?_) <;> (try simp only [hc, bs, ↓reduceIte] at h) <;> try simp only [hc]
 | (with_reducible refine lA_ hQ ?_; exact lY_)
 | (cases h; done))
 | cons a r1 =>
   obtain ⟨hH, g2, hC, g4⟩ := drop_cons j1
   cases r2 with
   | nil => have := List.drop_eq_nil_iff.1 j2; omega
   | cons b r2 =>
     obtain ⟨hgb, b2, _, _⟩ := drop_cons j2
     have hk2 : k < 4611686018427387904 := by omega
     have hax : a.x.size < 4611686018427387904 := by have := Ar.sizes_mem (List.mem_of_getElem? hH); omega
     have hab := fun s => EqExpr_s (x := a.x) (y := b.x) hax s
     simp only [Ar.beqs] at h
     repeat' (first
 | simp only [go_sem, hC, hH, hJ, hM, hgb]
 | (with_reducible refine CU (hab _) ?_)
 | (with_reducible first | refine kT_ fun hc => ?_ | refine kF_ fun hc => ?_ | refine kS_ (fun hc => ?_) fun hc => ?_) <;> (try simp only [hc, bs, ↓reduceIte] at h) <;> try simp only [hc]
 | (with_reducible refine lA_ hQ ?_; (try cases h); simp only [resL, oneD, sI_, eL_, go_sem, hC, hH, hJ, hM, hgb]; try exact lE_)
 | (cases h; done))
     refine rl_ 2 0 ?_ ?_ (IH (r1, r2, k + 1) ⟨g2, b2, h⟩ (Nat.lt_succ_self _))
     · (simp only [go_sem, hC, hH, hJ, hM, wrap_inc hk2]; try exact lF_)
     · (simp only [go_sem, hC, hH, hJ, hM, wrap_inc hk2]; try exact lF_)

theorem eq_all : ∀ N, N < 4611686018427387904 → C_eqOne N ∧ C_eqL N := by
 intro N
 induction N with
 | zero => exact fun _ => ⟨fun s t h => absurd h (Nat.not_lt_zero _), fun l l' h => absurd h (Nat.not_lt_zero _)⟩
 | succ N ih =>
   intro h
   have := ih (by omega)
   exact ⟨eqOne_step (by omega) this.2, eqL_step (by omega) this.1⟩

theorem EqStmts_s {l l' : List Sm} (h : Sm.sizes l < 4611686018427387000) (st : St) : Fun Tryd.prog n_ref3_EqStmts [.slice .shared 13 (l.map encSm), .slice .shared 13 (l'.map encSm)] st (.bool (Sm.beqL l l')) st :=
 (eq_all (Sm.sizes l + 1) (by omega)).2 l l' (Nat.lt_succ_self _) st

end Go.Abs

/-! RefEq2 -/

namespace Go.Abs

set_option maxRecDepth 8000
open Go.Proofs

theorem Eq_s {a b : Pg} (hs : a.size < 1073741824) (st : St) : Fun Tryd.prog n_ref3_Eq [.agg (encPg a), .agg (encPg b)] st (.bool (Pg.beq a b)) st := by
 obtain ⟨g, ps⟩ := a
 obtain ⟨g', ps'⟩ := b
 simp only [Pg.size] at hs
 have hpl := Pc.sizes_len ps
 refine Fun.pure ?_ (by simp [D.oks, D.ok, okPg]) rfl st
 have hT := fun s => EqTexts_s (l := g) (l' := g') (by omega) s
 generalize h : Pg.beq ⟨g, ps⟩ ⟨g', ps'⟩ = p
 simp only [Pg.beq] at h
 unfold S0
 refine Fun.go has_ref3_Eq rfl fun B Q hB hQ => ?_
 have ⟨hC, hH, hJ, hM⟩ := H4_
 repeat' (first
 | simp only [go_sem, hC, hH, hJ, hM]
 | (with_reducible refine CU (hT _) ?_)
 | (with_reducible first | refine kT_ fun hc => ?_ | refine kF_ fun hc => ?_ | refine kS_ (fun hc => ?_) fun hc => ?_) <;> (try simp only [hc, bs, ↓reduceIte] at h) <;> try simp only [hc]
 | (with_reducible refine lA_ hQ ?_; exact lY_)
 | (cases h; done))
 have hl5 : ps.length = ps'.length := by
   have : ((ps.length : Int) != (ps'.length : Int)) = false := by assumption
   simp only [bne_eq_false_iff_eq] at this
   omega
 refine rL_ 2 0 (SemL.ind (ι := List Pc × List Pc × Nat) (fun i => ps.drop i.2.2 = i.1 ∧ ps'.drop i.2.2 = i.2.1 ∧ Pc.beqs i.1 i.2.1 = p) (fun i => i.1.length)
   (fun i => [(2, .ptr 0 0), (3, .ptr 1 0), (26, .int .i64 (ps.length : Int)), (27, .int .i64 (i.2.2 : Int))]) (fun i => ⟨[encPg ⟨g, ps⟩, encPg ⟨g', ps'⟩], []⟩) ?_ (ps, ps', 0) ⟨rfl, rfl, h⟩)
 rintro ⟨r1, r2, k⟩ ⟨j1, j2, h⟩ IH
 dsimp only at j1 j2 h
 cases r1 with
 | nil =>
   have hC := drop_nil j1
   simp only [Pc.beqs] at h
   repeat' (first
 | simp only [go_sem, hC, hH, hJ, hM]
 | (with_reducible first | refine kT_ fun hc => ?_ | refine kF_ fun hc => ?_ | refine kS_ (fun hc => ?_) fun hc => ?_) <;> (try simp only [hc, bs, ↓reduceIte] at h) <;> try simp only [hc]
 | (with_reducible refine lA_ hQ ?_; exact lY_)
 | (cases h; done))
 | cons x r1 =>
   obtain ⟨hH, g2, hC, g4⟩ := drop_cons j1
   cases r2 with
   | nil => have := List.drop_eq_nil_iff.1 j2; omega
   | cons y r2 =>
     obtain ⟨hgb, b2, _, _⟩ := drop_cons j2
     have hk2 : k < 4611686018427387904 := by omega
     have hsz := Pc.sizes_mem (List.mem_of_getElem? hH)
     obtain ⟨name, params, vars, body, fin⟩ := x
     obtain ⟨name', params', vars', body', fin'⟩ := y
     simp only [Pc.size] at hsz
     have h1 := fun s => EqTexts_s (l := vars) (l' := vars') (by omega) s
     have h2 := fun s => EqTexts_s (l := fin) (l' := fin') (by omega) s
     have h3 := fun s => EqStmts_s (l := body) (l' := body') (by omega) s
     simp only [Pc.beqs] at h
     repeat' (first
 | simp only [go_sem, hC, hH, hJ, hM, hgb]
 | (with_reducible refine CU (h1 _) ?_)
 | (with_reducible refine CU (h2 _) ?_)
 | (with_reducible refine CU (h3 _) ?_)
 | (with_reducible first | refine kT_ fun hc => ?_ | refine kF_ fun hc => ?_ | refine kS_ (fun hc => ?_) fun hc => ?_) <;> (try simp only [hc, bs, ↓reduceIte] at h) <;> try simp only [hc]
 | (with_reducible refine lA_ hQ ?_; (try cases h); simp only [resL, oneD, sI_, eL_, go_sem, hC, hH, hJ, hM, hgb]; try exact lE_)
 | (cases h; done))
     have hm5 : params.length = params'.length := by
       have : ((params.length : Int) != (params'.length : Int)) = false := by assumption
       simp only [bne_eq_false_iff_eq] at this
       omega
     refine rL_ 4 0 (SemL.ind (ι := List Pm × List Pm × Nat) (fun i => params.drop i.2.2 = i.1 ∧ params'.drop i.2.2 = i.2.1 ∧ (if !(Pm.beqs i.1 i.2.1) then false else Pc.beqs r1 r2) = p) (fun i => i.1.length)
       (fun i => [(2, .ptr 0 0), (3, .ptr 1 0), (6, .ptr 2 0), (7, .ptr 3 0), (26, .int .i64 (ps.length : Int)), (27, .int .i64 (k : Int)), (80, .int .i64 (params.length : Int)), (81, .int .i64 (i.2.2 : Int))])
       (fun i => ⟨[encPg ⟨g, ps⟩, encPg ⟨g', ps'⟩, encPc ⟨name, params, vars, body, fin⟩, encPc ⟨name', params', vars', body', fin'⟩], []⟩) ?_ (params, params', 0) ⟨rfl, rfl, h⟩)
     rintro ⟨s1, s2, q⟩ ⟨i1, i2, h⟩ IHm
     dsimp only at i1 i2 h
     cases s1 with
     | nil =>
       have hC := drop_nil i1
       simp only [Pm.beqs, Bool.not_true, Bool.false_eq_true, ↓reduceIte] at h
       repeat' (first
 | simp only [go_sem, hC, hH, hJ, hM]
 | (with_reducible first | refine kT_ fun hc => ?_ | refine kF_ fun hc => ?_ | refine kS_ (fun hc => ?_) fun hc => ?_) <;> (try simp only [hc, bs, ↓reduceIte] at h) <;> try simp only [hc]
 | (with_reducible refine lA_ hQ ?_; exact lY_)
 | (cases h; done))
       refine rl_ 2 0 ?_ ?_ (IH (r1, r2, k + 1) ⟨g2, b2, h⟩ (Nat.lt_succ_self _))
       · (simp only [go_sem, hC, hH, hJ, hM, wrap_inc hk2]; try exact lF_)
       · (simp only [go_sem, hC, hH, hJ, hM, wrap_inc hk2]; try exact lF_)
     | cons u s1 =>
       obtain ⟨hH, u2, hC, u4⟩ := drop_cons i1
       cases s2 with
       | nil => have := List.drop_eq_nil_iff.1 i2; omega
       | cons v s2 =>
         obtain ⟨hgb, v2, _, _⟩ := drop_cons i2
         have hq2 : q < 4611686018427387904 := by omega
         simp only [Pm.beqs] at h
         cases e1 : (u.name == v.name)
         · simp only [e1, Bool.false_and, Bool.not_false, ↓reduceIte] at h
           repeat' (first
 | simp only [go_sem, hC, hH, hJ, hM, hgb, encPm, e1]
 | (with_reducible first | refine kT_ fun hc => ?_ | refine kF_ fun hc => ?_ | refine kS_ (fun hc => ?_) fun hc => ?_) <;> (try simp only [hc, bs, ↓reduceIte] at h) <;> try simp only [hc]
 | (with_reducible refine lA_ hQ ?_; (try cases h); simp only [resL, oneD, sI_, eL_, go_sem, hC, hH, hJ, hM, hgb, encPm, e1]; try exact lE_)
 | (cases h; done))
         · cases e2 : (u.ref == v.ref)
           · simp only [e1, e2, Bool.and_false, Bool.not_false, ↓reduceIte] at h
             repeat' (first
 | simp only [go_sem, hC, hH, hJ, hM, hgb, encPm, e1, e2]
 | (with_reducible first | refine kT_ fun hc => ?_ | refine kF_ fun hc => ?_ | refine kS_ (fun hc => ?_) fun hc => ?_) <;> (try simp only [hc, bs, ↓reduceIte] at h) <;> try simp only [hc]
 | (with_reducible refine lA_ hQ ?_; (try cases h); simp only [resL, oneD, sI_, eL_, go_sem, hC, hH, hJ, hM, hgb, encPm, e1, e2]; try exact lE_)
 | (cases h; done))
           · simp only [e1, e2, Bool.and_true, Bool.not_true, Bool.false_eq_true, ↓reduceIte] at h
             repeat' (first
 | simp only [go_sem, hC, hH, hJ, hM, hgb, encPm, e1, e2]
 | (with_reducible first | refine kT_ fun hc => ?_ | refine kF_ fun hc => ?_ | refine kS_ (fun hc => ?_) fun hc => ?_) <;> (try simp only [hc, bs, ↓reduceIte] at h) <;> try simp only [hc]
 | (with_reducible refine lA_ hQ ?_; (try cases h); simp only [resL, oneD, sI_, eL_, go_sem, hC, hH, hJ, hM, hgb, encPm, e1, e2]; try exact lE_)
 | (cases h; done))
             refine rl_ 4 0 ?_ ?_ (IHm (s1, s2, q + 1) ⟨u2, v2, h⟩ (Nat.lt_succ_self _))
             · (simp only [go_sem, hC, hH, hJ, hM, wrap_inc hq2]; try exact lF_)
             · (simp only [go_sem, hC, hH, hJ, hM, wrap_inc hq2]; try exact lF_)

/-! ### The sample -/

def exNum (n : Int) : Ex := ⟨1, n, [], []⟩
def exName (s : Str) : Ex := ⟨2, 0, s, []⟩
def exTwo (op : Int) (a b : Ex) : Ex := ⟨op, 0, [], [a, b]⟩

theorem num_s (n : Int) (s : St) : Fun Tryd.prog n_ref3_num [.int .i64 n] s (.agg (encEx (exNum n))) s := by
 refine Fun.pure ?_ rfl (by simp [D.ok, okEx]) s
 unfold S0
 refine Fun.go has_ref3_num rfl fun B Q hB hQ => ?_
 have ⟨hC, hH, hJ, hM⟩ := H4_
 repeat' (first
 | simp only [go_sem, hC, hH, hJ, hM, exNum]
 | (with_reducible first | refine kT_ fun hc => ?_ | refine kF_ fun hc => ?_ | refine kS_ (fun hc => ?_) fun hc => ?_) <;> (try simp only [hc, bs, ↓reduceIte] at h) <;> try simp only [hc]
 | (with_reducible refine lA_ hQ ?_; (try cases h); simp only [resL, oneD, sI_, eL_, go_sem, hC, hH, hJ, hM, exNum]; try exact lE_)
 | (cases h; done))
theorem name_ref_s (t : Str) (s : St) : Fun Tryd.prog n_ref3_name [.str t] s (.agg (encEx (exName t))) s := by
 refine Fun.pure ?_ rfl (by simp [D.ok, okEx]) s
 unfold S0
 refine Fun.go has_ref3_name rfl fun B Q hB hQ => ?_
 have ⟨hC, hH, hJ, hM⟩ := H4_
 repeat' (first
 | simp only [go_sem, hC, hH, hJ, hM, exName]
 | (with_reducible first | refine kT_ fun hc => ?_ | refine kF_ fun hc => ?_ | refine kS_ (fun hc => ?_) fun hc => ?_) <;> (try simp only [hc, bs, ↓reduceIte] at h) <;> try simp only [hc]
 | (with_reducible refine lA_ hQ ?_; (try cases h); simp only [resL, oneD, sI_, eL_, go_sem, hC, hH, hJ, hM, exName]; try exact lE_)
 | (cases h; done))
theorem two_ref_s (op : Int) (a b : Ex) (s : St) : Fun Tryd.prog n_ref3_two [.int .i64 op, .agg (encEx a), .agg (encEx b)] s (.agg (encEx (exTwo op a b))) s := by
 refine Fun.pure ?_ (by simp [D.oks, D.ok, okEx]) (by simp [D.ok, okEx]) s
 unfold S0
 refine Fun.go has_ref3_two rfl fun B Q hB hQ => ?_
 have ⟨hC, hH, hJ, hM⟩ := H4_
 repeat' (first
 | simp only [go_sem, hC, hH, hJ, hM, exTwo]
 | (with_reducible first | refine kT_ fun hc => ?_ | refine kF_ fun hc => ?_ | refine kS_ (fun hc => ?_) fun hc => ?_) <;> (try simp only [hc, bs, ↓reduceIte] at h) <;> try simp only [hc]
 | (with_reducible refine lA_ hQ ?_; (try cases h); simp only [resL, oneD, sI_, eL_, go_sem, hC, hH, hJ, hM, exTwo]; try exact lE_)
 | (cases h; done))

def source : Str := [103, 108, 111, 98, 97, 108, 32, 103, 59, 10, 112, 114, 111, 99, 32, 109, 97, 105, 110, 40, 41, 32, 123, 10, 32, 118, 97, 114, 32, 118, 59, 10, 32, 118, 32, 61, 32, 50, 59, 10, 32, 103, 32, 61, 32, 112, 40, 51, 44, 32, 114, 101, 102, 32, 118, 41, 59, 10, 32, 112, 114, 105, 110, 116, 32, 118, 59, 10, 32, 112, 114, 105, 110, 116, 32, 103, 59, 10, 125, 10, 112, 114, 111, 99, 32, 112, 40, 120, 44, 32, 114, 101, 102, 32, 121, 41, 32, 123, 10, 32, 121, 32, 61, 32, 121, 32, 43, 32, 120, 59, 10, 32, 105, 102, 32, 40, 121, 32, 62, 32, 57, 41, 32, 123, 10, 32, 32, 103, 111, 116, 111, 32, 101, 59, 10, 32, 125, 10, 32, 114, 101, 116, 117, 114, 110, 32, 121, 59, 10, 101, 58, 32, 125, 10]

theorem Source_s (s : St) : Fun Tryd.prog n_ref3_Source [] s (.str source) s := by
 refine Fun.pure ?_ rfl rfl s
 unfold S0
 refine Fun.go has_ref3_Source rfl fun B Q hB hQ => ?_
 have ⟨hC, hH, hJ, hM⟩ := H4_
 repeat' (first
 | simp only [go_sem, hC, hH, hJ, hM, source]
 | (with_reducible first | refine kT_ fun hc => ?_ | refine kF_ fun hc => ?_ | refine kS_ (fun hc => ?_) fun hc => ?_) <;> (try simp only [hc, bs, ↓reduceIte] at h) <;> try simp only [hc]
 | (with_reducible refine lA_ hQ ?_; (try cases h); simp only [resL, oneD, sI_, eL_, go_sem, hC, hH, hJ, hM, source]; try exact lE_)
 | (cases h; done))

def some0 : Pg := ⟨[[103]], [
 ⟨[109, 97, 105, 110], [], [[118]], [
   ⟨1, 1, [], [118], [], exNum 2, false, [], [], []⟩,
   ⟨2, 4, [], [103], [112], ex0, false, [⟨false, [], exNum 3⟩, ⟨true, [118], ex0⟩], [], []⟩,
   ⟨3, 3, [], [], [], exName [118], false, [], [], []⟩,
   ⟨4, 3, [], [], [], exName [103], false, [], [], []⟩], []⟩,
 ⟨[112], [⟨[120], false⟩, ⟨[121], true⟩], [], [
   ⟨5, 1, [], [121], [], exTwo 8 (exName [121]) (exName [120]), false, [], [], []⟩,
   ⟨6, 5, [], [], [], exTwo 12 (exName [121]) (exNum 9), false, [], [⟨7, 10, [], [101], [], ex0, false, [], [], []⟩], []⟩,
   ⟨8, 9, [], [], [], exName [121], true, [], [], []⟩], [[101]]⟩]⟩

theorem Some_s (s : St) : Fun Tryd.prog n_ref3_Some [] s (.agg (encPg some0)) s := by
 refine Fun.pure ?_ rfl (by simp [D.ok, okPg]) s
 unfold S0
 refine Fun.go has_ref3_Some rfl fun B Q hB hQ => ?_
 have ⟨hC, hH, hJ, hM⟩ := H4_
 repeat' (first
 | simp only [go_sem, hC, hH, hJ, hM, some0]
 | (with_reducible refine CU (num_s _ _) ?_)
 | (with_reducible refine CU (name_ref_s _ _) ?_)
 | (with_reducible refine CU (two_ref_s _ _ _ _) ?_)
 | (with_reducible first | refine kT_ fun hc => ?_ | refine kF_ fun hc => ?_ | refine kS_ (fun hc => ?_) fun hc => ?_) <;> (try simp only [hc, bs, ↓reduceIte] at h) <;> try simp only [hc]
 | (with_reducible refine lA_ hQ ?_; (try cases h); simp only [resL, oneD, sI_, eL_, go_sem, hC, hH, hJ, hM, some0]; repeat' (first | exact Ok.out | with_reducible refine aI_ ?_ ?_ | (simp; done)))
 | (cases h; done))
 repeat' (first | exact Ok.out | with_reducible refine Wk.agg ?_ | with_reducible refine Wk.rows ?_ | with_reducible refine Wk.slice ?_ | with_reducible refine WkR.cons ?_ ?_ | with_reducible refine WkL.cons ?_ ?_)

end Go.Abs

/-! Prs3 -/

namespace Go.Abs

set_option maxRecDepth 8000
open Go.Proofs

theorem names_0 {n : Nat} {l : List Str} {most : Int} {r : Rd} {p : List Str × Rd} (h : Rd.names n l most r = some p) :
   Fun Tryd.prog n_parse_reader_names [.ptr 0 0, .slice (.tok 0) 1 (l.map encStr), .int .i64 most] ⟨[encRd r], [some l.length]⟩ (.slice (.tok 0) 1 (p.1.map encStr)) ⟨[encRd p.2], [some p.1.length]⟩ := by
 refine Fun.go has_parse_reader_names rfl fun B Q hB hQ => ?_
 have ⟨hC, hH, hJ, hM⟩ := H4_
 repeat' (first
 | simp only [go_sem, hC, hH, hJ, hM]
 | (with_reducible first | refine kT_ fun hc => ?_ | refine kF_ fun hc => ?_ | refine kS_ (fun hc => ?_) fun hc => ?_) <;> (try simp only [hc, bs, ↓reduceIte] at h) <;> try simp only [hc]
 | (with_reducible refine lA_ hQ ?_; exact lY_)
 | (cases h; done))
 refine rL_ 1 1 (SemL.ind (ι := Nat × List Str × Rd × Nat) (fun i => Rd.names i.1 i.2.1 most i.2.2.1 = some p ∧ i.2.2.2 = i.2.1.length) (fun i => i.1)
   (fun i => [(0, .ptr 0 0), (1, .slice (.tok 0) 1 (i.2.1.map encStr)), (2, .int .i64 most)]) (fun i => ⟨[encRd i.2.2.1], [some i.2.2.2]⟩) ?_ (n, l, r, l.length) ⟨h, rfl⟩)
 rintro ⟨n, l, r, k⟩ ⟨h, hk⟩ IH
 dsimp only at hk; subst hk
 cases n with
 | zero => simp only [Rd.names] at h; cases h
 | succ n =>
   simp only [Rd.names] at h
   repeat' (first
 | simp only [go_sem, hC, hH, hJ, hM]
 | (rw [Option.bind_eq_some_iff] at h; obtain ⟨_, h1, h⟩ := h; first | (with_reducible refine CU (name_s h1 (by with_unfolding_all rfl)) ?_) | (obtain ⟨hJ, hpush⟩ := push_some h1; subst hpush; simp only [go_sem, hC, hH, hJ, hM]) | (with_reducible refine CU (take_s h1 (by with_unfolding_all rfl)) ?_) | (with_reducible refine CU (want_s h1 (by with_unfolding_all rfl)) ?_))
 | (with_reducible refine CU (good_s (by with_unfolding_all rfl)) ?_)
 | (with_reducible first | refine kT_ fun hc => ?_ | refine kF_ fun hc => ?_ | refine kS_ (fun hc => ?_) fun hc => ?_) <;> (try simp only [hc, bs, ↓reduceIte] at h) <;> try simp only [hc]
 | (with_reducible refine lA_ hQ ?_; exact lY_)
 | (cases h; done))
   refine rL_ 1 1 (IH (n, _, _, l.length + 1) ⟨h, by simp⟩ (Nat.lt_succ_self _))

theorem names_s {n : Nat} {l : List Str} {most : Int} {r : Rd} {p : List Str × Rd} (h : Rd.names n l most r = some p) {s : St} {o t : Nat} (ho : s.objs[o]? = some (encRd r)) (ht : s.toks[t]? = some (some l.length)) :
   Fun Tryd.prog n_parse_reader_names [.ptr o 0, .slice (.tok t) 1 (l.map encStr), .int .i64 most] s (.slice (.tok t) 1 (p.1.map encStr)) ⟨s.objs.set o (encRd p.2), s.toks.set t (some p.1.length)⟩ :=
 (names_0 h).methT rfl (okRd r) (okRd p.2) (okrStr l) (okrStr p.1) ho ht

theorem labels_s {n : Nat} {r : Rd} {p : List Str × Rd} (h : Rd.labels n [] r = some p) {s : St} {o : Nat} (ho : s.objs[o]? = some (encRd r)) :
   Fun Tryd.prog n_parse_reader_labels [.ptr o 0] s (.slice .shared 1 (p.1.map encStr)) ⟨s.objs.set o (encRd p.2), s.toks⟩ := by
 refine Fun.meth ?_ rfl (okRd r) (okRd p.2) (by simp [D.ok, okrStr, Tag.ok]) ho
 refine Fun.go has_parse_reader_labels rfl fun B Q hB hQ => ?_
 have ⟨hC, hH, hJ, hM⟩ := H4_
 repeat' (first
 | simp only [go_sem, hC, hH, hJ, hM]
 | (with_reducible first | refine kT_ fun hc => ?_ | refine kF_ fun hc => ?_ | refine kS_ (fun hc => ?_) fun hc => ?_) <;> (try simp only [hc, bs, ↓reduceIte] at h) <;> try simp only [hc]
 | (with_reducible refine lA_ hQ ?_; exact lY_)
 | (cases h; done))
 refine SemL.tokT 3 1 rfl ?_
 simp only [go_sem, hC, hH, hJ, hM]
 refine rL_ 1 1 (SemL.ind (ι := Nat × List Str × Rd × Nat) (fun i => Rd.labels i.1 i.2.1 i.2.2.1 = some p ∧ i.2.2.2 = i.2.1.length) (fun i => i.1)
   (fun i => [(0, .ptr 0 0), (3, .slice (.tok 0) 1 (i.2.1.map encStr))]) (fun i => ⟨[encRd i.2.2.1], [some i.2.2.2]⟩) ?_ (n, [], r, 0) ⟨h, rfl⟩)
 rintro ⟨n, l, r, k⟩ ⟨h, hk⟩ IH
 dsimp only at hk; subst hk
 cases n with
 | zero => simp only [Rd.labels] at h; cases h
 | succ n =>
   simp only [Rd.labels, Rd.ahead] at h
   repeat' (first
 | simp only [go_sem, hC, hH, hJ, hM]
 | (rw [Option.bind_eq_some_iff] at h; obtain ⟨_, h1, h⟩ := h; first | (with_reducible refine CU (peek_s h1 (by with_unfolding_all rfl)) ?_; have hC := peek_lt h1) | (obtain ⟨hJ, hpush⟩ := push_some h1; subst hpush; simp only [go_sem, hC, hH, hJ, hM]) | (obtain ⟨hltq, hH⟩ := getO_some h1; simp only [go_sem, hH, hC, hH, hJ, hM]))
 | (with_reducible refine CU (good_s (by with_unfolding_all rfl)) ?_)
 | (with_reducible first | refine kT_ fun hc => ?_ | refine kF_ fun hc => ?_ | refine kS_ (fun hc => ?_) fun hc => ?_) <;> (try simp only [hc, bs, ↓reduceIte] at h) <;> try simp only [hc]
 | (with_reducible refine lA_ hQ ?_; exact lY_)
 | (cases h; done))
   refine rL_ 1 1 (IH (n, _, _, l.length + 1) ⟨h, by simp⟩ (Nat.lt_succ_self _))

end Go.Abs

/-! Prs4 -/

namespace Go.Abs

set_option maxRecDepth 8000
open Go.Proofs

theorem begins_s {r : Rd} {b : Bool} (h : r.begins = some b) {s : St} {o : Nat} (ho : s.objs[o]? = some (encRd r)) :
   Fun Tryd.prog n_parse_reader_begins [.ptr o 0] s (.bool b) ⟨s.objs.set o (encRd r), s.toks⟩ := by
 refine Fun.meth ?_ rfl (okRd r) (okRd r) rfl ho
 unfold Rd.begins at h
 refine Fun.go has_parse_reader_begins rfl fun B Q hB hQ => ?_
 have ⟨hC, hH, hJ, hM⟩ := H4_
 repeat' (first
 | simp only [go_sem, hC, hH, hJ, hM]
 | (rw [Option.bind_eq_some_iff] at h; obtain ⟨_, h1, h⟩ := h; first | (with_reducible refine CU (peek_s h1 (by with_unfolding_all rfl)) ?_))
 | (with_reducible first | refine kT_ fun hc => ?_ | refine kF_ fun hc => ?_ | refine kS_ (fun hc => ?_) fun hc => ?_) <;> (try simp only [hc, bs, ↓reduceIte] at h) <;> try simp only [hc]
 | (with_reducible refine lA_ hQ ?_; exact lY_)
 | (cases h; done))

theorem call_s {m : Nat} {name proc : Str} {r : Rd} {p : Sm × Rd} (h : Rd.call m name proc r = some p) {s : St} {o : Nat} (ho : s.objs[o]? = some (encRd r)) :
   Fun Tryd.prog n_parse_reader_call [.ptr o 0, .str name, .str proc] s (.agg (encSm p.1)) ⟨s.objs.set o (encRd p.2), s.toks⟩ := by
 refine Fun.meth ?_ rfl (okRd r) (okRd p.2) (by simp [D.ok, okSm]) ho
 unfold Rd.call Rd.other at h
 refine Fun.go has_parse_reader_call rfl fun B Q hB hQ => ?_
 have ⟨hC, hH, hJ, hM⟩ := H4_
 repeat' (first
 | simp only [go_sem, hC, hH, hJ, hM]
 | (rw [Option.bind_eq_some_iff] at h; obtain ⟨_, h1, h⟩ := h; first | (with_reducible refine CU (want_s h1 (by with_unfolding_all rfl)) ?_) | (with_reducible refine CU (is_s h1 (by with_unfolding_all rfl)) ?_))
 | (with_reducible refine CU (good_s (by with_unfolding_all rfl)) ?_)
 | (with_reducible first | refine kT_ fun hc => ?_ | refine kF_ fun hc => ?_ | refine kS_ (fun hc => ?_) fun hc => ?_) <;> (try simp only [hc, bs, ↓reduceIte] at h) <;> try simp only [hc]
 | (with_reducible refine lA_ hQ ?_; exact lY_)
 | (cases h; replace h := hr; clear hr; (try simp only [bs, ↓reduceIte] at h))
 | (cases h; done))
 rw [Option.bind_eq_some_iff] at h
 obtain ⟨q, h, hr⟩ := h
 refine SemL.tokO 2 10 6 rfl rfl ?_
 simp only [go_sem, hC, hH, hJ, hM]
 refine rL_ 3 1 (SemL.ind (ι := Nat × List Ar × Rd × Nat) (fun i => Rd.callL m i.1 i.2.1 i.2.2.1 = some q ∧ i.2.2.2 = i.2.1.length) (fun i => i.1)
   (fun i => [(0, .ptr 0 0), (6, .ptr 1 0), (7, .ptr 2 0)]) (fun i => ⟨[encRd i.2.2.1, encSm sm0, [.int .i64 0, .int .i64 4, .slice .shared 1 [], .str name, .str proc, .int .i64 0, .int .i64 0, .str [], .slice .shared 4 [], .bool false, .slice (.tok 0) 6 (i.2.1.map encAr), .slice .shared 13 [], .slice .shared 13 []]], [some i.2.2.2]⟩) ?_ (m, [], _, 0) ⟨h, rfl⟩)
 rintro ⟨n, l, r, k⟩ ⟨h, hk⟩ IH
 dsimp only at hk; subst hk
 cases n with
 | zero => simp only [Rd.callL] at h; cases h
 | succ n =>
   simp only [Rd.callL] at h
   repeat' (first
 | simp only [go_sem, hC, hH, hJ, hM]
 | (rw [Option.bind_eq_some_iff] at h; obtain ⟨_, h1, h⟩ := h; first | (with_reducible refine CU (take_s h1 (by with_unfolding_all rfl)) ?_) | (obtain ⟨hJ, hpush⟩ := push_some h1; subst hpush; simp only [go_sem, hC, hH, hJ, hM]) | (with_reducible refine CU (name_s h1 (by with_unfolding_all rfl)) ?_) | (with_reducible refine CU (whole_s h1 (by with_unfolding_all rfl)) ?_) | (with_reducible refine CU (want_s h1 (by with_unfolding_all rfl)) ?_))
 | (with_reducible refine CU (good_s (by with_unfolding_all rfl)) ?_)
 | (with_reducible first | refine kT_ fun hc => ?_ | refine kF_ fun hc => ?_ | refine kS_ (fun hc => ?_) fun hc => ?_) <;> (try simp only [hc, bs, ↓reduceIte] at h) <;> try simp only [hc]
 | (with_reducible refine lA_ hQ ?_; exact lY_)
 | (cases h; replace h := hr; clear hr; (try simp only [bs, ↓reduceIte] at h))
 | (cases h; done))
   · refine rL_ 3 1 (IH (n, _, _, l.length + 1) ⟨h, by simp⟩ (Nat.lt_succ_self _))
   · refine rL_ 3 1 (IH (n, _, _, l.length + 1) ⟨h, by simp⟩ (Nat.lt_succ_self _))

theorem named_s {m : Nat} {r : Rd} {p : Sm × Rd} (h : Rd.named m r = some p) {s : St} {o : Nat} (ho : s.objs[o]? = some (encRd r)) :
   Fun Tryd.prog n_parse_reader_named [.ptr o 0] s (.agg (encSm p.1)) ⟨s.objs.set o (encRd p.2), s.toks⟩ := by
 refine Fun.meth ?_ rfl (okRd r) (okRd p.2) (by simp [D.ok, okSm]) ho
 unfold Rd.named Rd.ahead at h
 refine Fun.go has_parse_reader_named rfl fun B Q hB hQ => ?_
 have ⟨hC, hH, hJ, hM⟩ := H4_
 repeat' (first
 | simp only [go_sem, hC, hH, hJ, hM]
 | (rw [Option.bind_eq_some_iff] at h; obtain ⟨_, h1, h⟩ := h; first | (with_reducible refine CU (name_s h1 (by with_unfolding_all rfl)) ?_) | (with_reducible refine CU (want_s h1 (by with_unfolding_all rfl)) ?_) | (with_reducible refine CU (is_s h1 (by with_unfolding_all rfl)) ?_) | (with_reducible refine CU (peek_s h1 (by with_unfolding_all rfl)) ?_; have hC := peek_lt h1) | (obtain ⟨hltq, hH⟩ := getO_some h1; simp only [go_sem, hH, hC, hH, hJ, hM]) | (with_reducible refine CU (whole_s h1 (by with_unfolding_all rfl)) ?_))
 | (with_reducible refine CU (good_s (by with_unfolding_all rfl)) ?_)
 | (with_reducible refine CU (call_s h (by with_unfolding_all rfl)) ?_)
 | (with_reducible first | refine kT_ fun hc => ?_ | refine kF_ fun hc => ?_ | refine kS_ (fun hc => ?_) fun hc => ?_) <;> (try simp only [hc, bs, ↓reduceIte] at h) <;> try simp only [hc]
 | (with_reducible refine lA_ hQ ?_; exact lY_)
 | (cases h; done))

theorem plain_s {m : Nat} {word : Str} {r : Rd} {p : Sm × Rd} (h : Rd.plain m word r = some p) {s : St} {o : Nat} (ho : s.objs[o]? = some (encRd r)) :
   Fun Tryd.prog n_parse_reader_plain [.ptr o 0, .str word] s (.agg (encSm p.1)) ⟨s.objs.set o (encRd p.2), s.toks⟩ := by
 refine Fun.meth ?_ rfl (okRd r) (okRd p.2) (by simp [D.ok, okSm]) ho
 unfold Rd.plain at h
 refine Fun.go has_parse_reader_plain rfl fun B Q hB hQ => ?_
 have ⟨hC, hH, hJ, hM⟩ := H4_
 repeat' (first
 | simp only [go_sem, hC, hH, hJ, hM]
 | (rw [Option.bind_eq_some_iff] at h; obtain ⟨_, h1, h⟩ := h; first | (with_reducible refine CU (name_s h1 (by with_unfolding_all rfl)) ?_) | (with_reducible refine CU (is_s h1 (by with_unfolding_all rfl)) ?_) | (with_reducible refine CU (whole_s h1 (by with_unfolding_all rfl)) ?_))
 | (with_reducible first | refine kT_ fun hc => ?_ | refine kF_ fun hc => ?_ | refine kS_ (fun hc => ?_) fun hc => ?_) <;> (try simp only [hc, bs, ↓reduceIte] at h) <;> try simp only [hc]
 | (with_reducible refine lA_ hQ ?_; exact lY_)
 | (cases h; done))

theorem head_s {m : Nat} {r : Rd} {p : Ex × Rd} (h : Rd.head m r = some p) {s : St} {o : Nat} (ho : s.objs[o]? = some (encRd r)) :
   Fun Tryd.prog n_parse_reader_head [.ptr o 0] s (.agg (encEx p.1)) ⟨s.objs.set o (encRd p.2), s.toks⟩ := by
 refine Fun.meth ?_ rfl (okRd r) (okRd p.2) (by simp [D.ok, okEx]) ho
 unfold Rd.head at h
 refine Fun.go has_parse_reader_head rfl fun B Q hB hQ => ?_
 have ⟨hC, hH, hJ, hM⟩ := H4_
 repeat' (first
 | simp only [go_sem, hC, hH, hJ, hM]
 | (rw [Option.bind_eq_some_iff] at h; obtain ⟨_, h1, h⟩ := h; first | (with_reducible refine CU (want_s h1 (by with_unfolding_all rfl)) ?_) | (with_reducible refine CU (whole_s h1 (by with_unfolding_all rfl)) ?_))
 | (with_reducible first | refine kT_ fun hc => ?_ | refine kF_ fun hc => ?_ | refine kS_ (fun hc => ?_) fun hc => ?_) <;> (try simp only [hc, bs, ↓reduceIte] at h) <;> try simp only [hc]
 | (with_reducible refine lA_ hQ ?_; exact lY_)
 | (cases h; done))

end Go.Abs

/-! Prs5 -/

namespace Go.Abs

set_option maxRecDepth 8000
open Go.Proofs

abbrev C_rows (m n : Nat) : Prop := ∀ {nest : Int} {body : Bool} {r : Rd} {p : (List Sm × List Str) × Rd}, Rd.rows m n nest body r = some p → ∀ {s : St} {o : Nat}, s.objs[o]? = some (encRd r) →
 Fun Tryd.prog n_parse_reader_rows [.ptr o 0, .int .i64 nest, .bool body] s (.tuple [.slice .shared 13 (p.1.1.map encSm), .slice .shared 1 (p.1.2.map encStr)]) ⟨s.objs.set o (encRd p.2), s.toks⟩
abbrev C_stmt (m n : Nat) : Prop := ∀ {nest : Int} {r : Rd} {p : Sm × Rd}, Rd.stmt m n nest r = some p → ∀ {s : St} {o : Nat}, s.objs[o]? = some (encRd r) →
 Fun Tryd.prog n_parse_reader_stmt [.ptr o 0, .int .i64 nest] s (.agg (encSm p.1)) ⟨s.objs.set o (encRd p.2), s.toks⟩
abbrev C_block (m n : Nat) : Prop := ∀ {nest : Int} {r : Rd} {p : List Sm × Rd}, Rd.block m n nest r = some p → ∀ {s : St} {o : Nat}, s.objs[o]? = some (encRd r) →
 Fun Tryd.prog n_parse_reader_block [.ptr o 0, .int .i64 nest] s (.slice .shared 13 (p.1.map encSm)) ⟨s.objs.set o (encRd p.2), s.toks⟩
abbrev C_choice (m n : Nat) : Prop := ∀ {nest : Int} {r : Rd} {p : Sm × Rd}, Rd.choice m n nest r = some p → ∀ {s : St} {o : Nat}, s.objs[o]? = some (encRd r) →
 Fun Tryd.prog n_parse_reader_choice [.ptr o 0, .int .i64 nest] s (.agg (encSm p.1)) ⟨s.objs.set o (encRd p.2), s.toks⟩

theorem choice_step {m n : Nat} (block_s : C_block m n) : C_choice m (n + 1) := by
 intro nest r p h s o ho
 refine Fun.meth ?_ rfl (okRd r) (okRd p.2) (by simp [D.ok, okSm]) ho
 unfold Rd.choice at h
 refine Fun.go has_parse_reader_choice rfl fun B Q hB hQ => ?_
 have ⟨hC, hH, hJ, hM⟩ := H4_
 repeat' (first
 | simp only [go_sem, hC, hH, hJ, hM]
 | (rw [Option.bind_eq_some_iff] at h; obtain ⟨_, h1, h⟩ := h; first | (with_reducible refine CU (head_s h1 (by with_unfolding_all rfl)) ?_) | (with_reducible refine CU (block_s h1 (by with_unfolding_all rfl)) ?_) | (with_reducible refine CU (take_s h1 (by with_unfolding_all rfl)) ?_))
 | (with_reducible first | refine kT_ fun hc => ?_ | refine kF_ fun hc => ?_ | refine kS_ (fun hc => ?_) fun hc => ?_) <;> (try simp only [hc, bs, ↓reduceIte] at h) <;> try simp only [hc]
 | (with_reducible refine lA_ hQ ?_; exact lY_)
 | (cases h; done))

theorem block_step {m n : Nat} (rows_s : C_rows m n) : C_block m (n + 1) := by
 intro nest r p h s o ho
 refine Fun.meth ?_ rfl (okRd r) (okRd p.2) (by simp [D.ok, okrSm, Tag.ok]) ho
 unfold Rd.block at h
 refine Fun.go has_parse_reader_block rfl fun B Q hB hQ => ?_
 have ⟨hC, hH, hJ, hM⟩ := H4_
 repeat' (first
 | simp only [go_sem, hC, hH, hJ, hM]
 | (rw [Option.bind_eq_some_iff] at h; obtain ⟨_, h1, h⟩ := h; first | (with_reducible refine CU (want_s h1 (by with_unfolding_all rfl)) ?_) | (obtain ⟨hM, hik⟩ := incI_some h1; subst hik; simp only [go_sem, hM, hC, hH, hJ, hM]) | (with_reducible refine CU (rows_s h1 (by with_unfolding_all rfl)) ?_))
 | (with_reducible first | refine kT_ fun hc => ?_ | refine kF_ fun hc => ?_ | refine kS_ (fun hc => ?_) fun hc => ?_) <;> (try simp only [hc, bs, ↓reduceIte] at h) <;> try simp only [hc]
 | (with_reducible refine lA_ hQ ?_; exact lY_)
 | (cases h; done))

theorem stmt_step {m n : Nat} (block_s : C_block m n) (choice_s : C_choice m n) : C_stmt m (n + 1) := by
 intro nest r p h s o ho
 refine Fun.meth ?_ rfl (okRd r) (okRd p.2) (by simp [D.ok, okSm]) ho
 unfold Rd.stmt at h
 refine Fun.go has_parse_reader_stmt rfl fun B Q hB hQ => ?_
 have ⟨hC, hH, hJ, hM⟩ := H4_
 repeat' (first
 | simp only [go_sem, hC, hH, hJ, hM]
 | (rw [Option.bind_eq_some_iff] at h; obtain ⟨_, h1, h⟩ := h; first | (with_reducible refine CU (begins_s h1 (by with_unfolding_all rfl)) ?_) | (obtain ⟨hM, hik⟩ := inc_some h1; subst hik; simp only [go_sem, hM, hC, hH, hJ, hM]) | (with_reducible refine CU (peek_s h1 (by with_unfolding_all rfl)) ?_; have hC := peek_lt h1) | (with_reducible refine CU (head_s h1 (by with_unfolding_all rfl)) ?_) | (with_reducible refine CU (block_s h1 (by with_unfolding_all rfl)) ?_) | (with_reducible refine CU (plain_s h1 (by with_unfolding_all rfl)) ?_) | (with_reducible refine CU (want_s h1 (by with_unfolding_all rfl)) ?_) | (with_reducible refine CU (bad_s h1 (by with_unfolding_all rfl)) ?_))
 | (with_reducible refine CU (choice_s h (by with_unfolding_all rfl)) ?_)
 | (with_reducible refine CU (named_s h (by with_unfolding_all rfl)) ?_)
 | (with_reducible first | refine kT_ fun hc => ?_ | refine kF_ fun hc => ?_ | refine kS_ (fun hc => ?_) fun hc => ?_) <;> (try simp only [hc, bs, ↓reduceIte] at h) <;> try simp only [hc]
 | (with_reducible refine lA_ hQ ?_; exact lY_)
 | (cases h; done))

theorem rows_true {m n : Nat} (stmt_s : ∀ j < n, C_stmt m j) {nest : Int} {r : Rd} {p : (List Sm × List Str) × Rd} (h : Rd.rows m (n + 1) nest true r = some p) :
   Fun Tryd.prog n_parse_reader_rows [.ptr 0 0, .int .i64 nest, .bool true] ⟨[encRd r], []⟩ (.tuple [.slice .shared 13 (p.1.1.map encSm), .slice .shared 1 (p.1.2.map encStr)]) ⟨[encRd p.2], []⟩ := by
 unfold Rd.rows at h
 refine Fun.go has_parse_reader_rows rfl fun B Q hB hQ => ?_
 have ⟨hC, hH, hJ, hM⟩ := H4_
 repeat' (first
 | simp only [go_sem, hC, hH, hJ, hM]
 | (with_reducible first | refine kT_ fun hc => ?_ | refine kF_ fun hc => ?_ | refine kS_ (fun hc => ?_) fun hc => ?_) <;> (try simp only [hc, bs, ↓reduceIte] at h) <;> try simp only [hc]
 | (with_reducible refine lA_ hQ ?_; exact lY_)
 | (cases h; done))
 refine SemL.tokT 8 13 rfl ?_
 simp only [go_sem, hC, hH, hJ, hM]
 refine rL_ 1 1 (SemL.ind (ι := Nat × List Sm × Rd × Nat) (fun i => Rd.rowsL m i.1 nest true i.2.1 i.2.2.1 = some p ∧ i.2.2.2 = i.2.1.length ∧ i.1 ≤ n) (fun i => i.1)
   (fun i => [(0, .ptr 0 0), (1, .int .i64 nest), (2, .bool true), (8, .slice (.tok 0) 13 (i.2.1.map encSm))]) (fun i => ⟨[encRd i.2.2.1], [some i.2.2.2]⟩) ?_ (n, [], r, 0) ⟨h, rfl, Nat.le_refl _⟩)
 rintro ⟨j, l, r, k⟩ ⟨h, hk, hj⟩ IH
 dsimp only at hk hj; subst hk
 cases j with
 | zero => simp only [Rd.rowsL] at h; cases h
 | succ j =>
   have stmt_j := @stmt_s j (by omega)
   simp only [Rd.rowsL] at h
   repeat' (first
 | simp only [go_sem, hC, hH, hJ, hM, encSm_eq]
 | (rw [Option.bind_eq_some_iff] at h; obtain ⟨_, h1, h⟩ := h; first | (with_reducible refine CU (labels_s h1 (by with_unfolding_all rfl)) ?_) | (with_reducible refine CU (is_s h1 (by with_unfolding_all rfl)) ?_; have hC := is_lt h1) | (obtain ⟨hJ, hpush⟩ := push_some h1; subst hpush; simp only [go_sem, hC, hH, hJ, hM]) | (with_reducible refine CU (stmt_j h1 (by with_unfolding_all rfl)) ?_))
 | (with_reducible refine CU (good_s (by with_unfolding_all rfl)) ?_)
 | (with_reducible first | refine kT_ fun hc => ?_ | refine kF_ fun hc => ?_ | refine kS_ (fun hc => ?_) fun hc => ?_) <;> (try simp only [hc, bs, ↓reduceIte] at h) <;> try simp only [hc]
 | (with_reducible refine lA_ hQ ?_; (try cases h); simp only [resL, oneD, sI_, eL_, go_sem, hC, hH, hJ, hM, encSm_eq]; try exact lE_)
 | (cases h; done))
   · refine rl_ 1 1 ?_ ?_ (IH (j, _, _, l.length + 1) ⟨h, by simp, by dsimp only; omega⟩ (Nat.lt_succ_self _))
     · (simp only [go_sem, hC, hH, hJ, hM, encSm_eq]; try exact lF_)
     · (simp only [go_sem, hC, hH, hJ, hM, encSm_eq]; try exact lF_)

theorem rows_false {m n : Nat} (stmt_s : ∀ j < n, C_stmt m j) {nest : Int} {r : Rd} {p : (List Sm × List Str) × Rd} (h : Rd.rows m (n + 1) nest false r = some p) :
   Fun Tryd.prog n_parse_reader_rows [.ptr 0 0, .int .i64 nest, .bool false] ⟨[encRd r], []⟩ (.tuple [.slice .shared 13 (p.1.1.map encSm), .slice .shared 1 (p.1.2.map encStr)]) ⟨[encRd p.2], []⟩ := by
 unfold Rd.rows at h
 refine Fun.go has_parse_reader_rows rfl fun B Q hB hQ => ?_
 have ⟨hC, hH, hJ, hM⟩ := H4_
 repeat' (first
 | simp only [go_sem, hC, hH, hJ, hM]
 | (with_reducible first | refine kT_ fun hc => ?_ | refine kF_ fun hc => ?_ | refine kS_ (fun hc => ?_) fun hc => ?_) <;> (try simp only [hc, bs, ↓reduceIte] at h) <;> try simp only [hc]
 | (with_reducible refine lA_ hQ ?_; exact lY_)
 | (cases h; done))
 refine SemL.tokT 8 13 rfl ?_
 simp only [go_sem, hC, hH, hJ, hM]
 refine rL_ 1 1 (SemL.ind (ι := Nat × List Sm × Rd × Nat) (fun i => Rd.rowsL m i.1 nest false i.2.1 i.2.2.1 = some p ∧ i.2.2.2 = i.2.1.length ∧ i.1 ≤ n) (fun i => i.1)
   (fun i => [(0, .ptr 0 0), (1, .int .i64 nest), (2, .bool false), (8, .slice (.tok 0) 13 (i.2.1.map encSm))]) (fun i => ⟨[encRd i.2.2.1], [some i.2.2.2]⟩) ?_ (n, [], r, 0) ⟨h, rfl, Nat.le_refl _⟩)
 rintro ⟨j, l, r, k⟩ ⟨h, hk, hj⟩ IH
 dsimp only at hk hj; subst hk
 cases j with
 | zero => simp only [Rd.rowsL] at h; cases h
 | succ j =>
   have stmt_j := @stmt_s j (by omega)
   simp only [Rd.rowsL] at h
   repeat' (first
 | simp only [go_sem, hC, hH, hJ, hM, encSm_eq]
 | (rw [Option.bind_eq_some_iff] at h; obtain ⟨_, h1, h⟩ := h; first | (with_reducible refine CU (labels_s h1 (by with_unfolding_all rfl)) ?_) | (with_reducible refine CU (is_s h1 (by with_unfolding_all rfl)) ?_; have hC := is_lt h1) | (obtain ⟨hJ, hpush⟩ := push_some h1; subst hpush; simp only [go_sem, hC, hH, hJ, hM]) | (with_reducible refine CU (stmt_j h1 (by with_unfolding_all rfl)) ?_))
 | (with_reducible refine CU (good_s (by with_unfolding_all rfl)) ?_)
 | (with_reducible first | refine kT_ fun hc => ?_ | refine kF_ fun hc => ?_ | refine kS_ (fun hc => ?_) fun hc => ?_) <;> (try simp only [hc, bs, ↓reduceIte] at h) <;> try simp only [hc]
 | (with_reducible refine lA_ hQ ?_; (try cases h); simp only [resL, oneD, sI_, eL_, go_sem, hC, hH, hJ, hM, encSm_eq]; try exact lE_)
 | (cases h; done))
   · refine rl_ 1 1 ?_ ?_ (IH (j, _, _, l.length + 1) ⟨h, by simp, by dsimp only; omega⟩ (Nat.lt_succ_self _))
     · (simp only [go_sem, hC, hH, hJ, hM, encSm_eq]; try exact lF_)
     · (simp only [go_sem, hC, hH, hJ, hM, encSm_eq]; try exact lF_)
   · refine rl_ 1 1 ?_ ?_ (IH (j, _, _, l.length + 1) ⟨h, by simp, by dsimp only; omega⟩ (Nat.lt_succ_self _))
     · (simp only [go_sem, hC, hH, hJ, hM, encSm_eq]; try exact lF_)
     · (simp only [go_sem, hC, hH, hJ, hM, encSm_eq]; try exact lF_)

theorem rows_step {m n : Nat} (stmt_s : ∀ j < n, C_stmt m j) : C_rows m (n + 1) := by
 intro nest body r p h s o ho
 refine Fun.meth ?_ rfl (okRd r) (okRd p.2) (by simp [D.ok, D.oks, okrSm, okrStr, Tag.ok]) ho
 cases body
 · exact rows_false stmt_s h
 · exact rows_true stmt_s h

theorem allR_s (m : Nat) : ∀ n, ∀ k < n, C_rows m k ∧ C_stmt m k ∧ C_block m k ∧ C_choice m k := by
 intro n
 induction n with
 | zero => intro k h; exact absurd h (Nat.not_lt_zero _)
 | succ n ih =>
   intro k hk
   cases k with
   | zero =>
     refine ⟨?_, ?_, ?_, ?_⟩
     · intro nest body r p h; simp only [Rd.rows] at h; cases h
     · intro nest r p h; simp only [Rd.stmt] at h; cases h
     · intro nest r p h; simp only [Rd.block] at h; cases h
     · intro nest r p h; simp only [Rd.choice] at h; cases h
   | succ k =>
     obtain ⟨h1, h2, h3, h4⟩ := ih k (by omega)
     exact ⟨rows_step fun j hj => (ih j (by omega)).2.1, stmt_step h3 h4, block_step h1, choice_step h3⟩

theorem rows_s {m n : Nat} {nest : Int} {body : Bool} {r : Rd} {p : (List Sm × List Str) × Rd} (h : Rd.rows m n nest body r = some p) {s : St} {o : Nat} (ho : s.objs[o]? = some (encRd r)) :
   Fun Tryd.prog n_parse_reader_rows [.ptr o 0, .int .i64 nest, .bool body] s (.tuple [.slice .shared 13 (p.1.1.map encSm), .slice .shared 1 (p.1.2.map encStr)]) ⟨s.objs.set o (encRd p.2), s.toks⟩ :=
 (allR_s m (n + 1) n (Nat.lt_succ_self _)).1 h ho

end Go.Abs

/-! Prs6 -/

namespace Go.Abs

set_option maxRecDepth 8000
open Go.Proofs

theorem proc_vars {m : Nat} {B : Base} {Q : Exit → Tm → St → Prop} {row : List D} {name : Str} {p : Pc × Rd} (hB : B.s = ⟨[row], []⟩) (hQ : retF 1 0 [(2, some (true, 5))] (.agg (encPc p.1)) ⟨[encRd p.2], []⟩ = Q)
   (ps : List Pm) (r : Rd) (h : Rd.procB m name ps r = some p) :
   SemL Tryd.prog B 56 Q166 (inBlockQ 2 (thenQ (wpC Tryd.prog B 56 Q16C Q) Q)) [(0, .ptr 0 0), (2, .ptr 1 0), (3, .ptr 2 0)]
     ⟨[encRd r, [.str [], .slice .full 0 [], .slice .full 0 [], .slice .full 0 [], .slice .full 0 []], [.str name, .slice .shared 2 (ps.map encPm), .slice .full 0 [], .slice .full 0 [], .slice .full 0 []]], []⟩ := by
 have ⟨hC, hH, hJ, hM⟩ := H4_
 unfold Rd.procB at h
 rw [Option.bind_eq_some_iff] at h
 obtain ⟨q, h, hr⟩ := h
 refine SemL.tokO 2 2 1 rfl rfl ?_
 simp only [go_sem, hC, hH, hJ, hM]
 refine rL_ 3 1 (SemL.ind (ι := Nat × List Str × Rd × Nat) (fun i => Rd.vars m i.1 i.2.1 i.2.2.1 = some q ∧ i.2.2.2 = i.2.1.length) (fun i => i.1)
   (fun i => [(0, .ptr 0 0), (2, .ptr 1 0), (3, .ptr 2 0)]) (fun i => ⟨[encRd i.2.2.1, [.str [], .slice .full 0 [], .slice .full 0 [], .slice .full 0 [], .slice .full 0 []], [.str name, .slice .shared 2 (ps.map encPm), .slice (.tok 0) 1 (i.2.1.map encStr), .slice .full 0 [], .slice .full 0 []]], [some i.2.2.2]⟩) ?_ (m, [], r, 0) ⟨h, rfl⟩)
 rintro ⟨n, l, r, k⟩ ⟨h, hk⟩ IH
 dsimp only at hk; subst hk
 cases n with
 | zero => simp only [Rd.vars] at h; cases h
 | succ n =>
   simp only [Rd.vars] at h
   repeat' (first
 | simp only [go_sem, hC, hH, hJ, hM]
 | (rw [Option.bind_eq_some_iff] at h; obtain ⟨_, h1, h⟩ := h; first | (with_reducible refine CU (take_s h1 (by with_unfolding_all rfl)) ?_) | (with_reducible refine CU (names_s h1 (by with_unfolding_all rfl) (by with_unfolding_all rfl)) ?_) | (with_reducible refine CU (rows_s h1 (by with_unfolding_all rfl)) ?_))
 | (with_reducible first | refine kT_ fun hc => ?_ | refine kF_ fun hc => ?_ | refine kS_ (fun hc => ?_) fun hc => ?_) <;> (try simp only [hc, bs, ↓reduceIte] at h) <;> try simp only [hc]
 | (with_reducible refine lA_ hQ ?_; exact lY_)
 | (cases h; replace h := hr; clear hr; (try simp only [bs, ↓reduceIte] at h))
 | (cases h; done))
   refine rL_ 3 1 (IH (n, _, _, _) ⟨h, rfl⟩ (Nat.lt_succ_self _))

theorem proc_s {m : Nat} {r : Rd} {p : Pc × Rd} (h : Rd.proc m r = some p) {s : St} {o : Nat} (ho : s.objs[o]? = some (encRd r)) :
   Fun Tryd.prog n_parse_reader_proc [.ptr o 0] s (.agg (encPc p.1)) ⟨s.objs.set o (encRd p.2), s.toks⟩ := by
 refine Fun.meth ?_ rfl (okRd r) (okRd p.2) (by simp [D.ok, okPc]) ho
 unfold Rd.proc Rd.other at h
 refine Fun.go has_parse_reader_proc rfl fun B Q hB hQ => ?_
 have ⟨hC, hH, hJ, hM⟩ := H4_
 repeat' (first
 | simp only [go_sem, hC, hH, hJ, hM]
 | (rw [Option.bind_eq_some_iff] at h; obtain ⟨_, h1, h⟩ := h; first | (with_reducible refine CU (want_s h1 (by with_unfolding_all rfl)) ?_) | (with_reducible refine CU (is_s h1 (by with_unfolding_all rfl)) ?_) | (with_reducible refine CU (name_s h1 (by with_unfolding_all rfl)) ?_))
 | (with_reducible refine CU (good_s (by with_unfolding_all rfl)) ?_)
 | (with_reducible first | refine kT_ fun hc => ?_ | refine kF_ fun hc => ?_ | refine kS_ (fun hc => ?_) fun hc => ?_) <;> (try simp only [hc, bs, ↓reduceIte] at h) <;> try simp only [hc]
 | (with_reducible refine lA_ hQ ?_; exact lY_)
 | (cases h; replace h := hr; clear hr; (try simp only [bs, ↓reduceIte] at h))
 | (cases h; done))
 · refine rL_ 3 0 (proc_vars hB hQ [] _ h)
 · rename_i nm _ _ _ _ _
   rw [Option.bind_eq_some_iff] at h
   obtain ⟨q, h, hr⟩ := h
   refine SemL.tokO 2 1 2 rfl rfl ?_
   simp only [go_sem, hC, hH, hJ, hM]
   refine rL_ 3 1 (SemL.ind (ι := Nat × List Pm × Rd × Nat) (fun i => Rd.params i.1 i.2.1 i.2.2.1 = some q ∧ i.2.2.2 = i.2.1.length) (fun i => i.1)
     (fun i => [(0, .ptr 0 0), (2, .ptr 1 0), (3, .ptr 2 0)]) (fun i => ⟨[encRd i.2.2.1, [.str [], .slice .full 0 [], .slice .full 0 [], .slice .full 0 [], .slice .full 0 []], [.str nm.1, .slice (.tok 0) 2 (i.2.1.map encPm), .slice .full 0 [], .slice .full 0 [], .slice .full 0 []]], [some i.2.2.2]⟩) ?_ (m, [], _, 0) ⟨h, rfl⟩)
   rintro ⟨n, l, r, k⟩ ⟨h, hk⟩ IH
   dsimp only at hk; subst hk
   cases n with
   | zero => simp only [Rd.params] at h; cases h
   | succ n =>
     simp only [Rd.params] at h
     repeat' (first
 | simp only [go_sem, hC, hH, hJ, hM]
 | (rw [Option.bind_eq_some_iff] at h; obtain ⟨_, h1, h⟩ := h; first | (with_reducible refine CU (take_s h1 (by with_unfolding_all rfl)) ?_) | (with_reducible refine CU (name_s h1 (by with_unfolding_all rfl)) ?_) | (obtain ⟨hJ, hpush⟩ := push_some h1; subst hpush; simp only [go_sem, hC, hH, hJ, hM]) | (with_reducible refine CU (want_s h1 (by with_unfolding_all rfl)) ?_))
 | (with_reducible refine CU (good_s (by with_unfolding_all rfl)) ?_)
 | (with_reducible first | refine kT_ fun hc => ?_ | refine kF_ fun hc => ?_ | refine kS_ (fun hc => ?_) fun hc => ?_) <;> (try simp only [hc, bs, ↓reduceIte] at h) <;> try simp only [hc]
 | (with_reducible refine lA_ hQ ?_; exact lY_)
 | (cases h; replace h := hr; clear hr; (try simp only [bs, ↓reduceIte] at h))
 | (cases h; done))
     · refine rL_ 3 1 (IH (n, _, _, l.length + 1) ⟨h, by simp⟩ (Nat.lt_succ_self _))
     · refine rL_ 3 0 (proc_vars hB hQ _ _ h)
     · refine rL_ 3 0 (proc_vars hB hQ _ _ h)
 · refine rL_ 3 0 (proc_vars hB hQ [] _ h)

theorem program_tail {m : Nat} {B : Base} {Q : Exit → Tm → St → Prop} {row : List D} {g : List Str} {p : Pg × Rd} (hB : B.s = ⟨[row], []⟩) (hQ : retF 1 0 [(2, some (true, 2))] (.agg (encPg p.1)) ⟨[encRd p.2], []⟩ = Q)
   (r : Rd) {k : Nat} (h : ((Rd.procs m k [] r).bind fun q => some (⟨g, q.1⟩, q.2)) = some p) :
   SemL Tryd.prog B 49 QLW (inBlockQ 2 (thenQ (wpC Tryd.prog B 49 QM5 Q) Q)) [(0, .ptr 0 0), (2, .ptr 1 0), (3, .ptr 2 0)]
     ⟨[encRd r, [.slice .full 0 [], .slice .full 0 []], [.slice .shared 1 (g.map encStr), .slice .full 0 []]], []⟩ := by
 have ⟨hC, hH, hJ, hM⟩ := H4_
 rw [Option.bind_eq_some_iff] at h
 obtain ⟨q, h, hr⟩ := h
 cases hr
 refine SemL.tokO 2 1 5 rfl rfl ?_
 simp only [go_sem, hC, hH, hJ, hM]
 refine rL_ 3 1 (SemL.ind (ι := Nat × List Pc × Rd × Nat) (fun i => Rd.procs m i.1 i.2.1 i.2.2.1 = some q ∧ i.2.2.2 = i.2.1.length) (fun i => i.1)
   (fun i => [(0, .ptr 0 0), (2, .ptr 1 0), (3, .ptr 2 0)]) (fun i => ⟨[encRd i.2.2.1, [.slice .full 0 [], .slice .full 0 []], [.slice .shared 1 (g.map encStr), .slice (.tok 0) 5 (i.2.1.map encPc)]], [some i.2.2.2]⟩) ?_ (k, [], r, 0) ⟨h, rfl⟩)
 rintro ⟨n, l, r, k⟩ ⟨h, hk⟩ IH
 dsimp only at hk; subst hk
 cases n with
 | zero => simp only [Rd.procs] at h; cases h
 | succ n =>
   simp only [Rd.procs, Rd.isProc, Rd.notEnd] at h
   repeat' (first
 | simp only [go_sem, hC, hH, hJ, hM]
 | (rw [Option.bind_eq_some_iff] at h; obtain ⟨_, h1, h⟩ := h; first | (with_reducible refine CU (is_s h1 (by with_unfolding_all rfl)) ?_; have hC := is_lt h1) | (with_reducible refine CU (bad_s h1 (by with_unfolding_all rfl)) ?_) | (with_reducible refine CU (proc_s h1 (by with_unfolding_all rfl)) ?_) | (obtain ⟨hJ, hpush⟩ := push_some h1; subst hpush; simp only [go_sem, hC, hH, hJ, hM]) | (with_reducible refine CU (peek_s h1 (by with_unfolding_all rfl)) ?_))
 | (with_reducible refine CU (good_s (by with_unfolding_all rfl)) ?_)
 | (with_reducible first | refine kT_ fun hc => ?_ | refine kF_ fun hc => ?_ | refine kS_ (fun hc => ?_) fun hc => ?_) <;> (try simp only [hc, bs, ↓reduceIte] at h) <;> try simp only [hc]
 | (with_reducible refine lA_ hQ ?_; exact lY_)
 | (cases h; replace h := hr; clear hr; (try simp only [bs, ↓reduceIte] at h))
 | (cases h; done))
   · refine rL_ 3 1 (IH (n, _, _, l.length + 1) ⟨h, by simp⟩ (Nat.lt_succ_self _))

end Go.Abs
