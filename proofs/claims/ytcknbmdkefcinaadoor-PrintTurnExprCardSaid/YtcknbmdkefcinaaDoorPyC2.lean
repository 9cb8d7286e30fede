/-
  What is proved here: part 2 of the road to the claim (Codes1, Have1, Codes2, Have2, Codes3, Have3, Prs, Lex1, Lex2, RefLex1, Prs2, Ref1, Ref2, Ref3).
  No conditions.
-/
import Derived.Test.YtcknbmdkefcinaaDoorPyC1
import Derived.Test.YtcknbmdkefcinaaDoorProg
import Derived.KernelRfl

set_option linter.unusedSimpArgs false
set_option linter.unusedVariables false

/-! Codes1 -/

namespace Go.Abs

abbrev Q7F : AC := .run [(.op (some 6) none (.mv (.s 1))), (.op (some 7) none (.bin .gtr (.s 6) (.k (.int .i64 0))))]
abbrev Q7G : AC := .cond (.s 7) .skip (.exit 0)
abbrev Q7H : AC := .seq Q7F Q7G
abbrev Q7I : AC := .run [(.op (some 10) none (.mv (.s 0))), (.op (some 11) none (.nilck (.s 10))), (.op (some 12) none (.faddr (.s 11) 0)), (.call (some 13) none n_strings_Builder_WriteByte [(.s 12), (.k (.int .u8 32))])]
abbrev Q7J : AC := .block 1 Q7I
abbrev Q7K : AC := .run [(.op (some 8) none (.mv (.s 1))), (.op (some 9) none (.bin .sub (.s 8) (.k (.int .i64 1)))), (.op (some 1) none (.mv (.s 9)))]
abbrev Q7L : AC := .seq Q7J Q7K
abbrev Q7M : AC := .seq Q7H Q7L
abbrev Q7N : AC := .loop Q7M
abbrev Q7O : AC := .block 0 Q7N
abbrev Q7P : AC := .run [(.op (some 14) none (.mv (.s 0))), (.op (some 15) none (.nilck (.s 14))), (.op (some 16) none (.faddr (.s 15) 0)), (.op (some 17) none (.mv (.s 2))), (.call (some 18) none n_strings_Builder_WriteString [(.s 16), (.s 17)])]
abbrev Q7Q : AC := .run [(.op (some 19) none (.mv (.s 0))), (.op (some 20) none (.nilck (.s 19))), (.op (some 21) none (.faddr (.s 20) 0)), (.call (some 22) none n_strings_Builder_WriteByte [(.s 21), (.k (.int .u8 10))])]
abbrev Q7R : AC := .seq Q7P Q7Q
abbrev Q7S : AC := .seq Q7O Q7R
abbrev Q7T : AC := .run [(.op (some 2) none (.mv (.k (.str []))))]
abbrev Q7U : AC := .run [(.op (some 3) none (.mv (.s 0)))]
abbrev Q7V : AC := .run [(.op (some 2) none (.mv (.k (.str [114, 101, 102, 32]))))]
abbrev Q7W : AC := .seq Q7V .ret
abbrev Q7X : AC := .cond (.s 3) Q7W .skip
abbrev Q7Y : AC := .seq Q7U Q7X
abbrev Q7Z : AC := .run [(.op (some 2) none (.mv (.k (.str []))))]
abbrev Q80 : AC := .seq Q7Z .ret
abbrev Q81 : AC := .seq Q7Y Q80
abbrev Q82 : AC := .seq Q7T Q81
abbrev Q83 : AC := .run [(.op (some 9) none (.mv (.s 1))), (.op (some 10) none (.len (.s 9))), (.op (some 11) none (.mv (.k (.int .i64 0))))]
abbrev Q84 : AC := .run [(.op (some 12) none (.bin .lss (.s 11) (.s 10)))]
abbrev Q85 : AC := .cond (.s 12) .skip (.exit 0)
abbrev Q86 : AC := .run [(.op (some 13) none (.iaddr (.s 9) (.s 11) 13)), (.op (some 14) none (.load (.s 13) true 13)), (.op (some 7) none (.alloc [(.int .i64 0), (.int .i64 0), (.slice .full 0 []), (.str []), (.str []), (.int .i64 0), (.int .i64 0), (.str []), (.slice .full 0 []), (.bool false), (.slice .full 0 []), (.slice .full 0 []), (.slice .full 0 [])])), (.op none none (.store (.s 7) (.s 14) 13))]
abbrev Q87 : AC := .run [(.op (some 15) none (.faddr (.s 7) 2)), (.op (some 16) none (.load (.s 15) false 1)), (.call (some 17) none n_print_marks [(.s 16)]), (.op (some 8) none (.mv (.s 17)))]
abbrev Q88 : AC := .run [(.op (some 18) none (.faddr (.s 7) 1)), (.op (some 19) none (.load (.s 18) false 1))]
abbrev Q89 : AC := .run [(.op (some 29) none (.bin .eql (.s 19) (.k (.int .i64 6)))), (.op (some 28) none (.mv (.s 29)))]
abbrev Q8A : AC := .run [(.op (some 30) none (.mv (.s 0))), (.op (some 31) none (.mv (.s 2))), (.op (some 32) none (.mv (.s 8))), (.op (some 33) none (.bin .add (.s 32) (.k (.str [119, 104, 105, 108, 101, 32, 40])))), (.op (some 34) none (.faddr (.s 7) 5)), (.op (some 35) none (.load (.s 34) true 4)), (.call (some 36) none n_print_expr [(.s 35), (.k (.int .i64 0))]), (.op (some 37) none (.bin .add (.s 33) (.s 36))), (.op (some 38) none (.bin .add (.s 37) (.k (.str [41, 32, 123])))), (.call (some 39) none n_print_writer_line [(.s 30), (.s 31), (.s 38)])]
abbrev Q8B : AC := .run [(.op (some 40) none (.mv (.s 0))), (.op (some 41) none (.faddr (.s 7) 11)), (.op (some 42) none (.load (.s 41) false 1)), (.op (some 43) none (.mv (.s 2))), (.op (some 44) none (.bin .add (.s 43) (.k (.int .i64 1)))), (.call (some 45) none n_print_writer_rows [(.s 40), (.s 42), (.s 44)])]
abbrev Q8C : AC := .run [(.op (some 46) none (.mv (.s 0))), (.op (some 47) none (.mv (.s 2))), (.call (some 48) none n_print_writer_line [(.s 46), (.s 47), (.k (.str [125]))])]
abbrev Q8D : AC := .seq Q8B Q8C
abbrev Q8E : AC := .seq Q8A Q8D
abbrev Q8F : AC := .run [(.op (some 50) none (.bin .eql (.s 19) (.k (.int .i64 5)))), (.op (some 49) none (.mv (.s 50)))]
abbrev Q8G : AC := .run [(.op (some 51) none (.mv (.s 0))), (.op (some 52) none (.mv (.s 2))), (.op (some 53) none (.mv (.s 8))), (.op (some 54) none (.bin .add (.s 53) (.k (.str [105, 102, 32, 40])))), (.op (some 55) none (.faddr (.s 7) 5)), (.op (some 56) none (.load (.s 55) true 4)), (.call (some 57) none n_print_expr [(.s 56), (.k (.int .i64 0))]), (.op (some 58) none (.bin .add (.s 54) (.s 57))), (.op (some 59) none (.bin .add (.s 58) (.k (.str [41, 32, 123])))), (.call (some 60) none n_print_writer_line [(.s 51), (.s 52), (.s 59)])]
abbrev Q8H : AC := .run [(.op (some 61) none (.mv (.s 0))), (.op (some 62) none (.faddr (.s 7) 11)), (.op (some 63) none (.load (.s 62) false 1)), (.op (some 64) none (.mv (.s 2))), (.op (some 65) none (.bin .add (.s 64) (.k (.int .i64 1)))), (.call (some 66) none n_print_writer_rows [(.s 61), (.s 63), (.s 65)])]
abbrev Q8I : AC := .run [(.op (some 67) none (.faddr (.s 7) 12)), (.op (some 68) none (.load (.s 67) false 1)), (.op (some 69) none (.len (.s 68))), (.op (some 70) none (.bin .gtr (.s 69) (.k (.int .i64 0))))]
abbrev Q8J : AC := .run [(.op (some 71) none (.mv (.s 0))), (.op (some 72) none (.mv (.s 2))), (.call (some 73) none n_print_writer_line [(.s 71), (.s 72), (.k (.str [125, 32, 101, 108, 115, 101, 32, 123]))])]
abbrev Q8K : AC := .run [(.op (some 74) none (.mv (.s 0))), (.op (some 75) none (.faddr (.s 7) 12)), (.op (some 76) none (.load (.s 75) false 1)), (.op (some 77) none (.mv (.s 2))), (.op (some 78) none (.bin .add (.s 77) (.k (.int .i64 1)))), (.call (some 79) none n_print_writer_rows [(.s 74), (.s 76), (.s 78)])]
abbrev Q8L : AC := .seq Q8J Q8K
abbrev Q8M : AC := .cond (.s 70) Q8L .skip
abbrev Q8N : AC := .seq Q8I Q8M
abbrev Q8O : AC := .run [(.op (some 80) none (.mv (.s 0))), (.op (some 81) none (.mv (.s 2))), (.call (some 82) none n_print_writer_line [(.s 80), (.s 81), (.k (.str [125]))])]
abbrev Q8P : AC := .seq Q8N Q8O
abbrev Q8Q : AC := .seq Q8H Q8P
abbrev Q8R : AC := .seq Q8G Q8Q
abbrev Q8S : AC := .run [(.op (some 20) none (.mv (.s 0))), (.op (some 21) none (.mv (.s 2))), (.op (some 22) none (.mv (.s 8))), (.op (some 23) none (.load (.s 7) true 13)), (.call (some 24) none n_print_plain [(.s 23)]), (.op (some 25) none (.bin .add (.s 22) (.s 24))), (.op (some 26) none (.bin .add (.s 25) (.k (.str [59])))), (.call (some 27) none n_print_writer_line [(.s 20), (.s 21), (.s 26)])]
abbrev Q8T : AC := .cond (.s 49) Q8R Q8S
abbrev Q8U : AC := .seq Q8F Q8T
abbrev Q8V : AC := .cond (.s 28) Q8E Q8U
abbrev Q8W : AC := .seq Q89 Q8V
abbrev Q8X : AC := .block 2 Q8W
abbrev Q8Y : AC := .seq Q88 Q8X
abbrev Q8Z : AC := .seq Q87 Q8Y
abbrev Q90 : AC := .seq Q86 Q8Z
abbrev Q91 : AC := .block 1 Q90
abbrev Q92 : AC := .run [(.op (some 83) none (.bin .add (.s 11) (.k (.int .i64 1)))), (.op (some 11) none (.mv (.s 83)))]
abbrev Q93 : AC := .seq Q91 Q92
abbrev Q94 : AC := .seq Q85 Q93
abbrev Q95 : AC := .seq Q84 Q94
abbrev Q96 : AC := .loop Q95
abbrev Q97 : AC := .block 0 Q96
abbrev Q98 : AC := .seq Q83 Q97
abbrev Q99 : AC := .run [(.op (some 2) none (.mv (.k (.str []))))]
abbrev Q9A : AC := .run [(.op (some 3) none (.mv (.k (.str []))))]
abbrev Q9B : AC := .run [(.op (some 6) none (.mv (.s 0))), (.op (some 7) none (.len (.s 6))), (.op (some 8) none (.mv (.k (.int .i64 0))))]
abbrev Q9C : AC := .run [(.op (some 9) none (.bin .lss (.s 8) (.s 7)))]
abbrev Q9D : AC := .cond (.s 9) .skip (.exit 0)
abbrev Q9E : AC := .run [(.op (some 10) none (.iaddr (.s 6) (.s 8) 1)), (.op (some 11) none (.load (.s 10) false 1)), (.op (some 5) none (.mv (.s 11)))]
abbrev Q9F : AC := .run [(.op (some 12) none (.mv (.s 3))), (.op (some 13) none (.mv (.s 5))), (.op (some 14) none (.bin .add (.s 13) (.k (.str [58, 32])))), (.op (some 15) none (.bin .add (.s 12) (.s 14))), (.op (some 3) none (.mv (.s 15)))]
abbrev Q9G : AC := .seq Q9E Q9F
abbrev Q9H : AC := .block 1 Q9G
abbrev Q9I : AC := .run [(.op (some 16) none (.bin .add (.s 8) (.k (.int .i64 1)))), (.op (some 8) none (.mv (.s 16)))]
abbrev Q9J : AC := .seq Q9H Q9I
abbrev Q9K : AC := .seq Q9D Q9J
abbrev Q9L : AC := .seq Q9C Q9K
abbrev Q9M : AC := .loop Q9L
abbrev Q9N : AC := .block 0 Q9M
abbrev Q9O : AC := .seq Q9B Q9N
abbrev Q9P : AC := .run [(.op (some 17) none (.mv (.s 3))), (.op (some 2) none (.mv (.s 17)))]
abbrev Q9Q : AC := .seq Q9P .ret
abbrev Q9R : AC := .seq Q9O Q9Q
abbrev Q9S : AC := .seq Q9A Q9R
abbrev Q9T : AC := .seq Q99 Q9S
abbrev Q9U : AC := .run [(.op (some 2) none (.box (.s 0))), (.op (some 4) none (.mv (.k (.int .i64 0))))]
abbrev Q9V : AC := .run [(.op (some 6) none (.faddr (.s 2) 2)), (.op (some 7) none (.load (.s 6) false 1)), (.op (some 8) none (.mv (.s 1))), (.call (some 9) none n_ref3_weighText [(.s 7), (.s 8)]), (.op (some 1) none (.mv (.s 9)))]
abbrev Q9W : AC := .run [(.op (some 5) none (.mv (.k (.int .i64 0))))]
abbrev Q9X : AC := .run [(.op (some 10) none (.mv (.s 5))), (.op (some 11) none (.faddr (.s 2) 3)), (.op (some 12) none (.load (.s 11) false 1)), (.op (some 13) none (.len (.s 12))), (.op (some 14) none (.bin .lss (.s 10) (.s 13))), (.op (some 15) none (.mv (.s 14))), (.op (some 16) (some (15, true)) (.mv (.s 1))), (.op (some 17) (some (15, true)) (.bin .leq (.s 16) (.k (.int .i64 20000)))), (.op (some 18) none (.pick (.s 15) (.s 17) (.k (.bool false))))]
abbrev Q9Y : AC := .cond (.s 18) .skip (.exit 0)
abbrev Q9Z : AC := .seq Q9X Q9Y
abbrev QA0 : AC := .run [(.op (some 21) none (.faddr (.s 2) 3)), (.op (some 22) none (.load (.s 21) false 1)), (.op (some 23) none (.mv (.s 5))), (.op (some 24) none (.iaddr (.s 22) (.s 23) 4)), (.op (some 25) none (.load (.s 24) true 4)), (.op (some 26) none (.mv (.s 1))), (.call (some 27) none n_ref3_weighExpr [(.s 25), (.s 26)]), (.op (some 1) none (.mv (.s 27)))]
abbrev QA1 : AC := .block 1 QA0
abbrev QA2 : AC := .run [(.op (some 19) none (.mv (.s 5))), (.op (some 20) none (.bin .add (.s 19) (.k (.int .i64 1)))), (.op (some 5) none (.mv (.s 20)))]
abbrev QA3 : AC := .seq QA1 QA2
abbrev QA4 : AC := .seq Q9Z QA3
abbrev QA5 : AC := .loop QA4
abbrev QA6 : AC := .block 0 QA5
abbrev QA7 : AC := .seq Q9W QA6
abbrev QA8 : AC := .run [(.op (some 28) none (.mv (.s 1))), (.op (some 4) none (.mv (.s 28)))]
abbrev QA9 : AC := .seq QA8 .ret
abbrev QAA : AC := .seq QA7 QA9
abbrev QAB : AC := .seq Q9V QAA
abbrev QAC : AC := .seq Q9U QAB
abbrev QAD : AC := .run [(.op (some 1) none (.box (.s 0))), (.op (some 2) none (.mv (.k (.bool false))))]
abbrev QAE : AC := .run [(.op (some 3) none (.load (.s 1) true 4)), (.call (some 4) none n_tree_deep [(.s 3), (.k (.int .i64 20))]), (.op (some 2) none (.mv (.s 4)))]
abbrev QAF : AC := .seq QAE .ret
abbrev QAG : AC := .seq QAD QAF
abbrev QAH : AC := .run [(.op (some 2) none (.box (.s 0))), (.op (some 4) none (.mv (.k (.str []))))]
abbrev QAI : AC := .run [(.op (some 8) none (.faddr (.s 2) 0)), (.op (some 9) none (.load (.s 8) false 1))]
abbrev QAJ : AC := .run [(.op (some 11) none (.bin .eql (.s 9) (.k (.int .i64 1)))), (.op (some 10) none (.mv (.s 11)))]
abbrev QAK : AC := .run [(.op (some 12) none (.faddr (.s 2) 1)), (.op (some 13) none (.load (.s 12) false 1)), (.call (some 14) none n_strconv_FormatInt [(.s 13), (.k (.int .i64 10))]), (.op (some 4) none (.mv (.s 14)))]
abbrev QAL : AC := .seq QAK .ret
abbrev QAM : AC := .run [(.op (some 16) none (.bin .eql (.s 9) (.k (.int .i64 2)))), (.op (some 15) none (.mv (.s 16)))]
abbrev QAN : AC := .run [(.op (some 17) none (.faddr (.s 2) 2)), (.op (some 18) none (.load (.s 17) false 1)), (.op (some 4) none (.mv (.s 18)))]
abbrev QAO : AC := .seq QAN .ret
abbrev QAP : AC := .run [(.op (some 20) none (.bin .eql (.s 9) (.k (.int .i64 3)))), (.op (some 19) none (.mv (.s 20)))]
abbrev QAQ : AC := .run [(.op (some 21) none (.faddr (.s 2) 3)), (.op (some 22) none (.load (.s 21) false 1)), (.op (some 23) none (.iaddr (.s 22) (.k (.int .i64 0)) 4)), (.op (some 24) none (.load (.s 23) true 4)), (.call (some 25) none n_print_expr [(.s 24), (.k (.int .i64 7))]), (.op (some 26) none (.bin .add (.k (.str [45])) (.s 25))), (.op (some 4) none (.mv (.s 26)))]
abbrev QAR : AC := .seq QAQ .ret
abbrev QAS : AC := .run [(.op (some 28) none (.bin .eql (.s 9) (.k (.int .i64 4)))), (.op (some 27) none (.mv (.s 28)))]
abbrev QAT : AC := .run [(.op (some 29) none (.faddr (.s 2) 3)), (.op (some 30) none (.load (.s 29) false 1)), (.op (some 31) none (.iaddr (.s 30) (.k (.int .i64 0)) 4)), (.op (some 32) none (.load (.s 31) true 4)), (.call (some 33) none n_print_expr [(.s 32), (.k (.int .i64 7))]), (.op (some 34) none (.bin .add (.k (.str [33])) (.s 33))), (.op (some 4) none (.mv (.s 34)))]
abbrev QAU : AC := .seq QAT .ret
abbrev QAV : AC := .cond (.s 27) QAU .skip
abbrev QAW : AC := .seq QAS QAV
abbrev QAX : AC := .cond (.s 19) QAR QAW
abbrev QAY : AC := .seq QAP QAX
abbrev QAZ : AC := .cond (.s 15) QAO QAY
abbrev QB0 : AC := .seq QAM QAZ
abbrev QB1 : AC := .cond (.s 10) QAL QB0
abbrev QB2 : AC := .seq QAJ QB1
abbrev QB3 : AC := .block 0 QB2
abbrev QB4 : AC := .seq QAI QB3
abbrev QB5 : AC := .run [(.op (some 36) none (.faddr (.s 2) 0)), (.op (some 37) none (.load (.s 36) false 1)), (.call (some 38) none n_print_sign [(.s 37)]), (.op (some 35) none (.mv (.s 38))), (.op (some 39) none (.ext (.s 35) 0)), (.op (some 40) none (.ext (.s 35) 1)), (.op (some 5) none (.mv (.s 39))), (.op (some 6) none (.mv (.s 40)))]
abbrev QB6 : AC := .par [(.op (some 41) none (.faddr (.s 2) 3)), (.op (some 42) none (.load (.s 41) false 1)), (.op (some 43) none (.iaddr (.s 42) (.k (.int .i64 0)) 4)), (.op (some 44) none (.load (.s 43) true 4)), (.op (some 45) none (.mv (.s 6))), (.call (some 46) none n_print_expr [(.s 44), (.s 45)]), (.op (some 47) none (.bin .add (.s 46) (.k (.str [32])))), (.op (some 48) none (.mv (.s 5))), (.op (some 49) none (.bin .add (.s 47) (.s 48))), (.op (some 50) none (.bin .add (.s 49) (.k (.str [32])))), (.op (some 51) none (.faddr (.s 2) 3)), (.op (some 52) none (.load (.s 51) false 1)), (.op (some 53) none (.iaddr (.s 52) (.k (.int .i64 1)) 4)), (.op (some 54) none (.load (.s 53) true 4)), (.op (some 55) none (.mv (.s 6))), (.op (some 56) none (.bin .add (.s 55) (.k (.int .i64 1)))), (.call (some 57) none n_print_expr [(.s 54), (.s 56)]), (.op (some 58) none (.bin .add (.s 50) (.s 57))), (.op (some 7) none (.mv (.s 58)))] [(0, 0), (1, 0), (2, 0), (3, 0), (4, 0), (5, 0), (10, 0), (11, 1), (12, 0), (13, 1), (14, 0), (15, 0), (16, 0), (6, 0), (7, 0), (8, 0), (9, 0), (17, 0), (18, 0)]
abbrev QB7 : AC := .run [(.op (some 59) none (.mv (.s 6))), (.op (some 60) none (.mv (.s 1))), (.op (some 61) none (.bin .lss (.s 59) (.s 60)))]
abbrev QB8 : AC := .run [(.op (some 62) none (.mv (.s 7))), (.op (some 63) none (.bin .add (.k (.str [40])) (.s 62))), (.op (some 64) none (.bin .add (.s 63) (.k (.str [41])))), (.op (some 4) none (.mv (.s 64)))]
abbrev QB9 : AC := .seq QB8 .ret
abbrev QBA : AC := .cond (.s 61) QB9 .skip
abbrev QBB : AC := .seq QB7 QBA
abbrev QBC : AC := .run [(.op (some 65) none (.mv (.s 7))), (.op (some 4) none (.mv (.s 65)))]
abbrev QBD : AC := .seq QBC .ret
abbrev QBE : AC := .seq QBB QBD
abbrev QBF : AC := .seq QB6 QBE
abbrev QBG : AC := .seq QB5 QBF
abbrev QBH : AC := .seq QB4 QBG
abbrev QBI : AC := .seq QAH QBH
abbrev QBJ : AC := .run [(.op (some 2) none (.mv (.k (.bool false))))]
abbrev QBK : AC := .run [(.op (some 5) none (.mv (.s 0))), (.op (some 6) none (.len (.s 5))), (.op (some 7) none (.mv (.k (.int .i64 0))))]
abbrev QBL : AC := .run [(.op (some 8) none (.bin .lss (.s 7) (.s 6)))]
abbrev QBM : AC := .cond (.s 8) .skip (.exit 0)
abbrev QBN : AC := .run [(.op (some 9) none (.iaddr (.s 5) (.s 7) 1)), (.op (some 10) none (.load (.s 9) false 1)), (.op (some 4) none (.mv (.s 10)))]
abbrev QBO : AC := .run [(.op (some 11) none (.mv (.s 4))), (.call (some 12) none n_ref1_Name [(.s 11)]), (.op (some 13) none (.un .not (.s 12)))]
abbrev QBP : AC := .run [(.op (some 2) none (.mv (.k (.bool false))))]
abbrev QBQ : AC := .seq QBP .ret
abbrev QBR : AC := .cond (.s 13) QBQ .skip
abbrev QBS : AC := .seq QBO QBR
abbrev QBT : AC := .seq QBN QBS
abbrev QBU : AC := .block 1 QBT
abbrev QBV : AC := .run [(.op (some 14) none (.bin .add (.s 7) (.k (.int .i64 1)))), (.op (some 7) none (.mv (.s 14)))]
abbrev QBW : AC := .seq QBU QBV
abbrev QBX : AC := .seq QBM QBW
abbrev QBY : AC := .seq QBL QBX
abbrev QBZ : AC := .loop QBY
abbrev QC0 : AC := .block 0 QBZ
abbrev QC1 : AC := .seq QBK QC0
abbrev QC2 : AC := .run [(.op (some 2) none (.mv (.k (.bool true))))]
abbrev QC3 : AC := .seq QC2 .ret
abbrev QC4 : AC := .seq QC1 QC3
abbrev QC5 : AC := .seq QBJ QC4
abbrev QC6 : AC := .run [(.op (some 2) none (.mv (.k (.bool false))))]
abbrev QC7 : AC := .run [(.op (some 4) none (.mv (.s 0))), (.op (some 5) none (.bin .eql (.s 4) (.k (.str [])))), (.op (some 6) none (.mv (.s 5))), (.op (some 7) (some (6, false)) (.mv (.s 0))), (.op (some 8) (some (6, false)) (.slen (.s 7))), (.op (some 9) (some (6, false)) (.bin .gtr (.s 8) (.k (.int .i64 8)))), (.op (some 10) none (.pick (.s 6) (.k (.bool true)) (.s 9))), (.op (some 11) none (.mv (.s 10))), (.op (some 12) (some (11, false)) (.mv (.s 0))), (.op (some 13) (some (11, false)) (.sidx (.s 12) (.k (.int .i64 0)))), (.call (some 14) (some (11, false)) n_ref1_small [(.s 13)]), (.op (some 15) (some (11, false)) (.un .not (.s 14))), (.op (some 16) none (.pick (.s 11) (.k (.bool true)) (.s 15)))]
abbrev QC8 : AC := .run [(.op (some 2) none (.mv (.k (.bool false))))]
abbrev QC9 : AC := .seq QC8 .ret
abbrev QCA : AC := .cond (.s 16) QC9 .skip
abbrev QCB : AC := .seq QC7 QCA
abbrev QCC : AC := .run [(.op (some 3) none (.mv (.k (.int .i64 1))))]
abbrev QCD : AC := .run [(.op (some 17) none (.mv (.s 3))), (.op (some 18) none (.mv (.s 0))), (.op (some 19) none (.slen (.s 18))), (.op (some 20) none (.bin .lss (.s 17) (.s 19)))]
abbrev QCE : AC := .cond (.s 20) .skip (.exit 0)
abbrev QCF : AC := .seq QCD QCE
abbrev QCG : AC := .run [(.op (some 23) none (.mv (.s 0))), (.op (some 24) none (.mv (.s 3))), (.op (some 25) none (.sidx (.s 23) (.s 24))), (.call (some 26) none n_ref1_small [(.s 25)]), (.op (some 27) none (.un .not (.s 26))), (.op (some 28) none (.mv (.s 27))), (.op (some 29) (some (28, true)) (.mv (.s 0))), (.op (some 30) (some (28, true)) (.mv (.s 3))), (.op (some 31) (some (28, true)) (.sidx (.s 29) (.s 30))), (.call (some 32) (some (28, true)) n_ref1_digit [(.s 31)]), (.op (some 33) (some (28, true)) (.un .not (.s 32))), (.op (some 34) none (.pick (.s 28) (.s 33) (.k (.bool false))))]
abbrev QCH : AC := .run [(.op (some 2) none (.mv (.k (.bool false))))]
abbrev QCI : AC := .seq QCH .ret
abbrev QCJ : AC := .cond (.s 34) QCI .skip
abbrev QCK : AC := .seq QCG QCJ
abbrev QCL : AC := .block 1 QCK
abbrev QCM : AC := .run [(.op (some 21) none (.mv (.s 3))), (.op (some 22) none (.bin .add (.s 21) (.k (.int .i64 1)))), (.op (some 3) none (.mv (.s 22)))]
abbrev QCN : AC := .seq QCL QCM
abbrev QCO : AC := .seq QCF QCN
abbrev QCP : AC := .loop QCO
abbrev QCQ : AC := .block 0 QCP
abbrev QCR : AC := .seq QCC QCQ
abbrev QCS : AC := .run [(.op (some 35) none (.mv (.s 0))), (.call (some 36) none n_ref1_Word [(.s 35)]), (.op (some 37) none (.un .not (.s 36))), (.op (some 2) none (.mv (.s 37)))]
abbrev QCT : AC := .seq QCS .ret
abbrev QCU : AC := .seq QCR QCT
abbrev QCV : AC := .seq QCB QCU
abbrev QCW : AC := .seq QC6 QCV
abbrev QCX : AC := .run [(.op (some 1) none (.box (.s 0))), (.op (some 2) none (.mv (.k (.bool false))))]
abbrev QCY : AC := .run [(.op (some 8) none (.faddr (.s 1) 1)), (.op (some 9) none (.load (.s 8) false 1)), (.op (some 10) none (.bin .eql (.s 9) (.k (.int .i64 1)))), (.op (some 11) none (.mv (.s 10))), (.op (some 12) (some (11, false)) (.faddr (.s 1) 1)), (.op (some 13) (some (11, false)) (.load (.s 12) false 1)), (.op (some 14) (some (11, false)) (.bin .eql (.s 13) (.k (.int .i64 3)))), (.op (some 15) none (.pick (.s 11) (.k (.bool true)) (.s 14))), (.op (some 16) none (.mv (.s 15))), (.op (some 17) (some (16, false)) (.faddr (.s 1) 1)), (.op (some 18) (some (16, false)) (.load (.s 17) false 1)), (.op (some 19) (some (16, false)) (.bin .eql (.s 18) (.k (.int .i64 5)))), (.op (some 20) none (.pick (.s 16) (.k (.bool true)) (.s 19))), (.op (some 21) none (.mv (.s 20))), (.op (some 22) (some (21, false)) (.faddr (.s 1) 1)), (.op (some 23) (some (21, false)) (.load (.s 22) false 1)), (.op (some 24) (some (21, false)) (.bin .eql (.s 23) (.k (.int .i64 6)))), (.op (some 25) none (.pick (.s 21) (.k (.bool true)) (.s 24))), (.op (some 26) none (.mv (.s 25))), (.op (some 27) (some (26, false)) (.faddr (.s 1) 1)), (.op (some 28) (some (26, false)) (.load (.s 27) false 1)), (.op (some 29) (some (26, false)) (.bin .eql (.s 28) (.k (.int .i64 9)))), (.op (some 30) (some (26, false)) (.mv (.s 29))), (.op (some 31) (some (30, true)) (.faddr (.s 1) 9)), (.op (some 32) (some (30, true)) (.load (.s 31) false 1)), (.op (some 33) (some (26, false)) (.pick (.s 30) (.s 32) (.k (.bool false)))), (.op (some 34) none (.pick (.s 26) (.k (.bool true)) (.s 33))), (.op (some 3) none (.mv (.s 34)))]
abbrev QCZ : AC := .run [(.op (some 35) none (.faddr (.s 1) 1)), (.op (some 36) none (.load (.s 35) false 1)), (.op (some 37) none (.bin .eql (.s 36) (.k (.int .i64 1)))), (.op (some 38) none (.mv (.s 37))), (.op (some 39) (some (38, false)) (.faddr (.s 1) 1)), (.op (some 40) (some (38, false)) (.load (.s 39) false 1)), (.op (some 41) (some (38, false)) (.bin .eql (.s 40) (.k (.int .i64 2)))), (.op (some 42) none (.pick (.s 38) (.k (.bool true)) (.s 41))), (.op (some 43) none (.mv (.s 42))), (.op (some 44) (some (43, false)) (.faddr (.s 1) 1)), (.op (some 45) (some (43, false)) (.load (.s 44) false 1)), (.op (some 46) (some (43, false)) (.bin .eql (.s 45) (.k (.int .i64 10)))), (.op (some 47) none (.pick (.s 43) (.k (.bool true)) (.s 46))), (.op (some 4) none (.mv (.s 47)))]
abbrev QD0 : AC := .run [(.op (some 48) none (.faddr (.s 1) 1)), (.op (some 49) none (.load (.s 48) false 1)), (.op (some 50) none (.bin .eql (.s 49) (.k (.int .i64 4)))), (.op (some 5) none (.mv (.s 50)))]
abbrev QD1 : AC := .run [(.op (some 51) none (.faddr (.s 1) 1)), (.op (some 52) none (.load (.s 51) false 1)), (.op (some 53) none (.bin .lss (.s 52) (.k (.int .i64 1)))), (.op (some 54) none (.mv (.s 53))), (.op (some 55) (some (54, false)) (.faddr (.s 1) 1)), (.op (some 56) (some (54, false)) (.load (.s 55) false 1)), (.op (some 57) (some (54, false)) (.bin .gtr (.s 56) (.k (.int .i64 10)))), (.op (some 58) none (.pick (.s 54) (.k (.bool true)) (.s 57))), (.op (some 59) none (.mv (.s 58))), (.op (some 60) (some (59, false)) (.faddr (.s 1) 2)), (.op (some 61) (some (59, false)) (.load (.s 60) false 1)), (.call (some 62) (some (59, false)) n_ref3_names [(.s 61)]), (.op (some 63) (some (59, false)) (.un .not (.s 62))), (.op (some 64) none (.pick (.s 59) (.k (.bool true)) (.s 63))), (.op (some 65) none (.mv (.s 64))), (.op (some 66) (some (65, false)) (.mv (.s 3))), (.op (some 67) (some (65, false)) (.mv (.s 66))), (.op (some 68) (some (67, true)) (.faddr (.s 1) 5)), (.op (some 69) (some (67, true)) (.load (.s 68) true 4)), (.call (some 70) (some (67, true)) n_ref3_MayExpr [(.s 69)]), (.op (some 71) (some (67, true)) (.un .not (.s 70))), (.op (some 72) (some (65, false)) (.pick (.s 67) (.s 71) (.k (.bool false)))), (.op (some 73) none (.pick (.s 65) (.k (.bool true)) (.s 72))), (.op (some 74) none (.mv (.s 73))), (.op (some 75) (some (74, false)) (.mv (.s 3))), (.op (some 76) (some (74, false)) (.un .not (.s 75))), (.op (some 77) (some (74, false)) (.mv (.s 76))), (.op (some 78) (some (77, true)) (.faddr (.s 1) 5)), (.op (some 79) (some (77, true)) (.load (.s 78) true 4)), (.call (some 80) (some (77, true)) n_ref3_none [(.s 79)]), (.op (some 81) (some (77, true)) (.un .not (.s 80))), (.op (some 82) (some (74, false)) (.pick (.s 77) (.s 81) (.k (.bool false)))), (.op (some 83) none (.pick (.s 74) (.k (.bool true)) (.s 82))), (.op (some 84) none (.mv (.s 83))), (.op (some 85) (some (84, false)) (.faddr (.s 1) 9)), (.op (some 86) (some (84, false)) (.load (.s 85) false 1)), (.op (some 87) (some (84, false)) (.mv (.s 86))), (.op (some 88) (some (87, true)) (.faddr (.s 1) 1)), (.op (some 89) (some (87, true)) (.load (.s 88) false 1)), (.op (some 90) (some (87, true)) (.bin .neq (.s 89) (.k (.int .i64 9)))), (.op (some 91) (some (84, false)) (.pick (.s 87) (.s 90) (.k (.bool false)))), (.op (some 92) none (.pick (.s 84) (.k (.bool true)) (.s 91)))]
abbrev QD2 : AC := .run [(.op (some 2) none (.mv (.k (.bool false))))]
abbrev QD3 : AC := .seq QD2 .ret
abbrev QD4 : AC := .cond (.s 92) QD3 .skip
abbrev QD5 : AC := .seq QD1 QD4
abbrev QD6 : AC := .run [(.op (some 93) none (.mv (.s 4))), (.op (some 94) none (.mv (.s 93))), (.op (some 95) (some (94, true)) (.faddr (.s 1) 3)), (.op (some 96) (some (94, true)) (.load (.s 95) false 1)), (.call (some 97) (some (94, true)) n_ref1_Name [(.s 96)]), (.op (some 98) (some (94, true)) (.un .not (.s 97))), (.op (some 99) none (.pick (.s 94) (.s 98) (.k (.bool false)))), (.op (some 100) none (.mv (.s 99))), (.op (some 101) (some (100, false)) (.mv (.s 4))), (.op (some 102) (some (100, false)) (.un .not (.s 101))), (.op (some 103) (some (100, false)) (.mv (.s 102))), (.op (some 104) (some (103, true)) (.faddr (.s 1) 3)), (.op (some 105) (some (103, true)) (.load (.s 104) false 1)), (.op (some 106) (some (103, true)) (.bin .neq (.s 105) (.k (.str [])))), (.op (some 107) (some (100, false)) (.pick (.s 103) (.s 106) (.k (.bool false)))), (.op (some 108) (some (100, false)) (.mv (.s 107))), (.op (some 109) (some (108, true)) (.mv (.s 5))), (.op (some 110) (some (108, true)) (.mv (.s 109))), (.op (some 111) (some (110, true)) (.faddr (.s 1) 3)), (.op (some 112) (some (110, true)) (.load (.s 111) false 1)), (.call (some 113) (some (110, true)) n_ref1_Name [(.s 112)]), (.op (some 114) (some (108, true)) (.pick (.s 110) (.s 113) (.k (.bool false)))), (.op (some 115) (some (108, true)) (.un .not (.s 114))), (.op (some 116) (some (100, false)) (.pick (.s 108) (.s 115) (.k (.bool false)))), (.op (some 117) none (.pick (.s 100) (.k (.bool true)) (.s 116)))]
abbrev QD7 : AC := .run [(.op (some 2) none (.mv (.k (.bool false))))]
abbrev QD8 : AC := .seq QD7 .ret
abbrev QD9 : AC := .cond (.s 117) QD8 .skip
abbrev QDA : AC := .seq QD6 QD9
abbrev QDB : AC := .run [(.op (some 118) none (.mv (.s 5))), (.op (some 119) none (.faddr (.s 1) 4)), (.op (some 120) none (.load (.s 119) false 1)), (.op (some 121) none (.bin .neq (.s 120) (.k (.str [])))), (.op (some 122) none (.eqb true (.s 118) (.s 121))), (.op (some 123) none (.mv (.s 122))), (.op (some 124) (some (123, false)) (.mv (.s 5))), (.op (some 125) (some (123, false)) (.mv (.s 124))), (.op (some 126) (some (125, true)) (.faddr (.s 1) 4)), (.op (some 127) (some (125, true)) (.load (.s 126) false 1)), (.call (some 128) (some (125, true)) n_ref1_Name [(.s 127)]), (.op (some 129) (some (125, true)) (.un .not (.s 128))), (.op (some 130) (some (123, false)) (.pick (.s 125) (.s 129) (.k (.bool false)))), (.op (some 131) none (.pick (.s 123) (.k (.bool true)) (.s 130))), (.op (some 132) none (.mv (.s 131))), (.op (some 133) (some (132, false)) (.mv (.s 5))), (.op (some 134) (some (132, false)) (.un .not (.s 133))), (.op (some 135) (some (132, false)) (.mv (.s 134))), (.op (some 136) (some (135, true)) (.faddr (.s 1) 10)), (.op (some 137) (some (135, true)) (.load (.s 136) false 1)), (.op (some 138) (some (135, true)) (.len (.s 137))), (.op (some 139) (some (135, true)) (.bin .gtr (.s 138) (.k (.int .i64 0)))), (.op (some 140) (some (132, false)) (.pick (.s 135) (.s 139) (.k (.bool false)))), (.op (some 141) none (.pick (.s 132) (.k (.bool true)) (.s 140)))]
abbrev QDC : AC := .run [(.op (some 2) none (.mv (.k (.bool false))))]
abbrev QDD : AC := .seq QDC .ret
abbrev QDE : AC := .cond (.s 141) QDD .skip
abbrev QDF : AC := .seq QDB QDE
abbrev QDG : AC := .run [(.op (some 142) none (.faddr (.s 1) 10)), (.op (some 143) none (.load (.s 142) false 1)), (.op (some 144) none (.len (.s 143))), (.op (some 145) none (.mv (.k (.int .i64 0))))]
abbrev QDH : AC := .run [(.op (some 146) none (.bin .lss (.s 145) (.s 144)))]
abbrev QDI : AC := .cond (.s 146) .skip (.exit 0)
abbrev QDJ : AC := .run [(.op (some 147) none (.iaddr (.s 143) (.s 145) 6)), (.op (some 148) none (.load (.s 147) true 6)), (.op (some 7) none (.alloc [(.bool false), (.str []), (.int .i64 0), (.int .i64 0), (.str []), (.slice .full 0 [])])), (.op none none (.store (.s 7) (.s 148) 6))]
abbrev QDK : AC := .run [(.op (some 149) none (.load (.s 7) true 6)), (.call (some 150) none n_ref3_arg [(.s 149)]), (.op (some 151) none (.un .not (.s 150)))]
abbrev QDL : AC := .run [(.op (some 2) none (.mv (.k (.bool false))))]
abbrev QDM : AC := .seq QDL .ret
abbrev QDN : AC := .cond (.s 151) QDM .skip
abbrev QDO : AC := .seq QDK QDN
abbrev QDP : AC := .seq QDJ QDO
abbrev QDQ : AC := .block 1 QDP
abbrev QDR : AC := .run [(.op (some 152) none (.bin .add (.s 145) (.k (.int .i64 1)))), (.op (some 145) none (.mv (.s 152)))]
abbrev QDS : AC := .seq QDQ QDR
abbrev QDT : AC := .seq QDI QDS
abbrev QDU : AC := .seq QDH QDT
abbrev QDV : AC := .loop QDU
abbrev QDW : AC := .block 0 QDV
abbrev QDX : AC := .seq QDG QDW
abbrev QDY : AC := .run [(.op (some 153) none (.faddr (.s 1) 11)), (.op (some 154) none (.load (.s 153) false 1)), (.op (some 155) none (.len (.s 154))), (.op (some 156) none (.bin .eql (.s 155) (.k (.int .i64 0)))), (.op (some 157) none (.mv (.s 156))), (.op (some 158) (some (157, false)) (.faddr (.s 1) 1)), (.op (some 159) (some (157, false)) (.load (.s 158) false 1)), (.op (some 160) (some (157, false)) (.bin .eql (.s 159) (.k (.int .i64 5)))), (.op (some 161) none (.pick (.s 157) (.k (.bool true)) (.s 160))), (.op (some 162) none (.mv (.s 161))), (.op (some 163) (some (162, false)) (.faddr (.s 1) 1)), (.op (some 164) (some (162, false)) (.load (.s 163) false 1)), (.op (some 165) (some (162, false)) (.bin .eql (.s 164) (.k (.int .i64 6)))), (.op (some 166) none (.pick (.s 162) (.k (.bool true)) (.s 165))), (.op (some 167) none (.mv (.s 166))), (.op (some 168) (some (167, true)) (.faddr (.s 1) 12)), (.op (some 169) (some (167, true)) (.load (.s 168) false 1)), (.op (some 170) (some (167, true)) (.len (.s 169))), (.op (some 171) (some (167, true)) (.bin .eql (.s 170) (.k (.int .i64 0)))), (.op (some 172) (some (167, true)) (.mv (.s 171))), (.op (some 173) (some (172, false)) (.faddr (.s 1) 1)), (.op (some 174) (some (172, false)) (.load (.s 173) false 1)), (.op (some 175) (some (172, false)) (.bin .eql (.s 174) (.k (.int .i64 5)))), (.op (some 176) (some (167, true)) (.pick (.s 172) (.k (.bool true)) (.s 175))), (.op (some 177) none (.pick (.s 167) (.s 176) (.k (.bool false)))), (.op (some 2) none (.mv (.s 177)))]
abbrev QDZ : AC := .seq QDY .ret
abbrev QE0 : AC := .seq QDX QDZ
abbrev QE1 : AC := .seq QDF QE0
abbrev QE2 : AC := .seq QDA QE1
abbrev QE3 : AC := .seq QD5 QE2
abbrev QE4 : AC := .seq QD0 QE3
abbrev QE5 : AC := .seq QCZ QE4
abbrev QE6 : AC := .seq QCY QE5
abbrev QE7 : AC := .seq QCX QE6
abbrev QE8 : AC := .run [(.op (some 2) none (.box (.s 0))), (.op (some 4) none (.mv (.k (.int .i64 0))))]
abbrev QE9 : AC := .run [(.op (some 8) none (.mv (.s 1))), (.op (some 9) none (.bin .eql (.s 8) (.k (.int .i64 0))))]
abbrev QEA : AC := .run [(.op (some 4) none (.mv (.k (.int .i64 1))))]
abbrev QEB : AC := .seq QEA .ret
abbrev QEC : AC := .cond (.s 9) QEB .skip
abbrev QED : AC := .seq QE9 QEC
abbrev QEE : AC := .run [(.op (some 5) none (.mv (.k (.int .i64 0))))]
abbrev QEF : AC := .run [(.op (some 6) none (.mv (.k (.int .i64 0))))]
abbrev QEG : AC := .run [(.op (some 10) none (.mv (.s 6))), (.op (some 11) none (.faddr (.s 2) 3)), (.op (some 12) none (.load (.s 11) false 1)), (.op (some 13) none (.len (.s 12))), (.op (some 14) none (.bin .lss (.s 10) (.s 13))), (.op (some 15) none (.mv (.s 14))), (.op (some 16) (some (15, true)) (.mv (.s 5))), (.op (some 17) (some (15, true)) (.mv (.s 1))), (.op (some 18) (some (15, true)) (.bin .lss (.s 16) (.s 17))), (.op (some 19) none (.pick (.s 15) (.s 18) (.k (.bool false))))]
abbrev QEH : AC := .cond (.s 19) .skip (.exit 0)
abbrev QEI : AC := .seq QEG QEH
abbrev QEJ : AC := .run [(.op (some 22) none (.faddr (.s 2) 3)), (.op (some 23) none (.load (.s 22) false 1)), (.op (some 24) none (.mv (.s 6))), (.op (some 25) none (.iaddr (.s 23) (.s 24) 4)), (.op (some 26) none (.load (.s 25) true 4)), (.op (some 27) none (.mv (.s 1))), (.op (some 28) none (.bin .sub (.s 27) (.k (.int .i64 1)))), (.call (some 29) none n_ref3_deep [(.s 26), (.s 28)]), (.op (some 7) none (.mv (.s 29)))]
abbrev QEK : AC := .run [(.op (some 30) none (.mv (.s 7))), (.op (some 31) none (.mv (.s 5))), (.op (some 32) none (.bin .gtr (.s 30) (.s 31)))]
abbrev QEL : AC := .run [(.op (some 33) none (.mv (.s 7))), (.op (some 5) none (.mv (.s 33)))]
abbrev QEM : AC := .cond (.s 32) QEL .skip
abbrev QEN : AC := .seq QEK QEM
abbrev QEO : AC := .seq QEJ QEN
abbrev QEP : AC := .block 1 QEO
abbrev QEQ : AC := .run [(.op (some 20) none (.mv (.s 6))), (.op (some 21) none (.bin .add (.s 20) (.k (.int .i64 1)))), (.op (some 6) none (.mv (.s 21)))]
abbrev QER : AC := .seq QEP QEQ
abbrev QES : AC := .seq QEI QER
abbrev QET : AC := .loop QES
abbrev QEU : AC := .block 0 QET
abbrev QEV : AC := .seq QEF QEU
abbrev QEW : AC := .run [(.op (some 34) none (.mv (.s 5))), (.op (some 35) none (.bin .add (.s 34) (.k (.int .i64 1)))), (.op (some 4) none (.mv (.s 35)))]
abbrev QEX : AC := .seq QEW .ret
abbrev QEY : AC := .seq QEV QEX
abbrev QEZ : AC := .seq QEE QEY
abbrev QF0 : AC := .seq QED QEZ
abbrev QF1 : AC := .seq QE8 QF0
abbrev QF2 : AC := .run [(.op (some 1) none (.box (.s 0))), (.op (some 2) none (.mv (.k (.bool false))))]
abbrev QF3 : AC := .par [(.op (some 4) none (.faddr (.s 1) 0)), (.op (some 5) none (.load (.s 4) false 1)), (.call (some 6) none n_ref3_Arity [(.s 5)]), (.op (some 7) none (.faddr (.s 1) 3)), (.op (some 8) none (.load (.s 7) false 1)), (.op (some 9) none (.len (.s 8))), (.op (some 10) none (.bin .neq (.s 6) (.s 9))), (.op (some 11) none (.mv (.s 10))), (.op (some 12) (some (11, false)) (.faddr (.s 1) 0)), (.op (some 13) (some (11, false)) (.load (.s 12) false 1)), (.op (some 14) (some (11, false)) (.bin .neq (.s 13) (.k (.int .i64 1)))), (.op (some 15) (some (11, false)) (.mv (.s 14))), (.op (some 16) (some (15, true)) (.faddr (.s 1) 1)), (.op (some 17) (some (15, true)) (.load (.s 16) false 1)), (.op (some 18) (some (15, true)) (.bin .neq (.s 17) (.k (.int .i64 0)))), (.op (some 19) (some (11, false)) (.pick (.s 15) (.s 18) (.k (.bool false)))), (.op (some 20) none (.pick (.s 11) (.k (.bool true)) (.s 19))), (.op (some 21) none (.mv (.s 20))), (.op (some 22) (some (21, false)) (.faddr (.s 1) 1)), (.op (some 23) (some (21, false)) (.load (.s 22) false 1)), (.op (some 24) (some (21, false)) (.bin .lss (.s 23) (.k (.int .i64 0)))), (.op (some 25) none (.pick (.s 21) (.k (.bool true)) (.s 24))), (.op (some 26) none (.mv (.s 25))), (.op (some 27) (some (26, false)) (.faddr (.s 1) 0)), (.op (some 28) (some (26, false)) (.load (.s 27) false 1)), (.op (some 29) (some (26, false)) (.bin .eql (.s 28) (.k (.int .i64 2)))), (.op (some 30) (some (26, false)) (.faddr (.s 1) 2)), (.op (some 31) (some (26, false)) (.load (.s 30) false 1)), (.op (some 32) (some (26, false)) (.bin .neq (.s 31) (.k (.str [])))), (.op (some 33) (some (26, false)) (.eqb true (.s 29) (.s 32))), (.op (some 34) none (.pick (.s 26) (.k (.bool true)) (.s 33))), (.op (some 35) none (.mv (.s 34))), (.op (some 36) (some (35, false)) (.faddr (.s 1) 2)), (.op (some 37) (some (35, false)) (.load (.s 36) false 1)), (.op (some 38) (some (35, false)) (.bin .neq (.s 37) (.k (.str [])))), (.op (some 39) (some (35, false)) (.mv (.s 38))), (.op (some 40) (some (39, true)) (.faddr (.s 1) 2)), (.op (some 41) (some (39, true)) (.load (.s 40) false 1)), (.call (some 42) (some (39, true)) n_ref1_Name [(.s 41)]), (.op (some 43) (some (39, true)) (.un .not (.s 42))), (.op (some 44) (some (35, false)) (.pick (.s 39) (.s 43) (.k (.bool false)))), (.op (some 45) none (.pick (.s 35) (.k (.bool true)) (.s 44)))] [(0, 0), (1, 0), (2, 0), (3, 0), (4, 1), (5, 0), (6, 0), (7, 0), (8, 0), (9, 0), (10, 0), (11, 0), (12, 0), (13, 0), (14, 0), (15, 0), (16, 0), (17, 0), (18, 0), (19, 0), (20, 0), (21, 0), (22, 0), (23, 0), (24, 0), (25, 0), (26, 0), (27, 0), (28, 0), (29, 0), (30, 0), (31, 0), (32, 0), (33, 0), (34, 0), (35, 0), (36, 0), (37, 0), (38, 0), (39, 0), (40, 0), (41, 0)]
abbrev QF4 : AC := .run [(.op (some 2) none (.mv (.k (.bool false))))]
abbrev QF5 : AC := .seq QF4 .ret
abbrev QF6 : AC := .cond (.s 45) QF5 .skip
abbrev QF7 : AC := .seq QF3 QF6
abbrev QF8 : AC := .run [(.op (some 46) none (.faddr (.s 1) 3)), (.op (some 47) none (.load (.s 46) false 1)), (.op (some 48) none (.len (.s 47))), (.op (some 49) none (.mv (.k (.int .i64 0))))]
abbrev QF9 : AC := .run [(.op (some 50) none (.bin .lss (.s 49) (.s 48)))]
abbrev QFA : AC := .cond (.s 50) .skip (.exit 0)
abbrev QFB : AC := .run [(.op (some 51) none (.mv (.s 49))), (.op (some 3) none (.mv (.s 51)))]
abbrev QFC : AC := .run [(.op (some 52) none (.faddr (.s 1) 3)), (.op (some 53) none (.load (.s 52) false 1)), (.op (some 54) none (.mv (.s 3))), (.op (some 55) none (.iaddr (.s 53) (.s 54) 4)), (.op (some 56) none (.load (.s 55) true 4)), (.call (some 57) none n_ref3_form [(.s 56)]), (.op (some 58) none (.un .not (.s 57)))]
abbrev QFD : AC := .run [(.op (some 2) none (.mv (.k (.bool false))))]
abbrev QFE : AC := .seq QFD .ret
abbrev QFF : AC := .cond (.s 58) QFE .skip
abbrev QFG : AC := .seq QFC QFF
abbrev QFH : AC := .seq QFB QFG
abbrev QFI : AC := .block 1 QFH
abbrev QFJ : AC := .run [(.op (some 59) none (.bin .add (.s 49) (.k (.int .i64 1)))), (.op (some 49) none (.mv (.s 59)))]
abbrev QFK : AC := .seq QFI QFJ
abbrev QFL : AC := .seq QFA QFK
abbrev QFM : AC := .seq QF9 QFL
abbrev QFN : AC := .loop QFM
abbrev QFO : AC := .block 0 QFN
abbrev QFP : AC := .seq QF8 QFO
abbrev QFQ : AC := .run [(.op (some 2) none (.mv (.k (.bool true))))]
abbrev QFR : AC := .seq QFQ .ret
abbrev QFS : AC := .seq QFP QFR
abbrev QFT : AC := .seq QF7 QFS
abbrev QFU : AC := .seq QF2 QFT
abbrev QFV : AC := .run [(.op (some 2) none (.mv (.k (.slice .full 0 [])))), (.op (some 3) none (.alloc [(.int .i64 0), (.int .i64 0)]))]
abbrev QFW : AC := .run [(.op (some 4) none (.mv (.k (.slice .full 0 []))))]
abbrev QFX : AC := .run [(.op (some 5) none (.alloc [(.int .i64 0), (.str []), (.int .i64 0), (.int .i64 0)]))]
abbrev QFY : AC := .run [(.op (some 6) none (.mv (.k (.int .i64 0)))), (.op (some 7) none (.mv (.k (.int .i64 0)))), (.op (some 8) none (.mv (.k (.bool true))))]
abbrev QFZ : AC := .run [(.op (some 10) none (.mv (.s 0))), (.op (some 11) none (.slen (.s 10))), (.op (some 12) none (.bin .gtr (.s 11) (.k (.int .i64 100000))))]
abbrev QG0 : AC := .run [(.op (some 13) none (.build [(.int .i64 0), (.int .i64 0)] [(0, (1, (.k (.int .i64 4))))])), (.op (some 2) none (.mv (.k (.slice .full 0 [])))), (.op none none (.store (.s 3) (.s 13) 2))]
abbrev QG1 : AC := .seq QG0 .ret
abbrev QG2 : AC := .cond (.s 12) QG1 .skip
abbrev QG3 : AC := .seq QFZ QG2
abbrev QG4 : AC := .run [(.op (some 14) none (.mv (.s 6))), (.op (some 15) none (.mv (.s 0))), (.op (some 16) none (.slen (.s 15))), (.op (some 17) none (.bin .geq (.s 14) (.s 16)))]
abbrev QG5 : AC := .run [(.op (some 18) none (.mv (.s 4))), (.op (some 19) none (.mv (.s 0))), (.op (some 20) none (.slen (.s 19))), (.op (some 21) none (.build [(.int .i64 0), (.str []), (.int .i64 0), (.int .i64 0)] [(3, (1, (.s 20)))])), (.op (some 22) none (.bslice [(.int .i64 0), (.str []), (.int .i64 0), (.int .i64 0)] 4 1 [(0, (.s 21))])), (.op (some 23) none (.app 4 40 (.s 18) (.s 22))), (.op (some 24) none (.build [(.int .i64 0), (.int .i64 0)] [])), (.op (some 2) none (.mv (.s 23))), (.op none none (.store (.s 3) (.s 24) 2))]
abbrev QG6 : AC := .seq QG5 .ret
abbrev QG7 : AC := .cond (.s 17) QG6 .skip
abbrev QG8 : AC := .seq QG4 QG7
abbrev QG9 : AC := .run [(.op (some 25) none (.mv (.s 6))), (.op (some 26) none (.build [(.int .i64 0), (.str []), (.int .i64 0), (.int .i64 0)] [(3, (1, (.s 25)))])), (.op none none (.store (.s 5) (.s 26) 4))]
abbrev QGA : AC := .run [(.op (some 27) none (.mv (.s 0))), (.op (some 28) none (.mv (.s 6))), (.op (some 29) none (.sidx (.s 27) (.s 28))), (.op (some 9) none (.mv (.s 29)))]
abbrev QGB : AC := .run [(.op (some 31) none (.mv (.s 9))), (.op (some 32) none (.bin .eql (.s 31) (.k (.int .u8 32)))), (.op (some 33) none (.mv (.s 32))), (.op (some 34) (some (33, false)) (.mv (.s 9))), (.op (some 35) (some (33, false)) (.bin .eql (.s 34) (.k (.int .u8 9)))), (.op (some 36) none (.pick (.s 33) (.k (.bool true)) (.s 35))), (.op (some 37) none (.mv (.s 36))), (.op (some 38) (some (37, false)) (.mv (.s 9))), (.op (some 39) (some (37, false)) (.bin .eql (.s 38) (.k (.int .u8 10)))), (.op (some 40) none (.pick (.s 37) (.k (.bool true)) (.s 39))), (.op (some 41) none (.mv (.s 40))), (.op (some 42) (some (41, false)) (.mv (.s 9))), (.op (some 43) (some (41, false)) (.bin .eql (.s 42) (.k (.int .u8 13)))), (.op (some 44) none (.pick (.s 41) (.k (.bool true)) (.s 43))), (.op (some 30) none (.mv (.s 44)))]
abbrev QGC : AC := .run [(.op (some 45) none (.mv (.s 6))), (.op (some 46) none (.bin .add (.s 45) (.k (.int .i64 1)))), (.op (some 6) none (.mv (.s 46)))]
abbrev QGD : AC := .seq QGC (.goto 0)
abbrev QGE : AC := .run [(.op (some 48) none (.mv (.s 9))), (.op (some 49) none (.bin .eql (.s 48) (.k (.int .u8 35)))), (.op (some 47) none (.mv (.s 49)))]
abbrev QGF : AC := .run [(.op (some 51) none (.mv (.s 9))), (.call (some 52) none n_lex_letter [(.s 51)]), (.op (some 50) none (.mv (.s 52)))]
abbrev QGG : AC := .run [(.op (some 54) none (.mv (.s 9))), (.call (some 55) none n_lex_digit [(.s 54)]), (.op (some 53) none (.mv (.s 55)))]
abbrev QGH : AC := .cond (.s 53) (.goto 3) .skip
abbrev QGI : AC := .seq QGG QGH
abbrev QGJ : AC := .cond (.s 50) (.goto 2) QGI
abbrev QGK : AC := .seq QGF QGJ
abbrev QGL : AC := .cond (.s 47) (.goto 1) QGK
abbrev QGM : AC := .seq QGE QGL
abbrev QGN : AC := .cond (.s 30) QGD QGM
abbrev QGO : AC := .seq QGB QGN
abbrev QGP : AC := .block 0 QGO
abbrev QGQ : AC := .seq QGA QGP
abbrev QGR : AC := .run [(.op (some 56) none (.faddr (.s 5) 0)), (.op none none (.store (.s 56) (.k (.int .i64 4)) 1))]
abbrev QGS : AC := .run [(.op (some 57) none (.mv (.s 6))), (.op (some 58) none (.mv (.s 0))), (.op (some 59) none (.mv (.s 6))), (.call (some 60) none n_lex_sign [(.s 58), (.s 59)]), (.op (some 61) none (.bin .add (.s 57) (.s 60))), (.op (some 6) none (.mv (.s 61)))]
abbrev QGT : AC := .run [(.op (some 62) none (.mv (.s 0))), (.op (some 63) none (.faddr (.s 5) 3)), (.op (some 64) none (.load (.s 63) false 1)), (.op (some 65) none (.mv (.s 6))), (.op (some 66) none (.sslc (.s 62) (some (.s 64)) (some (.s 65)))), (.op (some 67) none (.faddr (.s 5) 1)), (.op none none (.store (.s 67) (.s 66) 1))]
abbrev QGU : AC := .run [(.op (some 7) none (.mv (.k (.int .i64 2))))]
abbrev QGV : AC := .run [(.op (some 68) none (.mv (.s 6))), (.op (some 69) none (.faddr (.s 5) 3)), (.op (some 70) none (.load (.s 69) false 1)), (.op (some 71) none (.bin .gtr (.s 68) (.s 70)))]
abbrev QGW : AC := .cond (.s 71) (.goto 4) .skip
abbrev QGX : AC := .seq QGV QGW
abbrev QGY : AC := .run [(.op (some 72) none (.mv (.s 6))), (.op (some 73) none (.mv (.s 0))), (.op (some 74) none (.slen (.s 73))), (.op (some 75) none (.bin .lss (.s 72) (.s 74))), (.op (some 76) none (.mv (.s 75))), (.op (some 77) (some (76, true)) (.mv (.s 0))), (.op (some 78) (some (76, true)) (.mv (.s 6))), (.op (some 79) (some (76, true)) (.sidx (.s 77) (.s 78))), (.op (some 80) (some (76, true)) (.bin .neq (.s 79) (.k (.int .u8 10)))), (.op (some 81) none (.pick (.s 76) (.s 80) (.k (.bool false))))]
abbrev QGZ : AC := .cond (.s 81) .skip (.exit 1)
abbrev QH0 : AC := .seq QGY QGZ
abbrev QH1 : AC := .run [(.op (some 82) none (.mv (.s 6))), (.op (some 83) none (.bin .add (.s 82) (.k (.int .i64 1)))), (.op (some 6) none (.mv (.s 83)))]
abbrev QH2 : AC := .block 2 QH1
abbrev QH3 : AC := .seq QH0 QH2
abbrev QH4 : AC := .loop QH3
abbrev QH5 : AC := .block 1 QH4
abbrev QH6 : AC := .run [(.op (some 84) none (.mv (.s 0))), (.op (some 85) none (.mv (.s 6))), (.call (some 86) none n_lex_run [(.s 84), (.s 85)]), (.op (some 6) none (.mv (.s 86)))]
abbrev QH7 : AC := .par [(.op (some 87) none (.mv (.s 0))), (.op (some 88) none (.faddr (.s 5) 3)), (.op (some 89) none (.load (.s 88) false 1)), (.op (some 90) none (.mv (.s 6))), (.op (some 91) none (.sslc (.s 87) (some (.s 89)) (some (.s 90)))), (.op (some 92) none (.faddr (.s 5) 0)), (.op none none (.store (.s 92) (.k (.int .i64 1)) 1)), (.op (some 93) none (.faddr (.s 5) 1)), (.op none none (.store (.s 93) (.s 91) 1))] [(1, 0), (2, 0), (5, 0), (6, 0), (0, 0), (3, 0), (4, 0), (7, 0), (8, 0)]
abbrev QH8 : AC := .run [(.op (some 94) none (.faddr (.s 5) 1)), (.op (some 95) none (.load (.s 94) false 1)), (.call (some 96) none n_lex_Word [(.s 95)])]
abbrev QH9 : AC := .run [(.op (some 97) none (.faddr (.s 5) 0)), (.op none none (.store (.s 97) (.k (.int .i64 3)) 1))]
abbrev QHA : AC := .cond (.s 96) QH9 .skip
abbrev QHB : AC := .seq QH8 QHA
abbrev QHC : AC := .run [(.op (some 7) none (.mv (.k (.int .i64 4))))]
abbrev QHD : AC := .run [(.op (some 98) none (.mv (.s 6))), (.op (some 99) none (.faddr (.s 5) 3)), (.op (some 100) none (.load (.s 99) false 1)), (.op (some 101) none (.bin .sub (.s 98) (.s 100))), (.op (some 102) none (.bin .gtr (.s 101) (.k (.int .i64 8))))]
abbrev QHE : AC := .cond (.s 102) (.goto 5) .skip
abbrev QHF : AC := .seq QHD QHE
abbrev QHG : AC := .run [(.op (some 103) none (.mv (.s 6))), (.op (some 104) none (.mv (.s 0))), (.op (some 105) none (.slen (.s 104))), (.op (some 106) none (.bin .lss (.s 103) (.s 105))), (.op (some 107) none (.mv (.s 106))), (.op (some 108) (some (107, true)) (.mv (.s 0))), (.op (some 109) (some (107, true)) (.mv (.s 6))), (.op (some 110) (some (107, true)) (.sidx (.s 108) (.s 109))), (.call (some 111) (some (107, true)) n_lex_digit [(.s 110)]), (.op (some 112) none (.pick (.s 107) (.s 111) (.k (.bool false))))]
abbrev QHH : AC := .cond (.s 112) .skip (.exit 3)
abbrev QHI : AC := .seq QHG QHH
abbrev QHJ : AC := .run [(.op (some 113) none (.mv (.s 6))), (.op (some 114) none (.bin .add (.s 113) (.k (.int .i64 1)))), (.op (some 6) none (.mv (.s 114)))]
abbrev QHK : AC := .block 4 QHJ
abbrev QHL : AC := .seq QHI QHK
abbrev QHM : AC := .loop QHL
abbrev QHN : AC := .block 3 QHM
abbrev QHO : AC := .par [(.op (some 115) none (.mv (.s 0))), (.op (some 116) none (.faddr (.s 5) 3)), (.op (some 117) none (.load (.s 116) false 1)), (.op (some 118) none (.mv (.s 6))), (.op (some 119) none (.sslc (.s 115) (some (.s 117)) (some (.s 118)))), (.op (some 120) none (.faddr (.s 5) 0)), (.op none none (.store (.s 120) (.k (.int .i64 2)) 1)), (.op (some 121) none (.faddr (.s 5) 1)), (.op none none (.store (.s 121) (.s 119) 1)), (.op (some 7) none (.mv (.k (.int .i64 2))))] [(1, 0), (2, 0), (5, 0), (6, 0), (0, 0), (3, 0), (4, 0), (7, 0), (8, 0), (9, 0)]
abbrev QHP : AC := .run [(.op (some 122) none (.faddr (.s 5) 1)), (.op (some 123) none (.load (.s 122) false 1)), (.op (some 124) none (.slen (.s 123))), (.op (some 125) none (.bin .gtr (.s 124) (.k (.int .i64 1)))), (.op (some 126) none (.mv (.s 125))), (.op (some 127) (some (126, true)) (.faddr (.s 5) 1)), (.op (some 128) (some (126, true)) (.load (.s 127) false 1)), (.op (some 129) (some (126, true)) (.sidx (.s 128) (.k (.int .i64 0)))), (.op (some 130) (some (126, true)) (.bin .eql (.s 129) (.k (.int .u8 48)))), (.op (some 131) none (.pick (.s 126) (.s 130) (.k (.bool false))))]
abbrev QHQ : AC := .cond (.s 131) (.goto 5) .skip
abbrev QHR : AC := .seq QHP QHQ
abbrev QHS : AC := .run [(.op (some 133) none (.faddr (.s 5) 1)), (.op (some 134) none (.load (.s 133) false 1)), (.call (some 135) none n_lex_number [(.s 134)]), (.op (some 132) none (.mv (.s 135))), (.op (some 136) none (.ext (.s 132) 0)), (.op (some 137) none (.ext (.s 132) 1)), (.op (some 138) none (.faddr (.s 5) 2)), (.op none none (.store (.s 138) (.s 136) 1)), (.op (some 8) none (.mv (.s 137)))]
abbrev QHT : AC := .run [(.op (some 7) none (.mv (.k (.int .i64 4))))]
abbrev QHU : AC := .run [(.op (some 139) none (.mv (.s 8))), (.op (some 140) none (.un .not (.s 139)))]
abbrev QHV : AC := .cond (.s 140) (.goto 5) .skip
abbrev QHW : AC := .seq QHU QHV
abbrev QHX : AC := .run [(.op (some 7) none (.mv (.k (.int .i64 4))))]
abbrev QHY : AC := .run [(.op (some 141) none (.mv (.s 4))), (.op (some 142) none (.len (.s 141))), (.op (some 143) none (.bin .eql (.s 142) (.k (.int .i64 2000))))]
abbrev QHZ : AC := .cond (.s 143) (.goto 5) .skip
abbrev QI0 : AC := .seq QHY QHZ
abbrev QI1 : AC := .run [(.op (some 144) none (.mv (.s 4))), (.op (some 145) none (.load (.s 5) true 4)), (.op (some 146) none (.bslice [(.int .i64 0), (.str []), (.int .i64 0), (.int .i64 0)] 4 1 [(0, (.s 145))])), (.op (some 147) none (.app 4 40 (.s 144) (.s 146))), (.op (some 4) none (.mv (.s 147)))]
abbrev QI2 : AC := .par [(.op (some 148) none (.mv (.s 7))), (.op (some 149) none (.faddr (.s 5) 3)), (.op (some 150) none (.load (.s 149) false 1)), (.op (some 151) none (.build [(.int .i64 0), (.int .i64 0)] [(0, (1, (.s 148))), (1, (1, (.s 150)))])), (.op (some 2) none (.mv (.k (.slice .full 0 [])))), (.op none none (.store (.s 3) (.s 151) 2))] [(0, 0), (1, 0), (2, 0), (3, 0), (4, 0), (5, 0)]
abbrev QI3 : AC := .seq QI2 .ret
abbrev QI4 : AC := .seq (.label 5) QI3
abbrev QI5 : AC := .seq (.goto 0) QI4
abbrev QI6 : AC := .seq QI1 QI5
abbrev QI7 : AC := .seq QI0 QI6
abbrev QI8 : AC := .seq QHX QI7
abbrev QI9 : AC := .seq (.label 4) QI8
abbrev QIA : AC := .seq QHW QI9
abbrev QIB : AC := .seq QHT QIA
abbrev QIC : AC := .seq QHS QIB
abbrev QID : AC := .seq QHR QIC
abbrev QIE : AC := .seq QHO QID
abbrev QIF : AC := .seq QHN QIE
abbrev QIG : AC := .seq (.label 3) QIF
abbrev QIH : AC := .seq (.goto 4) QIG
abbrev QII : AC := .seq QHF QIH
abbrev QIJ : AC := .seq QHC QII
abbrev QIK : AC := .seq QHB QIJ
abbrev QIL : AC := .seq QH7 QIK
abbrev QIM : AC := .seq QH6 QIL
abbrev QIN : AC := .seq (.label 2) QIM
abbrev QIO : AC := .seq (.goto 0) QIN
abbrev QIP : AC := .seq QH5 QIO
abbrev QIQ : AC := .seq (.label 1) QIP
abbrev QIR : AC := .seq (.goto 5) QIQ
abbrev QIS : AC := .seq QGX QIR
abbrev QIT : AC := .seq QGU QIS
abbrev QIU : AC := .seq QGT QIT
abbrev QIV : AC := .seq QGS QIU
abbrev QIW : AC := .seq QGR QIV
abbrev QIX : AC := .seq QGQ QIW
abbrev QIY : AC := .seq QG9 QIX
abbrev QIZ : AC := .seq QG8 QIY
abbrev QJ0 : AC := .seq (.label 0) QIZ
abbrev QJ1 : AC := .seq QG3 QJ0
abbrev QJ2 : AC := .seq QFY QJ1
abbrev QJ3 : AC := .seq QFX QJ2
abbrev QJ4 : AC := .seq QFW QJ3
abbrev QJ5 : AC := .scope QJ4
abbrev QJ6 : AC := .seq QFV QJ5
abbrev QJ7 : AC := .run [(.op (some 2) none (.alloc [(.int .i64 0), (.int .i64 0), (.str []), (.slice .full 0 [])]))]
abbrev QJ8 : AC := .run [(.op (some 5) none (.mv (.s 0))), (.call (some 6) none n_parse_reader_peek [(.s 5)]), (.op (some 7) none (.fld (.s 6) 3 false 1)), (.op (some 3) none (.mv (.s 7)))]
abbrev QJ9 : AC := .run [(.op (some 8) none (.mv (.s 0))), (.call (some 9) none n_parse_reader_two [(.s 8), (.k (.int .i64 1))]), (.op (some 4) none (.alloc [(.int .i64 0), (.int .i64 0), (.str []), (.slice .full 0 [])])), (.op none none (.store (.s 4) (.s 9) 4))]
abbrev QJA : AC := .run [(.op (some 10) none (.mv (.s 0))), (.call (some 11) none n_parse_reader_good [(.s 10)]), (.op (some 12) none (.mv (.s 11))), (.op (some 13) (some (12, true)) (.load (.s 4) true 4)), (.call (some 14) (some (12, true)) n_parse_depth [(.s 13)]), (.op (some 15) (some (12, true)) (.bin .gtr (.s 14) (.k (.int .i64 20)))), (.op (some 16) none (.pick (.s 12) (.s 15) (.k (.bool false))))]
abbrev QJB : AC := .run [(.op (some 17) none (.mv (.s 0))), (.op (some 18) none (.mv (.s 3))), (.op (some 19) none (.build [(.int .i64 0), (.int .i64 0)] [(0, (1, (.k (.int .i64 4)))), (1, (1, (.s 18)))])), (.op (some 20) none (.nilck (.s 17))), (.op (some 21) none (.faddr (.s 20) 2)), (.op none none (.store (.s 21) (.s 19) 2))]
abbrev QJC : AC := .cond (.s 16) QJB .skip
abbrev QJD : AC := .seq QJA QJC
abbrev QJE : AC := .run [(.op (some 22) none (.load (.s 4) true 4)), (.op none none (.store (.s 2) (.s 22) 4))]
abbrev QJF : AC := .seq QJE .ret
abbrev QJG : AC := .seq QJD QJF
abbrev QJH : AC := .seq QJ9 QJG
abbrev QJI : AC := .seq QJ8 QJH
abbrev QJJ : AC := .seq QJ7 QJI
abbrev QJK : AC := .run [(.op (some 2) none (.mv (.k (.bool false))))]
abbrev QJL : AC := .run [(.op (some 3) none (.mv (.s 0))), (.op (some 4) none (.nilck (.s 3))), (.op (some 5) none (.faddr (.s 4) 2)), (.op (some 6) none (.faddr (.s 5) 0)), (.op (some 7) none (.load (.s 6) false 1)), (.op (some 8) none (.bin .eql (.s 7) (.k (.int .i64 0)))), (.op (some 2) none (.mv (.s 8)))]
abbrev QJM : AC := .seq QJL .ret
abbrev QJN : AC := .seq QJK QJM
abbrev QJO : AC := .run [(.op (some 2) none (.alloc [(.int .i64 0), (.str []), (.int .i64 0), (.int .i64 0)]))]
abbrev QJP : AC := .par [(.op (some 3) none (.mv (.s 0))), (.op (some 4) none (.nilck (.s 3))), (.op (some 5) none (.faddr (.s 4) 0)), (.op (some 6) none (.load (.s 5) false 1)), (.op (some 7) none (.mv (.s 0))), (.op (some 8) none (.nilck (.s 7))), (.op (some 9) none (.faddr (.s 8) 1)), (.op (some 10) none (.load (.s 9) false 1)), (.op (some 11) none (.iaddr (.s 6) (.s 10) 4)), (.op (some 12) none (.load (.s 11) true 4)), (.op none none (.store (.s 2) (.s 12) 4))] [(0, 0), (1, 0), (2, 0), (3, 0), (4, 0), (5, 0), (6, 0), (7, 0), (8, 0), (9, 0), (10, 0)]
abbrev QJQ : AC := .seq QJP .ret
abbrev QJR : AC := .seq QJO QJQ
abbrev QJS : AC := .run [(.op (some 4) none (.mv (.s 0))), (.call (some 5) none n_parse_reader_good [(.s 4)])]
abbrev QJT : AC := .run [(.op (some 6) none (.mv (.s 0))), (.op (some 7) none (.mv (.s 1))), (.op (some 8) none (.mv (.s 0))), (.call (some 9) none n_parse_reader_peek [(.s 8)]), (.op (some 10) none (.fld (.s 9) 3 false 1)), (.op (some 11) none (.build [(.int .i64 0), (.int .i64 0)] [(0, (1, (.s 7))), (1, (1, (.s 10)))])), (.op (some 12) none (.nilck (.s 6))), (.op (some 13) none (.faddr (.s 12) 2)), (.op none none (.store (.s 13) (.s 11) 2))]
abbrev QJU : AC := .cond (.s 5) QJT .skip
abbrev QJV : AC := .seq QJS QJU
abbrev QJW : AC := .run [(.op (some 2) none (.alloc [(.int .i64 0), (.int .i64 0), (.str []), (.slice .full 0 [])]))]
abbrev QJX : AC := .run [(.op (some 3) none (.mv (.s 0))), (.op (some 4) none (.build [(.int .i64 0), (.int .i64 0), (.str []), (.slice .full 0 [])] [(0, (1, (.k (.int .i64 1)))), (1, (1, (.s 3)))])), (.op none none (.store (.s 2) (.s 4) 4))]
abbrev QJY : AC := .seq QJX .ret
abbrev QJZ : AC := .seq QJW QJY
abbrev QK0 : AC := .run [(.op (some 2) none (.alloc [(.int .i64 0), (.int .i64 0), (.str []), (.slice .full 0 [])]))]
abbrev QK1 : AC := .run [(.op (some 3) none (.mv (.s 0))), (.op (some 4) none (.build [(.int .i64 0), (.int .i64 0), (.str []), (.slice .full 0 [])] [(0, (1, (.k (.int .i64 2)))), (2, (1, (.s 3)))])), (.op none none (.store (.s 2) (.s 4) 4))]
abbrev QK2 : AC := .seq QK1 .ret
abbrev QK3 : AC := .seq QK0 QK2
abbrev QK4 : AC := .run [(.op (some 4) none (.box (.s 1))), (.op (some 5) none (.box (.s 2))), (.op (some 6) none (.alloc [(.int .i64 0), (.int .i64 0), (.str []), (.slice .full 0 [])]))]
abbrev QK5 : AC := .run [(.op (some 7) none (.mv (.s 0))), (.op (some 8) none (.load (.s 4) true 4)), (.op (some 9) none (.load (.s 5) true 4)), (.op (some 10) none (.bslice [(.int .i64 0), (.int .i64 0), (.str []), (.slice .full 0 [])] 4 2 [(0, (.s 8)), (1, (.s 9))])), (.op (some 11) none (.build [(.int .i64 0), (.int .i64 0), (.str []), (.slice .full 0 [])] [(0, (1, (.s 7))), (3, (1, (.s 10)))])), (.op none none (.store (.s 6) (.s 11) 4))]
abbrev QK6 : AC := .seq QK5 .ret
abbrev QK7 : AC := .seq QK4 QK6
abbrev QK8 : AC := .run [(.op (some 2) none (.mv (.k (.bool false))))]
abbrev QK9 : AC := .run [(.op (some 5) none (.mv (.s 0))), (.op (some 6) none (.len (.s 5))), (.op (some 7) none (.mv (.k (.int .i64 0))))]
abbrev QKA : AC := .run [(.op (some 8) none (.bin .lss (.s 7) (.s 6)))]
abbrev QKB : AC := .cond (.s 8) .skip (.exit 0)
abbrev QKC : AC := .run [(.op (some 9) none (.iaddr (.s 5) (.s 7) 1)), (.op (some 10) none (.load (.s 9) false 1)), (.op (some 4) none (.mv (.s 10)))]
abbrev QKD : AC := .run [(.op (some 11) none (.mv (.s 4))), (.call (some 12) none n_lex_Name [(.s 11)]), (.op (some 13) none (.un .not (.s 12)))]
abbrev QKE : AC := .run [(.op (some 2) none (.mv (.k (.bool false))))]
abbrev QKF : AC := .seq QKE .ret
abbrev QKG : AC := .cond (.s 13) QKF .skip
abbrev QKH : AC := .seq QKD QKG
abbrev QKI : AC := .seq QKC QKH
abbrev QKJ : AC := .block 1 QKI
abbrev QKK : AC := .run [(.op (some 14) none (.bin .add (.s 7) (.k (.int .i64 1)))), (.op (some 7) none (.mv (.s 14)))]
abbrev QKL : AC := .seq QKJ QKK
abbrev QKM : AC := .seq QKB QKL
abbrev QKN : AC := .seq QKA QKM
abbrev QKO : AC := .loop QKN
abbrev QKP : AC := .block 0 QKO
abbrev QKQ : AC := .seq QK9 QKP
abbrev QKR : AC := .run [(.op (some 2) none (.mv (.k (.bool true))))]
abbrev QKS : AC := .seq QKR .ret
abbrev QKT : AC := .seq QKQ QKS
abbrev QKU : AC := .seq QK8 QKT
abbrev QKV : AC := .run [(.op (some 2) none (.mv (.k (.bool false))))]
abbrev QKW : AC := .run [(.op (some 3) none (.mv (.s 0))), (.op (some 4) none (.slen (.s 3))), (.op (some 5) none (.bin .lss (.s 4) (.k (.int .i64 1)))), (.op (some 6) none (.mv (.s 5))), (.op (some 7) (some (6, false)) (.mv (.s 0))), (.op (some 8) (some (6, false)) (.slen (.s 7))), (.op (some 9) (some (6, false)) (.bin .gtr (.s 8) (.k (.int .i64 8)))), (.op (some 10) none (.pick (.s 6) (.k (.bool true)) (.s 9))), (.op (some 11) none (.mv (.s 10))), (.op (some 12) (some (11, false)) (.mv (.s 0))), (.op (some 13) (some (11, false)) (.sidx (.s 12) (.k (.int .i64 0)))), (.call (some 14) (some (11, false)) n_lex_letter [(.s 13)]), (.op (some 15) (some (11, false)) (.un .not (.s 14))), (.op (some 16) none (.pick (.s 11) (.k (.bool true)) (.s 15)))]
abbrev QKX : AC := .run [(.op (some 2) none (.mv (.k (.bool false))))]
abbrev QKY : AC := .seq QKX .ret
abbrev QKZ : AC := .cond (.s 16) QKY .skip
abbrev QL0 : AC := .seq QKW QKZ
abbrev QL1 : AC := .run [(.op (some 17) none (.mv (.s 0))), (.call (some 18) none n_lex_run [(.s 17), (.k (.int .i64 0))]), (.op (some 19) none (.mv (.s 0))), (.op (some 20) none (.slen (.s 19))), (.op (some 21) none (.bin .eql (.s 18) (.s 20))), (.op (some 22) none (.mv (.s 21))), (.op (some 23) (some (22, true)) (.mv (.s 0))), (.call (some 24) (some (22, true)) n_lex_Word [(.s 23)]), (.op (some 25) (some (22, true)) (.un .not (.s 24))), (.op (some 26) none (.pick (.s 22) (.s 25) (.k (.bool false)))), (.op (some 2) none (.mv (.s 26)))]
abbrev QL2 : AC := .seq QL1 .ret
abbrev QL3 : AC := .seq QL0 QL2
abbrev QL4 : AC := .seq QKV QL3
abbrev QL5 : AC := .run [(.op (some 6) none (.mv (.k (.bool false))))]
abbrev QL6 : AC := .run [(.op (some 9) none (.mv (.s 2))), (.op (some 10) none (.bin .gtr (.s 9) (.k (.int .i64 12)))), (.op (some 11) none (.mv (.s 10))), (.op (some 12) (some (11, true)) (.mv (.s 1))), (.op (some 13) (some (11, true)) (.len (.s 12))), (.op (some 14) (some (11, true)) (.bin .gtr (.s 13) (.k (.int .i64 0)))), (.op (some 15) none (.pick (.s 11) (.s 14) (.k (.bool false))))]
abbrev QL7 : AC := .run [(.op (some 6) none (.mv (.k (.bool false))))]
abbrev QL8 : AC := .seq QL7 .ret
abbrev QL9 : AC := .cond (.s 15) QL8 .skip
abbrev QLA : AC := .seq QL6 QL9
abbrev QLB : AC := .run [(.op (some 16) none (.mv (.s 1))), (.op (some 17) none (.len (.s 16))), (.op (some 18) none (.mv (.k (.int .i64 0))))]
abbrev QLC : AC := .run [(.op (some 19) none (.bin .lss (.s 18) (.s 17)))]
abbrev QLD : AC := .cond (.s 19) .skip (.exit 0)
abbrev QLE : AC := .run [(.op (some 20) none (.iaddr (.s 16) (.s 18) 13)), (.op (some 21) none (.load (.s 20) true 13)), (.op (some 8) none (.alloc [(.int .i64 0), (.int .i64 0), (.slice .full 0 []), (.str []), (.str []), (.int .i64 0), (.int .i64 0), (.str []), (.slice .full 0 []), (.bool false), (.slice .full 0 []), (.slice .full 0 []), (.slice .full 0 [])])), (.op none none (.store (.s 8) (.s 21) 13))]
abbrev QLF : AC := .run [(.op (some 22) none (.mv (.s 0))), (.op (some 23) none (.nilck (.s 22))), (.op (some 24) none (.faddr (.s 23) 0)), (.op (some 25) none (.load (.s 24) false 1)), (.op (some 26) none (.bin .add (.s 25) (.k (.int .i64 1)))), (.op (some 27) none (.nilck (.s 22))), (.op (some 28) none (.faddr (.s 27) 0)), (.op none none (.store (.s 28) (.s 26) 1))]
abbrev QLG : AC := .par [(.op (some 29) none (.mv (.s 0))), (.op (some 30) none (.nilck (.s 29))), (.op (some 31) none (.faddr (.s 30) 0)), (.op (some 32) none (.load (.s 31) false 1)), (.op (some 33) none (.bin .gtr (.s 32) (.k (.int .i64 200)))), (.op (some 34) none (.mv (.s 33))), (.op (some 35) (some (34, false)) (.faddr (.s 8) 0)), (.op (some 36) (some (34, false)) (.load (.s 35) false 1)), (.op (some 37) (some (34, false)) (.mv (.s 0))), (.op (some 38) (some (34, false)) (.nilck (.s 37))), (.op (some 39) (some (34, false)) (.faddr (.s 38) 0)), (.op (some 40) (some (34, false)) (.load (.s 39) false 1)), (.op (some 41) (some (34, false)) (.bin .neq (.s 36) (.s 40))), (.op (some 42) none (.pick (.s 34) (.k (.bool true)) (.s 41))), (.op (some 43) none (.mv (.s 42))), (.op (some 44) (some (43, false)) (.faddr (.s 8) 2)), (.op (some 45) (some (43, false)) (.load (.s 44) false 1)), (.call (some 46) (some (43, false)) n_tree_names [(.s 45)]), (.op (some 47) (some (43, false)) (.un .not (.s 46))), (.op (some 48) none (.pick (.s 43) (.k (.bool true)) (.s 47))), (.op (some 49) none (.mv (.s 48))), (.op (some 50) (some (49, false)) (.load (.s 8) true 13)), (.call (some 51) (some (49, false)) n_tree_fields [(.s 50)]), (.op (some 52) (some (49, false)) (.un .not (.s 51))), (.op (some 53) none (.pick (.s 49) (.k (.bool true)) (.s 52)))] [(0, 0), (1, 0), (2, 0), (3, 0), (4, 0), (5, 0), (6, 0), (7, 0), (8, 0), (9, 0), (10, 0), (11, 0), (12, 0), (13, 0), (14, 0), (15, 0), (16, 0), (17, 0), (18, 0), (19, 0), (20, 0), (21, 0), (22, 0), (23, 0), (24, 0)]
abbrev QLH : AC := .run [(.op (some 6) none (.mv (.k (.bool false))))]
abbrev QLI : AC := .seq QLH .ret
abbrev QLJ : AC := .cond (.s 53) QLI .skip
abbrev QLK : AC := .seq QLG QLJ
abbrev QLL : AC := .run [(.op (some 54) none (.mv (.s 0))), (.op (some 55) none (.faddr (.s 8) 11)), (.op (some 56) none (.load (.s 55) false 1)), (.op (some 57) none (.mv (.s 2))), (.op (some 58) none (.bin .add (.s 57) (.k (.int .i64 1)))), (.call (some 59) none n_tree_looker_rows [(.s 54), (.s 56), (.s 58)]), (.op (some 60) none (.un .not (.s 59))), (.op (some 61) none (.mv (.s 60))), (.op (some 62) (some (61, false)) (.mv (.s 0))), (.op (some 63) (some (61, false)) (.faddr (.s 8) 12)), (.op (some 64) (some (61, false)) (.load (.s 63) false 1)), (.op (some 65) (some (61, false)) (.mv (.s 2))), (.op (some 66) (some (61, false)) (.bin .add (.s 65) (.k (.int .i64 1)))), (.call (some 67) (some (61, false)) n_tree_looker_rows [(.s 62), (.s 64), (.s 66)]), (.op (some 68) (some (61, false)) (.un .not (.s 67))), (.op (some 69) none (.pick (.s 61) (.k (.bool true)) (.s 68)))]
abbrev QLM : AC := .run [(.op (some 6) none (.mv (.k (.bool false))))]
abbrev QLN : AC := .seq QLM .ret
abbrev QLO : AC := .cond (.s 69) QLN .skip
abbrev QLP : AC := .seq QLL QLO
abbrev QLQ : AC := .seq QLK QLP
abbrev QLR : AC := .seq QLF QLQ
abbrev QLS : AC := .seq QLE QLR
abbrev QLT : AC := .block 1 QLS
abbrev QLU : AC := .run [(.op (some 70) none (.bin .add (.s 18) (.k (.int .i64 1)))), (.op (some 18) none (.mv (.s 70)))]
abbrev QLV : AC := .seq QLT QLU
abbrev QLW : AC := .seq QLD QLV
abbrev QLX : AC := .seq QLC QLW
abbrev QLY : AC := .loop QLX
abbrev QLZ : AC := .block 0 QLY
abbrev QM0 : AC := .seq QLB QLZ
abbrev QM1 : AC := .run [(.op (some 6) none (.mv (.k (.bool true))))]
abbrev QM2 : AC := .seq QM1 .ret
abbrev QM3 : AC := .seq QM0 QM2
abbrev QM4 : AC := .seq QLA QM3
abbrev QM5 : AC := .seq QL5 QM4

end Go.Abs

/-! Have1 -/

namespace Go.Abs
open Go.Proofs

theorem has_print_writer_line : Has Tryd.prog n_print_writer_line 23 [] Q7S := ⟨Tryd.f34, by kernel_rfl, by kernel_rfl⟩
theorem has_print_ref : Has Tryd.prog n_print_ref 4 [(2, none)] Q82 := ⟨Tryd.f36, by kernel_rfl, by kernel_rfl⟩
theorem has_print_writer_rows : Has Tryd.prog n_print_writer_rows 84 [] Q98 := ⟨Tryd.f37, by kernel_rfl, by kernel_rfl⟩
theorem has_print_marks : Has Tryd.prog n_print_marks 18 [(2, none)] Q9T := ⟨Tryd.f38, by kernel_rfl, by kernel_rfl⟩
theorem has_ref3_weighExpr : Has Tryd.prog n_ref3_weighExpr 29 [(4, none)] QAC := ⟨Tryd.f43, by kernel_rfl, by kernel_rfl⟩
theorem has_tree_MayExpr : Has Tryd.prog n_tree_MayExpr 5 [(2, none)] QAG := ⟨Tryd.f44, by kernel_rfl, by kernel_rfl⟩
theorem has_print_expr : Has Tryd.prog n_print_expr 66 [(4, none)] QBI := ⟨Tryd.f45, by kernel_rfl, by kernel_rfl⟩
theorem has_ref3_names : Has Tryd.prog n_ref3_names 15 [(2, none)] QC5 := ⟨Tryd.f47, by kernel_rfl, by kernel_rfl⟩
theorem has_ref1_Name : Has Tryd.prog n_ref1_Name 38 [(2, none)] QCW := ⟨Tryd.f48, by kernel_rfl, by kernel_rfl⟩
theorem has_ref3_one : Has Tryd.prog n_ref3_one 178 [(2, none)] QE7 := ⟨Tryd.f50, by kernel_rfl, by kernel_rfl⟩
theorem has_ref3_deep : Has Tryd.prog n_ref3_deep 36 [(4, none)] QF1 := ⟨Tryd.f53, by kernel_rfl, by kernel_rfl⟩
theorem has_ref3_form : Has Tryd.prog n_ref3_form 60 [(2, none)] QFU := ⟨Tryd.f54, by kernel_rfl, by kernel_rfl⟩
theorem has_lex_All : Has Tryd.prog n_lex_All 152 [(2, none), (3, (some (true, 2)))] QJ6 := ⟨Tryd.f55, by kernel_rfl, by kernel_rfl⟩
theorem has_parse_reader_whole : Has Tryd.prog n_parse_reader_whole 23 [(2, (some (true, 4)))] QJJ := ⟨Tryd.f56, by kernel_rfl, by kernel_rfl⟩
theorem has_parse_reader_good : Has Tryd.prog n_parse_reader_good 9 [(2, none)] QJN := ⟨Tryd.f57, by kernel_rfl, by kernel_rfl⟩
theorem has_parse_reader_peek : Has Tryd.prog n_parse_reader_peek 13 [(2, (some (true, 4)))] QJR := ⟨Tryd.f58, by kernel_rfl, by kernel_rfl⟩
theorem has_parse_reader_bad : Has Tryd.prog n_parse_reader_bad 14 [] QJV := ⟨Tryd.f59, by kernel_rfl, by kernel_rfl⟩
theorem has_ref3_num : Has Tryd.prog n_ref3_num 5 [(2, (some (true, 4)))] QJZ := ⟨Tryd.f62, by kernel_rfl, by kernel_rfl⟩
theorem has_ref3_name : Has Tryd.prog n_ref3_name 5 [(2, (some (true, 4)))] QK3 := ⟨Tryd.f63, by kernel_rfl, by kernel_rfl⟩
theorem has_ref3_two : Has Tryd.prog n_ref3_two 12 [(6, (some (true, 4)))] QK7 := ⟨Tryd.f64, by kernel_rfl, by kernel_rfl⟩
theorem has_tree_names : Has Tryd.prog n_tree_names 15 [(2, none)] QKU := ⟨Tryd.f65, by kernel_rfl, by kernel_rfl⟩
theorem has_lex_Name : Has Tryd.prog n_lex_Name 27 [(2, none)] QL4 := ⟨Tryd.f66, by kernel_rfl, by kernel_rfl⟩
theorem has_tree_looker_rows : Has Tryd.prog n_tree_looker_rows 71 [(6, none)] QM5 := ⟨Tryd.f67, by kernel_rfl, by kernel_rfl⟩

end Go.Abs

/-! Codes2 -/

namespace Go.Abs

abbrev QM6 : AC := .run [(.op (some 4) none (.mv (.k (.val .nilIface))))]
abbrev QM7 : AC := .run [(.op (some 5) none (.mv (.s 0))), (.call (some 6) none n_strings_Builder_copyCheck [(.s 5)])]
abbrev QM8 : AC := .run [(.op (some 7) none (.mv (.s 0))), (.op (some 8) none (.mv (.s 0))), (.op (some 9) none (.nilck (.s 8))), (.op (some 10) none (.faddr (.s 9) 1)), (.op (some 11) none (.load (.s 10) false 1)), (.op (some 12) none (.mv (.s 1))), (.op (some 13) none (.bslice [(.int .u8 0)] 1 1 [(0, (.s 12))])), (.op (some 14) none (.appb (.s 11) (.s 13))), (.op (some 15) none (.nilck (.s 7))), (.op (some 16) none (.faddr (.s 15) 1)), (.op none none (.store (.s 16) (.s 14) 1))]
abbrev QM9 : AC := .run [(.op (some 4) none (.mv (.k (.val .nilIface))))]
abbrev QMA : AC := .seq QM9 .ret
abbrev QMB : AC := .seq QM8 QMA
abbrev QMC : AC := .seq QM7 QMB
abbrev QMD : AC := .seq QM6 QMC
abbrev QME : AC := .run [(.op (some 4) none (.mv (.k (.int .i64 0)))), (.op (some 5) none (.mv (.k (.val .nilIface))))]
abbrev QMF : AC := .run [(.op (some 6) none (.mv (.s 0))), (.call (some 7) none n_strings_Builder_copyCheck [(.s 6)])]
abbrev QMG : AC := .run [(.op (some 8) none (.mv (.s 0))), (.op (some 9) none (.mv (.s 0))), (.op (some 10) none (.nilck (.s 9))), (.op (some 11) none (.faddr (.s 10) 1)), (.op (some 12) none (.load (.s 11) false 1)), (.op (some 13) none (.mv (.s 1))), (.op (some 14) none (.apps (.s 12) (.s 13))), (.op (some 15) none (.nilck (.s 8))), (.op (some 16) none (.faddr (.s 15) 1)), (.op none none (.store (.s 16) (.s 14) 1))]
abbrev QMH : AC := .run [(.op (some 17) none (.mv (.s 1))), (.op (some 18) none (.slen (.s 17))), (.op (some 4) none (.mv (.s 18))), (.op (some 5) none (.mv (.k (.val .nilIface))))]
abbrev QMI : AC := .seq QMH .ret
abbrev QMJ : AC := .seq QMG QMI
abbrev QMK : AC := .seq QMF QMJ
abbrev QML : AC := .seq QME QMK
abbrev QMM : AC := .run [(.op (some 1) none (.box (.s 0))), (.op (some 2) none (.mv (.k (.str []))))]
abbrev QMN : AC := .run [(.op (some 7) none (.faddr (.s 1) 1)), (.op (some 8) none (.load (.s 7) false 1))]
abbrev QMO : AC := .run [(.op (some 10) none (.bin .eql (.s 8) (.k (.int .i64 1)))), (.op (some 9) none (.mv (.s 10)))]
abbrev QMP : AC := .par [(.op (some 11) none (.faddr (.s 1) 3)), (.op (some 12) none (.load (.s 11) false 1)), (.op (some 13) none (.bin .add (.s 12) (.k (.str [32, 61, 32])))), (.op (some 14) none (.faddr (.s 1) 5)), (.op (some 15) none (.load (.s 14) true 4)), (.call (some 16) none n_print_expr [(.s 15), (.k (.int .i64 0))]), (.op (some 17) none (.bin .add (.s 13) (.s 16))), (.op (some 2) none (.mv (.s 17)))] [(3, 0), (4, 0), (5, 0), (0, 0), (1, 1), (2, 0), (6, 0), (7, 0)]
abbrev QMQ : AC := .seq QMP .ret
abbrev QMR : AC := .run [(.op (some 19) none (.bin .eql (.s 8) (.k (.int .i64 2)))), (.op (some 18) none (.mv (.s 19)))]
abbrev QMS : AC := .run [(.op (some 20) none (.faddr (.s 1) 3)), (.op (some 21) none (.load (.s 20) false 1)), (.op (some 22) none (.bin .add (.k (.str [114, 101, 97, 100, 32])) (.s 21))), (.op (some 2) none (.mv (.s 22)))]
abbrev QMT : AC := .seq QMS .ret
abbrev QMU : AC := .run [(.op (some 24) none (.bin .eql (.s 8) (.k (.int .i64 3)))), (.op (some 23) none (.mv (.s 24)))]
abbrev QMV : AC := .run [(.op (some 25) none (.faddr (.s 1) 5)), (.op (some 26) none (.load (.s 25) true 4)), (.call (some 27) none n_print_expr [(.s 26), (.k (.int .i64 0))]), (.op (some 28) none (.bin .add (.k (.str [112, 114, 105, 110, 116, 32])) (.s 27))), (.op (some 2) none (.mv (.s 28)))]
abbrev QMW : AC := .seq QMV .ret
abbrev QMX : AC := .run [(.op (some 30) none (.bin .eql (.s 8) (.k (.int .i64 7)))), (.op (some 29) none (.mv (.s 30)))]
abbrev QMY : AC := .run [(.op (some 2) none (.mv (.k (.str [98, 114, 101, 97, 107]))))]
abbrev QMZ : AC := .seq QMY .ret
abbrev QN0 : AC := .run [(.op (some 32) none (.bin .eql (.s 8) (.k (.int .i64 8)))), (.op (some 31) none (.mv (.s 32)))]
abbrev QN1 : AC := .run [(.op (some 2) none (.mv (.k (.str [99, 111, 110, 116, 105, 110, 117, 101]))))]
abbrev QN2 : AC := .seq QN1 .ret
abbrev QN3 : AC := .run [(.op (some 34) none (.bin .eql (.s 8) (.k (.int .i64 10)))), (.op (some 33) none (.mv (.s 34)))]
abbrev QN4 : AC := .run [(.op (some 35) none (.faddr (.s 1) 3)), (.op (some 36) none (.load (.s 35) false 1)), (.op (some 37) none (.bin .add (.k (.str [103, 111, 116, 111, 32])) (.s 36))), (.op (some 2) none (.mv (.s 37)))]
abbrev QN5 : AC := .seq QN4 .ret
abbrev QN6 : AC := .run [(.op (some 39) none (.bin .eql (.s 8) (.k (.int .i64 9)))), (.op (some 38) none (.mv (.s 39)))]
abbrev QN7 : AC := .run [(.op (some 40) none (.faddr (.s 1) 9)), (.op (some 41) none (.load (.s 40) false 1))]
abbrev QN8 : AC := .run [(.op (some 42) none (.faddr (.s 1) 5)), (.op (some 43) none (.load (.s 42) true 4)), (.call (some 44) none n_print_expr [(.s 43), (.k (.int .i64 0))]), (.op (some 45) none (.bin .add (.k (.str [114, 101, 116, 117, 114, 110, 32])) (.s 44))), (.op (some 2) none (.mv (.s 45)))]
abbrev QN9 : AC := .seq QN8 .ret
abbrev QNA : AC := .cond (.s 41) QN9 .skip
abbrev QNB : AC := .seq QN7 QNA
abbrev QNC : AC := .run [(.op (some 2) none (.mv (.k (.str [114, 101, 116, 117, 114, 110]))))]
abbrev QND : AC := .seq QNC .ret
abbrev QNE : AC := .seq QNB QND
abbrev QNF : AC := .cond (.s 38) QNE .skip
abbrev QNG : AC := .seq QN6 QNF
abbrev QNH : AC := .cond (.s 33) QN5 QNG
abbrev QNI : AC := .seq QN3 QNH
abbrev QNJ : AC := .cond (.s 31) QN2 QNI
abbrev QNK : AC := .seq QN0 QNJ
abbrev QNL : AC := .cond (.s 29) QMZ QNK
abbrev QNM : AC := .seq QMX QNL
abbrev QNN : AC := .cond (.s 23) QMW QNM
abbrev QNO : AC := .seq QMU QNN
abbrev QNP : AC := .cond (.s 18) QMT QNO
abbrev QNQ : AC := .seq QMR QNP
abbrev QNR : AC := .cond (.s 9) QMQ QNQ
abbrev QNS : AC := .seq QMO QNR
abbrev QNT : AC := .block 0 QNS
abbrev QNU : AC := .seq QMN QNT
abbrev QNV : AC := .run [(.op (some 3) none (.mv (.k (.slice .full 0 []))))]
abbrev QNW : AC := .run [(.op (some 46) none (.faddr (.s 1) 10)), (.op (some 47) none (.load (.s 46) false 1)), (.op (some 48) none (.len (.s 47))), (.op (some 49) none (.mv (.k (.int .i64 0))))]
abbrev QNX : AC := .run [(.op (some 50) none (.bin .lss (.s 49) (.s 48)))]
abbrev QNY : AC := .cond (.s 50) .skip (.exit 1)
abbrev QNZ : AC := .run [(.op (some 51) none (.iaddr (.s 47) (.s 49) 6)), (.op (some 52) none (.load (.s 51) true 6)), (.op (some 5) none (.alloc [(.bool false), (.str []), (.int .i64 0), (.int .i64 0), (.str []), (.slice .full 0 [])])), (.op none none (.store (.s 5) (.s 52) 6))]
abbrev QO0 : AC := .run [(.op (some 53) none (.faddr (.s 5) 0)), (.op (some 54) none (.load (.s 53) false 1))]
abbrev QO1 : AC := .par [(.op (some 55) none (.mv (.s 3))), (.call (some 56) none n_print_ref [(.k (.bool true))]), (.op (some 57) none (.faddr (.s 5) 1)), (.op (some 58) none (.load (.s 57) false 1)), (.op (some 59) none (.bin .add (.s 56) (.s 58))), (.op (some 60) none (.bslice [(.str [])] 1 1 [(0, (.s 59))])), (.op (some 61) none (.app 1 16 (.s 55) (.s 60))), (.op (some 3) none (.mv (.s 61)))] [(1, 0), (0, 0), (2, 0), (3, 1), (4, 0), (5, 0), (6, 0), (7, 0)]
abbrev QO2 : AC := .run [(.op (some 62) none (.mv (.s 3))), (.op (some 63) none (.faddr (.s 5) 2)), (.op (some 64) none (.load (.s 63) true 4)), (.call (some 65) none n_print_expr [(.s 64), (.k (.int .i64 0))]), (.op (some 66) none (.bslice [(.str [])] 1 1 [(0, (.s 65))])), (.op (some 67) none (.app 1 16 (.s 62) (.s 66))), (.op (some 3) none (.mv (.s 67)))]
abbrev QO3 : AC := .cond (.s 54) QO1 QO2
abbrev QO4 : AC := .seq QO0 QO3
abbrev QO5 : AC := .seq QNZ QO4
abbrev QO6 : AC := .block 2 QO5
abbrev QO7 : AC := .run [(.op (some 68) none (.bin .add (.s 49) (.k (.int .i64 1)))), (.op (some 49) none (.mv (.s 68)))]
abbrev QO8 : AC := .seq QO6 QO7
abbrev QO9 : AC := .seq QNY QO8
abbrev QOA : AC := .seq QNX QO9
abbrev QOB : AC := .loop QOA
abbrev QOC : AC := .block 1 QOB
abbrev QOD : AC := .seq QNW QOC
abbrev QOE : AC := .par [(.op (some 69) none (.faddr (.s 1) 4)), (.op (some 70) none (.load (.s 69) false 1)), (.op (some 71) none (.bin .add (.s 70) (.k (.str [40])))), (.op (some 72) none (.mv (.s 3))), (.call (some 73) none n_strings_Join [(.s 72), (.k (.str [44, 32]))]), (.op (some 74) none (.bin .add (.s 71) (.s 73))), (.op (some 75) none (.bin .add (.s 74) (.k (.str [41])))), (.op (some 6) none (.mv (.s 75)))] [(3, 0), (4, 0), (0, 0), (1, 1), (2, 0), (5, 0), (6, 0), (7, 0)]
abbrev QOF : AC := .run [(.op (some 76) none (.faddr (.s 1) 3)), (.op (some 77) none (.load (.s 76) false 1)), (.op (some 78) none (.bin .neq (.s 77) (.k (.str []))))]
abbrev QOG : AC := .run [(.op (some 79) none (.faddr (.s 1) 3)), (.op (some 80) none (.load (.s 79) false 1)), (.op (some 81) none (.bin .add (.s 80) (.k (.str [32, 61, 32])))), (.op (some 82) none (.mv (.s 6))), (.op (some 83) none (.bin .add (.s 81) (.s 82))), (.op (some 2) none (.mv (.s 83)))]
abbrev QOH : AC := .seq QOG .ret
abbrev QOI : AC := .cond (.s 78) QOH .skip
abbrev QOJ : AC := .seq QOF QOI
abbrev QOK : AC := .run [(.op (some 84) none (.mv (.s 6))), (.op (some 2) none (.mv (.s 84)))]
abbrev QOL : AC := .seq QOK .ret
abbrev QOM : AC := .seq QOJ QOL
abbrev QON : AC := .seq QOE QOM
abbrev QOO : AC := .seq QOD QON
abbrev QOP : AC := .seq QNV QOO
abbrev QOQ : AC := .seq QNU QOP
abbrev QOR : AC := .seq QMM QOQ
abbrev QOS : AC := .run [(.op (some 2) none (.box (.s 0))), (.op (some 4) none (.mv (.k (.bool false))))]
abbrev QOT : AC := .par [(.op (some 7) none (.mv (.s 1))), (.op (some 8) none (.bin .lss (.s 7) (.k (.int .i64 1)))), (.op (some 9) none (.mv (.s 8))), (.op (some 10) (some (9, false)) (.faddr (.s 2) 3)), (.op (some 11) (some (9, false)) (.load (.s 10) false 1)), (.op (some 12) (some (9, false)) (.len (.s 11))), (.op (some 13) (some (9, false)) (.faddr (.s 2) 0)), (.op (some 14) (some (9, false)) (.load (.s 13) false 1)), (.call (some 15) (some (9, false)) n_tree_kids [(.s 14)]), (.op (some 16) (some (9, false)) (.bin .neq (.s 12) (.s 15))), (.op (some 17) none (.pick (.s 9) (.k (.bool true)) (.s 16)))] [(0, 0), (1, 0), (2, 0), (6, 0), (7, 0), (8, 0), (3, 0), (4, 1), (5, 0), (9, 0), (10, 0)]
abbrev QOU : AC := .run [(.op (some 4) none (.mv (.k (.bool false))))]
abbrev QOV : AC := .seq QOU .ret
abbrev QOW : AC := .cond (.s 17) QOV .skip
abbrev QOX : AC := .seq QOT QOW
abbrev QOY : AC := .run [(.op (some 18) none (.faddr (.s 2) 0)), (.op (some 19) none (.load (.s 18) false 1))]
abbrev QOZ : AC := .run [(.op (some 21) none (.bin .eql (.s 19) (.k (.int .i64 1)))), (.op (some 20) none (.mv (.s 21)))]
abbrev QP0 : AC := .run [(.op (some 22) none (.faddr (.s 2) 1)), (.op (some 23) none (.load (.s 22) false 1)), (.op (some 24) none (.bin .geq (.s 23) (.k (.int .i64 0)))), (.op (some 25) none (.mv (.s 24))), (.op (some 26) (some (25, true)) (.faddr (.s 2) 2)), (.op (some 27) (some (25, true)) (.load (.s 26) false 1)), (.op (some 28) (some (25, true)) (.bin .eql (.s 27) (.k (.str [])))), (.op (some 29) none (.pick (.s 25) (.s 28) (.k (.bool false)))), (.op (some 4) none (.mv (.s 29)))]
abbrev QP1 : AC := .seq QP0 .ret
abbrev QP2 : AC := .run [(.op (some 31) none (.bin .eql (.s 19) (.k (.int .i64 2)))), (.op (some 30) none (.mv (.s 31)))]
abbrev QP3 : AC := .run [(.op (some 32) none (.faddr (.s 2) 1)), (.op (some 33) none (.load (.s 32) false 1)), (.op (some 34) none (.bin .eql (.s 33) (.k (.int .i64 0)))), (.op (some 35) none (.mv (.s 34))), (.op (some 36) (some (35, true)) (.faddr (.s 2) 2)), (.op (some 37) (some (35, true)) (.load (.s 36) false 1)), (.call (some 38) (some (35, true)) n_lex_Name [(.s 37)]), (.op (some 39) none (.pick (.s 35) (.s 38) (.k (.bool false)))), (.op (some 4) none (.mv (.s 39)))]
abbrev QP4 : AC := .seq QP3 .ret
abbrev QP5 : AC := .cond (.s 30) QP4 .skip
abbrev QP6 : AC := .seq QP2 QP5
abbrev QP7 : AC := .cond (.s 20) QP1 QP6
abbrev QP8 : AC := .seq QOZ QP7
abbrev QP9 : AC := .block 0 QP8
abbrev QPA : AC := .seq QOY QP9
abbrev QPB : AC := .run [(.op (some 40) none (.faddr (.s 2) 1)), (.op (some 41) none (.load (.s 40) false 1)), (.op (some 42) none (.bin .neq (.s 41) (.k (.int .i64 0)))), (.op (some 43) none (.mv (.s 42))), (.op (some 44) (some (43, false)) (.faddr (.s 2) 2)), (.op (some 45) (some (43, false)) (.load (.s 44) false 1)), (.op (some 46) (some (43, false)) (.bin .neq (.s 45) (.k (.str [])))), (.op (some 47) none (.pick (.s 43) (.k (.bool true)) (.s 46)))]
abbrev QPC : AC := .run [(.op (some 4) none (.mv (.k (.bool false))))]
abbrev QPD : AC := .seq QPC .ret
abbrev QPE : AC := .cond (.s 47) QPD .skip
abbrev QPF : AC := .seq QPB QPE
abbrev QPG : AC := .run [(.op (some 48) none (.faddr (.s 2) 3)), (.op (some 49) none (.load (.s 48) false 1)), (.op (some 50) none (.len (.s 49))), (.op (some 51) none (.mv (.k (.int .i64 0))))]
abbrev QPH : AC := .run [(.op (some 52) none (.bin .lss (.s 51) (.s 50)))]
abbrev QPI : AC := .cond (.s 52) .skip (.exit 1)
abbrev QPJ : AC := .run [(.op (some 53) none (.iaddr (.s 49) (.s 51) 4)), (.op (some 54) none (.load (.s 53) true 4)), (.op (some 6) none (.alloc [(.int .i64 0), (.int .i64 0), (.str []), (.slice .full 0 [])])), (.op none none (.store (.s 6) (.s 54) 4))]
abbrev QPK : AC := .run [(.op (some 55) none (.load (.s 6) true 4)), (.op (some 56) none (.mv (.s 1))), (.op (some 57) none (.bin .sub (.s 56) (.k (.int .i64 1)))), (.call (some 58) none n_tree_deep [(.s 55), (.s 57)]), (.op (some 59) none (.un .not (.s 58)))]
abbrev QPL : AC := .run [(.op (some 4) none (.mv (.k (.bool false))))]
abbrev QPM : AC := .seq QPL .ret
abbrev QPN : AC := .cond (.s 59) QPM .skip
abbrev QPO : AC := .seq QPK QPN
abbrev QPP : AC := .seq QPJ QPO
abbrev QPQ : AC := .block 2 QPP
abbrev QPR : AC := .run [(.op (some 60) none (.bin .add (.s 51) (.k (.int .i64 1)))), (.op (some 51) none (.mv (.s 60)))]
abbrev QPS : AC := .seq QPQ QPR
abbrev QPT : AC := .seq QPI QPS
abbrev QPU : AC := .seq QPH QPT
abbrev QPV : AC := .loop QPU
abbrev QPW : AC := .block 1 QPV
abbrev QPX : AC := .seq QPG QPW
abbrev QPY : AC := .run [(.op (some 4) none (.mv (.k (.bool true))))]
abbrev QPZ : AC := .seq QPY .ret
abbrev QQ0 : AC := .seq QPX QPZ
abbrev QQ1 : AC := .seq QPF QQ0
abbrev QQ2 : AC := .seq QPA QQ1
abbrev QQ3 : AC := .seq QOX QQ2
abbrev QQ4 : AC := .seq QOS QQ3
abbrev QQ5 : AC := .run [(.op (some 2) none (.mv (.k (.str [])))), (.op (some 3) none (.mv (.k (.int .i64 0))))]
abbrev QQ6 : AC := .run [(.op (some 4) none (.mv (.s 0)))]
abbrev QQ7 : AC := .run [(.op (some 6) none (.bin .eql (.s 4) (.k (.int .i64 17)))), (.op (some 5) none (.mv (.s 6)))]
abbrev QQ8 : AC := .run [(.op (some 2) none (.mv (.k (.str [124, 124])))), (.op (some 3) none (.mv (.k (.int .i64 1))))]
abbrev QQ9 : AC := .seq QQ8 .ret
abbrev QQA : AC := .run [(.op (some 8) none (.bin .eql (.s 4) (.k (.int .i64 16)))), (.op (some 7) none (.mv (.s 8)))]
abbrev QQB : AC := .run [(.op (some 2) none (.mv (.k (.str [38, 38])))), (.op (some 3) none (.mv (.k (.int .i64 2))))]
abbrev QQC : AC := .seq QQB .ret
abbrev QQD : AC := .run [(.op (some 10) none (.bin .eql (.s 4) (.k (.int .i64 14)))), (.op (some 9) none (.mv (.s 10)))]
abbrev QQE : AC := .run [(.op (some 2) none (.mv (.k (.str [61, 61])))), (.op (some 3) none (.mv (.k (.int .i64 3))))]
abbrev QQF : AC := .seq QQE .ret
abbrev QQG : AC := .run [(.op (some 12) none (.bin .eql (.s 4) (.k (.int .i64 15)))), (.op (some 11) none (.mv (.s 12)))]
abbrev QQH : AC := .run [(.op (some 2) none (.mv (.k (.str [33, 61])))), (.op (some 3) none (.mv (.k (.int .i64 3))))]
abbrev QQI : AC := .seq QQH .ret
abbrev QQJ : AC := .run [(.op (some 14) none (.bin .eql (.s 4) (.k (.int .i64 10)))), (.op (some 13) none (.mv (.s 14)))]
abbrev QQK : AC := .run [(.op (some 2) none (.mv (.k (.str [60])))), (.op (some 3) none (.mv (.k (.int .i64 4))))]
abbrev QQL : AC := .seq QQK .ret
abbrev QQM : AC := .run [(.op (some 16) none (.bin .eql (.s 4) (.k (.int .i64 11)))), (.op (some 15) none (.mv (.s 16)))]
abbrev QQN : AC := .run [(.op (some 2) none (.mv (.k (.str [60, 61])))), (.op (some 3) none (.mv (.k (.int .i64 4))))]
abbrev QQO : AC := .seq QQN .ret
abbrev QQP : AC := .run [(.op (some 18) none (.bin .eql (.s 4) (.k (.int .i64 12)))), (.op (some 17) none (.mv (.s 18)))]
abbrev QQQ : AC := .run [(.op (some 2) none (.mv (.k (.str [62])))), (.op (some 3) none (.mv (.k (.int .i64 4))))]
abbrev QQR : AC := .seq QQQ .ret
abbrev QQS : AC := .run [(.op (some 20) none (.bin .eql (.s 4) (.k (.int .i64 13)))), (.op (some 19) none (.mv (.s 20)))]
abbrev QQT : AC := .run [(.op (some 2) none (.mv (.k (.str [62, 61])))), (.op (some 3) none (.mv (.k (.int .i64 4))))]
abbrev QQU : AC := .seq QQT .ret
abbrev QQV : AC := .run [(.op (some 22) none (.bin .eql (.s 4) (.k (.int .i64 8)))), (.op (some 21) none (.mv (.s 22)))]
abbrev QQW : AC := .run [(.op (some 2) none (.mv (.k (.str [43])))), (.op (some 3) none (.mv (.k (.int .i64 5))))]
abbrev QQX : AC := .seq QQW .ret
abbrev QQY : AC := .run [(.op (some 24) none (.bin .eql (.s 4) (.k (.int .i64 9)))), (.op (some 23) none (.mv (.s 24)))]
abbrev QQZ : AC := .run [(.op (some 2) none (.mv (.k (.str [45])))), (.op (some 3) none (.mv (.k (.int .i64 5))))]
abbrev QR0 : AC := .seq QQZ .ret
abbrev QR1 : AC := .run [(.op (some 26) none (.bin .eql (.s 4) (.k (.int .i64 5)))), (.op (some 25) none (.mv (.s 26)))]
abbrev QR2 : AC := .run [(.op (some 2) none (.mv (.k (.str [42])))), (.op (some 3) none (.mv (.k (.int .i64 6))))]
abbrev QR3 : AC := .seq QR2 .ret
abbrev QR4 : AC := .run [(.op (some 28) none (.bin .eql (.s 4) (.k (.int .i64 6)))), (.op (some 27) none (.mv (.s 28)))]
abbrev QR5 : AC := .run [(.op (some 2) none (.mv (.k (.str [47])))), (.op (some 3) none (.mv (.k (.int .i64 6))))]
abbrev QR6 : AC := .seq QR5 .ret
abbrev QR7 : AC := .run [(.op (some 30) none (.bin .eql (.s 4) (.k (.int .i64 7)))), (.op (some 29) none (.mv (.s 30)))]
abbrev QR8 : AC := .run [(.op (some 2) none (.mv (.k (.str [37])))), (.op (some 3) none (.mv (.k (.int .i64 6))))]
abbrev QR9 : AC := .seq QR8 .ret
abbrev QRA : AC := .cond (.s 29) QR9 .skip
abbrev QRB : AC := .seq QR7 QRA
abbrev QRC : AC := .cond (.s 27) QR6 QRB
abbrev QRD : AC := .seq QR4 QRC
abbrev QRE : AC := .cond (.s 25) QR3 QRD
abbrev QRF : AC := .seq QR1 QRE
abbrev QRG : AC := .cond (.s 23) QR0 QRF
abbrev QRH : AC := .seq QQY QRG
abbrev QRI : AC := .cond (.s 21) QQX QRH
abbrev QRJ : AC := .seq QQV QRI
abbrev QRK : AC := .cond (.s 19) QQU QRJ
abbrev QRL : AC := .seq QQS QRK
abbrev QRM : AC := .cond (.s 17) QQR QRL
abbrev QRN : AC := .seq QQP QRM
abbrev QRO : AC := .cond (.s 15) QQO QRN
abbrev QRP : AC := .seq QQM QRO
abbrev QRQ : AC := .cond (.s 13) QQL QRP
abbrev QRR : AC := .seq QQJ QRQ
abbrev QRS : AC := .cond (.s 11) QQI QRR
abbrev QRT : AC := .seq QQG QRS
abbrev QRU : AC := .cond (.s 9) QQF QRT
abbrev QRV : AC := .seq QQD QRU
abbrev QRW : AC := .cond (.s 7) QQC QRV
abbrev QRX : AC := .seq QQA QRW
abbrev QRY : AC := .cond (.s 5) QQ9 QRX
abbrev QRZ : AC := .seq QQ7 QRY
abbrev QS0 : AC := .block 0 QRZ
abbrev QS1 : AC := .seq QQ6 QS0
abbrev QS2 : AC := .run [(.op (some 2) none (.mv (.k (.str [])))), (.op (some 3) none (.mv (.k (.int .i64 7))))]
abbrev QS3 : AC := .seq QS2 .ret
abbrev QS4 : AC := .seq QS1 QS3
abbrev QS5 : AC := .seq QQ5 QS4
abbrev QS6 : AC := .run [(.op (some 2) none (.mv (.k (.int .i64 0))))]
abbrev QS7 : AC := .run [(.op (some 4) none (.mv (.s 0))), (.op (some 5) none (.bin .eql (.s 4) (.k (.int .i64 1)))), (.op (some 6) none (.mv (.s 5))), (.op (some 7) (some (6, false)) (.mv (.s 0))), (.op (some 8) (some (6, false)) (.bin .eql (.s 7) (.k (.int .i64 2)))), (.op (some 9) none (.pick (.s 6) (.k (.bool true)) (.s 8))), (.op (some 3) none (.mv (.s 9)))]
abbrev QS8 : AC := .run [(.op (some 2) none (.mv (.k (.int .i64 0))))]
abbrev QS9 : AC := .seq QS8 .ret
abbrev QSA : AC := .run [(.op (some 11) none (.mv (.s 0))), (.op (some 12) none (.bin .eql (.s 11) (.k (.int .i64 3)))), (.op (some 13) none (.mv (.s 12))), (.op (some 14) (some (13, false)) (.mv (.s 0))), (.op (some 15) (some (13, false)) (.bin .eql (.s 14) (.k (.int .i64 4)))), (.op (some 16) none (.pick (.s 13) (.k (.bool true)) (.s 15))), (.op (some 10) none (.mv (.s 16)))]
abbrev QSB : AC := .run [(.op (some 2) none (.mv (.k (.int .i64 1))))]
abbrev QSC : AC := .seq QSB .ret
abbrev QSD : AC := .run [(.op (some 18) none (.mv (.s 0))), (.op (some 19) none (.bin .geq (.s 18) (.k (.int .i64 5)))), (.op (some 20) none (.mv (.s 19))), (.op (some 21) (some (20, true)) (.mv (.s 0))), (.op (some 22) (some (20, true)) (.bin .leq (.s 21) (.k (.int .i64 17)))), (.op (some 23) none (.pick (.s 20) (.s 22) (.k (.bool false)))), (.op (some 17) none (.mv (.s 23)))]
abbrev QSE : AC := .run [(.op (some 2) none (.mv (.k (.int .i64 2))))]
abbrev QSF : AC := .seq QSE .ret
abbrev QSG : AC := .cond (.s 17) QSF .skip
abbrev QSH : AC := .seq QSD QSG
abbrev QSI : AC := .cond (.s 10) QSC QSH
abbrev QSJ : AC := .seq QSA QSI
abbrev QSK : AC := .cond (.s 3) QS9 QSJ
abbrev QSL : AC := .seq QS7 QSK
abbrev QSM : AC := .block 0 QSL
abbrev QSN : AC := .run [(.op (some 2) none (.mv (.k (.int .i64 (-1)))))]
abbrev QSO : AC := .seq QSN .ret
abbrev QSP : AC := .seq QSM QSO
abbrev QSQ : AC := .seq QS6 QSP
abbrev QSR : AC := .run [(.op (some 2) none (.mv (.k (.bool false))))]
abbrev QSS : AC := .run [(.op (some 3) none (.mv (.s 0))), (.op (some 4) none (.bin .geq (.s 3) (.k (.int .u8 97)))), (.op (some 5) none (.mv (.s 4))), (.op (some 6) (some (5, true)) (.mv (.s 0))), (.op (some 7) (some (5, true)) (.bin .leq (.s 6) (.k (.int .u8 122)))), (.op (some 8) none (.pick (.s 5) (.s 7) (.k (.bool false)))), (.op (some 2) none (.mv (.s 8)))]
abbrev QST : AC := .seq QSS .ret
abbrev QSU : AC := .seq QSR QST
abbrev QSV : AC := .run [(.op (some 2) none (.mv (.k (.bool false))))]
abbrev QSW : AC := .run [(.op (some 3) none (.mv (.s 0))), (.op (some 4) none (.bin .geq (.s 3) (.k (.int .u8 48)))), (.op (some 5) none (.mv (.s 4))), (.op (some 6) (some (5, true)) (.mv (.s 0))), (.op (some 7) (some (5, true)) (.bin .leq (.s 6) (.k (.int .u8 57)))), (.op (some 8) none (.pick (.s 5) (.s 7) (.k (.bool false)))), (.op (some 2) none (.mv (.s 8)))]
abbrev QSX : AC := .seq QSW .ret
abbrev QSY : AC := .seq QSV QSX
abbrev QSZ : AC := .run [(.op (some 2) none (.mv (.k (.bool false))))]
abbrev QT0 : AC := .run [(.call (some 5) none n_ref1_Words []), (.op (some 6) none (.len (.s 5))), (.op (some 7) none (.mv (.k (.int .i64 0))))]
abbrev QT1 : AC := .run [(.op (some 8) none (.bin .lss (.s 7) (.s 6)))]
abbrev QT2 : AC := .cond (.s 8) .skip (.exit 0)
abbrev QT3 : AC := .run [(.op (some 9) none (.iaddr (.s 5) (.s 7) 1)), (.op (some 10) none (.load (.s 9) false 1)), (.op (some 4) none (.mv (.s 10)))]
abbrev QT4 : AC := .run [(.op (some 11) none (.mv (.s 4))), (.op (some 12) none (.mv (.s 0))), (.op (some 13) none (.bin .eql (.s 11) (.s 12)))]
abbrev QT5 : AC := .run [(.op (some 2) none (.mv (.k (.bool true))))]
abbrev QT6 : AC := .seq QT5 .ret
abbrev QT7 : AC := .cond (.s 13) QT6 .skip
abbrev QT8 : AC := .seq QT4 QT7
abbrev QT9 : AC := .seq QT3 QT8
abbrev QTA : AC := .block 1 QT9
abbrev QTB : AC := .run [(.op (some 14) none (.bin .add (.s 7) (.k (.int .i64 1)))), (.op (some 7) none (.mv (.s 14)))]
abbrev QTC : AC := .seq QTA QTB
abbrev QTD : AC := .seq QT2 QTC
abbrev QTE : AC := .seq QT1 QTD
abbrev QTF : AC := .loop QTE
abbrev QTG : AC := .block 0 QTF
abbrev QTH : AC := .seq QT0 QTG
abbrev QTI : AC := .run [(.op (some 2) none (.mv (.k (.bool false))))]
abbrev QTJ : AC := .seq QTI .ret
abbrev QTK : AC := .seq QTH QTJ
abbrev QTL : AC := .seq QSZ QTK
abbrev QTM : AC := .run [(.op (some 1) none (.box (.s 0))), (.op (some 2) none (.mv (.k (.bool false))))]
abbrev QTN : AC := .run [(.op (some 3) none (.faddr (.s 1) 0)), (.op (some 4) none (.load (.s 3) false 1)), (.op (some 5) none (.bin .eql (.s 4) (.k (.int .i64 0)))), (.op (some 6) none (.mv (.s 5))), (.op (some 7) (some (6, true)) (.faddr (.s 1) 1)), (.op (some 8) (some (6, true)) (.load (.s 7) false 1)), (.op (some 9) (some (6, true)) (.bin .eql (.s 8) (.k (.int .i64 0)))), (.op (some 10) none (.pick (.s 6) (.s 9) (.k (.bool false)))), (.op (some 11) none (.mv (.s 10))), (.op (some 12) (some (11, true)) (.faddr (.s 1) 2)), (.op (some 13) (some (11, true)) (.load (.s 12) false 1)), (.op (some 14) (some (11, true)) (.bin .eql (.s 13) (.k (.str [])))), (.op (some 15) none (.pick (.s 11) (.s 14) (.k (.bool false)))), (.op (some 16) none (.mv (.s 15))), (.op (some 17) (some (16, true)) (.faddr (.s 1) 3)), (.op (some 18) (some (16, true)) (.load (.s 17) false 1)), (.op (some 19) (some (16, true)) (.len (.s 18))), (.op (some 20) (some (16, true)) (.bin .eql (.s 19) (.k (.int .i64 0)))), (.op (some 21) none (.pick (.s 16) (.s 20) (.k (.bool false)))), (.op (some 2) none (.mv (.s 21)))]
abbrev QTO : AC := .seq QTN .ret
abbrev QTP : AC := .seq QTM QTO
abbrev QTQ : AC := .run [(.op (some 1) none (.box (.s 0))), (.op (some 2) none (.mv (.k (.bool false))))]
abbrev QTR : AC := .run [(.op (some 3) none (.faddr (.s 1) 0)), (.op (some 4) none (.load (.s 3) false 1))]
abbrev QTS : AC := .run [(.op (some 5) none (.faddr (.s 1) 1)), (.op (some 6) none (.load (.s 5) false 1)), (.call (some 7) none n_ref1_Name [(.s 6)]), (.op (some 8) none (.mv (.s 7))), (.op (some 9) (some (8, true)) (.faddr (.s 1) 2)), (.op (some 10) (some (8, true)) (.load (.s 9) true 4)), (.call (some 11) (some (8, true)) n_ref3_none [(.s 10)]), (.op (some 12) none (.pick (.s 8) (.s 11) (.k (.bool false)))), (.op (some 2) none (.mv (.s 12)))]
abbrev QTT : AC := .seq QTS .ret
abbrev QTU : AC := .cond (.s 4) QTT .skip
abbrev QTV : AC := .seq QTR QTU
abbrev QTW : AC := .run [(.op (some 13) none (.faddr (.s 1) 1)), (.op (some 14) none (.load (.s 13) false 1)), (.op (some 15) none (.bin .eql (.s 14) (.k (.str [])))), (.op (some 16) none (.mv (.s 15))), (.op (some 17) (some (16, true)) (.faddr (.s 1) 2)), (.op (some 18) (some (16, true)) (.load (.s 17) true 4)), (.call (some 19) (some (16, true)) n_ref3_MayExpr [(.s 18)]), (.op (some 20) none (.pick (.s 16) (.s 19) (.k (.bool false)))), (.op (some 2) none (.mv (.s 20)))]
abbrev QTX : AC := .seq QTW .ret
abbrev QTY : AC := .seq QTV QTX
abbrev QTZ : AC := .seq QTQ QTY
abbrev QU0 : AC := .run [(.op (some 2) none (.mv (.k (.bool false))))]
abbrev QU1 : AC := .run [(.op (some 3) none (.mv (.s 0))), (.op (some 4) none (.bin .geq (.s 3) (.k (.int .u8 97)))), (.op (some 5) none (.mv (.s 4))), (.op (some 6) (some (5, true)) (.mv (.s 0))), (.op (some 7) (some (5, true)) (.bin .leq (.s 6) (.k (.int .u8 122)))), (.op (some 8) none (.pick (.s 5) (.s 7) (.k (.bool false)))), (.op (some 2) none (.mv (.s 8)))]
abbrev QU2 : AC := .seq QU1 .ret
abbrev QU3 : AC := .seq QU0 QU2
abbrev QU4 : AC := .run [(.op (some 2) none (.mv (.k (.bool false))))]
abbrev QU5 : AC := .run [(.op (some 3) none (.mv (.s 0))), (.op (some 4) none (.bin .geq (.s 3) (.k (.int .u8 48)))), (.op (some 5) none (.mv (.s 4))), (.op (some 6) (some (5, true)) (.mv (.s 0))), (.op (some 7) (some (5, true)) (.bin .leq (.s 6) (.k (.int .u8 57)))), (.op (some 8) none (.pick (.s 5) (.s 7) (.k (.bool false)))), (.op (some 2) none (.mv (.s 8)))]
abbrev QU6 : AC := .seq QU5 .ret
abbrev QU7 : AC := .seq QU4 QU6
abbrev QU8 : AC := .run [(.op (some 4) none (.mv (.k (.int .i64 0))))]
abbrev QU9 : AC := .run [(.op (some 5) none (.mv (.s 1))), (.op (some 6) none (.bin .add (.s 5) (.k (.int .i64 1)))), (.op (some 7) none (.mv (.s 0))), (.op (some 8) none (.slen (.s 7))), (.op (some 9) none (.bin .lss (.s 6) (.s 8)))]
abbrev QUA : AC := .run [(.op (some 10) none (.mv (.s 0))), (.op (some 11) none (.mv (.s 1))), (.op (some 12) none (.mv (.s 1))), (.op (some 13) none (.bin .add (.s 12) (.k (.int .i64 2)))), (.op (some 14) none (.sslc (.s 10) (some (.s 11)) (some (.s 13))))]
abbrev QUB : AC := .run [(.op (some 16) none (.bin .eql (.s 14) (.k (.str [61, 61])))), (.op (some 15) none (.mv (.s 16)))]
abbrev QUC : AC := .run [(.op (some 17) none (.bin .eql (.s 14) (.k (.str [33, 61])))), (.op (some 15) none (.mv (.s 17)))]
abbrev QUD : AC := .run [(.op (some 18) none (.bin .eql (.s 14) (.k (.str [60, 61])))), (.op (some 15) none (.mv (.s 18)))]
abbrev QUE : AC := .run [(.op (some 19) none (.bin .eql (.s 14) (.k (.str [62, 61])))), (.op (some 15) none (.mv (.s 19)))]
abbrev QUF : AC := .run [(.op (some 20) none (.bin .eql (.s 14) (.k (.str [38, 38])))), (.op (some 15) none (.mv (.s 20)))]
abbrev QUG : AC := .run [(.op (some 21) none (.bin .eql (.s 14) (.k (.str [124, 124])))), (.op (some 15) none (.mv (.s 21)))]
abbrev QUH : AC := .cond (.s 15) .skip QUG
abbrev QUI : AC := .seq QUF QUH
abbrev QUJ : AC := .cond (.s 15) .skip QUI
abbrev QUK : AC := .seq QUE QUJ
abbrev QUL : AC := .cond (.s 15) .skip QUK
abbrev QUM : AC := .seq QUD QUL
abbrev QUN : AC := .cond (.s 15) .skip QUM
abbrev QUO : AC := .seq QUC QUN
abbrev QUP : AC := .cond (.s 15) .skip QUO
abbrev QUQ : AC := .seq QUB QUP
abbrev QUR : AC := .run [(.op (some 4) none (.mv (.k (.int .i64 2))))]
abbrev QUS : AC := .seq QUR .ret
abbrev QUT : AC := .cond (.s 15) QUS .skip
abbrev QUU : AC := .seq QUQ QUT
abbrev QUV : AC := .block 0 QUU
abbrev QUW : AC := .seq QUA QUV
abbrev QUX : AC := .cond (.s 9) QUW .skip
abbrev QUY : AC := .seq QU9 QUX
abbrev QUZ : AC := .run [(.op (some 22) none (.mv (.s 0))), (.op (some 23) none (.mv (.s 1))), (.op (some 24) none (.sidx (.s 22) (.s 23)))]
abbrev QV0 : AC := .run [(.op (some 26) none (.bin .eql (.s 24) (.k (.int .u8 40)))), (.op (some 25) none (.mv (.s 26)))]
abbrev QV1 : AC := .run [(.op (some 27) none (.bin .eql (.s 24) (.k (.int .u8 41)))), (.op (some 25) none (.mv (.s 27)))]
abbrev QV2 : AC := .run [(.op (some 28) none (.bin .eql (.s 24) (.k (.int .u8 123)))), (.op (some 25) none (.mv (.s 28)))]
abbrev QV3 : AC := .run [(.op (some 29) none (.bin .eql (.s 24) (.k (.int .u8 125)))), (.op (some 25) none (.mv (.s 29)))]
abbrev QV4 : AC := .run [(.op (some 30) none (.bin .eql (.s 24) (.k (.int .u8 44)))), (.op (some 25) none (.mv (.s 30)))]
abbrev QV5 : AC := .run [(.op (some 31) none (.bin .eql (.s 24) (.k (.int .u8 59)))), (.op (some 25) none (.mv (.s 31)))]
abbrev QV6 : AC := .run [(.op (some 32) none (.bin .eql (.s 24) (.k (.int .u8 58)))), (.op (some 25) none (.mv (.s 32)))]
abbrev QV7 : AC := .run [(.op (some 33) none (.bin .eql (.s 24) (.k (.int .u8 61)))), (.op (some 25) none (.mv (.s 33)))]
abbrev QV8 : AC := .run [(.op (some 34) none (.bin .eql (.s 24) (.k (.int .u8 33)))), (.op (some 25) none (.mv (.s 34)))]
abbrev QV9 : AC := .run [(.op (some 35) none (.bin .eql (.s 24) (.k (.int .u8 60)))), (.op (some 25) none (.mv (.s 35)))]
abbrev QVA : AC := .run [(.op (some 36) none (.bin .eql (.s 24) (.k (.int .u8 62)))), (.op (some 25) none (.mv (.s 36)))]
abbrev QVB : AC := .run [(.op (some 37) none (.bin .eql (.s 24) (.k (.int .u8 43)))), (.op (some 25) none (.mv (.s 37)))]
abbrev QVC : AC := .run [(.op (some 38) none (.bin .eql (.s 24) (.k (.int .u8 45)))), (.op (some 25) none (.mv (.s 38)))]
abbrev QVD : AC := .run [(.op (some 39) none (.bin .eql (.s 24) (.k (.int .u8 42)))), (.op (some 25) none (.mv (.s 39)))]
abbrev QVE : AC := .run [(.op (some 40) none (.bin .eql (.s 24) (.k (.int .u8 47)))), (.op (some 25) none (.mv (.s 40)))]
abbrev QVF : AC := .run [(.op (some 41) none (.bin .eql (.s 24) (.k (.int .u8 37)))), (.op (some 25) none (.mv (.s 41)))]
abbrev QVG : AC := .cond (.s 25) .skip QVF
abbrev QVH : AC := .seq QVE QVG
abbrev QVI : AC := .cond (.s 25) .skip QVH
abbrev QVJ : AC := .seq QVD QVI
abbrev QVK : AC := .cond (.s 25) .skip QVJ
abbrev QVL : AC := .seq QVC QVK
abbrev QVM : AC := .cond (.s 25) .skip QVL
abbrev QVN : AC := .seq QVB QVM
abbrev QVO : AC := .cond (.s 25) .skip QVN
abbrev QVP : AC := .seq QVA QVO
abbrev QVQ : AC := .cond (.s 25) .skip QVP
abbrev QVR : AC := .seq QV9 QVQ
abbrev QVS : AC := .cond (.s 25) .skip QVR
abbrev QVT : AC := .seq QV8 QVS
abbrev QVU : AC := .cond (.s 25) .skip QVT
abbrev QVV : AC := .seq QV7 QVU
abbrev QVW : AC := .cond (.s 25) .skip QVV
abbrev QVX : AC := .seq QV6 QVW
abbrev QVY : AC := .cond (.s 25) .skip QVX
abbrev QVZ : AC := .seq QV5 QVY
abbrev QW0 : AC := .cond (.s 25) .skip QVZ
abbrev QW1 : AC := .seq QV4 QW0
abbrev QW2 : AC := .cond (.s 25) .skip QW1
abbrev QW3 : AC := .seq QV3 QW2
abbrev QW4 : AC := .cond (.s 25) .skip QW3
abbrev QW5 : AC := .seq QV2 QW4
abbrev QW6 : AC := .cond (.s 25) .skip QW5
abbrev QW7 : AC := .seq QV1 QW6
abbrev QW8 : AC := .cond (.s 25) .skip QW7
abbrev QW9 : AC := .seq QV0 QW8
abbrev QWA : AC := .run [(.op (some 4) none (.mv (.k (.int .i64 1))))]
abbrev QWB : AC := .seq QWA .ret
abbrev QWC : AC := .cond (.s 25) QWB .skip
abbrev QWD : AC := .seq QW9 QWC
abbrev QWE : AC := .block 1 QWD
abbrev QWF : AC := .seq QUZ QWE
abbrev QWG : AC := .run [(.op (some 4) none (.mv (.k (.int .i64 0))))]
abbrev QWH : AC := .seq QWG .ret
abbrev QWI : AC := .seq QWF QWH
abbrev QWJ : AC := .seq QUY QWI
abbrev QWK : AC := .seq QU8 QWJ
abbrev QWL : AC := .run [(.op (some 4) none (.mv (.k (.int .i64 0))))]
abbrev QWM : AC := .run [(.op (some 5) none (.mv (.s 1))), (.op (some 6) none (.mv (.s 0))), (.op (some 7) none (.slen (.s 6))), (.op (some 8) none (.bin .lss (.s 5) (.s 7))), (.op (some 9) none (.mv (.s 8))), (.op (some 10) (some (9, true)) (.mv (.s 0))), (.op (some 11) (some (9, true)) (.mv (.s 1))), (.op (some 12) (some (9, true)) (.sidx (.s 10) (.s 11))), (.call (some 13) (some (9, true)) n_lex_letter [(.s 12)]), (.op (some 14) (some (9, true)) (.mv (.s 13))), (.op (some 15) (some (14, false)) (.mv (.s 0))), (.op (some 16) (some (14, false)) (.mv (.s 1))), (.op (some 17) (some (14, false)) (.sidx (.s 15) (.s 16))), (.call (some 18) (some (14, false)) n_lex_digit [(.s 17)]), (.op (some 19) (some (9, true)) (.pick (.s 14) (.k (.bool true)) (.s 18))), (.op (some 20) none (.pick (.s 9) (.s 19) (.k (.bool false))))]
abbrev QWN : AC := .cond (.s 20) .skip (.exit 0)
abbrev QWO : AC := .seq QWM QWN
abbrev QWP : AC := .run [(.op (some 21) none (.mv (.s 1))), (.op (some 22) none (.bin .add (.s 21) (.k (.int .i64 1)))), (.op (some 1) none (.mv (.s 22)))]
abbrev QWQ : AC := .block 1 QWP
abbrev QWR : AC := .seq QWO QWQ
abbrev QWS : AC := .loop QWR
abbrev QWT : AC := .block 0 QWS
abbrev QWU : AC := .run [(.op (some 23) none (.mv (.s 1))), (.op (some 4) none (.mv (.s 23)))]
abbrev QWV : AC := .seq QWU .ret
abbrev QWW : AC := .seq QWT QWV
abbrev QWX : AC := .seq QWL QWW
abbrev QWY : AC := .run [(.op (some 2) none (.mv (.k (.bool false))))]
abbrev QWZ : AC := .run [(.op (some 3) none (.mv (.s 0)))]
abbrev QX0 : AC := .run [(.op (some 5) none (.bin .eql (.s 3) (.k (.str [103, 108, 111, 98, 97, 108])))), (.op (some 4) none (.mv (.s 5)))]
abbrev QX1 : AC := .run [(.op (some 6) none (.bin .eql (.s 3) (.k (.str [112, 114, 111, 99])))), (.op (some 4) none (.mv (.s 6)))]
abbrev QX2 : AC := .run [(.op (some 7) none (.bin .eql (.s 3) (.k (.str [118, 97, 114])))), (.op (some 4) none (.mv (.s 7)))]
abbrev QX3 : AC := .run [(.op (some 8) none (.bin .eql (.s 3) (.k (.str [114, 101, 102])))), (.op (some 4) none (.mv (.s 8)))]
abbrev QX4 : AC := .run [(.op (some 9) none (.bin .eql (.s 3) (.k (.str [105, 102])))), (.op (some 4) none (.mv (.s 9)))]
abbrev QX5 : AC := .run [(.op (some 10) none (.bin .eql (.s 3) (.k (.str [101, 108, 115, 101])))), (.op (some 4) none (.mv (.s 10)))]
abbrev QX6 : AC := .run [(.op (some 11) none (.bin .eql (.s 3) (.k (.str [119, 104, 105, 108, 101])))), (.op (some 4) none (.mv (.s 11)))]
abbrev QX7 : AC := .run [(.op (some 12) none (.bin .eql (.s 3) (.k (.str [98, 114, 101, 97, 107])))), (.op (some 4) none (.mv (.s 12)))]
abbrev QX8 : AC := .run [(.op (some 13) none (.bin .eql (.s 3) (.k (.str [99, 111, 110, 116, 105, 110, 117, 101])))), (.op (some 4) none (.mv (.s 13)))]
abbrev QX9 : AC := .run [(.op (some 14) none (.bin .eql (.s 3) (.k (.str [114, 101, 116, 117, 114, 110])))), (.op (some 4) none (.mv (.s 14)))]
abbrev QXA : AC := .run [(.op (some 15) none (.bin .eql (.s 3) (.k (.str [103, 111, 116, 111])))), (.op (some 4) none (.mv (.s 15)))]
abbrev QXB : AC := .run [(.op (some 16) none (.bin .eql (.s 3) (.k (.str [114, 101, 97, 100])))), (.op (some 4) none (.mv (.s 16)))]
abbrev QXC : AC := .run [(.op (some 17) none (.bin .eql (.s 3) (.k (.str [112, 114, 105, 110, 116])))), (.op (some 4) none (.mv (.s 17)))]
abbrev QXD : AC := .cond (.s 4) .skip QXC
abbrev QXE : AC := .seq QXB QXD
abbrev QXF : AC := .cond (.s 4) .skip QXE
abbrev QXG : AC := .seq QXA QXF
abbrev QXH : AC := .cond (.s 4) .skip QXG
abbrev QXI : AC := .seq QX9 QXH
abbrev QXJ : AC := .cond (.s 4) .skip QXI
abbrev QXK : AC := .seq QX8 QXJ
abbrev QXL : AC := .cond (.s 4) .skip QXK
abbrev QXM : AC := .seq QX7 QXL
abbrev QXN : AC := .cond (.s 4) .skip QXM
abbrev QXO : AC := .seq QX6 QXN
abbrev QXP : AC := .cond (.s 4) .skip QXO
abbrev QXQ : AC := .seq QX5 QXP
abbrev QXR : AC := .cond (.s 4) .skip QXQ
abbrev QXS : AC := .seq QX4 QXR
abbrev QXT : AC := .cond (.s 4) .skip QXS
abbrev QXU : AC := .seq QX3 QXT
abbrev QXV : AC := .cond (.s 4) .skip QXU
abbrev QXW : AC := .seq QX2 QXV
abbrev QXX : AC := .cond (.s 4) .skip QXW
abbrev QXY : AC := .seq QX1 QXX
abbrev QXZ : AC := .cond (.s 4) .skip QXY
abbrev QY0 : AC := .seq QX0 QXZ
abbrev QY1 : AC := .run [(.op (some 2) none (.mv (.k (.bool true))))]
abbrev QY2 : AC := .seq QY1 .ret
abbrev QY3 : AC := .cond (.s 4) QY2 .skip
abbrev QY4 : AC := .seq QY0 QY3
abbrev QY5 : AC := .block 0 QY4
abbrev QY6 : AC := .seq QWZ QY5
abbrev QY7 : AC := .run [(.op (some 2) none (.mv (.k (.bool false))))]
abbrev QY8 : AC := .seq QY7 .ret
abbrev QY9 : AC := .seq QY6 QY8
abbrev QYA : AC := .seq QWY QY9
abbrev QYB : AC := .run [(.op (some 2) none (.mv (.k (.int .i64 0)))), (.op (some 3) none (.mv (.k (.bool false))))]
abbrev QYC : AC := .run [(.op (some 4) none (.mv (.k (.int .i64 0))))]
abbrev QYD : AC := .run [(.op (some 5) none (.mv (.k (.int .i64 0))))]
abbrev QYE : AC := .run [(.op (some 7) none (.mv (.s 5))), (.op (some 8) none (.mv (.s 0))), (.op (some 9) none (.slen (.s 8))), (.op (some 10) none (.bin .lss (.s 7) (.s 9)))]
abbrev QYF : AC := .cond (.s 10) .skip (.exit 0)
abbrev QYG : AC := .seq QYE QYF
abbrev QYH : AC := .run [(.op (some 13) none (.mv (.s 0))), (.op (some 14) none (.mv (.s 5))), (.op (some 15) none (.sidx (.s 13) (.s 14))), (.op (some 16) none (.bin .sub (.s 15) (.k (.int .u8 48)))), (.op (some 17) none (.conv .i64 (.s 16))), (.op (some 6) none (.mv (.s 17)))]
abbrev QYI : AC := .run [(.op (some 18) none (.mv (.s 4))), (.op (some 19) none (.mv (.s 6))), (.op (some 20) none (.bin .sub (.k (.int .i64 9223372036854775807)) (.s 19))), (.op (some 21) none (.bin .quo (.s 20) (.k (.int .i64 10)))), (.op (some 22) none (.bin .gtr (.s 18) (.s 21)))]
abbrev QYJ : AC := .run [(.op (some 2) none (.mv (.k (.int .i64 0)))), (.op (some 3) none (.mv (.k (.bool false))))]
abbrev QYK : AC := .seq QYJ .ret
abbrev QYL : AC := .cond (.s 22) QYK .skip
abbrev QYM : AC := .seq QYI QYL
abbrev QYN : AC := .run [(.op (some 23) none (.mv (.s 4))), (.op (some 24) none (.bin .mul (.s 23) (.k (.int .i64 10)))), (.op (some 25) none (.mv (.s 6))), (.op (some 26) none (.bin .add (.s 24) (.s 25))), (.op (some 4) none (.mv (.s 26)))]
abbrev QYO : AC := .seq QYM QYN
abbrev QYP : AC := .seq QYH QYO
abbrev QYQ : AC := .block 1 QYP
abbrev QYR : AC := .run [(.op (some 11) none (.mv (.s 5))), (.op (some 12) none (.bin .add (.s 11) (.k (.int .i64 1)))), (.op (some 5) none (.mv (.s 12)))]
abbrev QYS : AC := .seq QYQ QYR
abbrev QYT : AC := .seq QYG QYS
abbrev QYU : AC := .loop QYT
abbrev QYV : AC := .block 0 QYU
abbrev QYW : AC := .seq QYD QYV
abbrev QYX : AC := .run [(.op (some 27) none (.mv (.s 4))), (.op (some 2) none (.mv (.s 27))), (.op (some 3) none (.mv (.k (.bool true))))]
abbrev QYY : AC := .seq QYX .ret
abbrev QYZ : AC := .seq QYW QYY
abbrev QZ0 : AC := .seq QYC QYZ
abbrev QZ1 : AC := .seq QYB QZ0
abbrev QZ2 : AC := .run [(.op (some 4) none (.alloc [(.int .i64 0), (.int .i64 0), (.str []), (.slice .full 0 [])]))]
abbrev QZ3 : AC := .run [(.op (some 9) none (.mv (.s 0))), (.call (some 10) none n_parse_reader_one [(.s 9)]), (.op (some 5) none (.alloc [(.int .i64 0), (.int .i64 0), (.str []), (.slice .full 0 [])])), (.op none none (.store (.s 5) (.s 10) 4))]
abbrev QZ4 : AC := .run [(.op (some 11) none (.mv (.s 0))), (.call (some 12) none n_parse_reader_good [(.s 11)])]
abbrev QZ5 : AC := .cond (.s 12) .skip (.exit 0)
abbrev QZ6 : AC := .seq QZ4 QZ5
abbrev QZ7 : AC := .run [(.op (some 14) none (.mv (.s 0))), (.call (some 15) none n_parse_reader_peek [(.s 14)]), (.call (some 16) none n_parse_op [(.s 15)]), (.op (some 13) none (.mv (.s 16))), (.op (some 17) none (.ext (.s 13) 0)), (.op (some 18) none (.ext (.s 13) 1)), (.op (some 6) none (.mv (.s 17))), (.op (some 7) none (.mv (.s 18)))]
abbrev QZ8 : AC := .run [(.op (some 19) none (.mv (.s 7))), (.op (some 20) none (.mv (.s 1))), (.op (some 21) none (.bin .lss (.s 19) (.s 20))), (.op (some 22) none (.mv (.s 21))), (.op (some 23) (some (22, false)) (.mv (.s 6))), (.op (some 24) (some (22, false)) (.bin .eql (.s 23) (.k (.int .i64 0)))), (.op (some 25) none (.pick (.s 22) (.k (.bool true)) (.s 24)))]
abbrev QZ9 : AC := .run [(.op (some 26) none (.load (.s 5) true 4)), (.op none none (.store (.s 4) (.s 26) 4))]
abbrev QZA : AC := .seq QZ9 .ret
abbrev QZB : AC := .cond (.s 25) QZA .skip
abbrev QZC : AC := .seq QZ8 QZB
abbrev QZD : AC := .run [(.op (some 27) none (.mv (.s 0))), (.op (some 28) none (.nilck (.s 27))), (.op (some 29) none (.faddr (.s 28) 1)), (.op (some 30) none (.load (.s 29) false 1)), (.op (some 31) none (.bin .add (.s 30) (.k (.int .i64 1)))), (.op (some 32) none (.nilck (.s 27))), (.op (some 33) none (.faddr (.s 32) 1)), (.op none none (.store (.s 33) (.s 31) 1))]
abbrev QZE : AC := .run [(.op (some 34) none (.mv (.s 0))), (.op (some 35) none (.mv (.s 7))), (.op (some 36) none (.bin .add (.s 35) (.k (.int .i64 1)))), (.call (some 37) none n_parse_reader_two [(.s 34), (.s 36)]), (.op (some 8) none (.alloc [(.int .i64 0), (.int .i64 0), (.str []), (.slice .full 0 [])])), (.op none none (.store (.s 8) (.s 37) 4))]
abbrev QZF : AC := .run [(.op (some 38) none (.mv (.s 6))), (.op (some 39) none (.load (.s 5) true 4)), (.op (some 40) none (.load (.s 8) true 4)), (.op (some 41) none (.bslice [(.int .i64 0), (.int .i64 0), (.str []), (.slice .full 0 [])] 4 2 [(0, (.s 39)), (1, (.s 40))])), (.op (some 42) none (.build [(.int .i64 0), (.int .i64 0), (.str []), (.slice .full 0 [])] [(0, (1, (.s 38))), (3, (1, (.s 41)))])), (.op none none (.store (.s 5) (.s 42) 4))]
abbrev QZG : AC := .seq QZE QZF
abbrev QZH : AC := .seq QZD QZG
abbrev QZI : AC := .seq QZC QZH
abbrev QZJ : AC := .seq QZ7 QZI
abbrev QZK : AC := .block 1 QZJ
abbrev QZL : AC := .seq QZ6 QZK
abbrev QZM : AC := .loop QZL
abbrev QZN : AC := .block 0 QZM
abbrev QZO : AC := .run [(.op (some 43) none (.load (.s 5) true 4)), (.op none none (.store (.s 4) (.s 43) 4))]
abbrev QZP : AC := .seq QZO .ret
abbrev QZQ : AC := .seq QZN QZP
abbrev QZR : AC := .seq QZ3 QZQ
abbrev QZS : AC := .seq QZ2 QZR
abbrev QZT : AC := .run [(.op (some 1) none (.box (.s 0))), (.op (some 2) none (.mv (.k (.int .i64 0))))]
abbrev QZU : AC := .run [(.op (some 3) none (.mv (.k (.int .i64 0))))]
abbrev QZV : AC := .run [(.op (some 6) none (.faddr (.s 1) 3)), (.op (some 7) none (.load (.s 6) false 1)), (.op (some 8) none (.len (.s 7))), (.op (some 9) none (.mv (.k (.int .i64 0))))]
abbrev QZW : AC := .run [(.op (some 10) none (.bin .lss (.s 9) (.s 8)))]
abbrev QZX : AC := .cond (.s 10) .skip (.exit 0)
abbrev QZY : AC := .run [(.op (some 11) none (.iaddr (.s 7) (.s 9) 4)), (.op (some 12) none (.load (.s 11) true 4)), (.op (some 5) none (.alloc [(.int .i64 0), (.int .i64 0), (.str []), (.slice .full 0 [])])), (.op none none (.store (.s 5) (.s 12) 4))]
abbrev QZZ : AC := .run [(.op (some 13) none (.mv (.s 3))), (.op (some 14) none (.load (.s 5) true 4)), (.call (some 15) none n_parse_depth [(.s 14)]), (.op (some 16) none (.mm true (.s 13) (.s 15))), (.op (some 3) none (.mv (.s 16)))]
abbrev Q100 : AC := .seq QZY QZZ
abbrev Q101 : AC := .block 1 Q100
abbrev Q102 : AC := .run [(.op (some 17) none (.bin .add (.s 9) (.k (.int .i64 1)))), (.op (some 9) none (.mv (.s 17)))]
abbrev Q103 : AC := .seq Q101 Q102
abbrev Q104 : AC := .seq QZX Q103
abbrev Q105 : AC := .seq QZW Q104
abbrev Q106 : AC := .loop Q105
abbrev Q107 : AC := .block 0 Q106
abbrev Q108 : AC := .seq QZV Q107
abbrev Q109 : AC := .run [(.op (some 18) none (.mv (.s 3))), (.op (some 19) none (.bin .add (.s 18) (.k (.int .i64 1)))), (.op (some 2) none (.mv (.s 19)))]
abbrev Q10A : AC := .seq Q109 .ret
abbrev Q10B : AC := .seq Q108 Q10A
abbrev Q10C : AC := .seq QZU Q10B
abbrev Q10D : AC := .seq QZT Q10C
abbrev Q10E : AC := .run [(.op (some 4) none (.mv (.k (.bool false))))]
abbrev Q10F : AC := .run [(.op (some 5) none (.mv (.s 0))), (.call (some 6) none n_parse_reader_good [(.s 5)]), (.op (some 7) none (.un .not (.s 6))), (.op (some 8) none (.mv (.s 7))), (.op (some 9) (some (8, false)) (.mv (.s 0))), (.op (some 10) (some (8, false)) (.mv (.s 1))), (.call (some 11) (some (8, false)) n_parse_reader_is [(.s 9), (.s 10)]), (.op (some 12) (some (8, false)) (.un .not (.s 11))), (.op (some 13) none (.pick (.s 8) (.k (.bool true)) (.s 12)))]
abbrev Q10G : AC := .run [(.op (some 4) none (.mv (.k (.bool false))))]
abbrev Q10H : AC := .seq Q10G .ret
abbrev Q10I : AC := .cond (.s 13) Q10H .skip
abbrev Q10J : AC := .seq Q10F Q10I
abbrev Q10K : AC := .run [(.op (some 14) none (.mv (.s 0))), (.op (some 15) none (.nilck (.s 14))), (.op (some 16) none (.faddr (.s 15) 1)), (.op (some 17) none (.load (.s 16) false 1)), (.op (some 18) none (.bin .add (.s 17) (.k (.int .i64 1)))), (.op (some 19) none (.nilck (.s 14))), (.op (some 20) none (.faddr (.s 19) 1)), (.op none none (.store (.s 20) (.s 18) 1))]
abbrev Q10L : AC := .run [(.op (some 4) none (.mv (.k (.bool true))))]
abbrev Q10M : AC := .seq Q10L .ret
abbrev Q10N : AC := .seq Q10K Q10M
abbrev Q10O : AC := .seq Q10J Q10N
abbrev Q10P : AC := .seq Q10E Q10O
abbrev Q10Q : AC := .run [(.op (some 4) none (.mv (.k (.bool false))))]
abbrev Q10R : AC := .run [(.op (some 6) none (.mv (.s 0))), (.call (some 7) none n_parse_reader_peek [(.s 6)]), (.op (some 5) none (.alloc [(.int .i64 0), (.str []), (.int .i64 0), (.int .i64 0)])), (.op none none (.store (.s 5) (.s 7) 4))]
abbrev Q10S : AC := .run [(.op (some 8) none (.faddr (.s 5) 0)), (.op (some 9) none (.load (.s 8) false 1)), (.op (some 10) none (.bin .eql (.s 9) (.k (.int .i64 3)))), (.op (some 11) none (.mv (.s 10))), (.op (some 12) (some (11, false)) (.faddr (.s 5) 0)), (.op (some 13) (some (11, false)) (.load (.s 12) false 1)), (.op (some 14) (some (11, false)) (.bin .eql (.s 13) (.k (.int .i64 4)))), (.op (some 15) none (.pick (.s 11) (.k (.bool true)) (.s 14))), (.op (some 16) none (.mv (.s 15))), (.op (some 17) (some (16, true)) (.faddr (.s 5) 1)), (.op (some 18) (some (16, true)) (.load (.s 17) false 1)), (.op (some 19) (some (16, true)) (.mv (.s 1))), (.op (some 20) (some (16, true)) (.bin .eql (.s 18) (.s 19))), (.op (some 21) none (.pick (.s 16) (.s 20) (.k (.bool false)))), (.op (some 4) none (.mv (.s 21)))]
abbrev Q10T : AC := .seq Q10S .ret
abbrev Q10U : AC := .seq Q10R Q10T
abbrev Q10V : AC := .seq Q10Q Q10U
abbrev Q10W : AC := .run [(.op (some 1) none (.box (.s 0))), (.op (some 2) none (.mv (.k (.bool false))))]
abbrev Q10X : AC := .par [(.op (some 10) none (.faddr (.s 1) 9)), (.op (some 11) none (.load (.s 10) false 1)), (.op (some 3) none (.mv (.k (.bool false)))), (.op (some 4) none (.mv (.k (.bool false)))), (.op (some 5) none (.mv (.k (.bool false)))), (.op (some 6) none (.mv (.s 11))), (.op (some 7) none (.mv (.k (.bool false)))), (.op (some 8) none (.mv (.k (.bool false))))] [(0, 0), (1, 0), (2, 0), (3, 0), (4, 0), (5, 0), (6, 0), (7, 0)]
abbrev Q10Y : AC := .run [(.op (some 12) none (.faddr (.s 1) 1)), (.op (some 13) none (.load (.s 12) false 1)), (.op (some 14) none (.bin .eql (.s 13) (.k (.int .i64 4)))), (.op (some 9) none (.mv (.s 14)))]
abbrev Q10Z : AC := .run [(.op (some 15) none (.faddr (.s 1) 1)), (.op (some 16) none (.load (.s 15) false 1))]
abbrev Q110 : AC := .run [(.op (some 18) none (.bin .eql (.s 16) (.k (.int .i64 1)))), (.op (some 17) none (.mv (.s 18)))]
abbrev Q111 : AC := .run [(.op (some 3) none (.mv (.k (.bool true)))), (.op (some 5) none (.mv (.k (.bool true))))]
abbrev Q112 : AC := .run [(.op (some 20) none (.bin .eql (.s 16) (.k (.int .i64 2)))), (.op (some 19) none (.mv (.s 20)))]
abbrev Q113 : AC := .run [(.op (some 21) none (.bin .eql (.s 16) (.k (.int .i64 10)))), (.op (some 19) none (.mv (.s 21)))]
abbrev Q114 : AC := .cond (.s 19) .skip Q113
abbrev Q115 : AC := .seq Q112 Q114
abbrev Q116 : AC := .run [(.op (some 3) none (.mv (.k (.bool true))))]
abbrev Q117 : AC := .run [(.op (some 23) none (.bin .eql (.s 16) (.k (.int .i64 3)))), (.op (some 22) none (.mv (.s 23)))]
abbrev Q118 : AC := .run [(.op (some 5) none (.mv (.k (.bool true))))]
abbrev Q119 : AC := .run [(.op (some 25) none (.bin .eql (.s 16) (.k (.int .i64 4)))), (.op (some 24) none (.mv (.s 25)))]
abbrev Q11A : AC := .run [(.op (some 26) none (.faddr (.s 1) 3)), (.op (some 27) none (.load (.s 26) false 1)), (.op (some 28) none (.bin .neq (.s 27) (.k (.str [])))), (.op (some 3) none (.mv (.s 28))), (.op (some 4) none (.mv (.k (.bool true))))]
abbrev Q11B : AC := .run [(.op (some 30) none (.bin .eql (.s 16) (.k (.int .i64 5)))), (.op (some 29) none (.mv (.s 30)))]
abbrev Q11C : AC := .run [(.op (some 5) none (.mv (.k (.bool true)))), (.op (some 7) none (.mv (.k (.bool true)))), (.op (some 8) none (.mv (.k (.bool true))))]
abbrev Q11D : AC := .run [(.op (some 32) none (.bin .eql (.s 16) (.k (.int .i64 6)))), (.op (some 31) none (.mv (.s 32)))]
abbrev Q11E : AC := .run [(.op (some 5) none (.mv (.k (.bool true)))), (.op (some 7) none (.mv (.k (.bool true))))]
abbrev Q11F : AC := .run [(.op (some 34) none (.bin .eql (.s 16) (.k (.int .i64 9)))), (.op (some 33) none (.mv (.s 34)))]
abbrev Q11G : AC := .run [(.op (some 35) none (.faddr (.s 1) 9)), (.op (some 36) none (.load (.s 35) false 1)), (.op (some 5) none (.mv (.s 36))), (.op (some 6) none (.mv (.k (.bool false))))]
abbrev Q11H : AC := .run [(.op (some 38) none (.bin .eql (.s 16) (.k (.int .i64 7)))), (.op (some 37) none (.mv (.s 38)))]
abbrev Q11I : AC := .run [(.op (some 39) none (.bin .eql (.s 16) (.k (.int .i64 8)))), (.op (some 37) none (.mv (.s 39)))]
abbrev Q11J : AC := .cond (.s 37) .skip Q11I
abbrev Q11K : AC := .seq Q11H Q11J
abbrev Q11L : AC := .run [(.op (some 2) none (.mv (.k (.bool false))))]
abbrev Q11M : AC := .seq Q11L .ret
abbrev Q11N : AC := .cond (.s 37) .skip Q11M
abbrev Q11O : AC := .seq Q11K Q11N
abbrev Q11P : AC := .cond (.s 33) Q11G Q11O
abbrev Q11Q : AC := .seq Q11F Q11P
abbrev Q11R : AC := .cond (.s 31) Q11E Q11Q
abbrev Q11S : AC := .seq Q11D Q11R
abbrev Q11T : AC := .cond (.s 29) Q11C Q11S
abbrev Q11U : AC := .seq Q11B Q11T
abbrev Q11V : AC := .cond (.s 24) Q11A Q11U
abbrev Q11W : AC := .seq Q119 Q11V
abbrev Q11X : AC := .cond (.s 22) Q118 Q11W
abbrev Q11Y : AC := .seq Q117 Q11X
abbrev Q11Z : AC := .cond (.s 19) Q116 Q11Y
abbrev Q120 : AC := .seq Q115 Q11Z
abbrev Q121 : AC := .cond (.s 17) Q111 Q120
abbrev Q122 : AC := .seq Q110 Q121
abbrev Q123 : AC := .block 0 Q122
abbrev Q124 : AC := .seq Q10Z Q123
abbrev Q125 : AC := .run [(.op (some 40) none (.mv (.s 6))), (.op (some 41) none (.mv (.s 40))), (.op (some 42) (some (41, false)) (.mv (.s 7))), (.op (some 43) (some (41, false)) (.un .not (.s 42))), (.op (some 44) (some (41, false)) (.mv (.s 43))), (.op (some 45) (some (44, true)) (.faddr (.s 1) 11)), (.op (some 46) (some (44, true)) (.load (.s 45) false 1)), (.op (some 47) (some (44, true)) (.len (.s 46))), (.op (some 48) (some (44, true)) (.bin .gtr (.s 47) (.k (.int .i64 0)))), (.op (some 49) (some (41, false)) (.pick (.s 44) (.s 48) (.k (.bool false)))), (.op (some 50) none (.pick (.s 41) (.k (.bool true)) (.s 49))), (.op (some 51) none (.mv (.s 50))), (.op (some 52) (some (51, false)) (.mv (.s 8))), (.op (some 53) (some (51, false)) (.un .not (.s 52))), (.op (some 54) (some (51, false)) (.mv (.s 53))), (.op (some 55) (some (54, true)) (.faddr (.s 1) 12)), (.op (some 56) (some (54, true)) (.load (.s 55) false 1)), (.op (some 57) (some (54, true)) (.len (.s 56))), (.op (some 58) (some (54, true)) (.bin .gtr (.s 57) (.k (.int .i64 0)))), (.op (some 59) (some (51, false)) (.pick (.s 54) (.s 58) (.k (.bool false)))), (.op (some 60) none (.pick (.s 51) (.k (.bool true)) (.s 59))), (.op (some 61) none (.mv (.s 60))), (.op (some 62) (some (61, false)) (.mv (.s 9))), (.op (some 63) (some (61, false)) (.un .not (.s 62))), (.op (some 64) (some (61, false)) (.mv (.s 63))), (.op (some 65) (some (64, true)) (.faddr (.s 1) 10)), (.op (some 66) (some (64, true)) (.load (.s 65) false 1)), (.op (some 67) (some (64, true)) (.len (.s 66))), (.op (some 68) (some (64, true)) (.bin .gtr (.s 67) (.k (.int .i64 0)))), (.op (some 69) (some (61, false)) (.pick (.s 64) (.s 68) (.k (.bool false)))), (.op (some 70) none (.pick (.s 61) (.k (.bool true)) (.s 69)))]
abbrev Q126 : AC := .run [(.op (some 2) none (.mv (.k (.bool false))))]
abbrev Q127 : AC := .seq Q126 .ret
abbrev Q128 : AC := .cond (.s 70) Q127 .skip
abbrev Q129 : AC := .seq Q125 Q128
abbrev Q12A : AC := .run [(.op (some 71) none (.faddr (.s 1) 3)), (.op (some 72) none (.load (.s 71) false 1)), (.op (some 73) none (.mv (.s 3))), (.call (some 74) none n_tree_named [(.s 72), (.s 73)]), (.op (some 75) none (.un .not (.s 74))), (.op (some 76) none (.mv (.s 75))), (.op (some 77) (some (76, false)) (.faddr (.s 1) 4)), (.op (some 78) (some (76, false)) (.load (.s 77) false 1)), (.op (some 79) (some (76, false)) (.mv (.s 4))), (.call (some 80) (some (76, false)) n_tree_named [(.s 78), (.s 79)]), (.op (some 81) (some (76, false)) (.un .not (.s 80))), (.op (some 82) none (.pick (.s 76) (.k (.bool true)) (.s 81))), (.op (some 83) none (.mv (.s 82))), (.op (some 84) (some (83, false)) (.faddr (.s 1) 5)), (.op (some 85) (some (83, false)) (.load (.s 84) true 4)), (.op (some 86) (some (83, false)) (.mv (.s 5))), (.call (some 87) (some (83, false)) n_tree_worth [(.s 85), (.s 86)]), (.op (some 88) (some (83, false)) (.un .not (.s 87))), (.op (some 89) none (.pick (.s 83) (.k (.bool true)) (.s 88)))]
abbrev Q12B : AC := .run [(.op (some 2) none (.mv (.k (.bool false))))]
abbrev Q12C : AC := .seq Q12B .ret
abbrev Q12D : AC := .cond (.s 89) Q12C .skip
abbrev Q12E : AC := .seq Q12A Q12D
abbrev Q12F : AC := .run [(.op (some 90) none (.faddr (.s 1) 10)), (.op (some 91) none (.load (.s 90) false 1)), (.call (some 92) none n_tree_handed [(.s 91)]), (.op (some 2) none (.mv (.s 92)))]
abbrev Q12G : AC := .seq Q12F .ret
abbrev Q12H : AC := .seq Q12E Q12G
abbrev Q12I : AC := .seq Q129 Q12H
abbrev Q12J : AC := .seq Q124 Q12I
abbrev Q12K : AC := .seq Q10Y Q12J
abbrev Q12L : AC := .seq Q10X Q12K
abbrev Q12M : AC := .seq Q10W Q12L
abbrev Q12N : AC := .run [(.op (some 2) none (.mv (.k (.int .i64 0))))]
abbrev Q12O : AC := .run [(.op (some 4) none (.mv (.s 0))), (.op (some 5) none (.bin .eql (.s 4) (.k (.int .i64 1)))), (.op (some 6) none (.mv (.s 5))), (.op (some 7) (some (6, false)) (.mv (.s 0))), (.op (some 8) (some (6, false)) (.bin .eql (.s 7) (.k (.int .i64 2)))), (.op (some 9) none (.pick (.s 6) (.k (.bool true)) (.s 8))), (.op (some 3) none (.mv (.s 9)))]
abbrev Q12P : AC := .run [(.op (some 2) none (.mv (.k (.int .i64 0))))]
abbrev Q12Q : AC := .seq Q12P .ret
abbrev Q12R : AC := .run [(.op (some 11) none (.mv (.s 0))), (.op (some 12) none (.bin .eql (.s 11) (.k (.int .i64 3)))), (.op (some 13) none (.mv (.s 12))), (.op (some 14) (some (13, false)) (.mv (.s 0))), (.op (some 15) (some (13, false)) (.bin .eql (.s 14) (.k (.int .i64 4)))), (.op (some 16) none (.pick (.s 13) (.k (.bool true)) (.s 15))), (.op (some 10) none (.mv (.s 16)))]
abbrev Q12S : AC := .run [(.op (some 2) none (.mv (.k (.int .i64 1))))]
abbrev Q12T : AC := .seq Q12S .ret
abbrev Q12U : AC := .run [(.op (some 18) none (.mv (.s 0))), (.op (some 19) none (.bin .geq (.s 18) (.k (.int .i64 5)))), (.op (some 20) none (.mv (.s 19))), (.op (some 21) (some (20, true)) (.mv (.s 0))), (.op (some 22) (some (20, true)) (.bin .leq (.s 21) (.k (.int .i64 17)))), (.op (some 23) none (.pick (.s 20) (.s 22) (.k (.bool false)))), (.op (some 17) none (.mv (.s 23)))]
abbrev Q12V : AC := .run [(.op (some 2) none (.mv (.k (.int .i64 2))))]
abbrev Q12W : AC := .seq Q12V .ret
abbrev Q12X : AC := .cond (.s 17) Q12W .skip
abbrev Q12Y : AC := .seq Q12U Q12X
abbrev Q12Z : AC := .cond (.s 10) Q12T Q12Y
abbrev Q130 : AC := .seq Q12R Q12Z
abbrev Q131 : AC := .cond (.s 3) Q12Q Q130
abbrev Q132 : AC := .seq Q12O Q131
abbrev Q133 : AC := .block 0 Q132
abbrev Q134 : AC := .run [(.op (some 2) none (.mv (.k (.int .i64 (-1)))))]
abbrev Q135 : AC := .seq Q134 .ret
abbrev Q136 : AC := .seq Q133 Q135
abbrev Q137 : AC := .seq Q12N Q136

end Go.Abs

/-! Have2 -/

namespace Go.Abs
open Go.Proofs

theorem has_strings_Builder_WriteByte : Has Tryd.prog n_strings_Builder_WriteByte 17 [(4, none)] QMD := ⟨Tryd.f68, by kernel_rfl, by kernel_rfl⟩
theorem has_strings_Builder_WriteString : Has Tryd.prog n_strings_Builder_WriteString 19 [(4, none), (5, none)] QML := ⟨Tryd.f69, by kernel_rfl, by kernel_rfl⟩
theorem has_print_plain : Has Tryd.prog n_print_plain 85 [(2, none)] QOR := ⟨Tryd.f71, by kernel_rfl, by kernel_rfl⟩
theorem has_tree_deep : Has Tryd.prog n_tree_deep 61 [(4, none)] QQ4 := ⟨Tryd.f73, by kernel_rfl, by kernel_rfl⟩
theorem has_print_sign : Has Tryd.prog n_print_sign 31 [(2, none), (3, none)] QS5 := ⟨Tryd.f75, by kernel_rfl, by kernel_rfl⟩
theorem has_ref3_Arity : Has Tryd.prog n_ref3_Arity 24 [(2, none)] QSQ := ⟨Tryd.f76, by kernel_rfl, by kernel_rfl⟩
theorem has_ref1_small : Has Tryd.prog n_ref1_small 9 [(2, none)] QSU := ⟨Tryd.f81, by kernel_rfl, by kernel_rfl⟩
theorem has_ref1_digit : Has Tryd.prog n_ref1_digit 9 [(2, none)] QSY := ⟨Tryd.f82, by kernel_rfl, by kernel_rfl⟩
theorem has_ref1_Word : Has Tryd.prog n_ref1_Word 15 [(2, none)] QTL := ⟨Tryd.f83, by kernel_rfl, by kernel_rfl⟩
theorem has_ref3_none : Has Tryd.prog n_ref3_none 22 [(2, none)] QTP := ⟨Tryd.f85, by kernel_rfl, by kernel_rfl⟩
theorem has_ref3_arg : Has Tryd.prog n_ref3_arg 21 [(2, none)] QTZ := ⟨Tryd.f86, by kernel_rfl, by kernel_rfl⟩
theorem has_lex_letter : Has Tryd.prog n_lex_letter 9 [(2, none)] QU3 := ⟨Tryd.f88, by kernel_rfl, by kernel_rfl⟩
theorem has_lex_digit : Has Tryd.prog n_lex_digit 9 [(2, none)] QU7 := ⟨Tryd.f89, by kernel_rfl, by kernel_rfl⟩
theorem has_lex_sign : Has Tryd.prog n_lex_sign 42 [(4, none)] QWK := ⟨Tryd.f90, by kernel_rfl, by kernel_rfl⟩
theorem has_lex_run : Has Tryd.prog n_lex_run 24 [(4, none)] QWX := ⟨Tryd.f91, by kernel_rfl, by kernel_rfl⟩
theorem has_lex_Word : Has Tryd.prog n_lex_Word 18 [(2, none)] QYA := ⟨Tryd.f92, by kernel_rfl, by kernel_rfl⟩
theorem has_lex_number : Has Tryd.prog n_lex_number 28 [(2, none), (3, none)] QZ1 := ⟨Tryd.f93, by kernel_rfl, by kernel_rfl⟩
theorem has_parse_reader_two : Has Tryd.prog n_parse_reader_two 44 [(4, (some (true, 4)))] QZS := ⟨Tryd.f94, by kernel_rfl, by kernel_rfl⟩
theorem has_parse_depth : Has Tryd.prog n_parse_depth 20 [(2, none)] Q10D := ⟨Tryd.f95, by kernel_rfl, by kernel_rfl⟩
theorem has_parse_reader_take : Has Tryd.prog n_parse_reader_take 21 [(4, none)] Q10P := ⟨Tryd.f96, by kernel_rfl, by kernel_rfl⟩
theorem has_parse_reader_is : Has Tryd.prog n_parse_reader_is 22 [(4, none)] Q10V := ⟨Tryd.f98, by kernel_rfl, by kernel_rfl⟩
theorem has_tree_fields : Has Tryd.prog n_tree_fields 93 [(2, none)] Q12M := ⟨Tryd.f103, by kernel_rfl, by kernel_rfl⟩
theorem has_tree_kids : Has Tryd.prog n_tree_kids 24 [(2, none)] Q137 := ⟨Tryd.f107, by kernel_rfl, by kernel_rfl⟩
end Go.Abs

/-! Codes3 -/

namespace Go.Abs

abbrev Q138 : AC := .run [(.op (some 0) none (.mv (.k (.slice .full 0 []))))]
abbrev Q139 : AC := .run [(.op (some 1) none (.bslice [(.str [])] 1 13 [(0, (.k (.str [103, 108, 111, 98, 97, 108]))), (1, (.k (.str [112, 114, 111, 99]))), (2, (.k (.str [118, 97, 114]))), (3, (.k (.str [114, 101, 102]))), (4, (.k (.str [105, 102]))), (5, (.k (.str [101, 108, 115, 101]))), (6, (.k (.str [119, 104, 105, 108, 101]))), (7, (.k (.str [98, 114, 101, 97, 107]))), (8, (.k (.str [99, 111, 110, 116, 105, 110, 117, 101]))), (9, (.k (.str [114, 101, 116, 117, 114, 110]))), (10, (.k (.str [103, 111, 116, 111]))), (11, (.k (.str [114, 101, 97, 100]))), (12, (.k (.str [112, 114, 105, 110, 116])))])), (.op (some 0) none (.mv (.s 1)))]
abbrev Q13A : AC := .seq Q139 .ret
abbrev Q13B : AC := .seq Q138 Q13A
abbrev Q13C : AC := .run [(.op (some 2) none (.alloc [(.int .i64 0), (.int .i64 0), (.str []), (.slice .full 0 [])]))]
abbrev Q13D : AC := .run [(.op (some 5) none (.mv (.s 0))), (.call (some 6) none n_parse_reader_peek [(.s 5)]), (.op (some 3) none (.alloc [(.int .i64 0), (.str []), (.int .i64 0), (.int .i64 0)])), (.op none none (.store (.s 3) (.s 6) 4))]
abbrev Q13E : AC := .run [(.op (some 7) none (.mv (.s 0))), (.call (some 8) none n_parse_reader_good [(.s 7)]), (.op (some 9) none (.un .not (.s 8)))]
abbrev Q13F : AC := .run [(.op (some 10) none (.build [(.int .i64 0), (.int .i64 0), (.str []), (.slice .full 0 [])] [])), (.op none none (.store (.s 2) (.s 10) 4))]
abbrev Q13G : AC := .seq Q13F .ret
abbrev Q13H : AC := .cond (.s 9) Q13G .skip
abbrev Q13I : AC := .seq Q13E Q13H
abbrev Q13J : AC := .run [(.op (some 12) none (.faddr (.s 3) 0)), (.op (some 13) none (.load (.s 12) false 1)), (.op (some 14) none (.bin .eql (.s 13) (.k (.int .i64 2)))), (.op (some 11) none (.mv (.s 14)))]
abbrev Q13K : AC := .run [(.op (some 15) none (.mv (.s 0))), (.op (some 16) none (.nilck (.s 15))), (.op (some 17) none (.faddr (.s 16) 1)), (.op (some 18) none (.load (.s 17) false 1)), (.op (some 19) none (.bin .add (.s 18) (.k (.int .i64 1)))), (.op (some 20) none (.nilck (.s 15))), (.op (some 21) none (.faddr (.s 20) 1)), (.op none none (.store (.s 21) (.s 19) 1))]
abbrev Q13L : AC := .run [(.op (some 22) none (.faddr (.s 3) 2)), (.op (some 23) none (.load (.s 22) false 1)), (.op (some 24) none (.build [(.int .i64 0), (.int .i64 0), (.str []), (.slice .full 0 [])] [(0, (1, (.k (.int .i64 1)))), (1, (1, (.s 23)))])), (.op none none (.store (.s 2) (.s 24) 4))]
abbrev Q13M : AC := .seq Q13L .ret
abbrev Q13N : AC := .seq Q13K Q13M
abbrev Q13O : AC := .run [(.op (some 26) none (.faddr (.s 3) 0)), (.op (some 27) none (.load (.s 26) false 1)), (.op (some 28) none (.bin .eql (.s 27) (.k (.int .i64 1)))), (.op (some 25) none (.mv (.s 28)))]
abbrev Q13P : AC := .run [(.op (some 29) none (.mv (.s 0))), (.op (some 30) none (.nilck (.s 29))), (.op (some 31) none (.faddr (.s 30) 1)), (.op (some 32) none (.load (.s 31) false 1)), (.op (some 33) none (.bin .add (.s 32) (.k (.int .i64 1)))), (.op (some 34) none (.nilck (.s 29))), (.op (some 35) none (.faddr (.s 34) 1)), (.op none none (.store (.s 35) (.s 33) 1))]
abbrev Q13Q : AC := .run [(.op (some 36) none (.faddr (.s 3) 1)), (.op (some 37) none (.load (.s 36) false 1)), (.op (some 38) none (.build [(.int .i64 0), (.int .i64 0), (.str []), (.slice .full 0 [])] [(0, (1, (.k (.int .i64 2)))), (2, (1, (.s 37)))])), (.op none none (.store (.s 2) (.s 38) 4))]
abbrev Q13R : AC := .seq Q13Q .ret
abbrev Q13S : AC := .seq Q13P Q13R
abbrev Q13T : AC := .run [(.op (some 40) none (.mv (.s 0))), (.call (some 41) none n_parse_reader_take [(.s 40), (.k (.str [40]))]), (.op (some 39) none (.mv (.s 41)))]
abbrev Q13U : AC := .run [(.op (some 42) none (.mv (.s 0))), (.call (some 43) none n_parse_reader_two [(.s 42), (.k (.int .i64 1))]), (.op (some 4) none (.alloc [(.int .i64 0), (.int .i64 0), (.str []), (.slice .full 0 [])])), (.op none none (.store (.s 4) (.s 43) 4))]
abbrev Q13V : AC := .run [(.op (some 44) none (.mv (.s 0))), (.call (some 45) none n_parse_reader_want [(.s 44), (.k (.str [41]))])]
abbrev Q13W : AC := .run [(.op (some 46) none (.load (.s 4) true 4)), (.op none none (.store (.s 2) (.s 46) 4))]
abbrev Q13X : AC := .seq Q13W .ret
abbrev Q13Y : AC := .seq Q13V Q13X
abbrev Q13Z : AC := .seq Q13U Q13Y
abbrev Q140 : AC := .run [(.op (some 48) none (.mv (.s 0))), (.call (some 49) none n_parse_reader_take [(.s 48), (.k (.str [45]))]), (.op (some 47) none (.mv (.s 49)))]
abbrev Q141 : AC := .run [(.op (some 50) none (.mv (.s 0))), (.call (some 51) none n_parse_reader_one [(.s 50)]), (.op (some 52) none (.bslice [(.int .i64 0), (.int .i64 0), (.str []), (.slice .full 0 [])] 4 1 [(0, (.s 51))])), (.op (some 53) none (.build [(.int .i64 0), (.int .i64 0), (.str []), (.slice .full 0 [])] [(0, (1, (.k (.int .i64 3)))), (3, (1, (.s 52)))])), (.op none none (.store (.s 2) (.s 53) 4))]
abbrev Q142 : AC := .seq Q141 .ret
abbrev Q143 : AC := .run [(.op (some 55) none (.mv (.s 0))), (.call (some 56) none n_parse_reader_take [(.s 55), (.k (.str [33]))]), (.op (some 54) none (.mv (.s 56)))]
abbrev Q144 : AC := .run [(.op (some 57) none (.mv (.s 0))), (.call (some 58) none n_parse_reader_one [(.s 57)]), (.op (some 59) none (.bslice [(.int .i64 0), (.int .i64 0), (.str []), (.slice .full 0 [])] 4 1 [(0, (.s 58))])), (.op (some 60) none (.build [(.int .i64 0), (.int .i64 0), (.str []), (.slice .full 0 [])] [(0, (1, (.k (.int .i64 4)))), (3, (1, (.s 59)))])), (.op none none (.store (.s 2) (.s 60) 4))]
abbrev Q145 : AC := .seq Q144 .ret
abbrev Q146 : AC := .cond (.s 54) Q145 .skip
abbrev Q147 : AC := .seq Q143 Q146
abbrev Q148 : AC := .cond (.s 47) Q142 Q147
abbrev Q149 : AC := .seq Q140 Q148
abbrev Q14A : AC := .cond (.s 39) Q13Z Q149
abbrev Q14B : AC := .seq Q13T Q14A
abbrev Q14C : AC := .cond (.s 25) Q13S Q14B
abbrev Q14D : AC := .seq Q13O Q14C
abbrev Q14E : AC := .cond (.s 11) Q13N Q14D
abbrev Q14F : AC := .seq Q13J Q14E
abbrev Q14G : AC := .block 0 Q14F
abbrev Q14H : AC := .run [(.op (some 61) none (.mv (.s 0))), (.call (some 62) none n_parse_reader_bad [(.s 61), (.k (.int .i64 3))])]
abbrev Q14I : AC := .run [(.op (some 63) none (.build [(.int .i64 0), (.int .i64 0), (.str []), (.slice .full 0 [])] [])), (.op none none (.store (.s 2) (.s 63) 4))]
abbrev Q14J : AC := .seq Q14I .ret
abbrev Q14K : AC := .seq Q14H Q14J
abbrev Q14L : AC := .seq Q14G Q14K
abbrev Q14M : AC := .seq Q13I Q14L
abbrev Q14N : AC := .seq Q13D Q14M
abbrev Q14O : AC := .seq Q13C Q14N
abbrev Q14P : AC := .run [(.op (some 1) none (.box (.s 0))), (.op (some 2) none (.mv (.k (.int .i64 0)))), (.op (some 3) none (.mv (.k (.int .i64 0))))]
abbrev Q14Q : AC := .run [(.op (some 4) none (.faddr (.s 1) 0)), (.op (some 5) none (.load (.s 4) false 1)), (.op (some 6) none (.bin .neq (.s 5) (.k (.int .i64 4))))]
abbrev Q14R : AC := .run [(.op (some 2) none (.mv (.k (.int .i64 0)))), (.op (some 3) none (.mv (.k (.int .i64 0))))]
abbrev Q14S : AC := .seq Q14R .ret
abbrev Q14T : AC := .cond (.s 6) Q14S .skip
abbrev Q14U : AC := .seq Q14Q Q14T
abbrev Q14V : AC := .run [(.op (some 7) none (.faddr (.s 1) 1)), (.op (some 8) none (.load (.s 7) false 1))]
abbrev Q14W : AC := .run [(.op (some 10) none (.bin .eql (.s 8) (.k (.str [124, 124])))), (.op (some 9) none (.mv (.s 10)))]
abbrev Q14X : AC := .run [(.op (some 2) none (.mv (.k (.int .i64 17)))), (.op (some 3) none (.mv (.k (.int .i64 1))))]
abbrev Q14Y : AC := .seq Q14X .ret
abbrev Q14Z : AC := .run [(.op (some 12) none (.bin .eql (.s 8) (.k (.str [38, 38])))), (.op (some 11) none (.mv (.s 12)))]
abbrev Q150 : AC := .run [(.op (some 2) none (.mv (.k (.int .i64 16)))), (.op (some 3) none (.mv (.k (.int .i64 2))))]
abbrev Q151 : AC := .seq Q150 .ret
abbrev Q152 : AC := .run [(.op (some 14) none (.bin .eql (.s 8) (.k (.str [61, 61])))), (.op (some 13) none (.mv (.s 14)))]
abbrev Q153 : AC := .run [(.op (some 2) none (.mv (.k (.int .i64 14)))), (.op (some 3) none (.mv (.k (.int .i64 3))))]
abbrev Q154 : AC := .seq Q153 .ret
abbrev Q155 : AC := .run [(.op (some 16) none (.bin .eql (.s 8) (.k (.str [33, 61])))), (.op (some 15) none (.mv (.s 16)))]
abbrev Q156 : AC := .run [(.op (some 2) none (.mv (.k (.int .i64 15)))), (.op (some 3) none (.mv (.k (.int .i64 3))))]
abbrev Q157 : AC := .seq Q156 .ret
abbrev Q158 : AC := .run [(.op (some 18) none (.bin .eql (.s 8) (.k (.str [60])))), (.op (some 17) none (.mv (.s 18)))]
abbrev Q159 : AC := .run [(.op (some 2) none (.mv (.k (.int .i64 10)))), (.op (some 3) none (.mv (.k (.int .i64 4))))]
abbrev Q15A : AC := .seq Q159 .ret
abbrev Q15B : AC := .run [(.op (some 20) none (.bin .eql (.s 8) (.k (.str [60, 61])))), (.op (some 19) none (.mv (.s 20)))]
abbrev Q15C : AC := .run [(.op (some 2) none (.mv (.k (.int .i64 11)))), (.op (some 3) none (.mv (.k (.int .i64 4))))]
abbrev Q15D : AC := .seq Q15C .ret
abbrev Q15E : AC := .run [(.op (some 22) none (.bin .eql (.s 8) (.k (.str [62])))), (.op (some 21) none (.mv (.s 22)))]
abbrev Q15F : AC := .run [(.op (some 2) none (.mv (.k (.int .i64 12)))), (.op (some 3) none (.mv (.k (.int .i64 4))))]
abbrev Q15G : AC := .seq Q15F .ret
abbrev Q15H : AC := .run [(.op (some 24) none (.bin .eql (.s 8) (.k (.str [62, 61])))), (.op (some 23) none (.mv (.s 24)))]
abbrev Q15I : AC := .run [(.op (some 2) none (.mv (.k (.int .i64 13)))), (.op (some 3) none (.mv (.k (.int .i64 4))))]
abbrev Q15J : AC := .seq Q15I .ret
abbrev Q15K : AC := .run [(.op (some 26) none (.bin .eql (.s 8) (.k (.str [43])))), (.op (some 25) none (.mv (.s 26)))]
abbrev Q15L : AC := .run [(.op (some 2) none (.mv (.k (.int .i64 8)))), (.op (some 3) none (.mv (.k (.int .i64 5))))]
abbrev Q15M : AC := .seq Q15L .ret
abbrev Q15N : AC := .run [(.op (some 28) none (.bin .eql (.s 8) (.k (.str [45])))), (.op (some 27) none (.mv (.s 28)))]
abbrev Q15O : AC := .run [(.op (some 2) none (.mv (.k (.int .i64 9)))), (.op (some 3) none (.mv (.k (.int .i64 5))))]
abbrev Q15P : AC := .seq Q15O .ret
abbrev Q15Q : AC := .run [(.op (some 30) none (.bin .eql (.s 8) (.k (.str [42])))), (.op (some 29) none (.mv (.s 30)))]
abbrev Q15R : AC := .run [(.op (some 2) none (.mv (.k (.int .i64 5)))), (.op (some 3) none (.mv (.k (.int .i64 6))))]
abbrev Q15S : AC := .seq Q15R .ret
abbrev Q15T : AC := .run [(.op (some 32) none (.bin .eql (.s 8) (.k (.str [47])))), (.op (some 31) none (.mv (.s 32)))]
abbrev Q15U : AC := .run [(.op (some 2) none (.mv (.k (.int .i64 6)))), (.op (some 3) none (.mv (.k (.int .i64 6))))]
abbrev Q15V : AC := .seq Q15U .ret
abbrev Q15W : AC := .run [(.op (some 34) none (.bin .eql (.s 8) (.k (.str [37])))), (.op (some 33) none (.mv (.s 34)))]
abbrev Q15X : AC := .run [(.op (some 2) none (.mv (.k (.int .i64 7)))), (.op (some 3) none (.mv (.k (.int .i64 6))))]
abbrev Q15Y : AC := .seq Q15X .ret
abbrev Q15Z : AC := .cond (.s 33) Q15Y .skip
abbrev Q160 : AC := .seq Q15W Q15Z
abbrev Q161 : AC := .cond (.s 31) Q15V Q160
abbrev Q162 : AC := .seq Q15T Q161
abbrev Q163 : AC := .cond (.s 29) Q15S Q162
abbrev Q164 : AC := .seq Q15Q Q163
abbrev Q165 : AC := .cond (.s 27) Q15P Q164
abbrev Q166 : AC := .seq Q15N Q165
abbrev Q167 : AC := .cond (.s 25) Q15M Q166
abbrev Q168 : AC := .seq Q15K Q167
abbrev Q169 : AC := .cond (.s 23) Q15J Q168
abbrev Q16A : AC := .seq Q15H Q169
abbrev Q16B : AC := .cond (.s 21) Q15G Q16A
abbrev Q16C : AC := .seq Q15E Q16B
abbrev Q16D : AC := .cond (.s 19) Q15D Q16C
abbrev Q16E : AC := .seq Q15B Q16D
abbrev Q16F : AC := .cond (.s 17) Q15A Q16E
abbrev Q16G : AC := .seq Q158 Q16F
abbrev Q16H : AC := .cond (.s 15) Q157 Q16G
abbrev Q16I : AC := .seq Q155 Q16H
abbrev Q16J : AC := .cond (.s 13) Q154 Q16I
abbrev Q16K : AC := .seq Q152 Q16J
abbrev Q16L : AC := .cond (.s 11) Q151 Q16K
abbrev Q16M : AC := .seq Q14Z Q16L
abbrev Q16N : AC := .cond (.s 9) Q14Y Q16M
abbrev Q16O : AC := .seq Q14W Q16N
abbrev Q16P : AC := .block 0 Q16O
abbrev Q16Q : AC := .seq Q14V Q16P
abbrev Q16R : AC := .run [(.op (some 2) none (.mv (.k (.int .i64 0)))), (.op (some 3) none (.mv (.k (.int .i64 0))))]
abbrev Q16S : AC := .seq Q16R .ret
abbrev Q16T : AC := .seq Q16Q Q16S
abbrev Q16U : AC := .seq Q14U Q16T
abbrev Q16V : AC := .seq Q14P Q16U
abbrev Q16W : AC := .run [(.op (some 4) none (.mv (.s 0))), (.op (some 5) none (.mv (.s 1))), (.call (some 6) none n_parse_reader_take [(.s 4), (.s 5)]), (.op (some 7) none (.un .not (.s 6)))]
abbrev Q16X : AC := .run [(.op (some 8) none (.mv (.s 0))), (.call (some 9) none n_parse_reader_bad [(.s 8), (.k (.int .i64 3))])]
abbrev Q16Y : AC := .cond (.s 7) Q16X .skip
abbrev Q16Z : AC := .seq Q16W Q16Y
abbrev Q170 : AC := .run [(.op (some 4) none (.mv (.k (.bool false))))]
abbrev Q171 : AC := .run [(.op (some 5) none (.mv (.s 1))), (.op (some 6) none (.mv (.s 5))), (.op (some 7) (some (6, true)) (.mv (.s 0))), (.call (some 8) (some (6, true)) n_lex_Name [(.s 7)]), (.op (some 9) none (.pick (.s 6) (.s 8) (.k (.bool false)))), (.op (some 10) none (.mv (.s 9))), (.op (some 11) (some (10, false)) (.mv (.s 1))), (.op (some 12) (some (10, false)) (.un .not (.s 11))), (.op (some 13) (some (10, false)) (.mv (.s 12))), (.op (some 14) (some (13, true)) (.mv (.s 0))), (.op (some 15) (some (13, true)) (.bin .eql (.s 14) (.k (.str [])))), (.op (some 16) (some (10, false)) (.pick (.s 13) (.s 15) (.k (.bool false)))), (.op (some 17) none (.pick (.s 10) (.k (.bool true)) (.s 16))), (.op (some 4) none (.mv (.s 17)))]
abbrev Q172 : AC := .seq Q171 .ret
abbrev Q173 : AC := .seq Q170 Q172
abbrev Q174 : AC := .run [(.op (some 2) none (.box (.s 0))), (.op (some 4) none (.mv (.k (.bool false))))]
abbrev Q175 : AC := .run [(.op (some 5) none (.mv (.s 1))), (.op (some 6) none (.mv (.s 5))), (.op (some 7) (some (6, true)) (.load (.s 2) true 4)), (.call (some 8) (some (6, true)) n_tree_MayExpr [(.s 7)]), (.op (some 9) none (.pick (.s 6) (.s 8) (.k (.bool false)))), (.op (some 10) none (.mv (.s 9))), (.op (some 11) (some (10, false)) (.mv (.s 1))), (.op (some 12) (some (10, false)) (.un .not (.s 11))), (.op (some 13) (some (10, false)) (.mv (.s 12))), (.op (some 14) (some (13, true)) (.load (.s 2) true 4)), (.call (some 15) (some (13, true)) n_tree_none [(.s 14)]), (.op (some 16) (some (10, false)) (.pick (.s 13) (.s 15) (.k (.bool false)))), (.op (some 17) none (.pick (.s 10) (.k (.bool true)) (.s 16))), (.op (some 4) none (.mv (.s 17)))]
abbrev Q176 : AC := .seq Q175 .ret
abbrev Q177 : AC := .seq Q174 Q176
abbrev Q178 : AC := .run [(.op (some 2) none (.mv (.k (.bool false))))]
abbrev Q179 : AC := .run [(.op (some 5) none (.mv (.s 0))), (.op (some 6) none (.len (.s 5))), (.op (some 7) none (.mv (.k (.int .i64 0))))]
abbrev Q17A : AC := .run [(.op (some 8) none (.bin .lss (.s 7) (.s 6)))]
abbrev Q17B : AC := .cond (.s 8) .skip (.exit 0)
abbrev Q17C : AC := .run [(.op (some 9) none (.iaddr (.s 5) (.s 7) 6)), (.op (some 10) none (.load (.s 9) true 6)), (.op (some 4) none (.alloc [(.bool false), (.str []), (.int .i64 0), (.int .i64 0), (.str []), (.slice .full 0 [])])), (.op none none (.store (.s 4) (.s 10) 6))]
abbrev Q17D : AC := .run [(.op (some 11) none (.faddr (.s 4) 1)), (.op (some 12) none (.load (.s 11) false 1)), (.op (some 13) none (.faddr (.s 4) 0)), (.op (some 14) none (.load (.s 13) false 1)), (.call (some 15) none n_tree_named [(.s 12), (.s 14)]), (.op (some 16) none (.un .not (.s 15))), (.op (some 17) none (.mv (.s 16))), (.op (some 18) (some (17, false)) (.faddr (.s 4) 2)), (.op (some 19) (some (17, false)) (.load (.s 18) true 4)), (.op (some 20) (some (17, false)) (.faddr (.s 4) 0)), (.op (some 21) (some (17, false)) (.load (.s 20) false 1)), (.op (some 22) (some (17, false)) (.un .not (.s 21))), (.call (some 23) (some (17, false)) n_tree_worth [(.s 19), (.s 22)]), (.op (some 24) (some (17, false)) (.un .not (.s 23))), (.op (some 25) none (.pick (.s 17) (.k (.bool true)) (.s 24)))]
abbrev Q17E : AC := .run [(.op (some 2) none (.mv (.k (.bool false))))]
abbrev Q17F : AC := .seq Q17E .ret
abbrev Q17G : AC := .cond (.s 25) Q17F .skip
abbrev Q17H : AC := .seq Q17D Q17G
abbrev Q17I : AC := .seq Q17C Q17H
abbrev Q17J : AC := .block 1 Q17I
abbrev Q17K : AC := .run [(.op (some 26) none (.bin .add (.s 7) (.k (.int .i64 1)))), (.op (some 7) none (.mv (.s 26)))]
abbrev Q17L : AC := .seq Q17J Q17K
abbrev Q17M : AC := .seq Q17B Q17L
abbrev Q17N : AC := .seq Q17A Q17M
abbrev Q17O : AC := .loop Q17N
abbrev Q17P : AC := .block 0 Q17O
abbrev Q17Q : AC := .seq Q179 Q17P
abbrev Q17R : AC := .run [(.op (some 2) none (.mv (.k (.bool true))))]
abbrev Q17S : AC := .seq Q17R .ret
abbrev Q17T : AC := .seq Q17Q Q17S
abbrev Q17U : AC := .seq Q178 Q17T
abbrev Q17V : AC := .run [(.op (some 1) none (.box (.s 0))), (.op (some 2) none (.mv (.k (.bool false))))]
abbrev Q17W : AC := .run [(.op (some 3) none (.faddr (.s 1) 0)), (.op (some 4) none (.load (.s 3) false 1)), (.op (some 5) none (.bin .eql (.s 4) (.k (.int .i64 0)))), (.op (some 6) none (.mv (.s 5))), (.op (some 7) (some (6, true)) (.faddr (.s 1) 1)), (.op (some 8) (some (6, true)) (.load (.s 7) false 1)), (.op (some 9) (some (6, true)) (.bin .eql (.s 8) (.k (.int .i64 0)))), (.op (some 10) none (.pick (.s 6) (.s 9) (.k (.bool false)))), (.op (some 11) none (.mv (.s 10))), (.op (some 12) (some (11, true)) (.faddr (.s 1) 2)), (.op (some 13) (some (11, true)) (.load (.s 12) false 1)), (.op (some 14) (some (11, true)) (.bin .eql (.s 13) (.k (.str [])))), (.op (some 15) none (.pick (.s 11) (.s 14) (.k (.bool false)))), (.op (some 16) none (.mv (.s 15))), (.op (some 17) (some (16, true)) (.faddr (.s 1) 3)), (.op (some 18) (some (16, true)) (.load (.s 17) false 1)), (.op (some 19) (some (16, true)) (.len (.s 18))), (.op (some 20) (some (16, true)) (.bin .eql (.s 19) (.k (.int .i64 0)))), (.op (some 21) none (.pick (.s 16) (.s 20) (.k (.bool false)))), (.op (some 2) none (.mv (.s 21)))]
abbrev Q17X : AC := .seq Q17W .ret
abbrev Q17Y : AC := .seq Q17V Q17X

end Go.Abs

/-! Have3 -/

namespace Go.Abs
open Go.Proofs

theorem has_ref1_Words : Has Tryd.prog n_ref1_Words 2 [(0, none)] Q13B := ⟨Tryd.f111, by kernel_rfl, by kernel_rfl⟩
theorem has_parse_reader_one : Has Tryd.prog n_parse_reader_one 64 [(2, (some (true, 4)))] Q14O := ⟨Tryd.f113, by kernel_rfl, by kernel_rfl⟩
theorem has_parse_op : Has Tryd.prog n_parse_op 35 [(2, none), (3, none)] Q16V := ⟨Tryd.f114, by kernel_rfl, by kernel_rfl⟩
theorem has_parse_reader_want : Has Tryd.prog n_parse_reader_want 10 [] Q16Z := ⟨Tryd.f116, by kernel_rfl, by kernel_rfl⟩
theorem has_tree_named : Has Tryd.prog n_tree_named 18 [(4, none)] Q173 := ⟨Tryd.f119, by kernel_rfl, by kernel_rfl⟩
theorem has_tree_worth : Has Tryd.prog n_tree_worth 18 [(4, none)] Q177 := ⟨Tryd.f120, by kernel_rfl, by kernel_rfl⟩
theorem has_tree_handed : Has Tryd.prog n_tree_handed 27 [(2, none)] Q17U := ⟨Tryd.f121, by kernel_rfl, by kernel_rfl⟩
theorem has_tree_none : Has Tryd.prog n_tree_none 22 [(2, none)] Q17Y := ⟨Tryd.f130, by kernel_rfl, by kernel_rfl⟩
end Go.Abs

/-! Prs -/

namespace Go.Abs

set_option maxRecDepth 8000
set_option linter.unusedSimpArgs false
set_option linter.unusedVariables false
open Go.Proofs

@[go_sem] def encRd (r : Rd) : List D := [.slice .shared 4 (r.l.map encTok), .int .i64 r.i, .int .i64 r.code, .int .i64 r.fat, .int .i64 r.n]
theorem okRd (r : Rd) : D.oks 0 0 (encRd r) = true := by simp [encRd, D.oks, D.ok, Tag.ok, okrTok]

theorem peek_lt {r : Rd} {t : Tok} (h : r.peek = some t) : r.i < 4611686018427387904 := (peek_get h).1
theorem is_lt {r : Rd} {s : Str} {t : Bool} (h : r.is s = some t) : r.i < 4611686018427387904 := by
  obtain ⟨t, h1, h⟩ := Option.bind_eq_some_iff.1 h
  exact peek_lt h1

-- good
theorem good_0 (l : List Tok) (i c f n : Int) : Fun Tryd.prog n_parse_reader_good [.ptr 0 0] ⟨[[.slice .shared 4 (l.map encTok), .int .i64 i, .int .i64 c, .int .i64 f, .int .i64 n]], []⟩ (.bool (c == 0)) ⟨[[.slice .shared 4 (l.map encTok), .int .i64 i, .int .i64 c, .int .i64 f, .int .i64 n]], []⟩ := by
  refine Fun.go has_parse_reader_good rfl fun B Q hB hQ => ?_
  have hlt : 0 < 1 := Nat.zero_lt_one
  have hget : 0 < 1 := Nat.zero_lt_one
  have hpu : 0 < 1 := Nat.zero_lt_one
  have hinc : 0 < 1 := Nat.zero_lt_one
  repeat' (first
 | simp only [go_sem, hlt, hget, hpu, hinc, Int.reduceLE, ↓reduceIte, reduceCtorEq, Nat.reduceEqDiff, Nat.reduceLeDiff, Nat.reduceAdd, Nat.reduceMul, Nat.reduceSub, Nat.reduceLT, fgrTok]
 | (with_reducible first | refine CB_ofT (by assumption) fun hc => ?_ | refine CB_ofF (by assumption) fun hc => ?_ | refine CB_split (fun hc => ?_) fun hc => ?_) <;> (try simp only [hc, bs, ↓reduceIte] at h) <;> (try simp only [hc])
 | ((with_reducible first | refine leafR hQ ?_ | refine leafN hQ ?_); (try cases h); simp only [resL, oneD, Option.some.injEq, exists_eq_left', go_sem, hlt, hget, hpu, hinc, Int.reduceLE, ↓reduceIte, reduceCtorEq, Nat.reduceEqDiff, Nat.reduceLeDiff, Nat.reduceAdd, Nat.reduceMul, Nat.reduceSub, Nat.reduceLT, fgrTok]; repeat' (first | exact Ok.out | with_reducible refine And.intro ?_ ?_ | (simp; done)))
 | (cases h; replace h := hr; clear hr; (try simp only [bs, ↓reduceIte] at h))
 | (cases h; done))
theorem good_s {l : List Tok} {i c f n : Int} {s : St} {o : Nat} (ho : s.objs[o]? = some [.slice .shared 4 (l.map encTok), .int .i64 i, .int .i64 c, .int .i64 f, .int .i64 n]) : Fun Tryd.prog n_parse_reader_good [.ptr o 0] s (.bool (c == 0)) ⟨s.objs.set o [.slice .shared 4 (l.map encTok), .int .i64 i, .int .i64 c, .int .i64 f, .int .i64 n], s.toks⟩ :=
  have hk : D.oks 0 0 [.slice .shared 4 (l.map encTok), .int .i64 i, .int .i64 c, .int .i64 f, .int .i64 n] = true := by simp [D.oks, D.ok, Tag.ok, okrTok]
  Fun.meth (good_0 l i c f n) rfl hk hk rfl ho
theorem peek_0 {r : Rd} {t : Tok} (h : r.peek = some t) : Fun Tryd.prog n_parse_reader_peek [.ptr 0 0] ⟨[encRd r], []⟩ (.agg (encTok t)) ⟨[encRd r], []⟩ := by
  obtain ⟨h2, h, _, _⟩ := peek_get h
  refine Fun.go has_parse_reader_peek rfl fun B Q hB hQ => ?_
  have hlt : 0 < 1 := Nat.zero_lt_one
  have hget : 0 < 1 := Nat.zero_lt_one
  have hpu : 0 < 1 := Nat.zero_lt_one
  have hinc : 0 < 1 := Nat.zero_lt_one
  repeat' (first
 | simp only [go_sem, hlt, hget, hpu, hinc, Int.reduceLE, ↓reduceIte, reduceCtorEq, Nat.reduceEqDiff, Nat.reduceLeDiff, Nat.reduceAdd, Nat.reduceMul, Nat.reduceSub, Nat.reduceLT, fgrTok, h]
 | (with_reducible first | refine CB_ofT (by assumption) fun hc => ?_ | refine CB_ofF (by assumption) fun hc => ?_ | refine CB_split (fun hc => ?_) fun hc => ?_) <;> (try simp only [hc, bs, ↓reduceIte] at h) <;> (try simp only [hc])
 | ((with_reducible first | refine leafR hQ ?_ | refine leafN hQ ?_); (try cases h); simp only [resL, oneD, Option.some.injEq, exists_eq_left', go_sem, hlt, hget, hpu, hinc, Int.reduceLE, ↓reduceIte, reduceCtorEq, Nat.reduceEqDiff, Nat.reduceLeDiff, Nat.reduceAdd, Nat.reduceMul, Nat.reduceSub, Nat.reduceLT, fgrTok, h]; repeat' (first | exact Ok.out | with_reducible refine And.intro ?_ ?_ | (simp; done)))
 | (cases h; replace h := hr; clear hr; (try simp only [bs, ↓reduceIte] at h))
 | (cases h; done))
theorem peek_s {r : Rd} {t : Tok} (h : r.peek = some t) {s : St} {o : Nat} (ho : s.objs[o]? = some (encRd r)) : Fun Tryd.prog n_parse_reader_peek [.ptr o 0] s (.agg (encTok t)) ⟨s.objs.set o (encRd r), s.toks⟩ :=
  (peek_0 h).meth rfl (okRd r) (okRd r) (okTok t) ho
theorem is_0 {r : Rd} {text : Str} {b : Bool} (h : r.is text = some b) : Fun Tryd.prog n_parse_reader_is [.ptr 0 0, .str text] ⟨[encRd r], []⟩ (.bool b) ⟨[encRd r], []⟩ := by
  unfold Rd.is at h
  refine Fun.go has_parse_reader_is rfl fun B Q hB hQ => ?_
  have hlt : 0 < 1 := Nat.zero_lt_one
  have hget : 0 < 1 := Nat.zero_lt_one
  have hpu : 0 < 1 := Nat.zero_lt_one
  have hinc : 0 < 1 := Nat.zero_lt_one
  repeat' (first
 | simp only [go_sem, hlt, hget, hpu, hinc, Int.reduceLE, ↓reduceIte, reduceCtorEq, Nat.reduceEqDiff, Nat.reduceLeDiff, Nat.reduceAdd, Nat.reduceMul, Nat.reduceSub, Nat.reduceLT, fgrTok]
 | (rw [Option.bind_eq_some_iff] at h; obtain ⟨_, h1, h⟩ := h; first | (with_reducible refine CU (peek_s h1 (by with_unfolding_all rfl)) ?_))
 | (with_reducible first | refine CB_ofT (by assumption) fun hc => ?_ | refine CB_ofF (by assumption) fun hc => ?_ | refine CB_split (fun hc => ?_) fun hc => ?_) <;> (try simp only [hc, bs, ↓reduceIte] at h) <;> (try simp only [hc])
 | ((with_reducible first | refine leafR hQ ?_ | refine leafN hQ ?_); (try cases h); simp only [resL, oneD, Option.some.injEq, exists_eq_left', go_sem, hlt, hget, hpu, hinc, Int.reduceLE, ↓reduceIte, reduceCtorEq, Nat.reduceEqDiff, Nat.reduceLeDiff, Nat.reduceAdd, Nat.reduceMul, Nat.reduceSub, Nat.reduceLT, fgrTok]; repeat' (first | exact Ok.out | with_reducible refine And.intro ?_ ?_ | (simp; done)))
 | (cases h; replace h := hr; clear hr; (try simp only [bs, ↓reduceIte] at h))
 | (cases h; done))
theorem is_s {r : Rd} {text : Str} {b : Bool} (h : r.is text = some b) {s : St} {o : Nat} (ho : s.objs[o]? = some (encRd r)) : Fun Tryd.prog n_parse_reader_is [.ptr o 0, .str text] s (.bool b) ⟨s.objs.set o (encRd r), s.toks⟩ :=
  (is_0 h).meth rfl (okRd r) (okRd r) rfl ho
theorem bad_0 {r r' : Rd} {c : Int} (h : r.bad c = some r') : Fun Tryd.prog n_parse_reader_bad [.ptr 0 0, .int .i64 c] ⟨[encRd r], []⟩ (.tuple []) ⟨[encRd r'], []⟩ := by
  unfold Rd.bad at h
  refine Fun.go has_parse_reader_bad rfl fun B Q hB hQ => ?_
  have hlt : 0 < 1 := Nat.zero_lt_one
  have hget : 0 < 1 := Nat.zero_lt_one
  have hpu : 0 < 1 := Nat.zero_lt_one
  have hinc : 0 < 1 := Nat.zero_lt_one
  repeat' (first
 | simp only [go_sem, hlt, hget, hpu, hinc, Int.reduceLE, ↓reduceIte, reduceCtorEq, Nat.reduceEqDiff, Nat.reduceLeDiff, Nat.reduceAdd, Nat.reduceMul, Nat.reduceSub, Nat.reduceLT, fgrTok]
 | (rw [Option.bind_eq_some_iff] at h; obtain ⟨_, h1, h⟩ := h; first | (with_reducible refine CU (peek_s h1 (by with_unfolding_all rfl)) ?_))
 | (with_reducible refine CU (good_s (by with_unfolding_all rfl)) ?_)
 | (with_reducible first | refine CB_ofT (by assumption) fun hc => ?_ | refine CB_ofF (by assumption) fun hc => ?_ | refine CB_split (fun hc => ?_) fun hc => ?_) <;> (try simp only [hc, bs, ↓reduceIte] at h) <;> (try simp only [hc])
 | ((with_reducible first | refine leafR hQ ?_ | refine leafN hQ ?_); (try cases h); simp only [resL, oneD, Option.some.injEq, exists_eq_left', go_sem, hlt, hget, hpu, hinc, Int.reduceLE, ↓reduceIte, reduceCtorEq, Nat.reduceEqDiff, Nat.reduceLeDiff, Nat.reduceAdd, Nat.reduceMul, Nat.reduceSub, Nat.reduceLT, fgrTok]; repeat' (first | exact Ok.out | with_reducible refine And.intro ?_ ?_ | (simp; done)))
 | (cases h; replace h := hr; clear hr; (try simp only [bs, ↓reduceIte] at h))
 | (cases h; done))
theorem bad_s {r r' : Rd} {c : Int} (h : r.bad c = some r') {s : St} {o : Nat} (ho : s.objs[o]? = some (encRd r)) : Fun Tryd.prog n_parse_reader_bad [.ptr o 0, .int .i64 c] s (.tuple []) ⟨s.objs.set o (encRd r'), s.toks⟩ :=
  (bad_0 h).meth rfl (okRd r) (okRd r') rfl ho
theorem take_0 {r : Rd} {text : Str} {p : Bool × Rd} (h : r.take text = some p) : Fun Tryd.prog n_parse_reader_take [.ptr 0 0, .str text] ⟨[encRd r], []⟩ (.bool p.1) ⟨[encRd p.2], []⟩ := by
  unfold Rd.take at h
  refine Fun.go has_parse_reader_take rfl fun B Q hB hQ => ?_
  have hlt : 0 < 1 := Nat.zero_lt_one
  have hget : 0 < 1 := Nat.zero_lt_one
  have hpu : 0 < 1 := Nat.zero_lt_one
  have hinc : 0 < 1 := Nat.zero_lt_one
  repeat' (first
 | simp only [go_sem, hlt, hget, hpu, hinc, Int.reduceLE, ↓reduceIte, reduceCtorEq, Nat.reduceEqDiff, Nat.reduceLeDiff, Nat.reduceAdd, Nat.reduceMul, Nat.reduceSub, Nat.reduceLT, fgrTok]
 | (rw [Option.bind_eq_some_iff] at h; obtain ⟨_, h1, h⟩ := h; first | (with_reducible refine CU (is_s h1 (by with_unfolding_all rfl)) ?_; have hlt := is_lt h1))
 | (with_reducible refine CU (good_s (by with_unfolding_all rfl)) ?_)
 | (with_reducible first | refine CB_ofT (by assumption) fun hc => ?_ | refine CB_ofF (by assumption) fun hc => ?_ | refine CB_split (fun hc => ?_) fun hc => ?_) <;> (try simp only [hc, bs, ↓reduceIte] at h) <;> (try simp only [hc])
 | ((with_reducible first | refine leafR hQ ?_ | refine leafN hQ ?_); (try cases h); simp only [resL, oneD, Option.some.injEq, exists_eq_left', go_sem, hlt, hget, hpu, hinc, Int.reduceLE, ↓reduceIte, reduceCtorEq, Nat.reduceEqDiff, Nat.reduceLeDiff, Nat.reduceAdd, Nat.reduceMul, Nat.reduceSub, Nat.reduceLT, fgrTok]; repeat' (first | exact Ok.out | with_reducible refine And.intro ?_ ?_ | (simp; done)))
 | (cases h; replace h := hr; clear hr; (try simp only [bs, ↓reduceIte] at h))
 | (cases h; done))
theorem take_s {r : Rd} {text : Str} {p : Bool × Rd} (h : r.take text = some p) {s : St} {o : Nat} (ho : s.objs[o]? = some (encRd r)) : Fun Tryd.prog n_parse_reader_take [.ptr o 0, .str text] s (.bool p.1) ⟨s.objs.set o (encRd p.2), s.toks⟩ :=
  (take_0 h).meth rfl (okRd r) (okRd p.2) rfl ho
theorem want_0 {r r' : Rd} {text : Str} (h : r.want text = some r') : Fun Tryd.prog n_parse_reader_want [.ptr 0 0, .str text] ⟨[encRd r], []⟩ (.tuple []) ⟨[encRd r'], []⟩ := by
  unfold Rd.want at h
  refine Fun.go has_parse_reader_want rfl fun B Q hB hQ => ?_
  have hlt : 0 < 1 := Nat.zero_lt_one
  have hget : 0 < 1 := Nat.zero_lt_one
  have hpu : 0 < 1 := Nat.zero_lt_one
  have hinc : 0 < 1 := Nat.zero_lt_one
  repeat' (first
 | simp only [go_sem, hlt, hget, hpu, hinc, Int.reduceLE, ↓reduceIte, reduceCtorEq, Nat.reduceEqDiff, Nat.reduceLeDiff, Nat.reduceAdd, Nat.reduceMul, Nat.reduceSub, Nat.reduceLT, fgrTok]
 | (rw [Option.bind_eq_some_iff] at h; obtain ⟨_, h1, h⟩ := h; first | (with_reducible refine CU (take_s h1 (by with_unfolding_all rfl)) ?_))
 | (with_reducible refine CU (bad_s h (by with_unfolding_all rfl)) ?_)
 | (with_reducible first | refine CB_ofT (by assumption) fun hc => ?_ | refine CB_ofF (by assumption) fun hc => ?_ | refine CB_split (fun hc => ?_) fun hc => ?_) <;> (try simp only [hc, bs, ↓reduceIte] at h) <;> (try simp only [hc])
 | ((with_reducible first | refine leafR hQ ?_ | refine leafN hQ ?_); (try cases h); simp only [resL, oneD, Option.some.injEq, exists_eq_left', go_sem, hlt, hget, hpu, hinc, Int.reduceLE, ↓reduceIte, reduceCtorEq, Nat.reduceEqDiff, Nat.reduceLeDiff, Nat.reduceAdd, Nat.reduceMul, Nat.reduceSub, Nat.reduceLT, fgrTok]; repeat' (first | exact Ok.out | with_reducible refine And.intro ?_ ?_ | (simp; done)))
 | (cases h; replace h := hr; clear hr; (try simp only [bs, ↓reduceIte] at h))
 | (cases h; done))
theorem want_s {r r' : Rd} {text : Str} (h : r.want text = some r') {s : St} {o : Nat} (ho : s.objs[o]? = some (encRd r)) : Fun Tryd.prog n_parse_reader_want [.ptr o 0, .str text] s (.tuple []) ⟨s.objs.set o (encRd r'), s.toks⟩ :=
  (want_0 h).meth rfl (okRd r) (okRd r') rfl ho
end Go.Abs

/-! Lex1 -/

namespace Go.Abs

set_option maxRecDepth 8000
set_option linter.unusedSimpArgs false
set_option linter.unusedVariables false
open Go.Proofs

theorem letter_s (c : UInt8) (s : St) : Fun Tryd.prog n_lex_letter [.int .u8 (c.toNat : Int)] s (.bool (isL c)) s := by
  refine Fun.pure ?_ rfl rfl s
  generalize h : isL c = b
  unfold isL at h
  unfold S0
  refine Fun.go has_lex_letter rfl fun B Q hB hQ => ?_
  have hlt : 0 < 1 := Nat.zero_lt_one
  have hget : 0 < 1 := Nat.zero_lt_one
  have hpu : 0 < 1 := Nat.zero_lt_one
  have hinc : 0 < 1 := Nat.zero_lt_one
  repeat' (first
 | simp only [go_sem, hlt, hget, hpu, hinc, Int.reduceLE, ↓reduceIte, reduceCtorEq, Nat.reduceEqDiff, Nat.reduceLeDiff, Nat.reduceAdd, Nat.reduceMul, Nat.reduceSub, Nat.reduceLT]
 | (with_reducible first | refine CB_ofT (by assumption) fun hc => ?_ | refine CB_ofF (by assumption) fun hc => ?_ | refine CB_split (fun hc => ?_) fun hc => ?_) <;> (try simp only [hc, bs, ↓reduceIte] at h) <;> (try simp only [hc])
 | ((with_reducible first | refine leafR hQ ?_ | refine leafN hQ ?_); (try cases h); simp only [resL, oneD, Option.some.injEq, exists_eq_left', go_sem, hlt, hget, hpu, hinc, Int.reduceLE, ↓reduceIte, reduceCtorEq, Nat.reduceEqDiff, Nat.reduceLeDiff, Nat.reduceAdd, Nat.reduceMul, Nat.reduceSub, Nat.reduceLT]; repeat' (first | exact Ok.out | with_reducible refine And.intro ?_ ?_ | (simp; done)))
 | (cases h; replace h := hr; clear hr; (try simp only [bs, ↓reduceIte] at h))
 | (cases h; done))

theorem digit_s (c : UInt8) (s : St) : Fun Tryd.prog n_lex_digit [.int .u8 (c.toNat : Int)] s (.bool (isD c)) s := by
  refine Fun.pure ?_ rfl rfl s
  generalize h : isD c = b
  unfold isD at h
  unfold S0
  refine Fun.go has_lex_digit rfl fun B Q hB hQ => ?_
  have hlt : 0 < 1 := Nat.zero_lt_one
  have hget : 0 < 1 := Nat.zero_lt_one
  have hpu : 0 < 1 := Nat.zero_lt_one
  have hinc : 0 < 1 := Nat.zero_lt_one
  repeat' (first
 | simp only [go_sem, hlt, hget, hpu, hinc, Int.reduceLE, ↓reduceIte, reduceCtorEq, Nat.reduceEqDiff, Nat.reduceLeDiff, Nat.reduceAdd, Nat.reduceMul, Nat.reduceSub, Nat.reduceLT]
 | (with_reducible first | refine CB_ofT (by assumption) fun hc => ?_ | refine CB_ofF (by assumption) fun hc => ?_ | refine CB_split (fun hc => ?_) fun hc => ?_) <;> (try simp only [hc, bs, ↓reduceIte] at h) <;> (try simp only [hc])
 | ((with_reducible first | refine leafR hQ ?_ | refine leafN hQ ?_); (try cases h); simp only [resL, oneD, Option.some.injEq, exists_eq_left', go_sem, hlt, hget, hpu, hinc, Int.reduceLE, ↓reduceIte, reduceCtorEq, Nat.reduceEqDiff, Nat.reduceLeDiff, Nat.reduceAdd, Nat.reduceMul, Nat.reduceSub, Nat.reduceLT]; repeat' (first | exact Ok.out | with_reducible refine And.intro ?_ ?_ | (simp; done)))
 | (cases h; replace h := hr; clear hr; (try simp only [bs, ↓reduceIte] at h))
 | (cases h; done))

theorem word_s (t : Str) (s : St) : Fun Tryd.prog n_lex_Word [.str t] s (.bool (isWord t)) s := by
  refine Fun.pure ?_ rfl rfl s
  generalize h : isWord t = b
  unfold isWord at h
  unfold S0
  refine Fun.go has_lex_Word rfl fun B Q hB hQ => ?_
  have hlt : 0 < 1 := Nat.zero_lt_one
  have hget : 0 < 1 := Nat.zero_lt_one
  have hpu : 0 < 1 := Nat.zero_lt_one
  have hinc : 0 < 1 := Nat.zero_lt_one
  repeat' (first
 | simp only [go_sem, hlt, hget, hpu, hinc, Int.reduceLE, ↓reduceIte, reduceCtorEq, Nat.reduceEqDiff, Nat.reduceLeDiff, Nat.reduceAdd, Nat.reduceMul, Nat.reduceSub, Nat.reduceLT]
 | (with_reducible first | refine CB_ofT (by assumption) fun hc => ?_ | refine CB_ofF (by assumption) fun hc => ?_ | refine CB_split (fun hc => ?_) fun hc => ?_) <;> (try simp only [hc, bs, ↓reduceIte] at h) <;> (try simp only [hc])
 | ((with_reducible first | refine leafR hQ ?_ | refine leafN hQ ?_); (try cases h); simp only [resL, oneD, Option.some.injEq, exists_eq_left', go_sem, hlt, hget, hpu, hinc, Int.reduceLE, ↓reduceIte, reduceCtorEq, Nat.reduceEqDiff, Nat.reduceLeDiff, Nat.reduceAdd, Nat.reduceMul, Nat.reduceSub, Nat.reduceLT]; repeat' (first | exact Ok.out | with_reducible refine And.intro ?_ ?_ | (simp; done)))
 | (cases h; replace h := hr; clear hr; (try simp only [bs, ↓reduceIte] at h))
 | (cases h; done))

theorem run_s {text : Str} {pos : Nat} (hl : text.length < 4611686018427387904) (s : St) : Fun Tryd.prog n_lex_run [.str text, .int .i64 (pos : Int)] s (.int .i64 ((pos + runL (text.drop pos) : Nat) : Int)) s := by
  refine Fun.pure ?_ rfl rfl s
  unfold S0
  refine Fun.go has_lex_run rfl fun B Q hB hQ => ?_
  have hlt : 0 < 1 := Nat.zero_lt_one
  have hget : 0 < 1 := Nat.zero_lt_one
  have hpu : 0 < 1 := Nat.zero_lt_one
  have hinc : 0 < 1 := Nat.zero_lt_one
  repeat' (first
 | simp only [go_sem, hlt, hget, hpu, hinc, Int.reduceLE, ↓reduceIte, reduceCtorEq, Nat.reduceEqDiff, Nat.reduceLeDiff, Nat.reduceAdd, Nat.reduceMul, Nat.reduceSub, Nat.reduceLT]
 | (with_reducible first | refine CB_ofT (by assumption) fun hc => ?_ | refine CB_ofF (by assumption) fun hc => ?_ | refine CB_split (fun hc => ?_) fun hc => ?_) <;> (try simp only [hc, bs, ↓reduceIte] at h) <;> (try simp only [hc])
 | ((with_reducible first | refine leafR hQ ?_ | refine leafN hQ ?_); (try cases h); simp only [resL, oneD, Option.some.injEq, exists_eq_left', go_sem, hlt, hget, hpu, hinc, Int.reduceLE, ↓reduceIte, reduceCtorEq, Nat.reduceEqDiff, Nat.reduceLeDiff, Nat.reduceAdd, Nat.reduceMul, Nat.reduceSub, Nat.reduceLT]; repeat' (first | exact Ok.out | with_reducible refine And.intro ?_ ?_ | (simp; done)))
 | (cases h; replace h := hr; clear hr; (try simp only [bs, ↓reduceIte] at h))
 | (cases h; done))
  refine SemL.re _ _ 0 0 (by rw [hB]; exact Nat.le_of_ble_eq_true rfl) (by rw [hB]; exact Nat.le_of_ble_eq_true rfl) ?_ ?_ (SemL.ind (ι := Str × Nat) (fun i => text.drop i.2 = i.1 ∧ i.2 + runL i.1 = pos + runL (text.drop pos)) (fun i => i.1.length)
    (fun i => [(0, .str text), (1, .int .i64 (i.2 : Int))]) (fun i => ⟨[], []⟩) ?_ (text.drop pos, pos) ⟨rfl, rfl⟩)
  · (simp only [go_sem, hlt, hget, hpu, hinc, Int.reduceLE, ↓reduceIte, reduceCtorEq, Nat.reduceEqDiff, Nat.reduceLeDiff, Nat.reduceAdd, Nat.reduceMul, Nat.reduceSub, Nat.reduceLT]; repeat' (first | exact Ok.out | with_reducible refine And.intro ?_ ?_))
  · (simp only [go_sem, hlt, hget, hpu, hinc, Int.reduceLE, ↓reduceIte, reduceCtorEq, Nat.reduceEqDiff, Nat.reduceLeDiff, Nat.reduceAdd, Nat.reduceMul, Nat.reduceSub, Nat.reduceLT]; repeat' (first | exact Ok.out | with_reducible refine And.intro ?_ ?_))
  rintro ⟨rest, k⟩ ⟨h1, h2⟩ IH
  dsimp only at h1 h2
  cases rest with
  | nil =>
    have hlt := drop_nil h1
    simp only [runL, Nat.add_zero] at h2
    rw [← h2] at hQ
    repeat' (first
 | simp only [go_sem, hlt, hget, hpu, hinc, Int.reduceLE, ↓reduceIte, reduceCtorEq, Nat.reduceEqDiff, Nat.reduceLeDiff, Nat.reduceAdd, Nat.reduceMul, Nat.reduceSub, Nat.reduceLT]
 | (with_reducible first | refine CB_ofT (by assumption) fun hc => ?_ | refine CB_ofF (by assumption) fun hc => ?_ | refine CB_split (fun hc => ?_) fun hc => ?_) <;> (try simp only [hc, bs, ↓reduceIte] at h) <;> (try simp only [hc])
 | ((with_reducible first | refine leafR hQ ?_ | refine leafN hQ ?_); (try cases h); simp only [resL, oneD, Option.some.injEq, exists_eq_left', go_sem, hlt, hget, hpu, hinc, Int.reduceLE, ↓reduceIte, reduceCtorEq, Nat.reduceEqDiff, Nat.reduceLeDiff, Nat.reduceAdd, Nat.reduceMul, Nat.reduceSub, Nat.reduceLT]; repeat' (first | exact Ok.out | with_reducible refine And.intro ?_ ?_ | (simp; done)))
 | (cases h; replace h := hr; clear hr; (try simp only [bs, ↓reduceIte] at h))
 | (cases h; done))
  | cons c rest =>
    obtain ⟨hget, g2, hlt, g4⟩ := drop_cons h1
    have hpu : k < 4611686018427387904 := by omega
    cases hb : (isL c || isD c)
    · simp only [runL, hb, Bool.false_eq_true, ↓reduceIte, Nat.add_zero] at h2
      rw [← h2] at hQ
      simp only [Bool.or_eq_false_iff] at hb
      repeat' (first
 | simp only [go_sem, hlt, hget, hpu, hinc, Int.reduceLE, ↓reduceIte, reduceCtorEq, Nat.reduceEqDiff, Nat.reduceLeDiff, Nat.reduceAdd, Nat.reduceMul, Nat.reduceSub, Nat.reduceLT, hb.1, hb.2]
 | (with_reducible refine CU (letter_s _ _) ?_)
 | (with_reducible refine CU (digit_s _ _) ?_)
 | (with_reducible first | refine CB_ofT (by assumption) fun hc => ?_ | refine CB_ofF (by assumption) fun hc => ?_ | refine CB_split (fun hc => ?_) fun hc => ?_) <;> (try simp only [hc, bs, ↓reduceIte] at h) <;> (try simp only [hc])
 | ((with_reducible first | refine leafR hQ ?_ | refine leafN hQ ?_); (try cases h); simp only [resL, oneD, Option.some.injEq, exists_eq_left', go_sem, hlt, hget, hpu, hinc, Int.reduceLE, ↓reduceIte, reduceCtorEq, Nat.reduceEqDiff, Nat.reduceLeDiff, Nat.reduceAdd, Nat.reduceMul, Nat.reduceSub, Nat.reduceLT, hb.1, hb.2]; repeat' (first | exact Ok.out | with_reducible refine And.intro ?_ ?_ | (simp; done)))
 | (cases h; replace h := hr; clear hr; (try simp only [bs, ↓reduceIte] at h))
 | (cases h; done))
    · simp only [runL, hb, ↓reduceIte] at h2
      cases hb1 : isL c
      · rw [hb1, Bool.false_or] at hb
        repeat' (first
 | simp only [go_sem, hlt, hget, hpu, hinc, Int.reduceLE, ↓reduceIte, reduceCtorEq, Nat.reduceEqDiff, Nat.reduceLeDiff, Nat.reduceAdd, Nat.reduceMul, Nat.reduceSub, Nat.reduceLT, hb, hb1]
 | (with_reducible refine CU (letter_s _ _) ?_)
 | (with_reducible refine CU (digit_s _ _) ?_)
 | (with_reducible first | refine CB_ofT (by assumption) fun hc => ?_ | refine CB_ofF (by assumption) fun hc => ?_ | refine CB_split (fun hc => ?_) fun hc => ?_) <;> (try simp only [hc, bs, ↓reduceIte] at h) <;> (try simp only [hc])
 | ((with_reducible first | refine leafR hQ ?_ | refine leafN hQ ?_); (try cases h); simp only [resL, oneD, Option.some.injEq, exists_eq_left', go_sem, hlt, hget, hpu, hinc, Int.reduceLE, ↓reduceIte, reduceCtorEq, Nat.reduceEqDiff, Nat.reduceLeDiff, Nat.reduceAdd, Nat.reduceMul, Nat.reduceSub, Nat.reduceLT, hb, hb1]; repeat' (first | exact Ok.out | with_reducible refine And.intro ?_ ?_ | (simp; done)))
 | (cases h; replace h := hr; clear hr; (try simp only [bs, ↓reduceIte] at h))
 | (cases h; done))
        refine SemL.re _ _ 0 0 (by rw [hB]; exact Nat.le_of_ble_eq_true rfl) (by rw [hB]; exact Nat.le_of_ble_eq_true rfl) ?_ ?_ (IH (rest, k + 1) ⟨g2, by dsimp only; omega⟩ (Nat.lt_succ_self _))
        · (simp only [go_sem, hlt, hget, hpu, hinc, Int.reduceLE, ↓reduceIte, reduceCtorEq, Nat.reduceEqDiff, Nat.reduceLeDiff, Nat.reduceAdd, Nat.reduceMul, Nat.reduceSub, Nat.reduceLT]; repeat' (first | exact Ok.out | with_reducible refine And.intro ?_ ?_))
        · (simp only [go_sem, hlt, hget, hpu, hinc, Int.reduceLE, ↓reduceIte, reduceCtorEq, Nat.reduceEqDiff, Nat.reduceLeDiff, Nat.reduceAdd, Nat.reduceMul, Nat.reduceSub, Nat.reduceLT]; repeat' (first | exact Ok.out | with_reducible refine And.intro ?_ ?_))
      · repeat' (first
 | simp only [go_sem, hlt, hget, hpu, hinc, Int.reduceLE, ↓reduceIte, reduceCtorEq, Nat.reduceEqDiff, Nat.reduceLeDiff, Nat.reduceAdd, Nat.reduceMul, Nat.reduceSub, Nat.reduceLT, hb1]
 | (with_reducible refine CU (letter_s _ _) ?_)
 | (with_reducible refine CU (digit_s _ _) ?_)
 | (with_reducible first | refine CB_ofT (by assumption) fun hc => ?_ | refine CB_ofF (by assumption) fun hc => ?_ | refine CB_split (fun hc => ?_) fun hc => ?_) <;> (try simp only [hc, bs, ↓reduceIte] at h) <;> (try simp only [hc])
 | ((with_reducible first | refine leafR hQ ?_ | refine leafN hQ ?_); (try cases h); simp only [resL, oneD, Option.some.injEq, exists_eq_left', go_sem, hlt, hget, hpu, hinc, Int.reduceLE, ↓reduceIte, reduceCtorEq, Nat.reduceEqDiff, Nat.reduceLeDiff, Nat.reduceAdd, Nat.reduceMul, Nat.reduceSub, Nat.reduceLT, hb1]; repeat' (first | exact Ok.out | with_reducible refine And.intro ?_ ?_ | (simp; done)))
 | (cases h; replace h := hr; clear hr; (try simp only [bs, ↓reduceIte] at h))
 | (cases h; done))
        refine SemL.re _ _ 0 0 (by rw [hB]; exact Nat.le_of_ble_eq_true rfl) (by rw [hB]; exact Nat.le_of_ble_eq_true rfl) ?_ ?_ (IH (rest, k + 1) ⟨g2, by dsimp only; omega⟩ (Nat.lt_succ_self _))
        · (simp only [go_sem, hlt, hget, hpu, hinc, Int.reduceLE, ↓reduceIte, reduceCtorEq, Nat.reduceEqDiff, Nat.reduceLeDiff, Nat.reduceAdd, Nat.reduceMul, Nat.reduceSub, Nat.reduceLT]; repeat' (first | exact Ok.out | with_reducible refine And.intro ?_ ?_))
        · (simp only [go_sem, hlt, hget, hpu, hinc, Int.reduceLE, ↓reduceIte, reduceCtorEq, Nat.reduceEqDiff, Nat.reduceLeDiff, Nat.reduceAdd, Nat.reduceMul, Nat.reduceSub, Nat.reduceLT]; repeat' (first | exact Ok.out | with_reducible refine And.intro ?_ ?_))

theorem slice_at (text : Str) (a b : Nat) : (text.take (a + b)).drop a = (text.drop a).take b := by rw [List.drop_take]; congr 1; omega

set_option maxRecDepth 20000 in
theorem sign_s {text : Str} {pos : Nat} {c : UInt8} {r : Str} (hd : text.drop pos = c :: r) (hl : text.length < 4611686018427387904) (s : St) :
    Fun Tryd.prog n_lex_sign [.str text, .int .i64 (pos : Int)] s (.int .i64 ((signL (c :: r) : Nat) : Int)) s := by
  refine Fun.pure ?_ rfl rfl s
  obtain ⟨hget, g2, g3, g4⟩ := drop_cons hd
  have hpu : pos < 4611686018427387904 := by omega
  have hinc : 0 < 1 := Nat.zero_lt_one
  generalize h : signL (c :: r) = k
  unfold S0
  cases r with
  | nil =>
    have hlt : decide (((pos + 1 : Nat) : Int) < (text.length : Int)) = false := drop_nil g2
    simp only [signL, sign1] at h
    refine Fun.go has_lex_sign rfl fun B Q hB hQ => ?_
    repeat' (first
 | simp only [go_sem, hlt, hget, hpu, hinc, Int.reduceLE, ↓reduceIte, reduceCtorEq, Nat.reduceEqDiff, Nat.reduceLeDiff, Nat.reduceAdd, Nat.reduceMul, Nat.reduceSub, Nat.reduceLT]
 | (with_reducible first | refine CB_ofT (by assumption) fun hc => ?_ | refine CB_ofF (by assumption) fun hc => ?_ | refine CB_split (fun hc => ?_) fun hc => ?_) <;> (try simp only [hc, bs, ↓reduceIte] at h) <;> (try simp only [hc])
 | ((with_reducible first | refine leafR hQ ?_ | refine leafN hQ ?_); (try cases h); simp only [resL, oneD, Option.some.injEq, exists_eq_left', go_sem, hlt, hget, hpu, hinc, Int.reduceLE, ↓reduceIte, reduceCtorEq, Nat.reduceEqDiff, Nat.reduceLeDiff, Nat.reduceAdd, Nat.reduceMul, Nat.reduceSub, Nat.reduceLT]; repeat' (first | exact Ok.out | with_reducible refine And.intro ?_ ?_ | (simp; done)))
 | (cases h; replace h := hr; clear hr; (try simp only [bs, ↓reduceIte] at h))
 | (cases h; done))
  | cons d r =>
    obtain ⟨_, _, hlt, _⟩ := drop_cons g2
    have e1 : (text.take (pos + 2)).drop pos = [c, d] := by rw [slice_at, hd]; rfl
    have e2 : (0 : Int) ≤ (pos : Int) ∧ (pos : Int) ≤ ((pos + 2 : Nat) : Int) ∧ ((pos + 2 : Nat) : Int) ≤ (text.length : Int) := by omega
    simp only [signL, sign1, sign2] at h
    refine Fun.go has_lex_sign rfl fun B Q hB hQ => ?_
    repeat' (first
 | simp only [go_sem, hlt, hget, hpu, hinc, Int.reduceLE, ↓reduceIte, reduceCtorEq, Nat.reduceEqDiff, Nat.reduceLeDiff, Nat.reduceAdd, Nat.reduceMul, Nat.reduceSub, Nat.reduceLT, e1, e2]
 | (with_reducible first | refine CB_ofT (by assumption) fun hc => ?_ | refine CB_ofF (by assumption) fun hc => ?_ | refine CB_split (fun hc => ?_) fun hc => ?_) <;> (try simp only [hc, bs, ↓reduceIte] at h) <;> (try simp only [hc])
 | ((with_reducible first | refine leafR hQ ?_ | refine leafN hQ ?_); (try cases h); simp only [resL, oneD, Option.some.injEq, exists_eq_left', go_sem, hlt, hget, hpu, hinc, Int.reduceLE, ↓reduceIte, reduceCtorEq, Nat.reduceEqDiff, Nat.reduceLeDiff, Nat.reduceAdd, Nat.reduceMul, Nat.reduceSub, Nat.reduceLT, e1, e2]; repeat' (first | exact Ok.out | with_reducible refine And.intro ?_ ?_ | (simp; done)))
 | (cases h; replace h := hr; clear hr; (try simp only [bs, ↓reduceIte] at h))
 | (cases h; done))

theorem isD_range {c : UInt8} (h : isD c = true) : 48 ≤ (c.toNat : Int) ∧ (c.toNat : Int) ≤ 57 := by
  simp only [isD, Bool.and_eq_true, decide_eq_true_eq] at h
  omega

/-- What a text of digits is worth. -/
def worthP (s : Str) : Int × Bool := match worth 0 s with | some n => (n, true) | none => (0, false)

theorem number_s {text : Str} (hd : ∀ c ∈ text, isD c = true) (hl : text.length < 4611686018427387904) (s : St) :
    Fun Tryd.prog n_lex_number [.str text] s (.tuple [.int .i64 (worthP text).1, .bool (worthP text).2]) s := by
  refine Fun.pure ?_ rfl rfl s
  generalize hw : worthP text = p
  unfold S0
  refine Fun.go has_lex_number rfl fun B Q hB hQ => ?_
  have hlt : 0 < 1 := Nat.zero_lt_one
  have hget : 0 < 1 := Nat.zero_lt_one
  have hpu : 0 < 1 := Nat.zero_lt_one
  have hinc : 0 < 1 := Nat.zero_lt_one
  repeat' (first
 | simp only [go_sem, hlt, hget, hpu, hinc, Int.reduceLE, ↓reduceIte, reduceCtorEq, Nat.reduceEqDiff, Nat.reduceLeDiff, Nat.reduceAdd, Nat.reduceMul, Nat.reduceSub, Nat.reduceLT]
 | (with_reducible first | refine CB_ofT (by assumption) fun hc => ?_ | refine CB_ofF (by assumption) fun hc => ?_ | refine CB_split (fun hc => ?_) fun hc => ?_) <;> (try simp only [hc, bs, ↓reduceIte] at h) <;> (try simp only [hc])
 | ((with_reducible first | refine leafR hQ ?_ | refine leafN hQ ?_); (try cases h); simp only [resL, oneD, Option.some.injEq, exists_eq_left', go_sem, hlt, hget, hpu, hinc, Int.reduceLE, ↓reduceIte, reduceCtorEq, Nat.reduceEqDiff, Nat.reduceLeDiff, Nat.reduceAdd, Nat.reduceMul, Nat.reduceSub, Nat.reduceLT]; repeat' (first | exact Ok.out | with_reducible refine And.intro ?_ ?_ | (simp; done)))
 | (cases h; replace h := hr; clear hr; (try simp only [bs, ↓reduceIte] at h))
 | (cases h; done))
  refine SemL.re _ _ 0 0 (by rw [hB]; exact Nat.le_of_ble_eq_true rfl) (by rw [hB]; exact Nat.le_of_ble_eq_true rfl) ?_ ?_ (SemL.ind (ι := Str × Nat × Int) (fun i => text.drop i.2.1 = i.1 ∧ 0 ≤ i.2.2 ∧ i.2.2 ≤ 9223372036854775807 ∧ (match worth i.2.2 i.1 with | some n => (n, true) | none => (0, false)) = p) (fun i => i.1.length)
    (fun i => [(0, .str text), (4, .int .i64 i.2.2), (5, .int .i64 (i.2.1 : Int))]) (fun i => ⟨[], []⟩) ?_ (text, 0, 0) ⟨rfl, Int.le_refl 0, by dsimp only; omega, hw⟩)
  · (simp only [go_sem, hlt, hget, hpu, hinc, Int.reduceLE, ↓reduceIte, reduceCtorEq, Nat.reduceEqDiff, Nat.reduceLeDiff, Nat.reduceAdd, Nat.reduceMul, Nat.reduceSub, Nat.reduceLT]; repeat' (first | exact Ok.out | with_reducible refine And.intro ?_ ?_))
  · (simp only [go_sem, hlt, hget, hpu, hinc, Int.reduceLE, ↓reduceIte, reduceCtorEq, Nat.reduceEqDiff, Nat.reduceLeDiff, Nat.reduceAdd, Nat.reduceMul, Nat.reduceSub, Nat.reduceLT]; repeat' (first | exact Ok.out | with_reducible refine And.intro ?_ ?_))
  rintro ⟨rest, k, n⟩ ⟨h1, h2, h3, h⟩ IH
  dsimp only at h1 h2 h3 h
  cases rest with
  | nil =>
    have hlt := drop_nil h1
    simp only [worth] at h
    repeat' (first
 | simp only [go_sem, hlt, hget, hpu, hinc, Int.reduceLE, ↓reduceIte, reduceCtorEq, Nat.reduceEqDiff, Nat.reduceLeDiff, Nat.reduceAdd, Nat.reduceMul, Nat.reduceSub, Nat.reduceLT]
 | (with_reducible first | refine CB_ofT (by assumption) fun hc => ?_ | refine CB_ofF (by assumption) fun hc => ?_ | refine CB_split (fun hc => ?_) fun hc => ?_) <;> (try simp only [hc, bs, ↓reduceIte] at h) <;> (try simp only [hc])
 | ((with_reducible first | refine leafR hQ ?_ | refine leafN hQ ?_); (try cases h); simp only [resL, oneD, Option.some.injEq, exists_eq_left', go_sem, hlt, hget, hpu, hinc, Int.reduceLE, ↓reduceIte, reduceCtorEq, Nat.reduceEqDiff, Nat.reduceLeDiff, Nat.reduceAdd, Nat.reduceMul, Nat.reduceSub, Nat.reduceLT]; repeat' (first | exact Ok.out | with_reducible refine And.intro ?_ ?_ | (simp; done)))
 | (cases h; replace h := hr; clear hr; (try simp only [bs, ↓reduceIte] at h))
 | (cases h; done))
  | cons c rest =>
    obtain ⟨hget, g2, hlt, g4⟩ := drop_cons h1
    have hpu : k < 4611686018427387904 := by omega
    have hc := isD_range (hd c (List.mem_of_getElem? hget))
    have w1 : IntKind.wrap .u8 ((c.toNat : Int) - 48) = (c.toNat : Int) - 48 := by rw [IntKind.wrap_u8]; omega
    have w2 : IntKind.wrap .i64 ((c.toNat : Int) - 48) = (c.toNat : Int) - 48 := wrap_ok (by omega) (by omega)
    have w3 : IntKind.wrap .i64 (9223372036854775807 - ((c.toNat : Int) - 48)) = 9223372036854775807 - ((c.toNat : Int) - 48) := wrap_ok (by omega) (by omega)
    have w4 : IntKind.wrap .i64 ((9223372036854775807 - ((c.toNat : Int) - 48)).tdiv 10) = (9223372036854775807 - ((c.toNat : Int) - 48)) / 10 := by
      rw [Int.tdiv_eq_ediv_of_nonneg (by omega)]; exact wrap_ok (by omega) (by omega)
    have t10 : ((10 : Int) = 0) = False := by simp
    simp only [worth] at h
    by_cases hn : n > (9223372036854775807 - ((c.toNat : Int) - 48)) / 10
    · have hn' : decide (n > (9223372036854775807 - ((c.toNat : Int) - 48)) / 10) = true := by simpa using hn
      rw [if_pos hn] at h
      repeat' (first
 | simp only [go_sem, hlt, hget, hpu, hinc, Int.reduceLE, ↓reduceIte, reduceCtorEq, Nat.reduceEqDiff, Nat.reduceLeDiff, Nat.reduceAdd, Nat.reduceMul, Nat.reduceSub, Nat.reduceLT, w1, w2, w3, w4, t10, hn']
 | (with_reducible first | refine CB_ofT (by assumption) fun hc => ?_ | refine CB_ofF (by assumption) fun hc => ?_ | refine CB_split (fun hc => ?_) fun hc => ?_) <;> (try simp only [hc, bs, ↓reduceIte] at h) <;> (try simp only [hc])
 | ((with_reducible first | refine leafR hQ ?_ | refine leafN hQ ?_); (try cases h); simp only [resL, oneD, Option.some.injEq, exists_eq_left', go_sem, hlt, hget, hpu, hinc, Int.reduceLE, ↓reduceIte, reduceCtorEq, Nat.reduceEqDiff, Nat.reduceLeDiff, Nat.reduceAdd, Nat.reduceMul, Nat.reduceSub, Nat.reduceLT, w1, w2, w3, w4, t10, hn']; repeat' (first | exact Ok.out | with_reducible refine And.intro ?_ ?_ | (simp; done)))
 | (cases h; replace h := hr; clear hr; (try simp only [bs, ↓reduceIte] at h))
 | (cases h; done))
    · have hn' : decide (n > (9223372036854775807 - ((c.toNat : Int) - 48)) / 10) = false := by simpa using hn
      rw [if_neg hn] at h
      have w5 : IntKind.wrap .i64 (n * 10) = n * 10 := wrap_ok (by omega) (by omega)
      have w6 : IntKind.wrap .i64 (n * 10 + ((c.toNat : Int) - 48)) = n * 10 + ((c.toNat : Int) - 48) := wrap_ok (by omega) (by omega)
      repeat' (first
 | simp only [go_sem, hlt, hget, hpu, hinc, Int.reduceLE, ↓reduceIte, reduceCtorEq, Nat.reduceEqDiff, Nat.reduceLeDiff, Nat.reduceAdd, Nat.reduceMul, Nat.reduceSub, Nat.reduceLT, w1, w2, w3, w4, t10, hn', w5, w6]
 | (with_reducible first | refine CB_ofT (by assumption) fun hc => ?_ | refine CB_ofF (by assumption) fun hc => ?_ | refine CB_split (fun hc => ?_) fun hc => ?_) <;> (try simp only [hc, bs, ↓reduceIte] at h) <;> (try simp only [hc])
 | ((with_reducible first | refine leafR hQ ?_ | refine leafN hQ ?_); (try cases h); simp only [resL, oneD, Option.some.injEq, exists_eq_left', go_sem, hlt, hget, hpu, hinc, Int.reduceLE, ↓reduceIte, reduceCtorEq, Nat.reduceEqDiff, Nat.reduceLeDiff, Nat.reduceAdd, Nat.reduceMul, Nat.reduceSub, Nat.reduceLT, w1, w2, w3, w4, t10, hn', w5, w6]; repeat' (first | exact Ok.out | with_reducible refine And.intro ?_ ?_ | (simp; done)))
 | (cases h; replace h := hr; clear hr; (try simp only [bs, ↓reduceIte] at h))
 | (cases h; done))
      refine SemL.re _ _ 0 0 (by rw [hB]; exact Nat.le_of_ble_eq_true rfl) (by rw [hB]; exact Nat.le_of_ble_eq_true rfl) ?_ ?_ (IH (rest, k + 1, n * 10 + ((c.toNat : Int) - 48)) ⟨g2, by dsimp only; omega, by dsimp only; omega, h⟩ (Nat.lt_succ_self _))
      · (simp only [go_sem, hlt, hget, hpu, hinc, Int.reduceLE, ↓reduceIte, reduceCtorEq, Nat.reduceEqDiff, Nat.reduceLeDiff, Nat.reduceAdd, Nat.reduceMul, Nat.reduceSub, Nat.reduceLT]; repeat' (first | exact Ok.out | with_reducible refine And.intro ?_ ?_))
      · (simp only [go_sem, hlt, hget, hpu, hinc, Int.reduceLE, ↓reduceIte, reduceCtorEq, Nat.reduceEqDiff, Nat.reduceLeDiff, Nat.reduceAdd, Nat.reduceMul, Nat.reduceSub, Nat.reduceLT]; repeat' (first | exact Ok.out | with_reducible refine And.intro ?_ ?_))

end Go.Abs

/-! Lex2 -/

namespace Go.Abs

set_option maxRecDepth 8000
set_option linter.unusedSimpArgs false
set_option linter.unusedVariables false
open Go.Proofs

theorem runL_pos {c : UInt8} {r : Str} (h : isL c = true) : 0 < runL (c :: r) := by simp [runL, h]
theorem runL_len : ∀ s : Str, runL s ≤ s.length
  | [] => Nat.le_refl _
  | c :: r => by simp only [runL]; split <;> simp only [List.length_cons] <;> have := runL_len r <;> omega
theorem runD_len : ∀ s : Str, runD s ≤ s.length
  | [] => Nat.le_refl _
  | c :: r => by simp only [runD]; split <;> simp only [List.length_cons] <;> have := runD_len r <;> omega
theorem lineL_len : ∀ s : Str, lineL s ≤ s.length
  | [] => Nat.le_refl _
  | c :: r => by simp only [lineL]; split <;> simp only [List.length_cons] <;> have := lineL_len r <;> omega
theorem signL_len : ∀ s : Str, signL s ≤ s.length
  | [] => Nat.le_refl _
  | [c] => by simp only [signL]; split <;> simp
  | c :: d :: r => by simp only [signL]; (repeat' split) <;> simp
theorem runD_all : ∀ (s : Str), ∀ c ∈ s.take (runD s), isD c = true
  | [], c, h => by simp [runD] at h
  | d :: r, c, h => by
    simp only [runD] at h
    split at h
    · rw [List.take_succ_cons] at h
      rcases List.mem_cons.1 h with rfl | h
      · assumption
      · exact runD_all r c h
    · simp at h

def encF (f : Int × Int) : List D := [.int .i64 f.1, .int .i64 f.2]

/-- At the label ahead of the next token. -/
def lexTM (text : Str) (out : List Tok) (pos : Nat) : Tm := [(0, .str text), (3, .ptr 0 0), (4, .slice (.tok 0) 4 (out.map encTok)), (5, .ptr 1 0), (6, .int .i64 (pos : Int))]
def lexST (out : List Tok) : St := ⟨[[.int .i64 0, .int .i64 0], [.junk, .junk, .junk, .junk]], [some out.length]⟩

theorem lineL_pos {c : UInt8} {r : Str} (h : ((c.toNat : Int) == 35) = true) : 0 < lineL (c :: r) := by
  have : ((c.toNat : Int) != 10) = true := by simp only [beq_iff_eq] at h; simp [h]
  simp [lineL, this]

/-- On to the next token. -/
def LexGo (text : Str) (B : Base) (Q : Exit → Tm → St → Prop) (p : List Tok × Int × Int) (N : Nat) : Prop :=
  ∀ (n pos : Nat) (rest : Str) (out : List Tok), text.drop pos = rest → lexF n pos rest out = p → rest.length < n → out.length ≤ 2000 → pos ≤ text.length → n < N →
    SemS Tryd.prog B 152 QJ4 (.seq .skip QIZ) Q (lexTM text out pos) (lexST out)

theorem LexGo.to {text : Str} {B : Base} {Q : Exit → Tm → St → Prop} {p : List Tok × Int × Int} {N : Nat} (hB : B.s = S0) (IH : LexGo text B Q p N) {n pos : Nat} {rest : Str} {out : List Tok} {tm : Tm} {s : St}
    (h1 : text.drop pos = rest) (h : lexF n pos rest out = p) (h2 : rest.length < n) (h3 : out.length ≤ 2000) (h4 : pos ≤ text.length) (h5 : n < N)
    (ht : TmW tm 2 1 (lexTM text out pos)) (ho : WkR (s.cut 2 1).objs (lexST out).objs) (hk : (s.cut 2 1).toks = (lexST out).toks) :
    jumpA Tryd.prog B 152 QJ4 Q (.goto 0) tm s := by
  refine jumpA_to (l := 0) (r := .seq .skip QIZ) rfl (SemS.re _ _ 2 1 (by rw [hB]; exact Nat.le_of_ble_eq_true rfl) (by rw [hB]; exact Nat.le_of_ble_eq_true rfl) ht ho ?_)
  have := IH n pos rest out h1 h h2 h3 h4 h5
  rw [hk]
  exact this

attribute [go_sem] lexTM lexST encF
theorem lex_nil {text : Str} (hl : text.length ≤ 100000) {B : Base} {Q : Exit → Tm → St → Prop} {p : List Tok × Int × Int} (hB : B.s = S0)
    (hQ : retF 0 0 [(2, none), (3, some (true, 2))] (.tuple [.slice .shared 4 (p.1.map encTok), .agg (encF p.2)]) ⟨[], []⟩ = Q)
    {n pos : Nat} {out : List Tok} (ho : out.length ≤ 2000) (hp : pos ≤ text.length) (IH : LexGo text B Q p (n + 1))
    (h1 : text.drop pos = []) (h : lexF (n + 1) pos [] out = p) : wpC Tryd.prog B 152 QIZ (jumpA Tryd.prog B 152 QJ4 Q) (lexTM text out pos) (lexST out) := by
  have hlt : 0 < 1 := Nat.zero_lt_one
  have hget : 0 < 1 := Nat.zero_lt_one
  have hpu : 0 < 1 := Nat.zero_lt_one
  have hinc : 0 < 1 := Nat.zero_lt_one
  have hroom : (out.length + 1) * 41 ≤ maxStr := by simp only [maxStr]; omega
  have hge : decide ((pos : Int) ≥ (text.length : Int)) = true := by have := List.drop_eq_nil_iff.1 h1; simp; omega
  have : pos = text.length := by have := List.drop_eq_nil_iff.1 h1; omega
  subst this
  simp only [lexF] at h
  repeat' (first
 | simp only [go_sem, hlt, hget, hpu, hinc, Int.reduceLE, ↓reduceIte, reduceCtorEq, Nat.reduceEqDiff, Nat.reduceLeDiff, Nat.reduceAdd, Nat.reduceMul, Nat.reduceSub, Nat.reduceLT, hge, hroom]
 | (with_reducible first | refine CB_ofT (by assumption) fun hc => ?_ | refine CB_ofF (by assumption) fun hc => ?_ | refine CB_split (fun hc => ?_) fun hc => ?_) <;> (try simp only [hc, bs, ↓reduceIte] at h) <;> (try simp only [hc])
 | ((with_reducible first | refine leafR hQ ?_ | refine leafN hQ ?_); (try cases h); simp only [resL, oneD, Option.some.injEq, exists_eq_left', go_sem, hlt, hget, hpu, hinc, Int.reduceLE, ↓reduceIte, reduceCtorEq, Nat.reduceEqDiff, Nat.reduceLeDiff, Nat.reduceAdd, Nat.reduceMul, Nat.reduceSub, Nat.reduceLT, hge, hroom]; repeat' (first | exact Ok.out | with_reducible refine And.intro ?_ ?_ | (simp; done)))
 | (cases h; replace h := hr; clear hr; (try simp only [bs, ↓reduceIte] at h))
 | (cases h; done))

theorem lex_blank {text : Str} (hl : text.length ≤ 100000) {B : Base} {Q : Exit → Tm → St → Prop} {p : List Tok × Int × Int} (hB : B.s = S0)
    (hQ : retF 0 0 [(2, none), (3, some (true, 2))] (.tuple [.slice .shared 4 (p.1.map encTok), .agg (encF p.2)]) ⟨[], []⟩ = Q)
    {n pos : Nat} {out : List Tok} (ho : out.length ≤ 2000) (hp : pos ≤ text.length) (IH : LexGo text B Q p (n + 1))
    {c : UInt8} {r : Str} (h1 : text.drop pos = c :: r) (hb : isB c = true) (hn : (c :: r).length < n + 1) (h : lexF (n + 1) pos (c :: r) out = p) :
    wpC Tryd.prog B 152 QIZ (jumpA Tryd.prog B 152 QJ4 Q) (lexTM text out pos) (lexST out) := by
  have hpu : 0 < 1 := Nat.zero_lt_one
  have hinc : 0 < 1 := Nat.zero_lt_one
  obtain ⟨hget, g2, g3, g4⟩ := drop_cons h1
  have hlt : pos < 4611686018427387904 := by omega
  have hge : decide ((pos : Int) ≥ (text.length : Int)) = false := by simp; omega
  simp only [lexF, hb, ↓reduceIte] at h
  have hn' : r.length < n := by simp only [List.length_cons] at hn; omega
  have e : ∀ x y : Int, (x == y) = false → (x == y) = true → False := fun x y a b => by rw [a] at b; cases b
  simp only [isB] at hb
  repeat' (first
 | simp only [go_sem, hlt, hget, hpu, hinc, Int.reduceLE, ↓reduceIte, reduceCtorEq, Nat.reduceEqDiff, Nat.reduceLeDiff, Nat.reduceAdd, Nat.reduceMul, Nat.reduceSub, Nat.reduceLT, hge]
 | (refine IH.to hB g2 h hn' ho g4 (Nat.lt_succ_self _) ?_ ?_ ?_ <;> ((try simp only [go_sem, hlt, hget, hpu, hinc, Int.reduceLE, ↓reduceIte, reduceCtorEq, Nat.reduceEqDiff, Nat.reduceLeDiff, Nat.reduceAdd, Nat.reduceMul, Nat.reduceSub, Nat.reduceLT]); repeat' (first | exact Ok.out | with_reducible refine And.intro ?_ ?_ | omega | (simp; done))); done)
 | (with_reducible first | refine CB_ofT (by assumption) fun hc => ?_ | refine CB_ofF (by assumption) fun hc => ?_ | refine CB_split (fun hc => ?_) fun hc => ?_) <;> (try simp only [hc, bs, ↓reduceIte] at h) <;> (try simp only [hc])
 | ((with_reducible first | refine leafR hQ ?_ | refine leafN hQ ?_); (try cases h); simp only [resL, oneD, Option.some.injEq, exists_eq_left', go_sem, hlt, hget, hpu, hinc, Int.reduceLE, ↓reduceIte, reduceCtorEq, Nat.reduceEqDiff, Nat.reduceLeDiff, Nat.reduceAdd, Nat.reduceMul, Nat.reduceSub, Nat.reduceLT, hge]; repeat' (first | exact Ok.out | with_reducible refine And.intro ?_ ?_ | (simp; done)))
 | (cases h; replace h := hr; clear hr; (try simp only [bs, ↓reduceIte] at h))
 | (cases h; done))
  all_goals (exfalso; simp_all; done)

theorem lex_remark {text : Str} (hl : text.length ≤ 100000) {B : Base} {Q : Exit → Tm → St → Prop} {p : List Tok × Int × Int} (hB : B.s = S0)
    (hQ : retF 0 0 [(2, none), (3, some (true, 2))] (.tuple [.slice .shared 4 (p.1.map encTok), .agg (encF p.2)]) ⟨[], []⟩ = Q)
    {n pos : Nat} {out : List Tok} (ho : out.length ≤ 2000) (hp : pos ≤ text.length) (IH : LexGo text B Q p (n + 1))
    {c : UInt8} {r : Str} (h1 : text.drop pos = c :: r) (hb : isB c = false) (hc : ((c.toNat : Int) == 35) = true) (hn : (c :: r).length < n + 1) (h : lexF (n + 1) pos (c :: r) out = p) :
    wpC Tryd.prog B 152 QIZ (jumpA Tryd.prog B 152 QJ4 Q) (lexTM text out pos) (lexST out) := by
  have hpu : 0 < 1 := Nat.zero_lt_one
  have hinc : 0 < 1 := Nat.zero_lt_one
  have hget0 := (drop_cons h1).1
  have hget := hget0
  have g4 := (drop_cons h1).2.2.2
  have hlt : pos < 4611686018427387904 := by omega
  have hge : decide ((pos : Int) ≥ (text.length : Int)) = false := by simp; omega
  simp only [lexF, hb, Bool.false_eq_true, ↓reduceIte, hc] at h
  simp only [isB, Bool.or_eq_false_iff] at hb
  have hk := lineL_pos (r := r) hc
  have hk2 := lineL_len (c :: r)
  have hk3 : (c :: r).length = text.length - pos := by rw [← h1, List.length_drop]
  generalize hL : lineL (c :: r) = L at h hk hk2
  repeat' (first
 | simp only [go_sem, hlt, hget, hpu, hinc, Int.reduceLE, ↓reduceIte, reduceCtorEq, Nat.reduceEqDiff, Nat.reduceLeDiff, Nat.reduceAdd, Nat.reduceMul, Nat.reduceSub, Nat.reduceLT, hge, hb.1.1.1, hb.1.1.2, hb.1.2, hb.2, hc]
 | (with_reducible refine jumpA_go (l := 1) (by with_unfolding_all rfl) ?_)
 | (with_reducible first | refine CB_ofT (by assumption) fun hc => ?_ | refine CB_ofF (by assumption) fun hc => ?_ | refine CB_split (fun hc => ?_) fun hc => ?_) <;> (try simp only [hc, bs, ↓reduceIte] at h) <;> (try simp only [hc])
 | ((with_reducible first | refine leafR hQ ?_ | refine leafN hQ ?_); (try cases h); simp only [resL, oneD, Option.some.injEq, exists_eq_left', go_sem, hlt, hget, hpu, hinc, Int.reduceLE, ↓reduceIte, reduceCtorEq, Nat.reduceEqDiff, Nat.reduceLeDiff, Nat.reduceAdd, Nat.reduceMul, Nat.reduceSub, Nat.reduceLT, hge, hb.1.1.1, hb.1.1.2, hb.1.2, hb.2, hc]; repeat' (first | exact Ok.out | with_reducible refine And.intro ?_ ?_ | (simp; done)))
 | (cases h; replace h := hr; clear hr; (try simp only [bs, ↓reduceIte] at h))
 | (cases h; done))
  refine SemL.re _ _ 2 1 (by rw [hB]; exact Nat.le_of_ble_eq_true rfl) (by rw [hB]; exact Nat.le_of_ble_eq_true rfl) ?_ ?_ (SemL.ind (ι := Str × Nat) (fun i => text.drop i.2 = i.1 ∧ i.2 + lineL i.1 = pos + L) (fun i => i.1.length)
    (fun i => lexTM text out i.2) (fun i => lexST out) ?_ (c :: r, pos) ⟨h1, by dsimp only; omega⟩)
  · (simp only [go_sem, hlt, hget, hpu, hinc, Int.reduceLE, ↓reduceIte, reduceCtorEq, Nat.reduceEqDiff, Nat.reduceLeDiff, Nat.reduceAdd, Nat.reduceMul, Nat.reduceSub, Nat.reduceLT]; repeat' (first | exact Ok.out | with_reducible refine And.intro ?_ ?_))
  · (simp only [go_sem, hlt, hget, hpu, hinc, Int.reduceLE, ↓reduceIte, reduceCtorEq, Nat.reduceEqDiff, Nat.reduceLeDiff, Nat.reduceAdd, Nat.reduceMul, Nat.reduceSub, Nat.reduceLT]; repeat' (first | exact Ok.out | with_reducible refine And.intro ?_ ?_))
  rintro ⟨rest, k⟩ ⟨j1, j2⟩ IHl
  dsimp only at j1 j2
  have fin : text.drop (pos + L) = (c :: r).drop L := by rw [← h1, List.drop_drop]
  have hlen : ((c :: r).drop L).length < n := by rw [List.length_drop]; omega
  cases rest with
  | nil =>
    have hge := drop_nil j1
    simp only [lineL, Nat.add_zero] at j2
    subst j2
    repeat' (first
 | simp only [go_sem, hlt, hget, hpu, hinc, Int.reduceLE, ↓reduceIte, reduceCtorEq, Nat.reduceEqDiff, Nat.reduceLeDiff, Nat.reduceAdd, Nat.reduceMul, Nat.reduceSub, Nat.reduceLT, hge]
 | (refine IH.to hB fin h hlen ho (by omega) (Nat.lt_succ_self _) ?_ ?_ ?_ <;> ((try simp only [go_sem, hlt, hget, hpu, hinc, Int.reduceLE, ↓reduceIte, reduceCtorEq, Nat.reduceEqDiff, Nat.reduceLeDiff, Nat.reduceAdd, Nat.reduceMul, Nat.reduceSub, Nat.reduceLT]); repeat' (first | exact Ok.out | with_reducible refine And.intro ?_ ?_ | omega | (simp; done))); done)
 | (with_reducible first | refine CB_ofT (by assumption) fun hc => ?_ | refine CB_ofF (by assumption) fun hc => ?_ | refine CB_split (fun hc => ?_) fun hc => ?_) <;> (try simp only [hc, bs, ↓reduceIte] at h) <;> (try simp only [hc])
 | ((with_reducible first | refine leafR hQ ?_ | refine leafN hQ ?_); (try cases h); simp only [resL, oneD, Option.some.injEq, exists_eq_left', go_sem, hlt, hget, hpu, hinc, Int.reduceLE, ↓reduceIte, reduceCtorEq, Nat.reduceEqDiff, Nat.reduceLeDiff, Nat.reduceAdd, Nat.reduceMul, Nat.reduceSub, Nat.reduceLT, hge]; repeat' (first | exact Ok.out | with_reducible refine And.intro ?_ ?_ | (simp; done)))
 | (cases h; replace h := hr; clear hr; (try simp only [bs, ↓reduceIte] at h))
 | (cases h; done))
  | cons d rest =>
    obtain ⟨hget, g2, hge, g5⟩ := drop_cons j1
    have hlt : k < 4611686018427387904 := by omega
    cases hd : ((d.toNat : Int) != 10)
    · simp only [lineL, hd, Bool.false_eq_true, ↓reduceIte, Nat.add_zero] at j2
      subst j2
      repeat' (first
 | simp only [go_sem, hlt, hget, hpu, hinc, Int.reduceLE, ↓reduceIte, reduceCtorEq, Nat.reduceEqDiff, Nat.reduceLeDiff, Nat.reduceAdd, Nat.reduceMul, Nat.reduceSub, Nat.reduceLT, hge, hd]
 | (refine IH.to hB fin h hlen ho (by omega) (Nat.lt_succ_self _) ?_ ?_ ?_ <;> ((try simp only [go_sem, hlt, hget, hpu, hinc, Int.reduceLE, ↓reduceIte, reduceCtorEq, Nat.reduceEqDiff, Nat.reduceLeDiff, Nat.reduceAdd, Nat.reduceMul, Nat.reduceSub, Nat.reduceLT]); repeat' (first | exact Ok.out | with_reducible refine And.intro ?_ ?_ | omega | (simp; done))); done)
 | (with_reducible first | refine CB_ofT (by assumption) fun hc => ?_ | refine CB_ofF (by assumption) fun hc => ?_ | refine CB_split (fun hc => ?_) fun hc => ?_) <;> (try simp only [hc, bs, ↓reduceIte] at h) <;> (try simp only [hc])
 | ((with_reducible first | refine leafR hQ ?_ | refine leafN hQ ?_); (try cases h); simp only [resL, oneD, Option.some.injEq, exists_eq_left', go_sem, hlt, hget, hpu, hinc, Int.reduceLE, ↓reduceIte, reduceCtorEq, Nat.reduceEqDiff, Nat.reduceLeDiff, Nat.reduceAdd, Nat.reduceMul, Nat.reduceSub, Nat.reduceLT, hge, hd]; repeat' (first | exact Ok.out | with_reducible refine And.intro ?_ ?_ | (simp; done)))
 | (cases h; replace h := hr; clear hr; (try simp only [bs, ↓reduceIte] at h))
 | (cases h; done))
    · simp only [lineL, hd, ↓reduceIte] at j2
      repeat' (first
 | simp only [go_sem, hlt, hget, hpu, hinc, Int.reduceLE, ↓reduceIte, reduceCtorEq, Nat.reduceEqDiff, Nat.reduceLeDiff, Nat.reduceAdd, Nat.reduceMul, Nat.reduceSub, Nat.reduceLT, hge, hd]
 | (with_reducible first | refine CB_ofT (by assumption) fun hc => ?_ | refine CB_ofF (by assumption) fun hc => ?_ | refine CB_split (fun hc => ?_) fun hc => ?_) <;> (try simp only [hc, bs, ↓reduceIte] at h) <;> (try simp only [hc])
 | ((with_reducible first | refine leafR hQ ?_ | refine leafN hQ ?_); (try cases h); simp only [resL, oneD, Option.some.injEq, exists_eq_left', go_sem, hlt, hget, hpu, hinc, Int.reduceLE, ↓reduceIte, reduceCtorEq, Nat.reduceEqDiff, Nat.reduceLeDiff, Nat.reduceAdd, Nat.reduceMul, Nat.reduceSub, Nat.reduceLT, hge, hd]; repeat' (first | exact Ok.out | with_reducible refine And.intro ?_ ?_ | (simp; done)))
 | (cases h; replace h := hr; clear hr; (try simp only [bs, ↓reduceIte] at h))
 | (cases h; done))
      refine SemL.re _ _ 2 1 (by rw [hB]; exact Nat.le_of_ble_eq_true rfl) (by rw [hB]; exact Nat.le_of_ble_eq_true rfl) ?_ ?_ (IHl (rest, k + 1) ⟨g2, by dsimp only; omega⟩ (Nat.lt_succ_self _))
      · (simp only [go_sem, hlt, hget, hpu, hinc, Int.reduceLE, ↓reduceIte, reduceCtorEq, Nat.reduceEqDiff, Nat.reduceLeDiff, Nat.reduceAdd, Nat.reduceMul, Nat.reduceSub, Nat.reduceLT]; repeat' (first | exact Ok.out | with_reducible refine And.intro ?_ ?_))
      · (simp only [go_sem, hlt, hget, hpu, hinc, Int.reduceLE, ↓reduceIte, reduceCtorEq, Nat.reduceEqDiff, Nat.reduceLeDiff, Nat.reduceAdd, Nat.reduceMul, Nat.reduceSub, Nat.reduceLT]; repeat' (first | exact Ok.out | with_reducible refine And.intro ?_ ?_))

theorem lex_sign {text : Str} (hl : text.length ≤ 100000) {B : Base} {Q : Exit → Tm → St → Prop} {p : List Tok × Int × Int} (hB : B.s = S0)
    (hQ : retF 0 0 [(2, none), (3, some (true, 2))] (.tuple [.slice .shared 4 (p.1.map encTok), .agg (encF p.2)]) ⟨[], []⟩ = Q)
    {n pos : Nat} {out : List Tok} (ho : out.length ≤ 2000) (hp : pos ≤ text.length) (IH : LexGo text B Q p (n + 1))
    {c : UInt8} {r : Str} (h1 : text.drop pos = c :: r) (hb : isB c = false) (hc : ((c.toNat : Int) == 35) = false) (hL : isL c = false) (hD : isD c = false) (hn : (c :: r).length < n + 1) (h : lexF (n + 1) pos (c :: r) out = p) :
    wpC Tryd.prog B 152 QIZ (jumpA Tryd.prog B 152 QJ4 Q) (lexTM text out pos) (lexST out) := by
  have hpu : 0 < 1 := Nat.zero_lt_one
  have hinc : 0 < 1 := Nat.zero_lt_one
  have hget := (drop_cons h1).1
  have g4 := (drop_cons h1).2.2.2
  have hlt : pos < 4611686018427387904 := by omega
  have hge : decide ((pos : Int) ≥ (text.length : Int)) = false := by simp; omega
  have hroom : (out.length + 1) * 41 ≤ maxStr := by simp only [maxStr]; omega
  have hsign := fun s => sign_s h1 (by omega) s
  have hk2 := signL_len (c :: r)
  have hk3 : (c :: r).length = text.length - pos := by rw [← h1, List.length_drop]
  simp only [lexF, hb, Bool.false_eq_true, ↓reduceIte, hc, tokE, hL, hD] at h
  simp only [isB, Bool.or_eq_false_iff] at hb
  generalize hK : signL (c :: r) = k at h hsign hk2
  have e1 : IntKind.wrap .i64 ((pos : Int) + (k : Int)) = ((pos + k : Nat) : Int) := by rw [wrap_ok] <;> omega
  have e2 : (0 : Int) ≤ (pos : Int) ∧ (pos : Int) ≤ ((pos + k : Nat) : Int) ∧ ((pos + k : Nat) : Int) ≤ (text.length : Int) := by omega
  have e3 : (text.take (pos + k)).drop pos = (c :: r).take k := by rw [slice_at, h1]
  by_cases hz : k = 0
  · have hgt : decide (((pos + k : Nat) : Int) > (pos : Int)) = false := by simp; omega
    simp only [hz, ↓reduceIte] at h
    repeat' (first
 | simp only [go_sem, hlt, hget, hpu, hinc, Int.reduceLE, ↓reduceIte, reduceCtorEq, Nat.reduceEqDiff, Nat.reduceLeDiff, Nat.reduceAdd, Nat.reduceMul, Nat.reduceSub, Nat.reduceLT, hge, hb.1.1.1, hb.1.1.2, hb.1.2, hb.2, hc, hL, hD, e1, e2, e3, hgt]
 | (with_reducible refine CU (letter_s _ _) ?_)
 | (with_reducible refine CU (digit_s _ _) ?_)
 | (with_reducible refine CU (hsign _) ?_)
 | (with_reducible refine jumpA_go (l := 4) (by with_unfolding_all rfl) ?_)
 | (with_reducible refine jumpA_go (l := 5) (by with_unfolding_all rfl) ?_)
 | (with_reducible first | refine CB_ofT (by assumption) fun hc => ?_ | refine CB_ofF (by assumption) fun hc => ?_ | refine CB_split (fun hc => ?_) fun hc => ?_) <;> (try simp only [hc, bs, ↓reduceIte] at h) <;> (try simp only [hc])
 | ((with_reducible first | refine leafR hQ ?_ | refine leafN hQ ?_); (try cases h); simp only [resL, oneD, Option.some.injEq, exists_eq_left', go_sem, hlt, hget, hpu, hinc, Int.reduceLE, ↓reduceIte, reduceCtorEq, Nat.reduceEqDiff, Nat.reduceLeDiff, Nat.reduceAdd, Nat.reduceMul, Nat.reduceSub, Nat.reduceLT, hge, hb.1.1.1, hb.1.1.2, hb.1.2, hb.2, hc, hL, hD, e1, e2, e3, hgt]; repeat' (first | exact Ok.out | with_reducible refine And.intro ?_ ?_ | (simp; done)))
 | (cases h; replace h := hr; clear hr; (try simp only [bs, ↓reduceIte] at h))
 | (cases h; done))
  · have hgt : decide (((pos + k : Nat) : Int) > (pos : Int)) = true := by simp; omega
    have hlen : ((c :: r).take k).length = k := by rw [List.length_take]; omega
    have fin : text.drop (pos + k) = (c :: r).drop k := by rw [← h1, List.drop_drop]
    have hlen2 : ((c :: r).drop k).length < n := by rw [List.length_drop]; omega
    simp only [hz, ↓reduceIte, hlen] at h
    by_cases ho2 : out.length = 2000
    · have ho3 : ((out.length : Int) == 2000) = true := by simp [ho2]
      simp only [ho2, ↓reduceIte] at h
      repeat' (first
 | simp only [go_sem, hlt, hget, hpu, hinc, Int.reduceLE, ↓reduceIte, reduceCtorEq, Nat.reduceEqDiff, Nat.reduceLeDiff, Nat.reduceAdd, Nat.reduceMul, Nat.reduceSub, Nat.reduceLT, hge, hb.1.1.1, hb.1.1.2, hb.1.2, hb.2, hc, hL, hD, e1, e2, e3, hgt, ho3]
 | (with_reducible refine CU (letter_s _ _) ?_)
 | (with_reducible refine CU (digit_s _ _) ?_)
 | (with_reducible refine CU (hsign _) ?_)
 | (with_reducible refine jumpA_go (l := 4) (by with_unfolding_all rfl) ?_)
 | (with_reducible refine jumpA_go (l := 5) (by with_unfolding_all rfl) ?_)
 | (with_reducible first | refine CB_ofT (by assumption) fun hc => ?_ | refine CB_ofF (by assumption) fun hc => ?_ | refine CB_split (fun hc => ?_) fun hc => ?_) <;> (try simp only [hc, bs, ↓reduceIte] at h) <;> (try simp only [hc])
 | ((with_reducible first | refine leafR hQ ?_ | refine leafN hQ ?_); (try cases h); simp only [resL, oneD, Option.some.injEq, exists_eq_left', go_sem, hlt, hget, hpu, hinc, Int.reduceLE, ↓reduceIte, reduceCtorEq, Nat.reduceEqDiff, Nat.reduceLeDiff, Nat.reduceAdd, Nat.reduceMul, Nat.reduceSub, Nat.reduceLT, hge, hb.1.1.1, hb.1.1.2, hb.1.2, hb.2, hc, hL, hD, e1, e2, e3, hgt, ho3]; repeat' (first | exact Ok.out | with_reducible refine And.intro ?_ ?_ | (simp; done)))
 | (cases h; replace h := hr; clear hr; (try simp only [bs, ↓reduceIte] at h))
 | (cases h; done))
    · have ho3 : ((out.length : Int) == 2000) = false := by simp; omega
      have ho4 : ∀ t : Tok, (out ++ [t]).length ≤ 2000 := by intro t; simp; omega
      simp only [ho2, ↓reduceIte] at h
      repeat' (first
 | simp only [go_sem, hlt, hget, hpu, hinc, Int.reduceLE, ↓reduceIte, reduceCtorEq, Nat.reduceEqDiff, Nat.reduceLeDiff, Nat.reduceAdd, Nat.reduceMul, Nat.reduceSub, Nat.reduceLT, hge, hb.1.1.1, hb.1.1.2, hb.1.2, hb.2, hc, hL, hD, e1, e2, e3, hgt, ho3, hroom]
 | (with_reducible refine CU (letter_s _ _) ?_)
 | (with_reducible refine CU (digit_s _ _) ?_)
 | (with_reducible refine CU (hsign _) ?_)
 | (with_reducible refine jumpA_go (l := 4) (by with_unfolding_all rfl) ?_)
 | (with_reducible refine jumpA_go (l := 5) (by with_unfolding_all rfl) ?_)
 | (refine IH.to hB fin h hlen2 (ho4 _) (by omega) (Nat.lt_succ_self _) ?_ ?_ ?_ <;> ((try simp only [go_sem, hlt, hget, hpu, hinc, Int.reduceLE, ↓reduceIte, reduceCtorEq, Nat.reduceEqDiff, Nat.reduceLeDiff, Nat.reduceAdd, Nat.reduceMul, Nat.reduceSub, Nat.reduceLT]); repeat' (first | exact Ok.out | with_reducible refine And.intro ?_ ?_ | omega | (simp; done))); done)
 | (with_reducible first | refine CB_ofT (by assumption) fun hc => ?_ | refine CB_ofF (by assumption) fun hc => ?_ | refine CB_split (fun hc => ?_) fun hc => ?_) <;> (try simp only [hc, bs, ↓reduceIte] at h) <;> (try simp only [hc])
 | ((with_reducible first | refine leafR hQ ?_ | refine leafN hQ ?_); (try cases h); simp only [resL, oneD, Option.some.injEq, exists_eq_left', go_sem, hlt, hget, hpu, hinc, Int.reduceLE, ↓reduceIte, reduceCtorEq, Nat.reduceEqDiff, Nat.reduceLeDiff, Nat.reduceAdd, Nat.reduceMul, Nat.reduceSub, Nat.reduceLT, hge, hb.1.1.1, hb.1.1.2, hb.1.2, hb.2, hc, hL, hD, e1, e2, e3, hgt, ho3, hroom]; repeat' (first | exact Ok.out | with_reducible refine And.intro ?_ ?_ | (simp; done)))
 | (cases h; replace h := hr; clear hr; (try simp only [bs, ↓reduceIte] at h))
 | (cases h; done))

theorem lex_name {text : Str} (hl : text.length ≤ 100000) {B : Base} {Q : Exit → Tm → St → Prop} {p : List Tok × Int × Int} (hB : B.s = S0)
    (hQ : retF 0 0 [(2, none), (3, some (true, 2))] (.tuple [.slice .shared 4 (p.1.map encTok), .agg (encF p.2)]) ⟨[], []⟩ = Q)
    {n pos : Nat} {out : List Tok} (ho : out.length ≤ 2000) (hp : pos ≤ text.length) (IH : LexGo text B Q p (n + 1))
    {c : UInt8} {r : Str} (h1 : text.drop pos = c :: r) (hb : isB c = false) (hc : ((c.toNat : Int) == 35) = false) (hL : isL c = true) (hn : (c :: r).length < n + 1) (h : lexF (n + 1) pos (c :: r) out = p) :
    wpC Tryd.prog B 152 QIZ (jumpA Tryd.prog B 152 QJ4 Q) (lexTM text out pos) (lexST out) := by
  have hpu : 0 < 1 := Nat.zero_lt_one
  have hinc : 0 < 1 := Nat.zero_lt_one
  have hget := (drop_cons h1).1
  have g4 := (drop_cons h1).2.2.2
  have hlt : pos < 4611686018427387904 := by omega
  have hge : decide ((pos : Int) ≥ (text.length : Int)) = false := by simp; omega
  have hroom : (out.length + 1) * 41 ≤ maxStr := by simp only [maxStr]; omega
  have hrun := fun s => run_s (text := text) (pos := pos) (by omega) s
  rw [h1] at hrun
  have hk2 := runL_len (c :: r)
  have hk1 := runL_pos (r := r) hL
  have hk3 : (c :: r).length = text.length - pos := by rw [← h1, List.length_drop]
  simp only [lexF, hb, Bool.false_eq_true, ↓reduceIte, hc, tokE, hL] at h
  simp only [isB, Bool.or_eq_false_iff] at hb
  generalize hK : runL (c :: r) = k at h hrun hk2 hk1
  have hlen : ((c :: r).take k).length = k := by rw [List.length_take]; omega
  simp only [hlen] at h
  have e1 : IntKind.wrap .i64 (((pos + k : Nat) : Int) - (pos : Int)) = (k : Int) := by rw [wrap_ok] <;> omega
  have e2 : (0 : Int) ≤ (pos : Int) ∧ (pos : Int) ≤ ((pos + k : Nat) : Int) ∧ ((pos + k : Nat) : Int) ≤ (text.length : Int) := by omega
  have e3 : (text.take (pos + k)).drop pos = (c :: r).take k := by rw [slice_at, h1]
  by_cases hz : k > 8
  · have hgt : decide ((k : Int) > 8) = true := by simp; omega
    simp only [hz, ↓reduceIte] at h
    cases hw : isWord ((c :: r).take k)
    · repeat' (first
 | simp only [go_sem, hlt, hget, hpu, hinc, Int.reduceLE, ↓reduceIte, reduceCtorEq, Nat.reduceEqDiff, Nat.reduceLeDiff, Nat.reduceAdd, Nat.reduceMul, Nat.reduceSub, Nat.reduceLT, hge, hb.1.1.1, hb.1.1.2, hb.1.2, hb.2, hc, hL, e1, e2, e3, hgt, hw]
 | (with_reducible refine CU (letter_s _ _) ?_)
 | (with_reducible refine CU (hrun _) ?_)
 | (with_reducible refine CU (word_s _ _) ?_)
 | (with_reducible refine jumpA_go (l := 2) (by with_unfolding_all rfl) ?_)
 | (with_reducible refine jumpA_go (l := 4) (by with_unfolding_all rfl) ?_)
 | (with_reducible refine jumpA_go (l := 5) (by with_unfolding_all rfl) ?_)
 | (with_reducible first | refine CB_ofT (by assumption) fun hc => ?_ | refine CB_ofF (by assumption) fun hc => ?_ | refine CB_split (fun hc => ?_) fun hc => ?_) <;> (try simp only [hc, bs, ↓reduceIte] at h) <;> (try simp only [hc])
 | ((with_reducible first | refine leafR hQ ?_ | refine leafN hQ ?_); (try cases h); simp only [resL, oneD, Option.some.injEq, exists_eq_left', go_sem, hlt, hget, hpu, hinc, Int.reduceLE, ↓reduceIte, reduceCtorEq, Nat.reduceEqDiff, Nat.reduceLeDiff, Nat.reduceAdd, Nat.reduceMul, Nat.reduceSub, Nat.reduceLT, hge, hb.1.1.1, hb.1.1.2, hb.1.2, hb.2, hc, hL, e1, e2, e3, hgt, hw]; repeat' (first | exact Ok.out | with_reducible refine And.intro ?_ ?_ | (simp; done)))
 | (cases h; replace h := hr; clear hr; (try simp only [bs, ↓reduceIte] at h))
 | (cases h; done))
    · repeat' (first
 | simp only [go_sem, hlt, hget, hpu, hinc, Int.reduceLE, ↓reduceIte, reduceCtorEq, Nat.reduceEqDiff, Nat.reduceLeDiff, Nat.reduceAdd, Nat.reduceMul, Nat.reduceSub, Nat.reduceLT, hge, hb.1.1.1, hb.1.1.2, hb.1.2, hb.2, hc, hL, e1, e2, e3, hgt, hw]
 | (with_reducible refine CU (letter_s _ _) ?_)
 | (with_reducible refine CU (hrun _) ?_)
 | (with_reducible refine CU (word_s _ _) ?_)
 | (with_reducible refine jumpA_go (l := 2) (by with_unfolding_all rfl) ?_)
 | (with_reducible refine jumpA_go (l := 4) (by with_unfolding_all rfl) ?_)
 | (with_reducible refine jumpA_go (l := 5) (by with_unfolding_all rfl) ?_)
 | (with_reducible first | refine CB_ofT (by assumption) fun hc => ?_ | refine CB_ofF (by assumption) fun hc => ?_ | refine CB_split (fun hc => ?_) fun hc => ?_) <;> (try simp only [hc, bs, ↓reduceIte] at h) <;> (try simp only [hc])
 | ((with_reducible first | refine leafR hQ ?_ | refine leafN hQ ?_); (try cases h); simp only [resL, oneD, Option.some.injEq, exists_eq_left', go_sem, hlt, hget, hpu, hinc, Int.reduceLE, ↓reduceIte, reduceCtorEq, Nat.reduceEqDiff, Nat.reduceLeDiff, Nat.reduceAdd, Nat.reduceMul, Nat.reduceSub, Nat.reduceLT, hge, hb.1.1.1, hb.1.1.2, hb.1.2, hb.2, hc, hL, e1, e2, e3, hgt, hw]; repeat' (first | exact Ok.out | with_reducible refine And.intro ?_ ?_ | (simp; done)))
 | (cases h; replace h := hr; clear hr; (try simp only [bs, ↓reduceIte] at h))
 | (cases h; done))
  · have hgt : decide ((k : Int) > 8) = false := by simp; omega
    have fin : text.drop (pos + k) = (c :: r).drop k := by rw [← h1, List.drop_drop]
    have hlen2 : ((c :: r).drop k).length < n := by rw [List.length_drop]; omega
    simp only [hz, ↓reduceIte, hlen] at h
    by_cases ho2 : out.length = 2000
    · have ho3 : ((out.length : Int) == 2000) = true := by simp [ho2]
      simp only [ho2, ↓reduceIte] at h
      cases hw : isWord ((c :: r).take k)
      · repeat' (first
 | simp only [go_sem, hlt, hget, hpu, hinc, Int.reduceLE, ↓reduceIte, reduceCtorEq, Nat.reduceEqDiff, Nat.reduceLeDiff, Nat.reduceAdd, Nat.reduceMul, Nat.reduceSub, Nat.reduceLT, hge, hb.1.1.1, hb.1.1.2, hb.1.2, hb.2, hc, hL, e1, e2, e3, hgt, ho3, hw]
 | (with_reducible refine CU (letter_s _ _) ?_)
 | (with_reducible refine CU (hrun _) ?_)
 | (with_reducible refine CU (word_s _ _) ?_)
 | (with_reducible refine jumpA_go (l := 2) (by with_unfolding_all rfl) ?_)
 | (with_reducible refine jumpA_go (l := 4) (by with_unfolding_all rfl) ?_)
 | (with_reducible refine jumpA_go (l := 5) (by with_unfolding_all rfl) ?_)
 | (with_reducible first | refine CB_ofT (by assumption) fun hc => ?_ | refine CB_ofF (by assumption) fun hc => ?_ | refine CB_split (fun hc => ?_) fun hc => ?_) <;> (try simp only [hc, bs, ↓reduceIte] at h) <;> (try simp only [hc])
 | ((with_reducible first | refine leafR hQ ?_ | refine leafN hQ ?_); (try cases h); simp only [resL, oneD, Option.some.injEq, exists_eq_left', go_sem, hlt, hget, hpu, hinc, Int.reduceLE, ↓reduceIte, reduceCtorEq, Nat.reduceEqDiff, Nat.reduceLeDiff, Nat.reduceAdd, Nat.reduceMul, Nat.reduceSub, Nat.reduceLT, hge, hb.1.1.1, hb.1.1.2, hb.1.2, hb.2, hc, hL, e1, e2, e3, hgt, ho3, hw]; repeat' (first | exact Ok.out | with_reducible refine And.intro ?_ ?_ | (simp; done)))
 | (cases h; replace h := hr; clear hr; (try simp only [bs, ↓reduceIte] at h))
 | (cases h; done))
      · repeat' (first
 | simp only [go_sem, hlt, hget, hpu, hinc, Int.reduceLE, ↓reduceIte, reduceCtorEq, Nat.reduceEqDiff, Nat.reduceLeDiff, Nat.reduceAdd, Nat.reduceMul, Nat.reduceSub, Nat.reduceLT, hge, hb.1.1.1, hb.1.1.2, hb.1.2, hb.2, hc, hL, e1, e2, e3, hgt, ho3, hw]
 | (with_reducible refine CU (letter_s _ _) ?_)
 | (with_reducible refine CU (hrun _) ?_)
 | (with_reducible refine CU (word_s _ _) ?_)
 | (with_reducible refine jumpA_go (l := 2) (by with_unfolding_all rfl) ?_)
 | (with_reducible refine jumpA_go (l := 4) (by with_unfolding_all rfl) ?_)
 | (with_reducible refine jumpA_go (l := 5) (by with_unfolding_all rfl) ?_)
 | (with_reducible first | refine CB_ofT (by assumption) fun hc => ?_ | refine CB_ofF (by assumption) fun hc => ?_ | refine CB_split (fun hc => ?_) fun hc => ?_) <;> (try simp only [hc, bs, ↓reduceIte] at h) <;> (try simp only [hc])
 | ((with_reducible first | refine leafR hQ ?_ | refine leafN hQ ?_); (try cases h); simp only [resL, oneD, Option.some.injEq, exists_eq_left', go_sem, hlt, hget, hpu, hinc, Int.reduceLE, ↓reduceIte, reduceCtorEq, Nat.reduceEqDiff, Nat.reduceLeDiff, Nat.reduceAdd, Nat.reduceMul, Nat.reduceSub, Nat.reduceLT, hge, hb.1.1.1, hb.1.1.2, hb.1.2, hb.2, hc, hL, e1, e2, e3, hgt, ho3, hw]; repeat' (first | exact Ok.out | with_reducible refine And.intro ?_ ?_ | (simp; done)))
 | (cases h; replace h := hr; clear hr; (try simp only [bs, ↓reduceIte] at h))
 | (cases h; done))
    · have ho3 : ((out.length : Int) == 2000) = false := by simp; omega
      have ho4 : ∀ t : Tok, (out ++ [t]).length ≤ 2000 := by intro t; simp; omega
      simp only [ho2, ↓reduceIte] at h
      cases hw : isWord ((c :: r).take k)
      · simp only [hw, Bool.false_eq_true, ↓reduceIte] at h
        repeat' (first
 | simp only [go_sem, hlt, hget, hpu, hinc, Int.reduceLE, ↓reduceIte, reduceCtorEq, Nat.reduceEqDiff, Nat.reduceLeDiff, Nat.reduceAdd, Nat.reduceMul, Nat.reduceSub, Nat.reduceLT, hge, hb.1.1.1, hb.1.1.2, hb.1.2, hb.2, hc, hL, e1, e2, e3, hgt, ho3, hroom, hw]
 | (with_reducible refine CU (letter_s _ _) ?_)
 | (with_reducible refine CU (hrun _) ?_)
 | (with_reducible refine CU (word_s _ _) ?_)
 | (with_reducible refine jumpA_go (l := 2) (by with_unfolding_all rfl) ?_)
 | (with_reducible refine jumpA_go (l := 4) (by with_unfolding_all rfl) ?_)
 | (with_reducible refine jumpA_go (l := 5) (by with_unfolding_all rfl) ?_)
 | (refine IH.to hB fin h hlen2 (ho4 _) (by omega) (Nat.lt_succ_self _) ?_ ?_ ?_ <;> ((try simp only [go_sem, hlt, hget, hpu, hinc, Int.reduceLE, ↓reduceIte, reduceCtorEq, Nat.reduceEqDiff, Nat.reduceLeDiff, Nat.reduceAdd, Nat.reduceMul, Nat.reduceSub, Nat.reduceLT]); repeat' (first | exact Ok.out | with_reducible refine And.intro ?_ ?_ | omega | (simp; done))); done)
 | (with_reducible first | refine CB_ofT (by assumption) fun hc => ?_ | refine CB_ofF (by assumption) fun hc => ?_ | refine CB_split (fun hc => ?_) fun hc => ?_) <;> (try simp only [hc, bs, ↓reduceIte] at h) <;> (try simp only [hc])
 | ((with_reducible first | refine leafR hQ ?_ | refine leafN hQ ?_); (try cases h); simp only [resL, oneD, Option.some.injEq, exists_eq_left', go_sem, hlt, hget, hpu, hinc, Int.reduceLE, ↓reduceIte, reduceCtorEq, Nat.reduceEqDiff, Nat.reduceLeDiff, Nat.reduceAdd, Nat.reduceMul, Nat.reduceSub, Nat.reduceLT, hge, hb.1.1.1, hb.1.1.2, hb.1.2, hb.2, hc, hL, e1, e2, e3, hgt, ho3, hroom, hw]; repeat' (first | exact Ok.out | with_reducible refine And.intro ?_ ?_ | (simp; done)))
 | (cases h; replace h := hr; clear hr; (try simp only [bs, ↓reduceIte] at h))
 | (cases h; done))
      · simp only [hw, ↓reduceIte] at h
        repeat' (first
 | simp only [go_sem, hlt, hget, hpu, hinc, Int.reduceLE, ↓reduceIte, reduceCtorEq, Nat.reduceEqDiff, Nat.reduceLeDiff, Nat.reduceAdd, Nat.reduceMul, Nat.reduceSub, Nat.reduceLT, hge, hb.1.1.1, hb.1.1.2, hb.1.2, hb.2, hc, hL, e1, e2, e3, hgt, ho3, hroom, hw]
 | (with_reducible refine CU (letter_s _ _) ?_)
 | (with_reducible refine CU (hrun _) ?_)
 | (with_reducible refine CU (word_s _ _) ?_)
 | (with_reducible refine jumpA_go (l := 2) (by with_unfolding_all rfl) ?_)
 | (with_reducible refine jumpA_go (l := 4) (by with_unfolding_all rfl) ?_)
 | (with_reducible refine jumpA_go (l := 5) (by with_unfolding_all rfl) ?_)
 | (refine IH.to hB fin h hlen2 (ho4 _) (by omega) (Nat.lt_succ_self _) ?_ ?_ ?_ <;> ((try simp only [go_sem, hlt, hget, hpu, hinc, Int.reduceLE, ↓reduceIte, reduceCtorEq, Nat.reduceEqDiff, Nat.reduceLeDiff, Nat.reduceAdd, Nat.reduceMul, Nat.reduceSub, Nat.reduceLT]); repeat' (first | exact Ok.out | with_reducible refine And.intro ?_ ?_ | omega | (simp; done))); done)
 | (with_reducible first | refine CB_ofT (by assumption) fun hc => ?_ | refine CB_ofF (by assumption) fun hc => ?_ | refine CB_split (fun hc => ?_) fun hc => ?_) <;> (try simp only [hc, bs, ↓reduceIte] at h) <;> (try simp only [hc])
 | ((with_reducible first | refine leafR hQ ?_ | refine leafN hQ ?_); (try cases h); simp only [resL, oneD, Option.some.injEq, exists_eq_left', go_sem, hlt, hget, hpu, hinc, Int.reduceLE, ↓reduceIte, reduceCtorEq, Nat.reduceEqDiff, Nat.reduceLeDiff, Nat.reduceAdd, Nat.reduceMul, Nat.reduceSub, Nat.reduceLT, hge, hb.1.1.1, hb.1.1.2, hb.1.2, hb.2, hc, hL, e1, e2, e3, hgt, ho3, hroom, hw]; repeat' (first | exact Ok.out | with_reducible refine And.intro ?_ ?_ | (simp; done)))
 | (cases h; replace h := hr; clear hr; (try simp only [bs, ↓reduceIte] at h))
 | (cases h; done))

end Go.Abs

/-! RefLex1 -/

namespace Go.Abs

set_option maxRecDepth 8000
set_option linter.unusedSimpArgs false
set_option linter.unusedVariables false
open Go.Proofs

theorem Rsmall_s (c : UInt8) (s : St) : Fun Tryd.prog n_ref1_small [.int .u8 (c.toNat : Int)] s (.bool (isL c)) s := by
  refine Fun.pure ?_ rfl rfl s
  generalize h : isL c = b
  unfold isL at h
  unfold S0
  refine Fun.go has_ref1_small rfl fun B Q hB hQ => ?_
  have hlt : 0 < 1 := Nat.zero_lt_one
  have hget : 0 < 1 := Nat.zero_lt_one
  have hpu : 0 < 1 := Nat.zero_lt_one
  have hinc : 0 < 1 := Nat.zero_lt_one
  repeat' (first
 | simp only [go_sem, hlt, hget, hpu, hinc, Int.reduceLE, ↓reduceIte, reduceCtorEq, Nat.reduceEqDiff, Nat.reduceLeDiff, Nat.reduceAdd, Nat.reduceMul, Nat.reduceSub, Nat.reduceLT]
 | (with_reducible first | refine CB_ofT (by assumption) fun hc => ?_ | refine CB_ofF (by assumption) fun hc => ?_ | refine CB_split (fun hc => ?_) fun hc => ?_) <;> (try simp only [hc, bs, ↓reduceIte] at h) <;> (try simp only [hc])
 | ((with_reducible first | refine leafR hQ ?_ | refine leafN hQ ?_); (try cases h); simp only [resL, oneD, Option.some.injEq, exists_eq_left', go_sem, hlt, hget, hpu, hinc, Int.reduceLE, ↓reduceIte, reduceCtorEq, Nat.reduceEqDiff, Nat.reduceLeDiff, Nat.reduceAdd, Nat.reduceMul, Nat.reduceSub, Nat.reduceLT]; repeat' (first | exact Ok.out | with_reducible refine And.intro ?_ ?_ | (simp; done)))
 | (cases h; replace h := hr; clear hr; (try simp only [bs, ↓reduceIte] at h))
 | (cases h; done))

theorem Rdigit_s (c : UInt8) (s : St) : Fun Tryd.prog n_ref1_digit [.int .u8 (c.toNat : Int)] s (.bool (isD c)) s := by
  refine Fun.pure ?_ rfl rfl s
  generalize h : isD c = b
  unfold isD at h
  unfold S0
  refine Fun.go has_ref1_digit rfl fun B Q hB hQ => ?_
  have hlt : 0 < 1 := Nat.zero_lt_one
  have hget : 0 < 1 := Nat.zero_lt_one
  have hpu : 0 < 1 := Nat.zero_lt_one
  have hinc : 0 < 1 := Nat.zero_lt_one
  repeat' (first
 | simp only [go_sem, hlt, hget, hpu, hinc, Int.reduceLE, ↓reduceIte, reduceCtorEq, Nat.reduceEqDiff, Nat.reduceLeDiff, Nat.reduceAdd, Nat.reduceMul, Nat.reduceSub, Nat.reduceLT]
 | (with_reducible first | refine CB_ofT (by assumption) fun hc => ?_ | refine CB_ofF (by assumption) fun hc => ?_ | refine CB_split (fun hc => ?_) fun hc => ?_) <;> (try simp only [hc, bs, ↓reduceIte] at h) <;> (try simp only [hc])
 | ((with_reducible first | refine leafR hQ ?_ | refine leafN hQ ?_); (try cases h); simp only [resL, oneD, Option.some.injEq, exists_eq_left', go_sem, hlt, hget, hpu, hinc, Int.reduceLE, ↓reduceIte, reduceCtorEq, Nat.reduceEqDiff, Nat.reduceLeDiff, Nat.reduceAdd, Nat.reduceMul, Nat.reduceSub, Nat.reduceLT]; repeat' (first | exact Ok.out | with_reducible refine And.intro ?_ ?_ | (simp; done)))
 | (cases h; replace h := hr; clear hr; (try simp only [bs, ↓reduceIte] at h))
 | (cases h; done))

theorem Words_s (s : St) : Fun Tryd.prog n_ref1_Words [] s (.slice .shared 1 [[.str [103, 108, 111, 98, 97, 108]], [.str [112, 114, 111, 99]], [.str [118, 97, 114]], [.str [114, 101, 102]], [.str [105, 102]], [.str [101, 108, 115, 101]], [.str [119, 104, 105, 108, 101]], [.str [98, 114, 101, 97, 107]], [.str [99, 111, 110, 116, 105, 110, 117, 101]], [.str [114, 101, 116, 117, 114, 110]], [.str [103, 111, 116, 111]], [.str [114, 101, 97, 100]], [.str [112, 114, 105, 110, 116]]]) s := by
  refine Fun.pure ?_ rfl rfl s
  unfold S0
  refine Fun.go has_ref1_Words rfl fun B Q hB hQ => ?_
  have hlt : 0 < 1 := Nat.zero_lt_one
  have hget : 0 < 1 := Nat.zero_lt_one
  have hpu : 0 < 1 := Nat.zero_lt_one
  have hinc : 0 < 1 := Nat.zero_lt_one
  repeat' (first
 | simp only [go_sem, hlt, hget, hpu, hinc, Int.reduceLE, ↓reduceIte, reduceCtorEq, Nat.reduceEqDiff, Nat.reduceLeDiff, Nat.reduceAdd, Nat.reduceMul, Nat.reduceSub, Nat.reduceLT]
 | (with_reducible first | refine CB_ofT (by assumption) fun hc => ?_ | refine CB_ofF (by assumption) fun hc => ?_ | refine CB_split (fun hc => ?_) fun hc => ?_) <;> (try simp only [hc, bs, ↓reduceIte] at h) <;> (try simp only [hc])
 | ((with_reducible first | refine leafR hQ ?_ | refine leafN hQ ?_); (try cases h); simp only [resL, oneD, Option.some.injEq, exists_eq_left', go_sem, hlt, hget, hpu, hinc, Int.reduceLE, ↓reduceIte, reduceCtorEq, Nat.reduceEqDiff, Nat.reduceLeDiff, Nat.reduceAdd, Nat.reduceMul, Nat.reduceSub, Nat.reduceLT]; repeat' (first | exact Ok.out | with_reducible refine And.intro ?_ ?_ | (simp; done)))
 | (cases h; replace h := hr; clear hr; (try simp only [bs, ↓reduceIte] at h))
 | (cases h; done))

def isWordR (s : Str) : Bool :=
  [103, 108, 111, 98, 97, 108] == s || [112, 114, 111, 99] == s || [118, 97, 114] == s || [114, 101, 102] == s || [105, 102] == s || [101, 108, 115, 101] == s || [119, 104, 105, 108, 101] == s || [98, 114, 101, 97, 107] == s || [99, 111, 110, 116, 105, 110, 117, 101] == s || [114, 101, 116, 117, 114, 110] == s || [103, 111, 116, 111] == s || [114, 101, 97, 100] == s || [112, 114, 105, 110, 116] == s
theorem isWordR_eq (s : Str) : isWordR s = isWord s := by
  have e : ∀ a : Str, (a == s) = (s == a) := fun a => BEq.comm
  simp only [isWordR, isWord, e]

theorem RWord_s (text : Str) (s : St) : Fun Tryd.prog n_ref1_Word [.str text] s (.bool (isWord text)) s := by
  refine Fun.pure ?_ rfl rfl s
  rw [← isWordR_eq]
  generalize h : isWordR text = p
  unfold isWordR at h
  unfold S0
  refine Fun.go has_ref1_Word rfl fun B Q hB hQ => ?_
  have hlt : 0 < 1 := Nat.zero_lt_one
  have hget : 0 < 1 := Nat.zero_lt_one
  have hpu : 0 < 1 := Nat.zero_lt_one
  have hinc : 0 < 1 := Nat.zero_lt_one
  repeat' (first
 | simp only [go_sem, hlt, hget, hpu, hinc, Int.reduceLE, ↓reduceIte, reduceCtorEq, Nat.reduceEqDiff, Nat.reduceLeDiff, Nat.reduceAdd, Nat.reduceMul, Nat.reduceSub, Nat.reduceLT, Int.cast_ofNat_Int, wrap_ok, Int.reduceAdd, Int.reduceLT, Int.reduceNeg, decide_true, decide_false, Int.reduceToNat]
 | (with_reducible refine CU (Words_s _) ?_)
 | (with_reducible refine SemL.onceW ?_)
 | (with_reducible first | refine CB_ofT (by assumption) fun hc => ?_ | refine CB_ofF (by assumption) fun hc => ?_ | refine CB_split (fun hc => ?_) fun hc => ?_) <;> (try simp only [hc, bs, ↓reduceIte] at h) <;> (try simp only [hc])
 | ((with_reducible first | refine leafR hQ ?_ | refine leafN hQ ?_); (try cases h); simp only [resL, oneD, Option.some.injEq, exists_eq_left', go_sem, hlt, hget, hpu, hinc, Int.reduceLE, ↓reduceIte, reduceCtorEq, Nat.reduceEqDiff, Nat.reduceLeDiff, Nat.reduceAdd, Nat.reduceMul, Nat.reduceSub, Nat.reduceLT, Int.cast_ofNat_Int, wrap_ok, Int.reduceAdd, Int.reduceLT, Int.reduceNeg, decide_true, decide_false, Int.reduceToNat]; repeat' (first | exact Ok.out | with_reducible refine And.intro ?_ ?_ | (simp; done)))
 | (cases h; replace h := hr; clear hr; (try simp only [bs, ↓reduceIte] at h))
 | (cases h; done))

end Go.Abs

/-! Prs2 -/

namespace Go.Abs

set_option maxRecDepth 8000
set_option linter.unusedSimpArgs false
set_option linter.unusedVariables false
open Go.Proofs

theorem op_0 {t : Tok} {p : Int × Int} (h : opOf t = p) : Fun Tryd.prog n_parse_op [.agg (encTok t)] S0 (.tuple [.int .i64 p.1, .int .i64 p.2]) S0 := by
  unfold opOf at h
  unfold S0
  refine Fun.go has_parse_op rfl fun B Q hB hQ => ?_
  have hlt : 0 < 1 := Nat.zero_lt_one
  have hget : 0 < 1 := Nat.zero_lt_one
  have hpu : 0 < 1 := Nat.zero_lt_one
  have hinc : 0 < 1 := Nat.zero_lt_one
  repeat' (first
 | simp only [go_sem, hlt, hget, hpu, hinc, Int.reduceLE, ↓reduceIte, reduceCtorEq, Nat.reduceEqDiff, Nat.reduceLeDiff, Nat.reduceAdd, Nat.reduceMul, Nat.reduceSub, Nat.reduceLT]
 | (with_reducible first | refine CB_ofT (by assumption) fun hc => ?_ | refine CB_ofF (by assumption) fun hc => ?_ | refine CB_split (fun hc => ?_) fun hc => ?_) <;> (try simp only [hc, bs, ↓reduceIte] at h) <;> (try simp only [hc])
 | ((with_reducible first | refine leafR hQ ?_ | refine leafN hQ ?_); (try cases h); simp only [resL, oneD, Option.some.injEq, exists_eq_left', go_sem, hlt, hget, hpu, hinc, Int.reduceLE, ↓reduceIte, reduceCtorEq, Nat.reduceEqDiff, Nat.reduceLeDiff, Nat.reduceAdd, Nat.reduceMul, Nat.reduceSub, Nat.reduceLT]; repeat' (first | exact Ok.out | with_reducible refine And.intro ?_ ?_ | (simp; done)))
 | (cases h; replace h := hr; clear hr; (try simp only [bs, ↓reduceIte] at h))
 | (cases h; done))

theorem depth_n : ∀ n, n < 4611686018427387904 → ∀ x : Ex, x.size ≤ n → Fun Tryd.prog n_parse_depth [.agg (encEx x)] S0 (.int .i64 (x.depth : Int)) S0 := by
  intro n
  induction n with
  | zero => rintro _ ⟨op, m, name, kids⟩ h; simp only [Ex.size] at h; omega
  | succ n ihn =>
  rintro hn ⟨op, m, name, kids⟩ hx
  have hk : ∀ y ∈ kids, Fun Tryd.prog n_parse_depth [.agg (encEx y)] S0 (.int .i64 (y.depth : Int)) S0 := fun y hy => ihn (by omega) y (by simp only [Ex.size] at hx; have := Ex.sizes_mem hy; omega)
  have hlen : kids.length < 4611686018427387904 := by simp only [Ex.size] at hx; have := Ex.sizes_len kids; omega
  have hdep : Ex.depths kids < 4611686018427387904 := by have := Ex.depth_size _ _ hx; simp only [Ex.depth] at this; omega
  unfold S0
  refine Fun.go has_parse_depth rfl fun B Q hB hQ => ?_
  have hlt : 0 < 1 := Nat.zero_lt_one
  have hget : 0 < 1 := Nat.zero_lt_one
  have hpu : 0 < 1 := Nat.zero_lt_one
  have hinc : 0 < 1 := Nat.zero_lt_one
  repeat' (first
 | simp only [go_sem, hlt, hget, hpu, hinc, Int.reduceLE, ↓reduceIte, reduceCtorEq, Nat.reduceEqDiff, Nat.reduceLeDiff, Nat.reduceAdd, Nat.reduceMul, Nat.reduceSub, Nat.reduceLT]
 | (with_reducible first | refine CB_ofT (by assumption) fun hc => ?_ | refine CB_ofF (by assumption) fun hc => ?_ | refine CB_split (fun hc => ?_) fun hc => ?_) <;> (try simp only [hc, bs, ↓reduceIte] at h) <;> (try simp only [hc])
 | ((with_reducible first | refine leafR hQ ?_ | refine leafN hQ ?_); (try cases h); simp only [resL, oneD, Option.some.injEq, exists_eq_left', go_sem, hlt, hget, hpu, hinc, Int.reduceLE, ↓reduceIte, reduceCtorEq, Nat.reduceEqDiff, Nat.reduceLeDiff, Nat.reduceAdd, Nat.reduceMul, Nat.reduceSub, Nat.reduceLT]; repeat' (first | exact Ok.out | with_reducible refine And.intro ?_ ?_ | (simp; done)))
 | (cases h; replace h := hr; clear hr; (try simp only [bs, ↓reduceIte] at h))
 | (cases h; done))
  refine SemL.re _ _ 0 0 (by rw [hB]; exact Nat.le_of_ble_eq_true rfl) (by rw [hB]; exact Nat.le_of_ble_eq_true rfl) ?_ ?_ (SemL.ind (ι := List Ex × Nat × Nat) (fun i => kids.drop i.2.1 = i.1 ∧ max i.2.2 (Ex.depths i.1) = Ex.depths kids) (fun i => i.1.length)
    (fun i => [(3, .int .i64 (i.2.2 : Int)), (7, .slice .shared 4 (kids.map encEx)), (8, .int .i64 (kids.length : Int)), (9, .int .i64 (i.2.1 : Int))]) (fun _ => S0) ?_ (kids, 0, 0) ⟨rfl, by simp⟩)
  · (simp only [go_sem, hlt, hget, hpu, hinc, Int.reduceLE, ↓reduceIte, reduceCtorEq, Nat.reduceEqDiff, Nat.reduceLeDiff, Nat.reduceAdd, Nat.reduceMul, Nat.reduceSub, Nat.reduceLT]; repeat' (first | exact Ok.out | with_reducible refine And.intro ?_ ?_))
  · (simp only [go_sem, hlt, hget, hpu, hinc, Int.reduceLE, ↓reduceIte, reduceCtorEq, Nat.reduceEqDiff, Nat.reduceLeDiff, Nat.reduceAdd, Nat.reduceMul, Nat.reduceSub, Nat.reduceLT]; repeat' (first | exact Ok.out | with_reducible refine And.intro ?_ ?_))
  rintro ⟨rest, k, acc⟩ ⟨h1, h2⟩ IH
  unfold S0
  cases rest with
  | nil =>
    have hlt := drop_nil h1
    simp only [Ex.depths, Nat.max_zero] at h2
    subst h2
    repeat' (first
 | simp only [go_sem, hlt, hget, hpu, hinc, Int.reduceLE, ↓reduceIte, reduceCtorEq, Nat.reduceEqDiff, Nat.reduceLeDiff, Nat.reduceAdd, Nat.reduceMul, Nat.reduceSub, Nat.reduceLT, wrap_inc hdep, Ex.depth]
 | (with_reducible first | refine CB_ofT (by assumption) fun hc => ?_ | refine CB_ofF (by assumption) fun hc => ?_ | refine CB_split (fun hc => ?_) fun hc => ?_) <;> (try simp only [hc, bs, ↓reduceIte] at h) <;> (try simp only [hc])
 | ((with_reducible first | refine leafR hQ ?_ | refine leafN hQ ?_); (try cases h); simp only [resL, oneD, Option.some.injEq, exists_eq_left', go_sem, hlt, hget, hpu, hinc, Int.reduceLE, ↓reduceIte, reduceCtorEq, Nat.reduceEqDiff, Nat.reduceLeDiff, Nat.reduceAdd, Nat.reduceMul, Nat.reduceSub, Nat.reduceLT, wrap_inc hdep, Ex.depth]; repeat' (first | exact Ok.out | with_reducible refine And.intro ?_ ?_ | (simp; done)))
 | (cases h; replace h := hr; clear hr; (try simp only [bs, ↓reduceIte] at h))
 | (cases h; done))
  | cons y rest =>
    obtain ⟨g1, g2, hlt, g4⟩ := drop_cons h1
    simp only [Ex.depths] at h2
    have hy := fun s => (hk y (List.mem_of_getElem? g1)).pure (by simp [D.oks, D.ok, okEx]) rfl s
    dsimp only at g1 g2 hlt g4 h2
    repeat' (first
 | simp only [go_sem, hlt, hget, hpu, hinc, Int.reduceLE, ↓reduceIte, reduceCtorEq, Nat.reduceEqDiff, Nat.reduceLeDiff, Nat.reduceAdd, Nat.reduceMul, Nat.reduceSub, Nat.reduceLT, g1]
 | (with_reducible refine CU (hy _) ?_)
 | (with_reducible first | refine CB_ofT (by assumption) fun hc => ?_ | refine CB_ofF (by assumption) fun hc => ?_ | refine CB_split (fun hc => ?_) fun hc => ?_) <;> (try simp only [hc, bs, ↓reduceIte] at h) <;> (try simp only [hc])
 | ((with_reducible first | refine leafR hQ ?_ | refine leafN hQ ?_); (try cases h); simp only [resL, oneD, Option.some.injEq, exists_eq_left', go_sem, hlt, hget, hpu, hinc, Int.reduceLE, ↓reduceIte, reduceCtorEq, Nat.reduceEqDiff, Nat.reduceLeDiff, Nat.reduceAdd, Nat.reduceMul, Nat.reduceSub, Nat.reduceLT, g1]; repeat' (first | exact Ok.out | with_reducible refine And.intro ?_ ?_ | (simp; done)))
 | (cases h; replace h := hr; clear hr; (try simp only [bs, ↓reduceIte] at h))
 | (cases h; done))
    refine SemL.re _ _ 0 0 (by rw [hB]; exact Nat.le_of_ble_eq_true rfl) (by rw [hB]; exact Nat.le_of_ble_eq_true rfl) ?_ ?_ (IH (rest, k + 1, max acc y.depth) ⟨g2, by dsimp only; omega⟩ (by simp))
    · (simp only [go_sem, hlt, hget, hpu, hinc, Int.reduceLE, ↓reduceIte, reduceCtorEq, Nat.reduceEqDiff, Nat.reduceLeDiff, Nat.reduceAdd, Nat.reduceMul, Nat.reduceSub, Nat.reduceLT, mx, wrap_inc (show k < 4611686018427387904 by omega)]; repeat' (first | exact Ok.out | with_reducible refine And.intro ?_ ?_))
    · (simp only [go_sem, hlt, hget, hpu, hinc, Int.reduceLE, ↓reduceIte, reduceCtorEq, Nat.reduceEqDiff, Nat.reduceLeDiff, Nat.reduceAdd, Nat.reduceMul, Nat.reduceSub, Nat.reduceLT, mx, wrap_inc (show k < 4611686018427387904 by omega)]; repeat' (first | exact Ok.out | with_reducible refine And.intro ?_ ?_))

theorem depth_s {x : Ex} {d : Int} (h : depthO x = some d) (s : St) : Fun Tryd.prog n_parse_depth [.agg (encEx x)] s (.int .i64 d) s := by
  unfold depthO at h
  split at h
  · cases h; exact (depth_n x.size ‹_› x (Nat.le_refl _)).pure (by simp [D.oks, D.ok, okEx]) rfl s
  · cases h

theorem op_s (t : Tok) (s : St) : Fun Tryd.prog n_parse_op [.agg (encTok t)] s (.tuple [.int .i64 (opOf t).1, .int .i64 (opOf t).2]) s := (op_0 rfl).pure rfl rfl s


theorem ite_p {c : Prop} [Decidable c] {α : Type} {P : α → Prop} {a b : α} (ha : P a) (hb : P b) : P (if c then a else b) := by
  by_cases h : c
  · rw [if_pos h]; exact ha
  · rw [if_neg h]; exact hb
def OpR (p : Int × Int) : Prop := 0 ≤ p.2 ∧ p.2 ≤ 6
theorem op_range (t : Tok) : OpR (opOf t) := by
  unfold opOf
  repeat' with_reducible refine ite_p (P := OpR) ?_ ?_
  all_goals exact ⟨by decide, by decide⟩
theorem op_wrap (t : Tok) : IntKind.wrap .i64 ((opOf t).2 + 1) = (opOf t).2 + 1 := by
  have : 0 ≤ (opOf t).2 ∧ (opOf t).2 ≤ 6 := op_range t
  rw [wrap_ok] <;> omega

abbrev C_one (m : Nat) : Prop := ∀ {r : Rd} {p : Ex × Rd}, Rd.one m r = some p → ∀ {s : St} {o : Nat}, s.objs[o]? = some (encRd r) → Fun Tryd.prog n_parse_reader_one [.ptr o 0] s (.agg (encEx p.1)) ⟨s.objs.set o (encRd p.2), s.toks⟩
abbrev C_two (m : Nat) : Prop := ∀ {k : Int} {r : Rd} {p : Ex × Rd}, Rd.two m k r = some p → ∀ {s : St} {o : Nat}, s.objs[o]? = some (encRd r) → Fun Tryd.prog n_parse_reader_two [.ptr o 0, .int .i64 k] s (.agg (encEx p.1)) ⟨s.objs.set o (encRd p.2), s.toks⟩

theorem one_step {m : Nat} (one_s : C_one m) (two_s : C_two m) : C_one (m + 1) := by
  intro r p h s o ho
  refine Fun.meth ?_ rfl (okRd r) (okRd p.2) (by simp [D.ok, okEx]) ho
  unfold Rd.one at h
  refine Fun.go has_parse_reader_one rfl fun B Q hB hQ => ?_
  have hlt : 0 < 1 := Nat.zero_lt_one
  have hget : 0 < 1 := Nat.zero_lt_one
  have hpu : 0 < 1 := Nat.zero_lt_one
  have hinc : 0 < 1 := Nat.zero_lt_one
  repeat' (first
 | simp only [go_sem, hlt, hget, hpu, hinc, Int.reduceLE, ↓reduceIte, reduceCtorEq, Nat.reduceEqDiff, Nat.reduceLeDiff, Nat.reduceAdd, Nat.reduceMul, Nat.reduceSub, Nat.reduceLT]
 | (rw [Option.bind_eq_some_iff] at h; obtain ⟨_, h1, h⟩ := h; first | (with_reducible refine CU (peek_s h1 (by with_unfolding_all rfl)) ?_; have hlt := peek_lt h1) | (with_reducible refine CU (take_s h1 (by with_unfolding_all rfl)) ?_) | (with_reducible refine CU (two_s h1 (by with_unfolding_all rfl)) ?_) | (with_reducible refine CU (want_s h1 (by with_unfolding_all rfl)) ?_) | (with_reducible refine CU (one_s h1 (by with_unfolding_all rfl)) ?_) | (with_reducible refine CU (bad_s h1 (by with_unfolding_all rfl)) ?_))
 | (with_reducible refine CU (good_s (by with_unfolding_all rfl)) ?_)
 | (with_reducible first | refine CB_ofT (by assumption) fun hc => ?_ | refine CB_ofF (by assumption) fun hc => ?_ | refine CB_split (fun hc => ?_) fun hc => ?_) <;> (try simp only [hc, bs, ↓reduceIte] at h) <;> (try simp only [hc])
 | ((with_reducible first | refine leafR hQ ?_ | refine leafN hQ ?_); (try cases h); simp only [resL, oneD, Option.some.injEq, exists_eq_left', go_sem, hlt, hget, hpu, hinc, Int.reduceLE, ↓reduceIte, reduceCtorEq, Nat.reduceEqDiff, Nat.reduceLeDiff, Nat.reduceAdd, Nat.reduceMul, Nat.reduceSub, Nat.reduceLT]; repeat' (first | exact Ok.out | with_reducible refine And.intro ?_ ?_ | (simp; done)))
 | (cases h; replace h := hr; clear hr; (try simp only [bs, ↓reduceIte] at h))
 | (cases h; done))

theorem two_step {m : Nat} (one_s : C_one m) (two_s : ∀ j < m, C_two j) : C_two (m + 1) := by
  intro k r p h s o ho
  refine Fun.meth ?_ rfl (okRd r) (okRd p.2) (by simp [D.ok, okEx]) ho
  unfold Rd.two at h
  refine Fun.go has_parse_reader_two rfl fun B Q hB hQ => ?_
  have hlt : 0 < 1 := Nat.zero_lt_one
  have hget : 0 < 1 := Nat.zero_lt_one
  have hpu : 0 < 1 := Nat.zero_lt_one
  have hinc : 0 < 1 := Nat.zero_lt_one
  repeat' (first
 | simp only [go_sem, hlt, hget, hpu, hinc, Int.reduceLE, ↓reduceIte, reduceCtorEq, Nat.reduceEqDiff, Nat.reduceLeDiff, Nat.reduceAdd, Nat.reduceMul, Nat.reduceSub, Nat.reduceLT]
 | (rw [Option.bind_eq_some_iff] at h; obtain ⟨_, h1, h⟩ := h; first | (with_reducible refine CU (one_s h1 (by with_unfolding_all rfl)) ?_))
 | (with_reducible first | refine CB_ofT (by assumption) fun hc => ?_ | refine CB_ofF (by assumption) fun hc => ?_ | refine CB_split (fun hc => ?_) fun hc => ?_) <;> (try simp only [hc, bs, ↓reduceIte] at h) <;> (try simp only [hc])
 | ((with_reducible first | refine leafR hQ ?_ | refine leafN hQ ?_); (try cases h); simp only [resL, oneD, Option.some.injEq, exists_eq_left', go_sem, hlt, hget, hpu, hinc, Int.reduceLE, ↓reduceIte, reduceCtorEq, Nat.reduceEqDiff, Nat.reduceLeDiff, Nat.reduceAdd, Nat.reduceMul, Nat.reduceSub, Nat.reduceLT]; repeat' (first | exact Ok.out | with_reducible refine And.intro ?_ ?_ | (simp; done)))
 | (cases h; replace h := hr; clear hr; (try simp only [bs, ↓reduceIte] at h))
 | (cases h; done))
  refine SemL.re _ _ 3 0 (by rw [hB]; exact Nat.le_of_ble_eq_true rfl) (by rw [hB]; exact Nat.le_of_ble_eq_true rfl) ?_ ?_ (SemL.ind (ι := Nat × Ex × Rd) (fun i => Rd.twoL i.1 k i.2.1 i.2.2 = some p ∧ i.1 ≤ m) (fun i => i.1)
    (fun i => [(0, .ptr 0 0), (1, .int .i64 k), (4, .ptr 1 0), (5, .ptr 2 0)]) (fun i => ⟨[encRd i.2.2, encEx ex0, encEx i.2.1], []⟩) ?_ (m, _, _) ⟨h, Nat.le_refl _⟩)
  · (simp only [go_sem, hlt, hget, hpu, hinc, Int.reduceLE, ↓reduceIte, reduceCtorEq, Nat.reduceEqDiff, Nat.reduceLeDiff, Nat.reduceAdd, Nat.reduceMul, Nat.reduceSub, Nat.reduceLT]; repeat' (first | exact Ok.out | with_reducible refine And.intro ?_ ?_))
  · (simp only [go_sem, hlt, hget, hpu, hinc, Int.reduceLE, ↓reduceIte, reduceCtorEq, Nat.reduceEqDiff, Nat.reduceLeDiff, Nat.reduceAdd, Nat.reduceMul, Nat.reduceSub, Nat.reduceLT]; repeat' (first | exact Ok.out | with_reducible refine And.intro ?_ ?_))
  rintro ⟨n, x, r⟩ ⟨h, hn⟩ IH
  cases n with
  | zero => simp only [Rd.twoL] at h; cases h
  | succ n =>
    have two_n := @two_s n (by omega)
    simp only [Rd.twoL] at h
    repeat' (first
 | simp only [go_sem, hlt, hget, hpu, hinc, Int.reduceLE, ↓reduceIte, reduceCtorEq, Nat.reduceEqDiff, Nat.reduceLeDiff, Nat.reduceAdd, Nat.reduceMul, Nat.reduceSub, Nat.reduceLT, op_wrap]
 | (rw [Option.bind_eq_some_iff] at h; obtain ⟨_, h1, h⟩ := h; first | (with_reducible refine CU (peek_s h1 (by with_unfolding_all rfl)) ?_; have hlt := peek_lt h1) | (with_reducible refine CU (two_n h1 (by with_unfolding_all rfl)) ?_))
 | (with_reducible refine CU (good_s (by with_unfolding_all rfl)) ?_)
 | (with_reducible refine CU (op_s _ _) ?_)
 | (with_reducible first | refine CB_ofT (by assumption) fun hc => ?_ | refine CB_ofF (by assumption) fun hc => ?_ | refine CB_split (fun hc => ?_) fun hc => ?_) <;> (try simp only [hc, bs, ↓reduceIte] at h) <;> (try simp only [hc])
 | ((with_reducible first | refine leafR hQ ?_ | refine leafN hQ ?_); (try cases h); simp only [resL, oneD, Option.some.injEq, exists_eq_left', go_sem, hlt, hget, hpu, hinc, Int.reduceLE, ↓reduceIte, reduceCtorEq, Nat.reduceEqDiff, Nat.reduceLeDiff, Nat.reduceAdd, Nat.reduceMul, Nat.reduceSub, Nat.reduceLT, op_wrap]; repeat' (first | exact Ok.out | with_reducible refine And.intro ?_ ?_ | (simp; done)))
 | (cases h; replace h := hr; clear hr; (try simp only [bs, ↓reduceIte] at h))
 | (cases h; done))
    refine SemL.re _ _ 3 0 (by rw [hB]; exact Nat.le_of_ble_eq_true rfl) (by rw [hB]; exact Nat.le_of_ble_eq_true rfl) ?_ ?_ (IH (n, _, _) ⟨h, by dsimp only at hn ⊢; omega⟩ (Nat.lt_succ_self _))
    · (simp only [go_sem, hlt, hget, hpu, hinc, Int.reduceLE, ↓reduceIte, reduceCtorEq, Nat.reduceEqDiff, Nat.reduceLeDiff, Nat.reduceAdd, Nat.reduceMul, Nat.reduceSub, Nat.reduceLT]; repeat' (first | exact Ok.out | with_reducible refine And.intro ?_ ?_))
    · (simp only [go_sem, hlt, hget, hpu, hinc, Int.reduceLE, ↓reduceIte, reduceCtorEq, Nat.reduceEqDiff, Nat.reduceLeDiff, Nat.reduceAdd, Nat.reduceMul, Nat.reduceSub, Nat.reduceLT]; repeat' (first | exact Ok.out | with_reducible refine And.intro ?_ ?_))

theorem one_two : ∀ n, ∀ m < n, C_one m ∧ C_two m := by
  intro n
  induction n with
  | zero => intro m h; exact absurd h (Nat.not_lt_zero _)
  | succ n ih =>
    intro m h
    cases m with
    | zero =>
      refine ⟨?_, ?_⟩
      · intro r p h; simp only [Rd.one] at h; cases h
      · intro k r p h; simp only [Rd.two] at h; cases h
    | succ m =>
      have hm := ih m (by omega)
      exact ⟨one_step hm.1 hm.2, two_step hm.1 fun j hj => (ih j (by omega)).2⟩

theorem two_s {m : Nat} {k : Int} {r : Rd} {p : Ex × Rd} (h : Rd.two m k r = some p) {s : St} {o : Nat} (ho : s.objs[o]? = some (encRd r)) :
    Fun Tryd.prog n_parse_reader_two [.ptr o 0, .int .i64 k] s (.agg (encEx p.1)) ⟨s.objs.set o (encRd p.2), s.toks⟩ := (one_two (m + 1) m (Nat.lt_succ_self _)).2 h ho

theorem whole_s {n : Nat} {r : Rd} {p : Ex × Rd} (h : Rd.whole n r = some p) {s : St} {o : Nat} (ho : s.objs[o]? = some (encRd r)) :
    Fun Tryd.prog n_parse_reader_whole [.ptr o 0] s (.agg (encEx p.1)) ⟨s.objs.set o (encRd p.2), s.toks⟩ := by
  refine Fun.meth ?_ rfl (okRd r) (okRd p.2) (by simp [D.ok, okEx]) ho
  unfold Rd.whole at h
  refine Fun.go has_parse_reader_whole rfl fun B Q hB hQ => ?_
  have hlt : 0 < 1 := Nat.zero_lt_one
  have hget : 0 < 1 := Nat.zero_lt_one
  have hpu : 0 < 1 := Nat.zero_lt_one
  have hinc : 0 < 1 := Nat.zero_lt_one
  repeat' (first
 | simp only [go_sem, hlt, hget, hpu, hinc, Int.reduceLE, ↓reduceIte, reduceCtorEq, Nat.reduceEqDiff, Nat.reduceLeDiff, Nat.reduceAdd, Nat.reduceMul, Nat.reduceSub, Nat.reduceLT]
 | (rw [Option.bind_eq_some_iff] at h; obtain ⟨_, h1, h⟩ := h; first | (with_reducible refine CU (peek_s h1 (by with_unfolding_all rfl)) ?_) | (with_reducible refine CU (depth_s h1 _) ?_) | (with_reducible refine CU (two_s h1 (by with_unfolding_all rfl)) ?_))
 | (with_reducible refine CU (good_s (by with_unfolding_all rfl)) ?_)
 | (with_reducible first | refine CB_ofT (by assumption) fun hc => ?_ | refine CB_ofF (by assumption) fun hc => ?_ | refine CB_split (fun hc => ?_) fun hc => ?_) <;> (try simp only [hc, bs, ↓reduceIte] at h) <;> (try simp only [hc])
 | ((with_reducible first | refine leafR hQ ?_ | refine leafN hQ ?_); (try cases h); simp only [resL, oneD, Option.some.injEq, exists_eq_left', go_sem, hlt, hget, hpu, hinc, Int.reduceLE, ↓reduceIte, reduceCtorEq, Nat.reduceEqDiff, Nat.reduceLeDiff, Nat.reduceAdd, Nat.reduceMul, Nat.reduceSub, Nat.reduceLT]; repeat' (first | exact Ok.out | with_reducible refine And.intro ?_ ?_ | (simp; done)))
 | (cases h; replace h := hr; clear hr; (try simp only [bs, ↓reduceIte] at h))
 | (cases h; done))

end Go.Abs

/-! Ref1 -/

namespace Go.Abs
set_option linter.unusedSimpArgs false
set_option linter.unusedVariables false
open Go.Proofs

/-- The reader's cells; what the last one holds is left open. -/
@[go_sem] def encRc (z : D) (r : Rd) : List D := [.slice .shared 4 (r.l.map encTok), .int .i64 r.i, .int .i64 r.code, .int .i64 r.fat, z]
/-- A plain cell. -/
class Cell (z : D) : Prop where
  ok : D.ok 0 0 z = true
  fg : ∀ n m, D.fg n m z = z
instance (n : Int) : Cell (.int .i64 n) := ⟨rfl, fun _ _ => rfl⟩
instance : Cell .junk := ⟨rfl, fun _ _ => rfl⟩
theorem Cell_fg (z : D) [h : Cell z] (n m : Nat) : D.fg n m z = z := h.fg n m
attribute [go_sem] Cell_fg
/-- Does a word or a sign come, and has there been no fault? -/
def Rd.isO (text : Str) (r : Rd) : Option Bool := if r.good then r.is text else some false

end Go.Abs

/-! Ref2 -/

namespace Go.Abs

set_option maxRecDepth 8000
set_option linter.unusedSimpArgs false
set_option linter.unusedVariables false
open Go.Proofs

def bindsR (s : Str) : Int × Int :=
  if [42] == s then (6, 5) else if [47] == s then (6, 6) else if [37] == s then (6, 7) else if [43] == s then (5, 8) else if [45] == s then (5, 9)
  else if [60] == s then (4, 10) else if [60, 61] == s then (4, 11) else if [62] == s then (4, 12) else if [62, 61] == s then (4, 13)
  else if [61, 61] == s then (3, 14) else if [33, 61] == s then (3, 15) else if [38, 38] == s then (2, 16) else if [124, 124] == s then (1, 17) else (0, 0)

/-- The same signs in the program's order. -/
theorem binds_op (t : Tok) (hk : t.kind = 4) : opOf t = ((bindsR t.text).2, (bindsR t.text).1) := by
  obtain ⟨kind, text, n, pos⟩ := t
  dsimp only at hk
  subst hk
  simp only [opOf]
  by_cases h1 : text = [42]
  · subst h1; rfl
  by_cases h2 : text = [47]
  · subst h2; rfl
  by_cases h3 : text = [37]
  · subst h3; rfl
  by_cases h4 : text = [43]
  · subst h4; rfl
  by_cases h5 : text = [45]
  · subst h5; rfl
  by_cases h6 : text = [60]
  · subst h6; rfl
  by_cases h7 : text = [60, 61]
  · subst h7; rfl
  by_cases h8 : text = [62]
  · subst h8; rfl
  by_cases h9 : text = [62, 61]
  · subst h9; rfl
  by_cases h10 : text = [61, 61]
  · subst h10; rfl
  by_cases h11 : text = [33, 61]
  · subst h11; rfl
  by_cases h12 : text = [38, 38]
  · subst h12; rfl
  by_cases h13 : text = [124, 124]
  · subst h13; rfl
  have e : ∀ c : Str, ¬ text = c → (text == c) = false := fun c h => by simpa using h
  have e' : ∀ c : Str, ¬ text = c → (c == text) = false := fun c h => by simpa using fun h' => h h'.symm
  simp only [bindsR, e _ h1, e _ h2, e _ h3, e _ h4, e _ h5, e _ h6, e _ h7, e _ h8, e _ h9, e _ h10, e _ h11, e _ h12, e _ h13, e' _ h1, e' _ h2, e' _ h3, e' _ h4, e' _ h5, e' _ h6, e' _ h7, e' _ h8, e' _ h9, e' _ h10, e' _ h11, e' _ h12, e' _ h13,
    Bool.false_eq_true, ↓reduceIte]
  rfl
def BZ (p : Int × Int) : Prop := (p.2 == 0) = (p.1 == 0)
end Go.Abs

/-! Ref3 -/

namespace Go.Abs

set_option maxRecDepth 8000
set_option linter.unusedSimpArgs false
set_option linter.unusedVariables false
open Go.Proofs

theorem deep_n : ∀ (most : Nat), most < 1000000 → ∀ x : Ex, x.size < 4611686018427387904 → ∀ s : St, Fun Tryd.prog n_ref3_deep [.agg (encEx x), .int .i64 (most : Int)] s (.int .i64 ((min x.depth (most + 1) : Nat) : Int)) s := by
  intro most
  induction most with
  | zero =>
    rintro _ ⟨op, m, name, kids⟩ hx s
    refine Fun.pure ?_ (by simp [D.oks, D.ok, okEx]) rfl s
    have hz : ((0 : Int) == 0) = true := rfl
    have e : min (Ex.depth ⟨op, m, name, kids⟩) (0 + 1) = 1 := by simp only [Ex.depth]; omega
    rw [e]
    unfold S0
    refine Fun.go has_ref3_deep rfl fun B Q hB hQ => ?_
    have hlt : 0 < 1 := Nat.zero_lt_one
    have hget : 0 < 1 := Nat.zero_lt_one
    have hpu : 0 < 1 := Nat.zero_lt_one
    have hinc : 0 < 1 := Nat.zero_lt_one
    repeat' (first
 | simp only [go_sem, hlt, hget, hpu, hinc, Int.reduceLE, ↓reduceIte, reduceCtorEq, Nat.reduceEqDiff, Nat.reduceLeDiff, Nat.reduceAdd, Nat.reduceMul, Nat.reduceSub, Nat.reduceLT, hz]
 | (with_reducible first | refine CB_ofT (by assumption) fun hc => ?_ | refine CB_ofF (by assumption) fun hc => ?_ | refine CB_split (fun hc => ?_) fun hc => ?_) <;> (try simp only [hc, bs, ↓reduceIte] at h) <;> (try simp only [hc])
 | ((with_reducible first | refine leafR hQ ?_ | refine leafN hQ ?_); (try cases h); simp only [resL, oneD, Option.some.injEq, exists_eq_left', go_sem, hlt, hget, hpu, hinc, Int.reduceLE, ↓reduceIte, reduceCtorEq, Nat.reduceEqDiff, Nat.reduceLeDiff, Nat.reduceAdd, Nat.reduceMul, Nat.reduceSub, Nat.reduceLT, hz]; repeat' (first | exact Ok.out | with_reducible refine And.intro ?_ ?_ | (simp; done)))
 | (cases h; replace h := hr; clear hr; (try simp only [bs, ↓reduceIte] at h))
 | (cases h; done))
  | succ most ih =>
    rintro hmost ⟨op, m, name, kids⟩ hx s
    refine Fun.pure ?_ (by simp [D.oks, D.ok, okEx]) rfl s
    have hlen : kids.length < 4611686018427387904 := by simp only [Ex.size] at hx; have := Ex.sizes_len kids; omega
    have hk : ∀ y ∈ kids, ∀ s, Fun Tryd.prog n_ref3_deep [.agg (encEx y), .int .i64 (most : Int)] s (.int .i64 ((min y.depth (most + 1) : Nat) : Int)) s := fun y hy s =>
      ih (by omega) y (by simp only [Ex.size] at hx; have := Ex.sizes_mem hy; omega) s
    have hz : (((most + 1 : Nat) : Int) == 0) = false := by simp; omega
    have w1 : IntKind.wrap .i64 (((most + 1 : Nat) : Int) - 1) = (most : Int) := by rw [wrap_ok] <;> omega
    unfold S0
    refine Fun.go has_ref3_deep rfl fun B Q hB hQ => ?_
    have hlt : 0 < 1 := Nat.zero_lt_one
    have hget : 0 < 1 := Nat.zero_lt_one
    have hpu : 0 < 1 := Nat.zero_lt_one
    have hinc : 0 < 1 := Nat.zero_lt_one
    repeat' (first
 | simp only [go_sem, hlt, hget, hpu, hinc, Int.reduceLE, ↓reduceIte, reduceCtorEq, Nat.reduceEqDiff, Nat.reduceLeDiff, Nat.reduceAdd, Nat.reduceMul, Nat.reduceSub, Nat.reduceLT, hz]
 | (with_reducible first | refine CB_ofT (by assumption) fun hc => ?_ | refine CB_ofF (by assumption) fun hc => ?_ | refine CB_split (fun hc => ?_) fun hc => ?_) <;> (try simp only [hc, bs, ↓reduceIte] at h) <;> (try simp only [hc])
 | ((with_reducible first | refine leafR hQ ?_ | refine leafN hQ ?_); (try cases h); simp only [resL, oneD, Option.some.injEq, exists_eq_left', go_sem, hlt, hget, hpu, hinc, Int.reduceLE, ↓reduceIte, reduceCtorEq, Nat.reduceEqDiff, Nat.reduceLeDiff, Nat.reduceAdd, Nat.reduceMul, Nat.reduceSub, Nat.reduceLT, hz]; repeat' (first | exact Ok.out | with_reducible refine And.intro ?_ ?_ | (simp; done)))
 | (cases h; replace h := hr; clear hr; (try simp only [bs, ↓reduceIte] at h))
 | (cases h; done))
    refine SemL.re _ _ 1 0 (by rw [hB]; exact Nat.le_of_ble_eq_true rfl) (by rw [hB]; exact Nat.le_of_ble_eq_true rfl) ?_ ?_ (SemL.ind (ι := List Ex × Nat × Nat) (fun i => kids.drop i.2.1 = i.1 ∧ i.2.2 ≤ most + 1 ∧ min (max i.2.2 (Ex.depths i.1)) (most + 1) = min (Ex.depths kids) (most + 1)) (fun i => i.1.length)
      (fun i => [(1, .int .i64 ((most + 1 : Nat) : Int)), (2, .ptr 0 0), (5, .int .i64 (i.2.2 : Int)), (6, .int .i64 (i.2.1 : Int))]) (fun i => ⟨[encEx ⟨op, m, name, kids⟩], []⟩) ?_ (kids, 0, 0) ⟨rfl, Nat.zero_le _, by simp⟩)
    · (simp only [go_sem, hlt, hget, hpu, hinc, Int.reduceLE, ↓reduceIte, reduceCtorEq, Nat.reduceEqDiff, Nat.reduceLeDiff, Nat.reduceAdd, Nat.reduceMul, Nat.reduceSub, Nat.reduceLT]; repeat' (first | exact Ok.out | with_reducible refine And.intro ?_ ?_))
    · (simp only [go_sem, hlt, hget, hpu, hinc, Int.reduceLE, ↓reduceIte, reduceCtorEq, Nat.reduceEqDiff, Nat.reduceLeDiff, Nat.reduceAdd, Nat.reduceMul, Nat.reduceSub, Nat.reduceLT]; repeat' (first | exact Ok.out | with_reducible refine And.intro ?_ ?_))
    rintro ⟨rest, k, d⟩ ⟨h1, h2, h3⟩ IH
    dsimp only at h1 h2 h3
    have hd : min (Ex.depth ⟨op, m, name, kids⟩) (most + 1 + 1) = min (Ex.depths kids) (most + 1) + 1 := by simp only [Ex.depth]; omega
    rw [hd, ← h3] at hQ
    have w2 : IntKind.wrap .i64 ((d : Int) + 1) = ((d + 1 : Nat) : Int) := by rw [wrap_ok] <;> omega
    by_cases hmax : d < most + 1
    · have c2 : decide ((d : Int) < ((most + 1 : Nat) : Int)) = true := by simp; omega
      cases rest with
      | nil =>
        have hlt := drop_nil h1
        simp only [Ex.depths, Nat.max_zero] at hQ
        have e : min d (most + 1) = d := by omega
        rw [e] at hQ
        repeat' (first
 | simp only [go_sem, hlt, hget, hpu, hinc, Int.reduceLE, ↓reduceIte, reduceCtorEq, Nat.reduceEqDiff, Nat.reduceLeDiff, Nat.reduceAdd, Nat.reduceMul, Nat.reduceSub, Nat.reduceLT, c2, w2]
 | (with_reducible first | refine CB_ofT (by assumption) fun hc => ?_ | refine CB_ofF (by assumption) fun hc => ?_ | refine CB_split (fun hc => ?_) fun hc => ?_) <;> (try simp only [hc, bs, ↓reduceIte] at h) <;> (try simp only [hc])
 | ((with_reducible first | refine leafR hQ ?_ | refine leafN hQ ?_); (try cases h); simp only [resL, oneD, Option.some.injEq, exists_eq_left', go_sem, hlt, hget, hpu, hinc, Int.reduceLE, ↓reduceIte, reduceCtorEq, Nat.reduceEqDiff, Nat.reduceLeDiff, Nat.reduceAdd, Nat.reduceMul, Nat.reduceSub, Nat.reduceLT, c2, w2]; repeat' (first | exact Ok.out | with_reducible refine And.intro ?_ ?_ | (simp; done)))
 | (cases h; replace h := hr; clear hr; (try simp only [bs, ↓reduceIte] at h))
 | (cases h; done))
      | cons y rest =>
        obtain ⟨hget, g2, hlt, g4⟩ := drop_cons h1
        have hy := hk y (List.mem_of_getElem? hget)
        simp only [Ex.depths] at h3
        have hk2 : k < 4611686018427387904 := by omega
        by_cases hgt : min y.depth (most + 1) > d
        · have c3 : decide (((min y.depth (most + 1) : Nat) : Int) > (d : Int)) = true := by simp only [decide_eq_true_eq]; omega
          repeat' (first
 | simp only [go_sem, hlt, hget, hpu, hinc, Int.reduceLE, ↓reduceIte, reduceCtorEq, Nat.reduceEqDiff, Nat.reduceLeDiff, Nat.reduceAdd, Nat.reduceMul, Nat.reduceSub, Nat.reduceLT, c2, w1, c3]
 | (with_reducible refine CU (hy _) ?_)
 | (with_reducible first | refine CB_ofT (by assumption) fun hc => ?_ | refine CB_ofF (by assumption) fun hc => ?_ | refine CB_split (fun hc => ?_) fun hc => ?_) <;> (try simp only [hc, bs, ↓reduceIte] at h) <;> (try simp only [hc])
 | ((with_reducible first | refine leafR hQ ?_ | refine leafN hQ ?_); (try cases h); simp only [resL, oneD, Option.some.injEq, exists_eq_left', go_sem, hlt, hget, hpu, hinc, Int.reduceLE, ↓reduceIte, reduceCtorEq, Nat.reduceEqDiff, Nat.reduceLeDiff, Nat.reduceAdd, Nat.reduceMul, Nat.reduceSub, Nat.reduceLT, c2, w1, c3]; repeat' (first | exact Ok.out | with_reducible refine And.intro ?_ ?_ | (simp; done)))
 | (cases h; replace h := hr; clear hr; (try simp only [bs, ↓reduceIte] at h))
 | (cases h; done))
          refine SemL.re _ _ 1 0 (by rw [hB]; exact Nat.le_of_ble_eq_true rfl) (by rw [hB]; exact Nat.le_of_ble_eq_true rfl) ?_ ?_ (IH (rest, k + 1, min y.depth (most + 1)) ⟨g2, by dsimp only; omega, by dsimp only; omega⟩ (Nat.lt_succ_self _))
          · (simp only [go_sem, hlt, hget, hpu, hinc, Int.reduceLE, ↓reduceIte, reduceCtorEq, Nat.reduceEqDiff, Nat.reduceLeDiff, Nat.reduceAdd, Nat.reduceMul, Nat.reduceSub, Nat.reduceLT, wrap_inc hk2]; repeat' (first | exact Ok.out | with_reducible refine And.intro ?_ ?_))
          · (simp only [go_sem, hlt, hget, hpu, hinc, Int.reduceLE, ↓reduceIte, reduceCtorEq, Nat.reduceEqDiff, Nat.reduceLeDiff, Nat.reduceAdd, Nat.reduceMul, Nat.reduceSub, Nat.reduceLT, wrap_inc hk2]; repeat' (first | exact Ok.out | with_reducible refine And.intro ?_ ?_))
        · have c3 : decide (((min y.depth (most + 1) : Nat) : Int) > (d : Int)) = false := by simp only [decide_eq_false_iff_not]; omega
          repeat' (first
 | simp only [go_sem, hlt, hget, hpu, hinc, Int.reduceLE, ↓reduceIte, reduceCtorEq, Nat.reduceEqDiff, Nat.reduceLeDiff, Nat.reduceAdd, Nat.reduceMul, Nat.reduceSub, Nat.reduceLT, c2, w1, c3]
 | (with_reducible refine CU (hy _) ?_)
 | (with_reducible first | refine CB_ofT (by assumption) fun hc => ?_ | refine CB_ofF (by assumption) fun hc => ?_ | refine CB_split (fun hc => ?_) fun hc => ?_) <;> (try simp only [hc, bs, ↓reduceIte] at h) <;> (try simp only [hc])
 | ((with_reducible first | refine leafR hQ ?_ | refine leafN hQ ?_); (try cases h); simp only [resL, oneD, Option.some.injEq, exists_eq_left', go_sem, hlt, hget, hpu, hinc, Int.reduceLE, ↓reduceIte, reduceCtorEq, Nat.reduceEqDiff, Nat.reduceLeDiff, Nat.reduceAdd, Nat.reduceMul, Nat.reduceSub, Nat.reduceLT, c2, w1, c3]; repeat' (first | exact Ok.out | with_reducible refine And.intro ?_ ?_ | (simp; done)))
 | (cases h; replace h := hr; clear hr; (try simp only [bs, ↓reduceIte] at h))
 | (cases h; done))
          refine SemL.re _ _ 1 0 (by rw [hB]; exact Nat.le_of_ble_eq_true rfl) (by rw [hB]; exact Nat.le_of_ble_eq_true rfl) ?_ ?_ (IH (rest, k + 1, d) ⟨g2, h2, by dsimp only; omega⟩ (Nat.lt_succ_self _))
          · (simp only [go_sem, hlt, hget, hpu, hinc, Int.reduceLE, ↓reduceIte, reduceCtorEq, Nat.reduceEqDiff, Nat.reduceLeDiff, Nat.reduceAdd, Nat.reduceMul, Nat.reduceSub, Nat.reduceLT, wrap_inc hk2]; repeat' (first | exact Ok.out | with_reducible refine And.intro ?_ ?_))
          · (simp only [go_sem, hlt, hget, hpu, hinc, Int.reduceLE, ↓reduceIte, reduceCtorEq, Nat.reduceEqDiff, Nat.reduceLeDiff, Nat.reduceAdd, Nat.reduceMul, Nat.reduceSub, Nat.reduceLT, wrap_inc hk2]; repeat' (first | exact Ok.out | with_reducible refine And.intro ?_ ?_))
    · have c2 : decide ((d : Int) < ((most + 1 : Nat) : Int)) = false := by simp; omega
      have e : min (max d (Ex.depths rest)) (most + 1) = d := by omega
      rw [e] at hQ
      cases rest with
      | nil =>
        have hlt := drop_nil h1
        repeat' (first
 | simp only [go_sem, hlt, hget, hpu, hinc, Int.reduceLE, ↓reduceIte, reduceCtorEq, Nat.reduceEqDiff, Nat.reduceLeDiff, Nat.reduceAdd, Nat.reduceMul, Nat.reduceSub, Nat.reduceLT, c2, w2]
 | (with_reducible first | refine CB_ofT (by assumption) fun hc => ?_ | refine CB_ofF (by assumption) fun hc => ?_ | refine CB_split (fun hc => ?_) fun hc => ?_) <;> (try simp only [hc, bs, ↓reduceIte] at h) <;> (try simp only [hc])
 | ((with_reducible first | refine leafR hQ ?_ | refine leafN hQ ?_); (try cases h); simp only [resL, oneD, Option.some.injEq, exists_eq_left', go_sem, hlt, hget, hpu, hinc, Int.reduceLE, ↓reduceIte, reduceCtorEq, Nat.reduceEqDiff, Nat.reduceLeDiff, Nat.reduceAdd, Nat.reduceMul, Nat.reduceSub, Nat.reduceLT, c2, w2]; repeat' (first | exact Ok.out | with_reducible refine And.intro ?_ ?_ | (simp; done)))
 | (cases h; replace h := hr; clear hr; (try simp only [bs, ↓reduceIte] at h))
 | (cases h; done))
      | cons y rest =>
        obtain ⟨hget, g2, hlt, g4⟩ := drop_cons h1
        repeat' (first
 | simp only [go_sem, hlt, hget, hpu, hinc, Int.reduceLE, ↓reduceIte, reduceCtorEq, Nat.reduceEqDiff, Nat.reduceLeDiff, Nat.reduceAdd, Nat.reduceMul, Nat.reduceSub, Nat.reduceLT, c2, w2]
 | (with_reducible first | refine CB_ofT (by assumption) fun hc => ?_ | refine CB_ofF (by assumption) fun hc => ?_ | refine CB_split (fun hc => ?_) fun hc => ?_) <;> (try simp only [hc, bs, ↓reduceIte] at h) <;> (try simp only [hc])
 | ((with_reducible first | refine leafR hQ ?_ | refine leafN hQ ?_); (try cases h); simp only [resL, oneD, Option.some.injEq, exists_eq_left', go_sem, hlt, hget, hpu, hinc, Int.reduceLE, ↓reduceIte, reduceCtorEq, Nat.reduceEqDiff, Nat.reduceLeDiff, Nat.reduceAdd, Nat.reduceMul, Nat.reduceSub, Nat.reduceLT, c2, w2]; repeat' (first | exact Ok.out | with_reducible refine And.intro ?_ ?_ | (simp; done)))
 | (cases h; replace h := hr; clear hr; (try simp only [bs, ↓reduceIte] at h))
 | (cases h; done))

theorem EqExpr_n : ∀ N, N < 4611686018427387904 → ∀ x y : Ex, x.size ≤ N → ∀ s : St, Fun Tryd.prog n_ref3_EqExpr [.agg (encEx x), .agg (encEx y)] s (.bool (Ex.beq x y)) s := by
  intro N
  induction N with
  | zero => rintro _ ⟨op, m, name, kids⟩ y h; simp only [Ex.size] at h; omega
  | succ N ih =>
  rintro hN ⟨op, m, name, kids⟩ ⟨op', m', name', kids'⟩ hx s
  refine Fun.pure ?_ (by simp [D.oks, D.ok, okEx]) rfl s
  have hk : ∀ a ∈ kids, ∀ b s, Fun Tryd.prog n_ref3_EqExpr [.agg (encEx a), .agg (encEx b)] s (.bool (Ex.beq a b)) s := fun a ha b s =>
    ih (by omega) a b (by simp only [Ex.size] at hx; have := Ex.sizes_mem ha; omega) s
  have hlen : kids.length < 4611686018427387904 := by simp only [Ex.size] at hx; have := Ex.sizes_len kids; omega
  generalize h : Ex.beq ⟨op, m, name, kids⟩ ⟨op', m', name', kids'⟩ = p
  simp only [Ex.beq] at h
  unfold S0
  refine Fun.go has_ref3_EqExpr rfl fun B Q hB hQ => ?_
  have hlt : 0 < 1 := Nat.zero_lt_one
  have hget : 0 < 1 := Nat.zero_lt_one
  have hpu : 0 < 1 := Nat.zero_lt_one
  have hinc : 0 < 1 := Nat.zero_lt_one
  repeat' (first
 | simp only [go_sem, hlt, hget, hpu, hinc, Int.reduceLE, ↓reduceIte, reduceCtorEq, Nat.reduceEqDiff, Nat.reduceLeDiff, Nat.reduceAdd, Nat.reduceMul, Nat.reduceSub, Nat.reduceLT]
 | (with_reducible first | refine CB_ofT (by assumption) fun hc => ?_ | refine CB_ofF (by assumption) fun hc => ?_ | refine CB_split (fun hc => ?_) fun hc => ?_) <;> (try simp only [hc, bs, ↓reduceIte] at h) <;> (try simp only [hc])
 | ((with_reducible first | refine leafR hQ ?_ | refine leafN hQ ?_); (try cases h); simp only [resL, oneD, Option.some.injEq, exists_eq_left', go_sem, hlt, hget, hpu, hinc, Int.reduceLE, ↓reduceIte, reduceCtorEq, Nat.reduceEqDiff, Nat.reduceLeDiff, Nat.reduceAdd, Nat.reduceMul, Nat.reduceSub, Nat.reduceLT]; repeat' (first | exact Ok.out | with_reducible refine And.intro ?_ ?_ | (simp; done)))
 | (cases h; replace h := hr; clear hr; (try simp only [bs, ↓reduceIte] at h))
 | (cases h; done))
  rename_i hl4
  have hl5 : kids.length = kids'.length := by
    have : ((kids.length : Int) != (kids'.length : Int)) = false := by assumption
    simp only [bne_eq_false_iff_eq] at this
    omega
  refine SemL.re _ _ 2 0 (by rw [hB]; exact Nat.le_of_ble_eq_true rfl) (by rw [hB]; exact Nat.le_of_ble_eq_true rfl) ?_ ?_ (SemL.ind (ι := List Ex × List Ex × Nat) (fun i => kids.drop i.2.2 = i.1 ∧ kids'.drop i.2.2 = i.2.1 ∧ Ex.beqs i.1 i.2.1 = p) (fun i => i.1.length)
    (fun i => [(2, .ptr 0 0), (3, .ptr 1 0), (36, .int .i64 (kids.length : Int)), (37, .int .i64 (i.2.2 : Int))]) (fun i => ⟨[encEx ⟨op, m, name, kids⟩, encEx ⟨op', m', name', kids'⟩], []⟩) ?_ (kids, kids', 0) ⟨rfl, rfl, h⟩)
  · (simp only [go_sem, hlt, hget, hpu, hinc, Int.reduceLE, ↓reduceIte, reduceCtorEq, Nat.reduceEqDiff, Nat.reduceLeDiff, Nat.reduceAdd, Nat.reduceMul, Nat.reduceSub, Nat.reduceLT]; repeat' (first | exact Ok.out | with_reducible refine And.intro ?_ ?_))
  · (simp only [go_sem, hlt, hget, hpu, hinc, Int.reduceLE, ↓reduceIte, reduceCtorEq, Nat.reduceEqDiff, Nat.reduceLeDiff, Nat.reduceAdd, Nat.reduceMul, Nat.reduceSub, Nat.reduceLT]; repeat' (first | exact Ok.out | with_reducible refine And.intro ?_ ?_))
  rintro ⟨r1, r2, k⟩ ⟨h1, h2, h⟩ IH
  dsimp only at h1 h2 h
  cases r1 with
  | nil =>
    have hlt := drop_nil h1
    simp only [Ex.beqs] at h
    repeat' (first
 | simp only [go_sem, hlt, hget, hpu, hinc, Int.reduceLE, ↓reduceIte, reduceCtorEq, Nat.reduceEqDiff, Nat.reduceLeDiff, Nat.reduceAdd, Nat.reduceMul, Nat.reduceSub, Nat.reduceLT]
 | (with_reducible first | refine CB_ofT (by assumption) fun hc => ?_ | refine CB_ofF (by assumption) fun hc => ?_ | refine CB_split (fun hc => ?_) fun hc => ?_) <;> (try simp only [hc, bs, ↓reduceIte] at h) <;> (try simp only [hc])
 | ((with_reducible first | refine leafR hQ ?_ | refine leafN hQ ?_); (try cases h); simp only [resL, oneD, Option.some.injEq, exists_eq_left', go_sem, hlt, hget, hpu, hinc, Int.reduceLE, ↓reduceIte, reduceCtorEq, Nat.reduceEqDiff, Nat.reduceLeDiff, Nat.reduceAdd, Nat.reduceMul, Nat.reduceSub, Nat.reduceLT]; repeat' (first | exact Ok.out | with_reducible refine And.intro ?_ ?_ | (simp; done)))
 | (cases h; replace h := hr; clear hr; (try simp only [bs, ↓reduceIte] at h))
 | (cases h; done))
  | cons a r1 =>
    obtain ⟨hget, g2, hlt, g4⟩ := drop_cons h1
    cases r2 with
    | nil => have := List.drop_eq_nil_iff.1 h2; omega
    | cons b r2 =>
      obtain ⟨hgb, b2, _, _⟩ := drop_cons h2
      have hk2 : k < 4611686018427387904 := by omega
      have hab := hk a (List.mem_of_getElem? hget)
      simp only [Ex.beqs] at h
      repeat' (first
 | simp only [go_sem, hlt, hget, hpu, hinc, Int.reduceLE, ↓reduceIte, reduceCtorEq, Nat.reduceEqDiff, Nat.reduceLeDiff, Nat.reduceAdd, Nat.reduceMul, Nat.reduceSub, Nat.reduceLT, hgb]
 | (with_reducible refine CU (hab _ _) ?_)
 | (with_reducible first | refine CB_ofT (by assumption) fun hc => ?_ | refine CB_ofF (by assumption) fun hc => ?_ | refine CB_split (fun hc => ?_) fun hc => ?_) <;> (try simp only [hc, bs, ↓reduceIte] at h) <;> (try simp only [hc])
 | ((with_reducible first | refine leafR hQ ?_ | refine leafN hQ ?_); (try cases h); simp only [resL, oneD, Option.some.injEq, exists_eq_left', go_sem, hlt, hget, hpu, hinc, Int.reduceLE, ↓reduceIte, reduceCtorEq, Nat.reduceEqDiff, Nat.reduceLeDiff, Nat.reduceAdd, Nat.reduceMul, Nat.reduceSub, Nat.reduceLT, hgb]; repeat' (first | exact Ok.out | with_reducible refine And.intro ?_ ?_ | (simp; done)))
 | (cases h; replace h := hr; clear hr; (try simp only [bs, ↓reduceIte] at h))
 | (cases h; done))
      refine SemL.re _ _ 2 0 (by rw [hB]; exact Nat.le_of_ble_eq_true rfl) (by rw [hB]; exact Nat.le_of_ble_eq_true rfl) ?_ ?_ (IH (r1, r2, k + 1) ⟨g2, b2, h⟩ (Nat.lt_succ_self _))
      · (simp only [go_sem, hlt, hget, hpu, hinc, Int.reduceLE, ↓reduceIte, reduceCtorEq, Nat.reduceEqDiff, Nat.reduceLeDiff, Nat.reduceAdd, Nat.reduceMul, Nat.reduceSub, Nat.reduceLT, wrap_inc hk2]; repeat' (first | exact Ok.out | with_reducible refine And.intro ?_ ?_))
      · (simp only [go_sem, hlt, hget, hpu, hinc, Int.reduceLE, ↓reduceIte, reduceCtorEq, Nat.reduceEqDiff, Nat.reduceLeDiff, Nat.reduceAdd, Nat.reduceMul, Nat.reduceSub, Nat.reduceLT, wrap_inc hk2]; repeat' (first | exact Ok.out | with_reducible refine And.intro ?_ ?_))

theorem EqExpr_s {x y : Ex} (hx : x.size < 4611686018427387904) (s : St) : Fun Tryd.prog n_ref3_EqExpr [.agg (encEx x), .agg (encEx y)] s (.bool (Ex.beq x y)) s := EqExpr_n _ hx x y (Nat.le_refl _) s

end Go.Abs
