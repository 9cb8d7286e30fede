/-
  What is proved here: part 2 of the road to the claim (Codes1, Have1, Codes2, Have2, Codes3, Have3, Prs, Lex1, Lex2, RefLex1, Prs2, Ref1, Ref2, Ref3).
  No conditions.
-/
import Derived.Test.YtcknbmdkefcinaaDoorPyF1
import Derived.Test.YtcknbmdkefcinaaDoorProg
import Derived.KernelRfl

set_option linter.unusedSimpArgs false
set_option linter.unusedVariables false

/-! Codes1 -/

namespace Go.Abs

abbrev Q93 : AC := .run [(.op (some 6) none (.mv (.s 1))), (.op (some 7) none (.bin .gtr (.s 6) (.k (.int .i64 0))))]
abbrev Q94 : AC := .cond (.s 7) .skip (.exit 0)
abbrev Q95 : AC := .seq Q93 Q94
abbrev Q96 : AC := .run [(.op (some 10) none (.mv (.s 0))), (.op (some 11) none (.nilck (.s 10))), (.op (some 12) none (.faddr (.s 11) 0)), (.call (some 13) none n_strings_Builder_WriteByte [(.s 12), (.k (.int .u8 32))])]
abbrev Q97 : AC := .block 1 Q96
abbrev Q98 : AC := .run [(.op (some 8) none (.mv (.s 1))), (.op (some 9) none (.bin .sub (.s 8) (.k (.int .i64 1)))), (.op (some 1) none (.mv (.s 9)))]
abbrev Q99 : AC := .seq Q97 Q98
abbrev Q9A : AC := .seq Q95 Q99
abbrev Q9B : AC := .loop Q9A
abbrev Q9C : AC := .block 0 Q9B
abbrev Q9D : AC := .run [(.op (some 14) none (.mv (.s 0))), (.op (some 15) none (.nilck (.s 14))), (.op (some 16) none (.faddr (.s 15) 0)), (.op (some 17) none (.mv (.s 2))), (.call (some 18) none n_strings_Builder_WriteString [(.s 16), (.s 17)])]
abbrev Q9E : AC := .run [(.op (some 19) none (.mv (.s 0))), (.op (some 20) none (.nilck (.s 19))), (.op (some 21) none (.faddr (.s 20) 0)), (.call (some 22) none n_strings_Builder_WriteByte [(.s 21), (.k (.int .u8 10))])]
abbrev Q9F : AC := .seq Q9D Q9E
abbrev Q9G : AC := .seq Q9C Q9F
abbrev Q9H : AC := .run [(.op (some 2) none (.mv (.k (.str []))))]
abbrev Q9I : AC := .run [(.op (some 3) none (.mv (.s 0)))]
abbrev Q9J : AC := .run [(.op (some 2) none (.mv (.k (.str [114, 101, 102, 32]))))]
abbrev Q9K : AC := .seq Q9J .ret
abbrev Q9L : AC := .cond (.s 3) Q9K .skip
abbrev Q9M : AC := .seq Q9I Q9L
abbrev Q9N : AC := .run [(.op (some 2) none (.mv (.k (.str []))))]
abbrev Q9O : AC := .seq Q9N .ret
abbrev Q9P : AC := .seq Q9M Q9O
abbrev Q9Q : AC := .seq Q9H Q9P
abbrev Q9R : AC := .run [(.op (some 9) none (.mv (.s 1))), (.op (some 10) none (.len (.s 9))), (.op (some 11) none (.mv (.k (.int .i64 0))))]
abbrev Q9S : AC := .run [(.op (some 12) none (.bin .lss (.s 11) (.s 10)))]
abbrev Q9T : AC := .cond (.s 12) .skip (.exit 0)
abbrev Q9U : AC := .run [(.op (some 13) none (.iaddr (.s 9) (.s 11) 13)), (.op (some 14) none (.load (.s 13) true 13)), (.op (some 7) none (.alloc [(.int .i64 0), (.int .i64 0), (.slice .full 0 []), (.str []), (.str []), (.int .i64 0), (.int .i64 0), (.str []), (.slice .full 0 []), (.bool false), (.slice .full 0 []), (.slice .full 0 []), (.slice .full 0 [])])), (.op none none (.store (.s 7) (.s 14) 13))]
abbrev Q9V : AC := .run [(.op (some 15) none (.faddr (.s 7) 2)), (.op (some 16) none (.load (.s 15) false 1)), (.call (some 17) none n_print_marks [(.s 16)]), (.op (some 8) none (.mv (.s 17)))]
abbrev Q9W : AC := .run [(.op (some 18) none (.faddr (.s 7) 1)), (.op (some 19) none (.load (.s 18) false 1))]
abbrev Q9X : AC := .run [(.op (some 29) none (.bin .eql (.s 19) (.k (.int .i64 6)))), (.op (some 28) none (.mv (.s 29)))]
abbrev Q9Y : AC := .run [(.op (some 30) none (.mv (.s 0))), (.op (some 31) none (.mv (.s 2))), (.op (some 32) none (.mv (.s 8))), (.op (some 33) none (.bin .add (.s 32) (.k (.str [119, 104, 105, 108, 101, 32, 40])))), (.op (some 34) none (.faddr (.s 7) 5)), (.op (some 35) none (.load (.s 34) true 4)), (.call (some 36) none n_print_expr [(.s 35), (.k (.int .i64 0))]), (.op (some 37) none (.bin .add (.s 33) (.s 36))), (.op (some 38) none (.bin .add (.s 37) (.k (.str [41, 32, 123])))), (.call (some 39) none n_print_writer_line [(.s 30), (.s 31), (.s 38)])]
abbrev Q9Z : AC := .run [(.op (some 40) none (.mv (.s 0))), (.op (some 41) none (.faddr (.s 7) 11)), (.op (some 42) none (.load (.s 41) false 1)), (.op (some 43) none (.mv (.s 2))), (.op (some 44) none (.bin .add (.s 43) (.k (.int .i64 1)))), (.call (some 45) none n_print_writer_rows [(.s 40), (.s 42), (.s 44)])]
abbrev QA0 : AC := .run [(.op (some 46) none (.mv (.s 0))), (.op (some 47) none (.mv (.s 2))), (.call (some 48) none n_print_writer_line [(.s 46), (.s 47), (.k (.str [125]))])]
abbrev QA1 : AC := .seq Q9Z QA0
abbrev QA2 : AC := .seq Q9Y QA1
abbrev QA3 : AC := .run [(.op (some 50) none (.bin .eql (.s 19) (.k (.int .i64 5)))), (.op (some 49) none (.mv (.s 50)))]
abbrev QA4 : AC := .run [(.op (some 51) none (.mv (.s 0))), (.op (some 52) none (.mv (.s 2))), (.op (some 53) none (.mv (.s 8))), (.op (some 54) none (.bin .add (.s 53) (.k (.str [105, 102, 32, 40])))), (.op (some 55) none (.faddr (.s 7) 5)), (.op (some 56) none (.load (.s 55) true 4)), (.call (some 57) none n_print_expr [(.s 56), (.k (.int .i64 0))]), (.op (some 58) none (.bin .add (.s 54) (.s 57))), (.op (some 59) none (.bin .add (.s 58) (.k (.str [41, 32, 123])))), (.call (some 60) none n_print_writer_line [(.s 51), (.s 52), (.s 59)])]
abbrev QA5 : AC := .run [(.op (some 61) none (.mv (.s 0))), (.op (some 62) none (.faddr (.s 7) 11)), (.op (some 63) none (.load (.s 62) false 1)), (.op (some 64) none (.mv (.s 2))), (.op (some 65) none (.bin .add (.s 64) (.k (.int .i64 1)))), (.call (some 66) none n_print_writer_rows [(.s 61), (.s 63), (.s 65)])]
abbrev QA6 : AC := .run [(.op (some 67) none (.faddr (.s 7) 12)), (.op (some 68) none (.load (.s 67) false 1)), (.op (some 69) none (.len (.s 68))), (.op (some 70) none (.bin .gtr (.s 69) (.k (.int .i64 0))))]
abbrev QA7 : AC := .run [(.op (some 71) none (.mv (.s 0))), (.op (some 72) none (.mv (.s 2))), (.call (some 73) none n_print_writer_line [(.s 71), (.s 72), (.k (.str [125, 32, 101, 108, 115, 101, 32, 123]))])]
abbrev QA8 : AC := .run [(.op (some 74) none (.mv (.s 0))), (.op (some 75) none (.faddr (.s 7) 12)), (.op (some 76) none (.load (.s 75) false 1)), (.op (some 77) none (.mv (.s 2))), (.op (some 78) none (.bin .add (.s 77) (.k (.int .i64 1)))), (.call (some 79) none n_print_writer_rows [(.s 74), (.s 76), (.s 78)])]
abbrev QA9 : AC := .seq QA7 QA8
abbrev QAA : AC := .cond (.s 70) QA9 .skip
abbrev QAB : AC := .seq QA6 QAA
abbrev QAC : AC := .run [(.op (some 80) none (.mv (.s 0))), (.op (some 81) none (.mv (.s 2))), (.call (some 82) none n_print_writer_line [(.s 80), (.s 81), (.k (.str [125]))])]
abbrev QAD : AC := .seq QAB QAC
abbrev QAE : AC := .seq QA5 QAD
abbrev QAF : AC := .seq QA4 QAE
abbrev QAG : AC := .run [(.op (some 20) none (.mv (.s 0))), (.op (some 21) none (.mv (.s 2))), (.op (some 22) none (.mv (.s 8))), (.op (some 23) none (.load (.s 7) true 13)), (.call (some 24) none n_print_plain [(.s 23)]), (.op (some 25) none (.bin .add (.s 22) (.s 24))), (.op (some 26) none (.bin .add (.s 25) (.k (.str [59])))), (.call (some 27) none n_print_writer_line [(.s 20), (.s 21), (.s 26)])]
abbrev QAH : AC := .cond (.s 49) QAF QAG
abbrev QAI : AC := .seq QA3 QAH
abbrev QAJ : AC := .cond (.s 28) QA2 QAI
abbrev QAK : AC := .seq Q9X QAJ
abbrev QAL : AC := .block 2 QAK
abbrev QAM : AC := .seq Q9W QAL
abbrev QAN : AC := .seq Q9V QAM
abbrev QAO : AC := .seq Q9U QAN
abbrev QAP : AC := .block 1 QAO
abbrev QAQ : AC := .run [(.op (some 83) none (.bin .add (.s 11) (.k (.int .i64 1)))), (.op (some 11) none (.mv (.s 83)))]
abbrev QAR : AC := .seq QAP QAQ
abbrev QAS : AC := .seq Q9T QAR
abbrev QAT : AC := .seq Q9S QAS
abbrev QAU : AC := .loop QAT
abbrev QAV : AC := .block 0 QAU
abbrev QAW : AC := .seq Q9R QAV
abbrev QAX : AC := .run [(.op (some 2) none (.mv (.k (.str []))))]
abbrev QAY : AC := .run [(.op (some 3) none (.mv (.k (.str []))))]
abbrev QAZ : AC := .run [(.op (some 6) none (.mv (.s 0))), (.op (some 7) none (.len (.s 6))), (.op (some 8) none (.mv (.k (.int .i64 0))))]
abbrev QB0 : AC := .run [(.op (some 9) none (.bin .lss (.s 8) (.s 7)))]
abbrev QB1 : AC := .cond (.s 9) .skip (.exit 0)
abbrev QB2 : AC := .run [(.op (some 10) none (.iaddr (.s 6) (.s 8) 1)), (.op (some 11) none (.load (.s 10) false 1)), (.op (some 5) none (.mv (.s 11)))]
abbrev QB3 : AC := .run [(.op (some 12) none (.mv (.s 3))), (.op (some 13) none (.mv (.s 5))), (.op (some 14) none (.bin .add (.s 13) (.k (.str [58, 32])))), (.op (some 15) none (.bin .add (.s 12) (.s 14))), (.op (some 3) none (.mv (.s 15)))]
abbrev QB4 : AC := .seq QB2 QB3
abbrev QB5 : AC := .block 1 QB4
abbrev QB6 : AC := .run [(.op (some 16) none (.bin .add (.s 8) (.k (.int .i64 1)))), (.op (some 8) none (.mv (.s 16)))]
abbrev QB7 : AC := .seq QB5 QB6
abbrev QB8 : AC := .seq QB1 QB7
abbrev QB9 : AC := .seq QB0 QB8
abbrev QBA : AC := .loop QB9
abbrev QBB : AC := .block 0 QBA
abbrev QBC : AC := .seq QAZ QBB
abbrev QBD : AC := .run [(.op (some 17) none (.mv (.s 3))), (.op (some 2) none (.mv (.s 17)))]
abbrev QBE : AC := .seq QBD .ret
abbrev QBF : AC := .seq QBC QBE
abbrev QBG : AC := .seq QAY QBF
abbrev QBH : AC := .seq QAX QBG
abbrev QBI : AC := .run [(.op (some 2) none (.box (.s 0))), (.op (some 4) none (.mv (.k (.int .i64 0))))]
abbrev QBJ : AC := .run [(.op (some 6) none (.faddr (.s 2) 2)), (.op (some 7) none (.load (.s 6) false 1)), (.op (some 8) none (.mv (.s 1))), (.call (some 9) none n_ref3_weighText [(.s 7), (.s 8)]), (.op (some 1) none (.mv (.s 9)))]
abbrev QBK : AC := .run [(.op (some 5) none (.mv (.k (.int .i64 0))))]
abbrev QBL : AC := .run [(.op (some 10) none (.mv (.s 5))), (.op (some 11) none (.faddr (.s 2) 3)), (.op (some 12) none (.load (.s 11) false 1)), (.op (some 13) none (.len (.s 12))), (.op (some 14) none (.bin .lss (.s 10) (.s 13))), (.op (some 15) none (.mv (.s 14))), (.op (some 16) (some (15, true)) (.mv (.s 1))), (.op (some 17) (some (15, true)) (.bin .leq (.s 16) (.k (.int .i64 20000)))), (.op (some 18) none (.pick (.s 15) (.s 17) (.k (.bool false))))]
abbrev QBM : AC := .cond (.s 18) .skip (.exit 0)
abbrev QBN : AC := .seq QBL QBM
abbrev QBO : AC := .run [(.op (some 21) none (.faddr (.s 2) 3)), (.op (some 22) none (.load (.s 21) false 1)), (.op (some 23) none (.mv (.s 5))), (.op (some 24) none (.iaddr (.s 22) (.s 23) 4)), (.op (some 25) none (.load (.s 24) true 4)), (.op (some 26) none (.mv (.s 1))), (.call (some 27) none n_ref3_weighExpr [(.s 25), (.s 26)]), (.op (some 1) none (.mv (.s 27)))]
abbrev QBP : AC := .block 1 QBO
abbrev QBQ : AC := .run [(.op (some 19) none (.mv (.s 5))), (.op (some 20) none (.bin .add (.s 19) (.k (.int .i64 1)))), (.op (some 5) none (.mv (.s 20)))]
abbrev QBR : AC := .seq QBP QBQ
abbrev QBS : AC := .seq QBN QBR
abbrev QBT : AC := .loop QBS
abbrev QBU : AC := .block 0 QBT
abbrev QBV : AC := .seq QBK QBU
abbrev QBW : AC := .run [(.op (some 28) none (.mv (.s 1))), (.op (some 4) none (.mv (.s 28)))]
abbrev QBX : AC := .seq QBW .ret
abbrev QBY : AC := .seq QBV QBX
abbrev QBZ : AC := .seq QBJ QBY
abbrev QC0 : AC := .seq QBI QBZ
abbrev QC1 : AC := .run [(.op (some 1) none (.box (.s 0))), (.op (some 2) none (.mv (.k (.bool false))))]
abbrev QC2 : AC := .run [(.op (some 3) none (.load (.s 1) true 4)), (.call (some 4) none n_tree_deep [(.s 3), (.k (.int .i64 20))]), (.op (some 2) none (.mv (.s 4)))]
abbrev QC3 : AC := .seq QC2 .ret
abbrev QC4 : AC := .seq QC1 QC3
abbrev QC5 : AC := .run [(.op (some 2) none (.box (.s 0))), (.op (some 4) none (.mv (.k (.str []))))]
abbrev QC6 : AC := .run [(.op (some 8) none (.faddr (.s 2) 0)), (.op (some 9) none (.load (.s 8) false 1))]
abbrev QC7 : AC := .run [(.op (some 11) none (.bin .eql (.s 9) (.k (.int .i64 1)))), (.op (some 10) none (.mv (.s 11)))]
abbrev QC8 : AC := .run [(.op (some 12) none (.faddr (.s 2) 1)), (.op (some 13) none (.load (.s 12) false 1)), (.call (some 14) none n_strconv_FormatInt [(.s 13), (.k (.int .i64 10))]), (.op (some 4) none (.mv (.s 14)))]
abbrev QC9 : AC := .seq QC8 .ret
abbrev QCA : AC := .run [(.op (some 16) none (.bin .eql (.s 9) (.k (.int .i64 2)))), (.op (some 15) none (.mv (.s 16)))]
abbrev QCB : AC := .run [(.op (some 17) none (.faddr (.s 2) 2)), (.op (some 18) none (.load (.s 17) false 1)), (.op (some 4) none (.mv (.s 18)))]
abbrev QCC : AC := .seq QCB .ret
abbrev QCD : AC := .run [(.op (some 20) none (.bin .eql (.s 9) (.k (.int .i64 3)))), (.op (some 19) none (.mv (.s 20)))]
abbrev QCE : AC := .run [(.op (some 21) none (.faddr (.s 2) 3)), (.op (some 22) none (.load (.s 21) false 1)), (.op (some 23) none (.iaddr (.s 22) (.k (.int .i64 0)) 4)), (.op (some 24) none (.load (.s 23) true 4)), (.call (some 25) none n_print_expr [(.s 24), (.k (.int .i64 7))]), (.op (some 26) none (.bin .add (.k (.str [45])) (.s 25))), (.op (some 4) none (.mv (.s 26)))]
abbrev QCF : AC := .seq QCE .ret
abbrev QCG : AC := .run [(.op (some 28) none (.bin .eql (.s 9) (.k (.int .i64 4)))), (.op (some 27) none (.mv (.s 28)))]
abbrev QCH : AC := .run [(.op (some 29) none (.faddr (.s 2) 3)), (.op (some 30) none (.load (.s 29) false 1)), (.op (some 31) none (.iaddr (.s 30) (.k (.int .i64 0)) 4)), (.op (some 32) none (.load (.s 31) true 4)), (.call (some 33) none n_print_expr [(.s 32), (.k (.int .i64 7))]), (.op (some 34) none (.bin .add (.k (.str [33])) (.s 33))), (.op (some 4) none (.mv (.s 34)))]
abbrev QCI : AC := .seq QCH .ret
abbrev QCJ : AC := .cond (.s 27) QCI .skip
abbrev QCK : AC := .seq QCG QCJ
abbrev QCL : AC := .cond (.s 19) QCF QCK
abbrev QCM : AC := .seq QCD QCL
abbrev QCN : AC := .cond (.s 15) QCC QCM
abbrev QCO : AC := .seq QCA QCN
abbrev QCP : AC := .cond (.s 10) QC9 QCO
abbrev QCQ : AC := .seq QC7 QCP
abbrev QCR : AC := .block 0 QCQ
abbrev QCS : AC := .seq QC6 QCR
abbrev QCT : AC := .run [(.op (some 36) none (.faddr (.s 2) 0)), (.op (some 37) none (.load (.s 36) false 1)), (.call (some 38) none n_print_sign [(.s 37)]), (.op (some 35) none (.mv (.s 38))), (.op (some 39) none (.ext (.s 35) 0)), (.op (some 40) none (.ext (.s 35) 1)), (.op (some 5) none (.mv (.s 39))), (.op (some 6) none (.mv (.s 40)))]
abbrev QCU : AC := .par [(.op (some 41) none (.faddr (.s 2) 3)), (.op (some 42) none (.load (.s 41) false 1)), (.op (some 43) none (.iaddr (.s 42) (.k (.int .i64 0)) 4)), (.op (some 44) none (.load (.s 43) true 4)), (.op (some 45) none (.mv (.s 6))), (.call (some 46) none n_print_expr [(.s 44), (.s 45)]), (.op (some 47) none (.bin .add (.s 46) (.k (.str [32])))), (.op (some 48) none (.mv (.s 5))), (.op (some 49) none (.bin .add (.s 47) (.s 48))), (.op (some 50) none (.bin .add (.s 49) (.k (.str [32])))), (.op (some 51) none (.faddr (.s 2) 3)), (.op (some 52) none (.load (.s 51) false 1)), (.op (some 53) none (.iaddr (.s 52) (.k (.int .i64 1)) 4)), (.op (some 54) none (.load (.s 53) true 4)), (.op (some 55) none (.mv (.s 6))), (.op (some 56) none (.bin .add (.s 55) (.k (.int .i64 1)))), (.call (some 57) none n_print_expr [(.s 54), (.s 56)]), (.op (some 58) none (.bin .add (.s 50) (.s 57))), (.op (some 7) none (.mv (.s 58)))] [(0, 0), (1, 0), (2, 0), (3, 0), (4, 0), (5, 0), (10, 0), (11, 1), (12, 0), (13, 1), (14, 0), (15, 0), (16, 0), (6, 0), (7, 0), (8, 0), (9, 0), (17, 0), (18, 0)]
abbrev QCV : AC := .run [(.op (some 59) none (.mv (.s 6))), (.op (some 60) none (.mv (.s 1))), (.op (some 61) none (.bin .lss (.s 59) (.s 60)))]
abbrev QCW : AC := .run [(.op (some 62) none (.mv (.s 7))), (.op (some 63) none (.bin .add (.k (.str [40])) (.s 62))), (.op (some 64) none (.bin .add (.s 63) (.k (.str [41])))), (.op (some 4) none (.mv (.s 64)))]
abbrev QCX : AC := .seq QCW .ret
abbrev QCY : AC := .cond (.s 61) QCX .skip
abbrev QCZ : AC := .seq QCV QCY
abbrev QD0 : AC := .run [(.op (some 65) none (.mv (.s 7))), (.op (some 4) none (.mv (.s 65)))]
abbrev QD1 : AC := .seq QD0 .ret
abbrev QD2 : AC := .seq QCZ QD1
abbrev QD3 : AC := .seq QCU QD2
abbrev QD4 : AC := .seq QCT QD3
abbrev QD5 : AC := .seq QCS QD4
abbrev QD6 : AC := .seq QC5 QD5
abbrev QD7 : AC := .run [(.op (some 2) none (.mv (.k (.bool false))))]
abbrev QD8 : AC := .run [(.op (some 5) none (.mv (.s 0))), (.op (some 6) none (.len (.s 5))), (.op (some 7) none (.mv (.k (.int .i64 0))))]
abbrev QD9 : AC := .run [(.op (some 8) none (.bin .lss (.s 7) (.s 6)))]
abbrev QDA : AC := .cond (.s 8) .skip (.exit 0)
abbrev QDB : AC := .run [(.op (some 9) none (.iaddr (.s 5) (.s 7) 1)), (.op (some 10) none (.load (.s 9) false 1)), (.op (some 4) none (.mv (.s 10)))]
abbrev QDC : AC := .run [(.op (some 11) none (.mv (.s 4))), (.call (some 12) none n_ref1_Name [(.s 11)]), (.op (some 13) none (.un .not (.s 12)))]
abbrev QDD : AC := .run [(.op (some 2) none (.mv (.k (.bool false))))]
abbrev QDE : AC := .seq QDD .ret
abbrev QDF : AC := .cond (.s 13) QDE .skip
abbrev QDG : AC := .seq QDC QDF
abbrev QDH : AC := .seq QDB QDG
abbrev QDI : AC := .block 1 QDH
abbrev QDJ : AC := .run [(.op (some 14) none (.bin .add (.s 7) (.k (.int .i64 1)))), (.op (some 7) none (.mv (.s 14)))]
abbrev QDK : AC := .seq QDI QDJ
abbrev QDL : AC := .seq QDA QDK
abbrev QDM : AC := .seq QD9 QDL
abbrev QDN : AC := .loop QDM
abbrev QDO : AC := .block 0 QDN
abbrev QDP : AC := .seq QD8 QDO
abbrev QDQ : AC := .run [(.op (some 2) none (.mv (.k (.bool true))))]
abbrev QDR : AC := .seq QDQ .ret
abbrev QDS : AC := .seq QDP QDR
abbrev QDT : AC := .seq QD7 QDS
abbrev QDU : AC := .run [(.op (some 2) none (.mv (.k (.bool false))))]
abbrev QDV : AC := .run [(.op (some 4) none (.mv (.s 0))), (.op (some 5) none (.bin .eql (.s 4) (.k (.str [])))), (.op (some 6) none (.mv (.s 5))), (.op (some 7) (some (6, false)) (.mv (.s 0))), (.op (some 8) (some (6, false)) (.slen (.s 7))), (.op (some 9) (some (6, false)) (.bin .gtr (.s 8) (.k (.int .i64 8)))), (.op (some 10) none (.pick (.s 6) (.k (.bool true)) (.s 9))), (.op (some 11) none (.mv (.s 10))), (.op (some 12) (some (11, false)) (.mv (.s 0))), (.op (some 13) (some (11, false)) (.sidx (.s 12) (.k (.int .i64 0)))), (.call (some 14) (some (11, false)) n_ref1_small [(.s 13)]), (.op (some 15) (some (11, false)) (.un .not (.s 14))), (.op (some 16) none (.pick (.s 11) (.k (.bool true)) (.s 15)))]
abbrev QDW : AC := .run [(.op (some 2) none (.mv (.k (.bool false))))]
abbrev QDX : AC := .seq QDW .ret
abbrev QDY : AC := .cond (.s 16) QDX .skip
abbrev QDZ : AC := .seq QDV QDY
abbrev QE0 : AC := .run [(.op (some 3) none (.mv (.k (.int .i64 1))))]
abbrev QE1 : AC := .run [(.op (some 17) none (.mv (.s 3))), (.op (some 18) none (.mv (.s 0))), (.op (some 19) none (.slen (.s 18))), (.op (some 20) none (.bin .lss (.s 17) (.s 19)))]
abbrev QE2 : AC := .cond (.s 20) .skip (.exit 0)
abbrev QE3 : AC := .seq QE1 QE2
abbrev QE4 : AC := .run [(.op (some 23) none (.mv (.s 0))), (.op (some 24) none (.mv (.s 3))), (.op (some 25) none (.sidx (.s 23) (.s 24))), (.call (some 26) none n_ref1_small [(.s 25)]), (.op (some 27) none (.un .not (.s 26))), (.op (some 28) none (.mv (.s 27))), (.op (some 29) (some (28, true)) (.mv (.s 0))), (.op (some 30) (some (28, true)) (.mv (.s 3))), (.op (some 31) (some (28, true)) (.sidx (.s 29) (.s 30))), (.call (some 32) (some (28, true)) n_ref1_digit [(.s 31)]), (.op (some 33) (some (28, true)) (.un .not (.s 32))), (.op (some 34) none (.pick (.s 28) (.s 33) (.k (.bool false))))]
abbrev QE5 : AC := .run [(.op (some 2) none (.mv (.k (.bool false))))]
abbrev QE6 : AC := .seq QE5 .ret
abbrev QE7 : AC := .cond (.s 34) QE6 .skip
abbrev QE8 : AC := .seq QE4 QE7
abbrev QE9 : AC := .block 1 QE8
abbrev QEA : AC := .run [(.op (some 21) none (.mv (.s 3))), (.op (some 22) none (.bin .add (.s 21) (.k (.int .i64 1)))), (.op (some 3) none (.mv (.s 22)))]
abbrev QEB : AC := .seq QE9 QEA
abbrev QEC : AC := .seq QE3 QEB
abbrev QED : AC := .loop QEC
abbrev QEE : AC := .block 0 QED
abbrev QEF : AC := .seq QE0 QEE
abbrev QEG : AC := .run [(.op (some 35) none (.mv (.s 0))), (.call (some 36) none n_ref1_Word [(.s 35)]), (.op (some 37) none (.un .not (.s 36))), (.op (some 2) none (.mv (.s 37)))]
abbrev QEH : AC := .seq QEG .ret
abbrev QEI : AC := .seq QEF QEH
abbrev QEJ : AC := .seq QDZ QEI
abbrev QEK : AC := .seq QDU QEJ
abbrev QEL : AC := .run [(.op (some 1) none (.box (.s 0))), (.op (some 2) none (.mv (.k (.bool false))))]
abbrev QEM : AC := .run [(.op (some 8) none (.faddr (.s 1) 1)), (.op (some 9) none (.load (.s 8) false 1)), (.op (some 10) none (.bin .eql (.s 9) (.k (.int .i64 1)))), (.op (some 11) none (.mv (.s 10))), (.op (some 12) (some (11, false)) (.faddr (.s 1) 1)), (.op (some 13) (some (11, false)) (.load (.s 12) false 1)), (.op (some 14) (some (11, false)) (.bin .eql (.s 13) (.k (.int .i64 3)))), (.op (some 15) none (.pick (.s 11) (.k (.bool true)) (.s 14))), (.op (some 16) none (.mv (.s 15))), (.op (some 17) (some (16, false)) (.faddr (.s 1) 1)), (.op (some 18) (some (16, false)) (.load (.s 17) false 1)), (.op (some 19) (some (16, false)) (.bin .eql (.s 18) (.k (.int .i64 5)))), (.op (some 20) none (.pick (.s 16) (.k (.bool true)) (.s 19))), (.op (some 21) none (.mv (.s 20))), (.op (some 22) (some (21, false)) (.faddr (.s 1) 1)), (.op (some 23) (some (21, false)) (.load (.s 22) false 1)), (.op (some 24) (some (21, false)) (.bin .eql (.s 23) (.k (.int .i64 6)))), (.op (some 25) none (.pick (.s 21) (.k (.bool true)) (.s 24))), (.op (some 26) none (.mv (.s 25))), (.op (some 27) (some (26, false)) (.faddr (.s 1) 1)), (.op (some 28) (some (26, false)) (.load (.s 27) false 1)), (.op (some 29) (some (26, false)) (.bin .eql (.s 28) (.k (.int .i64 9)))), (.op (some 30) (some (26, false)) (.mv (.s 29))), (.op (some 31) (some (30, true)) (.faddr (.s 1) 9)), (.op (some 32) (some (30, true)) (.load (.s 31) false 1)), (.op (some 33) (some (26, false)) (.pick (.s 30) (.s 32) (.k (.bool false)))), (.op (some 34) none (.pick (.s 26) (.k (.bool true)) (.s 33))), (.op (some 3) none (.mv (.s 34)))]
abbrev QEN : AC := .run [(.op (some 35) none (.faddr (.s 1) 1)), (.op (some 36) none (.load (.s 35) false 1)), (.op (some 37) none (.bin .eql (.s 36) (.k (.int .i64 1)))), (.op (some 38) none (.mv (.s 37))), (.op (some 39) (some (38, false)) (.faddr (.s 1) 1)), (.op (some 40) (some (38, false)) (.load (.s 39) false 1)), (.op (some 41) (some (38, false)) (.bin .eql (.s 40) (.k (.int .i64 2)))), (.op (some 42) none (.pick (.s 38) (.k (.bool true)) (.s 41))), (.op (some 43) none (.mv (.s 42))), (.op (some 44) (some (43, false)) (.faddr (.s 1) 1)), (.op (some 45) (some (43, false)) (.load (.s 44) false 1)), (.op (some 46) (some (43, false)) (.bin .eql (.s 45) (.k (.int .i64 10)))), (.op (some 47) none (.pick (.s 43) (.k (.bool true)) (.s 46))), (.op (some 4) none (.mv (.s 47)))]
abbrev QEO : AC := .run [(.op (some 48) none (.faddr (.s 1) 1)), (.op (some 49) none (.load (.s 48) false 1)), (.op (some 50) none (.bin .eql (.s 49) (.k (.int .i64 4)))), (.op (some 5) none (.mv (.s 50)))]
abbrev QEP : AC := .run [(.op (some 51) none (.faddr (.s 1) 1)), (.op (some 52) none (.load (.s 51) false 1)), (.op (some 53) none (.bin .lss (.s 52) (.k (.int .i64 1)))), (.op (some 54) none (.mv (.s 53))), (.op (some 55) (some (54, false)) (.faddr (.s 1) 1)), (.op (some 56) (some (54, false)) (.load (.s 55) false 1)), (.op (some 57) (some (54, false)) (.bin .gtr (.s 56) (.k (.int .i64 10)))), (.op (some 58) none (.pick (.s 54) (.k (.bool true)) (.s 57))), (.op (some 59) none (.mv (.s 58))), (.op (some 60) (some (59, false)) (.faddr (.s 1) 2)), (.op (some 61) (some (59, false)) (.load (.s 60) false 1)), (.call (some 62) (some (59, false)) n_ref3_names [(.s 61)]), (.op (some 63) (some (59, false)) (.un .not (.s 62))), (.op (some 64) none (.pick (.s 59) (.k (.bool true)) (.s 63))), (.op (some 65) none (.mv (.s 64))), (.op (some 66) (some (65, false)) (.mv (.s 3))), (.op (some 67) (some (65, false)) (.mv (.s 66))), (.op (some 68) (some (67, true)) (.faddr (.s 1) 5)), (.op (some 69) (some (67, true)) (.load (.s 68) true 4)), (.call (some 70) (some (67, true)) n_ref3_MayExpr [(.s 69)]), (.op (some 71) (some (67, true)) (.un .not (.s 70))), (.op (some 72) (some (65, false)) (.pick (.s 67) (.s 71) (.k (.bool false)))), (.op (some 73) none (.pick (.s 65) (.k (.bool true)) (.s 72))), (.op (some 74) none (.mv (.s 73))), (.op (some 75) (some (74, false)) (.mv (.s 3))), (.op (some 76) (some (74, false)) (.un .not (.s 75))), (.op (some 77) (some (74, false)) (.mv (.s 76))), (.op (some 78) (some (77, true)) (.faddr (.s 1) 5)), (.op (some 79) (some (77, true)) (.load (.s 78) true 4)), (.call (some 80) (some (77, true)) n_ref3_none [(.s 79)]), (.op (some 81) (some (77, true)) (.un .not (.s 80))), (.op (some 82) (some (74, false)) (.pick (.s 77) (.s 81) (.k (.bool false)))), (.op (some 83) none (.pick (.s 74) (.k (.bool true)) (.s 82))), (.op (some 84) none (.mv (.s 83))), (.op (some 85) (some (84, false)) (.faddr (.s 1) 9)), (.op (some 86) (some (84, false)) (.load (.s 85) false 1)), (.op (some 87) (some (84, false)) (.mv (.s 86))), (.op (some 88) (some (87, true)) (.faddr (.s 1) 1)), (.op (some 89) (some (87, true)) (.load (.s 88) false 1)), (.op (some 90) (some (87, true)) (.bin .neq (.s 89) (.k (.int .i64 9)))), (.op (some 91) (some (84, false)) (.pick (.s 87) (.s 90) (.k (.bool false)))), (.op (some 92) none (.pick (.s 84) (.k (.bool true)) (.s 91)))]
abbrev QEQ : AC := .run [(.op (some 2) none (.mv (.k (.bool false))))]
abbrev QER : AC := .seq QEQ .ret
abbrev QES : AC := .cond (.s 92) QER .skip
abbrev QET : AC := .seq QEP QES
abbrev QEU : AC := .run [(.op (some 93) none (.mv (.s 4))), (.op (some 94) none (.mv (.s 93))), (.op (some 95) (some (94, true)) (.faddr (.s 1) 3)), (.op (some 96) (some (94, true)) (.load (.s 95) false 1)), (.call (some 97) (some (94, true)) n_ref1_Name [(.s 96)]), (.op (some 98) (some (94, true)) (.un .not (.s 97))), (.op (some 99) none (.pick (.s 94) (.s 98) (.k (.bool false)))), (.op (some 100) none (.mv (.s 99))), (.op (some 101) (some (100, false)) (.mv (.s 4))), (.op (some 102) (some (100, false)) (.un .not (.s 101))), (.op (some 103) (some (100, false)) (.mv (.s 102))), (.op (some 104) (some (103, true)) (.faddr (.s 1) 3)), (.op (some 105) (some (103, true)) (.load (.s 104) false 1)), (.op (some 106) (some (103, true)) (.bin .neq (.s 105) (.k (.str [])))), (.op (some 107) (some (100, false)) (.pick (.s 103) (.s 106) (.k (.bool false)))), (.op (some 108) (some (100, false)) (.mv (.s 107))), (.op (some 109) (some (108, true)) (.mv (.s 5))), (.op (some 110) (some (108, true)) (.mv (.s 109))), (.op (some 111) (some (110, true)) (.faddr (.s 1) 3)), (.op (some 112) (some (110, true)) (.load (.s 111) false 1)), (.call (some 113) (some (110, true)) n_ref1_Name [(.s 112)]), (.op (some 114) (some (108, true)) (.pick (.s 110) (.s 113) (.k (.bool false)))), (.op (some 115) (some (108, true)) (.un .not (.s 114))), (.op (some 116) (some (100, false)) (.pick (.s 108) (.s 115) (.k (.bool false)))), (.op (some 117) none (.pick (.s 100) (.k (.bool true)) (.s 116)))]
abbrev QEV : AC := .run [(.op (some 2) none (.mv (.k (.bool false))))]
abbrev QEW : AC := .seq QEV .ret
abbrev QEX : AC := .cond (.s 117) QEW .skip
abbrev QEY : AC := .seq QEU QEX
abbrev QEZ : AC := .run [(.op (some 118) none (.mv (.s 5))), (.op (some 119) none (.faddr (.s 1) 4)), (.op (some 120) none (.load (.s 119) false 1)), (.op (some 121) none (.bin .neq (.s 120) (.k (.str [])))), (.op (some 122) none (.eqb true (.s 118) (.s 121))), (.op (some 123) none (.mv (.s 122))), (.op (some 124) (some (123, false)) (.mv (.s 5))), (.op (some 125) (some (123, false)) (.mv (.s 124))), (.op (some 126) (some (125, true)) (.faddr (.s 1) 4)), (.op (some 127) (some (125, true)) (.load (.s 126) false 1)), (.call (some 128) (some (125, true)) n_ref1_Name [(.s 127)]), (.op (some 129) (some (125, true)) (.un .not (.s 128))), (.op (some 130) (some (123, false)) (.pick (.s 125) (.s 129) (.k (.bool false)))), (.op (some 131) none (.pick (.s 123) (.k (.bool true)) (.s 130))), (.op (some 132) none (.mv (.s 131))), (.op (some 133) (some (132, false)) (.mv (.s 5))), (.op (some 134) (some (132, false)) (.un .not (.s 133))), (.op (some 135) (some (132, false)) (.mv (.s 134))), (.op (some 136) (some (135, true)) (.faddr (.s 1) 10)), (.op (some 137) (some (135, true)) (.load (.s 136) false 1)), (.op (some 138) (some (135, true)) (.len (.s 137))), (.op (some 139) (some (135, true)) (.bin .gtr (.s 138) (.k (.int .i64 0)))), (.op (some 140) (some (132, false)) (.pick (.s 135) (.s 139) (.k (.bool false)))), (.op (some 141) none (.pick (.s 132) (.k (.bool true)) (.s 140)))]
abbrev QF0 : AC := .run [(.op (some 2) none (.mv (.k (.bool false))))]
abbrev QF1 : AC := .seq QF0 .ret
abbrev QF2 : AC := .cond (.s 141) QF1 .skip
abbrev QF3 : AC := .seq QEZ QF2
abbrev QF4 : AC := .run [(.op (some 142) none (.faddr (.s 1) 10)), (.op (some 143) none (.load (.s 142) false 1)), (.op (some 144) none (.len (.s 143))), (.op (some 145) none (.mv (.k (.int .i64 0))))]
abbrev QF5 : AC := .run [(.op (some 146) none (.bin .lss (.s 145) (.s 144)))]
abbrev QF6 : AC := .cond (.s 146) .skip (.exit 0)
abbrev QF7 : AC := .run [(.op (some 147) none (.iaddr (.s 143) (.s 145) 6)), (.op (some 148) none (.load (.s 147) true 6)), (.op (some 7) none (.alloc [(.bool false), (.str []), (.int .i64 0), (.int .i64 0), (.str []), (.slice .full 0 [])])), (.op none none (.store (.s 7) (.s 148) 6))]
abbrev QF8 : AC := .run [(.op (some 149) none (.load (.s 7) true 6)), (.call (some 150) none n_ref3_arg [(.s 149)]), (.op (some 151) none (.un .not (.s 150)))]
abbrev QF9 : AC := .run [(.op (some 2) none (.mv (.k (.bool false))))]
abbrev QFA : AC := .seq QF9 .ret
abbrev QFB : AC := .cond (.s 151) QFA .skip
abbrev QFC : AC := .seq QF8 QFB
abbrev QFD : AC := .seq QF7 QFC
abbrev QFE : AC := .block 1 QFD
abbrev QFF : AC := .run [(.op (some 152) none (.bin .add (.s 145) (.k (.int .i64 1)))), (.op (some 145) none (.mv (.s 152)))]
abbrev QFG : AC := .seq QFE QFF
abbrev QFH : AC := .seq QF6 QFG
abbrev QFI : AC := .seq QF5 QFH
abbrev QFJ : AC := .loop QFI
abbrev QFK : AC := .block 0 QFJ
abbrev QFL : AC := .seq QF4 QFK
abbrev QFM : AC := .run [(.op (some 153) none (.faddr (.s 1) 11)), (.op (some 154) none (.load (.s 153) false 1)), (.op (some 155) none (.len (.s 154))), (.op (some 156) none (.bin .eql (.s 155) (.k (.int .i64 0)))), (.op (some 157) none (.mv (.s 156))), (.op (some 158) (some (157, false)) (.faddr (.s 1) 1)), (.op (some 159) (some (157, false)) (.load (.s 158) false 1)), (.op (some 160) (some (157, false)) (.bin .eql (.s 159) (.k (.int .i64 5)))), (.op (some 161) none (.pick (.s 157) (.k (.bool true)) (.s 160))), (.op (some 162) none (.mv (.s 161))), (.op (some 163) (some (162, false)) (.faddr (.s 1) 1)), (.op (some 164) (some (162, false)) (.load (.s 163) false 1)), (.op (some 165) (some (162, false)) (.bin .eql (.s 164) (.k (.int .i64 6)))), (.op (some 166) none (.pick (.s 162) (.k (.bool true)) (.s 165))), (.op (some 167) none (.mv (.s 166))), (.op (some 168) (some (167, true)) (.faddr (.s 1) 12)), (.op (some 169) (some (167, true)) (.load (.s 168) false 1)), (.op (some 170) (some (167, true)) (.len (.s 169))), (.op (some 171) (some (167, true)) (.bin .eql (.s 170) (.k (.int .i64 0)))), (.op (some 172) (some (167, true)) (.mv (.s 171))), (.op (some 173) (some (172, false)) (.faddr (.s 1) 1)), (.op (some 174) (some (172, false)) (.load (.s 173) false 1)), (.op (some 175) (some (172, false)) (.bin .eql (.s 174) (.k (.int .i64 5)))), (.op (some 176) (some (167, true)) (.pick (.s 172) (.k (.bool true)) (.s 175))), (.op (some 177) none (.pick (.s 167) (.s 176) (.k (.bool false)))), (.op (some 2) none (.mv (.s 177)))]
abbrev QFN : AC := .seq QFM .ret
abbrev QFO : AC := .seq QFL QFN
abbrev QFP : AC := .seq QF3 QFO
abbrev QFQ : AC := .seq QEY QFP
abbrev QFR : AC := .seq QET QFQ
abbrev QFS : AC := .seq QEO QFR
abbrev QFT : AC := .seq QEN QFS
abbrev QFU : AC := .seq QEM QFT
abbrev QFV : AC := .seq QEL QFU
abbrev QFW : AC := .run [(.op (some 2) none (.box (.s 0))), (.op (some 4) none (.mv (.k (.int .i64 0))))]
abbrev QFX : AC := .run [(.op (some 8) none (.mv (.s 1))), (.op (some 9) none (.bin .eql (.s 8) (.k (.int .i64 0))))]
abbrev QFY : AC := .run [(.op (some 4) none (.mv (.k (.int .i64 1))))]
abbrev QFZ : AC := .seq QFY .ret
abbrev QG0 : AC := .cond (.s 9) QFZ .skip
abbrev QG1 : AC := .seq QFX QG0
abbrev QG2 : AC := .run [(.op (some 5) none (.mv (.k (.int .i64 0))))]
abbrev QG3 : AC := .run [(.op (some 6) none (.mv (.k (.int .i64 0))))]
abbrev QG4 : AC := .run [(.op (some 10) none (.mv (.s 6))), (.op (some 11) none (.faddr (.s 2) 3)), (.op (some 12) none (.load (.s 11) false 1)), (.op (some 13) none (.len (.s 12))), (.op (some 14) none (.bin .lss (.s 10) (.s 13))), (.op (some 15) none (.mv (.s 14))), (.op (some 16) (some (15, true)) (.mv (.s 5))), (.op (some 17) (some (15, true)) (.mv (.s 1))), (.op (some 18) (some (15, true)) (.bin .lss (.s 16) (.s 17))), (.op (some 19) none (.pick (.s 15) (.s 18) (.k (.bool false))))]
abbrev QG5 : AC := .cond (.s 19) .skip (.exit 0)
abbrev QG6 : AC := .seq QG4 QG5
abbrev QG7 : AC := .run [(.op (some 22) none (.faddr (.s 2) 3)), (.op (some 23) none (.load (.s 22) false 1)), (.op (some 24) none (.mv (.s 6))), (.op (some 25) none (.iaddr (.s 23) (.s 24) 4)), (.op (some 26) none (.load (.s 25) true 4)), (.op (some 27) none (.mv (.s 1))), (.op (some 28) none (.bin .sub (.s 27) (.k (.int .i64 1)))), (.call (some 29) none n_ref3_deep [(.s 26), (.s 28)]), (.op (some 7) none (.mv (.s 29)))]
abbrev QG8 : AC := .run [(.op (some 30) none (.mv (.s 7))), (.op (some 31) none (.mv (.s 5))), (.op (some 32) none (.bin .gtr (.s 30) (.s 31)))]
abbrev QG9 : AC := .run [(.op (some 33) none (.mv (.s 7))), (.op (some 5) none (.mv (.s 33)))]
abbrev QGA : AC := .cond (.s 32) QG9 .skip
abbrev QGB : AC := .seq QG8 QGA
abbrev QGC : AC := .seq QG7 QGB
abbrev QGD : AC := .block 1 QGC
abbrev QGE : AC := .run [(.op (some 20) none (.mv (.s 6))), (.op (some 21) none (.bin .add (.s 20) (.k (.int .i64 1)))), (.op (some 6) none (.mv (.s 21)))]
abbrev QGF : AC := .seq QGD QGE
abbrev QGG : AC := .seq QG6 QGF
abbrev QGH : AC := .loop QGG
abbrev QGI : AC := .block 0 QGH
abbrev QGJ : AC := .seq QG3 QGI
abbrev QGK : AC := .run [(.op (some 34) none (.mv (.s 5))), (.op (some 35) none (.bin .add (.s 34) (.k (.int .i64 1)))), (.op (some 4) none (.mv (.s 35)))]
abbrev QGL : AC := .seq QGK .ret
abbrev QGM : AC := .seq QGJ QGL
abbrev QGN : AC := .seq QG2 QGM
abbrev QGO : AC := .seq QG1 QGN
abbrev QGP : AC := .seq QFW QGO
abbrev QGQ : AC := .run [(.op (some 1) none (.box (.s 0))), (.op (some 2) none (.mv (.k (.bool false))))]
abbrev QGR : AC := .par [(.op (some 4) none (.faddr (.s 1) 0)), (.op (some 5) none (.load (.s 4) false 1)), (.call (some 6) none n_ref3_Arity [(.s 5)]), (.op (some 7) none (.faddr (.s 1) 3)), (.op (some 8) none (.load (.s 7) false 1)), (.op (some 9) none (.len (.s 8))), (.op (some 10) none (.bin .neq (.s 6) (.s 9))), (.op (some 11) none (.mv (.s 10))), (.op (some 12) (some (11, false)) (.faddr (.s 1) 0)), (.op (some 13) (some (11, false)) (.load (.s 12) false 1)), (.op (some 14) (some (11, false)) (.bin .neq (.s 13) (.k (.int .i64 1)))), (.op (some 15) (some (11, false)) (.mv (.s 14))), (.op (some 16) (some (15, true)) (.faddr (.s 1) 1)), (.op (some 17) (some (15, true)) (.load (.s 16) false 1)), (.op (some 18) (some (15, true)) (.bin .neq (.s 17) (.k (.int .i64 0)))), (.op (some 19) (some (11, false)) (.pick (.s 15) (.s 18) (.k (.bool false)))), (.op (some 20) none (.pick (.s 11) (.k (.bool true)) (.s 19))), (.op (some 21) none (.mv (.s 20))), (.op (some 22) (some (21, false)) (.faddr (.s 1) 1)), (.op (some 23) (some (21, false)) (.load (.s 22) false 1)), (.op (some 24) (some (21, false)) (.bin .lss (.s 23) (.k (.int .i64 0)))), (.op (some 25) none (.pick (.s 21) (.k (.bool true)) (.s 24))), (.op (some 26) none (.mv (.s 25))), (.op (some 27) (some (26, false)) (.faddr (.s 1) 0)), (.op (some 28) (some (26, false)) (.load (.s 27) false 1)), (.op (some 29) (some (26, false)) (.bin .eql (.s 28) (.k (.int .i64 2)))), (.op (some 30) (some (26, false)) (.faddr (.s 1) 2)), (.op (some 31) (some (26, false)) (.load (.s 30) false 1)), (.op (some 32) (some (26, false)) (.bin .neq (.s 31) (.k (.str [])))), (.op (some 33) (some (26, false)) (.eqb true (.s 29) (.s 32))), (.op (some 34) none (.pick (.s 26) (.k (.bool true)) (.s 33))), (.op (some 35) none (.mv (.s 34))), (.op (some 36) (some (35, false)) (.faddr (.s 1) 2)), (.op (some 37) (some (35, false)) (.load (.s 36) false 1)), (.op (some 38) (some (35, false)) (.bin .neq (.s 37) (.k (.str [])))), (.op (some 39) (some (35, false)) (.mv (.s 38))), (.op (some 40) (some (39, true)) (.faddr (.s 1) 2)), (.op (some 41) (some (39, true)) (.load (.s 40) false 1)), (.call (some 42) (some (39, true)) n_ref1_Name [(.s 41)]), (.op (some 43) (some (39, true)) (.un .not (.s 42))), (.op (some 44) (some (35, false)) (.pick (.s 39) (.s 43) (.k (.bool false)))), (.op (some 45) none (.pick (.s 35) (.k (.bool true)) (.s 44)))] [(0, 0), (1, 0), (2, 0), (3, 0), (4, 1), (5, 0), (6, 0), (7, 0), (8, 0), (9, 0), (10, 0), (11, 0), (12, 0), (13, 0), (14, 0), (15, 0), (16, 0), (17, 0), (18, 0), (19, 0), (20, 0), (21, 0), (22, 0), (23, 0), (24, 0), (25, 0), (26, 0), (27, 0), (28, 0), (29, 0), (30, 0), (31, 0), (32, 0), (33, 0), (34, 0), (35, 0), (36, 0), (37, 0), (38, 0), (39, 0), (40, 0), (41, 0)]
abbrev QGS : AC := .run [(.op (some 2) none (.mv (.k (.bool false))))]
abbrev QGT : AC := .seq QGS .ret
abbrev QGU : AC := .cond (.s 45) QGT .skip
abbrev QGV : AC := .seq QGR QGU
abbrev QGW : AC := .run [(.op (some 46) none (.faddr (.s 1) 3)), (.op (some 47) none (.load (.s 46) false 1)), (.op (some 48) none (.len (.s 47))), (.op (some 49) none (.mv (.k (.int .i64 0))))]
abbrev QGX : AC := .run [(.op (some 50) none (.bin .lss (.s 49) (.s 48)))]
abbrev QGY : AC := .cond (.s 50) .skip (.exit 0)
abbrev QGZ : AC := .run [(.op (some 51) none (.mv (.s 49))), (.op (some 3) none (.mv (.s 51)))]
abbrev QH0 : AC := .run [(.op (some 52) none (.faddr (.s 1) 3)), (.op (some 53) none (.load (.s 52) false 1)), (.op (some 54) none (.mv (.s 3))), (.op (some 55) none (.iaddr (.s 53) (.s 54) 4)), (.op (some 56) none (.load (.s 55) true 4)), (.call (some 57) none n_ref3_form [(.s 56)]), (.op (some 58) none (.un .not (.s 57)))]
abbrev QH1 : AC := .run [(.op (some 2) none (.mv (.k (.bool false))))]
abbrev QH2 : AC := .seq QH1 .ret
abbrev QH3 : AC := .cond (.s 58) QH2 .skip
abbrev QH4 : AC := .seq QH0 QH3
abbrev QH5 : AC := .seq QGZ QH4
abbrev QH6 : AC := .block 1 QH5
abbrev QH7 : AC := .run [(.op (some 59) none (.bin .add (.s 49) (.k (.int .i64 1)))), (.op (some 49) none (.mv (.s 59)))]
abbrev QH8 : AC := .seq QH6 QH7
abbrev QH9 : AC := .seq QGY QH8
abbrev QHA : AC := .seq QGX QH9
abbrev QHB : AC := .loop QHA
abbrev QHC : AC := .block 0 QHB
abbrev QHD : AC := .seq QGW QHC
abbrev QHE : AC := .run [(.op (some 2) none (.mv (.k (.bool true))))]
abbrev QHF : AC := .seq QHE .ret
abbrev QHG : AC := .seq QHD QHF
abbrev QHH : AC := .seq QGV QHG
abbrev QHI : AC := .seq QGQ QHH
abbrev QHJ : AC := .run [(.op (some 2) none (.mv (.k (.slice .full 0 [])))), (.op (some 3) none (.alloc [(.int .i64 0), (.int .i64 0)]))]
abbrev QHK : AC := .run [(.op (some 4) none (.mv (.k (.slice .full 0 []))))]
abbrev QHL : AC := .run [(.op (some 5) none (.alloc [(.int .i64 0), (.str []), (.int .i64 0), (.int .i64 0)]))]
abbrev QHM : AC := .run [(.op (some 6) none (.mv (.k (.int .i64 0)))), (.op (some 7) none (.mv (.k (.int .i64 0)))), (.op (some 8) none (.mv (.k (.bool true))))]
abbrev QHN : AC := .run [(.op (some 10) none (.mv (.s 0))), (.op (some 11) none (.slen (.s 10))), (.op (some 12) none (.bin .gtr (.s 11) (.k (.int .i64 100000))))]
abbrev QHO : AC := .run [(.op (some 13) none (.build [(.int .i64 0), (.int .i64 0)] [(0, (1, (.k (.int .i64 4))))])), (.op (some 2) none (.mv (.k (.slice .full 0 [])))), (.op none none (.store (.s 3) (.s 13) 2))]
abbrev QHP : AC := .seq QHO .ret
abbrev QHQ : AC := .cond (.s 12) QHP .skip
abbrev QHR : AC := .seq QHN QHQ
abbrev QHS : AC := .run [(.op (some 14) none (.mv (.s 6))), (.op (some 15) none (.mv (.s 0))), (.op (some 16) none (.slen (.s 15))), (.op (some 17) none (.bin .geq (.s 14) (.s 16)))]
abbrev QHT : AC := .run [(.op (some 18) none (.mv (.s 4))), (.op (some 19) none (.mv (.s 0))), (.op (some 20) none (.slen (.s 19))), (.op (some 21) none (.build [(.int .i64 0), (.str []), (.int .i64 0), (.int .i64 0)] [(3, (1, (.s 20)))])), (.op (some 22) none (.bslice [(.int .i64 0), (.str []), (.int .i64 0), (.int .i64 0)] 4 1 [(0, (.s 21))])), (.op (some 23) none (.app 4 40 (.s 18) (.s 22))), (.op (some 24) none (.build [(.int .i64 0), (.int .i64 0)] [])), (.op (some 2) none (.mv (.s 23))), (.op none none (.store (.s 3) (.s 24) 2))]
abbrev QHU : AC := .seq QHT .ret
abbrev QHV : AC := .cond (.s 17) QHU .skip
abbrev QHW : AC := .seq QHS QHV
abbrev QHX : AC := .run [(.op (some 25) none (.mv (.s 6))), (.op (some 26) none (.build [(.int .i64 0), (.str []), (.int .i64 0), (.int .i64 0)] [(3, (1, (.s 25)))])), (.op none none (.store (.s 5) (.s 26) 4))]
abbrev QHY : AC := .run [(.op (some 27) none (.mv (.s 0))), (.op (some 28) none (.mv (.s 6))), (.op (some 29) none (.sidx (.s 27) (.s 28))), (.op (some 9) none (.mv (.s 29)))]
abbrev QHZ : AC := .run [(.op (some 31) none (.mv (.s 9))), (.op (some 32) none (.bin .eql (.s 31) (.k (.int .u8 32)))), (.op (some 33) none (.mv (.s 32))), (.op (some 34) (some (33, false)) (.mv (.s 9))), (.op (some 35) (some (33, false)) (.bin .eql (.s 34) (.k (.int .u8 9)))), (.op (some 36) none (.pick (.s 33) (.k (.bool true)) (.s 35))), (.op (some 37) none (.mv (.s 36))), (.op (some 38) (some (37, false)) (.mv (.s 9))), (.op (some 39) (some (37, false)) (.bin .eql (.s 38) (.k (.int .u8 10)))), (.op (some 40) none (.pick (.s 37) (.k (.bool true)) (.s 39))), (.op (some 41) none (.mv (.s 40))), (.op (some 42) (some (41, false)) (.mv (.s 9))), (.op (some 43) (some (41, false)) (.bin .eql (.s 42) (.k (.int .u8 13)))), (.op (some 44) none (.pick (.s 41) (.k (.bool true)) (.s 43))), (.op (some 30) none (.mv (.s 44)))]
abbrev QI0 : AC := .run [(.op (some 45) none (.mv (.s 6))), (.op (some 46) none (.bin .add (.s 45) (.k (.int .i64 1)))), (.op (some 6) none (.mv (.s 46)))]
abbrev QI1 : AC := .seq QI0 (.goto 0)
abbrev QI2 : AC := .run [(.op (some 48) none (.mv (.s 9))), (.op (some 49) none (.bin .eql (.s 48) (.k (.int .u8 35)))), (.op (some 47) none (.mv (.s 49)))]
abbrev QI3 : AC := .run [(.op (some 51) none (.mv (.s 9))), (.call (some 52) none n_lex_letter [(.s 51)]), (.op (some 50) none (.mv (.s 52)))]
abbrev QI4 : AC := .run [(.op (some 54) none (.mv (.s 9))), (.call (some 55) none n_lex_digit [(.s 54)]), (.op (some 53) none (.mv (.s 55)))]
abbrev QI5 : AC := .cond (.s 53) (.goto 3) .skip
abbrev QI6 : AC := .seq QI4 QI5
abbrev QI7 : AC := .cond (.s 50) (.goto 2) QI6
abbrev QI8 : AC := .seq QI3 QI7
abbrev QI9 : AC := .cond (.s 47) (.goto 1) QI8
abbrev QIA : AC := .seq QI2 QI9
abbrev QIB : AC := .cond (.s 30) QI1 QIA
abbrev QIC : AC := .seq QHZ QIB
abbrev QID : AC := .block 0 QIC
abbrev QIE : AC := .seq QHY QID
abbrev QIF : AC := .run [(.op (some 56) none (.faddr (.s 5) 0)), (.op none none (.store (.s 56) (.k (.int .i64 4)) 1))]
abbrev QIG : AC := .run [(.op (some 57) none (.mv (.s 6))), (.op (some 58) none (.mv (.s 0))), (.op (some 59) none (.mv (.s 6))), (.call (some 60) none n_lex_sign [(.s 58), (.s 59)]), (.op (some 61) none (.bin .add (.s 57) (.s 60))), (.op (some 6) none (.mv (.s 61)))]
abbrev QIH : AC := .run [(.op (some 62) none (.mv (.s 0))), (.op (some 63) none (.faddr (.s 5) 3)), (.op (some 64) none (.load (.s 63) false 1)), (.op (some 65) none (.mv (.s 6))), (.op (some 66) none (.sslc (.s 62) (some (.s 64)) (some (.s 65)))), (.op (some 67) none (.faddr (.s 5) 1)), (.op none none (.store (.s 67) (.s 66) 1))]
abbrev QII : AC := .run [(.op (some 7) none (.mv (.k (.int .i64 2))))]
abbrev QIJ : AC := .run [(.op (some 68) none (.mv (.s 6))), (.op (some 69) none (.faddr (.s 5) 3)), (.op (some 70) none (.load (.s 69) false 1)), (.op (some 71) none (.bin .gtr (.s 68) (.s 70)))]
abbrev QIK : AC := .cond (.s 71) (.goto 4) .skip
abbrev QIL : AC := .seq QIJ QIK
abbrev QIM : AC := .run [(.op (some 72) none (.mv (.s 6))), (.op (some 73) none (.mv (.s 0))), (.op (some 74) none (.slen (.s 73))), (.op (some 75) none (.bin .lss (.s 72) (.s 74))), (.op (some 76) none (.mv (.s 75))), (.op (some 77) (some (76, true)) (.mv (.s 0))), (.op (some 78) (some (76, true)) (.mv (.s 6))), (.op (some 79) (some (76, true)) (.sidx (.s 77) (.s 78))), (.op (some 80) (some (76, true)) (.bin .neq (.s 79) (.k (.int .u8 10)))), (.op (some 81) none (.pick (.s 76) (.s 80) (.k (.bool false))))]
abbrev QIN : AC := .cond (.s 81) .skip (.exit 1)
abbrev QIO : AC := .seq QIM QIN
abbrev QIP : AC := .run [(.op (some 82) none (.mv (.s 6))), (.op (some 83) none (.bin .add (.s 82) (.k (.int .i64 1)))), (.op (some 6) none (.mv (.s 83)))]
abbrev QIQ : AC := .block 2 QIP
abbrev QIR : AC := .seq QIO QIQ
abbrev QIS : AC := .loop QIR
abbrev QIT : AC := .block 1 QIS
abbrev QIU : AC := .run [(.op (some 84) none (.mv (.s 0))), (.op (some 85) none (.mv (.s 6))), (.call (some 86) none n_lex_run [(.s 84), (.s 85)]), (.op (some 6) none (.mv (.s 86)))]
abbrev QIV : AC := .par [(.op (some 87) none (.mv (.s 0))), (.op (some 88) none (.faddr (.s 5) 3)), (.op (some 89) none (.load (.s 88) false 1)), (.op (some 90) none (.mv (.s 6))), (.op (some 91) none (.sslc (.s 87) (some (.s 89)) (some (.s 90)))), (.op (some 92) none (.faddr (.s 5) 0)), (.op none none (.store (.s 92) (.k (.int .i64 1)) 1)), (.op (some 93) none (.faddr (.s 5) 1)), (.op none none (.store (.s 93) (.s 91) 1))] [(1, 0), (2, 0), (5, 0), (6, 0), (0, 0), (3, 0), (4, 0), (7, 0), (8, 0)]
abbrev QIW : AC := .run [(.op (some 94) none (.faddr (.s 5) 1)), (.op (some 95) none (.load (.s 94) false 1)), (.call (some 96) none n_lex_Word [(.s 95)])]
abbrev QIX : AC := .run [(.op (some 97) none (.faddr (.s 5) 0)), (.op none none (.store (.s 97) (.k (.int .i64 3)) 1))]
abbrev QIY : AC := .cond (.s 96) QIX .skip
abbrev QIZ : AC := .seq QIW QIY
abbrev QJ0 : AC := .run [(.op (some 7) none (.mv (.k (.int .i64 4))))]
abbrev QJ1 : AC := .run [(.op (some 98) none (.mv (.s 6))), (.op (some 99) none (.faddr (.s 5) 3)), (.op (some 100) none (.load (.s 99) false 1)), (.op (some 101) none (.bin .sub (.s 98) (.s 100))), (.op (some 102) none (.bin .gtr (.s 101) (.k (.int .i64 8))))]
abbrev QJ2 : AC := .cond (.s 102) (.goto 5) .skip
abbrev QJ3 : AC := .seq QJ1 QJ2
abbrev QJ4 : AC := .run [(.op (some 103) none (.mv (.s 6))), (.op (some 104) none (.mv (.s 0))), (.op (some 105) none (.slen (.s 104))), (.op (some 106) none (.bin .lss (.s 103) (.s 105))), (.op (some 107) none (.mv (.s 106))), (.op (some 108) (some (107, true)) (.mv (.s 0))), (.op (some 109) (some (107, true)) (.mv (.s 6))), (.op (some 110) (some (107, true)) (.sidx (.s 108) (.s 109))), (.call (some 111) (some (107, true)) n_lex_digit [(.s 110)]), (.op (some 112) none (.pick (.s 107) (.s 111) (.k (.bool false))))]
abbrev QJ5 : AC := .cond (.s 112) .skip (.exit 3)
abbrev QJ6 : AC := .seq QJ4 QJ5
abbrev QJ7 : AC := .run [(.op (some 113) none (.mv (.s 6))), (.op (some 114) none (.bin .add (.s 113) (.k (.int .i64 1)))), (.op (some 6) none (.mv (.s 114)))]
abbrev QJ8 : AC := .block 4 QJ7
abbrev QJ9 : AC := .seq QJ6 QJ8
abbrev QJA : AC := .loop QJ9
abbrev QJB : AC := .block 3 QJA
abbrev QJC : AC := .par [(.op (some 115) none (.mv (.s 0))), (.op (some 116) none (.faddr (.s 5) 3)), (.op (some 117) none (.load (.s 116) false 1)), (.op (some 118) none (.mv (.s 6))), (.op (some 119) none (.sslc (.s 115) (some (.s 117)) (some (.s 118)))), (.op (some 120) none (.faddr (.s 5) 0)), (.op none none (.store (.s 120) (.k (.int .i64 2)) 1)), (.op (some 121) none (.faddr (.s 5) 1)), (.op none none (.store (.s 121) (.s 119) 1)), (.op (some 7) none (.mv (.k (.int .i64 2))))] [(1, 0), (2, 0), (5, 0), (6, 0), (0, 0), (3, 0), (4, 0), (7, 0), (8, 0), (9, 0)]
abbrev QJD : AC := .run [(.op (some 122) none (.faddr (.s 5) 1)), (.op (some 123) none (.load (.s 122) false 1)), (.op (some 124) none (.slen (.s 123))), (.op (some 125) none (.bin .gtr (.s 124) (.k (.int .i64 1)))), (.op (some 126) none (.mv (.s 125))), (.op (some 127) (some (126, true)) (.faddr (.s 5) 1)), (.op (some 128) (some (126, true)) (.load (.s 127) false 1)), (.op (some 129) (some (126, true)) (.sidx (.s 128) (.k (.int .i64 0)))), (.op (some 130) (some (126, true)) (.bin .eql (.s 129) (.k (.int .u8 48)))), (.op (some 131) none (.pick (.s 126) (.s 130) (.k (.bool false))))]
abbrev QJE : AC := .cond (.s 131) (.goto 5) .skip
abbrev QJF : AC := .seq QJD QJE
abbrev QJG : AC := .run [(.op (some 133) none (.faddr (.s 5) 1)), (.op (some 134) none (.load (.s 133) false 1)), (.call (some 135) none n_lex_number [(.s 134)]), (.op (some 132) none (.mv (.s 135))), (.op (some 136) none (.ext (.s 132) 0)), (.op (some 137) none (.ext (.s 132) 1)), (.op (some 138) none (.faddr (.s 5) 2)), (.op none none (.store (.s 138) (.s 136) 1)), (.op (some 8) none (.mv (.s 137)))]
abbrev QJH : AC := .run [(.op (some 7) none (.mv (.k (.int .i64 4))))]
abbrev QJI : AC := .run [(.op (some 139) none (.mv (.s 8))), (.op (some 140) none (.un .not (.s 139)))]
abbrev QJJ : AC := .cond (.s 140) (.goto 5) .skip
abbrev QJK : AC := .seq QJI QJJ
abbrev QJL : AC := .run [(.op (some 7) none (.mv (.k (.int .i64 4))))]
abbrev QJM : AC := .run [(.op (some 141) none (.mv (.s 4))), (.op (some 142) none (.len (.s 141))), (.op (some 143) none (.bin .eql (.s 142) (.k (.int .i64 2000))))]
abbrev QJN : AC := .cond (.s 143) (.goto 5) .skip
abbrev QJO : AC := .seq QJM QJN
abbrev QJP : AC := .run [(.op (some 144) none (.mv (.s 4))), (.op (some 145) none (.load (.s 5) true 4)), (.op (some 146) none (.bslice [(.int .i64 0), (.str []), (.int .i64 0), (.int .i64 0)] 4 1 [(0, (.s 145))])), (.op (some 147) none (.app 4 40 (.s 144) (.s 146))), (.op (some 4) none (.mv (.s 147)))]
abbrev QJQ : AC := .par [(.op (some 148) none (.mv (.s 7))), (.op (some 149) none (.faddr (.s 5) 3)), (.op (some 150) none (.load (.s 149) false 1)), (.op (some 151) none (.build [(.int .i64 0), (.int .i64 0)] [(0, (1, (.s 148))), (1, (1, (.s 150)))])), (.op (some 2) none (.mv (.k (.slice .full 0 [])))), (.op none none (.store (.s 3) (.s 151) 2))] [(0, 0), (1, 0), (2, 0), (3, 0), (4, 0), (5, 0)]
abbrev QJR : AC := .seq QJQ .ret
abbrev QJS : AC := .seq (.label 5) QJR
abbrev QJT : AC := .seq (.goto 0) QJS
abbrev QJU : AC := .seq QJP QJT
abbrev QJV : AC := .seq QJO QJU
abbrev QJW : AC := .seq QJL QJV
abbrev QJX : AC := .seq (.label 4) QJW
abbrev QJY : AC := .seq QJK QJX
abbrev QJZ : AC := .seq QJH QJY
abbrev QK0 : AC := .seq QJG QJZ
abbrev QK1 : AC := .seq QJF QK0
abbrev QK2 : AC := .seq QJC QK1
abbrev QK3 : AC := .seq QJB QK2
abbrev QK4 : AC := .seq (.label 3) QK3
abbrev QK5 : AC := .seq (.goto 4) QK4
abbrev QK6 : AC := .seq QJ3 QK5
abbrev QK7 : AC := .seq QJ0 QK6
abbrev QK8 : AC := .seq QIZ QK7
abbrev QK9 : AC := .seq QIV QK8
abbrev QKA : AC := .seq QIU QK9
abbrev QKB : AC := .seq (.label 2) QKA
abbrev QKC : AC := .seq (.goto 0) QKB
abbrev QKD : AC := .seq QIT QKC
abbrev QKE : AC := .seq (.label 1) QKD
abbrev QKF : AC := .seq (.goto 5) QKE
abbrev QKG : AC := .seq QIL QKF
abbrev QKH : AC := .seq QII QKG
abbrev QKI : AC := .seq QIH QKH
abbrev QKJ : AC := .seq QIG QKI
abbrev QKK : AC := .seq QIF QKJ
abbrev QKL : AC := .seq QIE QKK
abbrev QKM : AC := .seq QHX QKL
abbrev QKN : AC := .seq QHW QKM
abbrev QKO : AC := .seq (.label 0) QKN
abbrev QKP : AC := .seq QHR QKO
abbrev QKQ : AC := .seq QHM QKP
abbrev QKR : AC := .seq QHL QKQ
abbrev QKS : AC := .seq QHK QKR
abbrev QKT : AC := .scope QKS
abbrev QKU : AC := .seq QHJ QKT
abbrev QKV : AC := .run [(.op (some 2) none (.alloc [(.int .i64 0), (.int .i64 0), (.str []), (.slice .full 0 [])]))]
abbrev QKW : AC := .run [(.op (some 5) none (.mv (.s 0))), (.call (some 6) none n_parse_reader_peek [(.s 5)]), (.op (some 7) none (.fld (.s 6) 3 false 1)), (.op (some 3) none (.mv (.s 7)))]
abbrev QKX : AC := .run [(.op (some 8) none (.mv (.s 0))), (.call (some 9) none n_parse_reader_two [(.s 8), (.k (.int .i64 1))]), (.op (some 4) none (.alloc [(.int .i64 0), (.int .i64 0), (.str []), (.slice .full 0 [])])), (.op none none (.store (.s 4) (.s 9) 4))]
abbrev QKY : AC := .run [(.op (some 10) none (.mv (.s 0))), (.call (some 11) none n_parse_reader_good [(.s 10)]), (.op (some 12) none (.mv (.s 11))), (.op (some 13) (some (12, true)) (.load (.s 4) true 4)), (.call (some 14) (some (12, true)) n_parse_depth [(.s 13)]), (.op (some 15) (some (12, true)) (.bin .gtr (.s 14) (.k (.int .i64 20)))), (.op (some 16) none (.pick (.s 12) (.s 15) (.k (.bool false))))]
abbrev QKZ : AC := .run [(.op (some 17) none (.mv (.s 0))), (.op (some 18) none (.mv (.s 3))), (.op (some 19) none (.build [(.int .i64 0), (.int .i64 0)] [(0, (1, (.k (.int .i64 4)))), (1, (1, (.s 18)))])), (.op (some 20) none (.nilck (.s 17))), (.op (some 21) none (.faddr (.s 20) 2)), (.op none none (.store (.s 21) (.s 19) 2))]
abbrev QL0 : AC := .cond (.s 16) QKZ .skip
abbrev QL1 : AC := .seq QKY QL0
abbrev QL2 : AC := .run [(.op (some 22) none (.load (.s 4) true 4)), (.op none none (.store (.s 2) (.s 22) 4))]
abbrev QL3 : AC := .seq QL2 .ret
abbrev QL4 : AC := .seq QL1 QL3
abbrev QL5 : AC := .seq QKX QL4
abbrev QL6 : AC := .seq QKW QL5
abbrev QL7 : AC := .seq QKV QL6
abbrev QL8 : AC := .run [(.op (some 2) none (.mv (.k (.bool false))))]
abbrev QL9 : AC := .run [(.op (some 3) none (.mv (.s 0))), (.op (some 4) none (.nilck (.s 3))), (.op (some 5) none (.faddr (.s 4) 2)), (.op (some 6) none (.faddr (.s 5) 0)), (.op (some 7) none (.load (.s 6) false 1)), (.op (some 8) none (.bin .eql (.s 7) (.k (.int .i64 0)))), (.op (some 2) none (.mv (.s 8)))]
abbrev QLA : AC := .seq QL9 .ret
abbrev QLB : AC := .seq QL8 QLA
abbrev QLC : AC := .run [(.op (some 2) none (.alloc [(.int .i64 0), (.str []), (.int .i64 0), (.int .i64 0)]))]
abbrev QLD : AC := .par [(.op (some 3) none (.mv (.s 0))), (.op (some 4) none (.nilck (.s 3))), (.op (some 5) none (.faddr (.s 4) 0)), (.op (some 6) none (.load (.s 5) false 1)), (.op (some 7) none (.mv (.s 0))), (.op (some 8) none (.nilck (.s 7))), (.op (some 9) none (.faddr (.s 8) 1)), (.op (some 10) none (.load (.s 9) false 1)), (.op (some 11) none (.iaddr (.s 6) (.s 10) 4)), (.op (some 12) none (.load (.s 11) true 4)), (.op none none (.store (.s 2) (.s 12) 4))] [(0, 0), (1, 0), (2, 0), (3, 0), (4, 0), (5, 0), (6, 0), (7, 0), (8, 0), (9, 0), (10, 0)]
abbrev QLE : AC := .seq QLD .ret
abbrev QLF : AC := .seq QLC QLE
abbrev QLG : AC := .run [(.op (some 4) none (.mv (.s 0))), (.call (some 5) none n_parse_reader_good [(.s 4)])]
abbrev QLH : AC := .run [(.op (some 6) none (.mv (.s 0))), (.op (some 7) none (.mv (.s 1))), (.op (some 8) none (.mv (.s 0))), (.call (some 9) none n_parse_reader_peek [(.s 8)]), (.op (some 10) none (.fld (.s 9) 3 false 1)), (.op (some 11) none (.build [(.int .i64 0), (.int .i64 0)] [(0, (1, (.s 7))), (1, (1, (.s 10)))])), (.op (some 12) none (.nilck (.s 6))), (.op (some 13) none (.faddr (.s 12) 2)), (.op none none (.store (.s 13) (.s 11) 2))]
abbrev QLI : AC := .cond (.s 5) QLH .skip
abbrev QLJ : AC := .seq QLG QLI
abbrev QLK : AC := .run [(.op (some 2) none (.alloc [(.int .i64 0), (.int .i64 0), (.str []), (.slice .full 0 [])]))]
abbrev QLL : AC := .run [(.op (some 3) none (.mv (.s 0))), (.op (some 4) none (.build [(.int .i64 0), (.int .i64 0), (.str []), (.slice .full 0 [])] [(0, (1, (.k (.int .i64 1)))), (1, (1, (.s 3)))])), (.op none none (.store (.s 2) (.s 4) 4))]
abbrev QLM : AC := .seq QLL .ret
abbrev QLN : AC := .seq QLK QLM
abbrev QLO : AC := .run [(.op (some 2) none (.alloc [(.int .i64 0), (.int .i64 0), (.str []), (.slice .full 0 [])]))]
abbrev QLP : AC := .run [(.op (some 3) none (.mv (.s 0))), (.op (some 4) none (.build [(.int .i64 0), (.int .i64 0), (.str []), (.slice .full 0 [])] [(0, (1, (.k (.int .i64 2)))), (2, (1, (.s 3)))])), (.op none none (.store (.s 2) (.s 4) 4))]
abbrev QLQ : AC := .seq QLP .ret
abbrev QLR : AC := .seq QLO QLQ
abbrev QLS : AC := .run [(.op (some 4) none (.box (.s 1))), (.op (some 5) none (.box (.s 2))), (.op (some 6) none (.alloc [(.int .i64 0), (.int .i64 0), (.str []), (.slice .full 0 [])]))]
abbrev QLT : AC := .run [(.op (some 7) none (.mv (.s 0))), (.op (some 8) none (.load (.s 4) true 4)), (.op (some 9) none (.load (.s 5) true 4)), (.op (some 10) none (.bslice [(.int .i64 0), (.int .i64 0), (.str []), (.slice .full 0 [])] 4 2 [(0, (.s 8)), (1, (.s 9))])), (.op (some 11) none (.build [(.int .i64 0), (.int .i64 0), (.str []), (.slice .full 0 [])] [(0, (1, (.s 7))), (3, (1, (.s 10)))])), (.op none none (.store (.s 6) (.s 11) 4))]
abbrev QLU : AC := .seq QLT .ret
abbrev QLV : AC := .seq QLS QLU
abbrev QLW : AC := .run [(.op (some 2) none (.mv (.k (.bool false))))]
abbrev QLX : AC := .run [(.op (some 5) none (.mv (.s 0))), (.op (some 6) none (.len (.s 5))), (.op (some 7) none (.mv (.k (.int .i64 0))))]
abbrev QLY : AC := .run [(.op (some 8) none (.bin .lss (.s 7) (.s 6)))]
abbrev QLZ : AC := .cond (.s 8) .skip (.exit 0)
abbrev QM0 : AC := .run [(.op (some 9) none (.iaddr (.s 5) (.s 7) 1)), (.op (some 10) none (.load (.s 9) false 1)), (.op (some 4) none (.mv (.s 10)))]
abbrev QM1 : AC := .run [(.op (some 11) none (.mv (.s 4))), (.call (some 12) none n_lex_Name [(.s 11)]), (.op (some 13) none (.un .not (.s 12)))]
abbrev QM2 : AC := .run [(.op (some 2) none (.mv (.k (.bool false))))]
abbrev QM3 : AC := .seq QM2 .ret
abbrev QM4 : AC := .cond (.s 13) QM3 .skip
abbrev QM5 : AC := .seq QM1 QM4
abbrev QM6 : AC := .seq QM0 QM5
abbrev QM7 : AC := .block 1 QM6
abbrev QM8 : AC := .run [(.op (some 14) none (.bin .add (.s 7) (.k (.int .i64 1)))), (.op (some 7) none (.mv (.s 14)))]
abbrev QM9 : AC := .seq QM7 QM8
abbrev QMA : AC := .seq QLZ QM9
abbrev QMB : AC := .seq QLY QMA
abbrev QMC : AC := .loop QMB
abbrev QMD : AC := .block 0 QMC
abbrev QME : AC := .seq QLX QMD
abbrev QMF : AC := .run [(.op (some 2) none (.mv (.k (.bool true))))]
abbrev QMG : AC := .seq QMF .ret
abbrev QMH : AC := .seq QME QMG
abbrev QMI : AC := .seq QLW QMH
abbrev QMJ : AC := .run [(.op (some 2) none (.mv (.k (.bool false))))]
abbrev QMK : AC := .run [(.op (some 3) none (.mv (.s 0))), (.op (some 4) none (.slen (.s 3))), (.op (some 5) none (.bin .lss (.s 4) (.k (.int .i64 1)))), (.op (some 6) none (.mv (.s 5))), (.op (some 7) (some (6, false)) (.mv (.s 0))), (.op (some 8) (some (6, false)) (.slen (.s 7))), (.op (some 9) (some (6, false)) (.bin .gtr (.s 8) (.k (.int .i64 8)))), (.op (some 10) none (.pick (.s 6) (.k (.bool true)) (.s 9))), (.op (some 11) none (.mv (.s 10))), (.op (some 12) (some (11, false)) (.mv (.s 0))), (.op (some 13) (some (11, false)) (.sidx (.s 12) (.k (.int .i64 0)))), (.call (some 14) (some (11, false)) n_lex_letter [(.s 13)]), (.op (some 15) (some (11, false)) (.un .not (.s 14))), (.op (some 16) none (.pick (.s 11) (.k (.bool true)) (.s 15)))]
abbrev QML : AC := .run [(.op (some 2) none (.mv (.k (.bool false))))]
abbrev QMM : AC := .seq QML .ret
abbrev QMN : AC := .cond (.s 16) QMM .skip
abbrev QMO : AC := .seq QMK QMN
abbrev QMP : AC := .run [(.op (some 17) none (.mv (.s 0))), (.call (some 18) none n_lex_run [(.s 17), (.k (.int .i64 0))]), (.op (some 19) none (.mv (.s 0))), (.op (some 20) none (.slen (.s 19))), (.op (some 21) none (.bin .eql (.s 18) (.s 20))), (.op (some 22) none (.mv (.s 21))), (.op (some 23) (some (22, true)) (.mv (.s 0))), (.call (some 24) (some (22, true)) n_lex_Word [(.s 23)]), (.op (some 25) (some (22, true)) (.un .not (.s 24))), (.op (some 26) none (.pick (.s 22) (.s 25) (.k (.bool false)))), (.op (some 2) none (.mv (.s 26)))]
abbrev QMQ : AC := .seq QMP .ret
abbrev QMR : AC := .seq QMO QMQ
abbrev QMS : AC := .seq QMJ QMR
abbrev QMT : AC := .run [(.op (some 6) none (.mv (.k (.bool false))))]
abbrev QMU : AC := .run [(.op (some 9) none (.mv (.s 2))), (.op (some 10) none (.bin .gtr (.s 9) (.k (.int .i64 12)))), (.op (some 11) none (.mv (.s 10))), (.op (some 12) (some (11, true)) (.mv (.s 1))), (.op (some 13) (some (11, true)) (.len (.s 12))), (.op (some 14) (some (11, true)) (.bin .gtr (.s 13) (.k (.int .i64 0)))), (.op (some 15) none (.pick (.s 11) (.s 14) (.k (.bool false))))]
abbrev QMV : AC := .run [(.op (some 6) none (.mv (.k (.bool false))))]
abbrev QMW : AC := .seq QMV .ret
abbrev QMX : AC := .cond (.s 15) QMW .skip
abbrev QMY : AC := .seq QMU QMX
abbrev QMZ : AC := .run [(.op (some 16) none (.mv (.s 1))), (.op (some 17) none (.len (.s 16))), (.op (some 18) none (.mv (.k (.int .i64 0))))]
abbrev QN0 : AC := .run [(.op (some 19) none (.bin .lss (.s 18) (.s 17)))]
abbrev QN1 : AC := .cond (.s 19) .skip (.exit 0)
abbrev QN2 : AC := .run [(.op (some 20) none (.iaddr (.s 16) (.s 18) 13)), (.op (some 21) none (.load (.s 20) true 13)), (.op (some 8) none (.alloc [(.int .i64 0), (.int .i64 0), (.slice .full 0 []), (.str []), (.str []), (.int .i64 0), (.int .i64 0), (.str []), (.slice .full 0 []), (.bool false), (.slice .full 0 []), (.slice .full 0 []), (.slice .full 0 [])])), (.op none none (.store (.s 8) (.s 21) 13))]
abbrev QN3 : AC := .run [(.op (some 22) none (.mv (.s 0))), (.op (some 23) none (.nilck (.s 22))), (.op (some 24) none (.faddr (.s 23) 0)), (.op (some 25) none (.load (.s 24) false 1)), (.op (some 26) none (.bin .add (.s 25) (.k (.int .i64 1)))), (.op (some 27) none (.nilck (.s 22))), (.op (some 28) none (.faddr (.s 27) 0)), (.op none none (.store (.s 28) (.s 26) 1))]
abbrev QN4 : AC := .par [(.op (some 29) none (.mv (.s 0))), (.op (some 30) none (.nilck (.s 29))), (.op (some 31) none (.faddr (.s 30) 0)), (.op (some 32) none (.load (.s 31) false 1)), (.op (some 33) none (.bin .gtr (.s 32) (.k (.int .i64 200)))), (.op (some 34) none (.mv (.s 33))), (.op (some 35) (some (34, false)) (.faddr (.s 8) 0)), (.op (some 36) (some (34, false)) (.load (.s 35) false 1)), (.op (some 37) (some (34, false)) (.mv (.s 0))), (.op (some 38) (some (34, false)) (.nilck (.s 37))), (.op (some 39) (some (34, false)) (.faddr (.s 38) 0)), (.op (some 40) (some (34, false)) (.load (.s 39) false 1)), (.op (some 41) (some (34, false)) (.bin .neq (.s 36) (.s 40))), (.op (some 42) none (.pick (.s 34) (.k (.bool true)) (.s 41))), (.op (some 43) none (.mv (.s 42))), (.op (some 44) (some (43, false)) (.faddr (.s 8) 2)), (.op (some 45) (some (43, false)) (.load (.s 44) false 1)), (.call (some 46) (some (43, false)) n_tree_names [(.s 45)]), (.op (some 47) (some (43, false)) (.un .not (.s 46))), (.op (some 48) none (.pick (.s 43) (.k (.bool true)) (.s 47))), (.op (some 49) none (.mv (.s 48))), (.op (some 50) (some (49, false)) (.load (.s 8) true 13)), (.call (some 51) (some (49, false)) n_tree_fields [(.s 50)]), (.op (some 52) (some (49, false)) (.un .not (.s 51))), (.op (some 53) none (.pick (.s 49) (.k (.bool true)) (.s 52)))] [(0, 0), (1, 0), (2, 0), (3, 0), (4, 0), (5, 0), (6, 0), (7, 0), (8, 0), (9, 0), (10, 0), (11, 0), (12, 0), (13, 0), (14, 0), (15, 0), (16, 0), (17, 0), (18, 0), (19, 0), (20, 0), (21, 0), (22, 0), (23, 0), (24, 0)]
abbrev QN5 : AC := .run [(.op (some 6) none (.mv (.k (.bool false))))]
abbrev QN6 : AC := .seq QN5 .ret
abbrev QN7 : AC := .cond (.s 53) QN6 .skip
abbrev QN8 : AC := .seq QN4 QN7
abbrev QN9 : AC := .run [(.op (some 54) none (.mv (.s 0))), (.op (some 55) none (.faddr (.s 8) 11)), (.op (some 56) none (.load (.s 55) false 1)), (.op (some 57) none (.mv (.s 2))), (.op (some 58) none (.bin .add (.s 57) (.k (.int .i64 1)))), (.call (some 59) none n_tree_looker_rows [(.s 54), (.s 56), (.s 58)]), (.op (some 60) none (.un .not (.s 59))), (.op (some 61) none (.mv (.s 60))), (.op (some 62) (some (61, false)) (.mv (.s 0))), (.op (some 63) (some (61, false)) (.faddr (.s 8) 12)), (.op (some 64) (some (61, false)) (.load (.s 63) false 1)), (.op (some 65) (some (61, false)) (.mv (.s 2))), (.op (some 66) (some (61, false)) (.bin .add (.s 65) (.k (.int .i64 1)))), (.call (some 67) (some (61, false)) n_tree_looker_rows [(.s 62), (.s 64), (.s 66)]), (.op (some 68) (some (61, false)) (.un .not (.s 67))), (.op (some 69) none (.pick (.s 61) (.k (.bool true)) (.s 68)))]
abbrev QNA : AC := .run [(.op (some 6) none (.mv (.k (.bool false))))]
abbrev QNB : AC := .seq QNA .ret
abbrev QNC : AC := .cond (.s 69) QNB .skip
abbrev QND : AC := .seq QN9 QNC
abbrev QNE : AC := .seq QN8 QND
abbrev QNF : AC := .seq QN3 QNE
abbrev QNG : AC := .seq QN2 QNF
abbrev QNH : AC := .block 1 QNG
abbrev QNI : AC := .run [(.op (some 70) none (.bin .add (.s 18) (.k (.int .i64 1)))), (.op (some 18) none (.mv (.s 70)))]
abbrev QNJ : AC := .seq QNH QNI
abbrev QNK : AC := .seq QN1 QNJ
abbrev QNL : AC := .seq QN0 QNK
abbrev QNM : AC := .loop QNL
abbrev QNN : AC := .block 0 QNM
abbrev QNO : AC := .seq QMZ QNN
abbrev QNP : AC := .run [(.op (some 6) none (.mv (.k (.bool true))))]
abbrev QNQ : AC := .seq QNP .ret
abbrev QNR : AC := .seq QNO QNQ
abbrev QNS : AC := .seq QMY QNR
abbrev QNT : AC := .seq QMT QNS

end Go.Abs

/-! Have1 -/

namespace Go.Abs
open Go.Proofs

theorem has_print_writer_line : Has Tryd.prog n_print_writer_line 23 [] Q9G := ⟨Tryd.f34, by kernel_rfl, by kernel_rfl⟩
theorem has_print_ref : Has Tryd.prog n_print_ref 4 [(2, none)] Q9Q := ⟨Tryd.f36, by kernel_rfl, by kernel_rfl⟩
theorem has_print_writer_rows : Has Tryd.prog n_print_writer_rows 84 [] QAW := ⟨Tryd.f37, by kernel_rfl, by kernel_rfl⟩
theorem has_print_marks : Has Tryd.prog n_print_marks 18 [(2, none)] QBH := ⟨Tryd.f38, by kernel_rfl, by kernel_rfl⟩
theorem has_ref3_weighExpr : Has Tryd.prog n_ref3_weighExpr 29 [(4, none)] QC0 := ⟨Tryd.f43, by kernel_rfl, by kernel_rfl⟩
theorem has_tree_MayExpr : Has Tryd.prog n_tree_MayExpr 5 [(2, none)] QC4 := ⟨Tryd.f44, by kernel_rfl, by kernel_rfl⟩
theorem has_print_expr : Has Tryd.prog n_print_expr 66 [(4, none)] QD6 := ⟨Tryd.f45, by kernel_rfl, by kernel_rfl⟩
theorem has_ref3_names : Has Tryd.prog n_ref3_names 15 [(2, none)] QDT := ⟨Tryd.f47, by kernel_rfl, by kernel_rfl⟩
theorem has_ref1_Name : Has Tryd.prog n_ref1_Name 38 [(2, none)] QEK := ⟨Tryd.f48, by kernel_rfl, by kernel_rfl⟩
theorem has_ref3_one : Has Tryd.prog n_ref3_one 178 [(2, none)] QFV := ⟨Tryd.f50, by kernel_rfl, by kernel_rfl⟩
theorem has_ref3_deep : Has Tryd.prog n_ref3_deep 36 [(4, none)] QGP := ⟨Tryd.f53, by kernel_rfl, by kernel_rfl⟩
theorem has_ref3_form : Has Tryd.prog n_ref3_form 60 [(2, none)] QHI := ⟨Tryd.f54, by kernel_rfl, by kernel_rfl⟩
theorem has_lex_All : Has Tryd.prog n_lex_All 152 [(2, none), (3, (some (true, 2)))] QKU := ⟨Tryd.f55, by kernel_rfl, by kernel_rfl⟩
theorem has_parse_reader_whole : Has Tryd.prog n_parse_reader_whole 23 [(2, (some (true, 4)))] QL7 := ⟨Tryd.f56, by kernel_rfl, by kernel_rfl⟩
theorem has_parse_reader_good : Has Tryd.prog n_parse_reader_good 9 [(2, none)] QLB := ⟨Tryd.f57, by kernel_rfl, by kernel_rfl⟩
theorem has_parse_reader_peek : Has Tryd.prog n_parse_reader_peek 13 [(2, (some (true, 4)))] QLF := ⟨Tryd.f58, by kernel_rfl, by kernel_rfl⟩
theorem has_parse_reader_bad : Has Tryd.prog n_parse_reader_bad 14 [] QLJ := ⟨Tryd.f59, by kernel_rfl, by kernel_rfl⟩
theorem has_ref3_num : Has Tryd.prog n_ref3_num 5 [(2, (some (true, 4)))] QLN := ⟨Tryd.f62, by kernel_rfl, by kernel_rfl⟩
theorem has_ref3_name : Has Tryd.prog n_ref3_name 5 [(2, (some (true, 4)))] QLR := ⟨Tryd.f63, by kernel_rfl, by kernel_rfl⟩
theorem has_ref3_two : Has Tryd.prog n_ref3_two 12 [(6, (some (true, 4)))] QLV := ⟨Tryd.f64, by kernel_rfl, by kernel_rfl⟩
theorem has_tree_names : Has Tryd.prog n_tree_names 15 [(2, none)] QMI := ⟨Tryd.f65, by kernel_rfl, by kernel_rfl⟩
theorem has_lex_Name : Has Tryd.prog n_lex_Name 27 [(2, none)] QMS := ⟨Tryd.f66, by kernel_rfl, by kernel_rfl⟩
theorem has_tree_looker_rows : Has Tryd.prog n_tree_looker_rows 71 [(6, none)] QNT := ⟨Tryd.f67, by kernel_rfl, by kernel_rfl⟩

end Go.Abs

/-! Codes2 -/

namespace Go.Abs

abbrev QNU : AC := .run [(.op (some 4) none (.mv (.k (.val .nilIface))))]
abbrev QNV : AC := .run [(.op (some 5) none (.mv (.s 0))), (.call (some 6) none n_strings_Builder_copyCheck [(.s 5)])]
abbrev QNW : AC := .run [(.op (some 7) none (.mv (.s 0))), (.op (some 8) none (.mv (.s 0))), (.op (some 9) none (.nilck (.s 8))), (.op (some 10) none (.faddr (.s 9) 1)), (.op (some 11) none (.load (.s 10) false 1)), (.op (some 12) none (.mv (.s 1))), (.op (some 13) none (.bslice [(.int .u8 0)] 1 1 [(0, (.s 12))])), (.op (some 14) none (.appb (.s 11) (.s 13))), (.op (some 15) none (.nilck (.s 7))), (.op (some 16) none (.faddr (.s 15) 1)), (.op none none (.store (.s 16) (.s 14) 1))]
abbrev QNX : AC := .run [(.op (some 4) none (.mv (.k (.val .nilIface))))]
abbrev QNY : AC := .seq QNX .ret
abbrev QNZ : AC := .seq QNW QNY
abbrev QO0 : AC := .seq QNV QNZ
abbrev QO1 : AC := .seq QNU QO0
abbrev QO2 : AC := .run [(.op (some 4) none (.mv (.k (.int .i64 0)))), (.op (some 5) none (.mv (.k (.val .nilIface))))]
abbrev QO3 : AC := .run [(.op (some 6) none (.mv (.s 0))), (.call (some 7) none n_strings_Builder_copyCheck [(.s 6)])]
abbrev QO4 : AC := .run [(.op (some 8) none (.mv (.s 0))), (.op (some 9) none (.mv (.s 0))), (.op (some 10) none (.nilck (.s 9))), (.op (some 11) none (.faddr (.s 10) 1)), (.op (some 12) none (.load (.s 11) false 1)), (.op (some 13) none (.mv (.s 1))), (.op (some 14) none (.apps (.s 12) (.s 13))), (.op (some 15) none (.nilck (.s 8))), (.op (some 16) none (.faddr (.s 15) 1)), (.op none none (.store (.s 16) (.s 14) 1))]
abbrev QO5 : AC := .run [(.op (some 17) none (.mv (.s 1))), (.op (some 18) none (.slen (.s 17))), (.op (some 4) none (.mv (.s 18))), (.op (some 5) none (.mv (.k (.val .nilIface))))]
abbrev QO6 : AC := .seq QO5 .ret
abbrev QO7 : AC := .seq QO4 QO6
abbrev QO8 : AC := .seq QO3 QO7
abbrev QO9 : AC := .seq QO2 QO8
abbrev QOA : AC := .run [(.op (some 1) none (.box (.s 0))), (.op (some 2) none (.mv (.k (.str []))))]
abbrev QOB : AC := .run [(.op (some 7) none (.faddr (.s 1) 1)), (.op (some 8) none (.load (.s 7) false 1))]
abbrev QOC : AC := .run [(.op (some 10) none (.bin .eql (.s 8) (.k (.int .i64 1)))), (.op (some 9) none (.mv (.s 10)))]
abbrev QOD : AC := .par [(.op (some 11) none (.faddr (.s 1) 3)), (.op (some 12) none (.load (.s 11) false 1)), (.op (some 13) none (.bin .add (.s 12) (.k (.str [32, 61, 32])))), (.op (some 14) none (.faddr (.s 1) 5)), (.op (some 15) none (.load (.s 14) true 4)), (.call (some 16) none n_print_expr [(.s 15), (.k (.int .i64 0))]), (.op (some 17) none (.bin .add (.s 13) (.s 16))), (.op (some 2) none (.mv (.s 17)))] [(3, 0), (4, 0), (5, 0), (0, 0), (1, 1), (2, 0), (6, 0), (7, 0)]
abbrev QOE : AC := .seq QOD .ret
abbrev QOF : AC := .run [(.op (some 19) none (.bin .eql (.s 8) (.k (.int .i64 2)))), (.op (some 18) none (.mv (.s 19)))]
abbrev QOG : AC := .run [(.op (some 20) none (.faddr (.s 1) 3)), (.op (some 21) none (.load (.s 20) false 1)), (.op (some 22) none (.bin .add (.k (.str [114, 101, 97, 100, 32])) (.s 21))), (.op (some 2) none (.mv (.s 22)))]
abbrev QOH : AC := .seq QOG .ret
abbrev QOI : AC := .run [(.op (some 24) none (.bin .eql (.s 8) (.k (.int .i64 3)))), (.op (some 23) none (.mv (.s 24)))]
abbrev QOJ : AC := .run [(.op (some 25) none (.faddr (.s 1) 5)), (.op (some 26) none (.load (.s 25) true 4)), (.call (some 27) none n_print_expr [(.s 26), (.k (.int .i64 0))]), (.op (some 28) none (.bin .add (.k (.str [112, 114, 105, 110, 116, 32])) (.s 27))), (.op (some 2) none (.mv (.s 28)))]
abbrev QOK : AC := .seq QOJ .ret
abbrev QOL : AC := .run [(.op (some 30) none (.bin .eql (.s 8) (.k (.int .i64 7)))), (.op (some 29) none (.mv (.s 30)))]
abbrev QOM : AC := .run [(.op (some 2) none (.mv (.k (.str [98, 114, 101, 97, 107]))))]
abbrev QON : AC := .seq QOM .ret
abbrev QOO : AC := .run [(.op (some 32) none (.bin .eql (.s 8) (.k (.int .i64 8)))), (.op (some 31) none (.mv (.s 32)))]
abbrev QOP : AC := .run [(.op (some 2) none (.mv (.k (.str [99, 111, 110, 116, 105, 110, 117, 101]))))]
abbrev QOQ : AC := .seq QOP .ret
abbrev QOR : AC := .run [(.op (some 34) none (.bin .eql (.s 8) (.k (.int .i64 10)))), (.op (some 33) none (.mv (.s 34)))]
abbrev QOS : AC := .run [(.op (some 35) none (.faddr (.s 1) 3)), (.op (some 36) none (.load (.s 35) false 1)), (.op (some 37) none (.bin .add (.k (.str [103, 111, 116, 111, 32])) (.s 36))), (.op (some 2) none (.mv (.s 37)))]
abbrev QOT : AC := .seq QOS .ret
abbrev QOU : AC := .run [(.op (some 39) none (.bin .eql (.s 8) (.k (.int .i64 9)))), (.op (some 38) none (.mv (.s 39)))]
abbrev QOV : AC := .run [(.op (some 40) none (.faddr (.s 1) 9)), (.op (some 41) none (.load (.s 40) false 1))]
abbrev QOW : AC := .run [(.op (some 42) none (.faddr (.s 1) 5)), (.op (some 43) none (.load (.s 42) true 4)), (.call (some 44) none n_print_expr [(.s 43), (.k (.int .i64 0))]), (.op (some 45) none (.bin .add (.k (.str [114, 101, 116, 117, 114, 110, 32])) (.s 44))), (.op (some 2) none (.mv (.s 45)))]
abbrev QOX : AC := .seq QOW .ret
abbrev QOY : AC := .cond (.s 41) QOX .skip
abbrev QOZ : AC := .seq QOV QOY
abbrev QP0 : AC := .run [(.op (some 2) none (.mv (.k (.str [114, 101, 116, 117, 114, 110]))))]
abbrev QP1 : AC := .seq QP0 .ret
abbrev QP2 : AC := .seq QOZ QP1
abbrev QP3 : AC := .cond (.s 38) QP2 .skip
abbrev QP4 : AC := .seq QOU QP3
abbrev QP5 : AC := .cond (.s 33) QOT QP4
abbrev QP6 : AC := .seq QOR QP5
abbrev QP7 : AC := .cond (.s 31) QOQ QP6
abbrev QP8 : AC := .seq QOO QP7
abbrev QP9 : AC := .cond (.s 29) QON QP8
abbrev QPA : AC := .seq QOL QP9
abbrev QPB : AC := .cond (.s 23) QOK QPA
abbrev QPC : AC := .seq QOI QPB
abbrev QPD : AC := .cond (.s 18) QOH QPC
abbrev QPE : AC := .seq QOF QPD
abbrev QPF : AC := .cond (.s 9) QOE QPE
abbrev QPG : AC := .seq QOC QPF
abbrev QPH : AC := .block 0 QPG
abbrev QPI : AC := .seq QOB QPH
abbrev QPJ : AC := .run [(.op (some 3) none (.mv (.k (.slice .full 0 []))))]
abbrev QPK : AC := .run [(.op (some 46) none (.faddr (.s 1) 10)), (.op (some 47) none (.load (.s 46) false 1)), (.op (some 48) none (.len (.s 47))), (.op (some 49) none (.mv (.k (.int .i64 0))))]
abbrev QPL : AC := .run [(.op (some 50) none (.bin .lss (.s 49) (.s 48)))]
abbrev QPM : AC := .cond (.s 50) .skip (.exit 1)
abbrev QPN : AC := .run [(.op (some 51) none (.iaddr (.s 47) (.s 49) 6)), (.op (some 52) none (.load (.s 51) true 6)), (.op (some 5) none (.alloc [(.bool false), (.str []), (.int .i64 0), (.int .i64 0), (.str []), (.slice .full 0 [])])), (.op none none (.store (.s 5) (.s 52) 6))]
abbrev QPO : AC := .run [(.op (some 53) none (.faddr (.s 5) 0)), (.op (some 54) none (.load (.s 53) false 1))]
abbrev QPP : AC := .par [(.op (some 55) none (.mv (.s 3))), (.call (some 56) none n_print_ref [(.k (.bool true))]), (.op (some 57) none (.faddr (.s 5) 1)), (.op (some 58) none (.load (.s 57) false 1)), (.op (some 59) none (.bin .add (.s 56) (.s 58))), (.op (some 60) none (.bslice [(.str [])] 1 1 [(0, (.s 59))])), (.op (some 61) none (.app 1 16 (.s 55) (.s 60))), (.op (some 3) none (.mv (.s 61)))] [(1, 0), (0, 0), (2, 0), (3, 1), (4, 0), (5, 0), (6, 0), (7, 0)]
abbrev QPQ : AC := .run [(.op (some 62) none (.mv (.s 3))), (.op (some 63) none (.faddr (.s 5) 2)), (.op (some 64) none (.load (.s 63) true 4)), (.call (some 65) none n_print_expr [(.s 64), (.k (.int .i64 0))]), (.op (some 66) none (.bslice [(.str [])] 1 1 [(0, (.s 65))])), (.op (some 67) none (.app 1 16 (.s 62) (.s 66))), (.op (some 3) none (.mv (.s 67)))]
abbrev QPR : AC := .cond (.s 54) QPP QPQ
abbrev QPS : AC := .seq QPO QPR
abbrev QPT : AC := .seq QPN QPS
abbrev QPU : AC := .block 2 QPT
abbrev QPV : AC := .run [(.op (some 68) none (.bin .add (.s 49) (.k (.int .i64 1)))), (.op (some 49) none (.mv (.s 68)))]
abbrev QPW : AC := .seq QPU QPV
abbrev QPX : AC := .seq QPM QPW
abbrev QPY : AC := .seq QPL QPX
abbrev QPZ : AC := .loop QPY
abbrev QQ0 : AC := .block 1 QPZ
abbrev QQ1 : AC := .seq QPK QQ0
abbrev QQ2 : AC := .par [(.op (some 69) none (.faddr (.s 1) 4)), (.op (some 70) none (.load (.s 69) false 1)), (.op (some 71) none (.bin .add (.s 70) (.k (.str [40])))), (.op (some 72) none (.mv (.s 3))), (.call (some 73) none n_strings_Join [(.s 72), (.k (.str [44, 32]))]), (.op (some 74) none (.bin .add (.s 71) (.s 73))), (.op (some 75) none (.bin .add (.s 74) (.k (.str [41])))), (.op (some 6) none (.mv (.s 75)))] [(3, 0), (4, 0), (0, 0), (1, 1), (2, 0), (5, 0), (6, 0), (7, 0)]
abbrev QQ3 : AC := .run [(.op (some 76) none (.faddr (.s 1) 3)), (.op (some 77) none (.load (.s 76) false 1)), (.op (some 78) none (.bin .neq (.s 77) (.k (.str []))))]
abbrev QQ4 : AC := .run [(.op (some 79) none (.faddr (.s 1) 3)), (.op (some 80) none (.load (.s 79) false 1)), (.op (some 81) none (.bin .add (.s 80) (.k (.str [32, 61, 32])))), (.op (some 82) none (.mv (.s 6))), (.op (some 83) none (.bin .add (.s 81) (.s 82))), (.op (some 2) none (.mv (.s 83)))]
abbrev QQ5 : AC := .seq QQ4 .ret
abbrev QQ6 : AC := .cond (.s 78) QQ5 .skip
abbrev QQ7 : AC := .seq QQ3 QQ6
abbrev QQ8 : AC := .run [(.op (some 84) none (.mv (.s 6))), (.op (some 2) none (.mv (.s 84)))]
abbrev QQ9 : AC := .seq QQ8 .ret
abbrev QQA : AC := .seq QQ7 QQ9
abbrev QQB : AC := .seq QQ2 QQA
abbrev QQC : AC := .seq QQ1 QQB
abbrev QQD : AC := .seq QPJ QQC
abbrev QQE : AC := .seq QPI QQD
abbrev QQF : AC := .seq QOA QQE
abbrev QQG : AC := .run [(.op (some 2) none (.box (.s 0))), (.op (some 4) none (.mv (.k (.bool false))))]
abbrev QQH : AC := .par [(.op (some 7) none (.mv (.s 1))), (.op (some 8) none (.bin .lss (.s 7) (.k (.int .i64 1)))), (.op (some 9) none (.mv (.s 8))), (.op (some 10) (some (9, false)) (.faddr (.s 2) 3)), (.op (some 11) (some (9, false)) (.load (.s 10) false 1)), (.op (some 12) (some (9, false)) (.len (.s 11))), (.op (some 13) (some (9, false)) (.faddr (.s 2) 0)), (.op (some 14) (some (9, false)) (.load (.s 13) false 1)), (.call (some 15) (some (9, false)) n_tree_kids [(.s 14)]), (.op (some 16) (some (9, false)) (.bin .neq (.s 12) (.s 15))), (.op (some 17) none (.pick (.s 9) (.k (.bool true)) (.s 16)))] [(0, 0), (1, 0), (2, 0), (6, 0), (7, 0), (8, 0), (3, 0), (4, 1), (5, 0), (9, 0), (10, 0)]
abbrev QQI : AC := .run [(.op (some 4) none (.mv (.k (.bool false))))]
abbrev QQJ : AC := .seq QQI .ret
abbrev QQK : AC := .cond (.s 17) QQJ .skip
abbrev QQL : AC := .seq QQH QQK
abbrev QQM : AC := .run [(.op (some 18) none (.faddr (.s 2) 0)), (.op (some 19) none (.load (.s 18) false 1))]
abbrev QQN : AC := .run [(.op (some 21) none (.bin .eql (.s 19) (.k (.int .i64 1)))), (.op (some 20) none (.mv (.s 21)))]
abbrev QQO : AC := .run [(.op (some 22) none (.faddr (.s 2) 1)), (.op (some 23) none (.load (.s 22) false 1)), (.op (some 24) none (.bin .geq (.s 23) (.k (.int .i64 0)))), (.op (some 25) none (.mv (.s 24))), (.op (some 26) (some (25, true)) (.faddr (.s 2) 2)), (.op (some 27) (some (25, true)) (.load (.s 26) false 1)), (.op (some 28) (some (25, true)) (.bin .eql (.s 27) (.k (.str [])))), (.op (some 29) none (.pick (.s 25) (.s 28) (.k (.bool false)))), (.op (some 4) none (.mv (.s 29)))]
abbrev QQP : AC := .seq QQO .ret
abbrev QQQ : AC := .run [(.op (some 31) none (.bin .eql (.s 19) (.k (.int .i64 2)))), (.op (some 30) none (.mv (.s 31)))]
abbrev QQR : AC := .run [(.op (some 32) none (.faddr (.s 2) 1)), (.op (some 33) none (.load (.s 32) false 1)), (.op (some 34) none (.bin .eql (.s 33) (.k (.int .i64 0)))), (.op (some 35) none (.mv (.s 34))), (.op (some 36) (some (35, true)) (.faddr (.s 2) 2)), (.op (some 37) (some (35, true)) (.load (.s 36) false 1)), (.call (some 38) (some (35, true)) n_lex_Name [(.s 37)]), (.op (some 39) none (.pick (.s 35) (.s 38) (.k (.bool false)))), (.op (some 4) none (.mv (.s 39)))]
abbrev QQS : AC := .seq QQR .ret
abbrev QQT : AC := .cond (.s 30) QQS .skip
abbrev QQU : AC := .seq QQQ QQT
abbrev QQV : AC := .cond (.s 20) QQP QQU
abbrev QQW : AC := .seq QQN QQV
abbrev QQX : AC := .block 0 QQW
abbrev QQY : AC := .seq QQM QQX
abbrev QQZ : AC := .run [(.op (some 40) none (.faddr (.s 2) 1)), (.op (some 41) none (.load (.s 40) false 1)), (.op (some 42) none (.bin .neq (.s 41) (.k (.int .i64 0)))), (.op (some 43) none (.mv (.s 42))), (.op (some 44) (some (43, false)) (.faddr (.s 2) 2)), (.op (some 45) (some (43, false)) (.load (.s 44) false 1)), (.op (some 46) (some (43, false)) (.bin .neq (.s 45) (.k (.str [])))), (.op (some 47) none (.pick (.s 43) (.k (.bool true)) (.s 46)))]
abbrev QR0 : AC := .run [(.op (some 4) none (.mv (.k (.bool false))))]
abbrev QR1 : AC := .seq QR0 .ret
abbrev QR2 : AC := .cond (.s 47) QR1 .skip
abbrev QR3 : AC := .seq QQZ QR2
abbrev QR4 : AC := .run [(.op (some 48) none (.faddr (.s 2) 3)), (.op (some 49) none (.load (.s 48) false 1)), (.op (some 50) none (.len (.s 49))), (.op (some 51) none (.mv (.k (.int .i64 0))))]
abbrev QR5 : AC := .run [(.op (some 52) none (.bin .lss (.s 51) (.s 50)))]
abbrev QR6 : AC := .cond (.s 52) .skip (.exit 1)
abbrev QR7 : AC := .run [(.op (some 53) none (.iaddr (.s 49) (.s 51) 4)), (.op (some 54) none (.load (.s 53) true 4)), (.op (some 6) none (.alloc [(.int .i64 0), (.int .i64 0), (.str []), (.slice .full 0 [])])), (.op none none (.store (.s 6) (.s 54) 4))]
abbrev QR8 : AC := .run [(.op (some 55) none (.load (.s 6) true 4)), (.op (some 56) none (.mv (.s 1))), (.op (some 57) none (.bin .sub (.s 56) (.k (.int .i64 1)))), (.call (some 58) none n_tree_deep [(.s 55), (.s 57)]), (.op (some 59) none (.un .not (.s 58)))]
abbrev QR9 : AC := .run [(.op (some 4) none (.mv (.k (.bool false))))]
abbrev QRA : AC := .seq QR9 .ret
abbrev QRB : AC := .cond (.s 59) QRA .skip
abbrev QRC : AC := .seq QR8 QRB
abbrev QRD : AC := .seq QR7 QRC
abbrev QRE : AC := .block 2 QRD
abbrev QRF : AC := .run [(.op (some 60) none (.bin .add (.s 51) (.k (.int .i64 1)))), (.op (some 51) none (.mv (.s 60)))]
abbrev QRG : AC := .seq QRE QRF
abbrev QRH : AC := .seq QR6 QRG
abbrev QRI : AC := .seq QR5 QRH
abbrev QRJ : AC := .loop QRI
abbrev QRK : AC := .block 1 QRJ
abbrev QRL : AC := .seq QR4 QRK
abbrev QRM : AC := .run [(.op (some 4) none (.mv (.k (.bool true))))]
abbrev QRN : AC := .seq QRM .ret
abbrev QRO : AC := .seq QRL QRN
abbrev QRP : AC := .seq QR3 QRO
abbrev QRQ : AC := .seq QQY QRP
abbrev QRR : AC := .seq QQL QRQ
abbrev QRS : AC := .seq QQG QRR
abbrev QRT : AC := .run [(.op (some 2) none (.mv (.k (.str [])))), (.op (some 3) none (.mv (.k (.int .i64 0))))]
abbrev QRU : AC := .run [(.op (some 4) none (.mv (.s 0)))]
abbrev QRV : AC := .run [(.op (some 6) none (.bin .eql (.s 4) (.k (.int .i64 17)))), (.op (some 5) none (.mv (.s 6)))]
abbrev QRW : AC := .run [(.op (some 2) none (.mv (.k (.str [124, 124])))), (.op (some 3) none (.mv (.k (.int .i64 1))))]
abbrev QRX : AC := .seq QRW .ret
abbrev QRY : AC := .run [(.op (some 8) none (.bin .eql (.s 4) (.k (.int .i64 16)))), (.op (some 7) none (.mv (.s 8)))]
abbrev QRZ : AC := .run [(.op (some 2) none (.mv (.k (.str [38, 38])))), (.op (some 3) none (.mv (.k (.int .i64 2))))]
abbrev QS0 : AC := .seq QRZ .ret
abbrev QS1 : AC := .run [(.op (some 10) none (.bin .eql (.s 4) (.k (.int .i64 14)))), (.op (some 9) none (.mv (.s 10)))]
abbrev QS2 : AC := .run [(.op (some 2) none (.mv (.k (.str [61, 61])))), (.op (some 3) none (.mv (.k (.int .i64 3))))]
abbrev QS3 : AC := .seq QS2 .ret
abbrev QS4 : AC := .run [(.op (some 12) none (.bin .eql (.s 4) (.k (.int .i64 15)))), (.op (some 11) none (.mv (.s 12)))]
abbrev QS5 : AC := .run [(.op (some 2) none (.mv (.k (.str [33, 61])))), (.op (some 3) none (.mv (.k (.int .i64 3))))]
abbrev QS6 : AC := .seq QS5 .ret
abbrev QS7 : AC := .run [(.op (some 14) none (.bin .eql (.s 4) (.k (.int .i64 10)))), (.op (some 13) none (.mv (.s 14)))]
abbrev QS8 : AC := .run [(.op (some 2) none (.mv (.k (.str [60])))), (.op (some 3) none (.mv (.k (.int .i64 4))))]
abbrev QS9 : AC := .seq QS8 .ret
abbrev QSA : AC := .run [(.op (some 16) none (.bin .eql (.s 4) (.k (.int .i64 11)))), (.op (some 15) none (.mv (.s 16)))]
abbrev QSB : AC := .run [(.op (some 2) none (.mv (.k (.str [60, 61])))), (.op (some 3) none (.mv (.k (.int .i64 4))))]
abbrev QSC : AC := .seq QSB .ret
abbrev QSD : AC := .run [(.op (some 18) none (.bin .eql (.s 4) (.k (.int .i64 12)))), (.op (some 17) none (.mv (.s 18)))]
abbrev QSE : AC := .run [(.op (some 2) none (.mv (.k (.str [62])))), (.op (some 3) none (.mv (.k (.int .i64 4))))]
abbrev QSF : AC := .seq QSE .ret
abbrev QSG : AC := .run [(.op (some 20) none (.bin .eql (.s 4) (.k (.int .i64 13)))), (.op (some 19) none (.mv (.s 20)))]
abbrev QSH : AC := .run [(.op (some 2) none (.mv (.k (.str [62, 61])))), (.op (some 3) none (.mv (.k (.int .i64 4))))]
abbrev QSI : AC := .seq QSH .ret
abbrev QSJ : AC := .run [(.op (some 22) none (.bin .eql (.s 4) (.k (.int .i64 8)))), (.op (some 21) none (.mv (.s 22)))]
abbrev QSK : AC := .run [(.op (some 2) none (.mv (.k (.str [43])))), (.op (some 3) none (.mv (.k (.int .i64 5))))]
abbrev QSL : AC := .seq QSK .ret
abbrev QSM : AC := .run [(.op (some 24) none (.bin .eql (.s 4) (.k (.int .i64 9)))), (.op (some 23) none (.mv (.s 24)))]
abbrev QSN : AC := .run [(.op (some 2) none (.mv (.k (.str [45])))), (.op (some 3) none (.mv (.k (.int .i64 5))))]
abbrev QSO : AC := .seq QSN .ret
abbrev QSP : AC := .run [(.op (some 26) none (.bin .eql (.s 4) (.k (.int .i64 5)))), (.op (some 25) none (.mv (.s 26)))]
abbrev QSQ : AC := .run [(.op (some 2) none (.mv (.k (.str [42])))), (.op (some 3) none (.mv (.k (.int .i64 6))))]
abbrev QSR : AC := .seq QSQ .ret
abbrev QSS : AC := .run [(.op (some 28) none (.bin .eql (.s 4) (.k (.int .i64 6)))), (.op (some 27) none (.mv (.s 28)))]
abbrev QST : AC := .run [(.op (some 2) none (.mv (.k (.str [47])))), (.op (some 3) none (.mv (.k (.int .i64 6))))]
abbrev QSU : AC := .seq QST .ret
abbrev QSV : AC := .run [(.op (some 30) none (.bin .eql (.s 4) (.k (.int .i64 7)))), (.op (some 29) none (.mv (.s 30)))]
abbrev QSW : AC := .run [(.op (some 2) none (.mv (.k (.str [37])))), (.op (some 3) none (.mv (.k (.int .i64 6))))]
abbrev QSX : AC := .seq QSW .ret
abbrev QSY : AC := .cond (.s 29) QSX .skip
abbrev QSZ : AC := .seq QSV QSY
abbrev QT0 : AC := .cond (.s 27) QSU QSZ
abbrev QT1 : AC := .seq QSS QT0
abbrev QT2 : AC := .cond (.s 25) QSR QT1
abbrev QT3 : AC := .seq QSP QT2
abbrev QT4 : AC := .cond (.s 23) QSO QT3
abbrev QT5 : AC := .seq QSM QT4
abbrev QT6 : AC := .cond (.s 21) QSL QT5
abbrev QT7 : AC := .seq QSJ QT6
abbrev QT8 : AC := .cond (.s 19) QSI QT7
abbrev QT9 : AC := .seq QSG QT8
abbrev QTA : AC := .cond (.s 17) QSF QT9
abbrev QTB : AC := .seq QSD QTA
abbrev QTC : AC := .cond (.s 15) QSC QTB
abbrev QTD : AC := .seq QSA QTC
abbrev QTE : AC := .cond (.s 13) QS9 QTD
abbrev QTF : AC := .seq QS7 QTE
abbrev QTG : AC := .cond (.s 11) QS6 QTF
abbrev QTH : AC := .seq QS4 QTG
abbrev QTI : AC := .cond (.s 9) QS3 QTH
abbrev QTJ : AC := .seq QS1 QTI
abbrev QTK : AC := .cond (.s 7) QS0 QTJ
abbrev QTL : AC := .seq QRY QTK
abbrev QTM : AC := .cond (.s 5) QRX QTL
abbrev QTN : AC := .seq QRV QTM
abbrev QTO : AC := .block 0 QTN
abbrev QTP : AC := .seq QRU QTO
abbrev QTQ : AC := .run [(.op (some 2) none (.mv (.k (.str [])))), (.op (some 3) none (.mv (.k (.int .i64 7))))]
abbrev QTR : AC := .seq QTQ .ret
abbrev QTS : AC := .seq QTP QTR
abbrev QTT : AC := .seq QRT QTS
abbrev QTU : AC := .run [(.op (some 2) none (.mv (.k (.int .i64 0))))]
abbrev QTV : AC := .run [(.op (some 4) none (.mv (.s 0))), (.op (some 5) none (.bin .eql (.s 4) (.k (.int .i64 1)))), (.op (some 6) none (.mv (.s 5))), (.op (some 7) (some (6, false)) (.mv (.s 0))), (.op (some 8) (some (6, false)) (.bin .eql (.s 7) (.k (.int .i64 2)))), (.op (some 9) none (.pick (.s 6) (.k (.bool true)) (.s 8))), (.op (some 3) none (.mv (.s 9)))]
abbrev QTW : AC := .run [(.op (some 2) none (.mv (.k (.int .i64 0))))]
abbrev QTX : AC := .seq QTW .ret
abbrev QTY : AC := .run [(.op (some 11) none (.mv (.s 0))), (.op (some 12) none (.bin .eql (.s 11) (.k (.int .i64 3)))), (.op (some 13) none (.mv (.s 12))), (.op (some 14) (some (13, false)) (.mv (.s 0))), (.op (some 15) (some (13, false)) (.bin .eql (.s 14) (.k (.int .i64 4)))), (.op (some 16) none (.pick (.s 13) (.k (.bool true)) (.s 15))), (.op (some 10) none (.mv (.s 16)))]
abbrev QTZ : AC := .run [(.op (some 2) none (.mv (.k (.int .i64 1))))]
abbrev QU0 : AC := .seq QTZ .ret
abbrev QU1 : AC := .run [(.op (some 18) none (.mv (.s 0))), (.op (some 19) none (.bin .geq (.s 18) (.k (.int .i64 5)))), (.op (some 20) none (.mv (.s 19))), (.op (some 21) (some (20, true)) (.mv (.s 0))), (.op (some 22) (some (20, true)) (.bin .leq (.s 21) (.k (.int .i64 17)))), (.op (some 23) none (.pick (.s 20) (.s 22) (.k (.bool false)))), (.op (some 17) none (.mv (.s 23)))]
abbrev QU2 : AC := .run [(.op (some 2) none (.mv (.k (.int .i64 2))))]
abbrev QU3 : AC := .seq QU2 .ret
abbrev QU4 : AC := .cond (.s 17) QU3 .skip
abbrev QU5 : AC := .seq QU1 QU4
abbrev QU6 : AC := .cond (.s 10) QU0 QU5
abbrev QU7 : AC := .seq QTY QU6
abbrev QU8 : AC := .cond (.s 3) QTX QU7
abbrev QU9 : AC := .seq QTV QU8
abbrev QUA : AC := .block 0 QU9
abbrev QUB : AC := .run [(.op (some 2) none (.mv (.k (.int .i64 (-1)))))]
abbrev QUC : AC := .seq QUB .ret
abbrev QUD : AC := .seq QUA QUC
abbrev QUE : AC := .seq QTU QUD
abbrev QUF : AC := .run [(.op (some 2) none (.mv (.k (.bool false))))]
abbrev QUG : AC := .run [(.op (some 3) none (.mv (.s 0))), (.op (some 4) none (.bin .geq (.s 3) (.k (.int .u8 97)))), (.op (some 5) none (.mv (.s 4))), (.op (some 6) (some (5, true)) (.mv (.s 0))), (.op (some 7) (some (5, true)) (.bin .leq (.s 6) (.k (.int .u8 122)))), (.op (some 8) none (.pick (.s 5) (.s 7) (.k (.bool false)))), (.op (some 2) none (.mv (.s 8)))]
abbrev QUH : AC := .seq QUG .ret
abbrev QUI : AC := .seq QUF QUH
abbrev QUJ : AC := .run [(.op (some 2) none (.mv (.k (.bool false))))]
abbrev QUK : AC := .run [(.op (some 3) none (.mv (.s 0))), (.op (some 4) none (.bin .geq (.s 3) (.k (.int .u8 48)))), (.op (some 5) none (.mv (.s 4))), (.op (some 6) (some (5, true)) (.mv (.s 0))), (.op (some 7) (some (5, true)) (.bin .leq (.s 6) (.k (.int .u8 57)))), (.op (some 8) none (.pick (.s 5) (.s 7) (.k (.bool false)))), (.op (some 2) none (.mv (.s 8)))]
abbrev QUL : AC := .seq QUK .ret
abbrev QUM : AC := .seq QUJ QUL
abbrev QUN : AC := .run [(.op (some 2) none (.mv (.k (.bool false))))]
abbrev QUO : AC := .run [(.call (some 5) none n_ref1_Words []), (.op (some 6) none (.len (.s 5))), (.op (some 7) none (.mv (.k (.int .i64 0))))]
abbrev QUP : AC := .run [(.op (some 8) none (.bin .lss (.s 7) (.s 6)))]
abbrev QUQ : AC := .cond (.s 8) .skip (.exit 0)
abbrev QUR : AC := .run [(.op (some 9) none (.iaddr (.s 5) (.s 7) 1)), (.op (some 10) none (.load (.s 9) false 1)), (.op (some 4) none (.mv (.s 10)))]
abbrev QUS : AC := .run [(.op (some 11) none (.mv (.s 4))), (.op (some 12) none (.mv (.s 0))), (.op (some 13) none (.bin .eql (.s 11) (.s 12)))]
abbrev QUT : AC := .run [(.op (some 2) none (.mv (.k (.bool true))))]
abbrev QUU : AC := .seq QUT .ret
abbrev QUV : AC := .cond (.s 13) QUU .skip
abbrev QUW : AC := .seq QUS QUV
abbrev QUX : AC := .seq QUR QUW
abbrev QUY : AC := .block 1 QUX
abbrev QUZ : AC := .run [(.op (some 14) none (.bin .add (.s 7) (.k (.int .i64 1)))), (.op (some 7) none (.mv (.s 14)))]
abbrev QV0 : AC := .seq QUY QUZ
abbrev QV1 : AC := .seq QUQ QV0
abbrev QV2 : AC := .seq QUP QV1
abbrev QV3 : AC := .loop QV2
abbrev QV4 : AC := .block 0 QV3
abbrev QV5 : AC := .seq QUO QV4
abbrev QV6 : AC := .run [(.op (some 2) none (.mv (.k (.bool false))))]
abbrev QV7 : AC := .seq QV6 .ret
abbrev QV8 : AC := .seq QV5 QV7
abbrev QV9 : AC := .seq QUN QV8
abbrev QVA : AC := .run [(.op (some 1) none (.box (.s 0))), (.op (some 2) none (.mv (.k (.bool false))))]
abbrev QVB : AC := .run [(.op (some 3) none (.faddr (.s 1) 0)), (.op (some 4) none (.load (.s 3) false 1)), (.op (some 5) none (.bin .eql (.s 4) (.k (.int .i64 0)))), (.op (some 6) none (.mv (.s 5))), (.op (some 7) (some (6, true)) (.faddr (.s 1) 1)), (.op (some 8) (some (6, true)) (.load (.s 7) false 1)), (.op (some 9) (some (6, true)) (.bin .eql (.s 8) (.k (.int .i64 0)))), (.op (some 10) none (.pick (.s 6) (.s 9) (.k (.bool false)))), (.op (some 11) none (.mv (.s 10))), (.op (some 12) (some (11, true)) (.faddr (.s 1) 2)), (.op (some 13) (some (11, true)) (.load (.s 12) false 1)), (.op (some 14) (some (11, true)) (.bin .eql (.s 13) (.k (.str [])))), (.op (some 15) none (.pick (.s 11) (.s 14) (.k (.bool false)))), (.op (some 16) none (.mv (.s 15))), (.op (some 17) (some (16, true)) (.faddr (.s 1) 3)), (.op (some 18) (some (16, true)) (.load (.s 17) false 1)), (.op (some 19) (some (16, true)) (.len (.s 18))), (.op (some 20) (some (16, true)) (.bin .eql (.s 19) (.k (.int .i64 0)))), (.op (some 21) none (.pick (.s 16) (.s 20) (.k (.bool false)))), (.op (some 2) none (.mv (.s 21)))]
abbrev QVC : AC := .seq QVB .ret
abbrev QVD : AC := .seq QVA QVC
abbrev QVE : AC := .run [(.op (some 1) none (.box (.s 0))), (.op (some 2) none (.mv (.k (.bool false))))]
abbrev QVF : AC := .run [(.op (some 3) none (.faddr (.s 1) 0)), (.op (some 4) none (.load (.s 3) false 1))]
abbrev QVG : AC := .run [(.op (some 5) none (.faddr (.s 1) 1)), (.op (some 6) none (.load (.s 5) false 1)), (.call (some 7) none n_ref1_Name [(.s 6)]), (.op (some 8) none (.mv (.s 7))), (.op (some 9) (some (8, true)) (.faddr (.s 1) 2)), (.op (some 10) (some (8, true)) (.load (.s 9) true 4)), (.call (some 11) (some (8, true)) n_ref3_none [(.s 10)]), (.op (some 12) none (.pick (.s 8) (.s 11) (.k (.bool false)))), (.op (some 2) none (.mv (.s 12)))]
abbrev QVH : AC := .seq QVG .ret
abbrev QVI : AC := .cond (.s 4) QVH .skip
abbrev QVJ : AC := .seq QVF QVI
abbrev QVK : AC := .run [(.op (some 13) none (.faddr (.s 1) 1)), (.op (some 14) none (.load (.s 13) false 1)), (.op (some 15) none (.bin .eql (.s 14) (.k (.str [])))), (.op (some 16) none (.mv (.s 15))), (.op (some 17) (some (16, true)) (.faddr (.s 1) 2)), (.op (some 18) (some (16, true)) (.load (.s 17) true 4)), (.call (some 19) (some (16, true)) n_ref3_MayExpr [(.s 18)]), (.op (some 20) none (.pick (.s 16) (.s 19) (.k (.bool false)))), (.op (some 2) none (.mv (.s 20)))]
abbrev QVL : AC := .seq QVK .ret
abbrev QVM : AC := .seq QVJ QVL
abbrev QVN : AC := .seq QVE QVM
abbrev QVO : AC := .run [(.op (some 2) none (.mv (.k (.bool false))))]
abbrev QVP : AC := .run [(.op (some 3) none (.mv (.s 0))), (.op (some 4) none (.bin .geq (.s 3) (.k (.int .u8 97)))), (.op (some 5) none (.mv (.s 4))), (.op (some 6) (some (5, true)) (.mv (.s 0))), (.op (some 7) (some (5, true)) (.bin .leq (.s 6) (.k (.int .u8 122)))), (.op (some 8) none (.pick (.s 5) (.s 7) (.k (.bool false)))), (.op (some 2) none (.mv (.s 8)))]
abbrev QVQ : AC := .seq QVP .ret
abbrev QVR : AC := .seq QVO QVQ
abbrev QVS : AC := .run [(.op (some 2) none (.mv (.k (.bool false))))]
abbrev QVT : AC := .run [(.op (some 3) none (.mv (.s 0))), (.op (some 4) none (.bin .geq (.s 3) (.k (.int .u8 48)))), (.op (some 5) none (.mv (.s 4))), (.op (some 6) (some (5, true)) (.mv (.s 0))), (.op (some 7) (some (5, true)) (.bin .leq (.s 6) (.k (.int .u8 57)))), (.op (some 8) none (.pick (.s 5) (.s 7) (.k (.bool false)))), (.op (some 2) none (.mv (.s 8)))]
abbrev QVU : AC := .seq QVT .ret
abbrev QVV : AC := .seq QVS QVU
abbrev QVW : AC := .run [(.op (some 4) none (.mv (.k (.int .i64 0))))]
abbrev QVX : AC := .run [(.op (some 5) none (.mv (.s 1))), (.op (some 6) none (.bin .add (.s 5) (.k (.int .i64 1)))), (.op (some 7) none (.mv (.s 0))), (.op (some 8) none (.slen (.s 7))), (.op (some 9) none (.bin .lss (.s 6) (.s 8)))]
abbrev QVY : AC := .run [(.op (some 10) none (.mv (.s 0))), (.op (some 11) none (.mv (.s 1))), (.op (some 12) none (.mv (.s 1))), (.op (some 13) none (.bin .add (.s 12) (.k (.int .i64 2)))), (.op (some 14) none (.sslc (.s 10) (some (.s 11)) (some (.s 13))))]
abbrev QVZ : AC := .run [(.op (some 16) none (.bin .eql (.s 14) (.k (.str [61, 61])))), (.op (some 15) none (.mv (.s 16)))]
abbrev QW0 : AC := .run [(.op (some 17) none (.bin .eql (.s 14) (.k (.str [33, 61])))), (.op (some 15) none (.mv (.s 17)))]
abbrev QW1 : AC := .run [(.op (some 18) none (.bin .eql (.s 14) (.k (.str [60, 61])))), (.op (some 15) none (.mv (.s 18)))]
abbrev QW2 : AC := .run [(.op (some 19) none (.bin .eql (.s 14) (.k (.str [62, 61])))), (.op (some 15) none (.mv (.s 19)))]
abbrev QW3 : AC := .run [(.op (some 20) none (.bin .eql (.s 14) (.k (.str [38, 38])))), (.op (some 15) none (.mv (.s 20)))]
abbrev QW4 : AC := .run [(.op (some 21) none (.bin .eql (.s 14) (.k (.str [124, 124])))), (.op (some 15) none (.mv (.s 21)))]
abbrev QW5 : AC := .cond (.s 15) .skip QW4
abbrev QW6 : AC := .seq QW3 QW5
abbrev QW7 : AC := .cond (.s 15) .skip QW6
abbrev QW8 : AC := .seq QW2 QW7
abbrev QW9 : AC := .cond (.s 15) .skip QW8
abbrev QWA : AC := .seq QW1 QW9
abbrev QWB : AC := .cond (.s 15) .skip QWA
abbrev QWC : AC := .seq QW0 QWB
abbrev QWD : AC := .cond (.s 15) .skip QWC
abbrev QWE : AC := .seq QVZ QWD
abbrev QWF : AC := .run [(.op (some 4) none (.mv (.k (.int .i64 2))))]
abbrev QWG : AC := .seq QWF .ret
abbrev QWH : AC := .cond (.s 15) QWG .skip
abbrev QWI : AC := .seq QWE QWH
abbrev QWJ : AC := .block 0 QWI
abbrev QWK : AC := .seq QVY QWJ
abbrev QWL : AC := .cond (.s 9) QWK .skip
abbrev QWM : AC := .seq QVX QWL
abbrev QWN : AC := .run [(.op (some 22) none (.mv (.s 0))), (.op (some 23) none (.mv (.s 1))), (.op (some 24) none (.sidx (.s 22) (.s 23)))]
abbrev QWO : AC := .run [(.op (some 26) none (.bin .eql (.s 24) (.k (.int .u8 40)))), (.op (some 25) none (.mv (.s 26)))]
abbrev QWP : AC := .run [(.op (some 27) none (.bin .eql (.s 24) (.k (.int .u8 41)))), (.op (some 25) none (.mv (.s 27)))]
abbrev QWQ : AC := .run [(.op (some 28) none (.bin .eql (.s 24) (.k (.int .u8 123)))), (.op (some 25) none (.mv (.s 28)))]
abbrev QWR : AC := .run [(.op (some 29) none (.bin .eql (.s 24) (.k (.int .u8 125)))), (.op (some 25) none (.mv (.s 29)))]
abbrev QWS : AC := .run [(.op (some 30) none (.bin .eql (.s 24) (.k (.int .u8 44)))), (.op (some 25) none (.mv (.s 30)))]
abbrev QWT : AC := .run [(.op (some 31) none (.bin .eql (.s 24) (.k (.int .u8 59)))), (.op (some 25) none (.mv (.s 31)))]
abbrev QWU : AC := .run [(.op (some 32) none (.bin .eql (.s 24) (.k (.int .u8 58)))), (.op (some 25) none (.mv (.s 32)))]
abbrev QWV : AC := .run [(.op (some 33) none (.bin .eql (.s 24) (.k (.int .u8 61)))), (.op (some 25) none (.mv (.s 33)))]
abbrev QWW : AC := .run [(.op (some 34) none (.bin .eql (.s 24) (.k (.int .u8 33)))), (.op (some 25) none (.mv (.s 34)))]
abbrev QWX : AC := .run [(.op (some 35) none (.bin .eql (.s 24) (.k (.int .u8 60)))), (.op (some 25) none (.mv (.s 35)))]
abbrev QWY : AC := .run [(.op (some 36) none (.bin .eql (.s 24) (.k (.int .u8 62)))), (.op (some 25) none (.mv (.s 36)))]
abbrev QWZ : AC := .run [(.op (some 37) none (.bin .eql (.s 24) (.k (.int .u8 43)))), (.op (some 25) none (.mv (.s 37)))]
abbrev QX0 : AC := .run [(.op (some 38) none (.bin .eql (.s 24) (.k (.int .u8 45)))), (.op (some 25) none (.mv (.s 38)))]
abbrev QX1 : AC := .run [(.op (some 39) none (.bin .eql (.s 24) (.k (.int .u8 42)))), (.op (some 25) none (.mv (.s 39)))]
abbrev QX2 : AC := .run [(.op (some 40) none (.bin .eql (.s 24) (.k (.int .u8 47)))), (.op (some 25) none (.mv (.s 40)))]
abbrev QX3 : AC := .run [(.op (some 41) none (.bin .eql (.s 24) (.k (.int .u8 37)))), (.op (some 25) none (.mv (.s 41)))]
abbrev QX4 : AC := .cond (.s 25) .skip QX3
abbrev QX5 : AC := .seq QX2 QX4
abbrev QX6 : AC := .cond (.s 25) .skip QX5
abbrev QX7 : AC := .seq QX1 QX6
abbrev QX8 : AC := .cond (.s 25) .skip QX7
abbrev QX9 : AC := .seq QX0 QX8
abbrev QXA : AC := .cond (.s 25) .skip QX9
abbrev QXB : AC := .seq QWZ QXA
abbrev QXC : AC := .cond (.s 25) .skip QXB
abbrev QXD : AC := .seq QWY QXC
abbrev QXE : AC := .cond (.s 25) .skip QXD
abbrev QXF : AC := .seq QWX QXE
abbrev QXG : AC := .cond (.s 25) .skip QXF
abbrev QXH : AC := .seq QWW QXG
abbrev QXI : AC := .cond (.s 25) .skip QXH
abbrev QXJ : AC := .seq QWV QXI
abbrev QXK : AC := .cond (.s 25) .skip QXJ
abbrev QXL : AC := .seq QWU QXK
abbrev QXM : AC := .cond (.s 25) .skip QXL
abbrev QXN : AC := .seq QWT QXM
abbrev QXO : AC := .cond (.s 25) .skip QXN
abbrev QXP : AC := .seq QWS QXO
abbrev QXQ : AC := .cond (.s 25) .skip QXP
abbrev QXR : AC := .seq QWR QXQ
abbrev QXS : AC := .cond (.s 25) .skip QXR
abbrev QXT : AC := .seq QWQ QXS
abbrev QXU : AC := .cond (.s 25) .skip QXT
abbrev QXV : AC := .seq QWP QXU
abbrev QXW : AC := .cond (.s 25) .skip QXV
abbrev QXX : AC := .seq QWO QXW
abbrev QXY : AC := .run [(.op (some 4) none (.mv (.k (.int .i64 1))))]
abbrev QXZ : AC := .seq QXY .ret
abbrev QY0 : AC := .cond (.s 25) QXZ .skip
abbrev QY1 : AC := .seq QXX QY0
abbrev QY2 : AC := .block 1 QY1
abbrev QY3 : AC := .seq QWN QY2
abbrev QY4 : AC := .run [(.op (some 4) none (.mv (.k (.int .i64 0))))]
abbrev QY5 : AC := .seq QY4 .ret
abbrev QY6 : AC := .seq QY3 QY5
abbrev QY7 : AC := .seq QWM QY6
abbrev QY8 : AC := .seq QVW QY7
abbrev QY9 : AC := .run [(.op (some 4) none (.mv (.k (.int .i64 0))))]
abbrev QYA : AC := .run [(.op (some 5) none (.mv (.s 1))), (.op (some 6) none (.mv (.s 0))), (.op (some 7) none (.slen (.s 6))), (.op (some 8) none (.bin .lss (.s 5) (.s 7))), (.op (some 9) none (.mv (.s 8))), (.op (some 10) (some (9, true)) (.mv (.s 0))), (.op (some 11) (some (9, true)) (.mv (.s 1))), (.op (some 12) (some (9, true)) (.sidx (.s 10) (.s 11))), (.call (some 13) (some (9, true)) n_lex_letter [(.s 12)]), (.op (some 14) (some (9, true)) (.mv (.s 13))), (.op (some 15) (some (14, false)) (.mv (.s 0))), (.op (some 16) (some (14, false)) (.mv (.s 1))), (.op (some 17) (some (14, false)) (.sidx (.s 15) (.s 16))), (.call (some 18) (some (14, false)) n_lex_digit [(.s 17)]), (.op (some 19) (some (9, true)) (.pick (.s 14) (.k (.bool true)) (.s 18))), (.op (some 20) none (.pick (.s 9) (.s 19) (.k (.bool false))))]
abbrev QYB : AC := .cond (.s 20) .skip (.exit 0)
abbrev QYC : AC := .seq QYA QYB
abbrev QYD : AC := .run [(.op (some 21) none (.mv (.s 1))), (.op (some 22) none (.bin .add (.s 21) (.k (.int .i64 1)))), (.op (some 1) none (.mv (.s 22)))]
abbrev QYE : AC := .block 1 QYD
abbrev QYF : AC := .seq QYC QYE
abbrev QYG : AC := .loop QYF
abbrev QYH : AC := .block 0 QYG
abbrev QYI : AC := .run [(.op (some 23) none (.mv (.s 1))), (.op (some 4) none (.mv (.s 23)))]
abbrev QYJ : AC := .seq QYI .ret
abbrev QYK : AC := .seq QYH QYJ
abbrev QYL : AC := .seq QY9 QYK
abbrev QYM : AC := .run [(.op (some 2) none (.mv (.k (.bool false))))]
abbrev QYN : AC := .run [(.op (some 3) none (.mv (.s 0)))]
abbrev QYO : AC := .run [(.op (some 5) none (.bin .eql (.s 3) (.k (.str [103, 108, 111, 98, 97, 108])))), (.op (some 4) none (.mv (.s 5)))]
abbrev QYP : AC := .run [(.op (some 6) none (.bin .eql (.s 3) (.k (.str [112, 114, 111, 99])))), (.op (some 4) none (.mv (.s 6)))]
abbrev QYQ : AC := .run [(.op (some 7) none (.bin .eql (.s 3) (.k (.str [118, 97, 114])))), (.op (some 4) none (.mv (.s 7)))]
abbrev QYR : AC := .run [(.op (some 8) none (.bin .eql (.s 3) (.k (.str [114, 101, 102])))), (.op (some 4) none (.mv (.s 8)))]
abbrev QYS : AC := .run [(.op (some 9) none (.bin .eql (.s 3) (.k (.str [105, 102])))), (.op (some 4) none (.mv (.s 9)))]
abbrev QYT : AC := .run [(.op (some 10) none (.bin .eql (.s 3) (.k (.str [101, 108, 115, 101])))), (.op (some 4) none (.mv (.s 10)))]
abbrev QYU : AC := .run [(.op (some 11) none (.bin .eql (.s 3) (.k (.str [119, 104, 105, 108, 101])))), (.op (some 4) none (.mv (.s 11)))]
abbrev QYV : AC := .run [(.op (some 12) none (.bin .eql (.s 3) (.k (.str [98, 114, 101, 97, 107])))), (.op (some 4) none (.mv (.s 12)))]
abbrev QYW : AC := .run [(.op (some 13) none (.bin .eql (.s 3) (.k (.str [99, 111, 110, 116, 105, 110, 117, 101])))), (.op (some 4) none (.mv (.s 13)))]
abbrev QYX : AC := .run [(.op (some 14) none (.bin .eql (.s 3) (.k (.str [114, 101, 116, 117, 114, 110])))), (.op (some 4) none (.mv (.s 14)))]
abbrev QYY : AC := .run [(.op (some 15) none (.bin .eql (.s 3) (.k (.str [103, 111, 116, 111])))), (.op (some 4) none (.mv (.s 15)))]
abbrev QYZ : AC := .run [(.op (some 16) none (.bin .eql (.s 3) (.k (.str [114, 101, 97, 100])))), (.op (some 4) none (.mv (.s 16)))]
abbrev QZ0 : AC := .run [(.op (some 17) none (.bin .eql (.s 3) (.k (.str [112, 114, 105, 110, 116])))), (.op (some 4) none (.mv (.s 17)))]
abbrev QZ1 : AC := .cond (.s 4) .skip QZ0
abbrev QZ2 : AC := .seq QYZ QZ1
abbrev QZ3 : AC := .cond (.s 4) .skip QZ2
abbrev QZ4 : AC := .seq QYY QZ3
abbrev QZ5 : AC := .cond (.s 4) .skip QZ4
abbrev QZ6 : AC := .seq QYX QZ5
abbrev QZ7 : AC := .cond (.s 4) .skip QZ6
abbrev QZ8 : AC := .seq QYW QZ7
abbrev QZ9 : AC := .cond (.s 4) .skip QZ8
abbrev QZA : AC := .seq QYV QZ9
abbrev QZB : AC := .cond (.s 4) .skip QZA
abbrev QZC : AC := .seq QYU QZB
abbrev QZD : AC := .cond (.s 4) .skip QZC
abbrev QZE : AC := .seq QYT QZD
abbrev QZF : AC := .cond (.s 4) .skip QZE
abbrev QZG : AC := .seq QYS QZF
abbrev QZH : AC := .cond (.s 4) .skip QZG
abbrev QZI : AC := .seq QYR QZH
abbrev QZJ : AC := .cond (.s 4) .skip QZI
abbrev QZK : AC := .seq QYQ QZJ
abbrev QZL : AC := .cond (.s 4) .skip QZK
abbrev QZM : AC := .seq QYP QZL
abbrev QZN : AC := .cond (.s 4) .skip QZM
abbrev QZO : AC := .seq QYO QZN
abbrev QZP : AC := .run [(.op (some 2) none (.mv (.k (.bool true))))]
abbrev QZQ : AC := .seq QZP .ret
abbrev QZR : AC := .cond (.s 4) QZQ .skip
abbrev QZS : AC := .seq QZO QZR
abbrev QZT : AC := .block 0 QZS
abbrev QZU : AC := .seq QYN QZT
abbrev QZV : AC := .run [(.op (some 2) none (.mv (.k (.bool false))))]
abbrev QZW : AC := .seq QZV .ret
abbrev QZX : AC := .seq QZU QZW
abbrev QZY : AC := .seq QYM QZX
abbrev QZZ : AC := .run [(.op (some 2) none (.mv (.k (.int .i64 0)))), (.op (some 3) none (.mv (.k (.bool false))))]
abbrev Q100 : AC := .run [(.op (some 4) none (.mv (.k (.int .i64 0))))]
abbrev Q101 : AC := .run [(.op (some 5) none (.mv (.k (.int .i64 0))))]
abbrev Q102 : AC := .run [(.op (some 7) none (.mv (.s 5))), (.op (some 8) none (.mv (.s 0))), (.op (some 9) none (.slen (.s 8))), (.op (some 10) none (.bin .lss (.s 7) (.s 9)))]
abbrev Q103 : AC := .cond (.s 10) .skip (.exit 0)
abbrev Q104 : AC := .seq Q102 Q103
abbrev Q105 : AC := .run [(.op (some 13) none (.mv (.s 0))), (.op (some 14) none (.mv (.s 5))), (.op (some 15) none (.sidx (.s 13) (.s 14))), (.op (some 16) none (.bin .sub (.s 15) (.k (.int .u8 48)))), (.op (some 17) none (.conv .i64 (.s 16))), (.op (some 6) none (.mv (.s 17)))]
abbrev Q106 : AC := .run [(.op (some 18) none (.mv (.s 4))), (.op (some 19) none (.mv (.s 6))), (.op (some 20) none (.bin .sub (.k (.int .i64 9223372036854775807)) (.s 19))), (.op (some 21) none (.bin .quo (.s 20) (.k (.int .i64 10)))), (.op (some 22) none (.bin .gtr (.s 18) (.s 21)))]
abbrev Q107 : AC := .run [(.op (some 2) none (.mv (.k (.int .i64 0)))), (.op (some 3) none (.mv (.k (.bool false))))]
abbrev Q108 : AC := .seq Q107 .ret
abbrev Q109 : AC := .cond (.s 22) Q108 .skip
abbrev Q10A : AC := .seq Q106 Q109
abbrev Q10B : AC := .run [(.op (some 23) none (.mv (.s 4))), (.op (some 24) none (.bin .mul (.s 23) (.k (.int .i64 10)))), (.op (some 25) none (.mv (.s 6))), (.op (some 26) none (.bin .add (.s 24) (.s 25))), (.op (some 4) none (.mv (.s 26)))]
abbrev Q10C : AC := .seq Q10A Q10B
abbrev Q10D : AC := .seq Q105 Q10C
abbrev Q10E : AC := .block 1 Q10D
abbrev Q10F : AC := .run [(.op (some 11) none (.mv (.s 5))), (.op (some 12) none (.bin .add (.s 11) (.k (.int .i64 1)))), (.op (some 5) none (.mv (.s 12)))]
abbrev Q10G : AC := .seq Q10E Q10F
abbrev Q10H : AC := .seq Q104 Q10G
abbrev Q10I : AC := .loop Q10H
abbrev Q10J : AC := .block 0 Q10I
abbrev Q10K : AC := .seq Q101 Q10J
abbrev Q10L : AC := .run [(.op (some 27) none (.mv (.s 4))), (.op (some 2) none (.mv (.s 27))), (.op (some 3) none (.mv (.k (.bool true))))]
abbrev Q10M : AC := .seq Q10L .ret
abbrev Q10N : AC := .seq Q10K Q10M
abbrev Q10O : AC := .seq Q100 Q10N
abbrev Q10P : AC := .seq QZZ Q10O
abbrev Q10Q : AC := .run [(.op (some 4) none (.alloc [(.int .i64 0), (.int .i64 0), (.str []), (.slice .full 0 [])]))]
abbrev Q10R : AC := .run [(.op (some 9) none (.mv (.s 0))), (.call (some 10) none n_parse_reader_one [(.s 9)]), (.op (some 5) none (.alloc [(.int .i64 0), (.int .i64 0), (.str []), (.slice .full 0 [])])), (.op none none (.store (.s 5) (.s 10) 4))]
abbrev Q10S : AC := .run [(.op (some 11) none (.mv (.s 0))), (.call (some 12) none n_parse_reader_good [(.s 11)])]
abbrev Q10T : AC := .cond (.s 12) .skip (.exit 0)
abbrev Q10U : AC := .seq Q10S Q10T
abbrev Q10V : AC := .run [(.op (some 14) none (.mv (.s 0))), (.call (some 15) none n_parse_reader_peek [(.s 14)]), (.call (some 16) none n_parse_op [(.s 15)]), (.op (some 13) none (.mv (.s 16))), (.op (some 17) none (.ext (.s 13) 0)), (.op (some 18) none (.ext (.s 13) 1)), (.op (some 6) none (.mv (.s 17))), (.op (some 7) none (.mv (.s 18)))]
abbrev Q10W : AC := .run [(.op (some 19) none (.mv (.s 7))), (.op (some 20) none (.mv (.s 1))), (.op (some 21) none (.bin .lss (.s 19) (.s 20))), (.op (some 22) none (.mv (.s 21))), (.op (some 23) (some (22, false)) (.mv (.s 6))), (.op (some 24) (some (22, false)) (.bin .eql (.s 23) (.k (.int .i64 0)))), (.op (some 25) none (.pick (.s 22) (.k (.bool true)) (.s 24)))]
abbrev Q10X : AC := .run [(.op (some 26) none (.load (.s 5) true 4)), (.op none none (.store (.s 4) (.s 26) 4))]
abbrev Q10Y : AC := .seq Q10X .ret
abbrev Q10Z : AC := .cond (.s 25) Q10Y .skip
abbrev Q110 : AC := .seq Q10W Q10Z
abbrev Q111 : AC := .run [(.op (some 27) none (.mv (.s 0))), (.op (some 28) none (.nilck (.s 27))), (.op (some 29) none (.faddr (.s 28) 1)), (.op (some 30) none (.load (.s 29) false 1)), (.op (some 31) none (.bin .add (.s 30) (.k (.int .i64 1)))), (.op (some 32) none (.nilck (.s 27))), (.op (some 33) none (.faddr (.s 32) 1)), (.op none none (.store (.s 33) (.s 31) 1))]
abbrev Q112 : AC := .run [(.op (some 34) none (.mv (.s 0))), (.op (some 35) none (.mv (.s 7))), (.op (some 36) none (.bin .add (.s 35) (.k (.int .i64 1)))), (.call (some 37) none n_parse_reader_two [(.s 34), (.s 36)]), (.op (some 8) none (.alloc [(.int .i64 0), (.int .i64 0), (.str []), (.slice .full 0 [])])), (.op none none (.store (.s 8) (.s 37) 4))]
abbrev Q113 : AC := .run [(.op (some 38) none (.mv (.s 6))), (.op (some 39) none (.load (.s 5) true 4)), (.op (some 40) none (.load (.s 8) true 4)), (.op (some 41) none (.bslice [(.int .i64 0), (.int .i64 0), (.str []), (.slice .full 0 [])] 4 2 [(0, (.s 39)), (1, (.s 40))])), (.op (some 42) none (.build [(.int .i64 0), (.int .i64 0), (.str []), (.slice .full 0 [])] [(0, (1, (.s 38))), (3, (1, (.s 41)))])), (.op none none (.store (.s 5) (.s 42) 4))]
abbrev Q114 : AC := .seq Q112 Q113
abbrev Q115 : AC := .seq Q111 Q114
abbrev Q116 : AC := .seq Q110 Q115
abbrev Q117 : AC := .seq Q10V Q116
abbrev Q118 : AC := .block 1 Q117
abbrev Q119 : AC := .seq Q10U Q118
abbrev Q11A : AC := .loop Q119
abbrev Q11B : AC := .block 0 Q11A
abbrev Q11C : AC := .run [(.op (some 43) none (.load (.s 5) true 4)), (.op none none (.store (.s 4) (.s 43) 4))]
abbrev Q11D : AC := .seq Q11C .ret
abbrev Q11E : AC := .seq Q11B Q11D
abbrev Q11F : AC := .seq Q10R Q11E
abbrev Q11G : AC := .seq Q10Q Q11F
abbrev Q11H : AC := .run [(.op (some 1) none (.box (.s 0))), (.op (some 2) none (.mv (.k (.int .i64 0))))]
abbrev Q11I : AC := .run [(.op (some 3) none (.mv (.k (.int .i64 0))))]
abbrev Q11J : AC := .run [(.op (some 6) none (.faddr (.s 1) 3)), (.op (some 7) none (.load (.s 6) false 1)), (.op (some 8) none (.len (.s 7))), (.op (some 9) none (.mv (.k (.int .i64 0))))]
abbrev Q11K : AC := .run [(.op (some 10) none (.bin .lss (.s 9) (.s 8)))]
abbrev Q11L : AC := .cond (.s 10) .skip (.exit 0)
abbrev Q11M : AC := .run [(.op (some 11) none (.iaddr (.s 7) (.s 9) 4)), (.op (some 12) none (.load (.s 11) true 4)), (.op (some 5) none (.alloc [(.int .i64 0), (.int .i64 0), (.str []), (.slice .full 0 [])])), (.op none none (.store (.s 5) (.s 12) 4))]
abbrev Q11N : AC := .run [(.op (some 13) none (.mv (.s 3))), (.op (some 14) none (.load (.s 5) true 4)), (.call (some 15) none n_parse_depth [(.s 14)]), (.op (some 16) none (.mm true (.s 13) (.s 15))), (.op (some 3) none (.mv (.s 16)))]
abbrev Q11O : AC := .seq Q11M Q11N
abbrev Q11P : AC := .block 1 Q11O
abbrev Q11Q : AC := .run [(.op (some 17) none (.bin .add (.s 9) (.k (.int .i64 1)))), (.op (some 9) none (.mv (.s 17)))]
abbrev Q11R : AC := .seq Q11P Q11Q
abbrev Q11S : AC := .seq Q11L Q11R
abbrev Q11T : AC := .seq Q11K Q11S
abbrev Q11U : AC := .loop Q11T
abbrev Q11V : AC := .block 0 Q11U
abbrev Q11W : AC := .seq Q11J Q11V
abbrev Q11X : AC := .run [(.op (some 18) none (.mv (.s 3))), (.op (some 19) none (.bin .add (.s 18) (.k (.int .i64 1)))), (.op (some 2) none (.mv (.s 19)))]
abbrev Q11Y : AC := .seq Q11X .ret
abbrev Q11Z : AC := .seq Q11W Q11Y
abbrev Q120 : AC := .seq Q11I Q11Z
abbrev Q121 : AC := .seq Q11H Q120
abbrev Q122 : AC := .run [(.op (some 4) none (.mv (.k (.bool false))))]
abbrev Q123 : AC := .run [(.op (some 5) none (.mv (.s 0))), (.call (some 6) none n_parse_reader_good [(.s 5)]), (.op (some 7) none (.un .not (.s 6))), (.op (some 8) none (.mv (.s 7))), (.op (some 9) (some (8, false)) (.mv (.s 0))), (.op (some 10) (some (8, false)) (.mv (.s 1))), (.call (some 11) (some (8, false)) n_parse_reader_is [(.s 9), (.s 10)]), (.op (some 12) (some (8, false)) (.un .not (.s 11))), (.op (some 13) none (.pick (.s 8) (.k (.bool true)) (.s 12)))]
abbrev Q124 : AC := .run [(.op (some 4) none (.mv (.k (.bool false))))]
abbrev Q125 : AC := .seq Q124 .ret
abbrev Q126 : AC := .cond (.s 13) Q125 .skip
abbrev Q127 : AC := .seq Q123 Q126
abbrev Q128 : AC := .run [(.op (some 14) none (.mv (.s 0))), (.op (some 15) none (.nilck (.s 14))), (.op (some 16) none (.faddr (.s 15) 1)), (.op (some 17) none (.load (.s 16) false 1)), (.op (some 18) none (.bin .add (.s 17) (.k (.int .i64 1)))), (.op (some 19) none (.nilck (.s 14))), (.op (some 20) none (.faddr (.s 19) 1)), (.op none none (.store (.s 20) (.s 18) 1))]
abbrev Q129 : AC := .run [(.op (some 4) none (.mv (.k (.bool true))))]
abbrev Q12A : AC := .seq Q129 .ret
abbrev Q12B : AC := .seq Q128 Q12A
abbrev Q12C : AC := .seq Q127 Q12B
abbrev Q12D : AC := .seq Q122 Q12C
abbrev Q12E : AC := .run [(.op (some 4) none (.mv (.k (.bool false))))]
abbrev Q12F : AC := .run [(.op (some 6) none (.mv (.s 0))), (.call (some 7) none n_parse_reader_peek [(.s 6)]), (.op (some 5) none (.alloc [(.int .i64 0), (.str []), (.int .i64 0), (.int .i64 0)])), (.op none none (.store (.s 5) (.s 7) 4))]
abbrev Q12G : AC := .run [(.op (some 8) none (.faddr (.s 5) 0)), (.op (some 9) none (.load (.s 8) false 1)), (.op (some 10) none (.bin .eql (.s 9) (.k (.int .i64 3)))), (.op (some 11) none (.mv (.s 10))), (.op (some 12) (some (11, false)) (.faddr (.s 5) 0)), (.op (some 13) (some (11, false)) (.load (.s 12) false 1)), (.op (some 14) (some (11, false)) (.bin .eql (.s 13) (.k (.int .i64 4)))), (.op (some 15) none (.pick (.s 11) (.k (.bool true)) (.s 14))), (.op (some 16) none (.mv (.s 15))), (.op (some 17) (some (16, true)) (.faddr (.s 5) 1)), (.op (some 18) (some (16, true)) (.load (.s 17) false 1)), (.op (some 19) (some (16, true)) (.mv (.s 1))), (.op (some 20) (some (16, true)) (.bin .eql (.s 18) (.s 19))), (.op (some 21) none (.pick (.s 16) (.s 20) (.k (.bool false)))), (.op (some 4) none (.mv (.s 21)))]
abbrev Q12H : AC := .seq Q12G .ret
abbrev Q12I : AC := .seq Q12F Q12H
abbrev Q12J : AC := .seq Q12E Q12I
abbrev Q12K : AC := .run [(.op (some 1) none (.box (.s 0))), (.op (some 2) none (.mv (.k (.bool false))))]
abbrev Q12L : AC := .par [(.op (some 10) none (.faddr (.s 1) 9)), (.op (some 11) none (.load (.s 10) false 1)), (.op (some 3) none (.mv (.k (.bool false)))), (.op (some 4) none (.mv (.k (.bool false)))), (.op (some 5) none (.mv (.k (.bool false)))), (.op (some 6) none (.mv (.s 11))), (.op (some 7) none (.mv (.k (.bool false)))), (.op (some 8) none (.mv (.k (.bool false))))] [(0, 0), (1, 0), (2, 0), (3, 0), (4, 0), (5, 0), (6, 0), (7, 0)]
abbrev Q12M : AC := .run [(.op (some 12) none (.faddr (.s 1) 1)), (.op (some 13) none (.load (.s 12) false 1)), (.op (some 14) none (.bin .eql (.s 13) (.k (.int .i64 4)))), (.op (some 9) none (.mv (.s 14)))]
abbrev Q12N : AC := .run [(.op (some 15) none (.faddr (.s 1) 1)), (.op (some 16) none (.load (.s 15) false 1))]
abbrev Q12O : AC := .run [(.op (some 18) none (.bin .eql (.s 16) (.k (.int .i64 1)))), (.op (some 17) none (.mv (.s 18)))]
abbrev Q12P : AC := .run [(.op (some 3) none (.mv (.k (.bool true)))), (.op (some 5) none (.mv (.k (.bool true))))]
abbrev Q12Q : AC := .run [(.op (some 20) none (.bin .eql (.s 16) (.k (.int .i64 2)))), (.op (some 19) none (.mv (.s 20)))]
abbrev Q12R : AC := .run [(.op (some 21) none (.bin .eql (.s 16) (.k (.int .i64 10)))), (.op (some 19) none (.mv (.s 21)))]
abbrev Q12S : AC := .cond (.s 19) .skip Q12R
abbrev Q12T : AC := .seq Q12Q Q12S
abbrev Q12U : AC := .run [(.op (some 3) none (.mv (.k (.bool true))))]
abbrev Q12V : AC := .run [(.op (some 23) none (.bin .eql (.s 16) (.k (.int .i64 3)))), (.op (some 22) none (.mv (.s 23)))]
abbrev Q12W : AC := .run [(.op (some 5) none (.mv (.k (.bool true))))]
abbrev Q12X : AC := .run [(.op (some 25) none (.bin .eql (.s 16) (.k (.int .i64 4)))), (.op (some 24) none (.mv (.s 25)))]
abbrev Q12Y : AC := .run [(.op (some 26) none (.faddr (.s 1) 3)), (.op (some 27) none (.load (.s 26) false 1)), (.op (some 28) none (.bin .neq (.s 27) (.k (.str [])))), (.op (some 3) none (.mv (.s 28))), (.op (some 4) none (.mv (.k (.bool true))))]
abbrev Q12Z : AC := .run [(.op (some 30) none (.bin .eql (.s 16) (.k (.int .i64 5)))), (.op (some 29) none (.mv (.s 30)))]
abbrev Q130 : AC := .run [(.op (some 5) none (.mv (.k (.bool true)))), (.op (some 7) none (.mv (.k (.bool true)))), (.op (some 8) none (.mv (.k (.bool true))))]
abbrev Q131 : AC := .run [(.op (some 32) none (.bin .eql (.s 16) (.k (.int .i64 6)))), (.op (some 31) none (.mv (.s 32)))]
abbrev Q132 : AC := .run [(.op (some 5) none (.mv (.k (.bool true)))), (.op (some 7) none (.mv (.k (.bool true))))]
abbrev Q133 : AC := .run [(.op (some 34) none (.bin .eql (.s 16) (.k (.int .i64 9)))), (.op (some 33) none (.mv (.s 34)))]
abbrev Q134 : AC := .run [(.op (some 35) none (.faddr (.s 1) 9)), (.op (some 36) none (.load (.s 35) false 1)), (.op (some 5) none (.mv (.s 36))), (.op (some 6) none (.mv (.k (.bool false))))]
abbrev Q135 : AC := .run [(.op (some 38) none (.bin .eql (.s 16) (.k (.int .i64 7)))), (.op (some 37) none (.mv (.s 38)))]
abbrev Q136 : AC := .run [(.op (some 39) none (.bin .eql (.s 16) (.k (.int .i64 8)))), (.op (some 37) none (.mv (.s 39)))]
abbrev Q137 : AC := .cond (.s 37) .skip Q136
abbrev Q138 : AC := .seq Q135 Q137
abbrev Q139 : AC := .run [(.op (some 2) none (.mv (.k (.bool false))))]
abbrev Q13A : AC := .seq Q139 .ret
abbrev Q13B : AC := .cond (.s 37) .skip Q13A
abbrev Q13C : AC := .seq Q138 Q13B
abbrev Q13D : AC := .cond (.s 33) Q134 Q13C
abbrev Q13E : AC := .seq Q133 Q13D
abbrev Q13F : AC := .cond (.s 31) Q132 Q13E
abbrev Q13G : AC := .seq Q131 Q13F
abbrev Q13H : AC := .cond (.s 29) Q130 Q13G
abbrev Q13I : AC := .seq Q12Z Q13H
abbrev Q13J : AC := .cond (.s 24) Q12Y Q13I
abbrev Q13K : AC := .seq Q12X Q13J
abbrev Q13L : AC := .cond (.s 22) Q12W Q13K
abbrev Q13M : AC := .seq Q12V Q13L
abbrev Q13N : AC := .cond (.s 19) Q12U Q13M
abbrev Q13O : AC := .seq Q12T Q13N
abbrev Q13P : AC := .cond (.s 17) Q12P Q13O
abbrev Q13Q : AC := .seq Q12O Q13P
abbrev Q13R : AC := .block 0 Q13Q
abbrev Q13S : AC := .seq Q12N Q13R
abbrev Q13T : AC := .run [(.op (some 40) none (.mv (.s 6))), (.op (some 41) none (.mv (.s 40))), (.op (some 42) (some (41, false)) (.mv (.s 7))), (.op (some 43) (some (41, false)) (.un .not (.s 42))), (.op (some 44) (some (41, false)) (.mv (.s 43))), (.op (some 45) (some (44, true)) (.faddr (.s 1) 11)), (.op (some 46) (some (44, true)) (.load (.s 45) false 1)), (.op (some 47) (some (44, true)) (.len (.s 46))), (.op (some 48) (some (44, true)) (.bin .gtr (.s 47) (.k (.int .i64 0)))), (.op (some 49) (some (41, false)) (.pick (.s 44) (.s 48) (.k (.bool false)))), (.op (some 50) none (.pick (.s 41) (.k (.bool true)) (.s 49))), (.op (some 51) none (.mv (.s 50))), (.op (some 52) (some (51, false)) (.mv (.s 8))), (.op (some 53) (some (51, false)) (.un .not (.s 52))), (.op (some 54) (some (51, false)) (.mv (.s 53))), (.op (some 55) (some (54, true)) (.faddr (.s 1) 12)), (.op (some 56) (some (54, true)) (.load (.s 55) false 1)), (.op (some 57) (some (54, true)) (.len (.s 56))), (.op (some 58) (some (54, true)) (.bin .gtr (.s 57) (.k (.int .i64 0)))), (.op (some 59) (some (51, false)) (.pick (.s 54) (.s 58) (.k (.bool false)))), (.op (some 60) none (.pick (.s 51) (.k (.bool true)) (.s 59))), (.op (some 61) none (.mv (.s 60))), (.op (some 62) (some (61, false)) (.mv (.s 9))), (.op (some 63) (some (61, false)) (.un .not (.s 62))), (.op (some 64) (some (61, false)) (.mv (.s 63))), (.op (some 65) (some (64, true)) (.faddr (.s 1) 10)), (.op (some 66) (some (64, true)) (.load (.s 65) false 1)), (.op (some 67) (some (64, true)) (.len (.s 66))), (.op (some 68) (some (64, true)) (.bin .gtr (.s 67) (.k (.int .i64 0)))), (.op (some 69) (some (61, false)) (.pick (.s 64) (.s 68) (.k (.bool false)))), (.op (some 70) none (.pick (.s 61) (.k (.bool true)) (.s 69)))]
abbrev Q13U : AC := .run [(.op (some 2) none (.mv (.k (.bool false))))]
abbrev Q13V : AC := .seq Q13U .ret
abbrev Q13W : AC := .cond (.s 70) Q13V .skip
abbrev Q13X : AC := .seq Q13T Q13W
abbrev Q13Y : AC := .run [(.op (some 71) none (.faddr (.s 1) 3)), (.op (some 72) none (.load (.s 71) false 1)), (.op (some 73) none (.mv (.s 3))), (.call (some 74) none n_tree_named [(.s 72), (.s 73)]), (.op (some 75) none (.un .not (.s 74))), (.op (some 76) none (.mv (.s 75))), (.op (some 77) (some (76, false)) (.faddr (.s 1) 4)), (.op (some 78) (some (76, false)) (.load (.s 77) false 1)), (.op (some 79) (some (76, false)) (.mv (.s 4))), (.call (some 80) (some (76, false)) n_tree_named [(.s 78), (.s 79)]), (.op (some 81) (some (76, false)) (.un .not (.s 80))), (.op (some 82) none (.pick (.s 76) (.k (.bool true)) (.s 81))), (.op (some 83) none (.mv (.s 82))), (.op (some 84) (some (83, false)) (.faddr (.s 1) 5)), (.op (some 85) (some (83, false)) (.load (.s 84) true 4)), (.op (some 86) (some (83, false)) (.mv (.s 5))), (.call (some 87) (some (83, false)) n_tree_worth [(.s 85), (.s 86)]), (.op (some 88) (some (83, false)) (.un .not (.s 87))), (.op (some 89) none (.pick (.s 83) (.k (.bool true)) (.s 88)))]
abbrev Q13Z : AC := .run [(.op (some 2) none (.mv (.k (.bool false))))]
abbrev Q140 : AC := .seq Q13Z .ret
abbrev Q141 : AC := .cond (.s 89) Q140 .skip
abbrev Q142 : AC := .seq Q13Y Q141
abbrev Q143 : AC := .run [(.op (some 90) none (.faddr (.s 1) 10)), (.op (some 91) none (.load (.s 90) false 1)), (.call (some 92) none n_tree_handed [(.s 91)]), (.op (some 2) none (.mv (.s 92)))]
abbrev Q144 : AC := .seq Q143 .ret
abbrev Q145 : AC := .seq Q142 Q144
abbrev Q146 : AC := .seq Q13X Q145
abbrev Q147 : AC := .seq Q13S Q146
abbrev Q148 : AC := .seq Q12M Q147
abbrev Q149 : AC := .seq Q12L Q148
abbrev Q14A : AC := .seq Q12K Q149
abbrev Q14B : AC := .run [(.op (some 2) none (.mv (.k (.int .i64 0))))]
abbrev Q14C : AC := .run [(.op (some 4) none (.mv (.s 0))), (.op (some 5) none (.bin .eql (.s 4) (.k (.int .i64 1)))), (.op (some 6) none (.mv (.s 5))), (.op (some 7) (some (6, false)) (.mv (.s 0))), (.op (some 8) (some (6, false)) (.bin .eql (.s 7) (.k (.int .i64 2)))), (.op (some 9) none (.pick (.s 6) (.k (.bool true)) (.s 8))), (.op (some 3) none (.mv (.s 9)))]
abbrev Q14D : AC := .run [(.op (some 2) none (.mv (.k (.int .i64 0))))]
abbrev Q14E : AC := .seq Q14D .ret
abbrev Q14F : AC := .run [(.op (some 11) none (.mv (.s 0))), (.op (some 12) none (.bin .eql (.s 11) (.k (.int .i64 3)))), (.op (some 13) none (.mv (.s 12))), (.op (some 14) (some (13, false)) (.mv (.s 0))), (.op (some 15) (some (13, false)) (.bin .eql (.s 14) (.k (.int .i64 4)))), (.op (some 16) none (.pick (.s 13) (.k (.bool true)) (.s 15))), (.op (some 10) none (.mv (.s 16)))]
abbrev Q14G : AC := .run [(.op (some 2) none (.mv (.k (.int .i64 1))))]
abbrev Q14H : AC := .seq Q14G .ret
abbrev Q14I : AC := .run [(.op (some 18) none (.mv (.s 0))), (.op (some 19) none (.bin .geq (.s 18) (.k (.int .i64 5)))), (.op (some 20) none (.mv (.s 19))), (.op (some 21) (some (20, true)) (.mv (.s 0))), (.op (some 22) (some (20, true)) (.bin .leq (.s 21) (.k (.int .i64 17)))), (.op (some 23) none (.pick (.s 20) (.s 22) (.k (.bool false)))), (.op (some 17) none (.mv (.s 23)))]
abbrev Q14J : AC := .run [(.op (some 2) none (.mv (.k (.int .i64 2))))]
abbrev Q14K : AC := .seq Q14J .ret
abbrev Q14L : AC := .cond (.s 17) Q14K .skip
abbrev Q14M : AC := .seq Q14I Q14L
abbrev Q14N : AC := .cond (.s 10) Q14H Q14M
abbrev Q14O : AC := .seq Q14F Q14N
abbrev Q14P : AC := .cond (.s 3) Q14E Q14O
abbrev Q14Q : AC := .seq Q14C Q14P
abbrev Q14R : AC := .block 0 Q14Q
abbrev Q14S : AC := .run [(.op (some 2) none (.mv (.k (.int .i64 (-1)))))]
abbrev Q14T : AC := .seq Q14S .ret
abbrev Q14U : AC := .seq Q14R Q14T
abbrev Q14V : AC := .seq Q14B Q14U

end Go.Abs

/-! Have2 -/

namespace Go.Abs
open Go.Proofs

theorem has_strings_Builder_WriteByte : Has Tryd.prog n_strings_Builder_WriteByte 17 [(4, none)] QO1 := ⟨Tryd.f68, by kernel_rfl, by kernel_rfl⟩
theorem has_strings_Builder_WriteString : Has Tryd.prog n_strings_Builder_WriteString 19 [(4, none), (5, none)] QO9 := ⟨Tryd.f69, by kernel_rfl, by kernel_rfl⟩
theorem has_print_plain : Has Tryd.prog n_print_plain 85 [(2, none)] QQF := ⟨Tryd.f71, by kernel_rfl, by kernel_rfl⟩
theorem has_tree_deep : Has Tryd.prog n_tree_deep 61 [(4, none)] QRS := ⟨Tryd.f73, by kernel_rfl, by kernel_rfl⟩
theorem has_print_sign : Has Tryd.prog n_print_sign 31 [(2, none), (3, none)] QTT := ⟨Tryd.f75, by kernel_rfl, by kernel_rfl⟩
theorem has_ref3_Arity : Has Tryd.prog n_ref3_Arity 24 [(2, none)] QUE := ⟨Tryd.f76, by kernel_rfl, by kernel_rfl⟩
theorem has_ref1_small : Has Tryd.prog n_ref1_small 9 [(2, none)] QUI := ⟨Tryd.f81, by kernel_rfl, by kernel_rfl⟩
theorem has_ref1_digit : Has Tryd.prog n_ref1_digit 9 [(2, none)] QUM := ⟨Tryd.f82, by kernel_rfl, by kernel_rfl⟩
theorem has_ref1_Word : Has Tryd.prog n_ref1_Word 15 [(2, none)] QV9 := ⟨Tryd.f83, by kernel_rfl, by kernel_rfl⟩
theorem has_ref3_none : Has Tryd.prog n_ref3_none 22 [(2, none)] QVD := ⟨Tryd.f85, by kernel_rfl, by kernel_rfl⟩
theorem has_ref3_arg : Has Tryd.prog n_ref3_arg 21 [(2, none)] QVN := ⟨Tryd.f86, by kernel_rfl, by kernel_rfl⟩
theorem has_lex_letter : Has Tryd.prog n_lex_letter 9 [(2, none)] QVR := ⟨Tryd.f88, by kernel_rfl, by kernel_rfl⟩
theorem has_lex_digit : Has Tryd.prog n_lex_digit 9 [(2, none)] QVV := ⟨Tryd.f89, by kernel_rfl, by kernel_rfl⟩
theorem has_lex_sign : Has Tryd.prog n_lex_sign 42 [(4, none)] QY8 := ⟨Tryd.f90, by kernel_rfl, by kernel_rfl⟩
theorem has_lex_run : Has Tryd.prog n_lex_run 24 [(4, none)] QYL := ⟨Tryd.f91, by kernel_rfl, by kernel_rfl⟩
theorem has_lex_Word : Has Tryd.prog n_lex_Word 18 [(2, none)] QZY := ⟨Tryd.f92, by kernel_rfl, by kernel_rfl⟩
theorem has_lex_number : Has Tryd.prog n_lex_number 28 [(2, none), (3, none)] Q10P := ⟨Tryd.f93, by kernel_rfl, by kernel_rfl⟩
theorem has_parse_reader_two : Has Tryd.prog n_parse_reader_two 44 [(4, (some (true, 4)))] Q11G := ⟨Tryd.f94, by kernel_rfl, by kernel_rfl⟩
theorem has_parse_depth : Has Tryd.prog n_parse_depth 20 [(2, none)] Q121 := ⟨Tryd.f95, by kernel_rfl, by kernel_rfl⟩
theorem has_parse_reader_take : Has Tryd.prog n_parse_reader_take 21 [(4, none)] Q12D := ⟨Tryd.f96, by kernel_rfl, by kernel_rfl⟩
theorem has_parse_reader_is : Has Tryd.prog n_parse_reader_is 22 [(4, none)] Q12J := ⟨Tryd.f98, by kernel_rfl, by kernel_rfl⟩
theorem has_tree_fields : Has Tryd.prog n_tree_fields 93 [(2, none)] Q14A := ⟨Tryd.f103, by kernel_rfl, by kernel_rfl⟩
theorem has_tree_kids : Has Tryd.prog n_tree_kids 24 [(2, none)] Q14V := ⟨Tryd.f107, by kernel_rfl, by kernel_rfl⟩
end Go.Abs

/-! Codes3 -/

namespace Go.Abs

abbrev Q14W : AC := .run [(.op (some 0) none (.mv (.k (.slice .full 0 []))))]
abbrev Q14X : AC := .run [(.op (some 1) none (.bslice [(.str [])] 1 13 [(0, (.k (.str [103, 108, 111, 98, 97, 108]))), (1, (.k (.str [112, 114, 111, 99]))), (2, (.k (.str [118, 97, 114]))), (3, (.k (.str [114, 101, 102]))), (4, (.k (.str [105, 102]))), (5, (.k (.str [101, 108, 115, 101]))), (6, (.k (.str [119, 104, 105, 108, 101]))), (7, (.k (.str [98, 114, 101, 97, 107]))), (8, (.k (.str [99, 111, 110, 116, 105, 110, 117, 101]))), (9, (.k (.str [114, 101, 116, 117, 114, 110]))), (10, (.k (.str [103, 111, 116, 111]))), (11, (.k (.str [114, 101, 97, 100]))), (12, (.k (.str [112, 114, 105, 110, 116])))])), (.op (some 0) none (.mv (.s 1)))]
abbrev Q14Y : AC := .seq Q14X .ret
abbrev Q14Z : AC := .seq Q14W Q14Y
abbrev Q150 : AC := .run [(.op (some 2) none (.alloc [(.int .i64 0), (.int .i64 0), (.str []), (.slice .full 0 [])]))]
abbrev Q151 : AC := .run [(.op (some 5) none (.mv (.s 0))), (.call (some 6) none n_parse_reader_peek [(.s 5)]), (.op (some 3) none (.alloc [(.int .i64 0), (.str []), (.int .i64 0), (.int .i64 0)])), (.op none none (.store (.s 3) (.s 6) 4))]
abbrev Q152 : AC := .run [(.op (some 7) none (.mv (.s 0))), (.call (some 8) none n_parse_reader_good [(.s 7)]), (.op (some 9) none (.un .not (.s 8)))]
abbrev Q153 : AC := .run [(.op (some 10) none (.build [(.int .i64 0), (.int .i64 0), (.str []), (.slice .full 0 [])] [])), (.op none none (.store (.s 2) (.s 10) 4))]
abbrev Q154 : AC := .seq Q153 .ret
abbrev Q155 : AC := .cond (.s 9) Q154 .skip
abbrev Q156 : AC := .seq Q152 Q155
abbrev Q157 : AC := .run [(.op (some 12) none (.faddr (.s 3) 0)), (.op (some 13) none (.load (.s 12) false 1)), (.op (some 14) none (.bin .eql (.s 13) (.k (.int .i64 2)))), (.op (some 11) none (.mv (.s 14)))]
abbrev Q158 : AC := .run [(.op (some 15) none (.mv (.s 0))), (.op (some 16) none (.nilck (.s 15))), (.op (some 17) none (.faddr (.s 16) 1)), (.op (some 18) none (.load (.s 17) false 1)), (.op (some 19) none (.bin .add (.s 18) (.k (.int .i64 1)))), (.op (some 20) none (.nilck (.s 15))), (.op (some 21) none (.faddr (.s 20) 1)), (.op none none (.store (.s 21) (.s 19) 1))]
abbrev Q159 : AC := .run [(.op (some 22) none (.faddr (.s 3) 2)), (.op (some 23) none (.load (.s 22) false 1)), (.op (some 24) none (.build [(.int .i64 0), (.int .i64 0), (.str []), (.slice .full 0 [])] [(0, (1, (.k (.int .i64 1)))), (1, (1, (.s 23)))])), (.op none none (.store (.s 2) (.s 24) 4))]
abbrev Q15A : AC := .seq Q159 .ret
abbrev Q15B : AC := .seq Q158 Q15A
abbrev Q15C : AC := .run [(.op (some 26) none (.faddr (.s 3) 0)), (.op (some 27) none (.load (.s 26) false 1)), (.op (some 28) none (.bin .eql (.s 27) (.k (.int .i64 1)))), (.op (some 25) none (.mv (.s 28)))]
abbrev Q15D : AC := .run [(.op (some 29) none (.mv (.s 0))), (.op (some 30) none (.nilck (.s 29))), (.op (some 31) none (.faddr (.s 30) 1)), (.op (some 32) none (.load (.s 31) false 1)), (.op (some 33) none (.bin .add (.s 32) (.k (.int .i64 1)))), (.op (some 34) none (.nilck (.s 29))), (.op (some 35) none (.faddr (.s 34) 1)), (.op none none (.store (.s 35) (.s 33) 1))]
abbrev Q15E : AC := .run [(.op (some 36) none (.faddr (.s 3) 1)), (.op (some 37) none (.load (.s 36) false 1)), (.op (some 38) none (.build [(.int .i64 0), (.int .i64 0), (.str []), (.slice .full 0 [])] [(0, (1, (.k (.int .i64 2)))), (2, (1, (.s 37)))])), (.op none none (.store (.s 2) (.s 38) 4))]
abbrev Q15F : AC := .seq Q15E .ret
abbrev Q15G : AC := .seq Q15D Q15F
abbrev Q15H : AC := .run [(.op (some 40) none (.mv (.s 0))), (.call (some 41) none n_parse_reader_take [(.s 40), (.k (.str [40]))]), (.op (some 39) none (.mv (.s 41)))]
abbrev Q15I : AC := .run [(.op (some 42) none (.mv (.s 0))), (.call (some 43) none n_parse_reader_two [(.s 42), (.k (.int .i64 1))]), (.op (some 4) none (.alloc [(.int .i64 0), (.int .i64 0), (.str []), (.slice .full 0 [])])), (.op none none (.store (.s 4) (.s 43) 4))]
abbrev Q15J : AC := .run [(.op (some 44) none (.mv (.s 0))), (.call (some 45) none n_parse_reader_want [(.s 44), (.k (.str [41]))])]
abbrev Q15K : AC := .run [(.op (some 46) none (.load (.s 4) true 4)), (.op none none (.store (.s 2) (.s 46) 4))]
abbrev Q15L : AC := .seq Q15K .ret
abbrev Q15M : AC := .seq Q15J Q15L
abbrev Q15N : AC := .seq Q15I Q15M
abbrev Q15O : AC := .run [(.op (some 48) none (.mv (.s 0))), (.call (some 49) none n_parse_reader_take [(.s 48), (.k (.str [45]))]), (.op (some 47) none (.mv (.s 49)))]
abbrev Q15P : AC := .run [(.op (some 50) none (.mv (.s 0))), (.call (some 51) none n_parse_reader_one [(.s 50)]), (.op (some 52) none (.bslice [(.int .i64 0), (.int .i64 0), (.str []), (.slice .full 0 [])] 4 1 [(0, (.s 51))])), (.op (some 53) none (.build [(.int .i64 0), (.int .i64 0), (.str []), (.slice .full 0 [])] [(0, (1, (.k (.int .i64 3)))), (3, (1, (.s 52)))])), (.op none none (.store (.s 2) (.s 53) 4))]
abbrev Q15Q : AC := .seq Q15P .ret
abbrev Q15R : AC := .run [(.op (some 55) none (.mv (.s 0))), (.call (some 56) none n_parse_reader_take [(.s 55), (.k (.str [33]))]), (.op (some 54) none (.mv (.s 56)))]
abbrev Q15S : AC := .run [(.op (some 57) none (.mv (.s 0))), (.call (some 58) none n_parse_reader_one [(.s 57)]), (.op (some 59) none (.bslice [(.int .i64 0), (.int .i64 0), (.str []), (.slice .full 0 [])] 4 1 [(0, (.s 58))])), (.op (some 60) none (.build [(.int .i64 0), (.int .i64 0), (.str []), (.slice .full 0 [])] [(0, (1, (.k (.int .i64 4)))), (3, (1, (.s 59)))])), (.op none none (.store (.s 2) (.s 60) 4))]
abbrev Q15T : AC := .seq Q15S .ret
abbrev Q15U : AC := .cond (.s 54) Q15T .skip
abbrev Q15V : AC := .seq Q15R Q15U
abbrev Q15W : AC := .cond (.s 47) Q15Q Q15V
abbrev Q15X : AC := .seq Q15O Q15W
abbrev Q15Y : AC := .cond (.s 39) Q15N Q15X
abbrev Q15Z : AC := .seq Q15H Q15Y
abbrev Q160 : AC := .cond (.s 25) Q15G Q15Z
abbrev Q161 : AC := .seq Q15C Q160
abbrev Q162 : AC := .cond (.s 11) Q15B Q161
abbrev Q163 : AC := .seq Q157 Q162
abbrev Q164 : AC := .block 0 Q163
abbrev Q165 : AC := .run [(.op (some 61) none (.mv (.s 0))), (.call (some 62) none n_parse_reader_bad [(.s 61), (.k (.int .i64 3))])]
abbrev Q166 : AC := .run [(.op (some 63) none (.build [(.int .i64 0), (.int .i64 0), (.str []), (.slice .full 0 [])] [])), (.op none none (.store (.s 2) (.s 63) 4))]
abbrev Q167 : AC := .seq Q166 .ret
abbrev Q168 : AC := .seq Q165 Q167
abbrev Q169 : AC := .seq Q164 Q168
abbrev Q16A : AC := .seq Q156 Q169
abbrev Q16B : AC := .seq Q151 Q16A
abbrev Q16C : AC := .seq Q150 Q16B
abbrev Q16D : AC := .run [(.op (some 1) none (.box (.s 0))), (.op (some 2) none (.mv (.k (.int .i64 0)))), (.op (some 3) none (.mv (.k (.int .i64 0))))]
abbrev Q16E : AC := .run [(.op (some 4) none (.faddr (.s 1) 0)), (.op (some 5) none (.load (.s 4) false 1)), (.op (some 6) none (.bin .neq (.s 5) (.k (.int .i64 4))))]
abbrev Q16F : AC := .run [(.op (some 2) none (.mv (.k (.int .i64 0)))), (.op (some 3) none (.mv (.k (.int .i64 0))))]
abbrev Q16G : AC := .seq Q16F .ret
abbrev Q16H : AC := .cond (.s 6) Q16G .skip
abbrev Q16I : AC := .seq Q16E Q16H
abbrev Q16J : AC := .run [(.op (some 7) none (.faddr (.s 1) 1)), (.op (some 8) none (.load (.s 7) false 1))]
abbrev Q16K : AC := .run [(.op (some 10) none (.bin .eql (.s 8) (.k (.str [124, 124])))), (.op (some 9) none (.mv (.s 10)))]
abbrev Q16L : AC := .run [(.op (some 2) none (.mv (.k (.int .i64 17)))), (.op (some 3) none (.mv (.k (.int .i64 1))))]
abbrev Q16M : AC := .seq Q16L .ret
abbrev Q16N : AC := .run [(.op (some 12) none (.bin .eql (.s 8) (.k (.str [38, 38])))), (.op (some 11) none (.mv (.s 12)))]
abbrev Q16O : AC := .run [(.op (some 2) none (.mv (.k (.int .i64 16)))), (.op (some 3) none (.mv (.k (.int .i64 2))))]
abbrev Q16P : AC := .seq Q16O .ret
abbrev Q16Q : AC := .run [(.op (some 14) none (.bin .eql (.s 8) (.k (.str [61, 61])))), (.op (some 13) none (.mv (.s 14)))]
abbrev Q16R : AC := .run [(.op (some 2) none (.mv (.k (.int .i64 14)))), (.op (some 3) none (.mv (.k (.int .i64 3))))]
abbrev Q16S : AC := .seq Q16R .ret
abbrev Q16T : AC := .run [(.op (some 16) none (.bin .eql (.s 8) (.k (.str [33, 61])))), (.op (some 15) none (.mv (.s 16)))]
abbrev Q16U : AC := .run [(.op (some 2) none (.mv (.k (.int .i64 15)))), (.op (some 3) none (.mv (.k (.int .i64 3))))]
abbrev Q16V : AC := .seq Q16U .ret
abbrev Q16W : AC := .run [(.op (some 18) none (.bin .eql (.s 8) (.k (.str [60])))), (.op (some 17) none (.mv (.s 18)))]
abbrev Q16X : AC := .run [(.op (some 2) none (.mv (.k (.int .i64 10)))), (.op (some 3) none (.mv (.k (.int .i64 4))))]
abbrev Q16Y : AC := .seq Q16X .ret
abbrev Q16Z : AC := .run [(.op (some 20) none (.bin .eql (.s 8) (.k (.str [60, 61])))), (.op (some 19) none (.mv (.s 20)))]
abbrev Q170 : AC := .run [(.op (some 2) none (.mv (.k (.int .i64 11)))), (.op (some 3) none (.mv (.k (.int .i64 4))))]
abbrev Q171 : AC := .seq Q170 .ret
abbrev Q172 : AC := .run [(.op (some 22) none (.bin .eql (.s 8) (.k (.str [62])))), (.op (some 21) none (.mv (.s 22)))]
abbrev Q173 : AC := .run [(.op (some 2) none (.mv (.k (.int .i64 12)))), (.op (some 3) none (.mv (.k (.int .i64 4))))]
abbrev Q174 : AC := .seq Q173 .ret
abbrev Q175 : AC := .run [(.op (some 24) none (.bin .eql (.s 8) (.k (.str [62, 61])))), (.op (some 23) none (.mv (.s 24)))]
abbrev Q176 : AC := .run [(.op (some 2) none (.mv (.k (.int .i64 13)))), (.op (some 3) none (.mv (.k (.int .i64 4))))]
abbrev Q177 : AC := .seq Q176 .ret
abbrev Q178 : AC := .run [(.op (some 26) none (.bin .eql (.s 8) (.k (.str [43])))), (.op (some 25) none (.mv (.s 26)))]
abbrev Q179 : AC := .run [(.op (some 2) none (.mv (.k (.int .i64 8)))), (.op (some 3) none (.mv (.k (.int .i64 5))))]
abbrev Q17A : AC := .seq Q179 .ret
abbrev Q17B : AC := .run [(.op (some 28) none (.bin .eql (.s 8) (.k (.str [45])))), (.op (some 27) none (.mv (.s 28)))]
abbrev Q17C : AC := .run [(.op (some 2) none (.mv (.k (.int .i64 9)))), (.op (some 3) none (.mv (.k (.int .i64 5))))]
abbrev Q17D : AC := .seq Q17C .ret
abbrev Q17E : AC := .run [(.op (some 30) none (.bin .eql (.s 8) (.k (.str [42])))), (.op (some 29) none (.mv (.s 30)))]
abbrev Q17F : AC := .run [(.op (some 2) none (.mv (.k (.int .i64 5)))), (.op (some 3) none (.mv (.k (.int .i64 6))))]
abbrev Q17G : AC := .seq Q17F .ret
abbrev Q17H : AC := .run [(.op (some 32) none (.bin .eql (.s 8) (.k (.str [47])))), (.op (some 31) none (.mv (.s 32)))]
abbrev Q17I : AC := .run [(.op (some 2) none (.mv (.k (.int .i64 6)))), (.op (some 3) none (.mv (.k (.int .i64 6))))]
abbrev Q17J : AC := .seq Q17I .ret
abbrev Q17K : AC := .run [(.op (some 34) none (.bin .eql (.s 8) (.k (.str [37])))), (.op (some 33) none (.mv (.s 34)))]
abbrev Q17L : AC := .run [(.op (some 2) none (.mv (.k (.int .i64 7)))), (.op (some 3) none (.mv (.k (.int .i64 6))))]
abbrev Q17M : AC := .seq Q17L .ret
abbrev Q17N : AC := .cond (.s 33) Q17M .skip
abbrev Q17O : AC := .seq Q17K Q17N
abbrev Q17P : AC := .cond (.s 31) Q17J Q17O
abbrev Q17Q : AC := .seq Q17H Q17P
abbrev Q17R : AC := .cond (.s 29) Q17G Q17Q
abbrev Q17S : AC := .seq Q17E Q17R
abbrev Q17T : AC := .cond (.s 27) Q17D Q17S
abbrev Q17U : AC := .seq Q17B Q17T
abbrev Q17V : AC := .cond (.s 25) Q17A Q17U
abbrev Q17W : AC := .seq Q178 Q17V
abbrev Q17X : AC := .cond (.s 23) Q177 Q17W
abbrev Q17Y : AC := .seq Q175 Q17X
abbrev Q17Z : AC := .cond (.s 21) Q174 Q17Y
abbrev Q180 : AC := .seq Q172 Q17Z
abbrev Q181 : AC := .cond (.s 19) Q171 Q180
abbrev Q182 : AC := .seq Q16Z Q181
abbrev Q183 : AC := .cond (.s 17) Q16Y Q182
abbrev Q184 : AC := .seq Q16W Q183
abbrev Q185 : AC := .cond (.s 15) Q16V Q184
abbrev Q186 : AC := .seq Q16T Q185
abbrev Q187 : AC := .cond (.s 13) Q16S Q186
abbrev Q188 : AC := .seq Q16Q Q187
abbrev Q189 : AC := .cond (.s 11) Q16P Q188
abbrev Q18A : AC := .seq Q16N Q189
abbrev Q18B : AC := .cond (.s 9) Q16M Q18A
abbrev Q18C : AC := .seq Q16K Q18B
abbrev Q18D : AC := .block 0 Q18C
abbrev Q18E : AC := .seq Q16J Q18D
abbrev Q18F : AC := .run [(.op (some 2) none (.mv (.k (.int .i64 0)))), (.op (some 3) none (.mv (.k (.int .i64 0))))]
abbrev Q18G : AC := .seq Q18F .ret
abbrev Q18H : AC := .seq Q18E Q18G
abbrev Q18I : AC := .seq Q16I Q18H
abbrev Q18J : AC := .seq Q16D Q18I
abbrev Q18K : AC := .run [(.op (some 4) none (.mv (.s 0))), (.op (some 5) none (.mv (.s 1))), (.call (some 6) none n_parse_reader_take [(.s 4), (.s 5)]), (.op (some 7) none (.un .not (.s 6)))]
abbrev Q18L : AC := .run [(.op (some 8) none (.mv (.s 0))), (.call (some 9) none n_parse_reader_bad [(.s 8), (.k (.int .i64 3))])]
abbrev Q18M : AC := .cond (.s 7) Q18L .skip
abbrev Q18N : AC := .seq Q18K Q18M
abbrev Q18O : AC := .run [(.op (some 4) none (.mv (.k (.bool false))))]
abbrev Q18P : AC := .run [(.op (some 5) none (.mv (.s 1))), (.op (some 6) none (.mv (.s 5))), (.op (some 7) (some (6, true)) (.mv (.s 0))), (.call (some 8) (some (6, true)) n_lex_Name [(.s 7)]), (.op (some 9) none (.pick (.s 6) (.s 8) (.k (.bool false)))), (.op (some 10) none (.mv (.s 9))), (.op (some 11) (some (10, false)) (.mv (.s 1))), (.op (some 12) (some (10, false)) (.un .not (.s 11))), (.op (some 13) (some (10, false)) (.mv (.s 12))), (.op (some 14) (some (13, true)) (.mv (.s 0))), (.op (some 15) (some (13, true)) (.bin .eql (.s 14) (.k (.str [])))), (.op (some 16) (some (10, false)) (.pick (.s 13) (.s 15) (.k (.bool false)))), (.op (some 17) none (.pick (.s 10) (.k (.bool true)) (.s 16))), (.op (some 4) none (.mv (.s 17)))]
abbrev Q18Q : AC := .seq Q18P .ret
abbrev Q18R : AC := .seq Q18O Q18Q
abbrev Q18S : AC := .run [(.op (some 2) none (.box (.s 0))), (.op (some 4) none (.mv (.k (.bool false))))]
abbrev Q18T : AC := .run [(.op (some 5) none (.mv (.s 1))), (.op (some 6) none (.mv (.s 5))), (.op (some 7) (some (6, true)) (.load (.s 2) true 4)), (.call (some 8) (some (6, true)) n_tree_MayExpr [(.s 7)]), (.op (some 9) none (.pick (.s 6) (.s 8) (.k (.bool false)))), (.op (some 10) none (.mv (.s 9))), (.op (some 11) (some (10, false)) (.mv (.s 1))), (.op (some 12) (some (10, false)) (.un .not (.s 11))), (.op (some 13) (some (10, false)) (.mv (.s 12))), (.op (some 14) (some (13, true)) (.load (.s 2) true 4)), (.call (some 15) (some (13, true)) n_tree_none [(.s 14)]), (.op (some 16) (some (10, false)) (.pick (.s 13) (.s 15) (.k (.bool false)))), (.op (some 17) none (.pick (.s 10) (.k (.bool true)) (.s 16))), (.op (some 4) none (.mv (.s 17)))]
abbrev Q18U : AC := .seq Q18T .ret
abbrev Q18V : AC := .seq Q18S Q18U
abbrev Q18W : AC := .run [(.op (some 2) none (.mv (.k (.bool false))))]
abbrev Q18X : AC := .run [(.op (some 5) none (.mv (.s 0))), (.op (some 6) none (.len (.s 5))), (.op (some 7) none (.mv (.k (.int .i64 0))))]
abbrev Q18Y : AC := .run [(.op (some 8) none (.bin .lss (.s 7) (.s 6)))]
abbrev Q18Z : AC := .cond (.s 8) .skip (.exit 0)
abbrev Q190 : AC := .run [(.op (some 9) none (.iaddr (.s 5) (.s 7) 6)), (.op (some 10) none (.load (.s 9) true 6)), (.op (some 4) none (.alloc [(.bool false), (.str []), (.int .i64 0), (.int .i64 0), (.str []), (.slice .full 0 [])])), (.op none none (.store (.s 4) (.s 10) 6))]
abbrev Q191 : AC := .run [(.op (some 11) none (.faddr (.s 4) 1)), (.op (some 12) none (.load (.s 11) false 1)), (.op (some 13) none (.faddr (.s 4) 0)), (.op (some 14) none (.load (.s 13) false 1)), (.call (some 15) none n_tree_named [(.s 12), (.s 14)]), (.op (some 16) none (.un .not (.s 15))), (.op (some 17) none (.mv (.s 16))), (.op (some 18) (some (17, false)) (.faddr (.s 4) 2)), (.op (some 19) (some (17, false)) (.load (.s 18) true 4)), (.op (some 20) (some (17, false)) (.faddr (.s 4) 0)), (.op (some 21) (some (17, false)) (.load (.s 20) false 1)), (.op (some 22) (some (17, false)) (.un .not (.s 21))), (.call (some 23) (some (17, false)) n_tree_worth [(.s 19), (.s 22)]), (.op (some 24) (some (17, false)) (.un .not (.s 23))), (.op (some 25) none (.pick (.s 17) (.k (.bool true)) (.s 24)))]
abbrev Q192 : AC := .run [(.op (some 2) none (.mv (.k (.bool false))))]
abbrev Q193 : AC := .seq Q192 .ret
abbrev Q194 : AC := .cond (.s 25) Q193 .skip
abbrev Q195 : AC := .seq Q191 Q194
abbrev Q196 : AC := .seq Q190 Q195
abbrev Q197 : AC := .block 1 Q196
abbrev Q198 : AC := .run [(.op (some 26) none (.bin .add (.s 7) (.k (.int .i64 1)))), (.op (some 7) none (.mv (.s 26)))]
abbrev Q199 : AC := .seq Q197 Q198
abbrev Q19A : AC := .seq Q18Z Q199
abbrev Q19B : AC := .seq Q18Y Q19A
abbrev Q19C : AC := .loop Q19B
abbrev Q19D : AC := .block 0 Q19C
abbrev Q19E : AC := .seq Q18X Q19D
abbrev Q19F : AC := .run [(.op (some 2) none (.mv (.k (.bool true))))]
abbrev Q19G : AC := .seq Q19F .ret
abbrev Q19H : AC := .seq Q19E Q19G
abbrev Q19I : AC := .seq Q18W Q19H
abbrev Q19J : AC := .run [(.op (some 1) none (.box (.s 0))), (.op (some 2) none (.mv (.k (.bool false))))]
abbrev Q19K : AC := .run [(.op (some 3) none (.faddr (.s 1) 0)), (.op (some 4) none (.load (.s 3) false 1)), (.op (some 5) none (.bin .eql (.s 4) (.k (.int .i64 0)))), (.op (some 6) none (.mv (.s 5))), (.op (some 7) (some (6, true)) (.faddr (.s 1) 1)), (.op (some 8) (some (6, true)) (.load (.s 7) false 1)), (.op (some 9) (some (6, true)) (.bin .eql (.s 8) (.k (.int .i64 0)))), (.op (some 10) none (.pick (.s 6) (.s 9) (.k (.bool false)))), (.op (some 11) none (.mv (.s 10))), (.op (some 12) (some (11, true)) (.faddr (.s 1) 2)), (.op (some 13) (some (11, true)) (.load (.s 12) false 1)), (.op (some 14) (some (11, true)) (.bin .eql (.s 13) (.k (.str [])))), (.op (some 15) none (.pick (.s 11) (.s 14) (.k (.bool false)))), (.op (some 16) none (.mv (.s 15))), (.op (some 17) (some (16, true)) (.faddr (.s 1) 3)), (.op (some 18) (some (16, true)) (.load (.s 17) false 1)), (.op (some 19) (some (16, true)) (.len (.s 18))), (.op (some 20) (some (16, true)) (.bin .eql (.s 19) (.k (.int .i64 0)))), (.op (some 21) none (.pick (.s 16) (.s 20) (.k (.bool false)))), (.op (some 2) none (.mv (.s 21)))]
abbrev Q19L : AC := .seq Q19K .ret
abbrev Q19M : AC := .seq Q19J Q19L

end Go.Abs

/-! Have3 -/

namespace Go.Abs
open Go.Proofs

theorem has_ref1_Words : Has Tryd.prog n_ref1_Words 2 [(0, none)] Q14Z := ⟨Tryd.f111, by kernel_rfl, by kernel_rfl⟩
theorem has_parse_reader_one : Has Tryd.prog n_parse_reader_one 64 [(2, (some (true, 4)))] Q16C := ⟨Tryd.f113, by kernel_rfl, by kernel_rfl⟩
theorem has_parse_op : Has Tryd.prog n_parse_op 35 [(2, none), (3, none)] Q18J := ⟨Tryd.f114, by kernel_rfl, by kernel_rfl⟩
theorem has_parse_reader_want : Has Tryd.prog n_parse_reader_want 10 [] Q18N := ⟨Tryd.f116, by kernel_rfl, by kernel_rfl⟩
theorem has_tree_named : Has Tryd.prog n_tree_named 18 [(4, none)] Q18R := ⟨Tryd.f119, by kernel_rfl, by kernel_rfl⟩
theorem has_tree_worth : Has Tryd.prog n_tree_worth 18 [(4, none)] Q18V := ⟨Tryd.f120, by kernel_rfl, by kernel_rfl⟩
theorem has_tree_handed : Has Tryd.prog n_tree_handed 27 [(2, none)] Q19I := ⟨Tryd.f121, by kernel_rfl, by kernel_rfl⟩
theorem has_tree_none : Has Tryd.prog n_tree_none 22 [(2, none)] Q19M := ⟨Tryd.f130, by kernel_rfl, by kernel_rfl⟩
end Go.Abs

/-! Prs -/

namespace Go.Abs

set_option maxRecDepth 8000
set_option linter.unusedSimpArgs false
set_option linter.unusedVariables false
open Go.Proofs

@[go_sem] def encRd (r : Rd) : List D := [.slice .shared 4 (r.l.map encTok), .int .i64 r.i, .int .i64 r.code, .int .i64 r.fat, .int .i64 r.n]
theorem okRd (r : Rd) : D.oks 0 0 (encRd r) = true := by simp [encRd, D.oks, D.ok, Tag.ok, okrTok]

theorem peek_lt {r : Rd} {t : Tok} (h : r.peek = some t) : r.i < 4611686018427387904 := (peek_get h).1
theorem is_lt {r : Rd} {s : Str} {t : Bool} (h : r.is s = some t) : r.i < 4611686018427387904 := by
  obtain ⟨t, h1, h⟩ := Option.bind_eq_some_iff.1 h
  exact peek_lt h1

-- good
theorem good_0 (l : List Tok) (i c f n : Int) : Fun Tryd.prog n_parse_reader_good [.ptr 0 0] ⟨[[.slice .shared 4 (l.map encTok), .int .i64 i, .int .i64 c, .int .i64 f, .int .i64 n]], []⟩ (.bool (c == 0)) ⟨[[.slice .shared 4 (l.map encTok), .int .i64 i, .int .i64 c, .int .i64 f, .int .i64 n]], []⟩ := by
  refine Fun.go has_parse_reader_good rfl fun B Q hB hQ => ?_
  have hlt : 0 < 1 := Nat.zero_lt_one
  have hget : 0 < 1 := Nat.zero_lt_one
  have hpu : 0 < 1 := Nat.zero_lt_one
  have hinc : 0 < 1 := Nat.zero_lt_one
  repeat' (first
 | simp only [go_sem, hlt, hget, hpu, hinc, Int.reduceLE, ↓reduceIte, reduceCtorEq, Nat.reduceEqDiff, Nat.reduceLeDiff, Nat.reduceAdd, Nat.reduceMul, Nat.reduceSub, Nat.reduceLT, fgrTok]
 | (with_reducible first | refine CB_ofT (by assumption) fun hc => ?_ | refine CB_ofF (by assumption) fun hc => ?_ | refine CB_split (fun hc => ?_) fun hc => ?_) <;> (try simp only [hc, bs, ↓reduceIte] at h) <;> (try simp only [hc])
 | ((with_reducible first | refine leafR hQ ?_ | refine leafN hQ ?_); (try cases h); simp only [resL, oneD, Option.some.injEq, exists_eq_left', go_sem, hlt, hget, hpu, hinc, Int.reduceLE, ↓reduceIte, reduceCtorEq, Nat.reduceEqDiff, Nat.reduceLeDiff, Nat.reduceAdd, Nat.reduceMul, Nat.reduceSub, Nat.reduceLT, fgrTok]; repeat' (first | exact Ok.out | with_reducible refine And.intro ?_ ?_ | (simp; done)))
 | (cases h; replace h := hr; clear hr; (try simp only [bs, ↓reduceIte] at h))
 | (cases h; done))
theorem good_s {l : List Tok} {i c f n : Int} {s : St} {o : Nat} (ho : s.objs[o]? = some [.slice .shared 4 (l.map encTok), .int .i64 i, .int .i64 c, .int .i64 f, .int .i64 n]) : Fun Tryd.prog n_parse_reader_good [.ptr o 0] s (.bool (c == 0)) ⟨s.objs.set o [.slice .shared 4 (l.map encTok), .int .i64 i, .int .i64 c, .int .i64 f, .int .i64 n], s.toks⟩ :=
  have hk : D.oks 0 0 [.slice .shared 4 (l.map encTok), .int .i64 i, .int .i64 c, .int .i64 f, .int .i64 n] = true := by simp [D.oks, D.ok, Tag.ok, okrTok]
  Fun.meth (good_0 l i c f n) rfl hk hk rfl ho
theorem peek_0 {r : Rd} {t : Tok} (h : r.peek = some t) : Fun Tryd.prog n_parse_reader_peek [.ptr 0 0] ⟨[encRd r], []⟩ (.agg (encTok t)) ⟨[encRd r], []⟩ := by
  obtain ⟨h2, h, _, _⟩ := peek_get h
  refine Fun.go has_parse_reader_peek rfl fun B Q hB hQ => ?_
  have hlt : 0 < 1 := Nat.zero_lt_one
  have hget : 0 < 1 := Nat.zero_lt_one
  have hpu : 0 < 1 := Nat.zero_lt_one
  have hinc : 0 < 1 := Nat.zero_lt_one
  repeat' (first
 | simp only [go_sem, hlt, hget, hpu, hinc, Int.reduceLE, ↓reduceIte, reduceCtorEq, Nat.reduceEqDiff, Nat.reduceLeDiff, Nat.reduceAdd, Nat.reduceMul, Nat.reduceSub, Nat.reduceLT, fgrTok, h]
 | (with_reducible first | refine CB_ofT (by assumption) fun hc => ?_ | refine CB_ofF (by assumption) fun hc => ?_ | refine CB_split (fun hc => ?_) fun hc => ?_) <;> (try simp only [hc, bs, ↓reduceIte] at h) <;> (try simp only [hc])
 | ((with_reducible first | refine leafR hQ ?_ | refine leafN hQ ?_); (try cases h); simp only [resL, oneD, Option.some.injEq, exists_eq_left', go_sem, hlt, hget, hpu, hinc, Int.reduceLE, ↓reduceIte, reduceCtorEq, Nat.reduceEqDiff, Nat.reduceLeDiff, Nat.reduceAdd, Nat.reduceMul, Nat.reduceSub, Nat.reduceLT, fgrTok, h]; repeat' (first | exact Ok.out | with_reducible refine And.intro ?_ ?_ | (simp; done)))
 | (cases h; replace h := hr; clear hr; (try simp only [bs, ↓reduceIte] at h))
 | (cases h; done))
theorem peek_s {r : Rd} {t : Tok} (h : r.peek = some t) {s : St} {o : Nat} (ho : s.objs[o]? = some (encRd r)) : Fun Tryd.prog n_parse_reader_peek [.ptr o 0] s (.agg (encTok t)) ⟨s.objs.set o (encRd r), s.toks⟩ :=
  (peek_0 h).meth rfl (okRd r) (okRd r) (okTok t) ho
theorem is_0 {r : Rd} {text : Str} {b : Bool} (h : r.is text = some b) : Fun Tryd.prog n_parse_reader_is [.ptr 0 0, .str text] ⟨[encRd r], []⟩ (.bool b) ⟨[encRd r], []⟩ := by
  unfold Rd.is at h
  refine Fun.go has_parse_reader_is rfl fun B Q hB hQ => ?_
  have hlt : 0 < 1 := Nat.zero_lt_one
  have hget : 0 < 1 := Nat.zero_lt_one
  have hpu : 0 < 1 := Nat.zero_lt_one
  have hinc : 0 < 1 := Nat.zero_lt_one
  repeat' (first
 | simp only [go_sem, hlt, hget, hpu, hinc, Int.reduceLE, ↓reduceIte, reduceCtorEq, Nat.reduceEqDiff, Nat.reduceLeDiff, Nat.reduceAdd, Nat.reduceMul, Nat.reduceSub, Nat.reduceLT, fgrTok]
 | (rw [Option.bind_eq_some_iff] at h; obtain ⟨_, h1, h⟩ := h; first | (with_reducible refine CU (peek_s h1 (by with_unfolding_all rfl)) ?_))
 | (with_reducible first | refine CB_ofT (by assumption) fun hc => ?_ | refine CB_ofF (by assumption) fun hc => ?_ | refine CB_split (fun hc => ?_) fun hc => ?_) <;> (try simp only [hc, bs, ↓reduceIte] at h) <;> (try simp only [hc])
 | ((with_reducible first | refine leafR hQ ?_ | refine leafN hQ ?_); (try cases h); simp only [resL, oneD, Option.some.injEq, exists_eq_left', go_sem, hlt, hget, hpu, hinc, Int.reduceLE, ↓reduceIte, reduceCtorEq, Nat.reduceEqDiff, Nat.reduceLeDiff, Nat.reduceAdd, Nat.reduceMul, Nat.reduceSub, Nat.reduceLT, fgrTok]; repeat' (first | exact Ok.out | with_reducible refine And.intro ?_ ?_ | (simp; done)))
 | (cases h; replace h := hr; clear hr; (try simp only [bs, ↓reduceIte] at h))
 | (cases h; done))
theorem is_s {r : Rd} {text : Str} {b : Bool} (h : r.is text = some b) {s : St} {o : Nat} (ho : s.objs[o]? = some (encRd r)) : Fun Tryd.prog n_parse_reader_is [.ptr o 0, .str text] s (.bool b) ⟨s.objs.set o (encRd r), s.toks⟩ :=
  (is_0 h).meth rfl (okRd r) (okRd r) rfl ho
theorem bad_0 {r r' : Rd} {c : Int} (h : r.bad c = some r') : Fun Tryd.prog n_parse_reader_bad [.ptr 0 0, .int .i64 c] ⟨[encRd r], []⟩ (.tuple []) ⟨[encRd r'], []⟩ := by
  unfold Rd.bad at h
  refine Fun.go has_parse_reader_bad rfl fun B Q hB hQ => ?_
  have hlt : 0 < 1 := Nat.zero_lt_one
  have hget : 0 < 1 := Nat.zero_lt_one
  have hpu : 0 < 1 := Nat.zero_lt_one
  have hinc : 0 < 1 := Nat.zero_lt_one
  repeat' (first
 | simp only [go_sem, hlt, hget, hpu, hinc, Int.reduceLE, ↓reduceIte, reduceCtorEq, Nat.reduceEqDiff, Nat.reduceLeDiff, Nat.reduceAdd, Nat.reduceMul, Nat.reduceSub, Nat.reduceLT, fgrTok]
 | (rw [Option.bind_eq_some_iff] at h; obtain ⟨_, h1, h⟩ := h; first | (with_reducible refine CU (peek_s h1 (by with_unfolding_all rfl)) ?_))
 | (with_reducible refine CU (good_s (by with_unfolding_all rfl)) ?_)
 | (with_reducible first | refine CB_ofT (by assumption) fun hc => ?_ | refine CB_ofF (by assumption) fun hc => ?_ | refine CB_split (fun hc => ?_) fun hc => ?_) <;> (try simp only [hc, bs, ↓reduceIte] at h) <;> (try simp only [hc])
 | ((with_reducible first | refine leafR hQ ?_ | refine leafN hQ ?_); (try cases h); simp only [resL, oneD, Option.some.injEq, exists_eq_left', go_sem, hlt, hget, hpu, hinc, Int.reduceLE, ↓reduceIte, reduceCtorEq, Nat.reduceEqDiff, Nat.reduceLeDiff, Nat.reduceAdd, Nat.reduceMul, Nat.reduceSub, Nat.reduceLT, fgrTok]; repeat' (first | exact Ok.out | with_reducible refine And.intro ?_ ?_ | (simp; done)))
 | (cases h; replace h := hr; clear hr; (try simp only [bs, ↓reduceIte] at h))
 | (cases h; done))
theorem bad_s {r r' : Rd} {c : Int} (h : r.bad c = some r') {s : St} {o : Nat} (ho : s.objs[o]? = some (encRd r)) : Fun Tryd.prog n_parse_reader_bad [.ptr o 0, .int .i64 c] s (.tuple []) ⟨s.objs.set o (encRd r'), s.toks⟩ :=
  (bad_0 h).meth rfl (okRd r) (okRd r') rfl ho
theorem take_0 {r : Rd} {text : Str} {p : Bool × Rd} (h : r.take text = some p) : Fun Tryd.prog n_parse_reader_take [.ptr 0 0, .str text] ⟨[encRd r], []⟩ (.bool p.1) ⟨[encRd p.2], []⟩ := by
  unfold Rd.take at h
  refine Fun.go has_parse_reader_take rfl fun B Q hB hQ => ?_
  have hlt : 0 < 1 := Nat.zero_lt_one
  have hget : 0 < 1 := Nat.zero_lt_one
  have hpu : 0 < 1 := Nat.zero_lt_one
  have hinc : 0 < 1 := Nat.zero_lt_one
  repeat' (first
 | simp only [go_sem, hlt, hget, hpu, hinc, Int.reduceLE, ↓reduceIte, reduceCtorEq, Nat.reduceEqDiff, Nat.reduceLeDiff, Nat.reduceAdd, Nat.reduceMul, Nat.reduceSub, Nat.reduceLT, fgrTok]
 | (rw [Option.bind_eq_some_iff] at h; obtain ⟨_, h1, h⟩ := h; first | (with_reducible refine CU (is_s h1 (by with_unfolding_all rfl)) ?_; have hlt := is_lt h1))
 | (with_reducible refine CU (good_s (by with_unfolding_all rfl)) ?_)
 | (with_reducible first | refine CB_ofT (by assumption) fun hc => ?_ | refine CB_ofF (by assumption) fun hc => ?_ | refine CB_split (fun hc => ?_) fun hc => ?_) <;> (try simp only [hc, bs, ↓reduceIte] at h) <;> (try simp only [hc])
 | ((with_reducible first | refine leafR hQ ?_ | refine leafN hQ ?_); (try cases h); simp only [resL, oneD, Option.some.injEq, exists_eq_left', go_sem, hlt, hget, hpu, hinc, Int.reduceLE, ↓reduceIte, reduceCtorEq, Nat.reduceEqDiff, Nat.reduceLeDiff, Nat.reduceAdd, Nat.reduceMul, Nat.reduceSub, Nat.reduceLT, fgrTok]; repeat' (first | exact Ok.out | with_reducible refine And.intro ?_ ?_ | (simp; done)))
 | (cases h; replace h := hr; clear hr; (try simp only [bs, ↓reduceIte] at h))
 | (cases h; done))
theorem take_s {r : Rd} {text : Str} {p : Bool × Rd} (h : r.take text = some p) {s : St} {o : Nat} (ho : s.objs[o]? = some (encRd r)) : Fun Tryd.prog n_parse_reader_take [.ptr o 0, .str text] s (.bool p.1) ⟨s.objs.set o (encRd p.2), s.toks⟩ :=
  (take_0 h).meth rfl (okRd r) (okRd p.2) rfl ho
theorem want_0 {r r' : Rd} {text : Str} (h : r.want text = some r') : Fun Tryd.prog n_parse_reader_want [.ptr 0 0, .str text] ⟨[encRd r], []⟩ (.tuple []) ⟨[encRd r'], []⟩ := by
  unfold Rd.want at h
  refine Fun.go has_parse_reader_want rfl fun B Q hB hQ => ?_
  have hlt : 0 < 1 := Nat.zero_lt_one
  have hget : 0 < 1 := Nat.zero_lt_one
  have hpu : 0 < 1 := Nat.zero_lt_one
  have hinc : 0 < 1 := Nat.zero_lt_one
  repeat' (first
 | simp only [go_sem, hlt, hget, hpu, hinc, Int.reduceLE, ↓reduceIte, reduceCtorEq, Nat.reduceEqDiff, Nat.reduceLeDiff, Nat.reduceAdd, Nat.reduceMul, Nat.reduceSub, Nat.reduceLT, fgrTok]
 | (rw [Option.bind_eq_some_iff] at h; obtain ⟨_, h1, h⟩ := h; first | (with_reducible refine CU (take_s h1 (by with_unfolding_all rfl)) ?_))
 | (with_reducible refine CU (bad_s h (by with_unfolding_all rfl)) ?_)
 | (with_reducible first | refine CB_ofT (by assumption) fun hc => ?_ | refine CB_ofF (by assumption) fun hc => ?_ | refine CB_split (fun hc => ?_) fun hc => ?_) <;> (try simp only [hc, bs, ↓reduceIte] at h) <;> (try simp only [hc])
 | ((with_reducible first | refine leafR hQ ?_ | refine leafN hQ ?_); (try cases h); simp only [resL, oneD, Option.some.injEq, exists_eq_left', go_sem, hlt, hget, hpu, hinc, Int.reduceLE, ↓reduceIte, reduceCtorEq, Nat.reduceEqDiff, Nat.reduceLeDiff, Nat.reduceAdd, Nat.reduceMul, Nat.reduceSub, Nat.reduceLT, fgrTok]; repeat' (first | exact Ok.out | with_reducible refine And.intro ?_ ?_ | (simp; done)))
 | (cases h; replace h := hr; clear hr; (try simp only [bs, ↓reduceIte] at h))
 | (cases h; done))
theorem want_s {r r' : Rd} {text : Str} (h : r.want text = some r') {s : St} {o : Nat} (ho : s.objs[o]? = some (encRd r)) : Fun Tryd.prog n_parse_reader_want [.ptr o 0, .str text] s (.tuple []) ⟨s.objs.set o (encRd r'), s.toks⟩ :=
  (want_0 h).meth rfl (okRd r) (okRd r') rfl ho
end Go.Abs

/-! Lex1 -/

namespace Go.Abs

set_option maxRecDepth 8000
set_option linter.unusedSimpArgs false
set_option linter.unusedVariables false
open Go.Proofs

theorem letter_s (c : UInt8) (s : St) : Fun Tryd.prog n_lex_letter [.int .u8 (c.toNat : Int)] s (.bool (isL c)) s := by
  refine Fun.pure ?_ rfl rfl s
  generalize h : isL c = b
  unfold isL at h
  unfold S0
  refine Fun.go has_lex_letter rfl fun B Q hB hQ => ?_
  have hlt : 0 < 1 := Nat.zero_lt_one
  have hget : 0 < 1 := Nat.zero_lt_one
  have hpu : 0 < 1 := Nat.zero_lt_one
  have hinc : 0 < 1 := Nat.zero_lt_one
  repeat' (first
 | simp only [go_sem, hlt, hget, hpu, hinc, Int.reduceLE, ↓reduceIte, reduceCtorEq, Nat.reduceEqDiff, Nat.reduceLeDiff, Nat.reduceAdd, Nat.reduceMul, Nat.reduceSub, Nat.reduceLT]
 | (with_reducible first | refine CB_ofT (by assumption) fun hc => ?_ | refine CB_ofF (by assumption) fun hc => ?_ | refine CB_split (fun hc => ?_) fun hc => ?_) <;> (try simp only [hc, bs, ↓reduceIte] at h) <;> (try simp only [hc])
 | ((with_reducible first | refine leafR hQ ?_ | refine leafN hQ ?_); (try cases h); simp only [resL, oneD, Option.some.injEq, exists_eq_left', go_sem, hlt, hget, hpu, hinc, Int.reduceLE, ↓reduceIte, reduceCtorEq, Nat.reduceEqDiff, Nat.reduceLeDiff, Nat.reduceAdd, Nat.reduceMul, Nat.reduceSub, Nat.reduceLT]; repeat' (first | exact Ok.out | with_reducible refine And.intro ?_ ?_ | (simp; done)))
 | (cases h; replace h := hr; clear hr; (try simp only [bs, ↓reduceIte] at h))
 | (cases h; done))

theorem digit_s (c : UInt8) (s : St) : Fun Tryd.prog n_lex_digit [.int .u8 (c.toNat : Int)] s (.bool (isD c)) s := by
  refine Fun.pure ?_ rfl rfl s
  generalize h : isD c = b
  unfold isD at h
  unfold S0
  refine Fun.go has_lex_digit rfl fun B Q hB hQ => ?_
  have hlt : 0 < 1 := Nat.zero_lt_one
  have hget : 0 < 1 := Nat.zero_lt_one
  have hpu : 0 < 1 := Nat.zero_lt_one
  have hinc : 0 < 1 := Nat.zero_lt_one
  repeat' (first
 | simp only [go_sem, hlt, hget, hpu, hinc, Int.reduceLE, ↓reduceIte, reduceCtorEq, Nat.reduceEqDiff, Nat.reduceLeDiff, Nat.reduceAdd, Nat.reduceMul, Nat.reduceSub, Nat.reduceLT]
 | (with_reducible first | refine CB_ofT (by assumption) fun hc => ?_ | refine CB_ofF (by assumption) fun hc => ?_ | refine CB_split (fun hc => ?_) fun hc => ?_) <;> (try simp only [hc, bs, ↓reduceIte] at h) <;> (try simp only [hc])
 | ((with_reducible first | refine leafR hQ ?_ | refine leafN hQ ?_); (try cases h); simp only [resL, oneD, Option.some.injEq, exists_eq_left', go_sem, hlt, hget, hpu, hinc, Int.reduceLE, ↓reduceIte, reduceCtorEq, Nat.reduceEqDiff, Nat.reduceLeDiff, Nat.reduceAdd, Nat.reduceMul, Nat.reduceSub, Nat.reduceLT]; repeat' (first | exact Ok.out | with_reducible refine And.intro ?_ ?_ | (simp; done)))
 | (cases h; replace h := hr; clear hr; (try simp only [bs, ↓reduceIte] at h))
 | (cases h; done))

theorem word_s (t : Str) (s : St) : Fun Tryd.prog n_lex_Word [.str t] s (.bool (isWord t)) s := by
  refine Fun.pure ?_ rfl rfl s
  generalize h : isWord t = b
  unfold isWord at h
  unfold S0
  refine Fun.go has_lex_Word rfl fun B Q hB hQ => ?_
  have hlt : 0 < 1 := Nat.zero_lt_one
  have hget : 0 < 1 := Nat.zero_lt_one
  have hpu : 0 < 1 := Nat.zero_lt_one
  have hinc : 0 < 1 := Nat.zero_lt_one
  repeat' (first
 | simp only [go_sem, hlt, hget, hpu, hinc, Int.reduceLE, ↓reduceIte, reduceCtorEq, Nat.reduceEqDiff, Nat.reduceLeDiff, Nat.reduceAdd, Nat.reduceMul, Nat.reduceSub, Nat.reduceLT]
 | (with_reducible first | refine CB_ofT (by assumption) fun hc => ?_ | refine CB_ofF (by assumption) fun hc => ?_ | refine CB_split (fun hc => ?_) fun hc => ?_) <;> (try simp only [hc, bs, ↓reduceIte] at h) <;> (try simp only [hc])
 | ((with_reducible first | refine leafR hQ ?_ | refine leafN hQ ?_); (try cases h); simp only [resL, oneD, Option.some.injEq, exists_eq_left', go_sem, hlt, hget, hpu, hinc, Int.reduceLE, ↓reduceIte, reduceCtorEq, Nat.reduceEqDiff, Nat.reduceLeDiff, Nat.reduceAdd, Nat.reduceMul, Nat.reduceSub, Nat.reduceLT]; repeat' (first | exact Ok.out | with_reducible refine And.intro ?_ ?_ | (simp; done)))
 | (cases h; replace h := hr; clear hr; (try simp only [bs, ↓reduceIte] at h))
 | (cases h; done))

theorem run_s {text : Str} {pos : Nat} (hl : text.length < 4611686018427387904) (s : St) : Fun Tryd.prog n_lex_run [.str text, .int .i64 (pos : Int)] s (.int .i64 ((pos + runL (text.drop pos) : Nat) : Int)) s := by
  refine Fun.pure ?_ rfl rfl s
  unfold S0
  refine Fun.go has_lex_run rfl fun B Q hB hQ => ?_
  have hlt : 0 < 1 := Nat.zero_lt_one
  have hget : 0 < 1 := Nat.zero_lt_one
  have hpu : 0 < 1 := Nat.zero_lt_one
  have hinc : 0 < 1 := Nat.zero_lt_one
  repeat' (first
 | simp only [go_sem, hlt, hget, hpu, hinc, Int.reduceLE, ↓reduceIte, reduceCtorEq, Nat.reduceEqDiff, Nat.reduceLeDiff, Nat.reduceAdd, Nat.reduceMul, Nat.reduceSub, Nat.reduceLT]
 | (with_reducible first | refine CB_ofT (by assumption) fun hc => ?_ | refine CB_ofF (by assumption) fun hc => ?_ | refine CB_split (fun hc => ?_) fun hc => ?_) <;> (try simp only [hc, bs, ↓reduceIte] at h) <;> (try simp only [hc])
 | ((with_reducible first | refine leafR hQ ?_ | refine leafN hQ ?_); (try cases h); simp only [resL, oneD, Option.some.injEq, exists_eq_left', go_sem, hlt, hget, hpu, hinc, Int.reduceLE, ↓reduceIte, reduceCtorEq, Nat.reduceEqDiff, Nat.reduceLeDiff, Nat.reduceAdd, Nat.reduceMul, Nat.reduceSub, Nat.reduceLT]; repeat' (first | exact Ok.out | with_reducible refine And.intro ?_ ?_ | (simp; done)))
 | (cases h; replace h := hr; clear hr; (try simp only [bs, ↓reduceIte] at h))
 | (cases h; done))
  refine SemL.re _ _ 0 0 (by rw [hB]; exact Nat.le_of_ble_eq_true rfl) (by rw [hB]; exact Nat.le_of_ble_eq_true rfl) ?_ ?_ (SemL.ind (ι := Str × Nat) (fun i => text.drop i.2 = i.1 ∧ i.2 + runL i.1 = pos + runL (text.drop pos)) (fun i => i.1.length)
    (fun i => [(0, .str text), (1, .int .i64 (i.2 : Int))]) (fun i => ⟨[], []⟩) ?_ (text.drop pos, pos) ⟨rfl, rfl⟩)
  · (simp only [go_sem, hlt, hget, hpu, hinc, Int.reduceLE, ↓reduceIte, reduceCtorEq, Nat.reduceEqDiff, Nat.reduceLeDiff, Nat.reduceAdd, Nat.reduceMul, Nat.reduceSub, Nat.reduceLT]; repeat' (first | exact Ok.out | with_reducible refine And.intro ?_ ?_))
  · (simp only [go_sem, hlt, hget, hpu, hinc, Int.reduceLE, ↓reduceIte, reduceCtorEq, Nat.reduceEqDiff, Nat.reduceLeDiff, Nat.reduceAdd, Nat.reduceMul, Nat.reduceSub, Nat.reduceLT]; repeat' (first | exact Ok.out | with_reducible refine And.intro ?_ ?_))
  rintro ⟨rest, k⟩ ⟨h1, h2⟩ IH
  dsimp only at h1 h2
  cases rest with
  | nil =>
    have hlt := drop_nil h1
    simp only [runL, Nat.add_zero] at h2
    rw [← h2] at hQ
    repeat' (first
 | simp only [go_sem, hlt, hget, hpu, hinc, Int.reduceLE, ↓reduceIte, reduceCtorEq, Nat.reduceEqDiff, Nat.reduceLeDiff, Nat.reduceAdd, Nat.reduceMul, Nat.reduceSub, Nat.reduceLT]
 | (with_reducible first | refine CB_ofT (by assumption) fun hc => ?_ | refine CB_ofF (by assumption) fun hc => ?_ | refine CB_split (fun hc => ?_) fun hc => ?_) <;> (try simp only [hc, bs, ↓reduceIte] at h) <;> (try simp only [hc])
 | ((with_reducible first | refine leafR hQ ?_ | refine leafN hQ ?_); (try cases h); simp only [resL, oneD, Option.some.injEq, exists_eq_left', go_sem, hlt, hget, hpu, hinc, Int.reduceLE, ↓reduceIte, reduceCtorEq, Nat.reduceEqDiff, Nat.reduceLeDiff, Nat.reduceAdd, Nat.reduceMul, Nat.reduceSub, Nat.reduceLT]; repeat' (first | exact Ok.out | with_reducible refine And.intro ?_ ?_ | (simp; done)))
 | (cases h; replace h := hr; clear hr; (try simp only [bs, ↓reduceIte] at h))
 | (cases h; done))
  | cons c rest =>
    obtain ⟨hget, g2, hlt, g4⟩ := drop_cons h1
    have hpu : k < 4611686018427387904 := by omega
    cases hb : (isL c || isD c)
    · simp only [runL, hb, Bool.false_eq_true, ↓reduceIte, Nat.add_zero] at h2
      rw [← h2] at hQ
      simp only [Bool.or_eq_false_iff] at hb
      repeat' (first
 | simp only [go_sem, hlt, hget, hpu, hinc, Int.reduceLE, ↓reduceIte, reduceCtorEq, Nat.reduceEqDiff, Nat.reduceLeDiff, Nat.reduceAdd, Nat.reduceMul, Nat.reduceSub, Nat.reduceLT, hb.1, hb.2]
 | (with_reducible refine CU (letter_s _ _) ?_)
 | (with_reducible refine CU (digit_s _ _) ?_)
 | (with_reducible first | refine CB_ofT (by assumption) fun hc => ?_ | refine CB_ofF (by assumption) fun hc => ?_ | refine CB_split (fun hc => ?_) fun hc => ?_) <;> (try simp only [hc, bs, ↓reduceIte] at h) <;> (try simp only [hc])
 | ((with_reducible first | refine leafR hQ ?_ | refine leafN hQ ?_); (try cases h); simp only [resL, oneD, Option.some.injEq, exists_eq_left', go_sem, hlt, hget, hpu, hinc, Int.reduceLE, ↓reduceIte, reduceCtorEq, Nat.reduceEqDiff, Nat.reduceLeDiff, Nat.reduceAdd, Nat.reduceMul, Nat.reduceSub, Nat.reduceLT, hb.1, hb.2]; repeat' (first | exact Ok.out | with_reducible refine And.intro ?_ ?_ | (simp; done)))
 | (cases h; replace h := hr; clear hr; (try simp only [bs, ↓reduceIte] at h))
 | (cases h; done))
    · simp only [runL, hb, ↓reduceIte] at h2
      cases hb1 : isL c
      · rw [hb1, Bool.false_or] at hb
        repeat' (first
 | simp only [go_sem, hlt, hget, hpu, hinc, Int.reduceLE, ↓reduceIte, reduceCtorEq, Nat.reduceEqDiff, Nat.reduceLeDiff, Nat.reduceAdd, Nat.reduceMul, Nat.reduceSub, Nat.reduceLT, hb, hb1]
 | (with_reducible refine CU (letter_s _ _) ?_)
 | (with_reducible refine CU (digit_s _ _) ?_)
 | (with_reducible first | refine CB_ofT (by assumption) fun hc => ?_ | refine CB_ofF (by assumption) fun hc => ?_ | refine CB_split (fun hc => ?_) fun hc => ?_) <;> (try simp only [hc, bs, ↓reduceIte] at h) <;> (try simp only [hc])
 | ((with_reducible first | refine leafR hQ ?_ | refine leafN hQ ?_); (try cases h); simp only [resL, oneD, Option.some.injEq, exists_eq_left', go_sem, hlt, hget, hpu, hinc, Int.reduceLE, ↓reduceIte, reduceCtorEq, Nat.reduceEqDiff, Nat.reduceLeDiff, Nat.reduceAdd, Nat.reduceMul, Nat.reduceSub, Nat.reduceLT, hb, hb1]; repeat' (first | exact Ok.out | with_reducible refine And.intro ?_ ?_ | (simp; done)))
 | (cases h; replace h := hr; clear hr; (try simp only [bs, ↓reduceIte] at h))
 | (cases h; done))
        refine SemL.re _ _ 0 0 (by rw [hB]; exact Nat.le_of_ble_eq_true rfl) (by rw [hB]; exact Nat.le_of_ble_eq_true rfl) ?_ ?_ (IH (rest, k + 1) ⟨g2, by dsimp only; omega⟩ (Nat.lt_succ_self _))
        · (simp only [go_sem, hlt, hget, hpu, hinc, Int.reduceLE, ↓reduceIte, reduceCtorEq, Nat.reduceEqDiff, Nat.reduceLeDiff, Nat.reduceAdd, Nat.reduceMul, Nat.reduceSub, Nat.reduceLT]; repeat' (first | exact Ok.out | with_reducible refine And.intro ?_ ?_))
        · (simp only [go_sem, hlt, hget, hpu, hinc, Int.reduceLE, ↓reduceIte, reduceCtorEq, Nat.reduceEqDiff, Nat.reduceLeDiff, Nat.reduceAdd, Nat.reduceMul, Nat.reduceSub, Nat.reduceLT]; repeat' (first | exact Ok.out | with_reducible refine And.intro ?_ ?_))
      · repeat' (first
 | simp only [go_sem, hlt, hget, hpu, hinc, Int.reduceLE, ↓reduceIte, reduceCtorEq, Nat.reduceEqDiff, Nat.reduceLeDiff, Nat.reduceAdd, Nat.reduceMul, Nat.reduceSub, Nat.reduceLT, hb1]
 | (with_reducible refine CU (letter_s _ _) ?_)
 | (with_reducible refine CU (digit_s _ _) ?_)
 | (with_reducible first | refine CB_ofT (by assumption) fun hc => ?_ | refine CB_ofF (by assumption) fun hc => ?_ | refine CB_split (fun hc => ?_) fun hc => ?_) <;> (try simp only [hc, bs, ↓reduceIte] at h) <;> (try simp only [hc])
 | ((with_reducible first | refine leafR hQ ?_ | refine leafN hQ ?_); (try cases h); simp only [resL, oneD, Option.some.injEq, exists_eq_left', go_sem, hlt, hget, hpu, hinc, Int.reduceLE, ↓reduceIte, reduceCtorEq, Nat.reduceEqDiff, Nat.reduceLeDiff, Nat.reduceAdd, Nat.reduceMul, Nat.reduceSub, Nat.reduceLT, hb1]; repeat' (first | exact Ok.out | with_reducible refine And.intro ?_ ?_ | (simp; done)))
 | (cases h; replace h := hr; clear hr; (try simp only [bs, ↓reduceIte] at h))
 | (cases h; done))
        refine SemL.re _ _ 0 0 (by rw [hB]; exact Nat.le_of_ble_eq_true rfl) (by rw [hB]; exact Nat.le_of_ble_eq_true rfl) ?_ ?_ (IH (rest, k + 1) ⟨g2, by dsimp only; omega⟩ (Nat.lt_succ_self _))
        · (simp only [go_sem, hlt, hget, hpu, hinc, Int.reduceLE, ↓reduceIte, reduceCtorEq, Nat.reduceEqDiff, Nat.reduceLeDiff, Nat.reduceAdd, Nat.reduceMul, Nat.reduceSub, Nat.reduceLT]; repeat' (first | exact Ok.out | with_reducible refine And.intro ?_ ?_))
        · (simp only [go_sem, hlt, hget, hpu, hinc, Int.reduceLE, ↓reduceIte, reduceCtorEq, Nat.reduceEqDiff, Nat.reduceLeDiff, Nat.reduceAdd, Nat.reduceMul, Nat.reduceSub, Nat.reduceLT]; repeat' (first | exact Ok.out | with_reducible refine And.intro ?_ ?_))

theorem slice_at (text : Str) (a b : Nat) : (text.take (a + b)).drop a = (text.drop a).take b := by rw [List.drop_take]; congr 1; omega

set_option maxRecDepth 20000 in
theorem sign_s {text : Str} {pos : Nat} {c : UInt8} {r : Str} (hd : text.drop pos = c :: r) (hl : text.length < 4611686018427387904) (s : St) :
    Fun Tryd.prog n_lex_sign [.str text, .int .i64 (pos : Int)] s (.int .i64 ((signL (c :: r) : Nat) : Int)) s := by
  refine Fun.pure ?_ rfl rfl s
  obtain ⟨hget, g2, g3, g4⟩ := drop_cons hd
  have hpu : pos < 4611686018427387904 := by omega
  have hinc : 0 < 1 := Nat.zero_lt_one
  generalize h : signL (c :: r) = k
  unfold S0
  cases r with
  | nil =>
    have hlt : decide (((pos + 1 : Nat) : Int) < (text.length : Int)) = false := drop_nil g2
    simp only [signL, sign1] at h
    refine Fun.go has_lex_sign rfl fun B Q hB hQ => ?_
    repeat' (first
 | simp only [go_sem, hlt, hget, hpu, hinc, Int.reduceLE, ↓reduceIte, reduceCtorEq, Nat.reduceEqDiff, Nat.reduceLeDiff, Nat.reduceAdd, Nat.reduceMul, Nat.reduceSub, Nat.reduceLT]
 | (with_reducible first | refine CB_ofT (by assumption) fun hc => ?_ | refine CB_ofF (by assumption) fun hc => ?_ | refine CB_split (fun hc => ?_) fun hc => ?_) <;> (try simp only [hc, bs, ↓reduceIte] at h) <;> (try simp only [hc])
 | ((with_reducible first | refine leafR hQ ?_ | refine leafN hQ ?_); (try cases h); simp only [resL, oneD, Option.some.injEq, exists_eq_left', go_sem, hlt, hget, hpu, hinc, Int.reduceLE, ↓reduceIte, reduceCtorEq, Nat.reduceEqDiff, Nat.reduceLeDiff, Nat.reduceAdd, Nat.reduceMul, Nat.reduceSub, Nat.reduceLT]; repeat' (first | exact Ok.out | with_reducible refine And.intro ?_ ?_ | (simp; done)))
 | (cases h; replace h := hr; clear hr; (try simp only [bs, ↓reduceIte] at h))
 | (cases h; done))
  | cons d r =>
    obtain ⟨_, _, hlt, _⟩ := drop_cons g2
    have e1 : (text.take (pos + 2)).drop pos = [c, d] := by rw [slice_at, hd]; rfl
    have e2 : (0 : Int) ≤ (pos : Int) ∧ (pos : Int) ≤ ((pos + 2 : Nat) : Int) ∧ ((pos + 2 : Nat) : Int) ≤ (text.length : Int) := by omega
    simp only [signL, sign1, sign2] at h
    refine Fun.go has_lex_sign rfl fun B Q hB hQ => ?_
    repeat' (first
 | simp only [go_sem, hlt, hget, hpu, hinc, Int.reduceLE, ↓reduceIte, reduceCtorEq, Nat.reduceEqDiff, Nat.reduceLeDiff, Nat.reduceAdd, Nat.reduceMul, Nat.reduceSub, Nat.reduceLT, e1, e2]
 | (with_reducible first | refine CB_ofT (by assumption) fun hc => ?_ | refine CB_ofF (by assumption) fun hc => ?_ | refine CB_split (fun hc => ?_) fun hc => ?_) <;> (try simp only [hc, bs, ↓reduceIte] at h) <;> (try simp only [hc])
 | ((with_reducible first | refine leafR hQ ?_ | refine leafN hQ ?_); (try cases h); simp only [resL, oneD, Option.some.injEq, exists_eq_left', go_sem, hlt, hget, hpu, hinc, Int.reduceLE, ↓reduceIte, reduceCtorEq, Nat.reduceEqDiff, Nat.reduceLeDiff, Nat.reduceAdd, Nat.reduceMul, Nat.reduceSub, Nat.reduceLT, e1, e2]; repeat' (first | exact Ok.out | with_reducible refine And.intro ?_ ?_ | (simp; done)))
 | (cases h; replace h := hr; clear hr; (try simp only [bs, ↓reduceIte] at h))
 | (cases h; done))

theorem isD_range {c : UInt8} (h : isD c = true) : 48 ≤ (c.toNat : Int) ∧ (c.toNat : Int) ≤ 57 := by
  simp only [isD, Bool.and_eq_true, decide_eq_true_eq] at h
  omega

/-- What a text of digits is worth. -/
def worthP (s : Str) : Int × Bool := match worth 0 s with | some n => (n, true) | none => (0, false)

theorem number_s {text : Str} (hd : ∀ c ∈ text, isD c = true) (hl : text.length < 4611686018427387904) (s : St) :
    Fun Tryd.prog n_lex_number [.str text] s (.tuple [.int .i64 (worthP text).1, .bool (worthP text).2]) s := by
  refine Fun.pure ?_ rfl rfl s
  generalize hw : worthP text = p
  unfold S0
  refine Fun.go has_lex_number rfl fun B Q hB hQ => ?_
  have hlt : 0 < 1 := Nat.zero_lt_one
  have hget : 0 < 1 := Nat.zero_lt_one
  have hpu : 0 < 1 := Nat.zero_lt_one
  have hinc : 0 < 1 := Nat.zero_lt_one
  repeat' (first
 | simp only [go_sem, hlt, hget, hpu, hinc, Int.reduceLE, ↓reduceIte, reduceCtorEq, Nat.reduceEqDiff, Nat.reduceLeDiff, Nat.reduceAdd, Nat.reduceMul, Nat.reduceSub, Nat.reduceLT]
 | (with_reducible first | refine CB_ofT (by assumption) fun hc => ?_ | refine CB_ofF (by assumption) fun hc => ?_ | refine CB_split (fun hc => ?_) fun hc => ?_) <;> (try simp only [hc, bs, ↓reduceIte] at h) <;> (try simp only [hc])
 | ((with_reducible first | refine leafR hQ ?_ | refine leafN hQ ?_); (try cases h); simp only [resL, oneD, Option.some.injEq, exists_eq_left', go_sem, hlt, hget, hpu, hinc, Int.reduceLE, ↓reduceIte, reduceCtorEq, Nat.reduceEqDiff, Nat.reduceLeDiff, Nat.reduceAdd, Nat.reduceMul, Nat.reduceSub, Nat.reduceLT]; repeat' (first | exact Ok.out | with_reducible refine And.intro ?_ ?_ | (simp; done)))
 | (cases h; replace h := hr; clear hr; (try simp only [bs, ↓reduceIte] at h))
 | (cases h; done))
  refine SemL.re _ _ 0 0 (by rw [hB]; exact Nat.le_of_ble_eq_true rfl) (by rw [hB]; exact Nat.le_of_ble_eq_true rfl) ?_ ?_ (SemL.ind (ι := Str × Nat × Int) (fun i => text.drop i.2.1 = i.1 ∧ 0 ≤ i.2.2 ∧ i.2.2 ≤ 9223372036854775807 ∧ (match worth i.2.2 i.1 with | some n => (n, true) | none => (0, false)) = p) (fun i => i.1.length)
    (fun i => [(0, .str text), (4, .int .i64 i.2.2), (5, .int .i64 (i.2.1 : Int))]) (fun i => ⟨[], []⟩) ?_ (text, 0, 0) ⟨rfl, Int.le_refl 0, by dsimp only; omega, hw⟩)
  · (simp only [go_sem, hlt, hget, hpu, hinc, Int.reduceLE, ↓reduceIte, reduceCtorEq, Nat.reduceEqDiff, Nat.reduceLeDiff, Nat.reduceAdd, Nat.reduceMul, Nat.reduceSub, Nat.reduceLT]; repeat' (first | exact Ok.out | with_reducible refine And.intro ?_ ?_))
  · (simp only [go_sem, hlt, hget, hpu, hinc, Int.reduceLE, ↓reduceIte, reduceCtorEq, Nat.reduceEqDiff, Nat.reduceLeDiff, Nat.reduceAdd, Nat.reduceMul, Nat.reduceSub, Nat.reduceLT]; repeat' (first | exact Ok.out | with_reducible refine And.intro ?_ ?_))
  rintro ⟨rest, k, n⟩ ⟨h1, h2, h3, h⟩ IH
  dsimp only at h1 h2 h3 h
  cases rest with
  | nil =>
    have hlt := drop_nil h1
    simp only [worth] at h
    repeat' (first
 | simp only [go_sem, hlt, hget, hpu, hinc, Int.reduceLE, ↓reduceIte, reduceCtorEq, Nat.reduceEqDiff, Nat.reduceLeDiff, Nat.reduceAdd, Nat.reduceMul, Nat.reduceSub, Nat.reduceLT]
 | (with_reducible first | refine CB_ofT (by assumption) fun hc => ?_ | refine CB_ofF (by assumption) fun hc => ?_ | refine CB_split (fun hc => ?_) fun hc => ?_) <;> (try simp only [hc, bs, ↓reduceIte] at h) <;> (try simp only [hc])
 | ((with_reducible first | refine leafR hQ ?_ | refine leafN hQ ?_); (try cases h); simp only [resL, oneD, Option.some.injEq, exists_eq_left', go_sem, hlt, hget, hpu, hinc, Int.reduceLE, ↓reduceIte, reduceCtorEq, Nat.reduceEqDiff, Nat.reduceLeDiff, Nat.reduceAdd, Nat.reduceMul, Nat.reduceSub, Nat.reduceLT]; repeat' (first | exact Ok.out | with_reducible refine And.intro ?_ ?_ | (simp; done)))
 | (cases h; replace h := hr; clear hr; (try simp only [bs, ↓reduceIte] at h))
 | (cases h; done))
  | cons c rest =>
    obtain ⟨hget, g2, hlt, g4⟩ := drop_cons h1
    have hpu : k < 4611686018427387904 := by omega
    have hc := isD_range (hd c (List.mem_of_getElem? hget))
    have w1 : IntKind.wrap .u8 ((c.toNat : Int) - 48) = (c.toNat : Int) - 48 := by rw [IntKind.wrap_u8]; omega
    have w2 : IntKind.wrap .i64 ((c.toNat : Int) - 48) = (c.toNat : Int) - 48 := wrap_ok (by omega) (by omega)
    have w3 : IntKind.wrap .i64 (9223372036854775807 - ((c.toNat : Int) - 48)) = 9223372036854775807 - ((c.toNat : Int) - 48) := wrap_ok (by omega) (by omega)
    have w4 : IntKind.wrap .i64 ((9223372036854775807 - ((c.toNat : Int) - 48)).tdiv 10) = (9223372036854775807 - ((c.toNat : Int) - 48)) / 10 := by
      rw [Int.tdiv_eq_ediv_of_nonneg (by omega)]; exact wrap_ok (by omega) (by omega)
    have t10 : ((10 : Int) = 0) = False := by simp
    simp only [worth] at h
    by_cases hn : n > (9223372036854775807 - ((c.toNat : Int) - 48)) / 10
    · have hn' : decide (n > (9223372036854775807 - ((c.toNat : Int) - 48)) / 10) = true := by simpa using hn
      rw [if_pos hn] at h
      repeat' (first
 | simp only [go_sem, hlt, hget, hpu, hinc, Int.reduceLE, ↓reduceIte, reduceCtorEq, Nat.reduceEqDiff, Nat.reduceLeDiff, Nat.reduceAdd, Nat.reduceMul, Nat.reduceSub, Nat.reduceLT, w1, w2, w3, w4, t10, hn']
 | (with_reducible first | refine CB_ofT (by assumption) fun hc => ?_ | refine CB_ofF (by assumption) fun hc => ?_ | refine CB_split (fun hc => ?_) fun hc => ?_) <;> (try simp only [hc, bs, ↓reduceIte] at h) <;> (try simp only [hc])
 | ((with_reducible first | refine leafR hQ ?_ | refine leafN hQ ?_); (try cases h); simp only [resL, oneD, Option.some.injEq, exists_eq_left', go_sem, hlt, hget, hpu, hinc, Int.reduceLE, ↓reduceIte, reduceCtorEq, Nat.reduceEqDiff, Nat.reduceLeDiff, Nat.reduceAdd, Nat.reduceMul, Nat.reduceSub, Nat.reduceLT, w1, w2, w3, w4, t10, hn']; repeat' (first | exact Ok.out | with_reducible refine And.intro ?_ ?_ | (simp; done)))
 | (cases h; replace h := hr; clear hr; (try simp only [bs, ↓reduceIte] at h))
 | (cases h; done))
    · have hn' : decide (n > (9223372036854775807 - ((c.toNat : Int) - 48)) / 10) = false := by simpa using hn
      rw [if_neg hn] at h
      have w5 : IntKind.wrap .i64 (n * 10) = n * 10 := wrap_ok (by omega) (by omega)
      have w6 : IntKind.wrap .i64 (n * 10 + ((c.toNat : Int) - 48)) = n * 10 + ((c.toNat : Int) - 48) := wrap_ok (by omega) (by omega)
      repeat' (first
 | simp only [go_sem, hlt, hget, hpu, hinc, Int.reduceLE, ↓reduceIte, reduceCtorEq, Nat.reduceEqDiff, Nat.reduceLeDiff, Nat.reduceAdd, Nat.reduceMul, Nat.reduceSub, Nat.reduceLT, w1, w2, w3, w4, t10, hn', w5, w6]
 | (with_reducible first | refine CB_ofT (by assumption) fun hc => ?_ | refine CB_ofF (by assumption) fun hc => ?_ | refine CB_split (fun hc => ?_) fun hc => ?_) <;> (try simp only [hc, bs, ↓reduceIte] at h) <;> (try simp only [hc])
 | ((with_reducible first | refine leafR hQ ?_ | refine leafN hQ ?_); (try cases h); simp only [resL, oneD, Option.some.injEq, exists_eq_left', go_sem, hlt, hget, hpu, hinc, Int.reduceLE, ↓reduceIte, reduceCtorEq, Nat.reduceEqDiff, Nat.reduceLeDiff, Nat.reduceAdd, Nat.reduceMul, Nat.reduceSub, Nat.reduceLT, w1, w2, w3, w4, t10, hn', w5, w6]; repeat' (first | exact Ok.out | with_reducible refine And.intro ?_ ?_ | (simp; done)))
 | (cases h; replace h := hr; clear hr; (try simp only [bs, ↓reduceIte] at h))
 | (cases h; done))
      refine SemL.re _ _ 0 0 (by rw [hB]; exact Nat.le_of_ble_eq_true rfl) (by rw [hB]; exact Nat.le_of_ble_eq_true rfl) ?_ ?_ (IH (rest, k + 1, n * 10 + ((c.toNat : Int) - 48)) ⟨g2, by dsimp only; omega, by dsimp only; omega, h⟩ (Nat.lt_succ_self _))
      · (simp only [go_sem, hlt, hget, hpu, hinc, Int.reduceLE, ↓reduceIte, reduceCtorEq, Nat.reduceEqDiff, Nat.reduceLeDiff, Nat.reduceAdd, Nat.reduceMul, Nat.reduceSub, Nat.reduceLT]; repeat' (first | exact Ok.out | with_reducible refine And.intro ?_ ?_))
      · (simp only [go_sem, hlt, hget, hpu, hinc, Int.reduceLE, ↓reduceIte, reduceCtorEq, Nat.reduceEqDiff, Nat.reduceLeDiff, Nat.reduceAdd, Nat.reduceMul, Nat.reduceSub, Nat.reduceLT]; repeat' (first | exact Ok.out | with_reducible refine And.intro ?_ ?_))

end Go.Abs

/-! Lex2 -/

namespace Go.Abs

set_option maxRecDepth 8000
set_option linter.unusedSimpArgs false
set_option linter.unusedVariables false
open Go.Proofs

theorem runL_pos {c : UInt8} {r : Str} (h : isL c = true) : 0 < runL (c :: r) := by simp [runL, h]
theorem runL_len : ∀ s : Str, runL s ≤ s.length
  | [] => Nat.le_refl _
  | c :: r => by simp only [runL]; split <;> simp only [List.length_cons] <;> have := runL_len r <;> omega
theorem runD_len : ∀ s : Str, runD s ≤ s.length
  | [] => Nat.le_refl _
  | c :: r => by simp only [runD]; split <;> simp only [List.length_cons] <;> have := runD_len r <;> omega
theorem lineL_len : ∀ s : Str, lineL s ≤ s.length
  | [] => Nat.le_refl _
  | c :: r => by simp only [lineL]; split <;> simp only [List.length_cons] <;> have := lineL_len r <;> omega
theorem signL_len : ∀ s : Str, signL s ≤ s.length
  | [] => Nat.le_refl _
  | [c] => by simp only [signL]; split <;> simp
  | c :: d :: r => by simp only [signL]; (repeat' split) <;> simp
theorem runD_all : ∀ (s : Str), ∀ c ∈ s.take (runD s), isD c = true
  | [], c, h => by simp [runD] at h
  | d :: r, c, h => by
    simp only [runD] at h
    split at h
    · rw [List.take_succ_cons] at h
      rcases List.mem_cons.1 h with rfl | h
      · assumption
      · exact runD_all r c h
    · simp at h

def encF (f : Int × Int) : List D := [.int .i64 f.1, .int .i64 f.2]

/-- At the label ahead of the next token. -/
def lexTM (text : Str) (out : List Tok) (pos : Nat) : Tm := [(0, .str text), (3, .ptr 0 0), (4, .slice (.tok 0) 4 (out.map encTok)), (5, .ptr 1 0), (6, .int .i64 (pos : Int))]
def lexST (out : List Tok) : St := ⟨[[.int .i64 0, .int .i64 0], [.junk, .junk, .junk, .junk]], [some out.length]⟩

theorem lineL_pos {c : UInt8} {r : Str} (h : ((c.toNat : Int) == 35) = true) : 0 < lineL (c :: r) := by
  have : ((c.toNat : Int) != 10) = true := by simp only [beq_iff_eq] at h; simp [h]
  simp [lineL, this]

/-- On to the next token. -/
def LexGo (text : Str) (B : Base) (Q : Exit → Tm → St → Prop) (p : List Tok × Int × Int) (N : Nat) : Prop :=
  ∀ (n pos : Nat) (rest : Str) (out : List Tok), text.drop pos = rest → lexF n pos rest out = p → rest.length < n → out.length ≤ 2000 → pos ≤ text.length → n < N →
    SemS Tryd.prog B 152 QKS (.seq .skip QKN) Q (lexTM text out pos) (lexST out)

theorem LexGo.to {text : Str} {B : Base} {Q : Exit → Tm → St → Prop} {p : List Tok × Int × Int} {N : Nat} (hB : B.s = S0) (IH : LexGo text B Q p N) {n pos : Nat} {rest : Str} {out : List Tok} {tm : Tm} {s : St}
    (h1 : text.drop pos = rest) (h : lexF n pos rest out = p) (h2 : rest.length < n) (h3 : out.length ≤ 2000) (h4 : pos ≤ text.length) (h5 : n < N)
    (ht : TmW tm 2 1 (lexTM text out pos)) (ho : WkR (s.cut 2 1).objs (lexST out).objs) (hk : (s.cut 2 1).toks = (lexST out).toks) :
    jumpA Tryd.prog B 152 QKS Q (.goto 0) tm s := by
  refine jumpA_to (l := 0) (r := .seq .skip QKN) rfl (SemS.re _ _ 2 1 (by rw [hB]; exact Nat.le_of_ble_eq_true rfl) (by rw [hB]; exact Nat.le_of_ble_eq_true rfl) ht ho ?_)
  have := IH n pos rest out h1 h h2 h3 h4 h5
  rw [hk]
  exact this

attribute [go_sem] lexTM lexST encF
theorem lex_nil {text : Str} (hl : text.length ≤ 100000) {B : Base} {Q : Exit → Tm → St → Prop} {p : List Tok × Int × Int} (hB : B.s = S0)
    (hQ : retF 0 0 [(2, none), (3, some (true, 2))] (.tuple [.slice .shared 4 (p.1.map encTok), .agg (encF p.2)]) ⟨[], []⟩ = Q)
    {n pos : Nat} {out : List Tok} (ho : out.length ≤ 2000) (hp : pos ≤ text.length) (IH : LexGo text B Q p (n + 1))
    (h1 : text.drop pos = []) (h : lexF (n + 1) pos [] out = p) : wpC Tryd.prog B 152 QKN (jumpA Tryd.prog B 152 QKS Q) (lexTM text out pos) (lexST out) := by
  have hlt : 0 < 1 := Nat.zero_lt_one
  have hget : 0 < 1 := Nat.zero_lt_one
  have hpu : 0 < 1 := Nat.zero_lt_one
  have hinc : 0 < 1 := Nat.zero_lt_one
  have hroom : (out.length + 1) * 41 ≤ maxStr := by simp only [maxStr]; omega
  have hge : decide ((pos : Int) ≥ (text.length : Int)) = true := by have := List.drop_eq_nil_iff.1 h1; simp; omega
  have : pos = text.length := by have := List.drop_eq_nil_iff.1 h1; omega
  subst this
  simp only [lexF] at h
  repeat' (first
 | simp only [go_sem, hlt, hget, hpu, hinc, Int.reduceLE, ↓reduceIte, reduceCtorEq, Nat.reduceEqDiff, Nat.reduceLeDiff, Nat.reduceAdd, Nat.reduceMul, Nat.reduceSub, Nat.reduceLT, hge, hroom]
 | (with_reducible first | refine CB_ofT (by assumption) fun hc => ?_ | refine CB_ofF (by assumption) fun hc => ?_ | refine CB_split (fun hc => ?_) fun hc => ?_) <;> (try simp only [hc, bs, ↓reduceIte] at h) <;> (try simp only [hc])
 | ((with_reducible first | refine leafR hQ ?_ | refine leafN hQ ?_); (try cases h); simp only [resL, oneD, Option.some.injEq, exists_eq_left', go_sem, hlt, hget, hpu, hinc, Int.reduceLE, ↓reduceIte, reduceCtorEq, Nat.reduceEqDiff, Nat.reduceLeDiff, Nat.reduceAdd, Nat.reduceMul, Nat.reduceSub, Nat.reduceLT, hge, hroom]; repeat' (first | exact Ok.out | with_reducible refine And.intro ?_ ?_ | (simp; done)))
 | (cases h; replace h := hr; clear hr; (try simp only [bs, ↓reduceIte] at h))
 | (cases h; done))

theorem lex_blank {text : Str} (hl : text.length ≤ 100000) {B : Base} {Q : Exit → Tm → St → Prop} {p : List Tok × Int × Int} (hB : B.s = S0)
    (hQ : retF 0 0 [(2, none), (3, some (true, 2))] (.tuple [.slice .shared 4 (p.1.map encTok), .agg (encF p.2)]) ⟨[], []⟩ = Q)
    {n pos : Nat} {out : List Tok} (ho : out.length ≤ 2000) (hp : pos ≤ text.length) (IH : LexGo text B Q p (n + 1))
    {c : UInt8} {r : Str} (h1 : text.drop pos = c :: r) (hb : isB c = true) (hn : (c :: r).length < n + 1) (h : lexF (n + 1) pos (c :: r) out = p) :
    wpC Tryd.prog B 152 QKN (jumpA Tryd.prog B 152 QKS Q) (lexTM text out pos) (lexST out) := by
  have hpu : 0 < 1 := Nat.zero_lt_one
  have hinc : 0 < 1 := Nat.zero_lt_one
  obtain ⟨hget, g2, g3, g4⟩ := drop_cons h1
  have hlt : pos < 4611686018427387904 := by omega
  have hge : decide ((pos : Int) ≥ (text.length : Int)) = false := by simp; omega
  simp only [lexF, hb, ↓reduceIte] at h
  have hn' : r.length < n := by simp only [List.length_cons] at hn; omega
  have e : ∀ x y : Int, (x == y) = false → (x == y) = true → False := fun x y a b => by rw [a] at b; cases b
  simp only [isB] at hb
  repeat' (first
 | simp only [go_sem, hlt, hget, hpu, hinc, Int.reduceLE, ↓reduceIte, reduceCtorEq, Nat.reduceEqDiff, Nat.reduceLeDiff, Nat.reduceAdd, Nat.reduceMul, Nat.reduceSub, Nat.reduceLT, hge]
 | (refine IH.to hB g2 h hn' ho g4 (Nat.lt_succ_self _) ?_ ?_ ?_ <;> ((try simp only [go_sem, hlt, hget, hpu, hinc, Int.reduceLE, ↓reduceIte, reduceCtorEq, Nat.reduceEqDiff, Nat.reduceLeDiff, Nat.reduceAdd, Nat.reduceMul, Nat.reduceSub, Nat.reduceLT]); repeat' (first | exact Ok.out | with_reducible refine And.intro ?_ ?_ | omega | (simp; done))); done)
 | (with_reducible first | refine CB_ofT (by assumption) fun hc => ?_ | refine CB_ofF (by assumption) fun hc => ?_ | refine CB_split (fun hc => ?_) fun hc => ?_) <;> (try simp only [hc, bs, ↓reduceIte] at h) <;> (try simp only [hc])
 | ((with_reducible first | refine leafR hQ ?_ | refine leafN hQ ?_); (try cases h); simp only [resL, oneD, Option.some.injEq, exists_eq_left', go_sem, hlt, hget, hpu, hinc, Int.reduceLE, ↓reduceIte, reduceCtorEq, Nat.reduceEqDiff, Nat.reduceLeDiff, Nat.reduceAdd, Nat.reduceMul, Nat.reduceSub, Nat.reduceLT, hge]; repeat' (first | exact Ok.out | with_reducible refine And.intro ?_ ?_ | (simp; done)))
 | (cases h; replace h := hr; clear hr; (try simp only [bs, ↓reduceIte] at h))
 | (cases h; done))
  all_goals (exfalso; simp_all; done)

theorem lex_remark {text : Str} (hl : text.length ≤ 100000) {B : Base} {Q : Exit → Tm → St → Prop} {p : List Tok × Int × Int} (hB : B.s = S0)
    (hQ : retF 0 0 [(2, none), (3, some (true, 2))] (.tuple [.slice .shared 4 (p.1.map encTok), .agg (encF p.2)]) ⟨[], []⟩ = Q)
    {n pos : Nat} {out : List Tok} (ho : out.length ≤ 2000) (hp : pos ≤ text.length) (IH : LexGo text B Q p (n + 1))
    {c : UInt8} {r : Str} (h1 : text.drop pos = c :: r) (hb : isB c = false) (hc : ((c.toNat : Int) == 35) = true) (hn : (c :: r).length < n + 1) (h : lexF (n + 1) pos (c :: r) out = p) :
    wpC Tryd.prog B 152 QKN (jumpA Tryd.prog B 152 QKS Q) (lexTM text out pos) (lexST out) := by
  have hpu : 0 < 1 := Nat.zero_lt_one
  have hinc : 0 < 1 := Nat.zero_lt_one
  have hget0 := (drop_cons h1).1
  have hget := hget0
  have g4 := (drop_cons h1).2.2.2
  have hlt : pos < 4611686018427387904 := by omega
  have hge : decide ((pos : Int) ≥ (text.length : Int)) = false := by simp; omega
  simp only [lexF, hb, Bool.false_eq_true, ↓reduceIte, hc] at h
  simp only [isB, Bool.or_eq_false_iff] at hb
  have hk := lineL_pos (r := r) hc
  have hk2 := lineL_len (c :: r)
  have hk3 : (c :: r).length = text.length - pos := by rw [← h1, List.length_drop]
  generalize hL : lineL (c :: r) = L at h hk hk2
  repeat' (first
 | simp only [go_sem, hlt, hget, hpu, hinc, Int.reduceLE, ↓reduceIte, reduceCtorEq, Nat.reduceEqDiff, Nat.reduceLeDiff, Nat.reduceAdd, Nat.reduceMul, Nat.reduceSub, Nat.reduceLT, hge, hb.1.1.1, hb.1.1.2, hb.1.2, hb.2, hc]
 | (with_reducible refine jumpA_go (l := 1) (by with_unfolding_all rfl) ?_)
 | (with_reducible first | refine CB_ofT (by assumption) fun hc => ?_ | refine CB_ofF (by assumption) fun hc => ?_ | refine CB_split (fun hc => ?_) fun hc => ?_) <;> (try simp only [hc, bs, ↓reduceIte] at h) <;> (try simp only [hc])
 | ((with_reducible first | refine leafR hQ ?_ | refine leafN hQ ?_); (try cases h); simp only [resL, oneD, Option.some.injEq, exists_eq_left', go_sem, hlt, hget, hpu, hinc, Int.reduceLE, ↓reduceIte, reduceCtorEq, Nat.reduceEqDiff, Nat.reduceLeDiff, Nat.reduceAdd, Nat.reduceMul, Nat.reduceSub, Nat.reduceLT, hge, hb.1.1.1, hb.1.1.2, hb.1.2, hb.2, hc]; repeat' (first | exact Ok.out | with_reducible refine And.intro ?_ ?_ | (simp; done)))
 | (cases h; replace h := hr; clear hr; (try simp only [bs, ↓reduceIte] at h))
 | (cases h; done))
  refine SemL.re _ _ 2 1 (by rw [hB]; exact Nat.le_of_ble_eq_true rfl) (by rw [hB]; exact Nat.le_of_ble_eq_true rfl) ?_ ?_ (SemL.ind (ι := Str × Nat) (fun i => text.drop i.2 = i.1 ∧ i.2 + lineL i.1 = pos + L) (fun i => i.1.length)
    (fun i => lexTM text out i.2) (fun i => lexST out) ?_ (c :: r, pos) ⟨h1, by dsimp only; omega⟩)
  · (simp only [go_sem, hlt, hget, hpu, hinc, Int.reduceLE, ↓reduceIte, reduceCtorEq, Nat.reduceEqDiff, Nat.reduceLeDiff, Nat.reduceAdd, Nat.reduceMul, Nat.reduceSub, Nat.reduceLT]; repeat' (first | exact Ok.out | with_reducible refine And.intro ?_ ?_))
  · (simp only [go_sem, hlt, hget, hpu, hinc, Int.reduceLE, ↓reduceIte, reduceCtorEq, Nat.reduceEqDiff, Nat.reduceLeDiff, Nat.reduceAdd, Nat.reduceMul, Nat.reduceSub, Nat.reduceLT]; repeat' (first | exact Ok.out | with_reducible refine And.intro ?_ ?_))
  rintro ⟨rest, k⟩ ⟨j1, j2⟩ IHl
  dsimp only at j1 j2
  have fin : text.drop (pos + L) = (c :: r).drop L := by rw [← h1, List.drop_drop]
  have hlen : ((c :: r).drop L).length < n := by rw [List.length_drop]; omega
  cases rest with
  | nil =>
    have hge := drop_nil j1
    simp only [lineL, Nat.add_zero] at j2
    subst j2
    repeat' (first
 | simp only [go_sem, hlt, hget, hpu, hinc, Int.reduceLE, ↓reduceIte, reduceCtorEq, Nat.reduceEqDiff, Nat.reduceLeDiff, Nat.reduceAdd, Nat.reduceMul, Nat.reduceSub, Nat.reduceLT, hge]
 | (refine IH.to hB fin h hlen ho (by omega) (Nat.lt_succ_self _) ?_ ?_ ?_ <;> ((try simp only [go_sem, hlt, hget, hpu, hinc, Int.reduceLE, ↓reduceIte, reduceCtorEq, Nat.reduceEqDiff, Nat.reduceLeDiff, Nat.reduceAdd, Nat.reduceMul, Nat.reduceSub, Nat.reduceLT]); repeat' (first | exact Ok.out | with_reducible refine And.intro ?_ ?_ | omega | (simp; done))); done)
 | (with_reducible first | refine CB_ofT (by assumption) fun hc => ?_ | refine CB_ofF (by assumption) fun hc => ?_ | refine CB_split (fun hc => ?_) fun hc => ?_) <;> (try simp only [hc, bs, ↓reduceIte] at h) <;> (try simp only [hc])
 | ((with_reducible first | refine leafR hQ ?_ | refine leafN hQ ?_); (try cases h); simp only [resL, oneD, Option.some.injEq, exists_eq_left', go_sem, hlt, hget, hpu, hinc, Int.reduceLE, ↓reduceIte, reduceCtorEq, Nat.reduceEqDiff, Nat.reduceLeDiff, Nat.reduceAdd, Nat.reduceMul, Nat.reduceSub, Nat.reduceLT, hge]; repeat' (first | exact Ok.out | with_reducible refine And.intro ?_ ?_ | (simp; done)))
 | (cases h; replace h := hr; clear hr; (try simp only [bs, ↓reduceIte] at h))
 | (cases h; done))
  | cons d rest =>
    obtain ⟨hget, g2, hge, g5⟩ := drop_cons j1
    have hlt : k < 4611686018427387904 := by omega
    cases hd : ((d.toNat : Int) != 10)
    · simp only [lineL, hd, Bool.false_eq_true, ↓reduceIte, Nat.add_zero] at j2
      subst j2
      repeat' (first
 | simp only [go_sem, hlt, hget, hpu, hinc, Int.reduceLE, ↓reduceIte, reduceCtorEq, Nat.reduceEqDiff, Nat.reduceLeDiff, Nat.reduceAdd, Nat.reduceMul, Nat.reduceSub, Nat.reduceLT, hge, hd]
 | (refine IH.to hB fin h hlen ho (by omega) (Nat.lt_succ_self _) ?_ ?_ ?_ <;> ((try simp only [go_sem, hlt, hget, hpu, hinc, Int.reduceLE, ↓reduceIte, reduceCtorEq, Nat.reduceEqDiff, Nat.reduceLeDiff, Nat.reduceAdd, Nat.reduceMul, Nat.reduceSub, Nat.reduceLT]); repeat' (first | exact Ok.out | with_reducible refine And.intro ?_ ?_ | omega | (simp; done))); done)
 | (with_reducible first | refine CB_ofT (by assumption) fun hc => ?_ | refine CB_ofF (by assumption) fun hc => ?_ | refine CB_split (fun hc => ?_) fun hc => ?_) <;> (try simp only [hc, bs, ↓reduceIte] at h) <;> (try simp only [hc])
 | ((with_reducible first | refine leafR hQ ?_ | refine leafN hQ ?_); (try cases h); simp only [resL, oneD, Option.some.injEq, exists_eq_left', go_sem, hlt, hget, hpu, hinc, Int.reduceLE, ↓reduceIte, reduceCtorEq, Nat.reduceEqDiff, Nat.reduceLeDiff, Nat.reduceAdd, Nat.reduceMul, Nat.reduceSub, Nat.reduceLT, hge, hd]; repeat' (first | exact Ok.out | with_reducible refine And.intro ?_ ?_ | (simp; done)))
 | (cases h; replace h := hr; clear hr; (try simp only [bs, ↓reduceIte] at h))
 | (cases h; done))
    · simp only [lineL, hd, ↓reduceIte] at j2
      repeat' (first
 | simp only [go_sem, hlt, hget, hpu, hinc, Int.reduceLE, ↓reduceIte, reduceCtorEq, Nat.reduceEqDiff, Nat.reduceLeDiff, Nat.reduceAdd, Nat.reduceMul, Nat.reduceSub, Nat.reduceLT, hge, hd]
 | (with_reducible first | refine CB_ofT (by assumption) fun hc => ?_ | refine CB_ofF (by assumption) fun hc => ?_ | refine CB_split (fun hc => ?_) fun hc => ?_) <;> (try simp only [hc, bs, ↓reduceIte] at h) <;> (try simp only [hc])
 | ((with_reducible first | refine leafR hQ ?_ | refine leafN hQ ?_); (try cases h); simp only [resL, oneD, Option.some.injEq, exists_eq_left', go_sem, hlt, hget, hpu, hinc, Int.reduceLE, ↓reduceIte, reduceCtorEq, Nat.reduceEqDiff, Nat.reduceLeDiff, Nat.reduceAdd, Nat.reduceMul, Nat.reduceSub, Nat.reduceLT, hge, hd]; repeat' (first | exact Ok.out | with_reducible refine And.intro ?_ ?_ | (simp; done)))
 | (cases h; replace h := hr; clear hr; (try simp only [bs, ↓reduceIte] at h))
 | (cases h; done))
      refine SemL.re _ _ 2 1 (by rw [hB]; exact Nat.le_of_ble_eq_true rfl) (by rw [hB]; exact Nat.le_of_ble_eq_true rfl) ?_ ?_ (IHl (rest, k + 1) ⟨g2, by dsimp only; omega⟩ (Nat.lt_succ_self _))
      · (simp only [go_sem, hlt, hget, hpu, hinc, Int.reduceLE, ↓reduceIte, reduceCtorEq, Nat.reduceEqDiff, Nat.reduceLeDiff, Nat.reduceAdd, Nat.reduceMul, Nat.reduceSub, Nat.reduceLT]; repeat' (first | exact Ok.out | with_reducible refine And.intro ?_ ?_))
      · (simp only [go_sem, hlt, hget, hpu, hinc, Int.reduceLE, ↓reduceIte, reduceCtorEq, Nat.reduceEqDiff, Nat.reduceLeDiff, Nat.reduceAdd, Nat.reduceMul, Nat.reduceSub, Nat.reduceLT]; repeat' (first | exact Ok.out | with_reducible refine And.intro ?_ ?_))

theorem lex_sign {text : Str} (hl : text.length ≤ 100000) {B : Base} {Q : Exit → Tm → St → Prop} {p : List Tok × Int × Int} (hB : B.s = S0)
    (hQ : retF 0 0 [(2, none), (3, some (true, 2))] (.tuple [.slice .shared 4 (p.1.map encTok), .agg (encF p.2)]) ⟨[], []⟩ = Q)
    {n pos : Nat} {out : List Tok} (ho : out.length ≤ 2000) (hp : pos ≤ text.length) (IH : LexGo text B Q p (n + 1))
    {c : UInt8} {r : Str} (h1 : text.drop pos = c :: r) (hb : isB c = false) (hc : ((c.toNat : Int) == 35) = false) (hL : isL c = false) (hD : isD c = false) (hn : (c :: r).length < n + 1) (h : lexF (n + 1) pos (c :: r) out = p) :
    wpC Tryd.prog B 152 QKN (jumpA Tryd.prog B 152 QKS Q) (lexTM text out pos) (lexST out) := by
  have hpu : 0 < 1 := Nat.zero_lt_one
  have hinc : 0 < 1 := Nat.zero_lt_one
  have hget := (drop_cons h1).1
  have g4 := (drop_cons h1).2.2.2
  have hlt : pos < 4611686018427387904 := by omega
  have hge : decide ((pos : Int) ≥ (text.length : Int)) = false := by simp; omega
  have hroom : (out.length + 1) * 41 ≤ maxStr := by simp only [maxStr]; omega
  have hsign := fun s => sign_s h1 (by omega) s
  have hk2 := signL_len (c :: r)
  have hk3 : (c :: r).length = text.length - pos := by rw [← h1, List.length_drop]
  simp only [lexF, hb, Bool.false_eq_true, ↓reduceIte, hc, tokE, hL, hD] at h
  simp only [isB, Bool.or_eq_false_iff] at hb
  generalize hK : signL (c :: r) = k at h hsign hk2
  have e1 : IntKind.wrap .i64 ((pos : Int) + (k : Int)) = ((pos + k : Nat) : Int) := by rw [wrap_ok] <;> omega
  have e2 : (0 : Int) ≤ (pos : Int) ∧ (pos : Int) ≤ ((pos + k : Nat) : Int) ∧ ((pos + k : Nat) : Int) ≤ (text.length : Int) := by omega
  have e3 : (text.take (pos + k)).drop pos = (c :: r).take k := by rw [slice_at, h1]
  by_cases hz : k = 0
  · have hgt : decide (((pos + k : Nat) : Int) > (pos : Int)) = false := by simp; omega
    simp only [hz, ↓reduceIte] at h
    repeat' (first
 | simp only [go_sem, hlt, hget, hpu, hinc, Int.reduceLE, ↓reduceIte, reduceCtorEq, Nat.reduceEqDiff, Nat.reduceLeDiff, Nat.reduceAdd, Nat.reduceMul, Nat.reduceSub, Nat.reduceLT, hge, hb.1.1.1, hb.1.1.2, hb.1.2, hb.2, hc, hL, hD, e1, e2, e3, hgt]
 | (with_reducible refine CU (letter_s _ _) ?_)
 | (with_reducible refine CU (digit_s _ _) ?_)
 | (with_reducible refine CU (hsign _) ?_)
 | (with_reducible refine jumpA_go (l := 4) (by with_unfolding_all rfl) ?_)
 | (with_reducible refine jumpA_go (l := 5) (by with_unfolding_all rfl) ?_)
 | (with_reducible first | refine CB_ofT (by assumption) fun hc => ?_ | refine CB_ofF (by assumption) fun hc => ?_ | refine CB_split (fun hc => ?_) fun hc => ?_) <;> (try simp only [hc, bs, ↓reduceIte] at h) <;> (try simp only [hc])
 | ((with_reducible first | refine leafR hQ ?_ | refine leafN hQ ?_); (try cases h); simp only [resL, oneD, Option.some.injEq, exists_eq_left', go_sem, hlt, hget, hpu, hinc, Int.reduceLE, ↓reduceIte, reduceCtorEq, Nat.reduceEqDiff, Nat.reduceLeDiff, Nat.reduceAdd, Nat.reduceMul, Nat.reduceSub, Nat.reduceLT, hge, hb.1.1.1, hb.1.1.2, hb.1.2, hb.2, hc, hL, hD, e1, e2, e3, hgt]; repeat' (first | exact Ok.out | with_reducible refine And.intro ?_ ?_ | (simp; done)))
 | (cases h; replace h := hr; clear hr; (try simp only [bs, ↓reduceIte] at h))
 | (cases h; done))
  · have hgt : decide (((pos + k : Nat) : Int) > (pos : Int)) = true := by simp; omega
    have hlen : ((c :: r).take k).length = k := by rw [List.length_take]; omega
    have fin : text.drop (pos + k) = (c :: r).drop k := by rw [← h1, List.drop_drop]
    have hlen2 : ((c :: r).drop k).length < n := by rw [List.length_drop]; omega
    simp only [hz, ↓reduceIte, hlen] at h
    by_cases ho2 : out.length = 2000
    · have ho3 : ((out.length : Int) == 2000) = true := by simp [ho2]
      simp only [ho2, ↓reduceIte] at h
      repeat' (first
 | simp only [go_sem, hlt, hget, hpu, hinc, Int.reduceLE, ↓reduceIte, reduceCtorEq, Nat.reduceEqDiff, Nat.reduceLeDiff, Nat.reduceAdd, Nat.reduceMul, Nat.reduceSub, Nat.reduceLT, hge, hb.1.1.1, hb.1.1.2, hb.1.2, hb.2, hc, hL, hD, e1, e2, e3, hgt, ho3]
 | (with_reducible refine CU (letter_s _ _) ?_)
 | (with_reducible refine CU (digit_s _ _) ?_)
 | (with_reducible refine CU (hsign _) ?_)
 | (with_reducible refine jumpA_go (l := 4) (by with_unfolding_all rfl) ?_)
 | (with_reducible refine jumpA_go (l := 5) (by with_unfolding_all rfl) ?_)
 | (with_reducible first | refine CB_ofT (by assumption) fun hc => ?_ | refine CB_ofF (by assumption) fun hc => ?_ | refine CB_split (fun hc => ?_) fun hc => ?_) <;> (try simp only [hc, bs, ↓reduceIte] at h) <;> (try simp only [hc])
 | ((with_reducible first | refine leafR hQ ?_ | refine leafN hQ ?_); (try cases h); simp only [resL, oneD, Option.some.injEq, exists_eq_left', go_sem, hlt, hget, hpu, hinc, Int.reduceLE, ↓reduceIte, reduceCtorEq, Nat.reduceEqDiff, Nat.reduceLeDiff, Nat.reduceAdd, Nat.reduceMul, Nat.reduceSub, Nat.reduceLT, hge, hb.1.1.1, hb.1.1.2, hb.1.2, hb.2, hc, hL, hD, e1, e2, e3, hgt, ho3]; repeat' (first | exact Ok.out | with_reducible refine And.intro ?_ ?_ | (simp; done)))
 | (cases h; replace h := hr; clear hr; (try simp only [bs, ↓reduceIte] at h))
 | (cases h; done))
    · have ho3 : ((out.length : Int) == 2000) = false := by simp; omega
      have ho4 : ∀ t : Tok, (out ++ [t]).length ≤ 2000 := by intro t; simp; omega
      simp only [ho2, ↓reduceIte] at h
      repeat' (first
 | simp only [go_sem, hlt, hget, hpu, hinc, Int.reduceLE, ↓reduceIte, reduceCtorEq, Nat.reduceEqDiff, Nat.reduceLeDiff, Nat.reduceAdd, Nat.reduceMul, Nat.reduceSub, Nat.reduceLT, hge, hb.1.1.1, hb.1.1.2, hb.1.2, hb.2, hc, hL, hD, e1, e2, e3, hgt, ho3, hroom]
 | (with_reducible refine CU (letter_s _ _) ?_)
 | (with_reducible refine CU (digit_s _ _) ?_)
 | (with_reducible refine CU (hsign _) ?_)
 | (with_reducible refine jumpA_go (l := 4) (by with_unfolding_all rfl) ?_)
 | (with_reducible refine jumpA_go (l := 5) (by with_unfolding_all rfl) ?_)
 | (refine IH.to hB fin h hlen2 (ho4 _) (by omega) (Nat.lt_succ_self _) ?_ ?_ ?_ <;> ((try simp only [go_sem, hlt, hget, hpu, hinc, Int.reduceLE, ↓reduceIte, reduceCtorEq, Nat.reduceEqDiff, Nat.reduceLeDiff, Nat.reduceAdd, Nat.reduceMul, Nat.reduceSub, Nat.reduceLT]); repeat' (first | exact Ok.out | with_reducible refine And.intro ?_ ?_ | omega | (simp; done))); done)
 | (with_reducible first | refine CB_ofT (by assumption) fun hc => ?_ | refine CB_ofF (by assumption) fun hc => ?_ | refine CB_split (fun hc => ?_) fun hc => ?_) <;> (try simp only [hc, bs, ↓reduceIte] at h) <;> (try simp only [hc])
 | ((with_reducible first | refine leafR hQ ?_ | refine leafN hQ ?_); (try cases h); simp only [resL, oneD, Option.some.injEq, exists_eq_left', go_sem, hlt, hget, hpu, hinc, Int.reduceLE, ↓reduceIte, reduceCtorEq, Nat.reduceEqDiff, Nat.reduceLeDiff, Nat.reduceAdd, Nat.reduceMul, Nat.reduceSub, Nat.reduceLT, hge, hb.1.1.1, hb.1.1.2, hb.1.2, hb.2, hc, hL, hD, e1, e2, e3, hgt, ho3, hroom]; repeat' (first | exact Ok.out | with_reducible refine And.intro ?_ ?_ | (simp; done)))
 | (cases h; replace h := hr; clear hr; (try simp only [bs, ↓reduceIte] at h))
 | (cases h; done))

theorem lex_name {text : Str} (hl : text.length ≤ 100000) {B : Base} {Q : Exit → Tm → St → Prop} {p : List Tok × Int × Int} (hB : B.s = S0)
    (hQ : retF 0 0 [(2, none), (3, some (true, 2))] (.tuple [.slice .shared 4 (p.1.map encTok), .agg (encF p.2)]) ⟨[], []⟩ = Q)
    {n pos : Nat} {out : List Tok} (ho : out.length ≤ 2000) (hp : pos ≤ text.length) (IH : LexGo text B Q p (n + 1))
    {c : UInt8} {r : Str} (h1 : text.drop pos = c :: r) (hb : isB c = false) (hc : ((c.toNat : Int) == 35) = false) (hL : isL c = true) (hn : (c :: r).length < n + 1) (h : lexF (n + 1) pos (c :: r) out = p) :
    wpC Tryd.prog B 152 QKN (jumpA Tryd.prog B 152 QKS Q) (lexTM text out pos) (lexST out) := by
  have hpu : 0 < 1 := Nat.zero_lt_one
  have hinc : 0 < 1 := Nat.zero_lt_one
  have hget := (drop_cons h1).1
  have g4 := (drop_cons h1).2.2.2
  have hlt : pos < 4611686018427387904 := by omega
  have hge : decide ((pos : Int) ≥ (text.length : Int)) = false := by simp; omega
  have hroom : (out.length + 1) * 41 ≤ maxStr := by simp only [maxStr]; omega
  have hrun := fun s => run_s (text := text) (pos := pos) (by omega) s
  rw [h1] at hrun
  have hk2 := runL_len (c :: r)
  have hk1 := runL_pos (r := r) hL
  have hk3 : (c :: r).length = text.length - pos := by rw [← h1, List.length_drop]
  simp only [lexF, hb, Bool.false_eq_true, ↓reduceIte, hc, tokE, hL] at h
  simp only [isB, Bool.or_eq_false_iff] at hb
  generalize hK : runL (c :: r) = k at h hrun hk2 hk1
  have hlen : ((c :: r).take k).length = k := by rw [List.length_take]; omega
  simp only [hlen] at h
  have e1 : IntKind.wrap .i64 (((pos + k : Nat) : Int) - (pos : Int)) = (k : Int) := by rw [wrap_ok] <;> omega
  have e2 : (0 : Int) ≤ (pos : Int) ∧ (pos : Int) ≤ ((pos + k : Nat) : Int) ∧ ((pos + k : Nat) : Int) ≤ (text.length : Int) := by omega
  have e3 : (text.take (pos + k)).drop pos = (c :: r).take k := by rw [slice_at, h1]
  by_cases hz : k > 8
  · have hgt : decide ((k : Int) > 8) = true := by simp; omega
    simp only [hz, ↓reduceIte] at h
    cases hw : isWord ((c :: r).take k)
    · repeat' (first
 | simp only [go_sem, hlt, hget, hpu, hinc, Int.reduceLE, ↓reduceIte, reduceCtorEq, Nat.reduceEqDiff, Nat.reduceLeDiff, Nat.reduceAdd, Nat.reduceMul, Nat.reduceSub, Nat.reduceLT, hge, hb.1.1.1, hb.1.1.2, hb.1.2, hb.2, hc, hL, e1, e2, e3, hgt, hw]
 | (with_reducible refine CU (letter_s _ _) ?_)
 | (with_reducible refine CU (hrun _) ?_)
 | (with_reducible refine CU (word_s _ _) ?_)
 | (with_reducible refine jumpA_go (l := 2) (by with_unfolding_all rfl) ?_)
 | (with_reducible refine jumpA_go (l := 4) (by with_unfolding_all rfl) ?_)
 | (with_reducible refine jumpA_go (l := 5) (by with_unfolding_all rfl) ?_)
 | (with_reducible first | refine CB_ofT (by assumption) fun hc => ?_ | refine CB_ofF (by assumption) fun hc => ?_ | refine CB_split (fun hc => ?_) fun hc => ?_) <;> (try simp only [hc, bs, ↓reduceIte] at h) <;> (try simp only [hc])
 | ((with_reducible first | refine leafR hQ ?_ | refine leafN hQ ?_); (try cases h); simp only [resL, oneD, Option.some.injEq, exists_eq_left', go_sem, hlt, hget, hpu, hinc, Int.reduceLE, ↓reduceIte, reduceCtorEq, Nat.reduceEqDiff, Nat.reduceLeDiff, Nat.reduceAdd, Nat.reduceMul, Nat.reduceSub, Nat.reduceLT, hge, hb.1.1.1, hb.1.1.2, hb.1.2, hb.2, hc, hL, e1, e2, e3, hgt, hw]; repeat' (first | exact Ok.out | with_reducible refine And.intro ?_ ?_ | (simp; done)))
 | (cases h; replace h := hr; clear hr; (try simp only [bs, ↓reduceIte] at h))
 | (cases h; done))
    · repeat' (first
 | simp only [go_sem, hlt, hget, hpu, hinc, Int.reduceLE, ↓reduceIte, reduceCtorEq, Nat.reduceEqDiff, Nat.reduceLeDiff, Nat.reduceAdd, Nat.reduceMul, Nat.reduceSub, Nat.reduceLT, hge, hb.1.1.1, hb.1.1.2, hb.1.2, hb.2, hc, hL, e1, e2, e3, hgt, hw]
 | (with_reducible refine CU (letter_s _ _) ?_)
 | (with_reducible refine CU (hrun _) ?_)
 | (with_reducible refine CU (word_s _ _) ?_)
 | (with_reducible refine jumpA_go (l := 2) (by with_unfolding_all rfl) ?_)
 | (with_reducible refine jumpA_go (l := 4) (by with_unfolding_all rfl) ?_)
 | (with_reducible refine jumpA_go (l := 5) (by with_unfolding_all rfl) ?_)
 | (with_reducible first | refine CB_ofT (by assumption) fun hc => ?_ | refine CB_ofF (by assumption) fun hc => ?_ | refine CB_split (fun hc => ?_) fun hc => ?_) <;> (try simp only [hc, bs, ↓reduceIte] at h) <;> (try simp only [hc])
 | ((with_reducible first | refine leafR hQ ?_ | refine leafN hQ ?_); (try cases h); simp only [resL, oneD, Option.some.injEq, exists_eq_left', go_sem, hlt, hget, hpu, hinc, Int.reduceLE, ↓reduceIte, reduceCtorEq, Nat.reduceEqDiff, Nat.reduceLeDiff, Nat.reduceAdd, Nat.reduceMul, Nat.reduceSub, Nat.reduceLT, hge, hb.1.1.1, hb.1.1.2, hb.1.2, hb.2, hc, hL, e1, e2, e3, hgt, hw]; repeat' (first | exact Ok.out | with_reducible refine And.intro ?_ ?_ | (simp; done)))
 | (cases h; replace h := hr; clear hr; (try simp only [bs, ↓reduceIte] at h))
 | (cases h; done))
  · have hgt : decide ((k : Int) > 8) = false := by simp; omega
    have fin : text.drop (pos + k) = (c :: r).drop k := by rw [← h1, List.drop_drop]
    have hlen2 : ((c :: r).drop k).length < n := by rw [List.length_drop]; omega
    simp only [hz, ↓reduceIte, hlen] at h
    by_cases ho2 : out.length = 2000
    · have ho3 : ((out.length : Int) == 2000) = true := by simp [ho2]
      simp only [ho2, ↓reduceIte] at h
      cases hw : isWord ((c :: r).take k)
      · repeat' (first
 | simp only [go_sem, hlt, hget, hpu, hinc, Int.reduceLE, ↓reduceIte, reduceCtorEq, Nat.reduceEqDiff, Nat.reduceLeDiff, Nat.reduceAdd, Nat.reduceMul, Nat.reduceSub, Nat.reduceLT, hge, hb.1.1.1, hb.1.1.2, hb.1.2, hb.2, hc, hL, e1, e2, e3, hgt, ho3, hw]
 | (with_reducible refine CU (letter_s _ _) ?_)
 | (with_reducible refine CU (hrun _) ?_)
 | (with_reducible refine CU (word_s _ _) ?_)
 | (with_reducible refine jumpA_go (l := 2) (by with_unfolding_all rfl) ?_)
 | (with_reducible refine jumpA_go (l := 4) (by with_unfolding_all rfl) ?_)
 | (with_reducible refine jumpA_go (l := 5) (by with_unfolding_all rfl) ?_)
 | (with_reducible first | refine CB_ofT (by assumption) fun hc => ?_ | refine CB_ofF (by assumption) fun hc => ?_ | refine CB_split (fun hc => ?_) fun hc => ?_) <;> (try simp only [hc, bs, ↓reduceIte] at h) <;> (try simp only [hc])
 | ((with_reducible first | refine leafR hQ ?_ | refine leafN hQ ?_); (try cases h); simp only [resL, oneD, Option.some.injEq, exists_eq_left', go_sem, hlt, hget, hpu, hinc, Int.reduceLE, ↓reduceIte, reduceCtorEq, Nat.reduceEqDiff, Nat.reduceLeDiff, Nat.reduceAdd, Nat.reduceMul, Nat.reduceSub, Nat.reduceLT, hge, hb.1.1.1, hb.1.1.2, hb.1.2, hb.2, hc, hL, e1, e2, e3, hgt, ho3, hw]; repeat' (first | exact Ok.out | with_reducible refine And.intro ?_ ?_ | (simp; done)))
 | (cases h; replace h := hr; clear hr; (try simp only [bs, ↓reduceIte] at h))
 | (cases h; done))
      · repeat' (first
 | simp only [go_sem, hlt, hget, hpu, hinc, Int.reduceLE, ↓reduceIte, reduceCtorEq, Nat.reduceEqDiff, Nat.reduceLeDiff, Nat.reduceAdd, Nat.reduceMul, Nat.reduceSub, Nat.reduceLT, hge, hb.1.1.1, hb.1.1.2, hb.1.2, hb.2, hc, hL, e1, e2, e3, hgt, ho3, hw]
 | (with_reducible refine CU (letter_s _ _) ?_)
 | (with_reducible refine CU (hrun _) ?_)
 | (with_reducible refine CU (word_s _ _) ?_)
 | (with_reducible refine jumpA_go (l := 2) (by with_unfolding_all rfl) ?_)
 | (with_reducible refine jumpA_go (l := 4) (by with_unfolding_all rfl) ?_)
 | (with_reducible refine jumpA_go (l := 5) (by with_unfolding_all rfl) ?_)
 | (with_reducible first | refine CB_ofT (by assumption) fun hc => ?_ | refine CB_ofF (by assumption) fun hc => ?_ | refine CB_split (fun hc => ?_) fun hc => ?_) <;> (try simp only [hc, bs, ↓reduceIte] at h) <;> (try simp only [hc])
 | ((with_reducible first | refine leafR hQ ?_ | refine leafN hQ ?_); (try cases h); simp only [resL, oneD, Option.some.injEq, exists_eq_left', go_sem, hlt, hget, hpu, hinc, Int.reduceLE, ↓reduceIte, reduceCtorEq, Nat.reduceEqDiff, Nat.reduceLeDiff, Nat.reduceAdd, Nat.reduceMul, Nat.reduceSub, Nat.reduceLT, hge, hb.1.1.1, hb.1.1.2, hb.1.2, hb.2, hc, hL, e1, e2, e3, hgt, ho3, hw]; repeat' (first | exact Ok.out | with_reducible refine And.intro ?_ ?_ | (simp; done)))
 | (cases h; replace h := hr; clear hr; (try simp only [bs, ↓reduceIte] at h))
 | (cases h; done))
    · have ho3 : ((out.length : Int) == 2000) = false := by simp; omega
      have ho4 : ∀ t : Tok, (out ++ [t]).length ≤ 2000 := by intro t; simp; omega
      simp only [ho2, ↓reduceIte] at h
      cases hw : isWord ((c :: r).take k)
      · simp only [hw, Bool.false_eq_true, ↓reduceIte] at h
        repeat' (first
 | simp only [go_sem, hlt, hget, hpu, hinc, Int.reduceLE, ↓reduceIte, reduceCtorEq, Nat.reduceEqDiff, Nat.reduceLeDiff, Nat.reduceAdd, Nat.reduceMul, Nat.reduceSub, Nat.reduceLT, hge, hb.1.1.1, hb.1.1.2, hb.1.2, hb.2, hc, hL, e1, e2, e3, hgt, ho3, hroom, hw]
 | (with_reducible refine CU (letter_s _ _) ?_)
 | (with_reducible refine CU (hrun _) ?_)
 | (with_reducible refine CU (word_s _ _) ?_)
 | (with_reducible refine jumpA_go (l := 2) (by with_unfolding_all rfl) ?_)
 | (with_reducible refine jumpA_go (l := 4) (by with_unfolding_all rfl) ?_)
 | (with_reducible refine jumpA_go (l := 5) (by with_unfolding_all rfl) ?_)
 | (refine IH.to hB fin h hlen2 (ho4 _) (by omega) (Nat.lt_succ_self _) ?_ ?_ ?_ <;> ((try simp only [go_sem, hlt, hget, hpu, hinc, Int.reduceLE, ↓reduceIte, reduceCtorEq, Nat.reduceEqDiff, Nat.reduceLeDiff, Nat.reduceAdd, Nat.reduceMul, Nat.reduceSub, Nat.reduceLT]); repeat' (first | exact Ok.out | with_reducible refine And.intro ?_ ?_ | omega | (simp; done))); done)
 | (with_reducible first | refine CB_ofT (by assumption) fun hc => ?_ | refine CB_ofF (by assumption) fun hc => ?_ | refine CB_split (fun hc => ?_) fun hc => ?_) <;> (try simp only [hc, bs, ↓reduceIte] at h) <;> (try simp only [hc])
 | ((with_reducible first | refine leafR hQ ?_ | refine leafN hQ ?_); (try cases h); simp only [resL, oneD, Option.some.injEq, exists_eq_left', go_sem, hlt, hget, hpu, hinc, Int.reduceLE, ↓reduceIte, reduceCtorEq, Nat.reduceEqDiff, Nat.reduceLeDiff, Nat.reduceAdd, Nat.reduceMul, Nat.reduceSub, Nat.reduceLT, hge, hb.1.1.1, hb.1.1.2, hb.1.2, hb.2, hc, hL, e1, e2, e3, hgt, ho3, hroom, hw]; repeat' (first | exact Ok.out | with_reducible refine And.intro ?_ ?_ | (simp; done)))
 | (cases h; replace h := hr; clear hr; (try simp only [bs, ↓reduceIte] at h))
 | (cases h; done))
      · simp only [hw, ↓reduceIte] at h
        repeat' (first
 | simp only [go_sem, hlt, hget, hpu, hinc, Int.reduceLE, ↓reduceIte, reduceCtorEq, Nat.reduceEqDiff, Nat.reduceLeDiff, Nat.reduceAdd, Nat.reduceMul, Nat.reduceSub, Nat.reduceLT, hge, hb.1.1.1, hb.1.1.2, hb.1.2, hb.2, hc, hL, e1, e2, e3, hgt, ho3, hroom, hw]
 | (with_reducible refine CU (letter_s _ _) ?_)
 | (with_reducible refine CU (hrun _) ?_)
 | (with_reducible refine CU (word_s _ _) ?_)
 | (with_reducible refine jumpA_go (l := 2) (by with_unfolding_all rfl) ?_)
 | (with_reducible refine jumpA_go (l := 4) (by with_unfolding_all rfl) ?_)
 | (with_reducible refine jumpA_go (l := 5) (by with_unfolding_all rfl) ?_)
 | (refine IH.to hB fin h hlen2 (ho4 _) (by omega) (Nat.lt_succ_self _) ?_ ?_ ?_ <;> ((try simp only [go_sem, hlt, hget, hpu, hinc, Int.reduceLE, ↓reduceIte, reduceCtorEq, Nat.reduceEqDiff, Nat.reduceLeDiff, Nat.reduceAdd, Nat.reduceMul, Nat.reduceSub, Nat.reduceLT]); repeat' (first | exact Ok.out | with_reducible refine And.intro ?_ ?_ | omega | (simp; done))); done)
 | (with_reducible first | refine CB_ofT (by assumption) fun hc => ?_ | refine CB_ofF (by assumption) fun hc => ?_ | refine CB_split (fun hc => ?_) fun hc => ?_) <;> (try simp only [hc, bs, ↓reduceIte] at h) <;> (try simp only [hc])
 | ((with_reducible first | refine leafR hQ ?_ | refine leafN hQ ?_); (try cases h); simp only [resL, oneD, Option.some.injEq, exists_eq_left', go_sem, hlt, hget, hpu, hinc, Int.reduceLE, ↓reduceIte, reduceCtorEq, Nat.reduceEqDiff, Nat.reduceLeDiff, Nat.reduceAdd, Nat.reduceMul, Nat.reduceSub, Nat.reduceLT, hge, hb.1.1.1, hb.1.1.2, hb.1.2, hb.2, hc, hL, e1, e2, e3, hgt, ho3, hroom, hw]; repeat' (first | exact Ok.out | with_reducible refine And.intro ?_ ?_ | (simp; done)))
 | (cases h; replace h := hr; clear hr; (try simp only [bs, ↓reduceIte] at h))
 | (cases h; done))

end Go.Abs

/-! RefLex1 -/

namespace Go.Abs

set_option maxRecDepth 8000
set_option linter.unusedSimpArgs false
set_option linter.unusedVariables false
open Go.Proofs

theorem Rsmall_s (c : UInt8) (s : St) : Fun Tryd.prog n_ref1_small [.int .u8 (c.toNat : Int)] s (.bool (isL c)) s := by
  refine Fun.pure ?_ rfl rfl s
  generalize h : isL c = b
  unfold isL at h
  unfold S0
  refine Fun.go has_ref1_small rfl fun B Q hB hQ => ?_
  have hlt : 0 < 1 := Nat.zero_lt_one
  have hget : 0 < 1 := Nat.zero_lt_one
  have hpu : 0 < 1 := Nat.zero_lt_one
  have hinc : 0 < 1 := Nat.zero_lt_one
  repeat' (first
 | simp only [go_sem, hlt, hget, hpu, hinc, Int.reduceLE, ↓reduceIte, reduceCtorEq, Nat.reduceEqDiff, Nat.reduceLeDiff, Nat.reduceAdd, Nat.reduceMul, Nat.reduceSub, Nat.reduceLT]
 | (with_reducible first | refine CB_ofT (by assumption) fun hc => ?_ | refine CB_ofF (by assumption) fun hc => ?_ | refine CB_split (fun hc => ?_) fun hc => ?_) <;> (try simp only [hc, bs, ↓reduceIte] at h) <;> (try simp only [hc])
 | ((with_reducible first | refine leafR hQ ?_ | refine leafN hQ ?_); (try cases h); simp only [resL, oneD, Option.some.injEq, exists_eq_left', go_sem, hlt, hget, hpu, hinc, Int.reduceLE, ↓reduceIte, reduceCtorEq, Nat.reduceEqDiff, Nat.reduceLeDiff, Nat.reduceAdd, Nat.reduceMul, Nat.reduceSub, Nat.reduceLT]; repeat' (first | exact Ok.out | with_reducible refine And.intro ?_ ?_ | (simp; done)))
 | (cases h; replace h := hr; clear hr; (try simp only [bs, ↓reduceIte] at h))
 | (cases h; done))

theorem Rdigit_s (c : UInt8) (s : St) : Fun Tryd.prog n_ref1_digit [.int .u8 (c.toNat : Int)] s (.bool (isD c)) s := by
  refine Fun.pure ?_ rfl rfl s
  generalize h : isD c = b
  unfold isD at h
  unfold S0
  refine Fun.go has_ref1_digit rfl fun B Q hB hQ => ?_
  have hlt : 0 < 1 := Nat.zero_lt_one
  have hget : 0 < 1 := Nat.zero_lt_one
  have hpu : 0 < 1 := Nat.zero_lt_one
  have hinc : 0 < 1 := Nat.zero_lt_one
  repeat' (first
 | simp only [go_sem, hlt, hget, hpu, hinc, Int.reduceLE, ↓reduceIte, reduceCtorEq, Nat.reduceEqDiff, Nat.reduceLeDiff, Nat.reduceAdd, Nat.reduceMul, Nat.reduceSub, Nat.reduceLT]
 | (with_reducible first | refine CB_ofT (by assumption) fun hc => ?_ | refine CB_ofF (by assumption) fun hc => ?_ | refine CB_split (fun hc => ?_) fun hc => ?_) <;> (try simp only [hc, bs, ↓reduceIte] at h) <;> (try simp only [hc])
 | ((with_reducible first | refine leafR hQ ?_ | refine leafN hQ ?_); (try cases h); simp only [resL, oneD, Option.some.injEq, exists_eq_left', go_sem, hlt, hget, hpu, hinc, Int.reduceLE, ↓reduceIte, reduceCtorEq, Nat.reduceEqDiff, Nat.reduceLeDiff, Nat.reduceAdd, Nat.reduceMul, Nat.reduceSub, Nat.reduceLT]; repeat' (first | exact Ok.out | with_reducible refine And.intro ?_ ?_ | (simp; done)))
 | (cases h; replace h := hr; clear hr; (try simp only [bs, ↓reduceIte] at h))
 | (cases h; done))

theorem Words_s (s : St) : Fun Tryd.prog n_ref1_Words [] s (.slice .shared 1 [[.str [103, 108, 111, 98, 97, 108]], [.str [112, 114, 111, 99]], [.str [118, 97, 114]], [.str [114, 101, 102]], [.str [105, 102]], [.str [101, 108, 115, 101]], [.str [119, 104, 105, 108, 101]], [.str [98, 114, 101, 97, 107]], [.str [99, 111, 110, 116, 105, 110, 117, 101]], [.str [114, 101, 116, 117, 114, 110]], [.str [103, 111, 116, 111]], [.str [114, 101, 97, 100]], [.str [112, 114, 105, 110, 116]]]) s := by
  refine Fun.pure ?_ rfl rfl s
  unfold S0
  refine Fun.go has_ref1_Words rfl fun B Q hB hQ => ?_
  have hlt : 0 < 1 := Nat.zero_lt_one
  have hget : 0 < 1 := Nat.zero_lt_one
  have hpu : 0 < 1 := Nat.zero_lt_one
  have hinc : 0 < 1 := Nat.zero_lt_one
  repeat' (first
 | simp only [go_sem, hlt, hget, hpu, hinc, Int.reduceLE, ↓reduceIte, reduceCtorEq, Nat.reduceEqDiff, Nat.reduceLeDiff, Nat.reduceAdd, Nat.reduceMul, Nat.reduceSub, Nat.reduceLT]
 | (with_reducible first | refine CB_ofT (by assumption) fun hc => ?_ | refine CB_ofF (by assumption) fun hc => ?_ | refine CB_split (fun hc => ?_) fun hc => ?_) <;> (try simp only [hc, bs, ↓reduceIte] at h) <;> (try simp only [hc])
 | ((with_reducible first | refine leafR hQ ?_ | refine leafN hQ ?_); (try cases h); simp only [resL, oneD, Option.some.injEq, exists_eq_left', go_sem, hlt, hget, hpu, hinc, Int.reduceLE, ↓reduceIte, reduceCtorEq, Nat.reduceEqDiff, Nat.reduceLeDiff, Nat.reduceAdd, Nat.reduceMul, Nat.reduceSub, Nat.reduceLT]; repeat' (first | exact Ok.out | with_reducible refine And.intro ?_ ?_ | (simp; done)))
 | (cases h; replace h := hr; clear hr; (try simp only [bs, ↓reduceIte] at h))
 | (cases h; done))

def isWordR (s : Str) : Bool :=
  [103, 108, 111, 98, 97, 108] == s || [112, 114, 111, 99] == s || [118, 97, 114] == s || [114, 101, 102] == s || [105, 102] == s || [101, 108, 115, 101] == s || [119, 104, 105, 108, 101] == s || [98, 114, 101, 97, 107] == s || [99, 111, 110, 116, 105, 110, 117, 101] == s || [114, 101, 116, 117, 114, 110] == s || [103, 111, 116, 111] == s || [114, 101, 97, 100] == s || [112, 114, 105, 110, 116] == s
theorem isWordR_eq (s : Str) : isWordR s = isWord s := by
  have e : ∀ a : Str, (a == s) = (s == a) := fun a => BEq.comm
  simp only [isWordR, isWord, e]

theorem RWord_s (text : Str) (s : St) : Fun Tryd.prog n_ref1_Word [.str text] s (.bool (isWord text)) s := by
  refine Fun.pure ?_ rfl rfl s
  rw [← isWordR_eq]
  generalize h : isWordR text = p
  unfold isWordR at h
  unfold S0
  refine Fun.go has_ref1_Word rfl fun B Q hB hQ => ?_
  have hlt : 0 < 1 := Nat.zero_lt_one
  have hget : 0 < 1 := Nat.zero_lt_one
  have hpu : 0 < 1 := Nat.zero_lt_one
  have hinc : 0 < 1 := Nat.zero_lt_one
  repeat' (first
 | simp only [go_sem, hlt, hget, hpu, hinc, Int.reduceLE, ↓reduceIte, reduceCtorEq, Nat.reduceEqDiff, Nat.reduceLeDiff, Nat.reduceAdd, Nat.reduceMul, Nat.reduceSub, Nat.reduceLT, Int.cast_ofNat_Int, wrap_ok, Int.reduceAdd, Int.reduceLT, Int.reduceNeg, decide_true, decide_false, Int.reduceToNat]
 | (with_reducible refine CU (Words_s _) ?_)
 | (with_reducible refine SemL.onceW ?_)
 | (with_reducible first | refine CB_ofT (by assumption) fun hc => ?_ | refine CB_ofF (by assumption) fun hc => ?_ | refine CB_split (fun hc => ?_) fun hc => ?_) <;> (try simp only [hc, bs, ↓reduceIte] at h) <;> (try simp only [hc])
 | ((with_reducible first | refine leafR hQ ?_ | refine leafN hQ ?_); (try cases h); simp only [resL, oneD, Option.some.injEq, exists_eq_left', go_sem, hlt, hget, hpu, hinc, Int.reduceLE, ↓reduceIte, reduceCtorEq, Nat.reduceEqDiff, Nat.reduceLeDiff, Nat.reduceAdd, Nat.reduceMul, Nat.reduceSub, Nat.reduceLT, Int.cast_ofNat_Int, wrap_ok, Int.reduceAdd, Int.reduceLT, Int.reduceNeg, decide_true, decide_false, Int.reduceToNat]; repeat' (first | exact Ok.out | with_reducible refine And.intro ?_ ?_ | (simp; done)))
 | (cases h; replace h := hr; clear hr; (try simp only [bs, ↓reduceIte] at h))
 | (cases h; done))

end Go.Abs

/-! Prs2 -/

namespace Go.Abs

set_option maxRecDepth 8000
set_option linter.unusedSimpArgs false
set_option linter.unusedVariables false
open Go.Proofs

theorem op_0 {t : Tok} {p : Int × Int} (h : opOf t = p) : Fun Tryd.prog n_parse_op [.agg (encTok t)] S0 (.tuple [.int .i64 p.1, .int .i64 p.2]) S0 := by
  unfold opOf at h
  unfold S0
  refine Fun.go has_parse_op rfl fun B Q hB hQ => ?_
  have hlt : 0 < 1 := Nat.zero_lt_one
  have hget : 0 < 1 := Nat.zero_lt_one
  have hpu : 0 < 1 := Nat.zero_lt_one
  have hinc : 0 < 1 := Nat.zero_lt_one
  repeat' (first
 | simp only [go_sem, hlt, hget, hpu, hinc, Int.reduceLE, ↓reduceIte, reduceCtorEq, Nat.reduceEqDiff, Nat.reduceLeDiff, Nat.reduceAdd, Nat.reduceMul, Nat.reduceSub, Nat.reduceLT]
 | (with_reducible first | refine CB_ofT (by assumption) fun hc => ?_ | refine CB_ofF (by assumption) fun hc => ?_ | refine CB_split (fun hc => ?_) fun hc => ?_) <;> (try simp only [hc, bs, ↓reduceIte] at h) <;> (try simp only [hc])
 | ((with_reducible first | refine leafR hQ ?_ | refine leafN hQ ?_); (try cases h); simp only [resL, oneD, Option.some.injEq, exists_eq_left', go_sem, hlt, hget, hpu, hinc, Int.reduceLE, ↓reduceIte, reduceCtorEq, Nat.reduceEqDiff, Nat.reduceLeDiff, Nat.reduceAdd, Nat.reduceMul, Nat.reduceSub, Nat.reduceLT]; repeat' (first | exact Ok.out | with_reducible refine And.intro ?_ ?_ | (simp; done)))
 | (cases h; replace h := hr; clear hr; (try simp only [bs, ↓reduceIte] at h))
 | (cases h; done))

theorem depth_n : ∀ n, n < 4611686018427387904 → ∀ x : Ex, x.size ≤ n → Fun Tryd.prog n_parse_depth [.agg (encEx x)] S0 (.int .i64 (x.depth : Int)) S0 := by
  intro n
  induction n with
  | zero => rintro _ ⟨op, m, name, kids⟩ h; simp only [Ex.size] at h; omega
  | succ n ihn =>
  rintro hn ⟨op, m, name, kids⟩ hx
  have hk : ∀ y ∈ kids, Fun Tryd.prog n_parse_depth [.agg (encEx y)] S0 (.int .i64 (y.depth : Int)) S0 := fun y hy => ihn (by omega) y (by simp only [Ex.size] at hx; have := Ex.sizes_mem hy; omega)
  have hlen : kids.length < 4611686018427387904 := by simp only [Ex.size] at hx; have := Ex.sizes_len kids; omega
  have hdep : Ex.depths kids < 4611686018427387904 := by have := Ex.depth_size _ _ hx; simp only [Ex.depth] at this; omega
  unfold S0
  refine Fun.go has_parse_depth rfl fun B Q hB hQ => ?_
  have hlt : 0 < 1 := Nat.zero_lt_one
  have hget : 0 < 1 := Nat.zero_lt_one
  have hpu : 0 < 1 := Nat.zero_lt_one
  have hinc : 0 < 1 := Nat.zero_lt_one
  repeat' (first
 | simp only [go_sem, hlt, hget, hpu, hinc, Int.reduceLE, ↓reduceIte, reduceCtorEq, Nat.reduceEqDiff, Nat.reduceLeDiff, Nat.reduceAdd, Nat.reduceMul, Nat.reduceSub, Nat.reduceLT]
 | (with_reducible first | refine CB_ofT (by assumption) fun hc => ?_ | refine CB_ofF (by assumption) fun hc => ?_ | refine CB_split (fun hc => ?_) fun hc => ?_) <;> (try simp only [hc, bs, ↓reduceIte] at h) <;> (try simp only [hc])
 | ((with_reducible first | refine leafR hQ ?_ | refine leafN hQ ?_); (try cases h); simp only [resL, oneD, Option.some.injEq, exists_eq_left', go_sem, hlt, hget, hpu, hinc, Int.reduceLE, ↓reduceIte, reduceCtorEq, Nat.reduceEqDiff, Nat.reduceLeDiff, Nat.reduceAdd, Nat.reduceMul, Nat.reduceSub, Nat.reduceLT]; repeat' (first | exact Ok.out | with_reducible refine And.intro ?_ ?_ | (simp; done)))
 | (cases h; replace h := hr; clear hr; (try simp only [bs, ↓reduceIte] at h))
 | (cases h; done))
  refine SemL.re _ _ 0 0 (by rw [hB]; exact Nat.le_of_ble_eq_true rfl) (by rw [hB]; exact Nat.le_of_ble_eq_true rfl) ?_ ?_ (SemL.ind (ι := List Ex × Nat × Nat) (fun i => kids.drop i.2.1 = i.1 ∧ max i.2.2 (Ex.depths i.1) = Ex.depths kids) (fun i => i.1.length)
    (fun i => [(3, .int .i64 (i.2.2 : Int)), (7, .slice .shared 4 (kids.map encEx)), (8, .int .i64 (kids.length : Int)), (9, .int .i64 (i.2.1 : Int))]) (fun _ => S0) ?_ (kids, 0, 0) ⟨rfl, by simp⟩)
  · (simp only [go_sem, hlt, hget, hpu, hinc, Int.reduceLE, ↓reduceIte, reduceCtorEq, Nat.reduceEqDiff, Nat.reduceLeDiff, Nat.reduceAdd, Nat.reduceMul, Nat.reduceSub, Nat.reduceLT]; repeat' (first | exact Ok.out | with_reducible refine And.intro ?_ ?_))
  · (simp only [go_sem, hlt, hget, hpu, hinc, Int.reduceLE, ↓reduceIte, reduceCtorEq, Nat.reduceEqDiff, Nat.reduceLeDiff, Nat.reduceAdd, Nat.reduceMul, Nat.reduceSub, Nat.reduceLT]; repeat' (first | exact Ok.out | with_reducible refine And.intro ?_ ?_))
  rintro ⟨rest, k, acc⟩ ⟨h1, h2⟩ IH
  unfold S0
  cases rest with
  | nil =>
    have hlt := drop_nil h1
    simp only [Ex.depths, Nat.max_zero] at h2
    subst h2
    repeat' (first
 | simp only [go_sem, hlt, hget, hpu, hinc, Int.reduceLE, ↓reduceIte, reduceCtorEq, Nat.reduceEqDiff, Nat.reduceLeDiff, Nat.reduceAdd, Nat.reduceMul, Nat.reduceSub, Nat.reduceLT, wrap_inc hdep, Ex.depth]
 | (with_reducible first | refine CB_ofT (by assumption) fun hc => ?_ | refine CB_ofF (by assumption) fun hc => ?_ | refine CB_split (fun hc => ?_) fun hc => ?_) <;> (try simp only [hc, bs, ↓reduceIte] at h) <;> (try simp only [hc])
 | ((with_reducible first | refine leafR hQ ?_ | refine leafN hQ ?_); (try cases h); simp only [resL, oneD, Option.some.injEq, exists_eq_left', go_sem, hlt, hget, hpu, hinc, Int.reduceLE, ↓reduceIte, reduceCtorEq, Nat.reduceEqDiff, Nat.reduceLeDiff, Nat.reduceAdd, Nat.reduceMul, Nat.reduceSub, Nat.reduceLT, wrap_inc hdep, Ex.depth]; repeat' (first | exact Ok.out | with_reducible refine And.intro ?_ ?_ | (simp; done)))
 | (cases h; replace h := hr; clear hr; (try simp only [bs, ↓reduceIte] at h))
 | (cases h; done))
  | cons y rest =>
    obtain ⟨g1, g2, hlt, g4⟩ := drop_cons h1
    simp only [Ex.depths] at h2
    have hy := fun s => (hk y (List.mem_of_getElem? g1)).pure (by simp [D.oks, D.ok, okEx]) rfl s
    dsimp only at g1 g2 hlt g4 h2
    repeat' (first
 | simp only [go_sem, hlt, hget, hpu, hinc, Int.reduceLE, ↓reduceIte, reduceCtorEq, Nat.reduceEqDiff, Nat.reduceLeDiff, Nat.reduceAdd, Nat.reduceMul, Nat.reduceSub, Nat.reduceLT, g1]
 | (with_reducible refine CU (hy _) ?_)
 | (with_reducible first | refine CB_ofT (by assumption) fun hc => ?_ | refine CB_ofF (by assumption) fun hc => ?_ | refine CB_split (fun hc => ?_) fun hc => ?_) <;> (try simp only [hc, bs, ↓reduceIte] at h) <;> (try simp only [hc])
 | ((with_reducible first | refine leafR hQ ?_ | refine leafN hQ ?_); (try cases h); simp only [resL, oneD, Option.some.injEq, exists_eq_left', go_sem, hlt, hget, hpu, hinc, Int.reduceLE, ↓reduceIte, reduceCtorEq, Nat.reduceEqDiff, Nat.reduceLeDiff, Nat.reduceAdd, Nat.reduceMul, Nat.reduceSub, Nat.reduceLT, g1]; repeat' (first | exact Ok.out | with_reducible refine And.intro ?_ ?_ | (simp; done)))
 | (cases h; replace h := hr; clear hr; (try simp only [bs, ↓reduceIte] at h))
 | (cases h; done))
    refine SemL.re _ _ 0 0 (by rw [hB]; exact Nat.le_of_ble_eq_true rfl) (by rw [hB]; exact Nat.le_of_ble_eq_true rfl) ?_ ?_ (IH (rest, k + 1, max acc y.depth) ⟨g2, by dsimp only; omega⟩ (by simp))
    · (simp only [go_sem, hlt, hget, hpu, hinc, Int.reduceLE, ↓reduceIte, reduceCtorEq, Nat.reduceEqDiff, Nat.reduceLeDiff, Nat.reduceAdd, Nat.reduceMul, Nat.reduceSub, Nat.reduceLT, mx, wrap_inc (show k < 4611686018427387904 by omega)]; repeat' (first | exact Ok.out | with_reducible refine And.intro ?_ ?_))
    · (simp only [go_sem, hlt, hget, hpu, hinc, Int.reduceLE, ↓reduceIte, reduceCtorEq, Nat.reduceEqDiff, Nat.reduceLeDiff, Nat.reduceAdd, Nat.reduceMul, Nat.reduceSub, Nat.reduceLT, mx, wrap_inc (show k < 4611686018427387904 by omega)]; repeat' (first | exact Ok.out | with_reducible refine And.intro ?_ ?_))

theorem depth_s {x : Ex} {d : Int} (h : depthO x = some d) (s : St) : Fun Tryd.prog n_parse_depth [.agg (encEx x)] s (.int .i64 d) s := by
  unfold depthO at h
  split at h
  · cases h; exact (depth_n x.size ‹_› x (Nat.le_refl _)).pure (by simp [D.oks, D.ok, okEx]) rfl s
  · cases h

theorem op_s (t : Tok) (s : St) : Fun Tryd.prog n_parse_op [.agg (encTok t)] s (.tuple [.int .i64 (opOf t).1, .int .i64 (opOf t).2]) s := (op_0 rfl).pure rfl rfl s


theorem ite_p {c : Prop} [Decidable c] {α : Type} {P : α → Prop} {a b : α} (ha : P a) (hb : P b) : P (if c then a else b) := by
  by_cases h : c
  · rw [if_pos h]; exact ha
  · rw [if_neg h]; exact hb
def OpR (p : Int × Int) : Prop := 0 ≤ p.2 ∧ p.2 ≤ 6
theorem op_range (t : Tok) : OpR (opOf t) := by
  unfold opOf
  repeat' with_reducible refine ite_p (P := OpR) ?_ ?_
  all_goals exact ⟨by decide, by decide⟩
theorem op_wrap (t : Tok) : IntKind.wrap .i64 ((opOf t).2 + 1) = (opOf t).2 + 1 := by
  have : 0 ≤ (opOf t).2 ∧ (opOf t).2 ≤ 6 := op_range t
  rw [wrap_ok] <;> omega

abbrev C_one (m : Nat) : Prop := ∀ {r : Rd} {p : Ex × Rd}, Rd.one m r = some p → ∀ {s : St} {o : Nat}, s.objs[o]? = some (encRd r) → Fun Tryd.prog n_parse_reader_one [.ptr o 0] s (.agg (encEx p.1)) ⟨s.objs.set o (encRd p.2), s.toks⟩
abbrev C_two (m : Nat) : Prop := ∀ {k : Int} {r : Rd} {p : Ex × Rd}, Rd.two m k r = some p → ∀ {s : St} {o : Nat}, s.objs[o]? = some (encRd r) → Fun Tryd.prog n_parse_reader_two [.ptr o 0, .int .i64 k] s (.agg (encEx p.1)) ⟨s.objs.set o (encRd p.2), s.toks⟩

theorem one_step {m : Nat} (one_s : C_one m) (two_s : C_two m) : C_one (m + 1) := by
  intro r p h s o ho
  refine Fun.meth ?_ rfl (okRd r) (okRd p.2) (by simp [D.ok, okEx]) ho
  unfold Rd.one at h
  refine Fun.go has_parse_reader_one rfl fun B Q hB hQ => ?_
  have hlt : 0 < 1 := Nat.zero_lt_one
  have hget : 0 < 1 := Nat.zero_lt_one
  have hpu : 0 < 1 := Nat.zero_lt_one
  have hinc : 0 < 1 := Nat.zero_lt_one
  repeat' (first
 | simp only [go_sem, hlt, hget, hpu, hinc, Int.reduceLE, ↓reduceIte, reduceCtorEq, Nat.reduceEqDiff, Nat.reduceLeDiff, Nat.reduceAdd, Nat.reduceMul, Nat.reduceSub, Nat.reduceLT]
 | (rw [Option.bind_eq_some_iff] at h; obtain ⟨_, h1, h⟩ := h; first | (with_reducible refine CU (peek_s h1 (by with_unfolding_all rfl)) ?_; have hlt := peek_lt h1) | (with_reducible refine CU (take_s h1 (by with_unfolding_all rfl)) ?_) | (with_reducible refine CU (two_s h1 (by with_unfolding_all rfl)) ?_) | (with_reducible refine CU (want_s h1 (by with_unfolding_all rfl)) ?_) | (with_reducible refine CU (one_s h1 (by with_unfolding_all rfl)) ?_) | (with_reducible refine CU (bad_s h1 (by with_unfolding_all rfl)) ?_))
 | (with_reducible refine CU (good_s (by with_unfolding_all rfl)) ?_)
 | (with_reducible first | refine CB_ofT (by assumption) fun hc => ?_ | refine CB_ofF (by assumption) fun hc => ?_ | refine CB_split (fun hc => ?_) fun hc => ?_) <;> (try simp only [hc, bs, ↓reduceIte] at h) <;> (try simp only [hc])
 | ((with_reducible first | refine leafR hQ ?_ | refine leafN hQ ?_); (try cases h); simp only [resL, oneD, Option.some.injEq, exists_eq_left', go_sem, hlt, hget, hpu, hinc, Int.reduceLE, ↓reduceIte, reduceCtorEq, Nat.reduceEqDiff, Nat.reduceLeDiff, Nat.reduceAdd, Nat.reduceMul, Nat.reduceSub, Nat.reduceLT]; repeat' (first | exact Ok.out | with_reducible refine And.intro ?_ ?_ | (simp; done)))
 | (cases h; replace h := hr; clear hr; (try simp only [bs, ↓reduceIte] at h))
 | (cases h; done))

theorem two_step {m : Nat} (one_s : C_one m) (two_s : ∀ j < m, C_two j) : C_two (m + 1) := by
  intro k r p h s o ho
  refine Fun.meth ?_ rfl (okRd r) (okRd p.2) (by simp [D.ok, okEx]) ho
  unfold Rd.two at h
  refine Fun.go has_parse_reader_two rfl fun B Q hB hQ => ?_
  have hlt : 0 < 1 := Nat.zero_lt_one
  have hget : 0 < 1 := Nat.zero_lt_one
  have hpu : 0 < 1 := Nat.zero_lt_one
  have hinc : 0 < 1 := Nat.zero_lt_one
  repeat' (first
 | simp only [go_sem, hlt, hget, hpu, hinc, Int.reduceLE, ↓reduceIte, reduceCtorEq, Nat.reduceEqDiff, Nat.reduceLeDiff, Nat.reduceAdd, Nat.reduceMul, Nat.reduceSub, Nat.reduceLT]
 | (rw [Option.bind_eq_some_iff] at h; obtain ⟨_, h1, h⟩ := h; first | (with_reducible refine CU (one_s h1 (by with_unfolding_all rfl)) ?_))
 | (with_reducible first | refine CB_ofT (by assumption) fun hc => ?_ | refine CB_ofF (by assumption) fun hc => ?_ | refine CB_split (fun hc => ?_) fun hc => ?_) <;> (try simp only [hc, bs, ↓reduceIte] at h) <;> (try simp only [hc])
 | ((with_reducible first | refine leafR hQ ?_ | refine leafN hQ ?_); (try cases h); simp only [resL, oneD, Option.some.injEq, exists_eq_left', go_sem, hlt, hget, hpu, hinc, Int.reduceLE, ↓reduceIte, reduceCtorEq, Nat.reduceEqDiff, Nat.reduceLeDiff, Nat.reduceAdd, Nat.reduceMul, Nat.reduceSub, Nat.reduceLT]; repeat' (first | exact Ok.out | with_reducible refine And.intro ?_ ?_ | (simp; done)))
 | (cases h; replace h := hr; clear hr; (try simp only [bs, ↓reduceIte] at h))
 | (cases h; done))
  refine SemL.re _ _ 3 0 (by rw [hB]; exact Nat.le_of_ble_eq_true rfl) (by rw [hB]; exact Nat.le_of_ble_eq_true rfl) ?_ ?_ (SemL.ind (ι := Nat × Ex × Rd) (fun i => Rd.twoL i.1 k i.2.1 i.2.2 = some p ∧ i.1 ≤ m) (fun i => i.1)
    (fun i => [(0, .ptr 0 0), (1, .int .i64 k), (4, .ptr 1 0), (5, .ptr 2 0)]) (fun i => ⟨[encRd i.2.2, encEx ex0, encEx i.2.1], []⟩) ?_ (m, _, _) ⟨h, Nat.le_refl _⟩)
  · (simp only [go_sem, hlt, hget, hpu, hinc, Int.reduceLE, ↓reduceIte, reduceCtorEq, Nat.reduceEqDiff, Nat.reduceLeDiff, Nat.reduceAdd, Nat.reduceMul, Nat.reduceSub, Nat.reduceLT]; repeat' (first | exact Ok.out | with_reducible refine And.intro ?_ ?_))
  · (simp only [go_sem, hlt, hget, hpu, hinc, Int.reduceLE, ↓reduceIte, reduceCtorEq, Nat.reduceEqDiff, Nat.reduceLeDiff, Nat.reduceAdd, Nat.reduceMul, Nat.reduceSub, Nat.reduceLT]; repeat' (first | exact Ok.out | with_reducible refine And.intro ?_ ?_))
  rintro ⟨n, x, r⟩ ⟨h, hn⟩ IH
  cases n with
  | zero => simp only [Rd.twoL] at h; cases h
  | succ n =>
    have two_n := @two_s n (by omega)
    simp only [Rd.twoL] at h
    repeat' (first
 | simp only [go_sem, hlt, hget, hpu, hinc, Int.reduceLE, ↓reduceIte, reduceCtorEq, Nat.reduceEqDiff, Nat.reduceLeDiff, Nat.reduceAdd, Nat.reduceMul, Nat.reduceSub, Nat.reduceLT, op_wrap]
 | (rw [Option.bind_eq_some_iff] at h; obtain ⟨_, h1, h⟩ := h; first | (with_reducible refine CU (peek_s h1 (by with_unfolding_all rfl)) ?_; have hlt := peek_lt h1) | (with_reducible refine CU (two_n h1 (by with_unfolding_all rfl)) ?_))
 | (with_reducible refine CU (good_s (by with_unfolding_all rfl)) ?_)
 | (with_reducible refine CU (op_s _ _) ?_)
 | (with_reducible first | refine CB_ofT (by assumption) fun hc => ?_ | refine CB_ofF (by assumption) fun hc => ?_ | refine CB_split (fun hc => ?_) fun hc => ?_) <;> (try simp only [hc, bs, ↓reduceIte] at h) <;> (try simp only [hc])
 | ((with_reducible first | refine leafR hQ ?_ | refine leafN hQ ?_); (try cases h); simp only [resL, oneD, Option.some.injEq, exists_eq_left', go_sem, hlt, hget, hpu, hinc, Int.reduceLE, ↓reduceIte, reduceCtorEq, Nat.reduceEqDiff, Nat.reduceLeDiff, Nat.reduceAdd, Nat.reduceMul, Nat.reduceSub, Nat.reduceLT, op_wrap]; repeat' (first | exact Ok.out | with_reducible refine And.intro ?_ ?_ | (simp; done)))
 | (cases h; replace h := hr; clear hr; (try simp only [bs, ↓reduceIte] at h))
 | (cases h; done))
    refine SemL.re _ _ 3 0 (by rw [hB]; exact Nat.le_of_ble_eq_true rfl) (by rw [hB]; exact Nat.le_of_ble_eq_true rfl) ?_ ?_ (IH (n, _, _) ⟨h, by dsimp only at hn ⊢; omega⟩ (Nat.lt_succ_self _))
    · (simp only [go_sem, hlt, hget, hpu, hinc, Int.reduceLE, ↓reduceIte, reduceCtorEq, Nat.reduceEqDiff, Nat.reduceLeDiff, Nat.reduceAdd, Nat.reduceMul, Nat.reduceSub, Nat.reduceLT]; repeat' (first | exact Ok.out | with_reducible refine And.intro ?_ ?_))
    · (simp only [go_sem, hlt, hget, hpu, hinc, Int.reduceLE, ↓reduceIte, reduceCtorEq, Nat.reduceEqDiff, Nat.reduceLeDiff, Nat.reduceAdd, Nat.reduceMul, Nat.reduceSub, Nat.reduceLT]; repeat' (first | exact Ok.out | with_reducible refine And.intro ?_ ?_))

theorem one_two : ∀ n, ∀ m < n, C_one m ∧ C_two m := by
  intro n
  induction n with
  | zero => intro m h; exact absurd h (Nat.not_lt_zero _)
  | succ n ih =>
    intro m h
    cases m with
    | zero =>
      refine ⟨?_, ?_⟩
      · intro r p h; simp only [Rd.one] at h; cases h
      · intro k r p h; simp only [Rd.two] at h; cases h
    | succ m =>
      have hm := ih m (by omega)
      exact ⟨one_step hm.1 hm.2, two_step hm.1 fun j hj => (ih j (by omega)).2⟩

theorem two_s {m : Nat} {k : Int} {r : Rd} {p : Ex × Rd} (h : Rd.two m k r = some p) {s : St} {o : Nat} (ho : s.objs[o]? = some (encRd r)) :
    Fun Tryd.prog n_parse_reader_two [.ptr o 0, .int .i64 k] s (.agg (encEx p.1)) ⟨s.objs.set o (encRd p.2), s.toks⟩ := (one_two (m + 1) m (Nat.lt_succ_self _)).2 h ho

theorem whole_s {n : Nat} {r : Rd} {p : Ex × Rd} (h : Rd.whole n r = some p) {s : St} {o : Nat} (ho : s.objs[o]? = some (encRd r)) :
    Fun Tryd.prog n_parse_reader_whole [.ptr o 0] s (.agg (encEx p.1)) ⟨s.objs.set o (encRd p.2), s.toks⟩ := by
  refine Fun.meth ?_ rfl (okRd r) (okRd p.2) (by simp [D.ok, okEx]) ho
  unfold Rd.whole at h
  refine Fun.go has_parse_reader_whole rfl fun B Q hB hQ => ?_
  have hlt : 0 < 1 := Nat.zero_lt_one
  have hget : 0 < 1 := Nat.zero_lt_one
  have hpu : 0 < 1 := Nat.zero_lt_one
  have hinc : 0 < 1 := Nat.zero_lt_one
  repeat' (first
 | simp only [go_sem, hlt, hget, hpu, hinc, Int.reduceLE, ↓reduceIte, reduceCtorEq, Nat.reduceEqDiff, Nat.reduceLeDiff, Nat.reduceAdd, Nat.reduceMul, Nat.reduceSub, Nat.reduceLT]
 | (rw [Option.bind_eq_some_iff] at h; obtain ⟨_, h1, h⟩ := h; first | (with_reducible refine CU (peek_s h1 (by with_unfolding_all rfl)) ?_) | (with_reducible refine CU (depth_s h1 _) ?_) | (with_reducible refine CU (two_s h1 (by with_unfolding_all rfl)) ?_))
 | (with_reducible refine CU (good_s (by with_unfolding_all rfl)) ?_)
 | (with_reducible first | refine CB_ofT (by assumption) fun hc => ?_ | refine CB_ofF (by assumption) fun hc => ?_ | refine CB_split (fun hc => ?_) fun hc => ?_) <;> (try simp only [hc, bs, ↓reduceIte] at h) <;> (try simp only [hc])
 | ((with_reducible first | refine leafR hQ ?_ | refine leafN hQ ?_); (try cases h); simp only [resL, oneD, Option.some.injEq, exists_eq_left', go_sem, hlt, hget, hpu, hinc, Int.reduceLE, ↓reduceIte, reduceCtorEq, Nat.reduceEqDiff, Nat.reduceLeDiff, Nat.reduceAdd, Nat.reduceMul, Nat.reduceSub, Nat.reduceLT]; repeat' (first | exact Ok.out | with_reducible refine And.intro ?_ ?_ | (simp; done)))
 | (cases h; replace h := hr; clear hr; (try simp only [bs, ↓reduceIte] at h))
 | (cases h; done))

end Go.Abs

/-! Ref1 -/

namespace Go.Abs
set_option linter.unusedSimpArgs false
set_option linter.unusedVariables false
open Go.Proofs

/-- The reader's cells; what the last one holds is left open. -/
@[go_sem] def encRc (z : D) (r : Rd) : List D := [.slice .shared 4 (r.l.map encTok), .int .i64 r.i, .int .i64 r.code, .int .i64 r.fat, z]
/-- A plain cell. -/
class Cell (z : D) : Prop where
  ok : D.ok 0 0 z = true
  fg : ∀ n m, D.fg n m z = z
instance (n : Int) : Cell (.int .i64 n) := ⟨rfl, fun _ _ => rfl⟩
instance : Cell .junk := ⟨rfl, fun _ _ => rfl⟩
theorem Cell_fg (z : D) [h : Cell z] (n m : Nat) : D.fg n m z = z := h.fg n m
attribute [go_sem] Cell_fg
/-- Does a word or a sign come, and has there been no fault? -/
def Rd.isO (text : Str) (r : Rd) : Option Bool := if r.good then r.is text else some false

end Go.Abs

/-! Ref2 -/

namespace Go.Abs

set_option maxRecDepth 8000
set_option linter.unusedSimpArgs false
set_option linter.unusedVariables false
open Go.Proofs

def bindsR (s : Str) : Int × Int :=
  if [42] == s then (6, 5) else if [47] == s then (6, 6) else if [37] == s then (6, 7) else if [43] == s then (5, 8) else if [45] == s then (5, 9)
  else if [60] == s then (4, 10) else if [60, 61] == s then (4, 11) else if [62] == s then (4, 12) else if [62, 61] == s then (4, 13)
  else if [61, 61] == s then (3, 14) else if [33, 61] == s then (3, 15) else if [38, 38] == s then (2, 16) else if [124, 124] == s then (1, 17) else (0, 0)

def BZ (p : Int × Int) : Prop := (p.2 == 0) = (p.1 == 0)
end Go.Abs

/-! Ref3 -/

namespace Go.Abs

set_option maxRecDepth 8000
set_option linter.unusedSimpArgs false
set_option linter.unusedVariables false
open Go.Proofs

theorem deep_n : ∀ (most : Nat), most < 1000000 → ∀ x : Ex, x.size < 4611686018427387904 → ∀ s : St, Fun Tryd.prog n_ref3_deep [.agg (encEx x), .int .i64 (most : Int)] s (.int .i64 ((min x.depth (most + 1) : Nat) : Int)) s := by
  intro most
  induction most with
  | zero =>
    rintro _ ⟨op, m, name, kids⟩ hx s
    refine Fun.pure ?_ (by simp [D.oks, D.ok, okEx]) rfl s
    have hz : ((0 : Int) == 0) = true := rfl
    have e : min (Ex.depth ⟨op, m, name, kids⟩) (0 + 1) = 1 := by simp only [Ex.depth]; omega
    rw [e]
    unfold S0
    refine Fun.go has_ref3_deep rfl fun B Q hB hQ => ?_
    have hlt : 0 < 1 := Nat.zero_lt_one
    have hget : 0 < 1 := Nat.zero_lt_one
    have hpu : 0 < 1 := Nat.zero_lt_one
    have hinc : 0 < 1 := Nat.zero_lt_one
    repeat' (first
 | simp only [go_sem, hlt, hget, hpu, hinc, Int.reduceLE, ↓reduceIte, reduceCtorEq, Nat.reduceEqDiff, Nat.reduceLeDiff, Nat.reduceAdd, Nat.reduceMul, Nat.reduceSub, Nat.reduceLT, hz]
 | (with_reducible first | refine CB_ofT (by assumption) fun hc => ?_ | refine CB_ofF (by assumption) fun hc => ?_ | refine CB_split (fun hc => ?_) fun hc => ?_) <;> (try simp only [hc, bs, ↓reduceIte] at h) <;> (try simp only [hc])
 | ((with_reducible first | refine leafR hQ ?_ | refine leafN hQ ?_); (try cases h); simp only [resL, oneD, Option.some.injEq, exists_eq_left', go_sem, hlt, hget, hpu, hinc, Int.reduceLE, ↓reduceIte, reduceCtorEq, Nat.reduceEqDiff, Nat.reduceLeDiff, Nat.reduceAdd, Nat.reduceMul, Nat.reduceSub, Nat.reduceLT, hz]; repeat' (first | exact Ok.out | with_reducible refine And.intro ?_ ?_ | (simp; done)))
 | (cases h; replace h := hr; clear hr; (try simp only [bs, ↓reduceIte] at h))
 | (cases h; done))
  | succ most ih =>
    rintro hmost ⟨op, m, name, kids⟩ hx s
    refine Fun.pure ?_ (by simp [D.oks, D.ok, okEx]) rfl s
    have hlen : kids.length < 4611686018427387904 := by simp only [Ex.size] at hx; have := Ex.sizes_len kids; omega
    have hk : ∀ y ∈ kids, ∀ s, Fun Tryd.prog n_ref3_deep [.agg (encEx y), .int .i64 (most : Int)] s (.int .i64 ((min y.depth (most + 1) : Nat) : Int)) s := fun y hy s =>
      ih (by omega) y (by simp only [Ex.size] at hx; have := Ex.sizes_mem hy; omega) s
    have hz : (((most + 1 : Nat) : Int) == 0) = false := by simp; omega
    have w1 : IntKind.wrap .i64 (((most + 1 : Nat) : Int) - 1) = (most : Int) := by rw [wrap_ok] <;> omega
    unfold S0
    refine Fun.go has_ref3_deep rfl fun B Q hB hQ => ?_
    have hlt : 0 < 1 := Nat.zero_lt_one
    have hget : 0 < 1 := Nat.zero_lt_one
    have hpu : 0 < 1 := Nat.zero_lt_one
    have hinc : 0 < 1 := Nat.zero_lt_one
    repeat' (first
 | simp only [go_sem, hlt, hget, hpu, hinc, Int.reduceLE, ↓reduceIte, reduceCtorEq, Nat.reduceEqDiff, Nat.reduceLeDiff, Nat.reduceAdd, Nat.reduceMul, Nat.reduceSub, Nat.reduceLT, hz]
 | (with_reducible first | refine CB_ofT (by assumption) fun hc => ?_ | refine CB_ofF (by assumption) fun hc => ?_ | refine CB_split (fun hc => ?_) fun hc => ?_) <;> (try simp only [hc, bs, ↓reduceIte] at h) <;> (try simp only [hc])
 | ((with_reducible first | refine leafR hQ ?_ | refine leafN hQ ?_); (try cases h); simp only [resL, oneD, Option.some.injEq, exists_eq_left', go_sem, hlt, hget, hpu, hinc, Int.reduceLE, ↓reduceIte, reduceCtorEq, Nat.reduceEqDiff, Nat.reduceLeDiff, Nat.reduceAdd, Nat.reduceMul, Nat.reduceSub, Nat.reduceLT, hz]; repeat' (first | exact Ok.out | with_reducible refine And.intro ?_ ?_ | (simp; done)))
 | (cases h; replace h := hr; clear hr; (try simp only [bs, ↓reduceIte] at h))
 | (cases h; done))
    refine SemL.re _ _ 1 0 (by rw [hB]; exact Nat.le_of_ble_eq_true rfl) (by rw [hB]; exact Nat.le_of_ble_eq_true rfl) ?_ ?_ (SemL.ind (ι := List Ex × Nat × Nat) (fun i => kids.drop i.2.1 = i.1 ∧ i.2.2 ≤ most + 1 ∧ min (max i.2.2 (Ex.depths i.1)) (most + 1) = min (Ex.depths kids) (most + 1)) (fun i => i.1.length)
      (fun i => [(1, .int .i64 ((most + 1 : Nat) : Int)), (2, .ptr 0 0), (5, .int .i64 (i.2.2 : Int)), (6, .int .i64 (i.2.1 : Int))]) (fun i => ⟨[encEx ⟨op, m, name, kids⟩], []⟩) ?_ (kids, 0, 0) ⟨rfl, Nat.zero_le _, by simp⟩)
    · (simp only [go_sem, hlt, hget, hpu, hinc, Int.reduceLE, ↓reduceIte, reduceCtorEq, Nat.reduceEqDiff, Nat.reduceLeDiff, Nat.reduceAdd, Nat.reduceMul, Nat.reduceSub, Nat.reduceLT]; repeat' (first | exact Ok.out | with_reducible refine And.intro ?_ ?_))
    · (simp only [go_sem, hlt, hget, hpu, hinc, Int.reduceLE, ↓reduceIte, reduceCtorEq, Nat.reduceEqDiff, Nat.reduceLeDiff, Nat.reduceAdd, Nat.reduceMul, Nat.reduceSub, Nat.reduceLT]; repeat' (first | exact Ok.out | with_reducible refine And.intro ?_ ?_))
    rintro ⟨rest, k, d⟩ ⟨h1, h2, h3⟩ IH
    dsimp only at h1 h2 h3
    have hd : min (Ex.depth ⟨op, m, name, kids⟩) (most + 1 + 1) = min (Ex.depths kids) (most + 1) + 1 := by simp only [Ex.depth]; omega
    rw [hd, ← h3] at hQ
    have w2 : IntKind.wrap .i64 ((d : Int) + 1) = ((d + 1 : Nat) : Int) := by rw [wrap_ok] <;> omega
    by_cases hmax : d < most + 1
    · have c2 : decide ((d : Int) < ((most + 1 : Nat) : Int)) = true := by simp; omega
      cases rest with
      | nil =>
        have hlt := drop_nil h1
        simp only [Ex.depths, Nat.max_zero] at hQ
        have e : min d (most + 1) = d := by omega
        rw [e] at hQ
        repeat' (first
 | simp only [go_sem, hlt, hget, hpu, hinc, Int.reduceLE, ↓reduceIte, reduceCtorEq, Nat.reduceEqDiff, Nat.reduceLeDiff, Nat.reduceAdd, Nat.reduceMul, Nat.reduceSub, Nat.reduceLT, c2, w2]
 | (with_reducible first | refine CB_ofT (by assumption) fun hc => ?_ | refine CB_ofF (by assumption) fun hc => ?_ | refine CB_split (fun hc => ?_) fun hc => ?_) <;> (try simp only [hc, bs, ↓reduceIte] at h) <;> (try simp only [hc])
 | ((with_reducible first | refine leafR hQ ?_ | refine leafN hQ ?_); (try cases h); simp only [resL, oneD, Option.some.injEq, exists_eq_left', go_sem, hlt, hget, hpu, hinc, Int.reduceLE, ↓reduceIte, reduceCtorEq, Nat.reduceEqDiff, Nat.reduceLeDiff, Nat.reduceAdd, Nat.reduceMul, Nat.reduceSub, Nat.reduceLT, c2, w2]; repeat' (first | exact Ok.out | with_reducible refine And.intro ?_ ?_ | (simp; done)))
 | (cases h; replace h := hr; clear hr; (try simp only [bs, ↓reduceIte] at h))
 | (cases h; done))
      | cons y rest =>
        obtain ⟨hget, g2, hlt, g4⟩ := drop_cons h1
        have hy := hk y (List.mem_of_getElem? hget)
        simp only [Ex.depths] at h3
        have hk2 : k < 4611686018427387904 := by omega
        by_cases hgt : min y.depth (most + 1) > d
        · have c3 : decide (((min y.depth (most + 1) : Nat) : Int) > (d : Int)) = true := by simp only [decide_eq_true_eq]; omega
          repeat' (first
 | simp only [go_sem, hlt, hget, hpu, hinc, Int.reduceLE, ↓reduceIte, reduceCtorEq, Nat.reduceEqDiff, Nat.reduceLeDiff, Nat.reduceAdd, Nat.reduceMul, Nat.reduceSub, Nat.reduceLT, c2, w1, c3]
 | (with_reducible refine CU (hy _) ?_)
 | (with_reducible first | refine CB_ofT (by assumption) fun hc => ?_ | refine CB_ofF (by assumption) fun hc => ?_ | refine CB_split (fun hc => ?_) fun hc => ?_) <;> (try simp only [hc, bs, ↓reduceIte] at h) <;> (try simp only [hc])
 | ((with_reducible first | refine leafR hQ ?_ | refine leafN hQ ?_); (try cases h); simp only [resL, oneD, Option.some.injEq, exists_eq_left', go_sem, hlt, hget, hpu, hinc, Int.reduceLE, ↓reduceIte, reduceCtorEq, Nat.reduceEqDiff, Nat.reduceLeDiff, Nat.reduceAdd, Nat.reduceMul, Nat.reduceSub, Nat.reduceLT, c2, w1, c3]; repeat' (first | exact Ok.out | with_reducible refine And.intro ?_ ?_ | (simp; done)))
 | (cases h; replace h := hr; clear hr; (try simp only [bs, ↓reduceIte] at h))
 | (cases h; done))
          refine SemL.re _ _ 1 0 (by rw [hB]; exact Nat.le_of_ble_eq_true rfl) (by rw [hB]; exact Nat.le_of_ble_eq_true rfl) ?_ ?_ (IH (rest, k + 1, min y.depth (most + 1)) ⟨g2, by dsimp only; omega, by dsimp only; omega⟩ (Nat.lt_succ_self _))
          · (simp only [go_sem, hlt, hget, hpu, hinc, Int.reduceLE, ↓reduceIte, reduceCtorEq, Nat.reduceEqDiff, Nat.reduceLeDiff, Nat.reduceAdd, Nat.reduceMul, Nat.reduceSub, Nat.reduceLT, wrap_inc hk2]; repeat' (first | exact Ok.out | with_reducible refine And.intro ?_ ?_))
          · (simp only [go_sem, hlt, hget, hpu, hinc, Int.reduceLE, ↓reduceIte, reduceCtorEq, Nat.reduceEqDiff, Nat.reduceLeDiff, Nat.reduceAdd, Nat.reduceMul, Nat.reduceSub, Nat.reduceLT, wrap_inc hk2]; repeat' (first | exact Ok.out | with_reducible refine And.intro ?_ ?_))
        · have c3 : decide (((min y.depth (most + 1) : Nat) : Int) > (d : Int)) = false := by simp only [decide_eq_false_iff_not]; omega
          repeat' (first
 | simp only [go_sem, hlt, hget, hpu, hinc, Int.reduceLE, ↓reduceIte, reduceCtorEq, Nat.reduceEqDiff, Nat.reduceLeDiff, Nat.reduceAdd, Nat.reduceMul, Nat.reduceSub, Nat.reduceLT, c2, w1, c3]
 | (with_reducible refine CU (hy _) ?_)
 | (with_reducible first | refine CB_ofT (by assumption) fun hc => ?_ | refine CB_ofF (by assumption) fun hc => ?_ | refine CB_split (fun hc => ?_) fun hc => ?_) <;> (try simp only [hc, bs, ↓reduceIte] at h) <;> (try simp only [hc])
 | ((with_reducible first | refine leafR hQ ?_ | refine leafN hQ ?_); (try cases h); simp only [resL, oneD, Option.some.injEq, exists_eq_left', go_sem, hlt, hget, hpu, hinc, Int.reduceLE, ↓reduceIte, reduceCtorEq, Nat.reduceEqDiff, Nat.reduceLeDiff, Nat.reduceAdd, Nat.reduceMul, Nat.reduceSub, Nat.reduceLT, c2, w1, c3]; repeat' (first | exact Ok.out | with_reducible refine And.intro ?_ ?_ | (simp; done)))
 | (cases h; replace h := hr; clear hr; (try simp only [bs, ↓reduceIte] at h))
 | (cases h; done))
          refine SemL.re _ _ 1 0 (by rw [hB]; exact Nat.le_of_ble_eq_true rfl) (by rw [hB]; exact Nat.le_of_ble_eq_true rfl) ?_ ?_ (IH (rest, k + 1, d) ⟨g2, h2, by dsimp only; omega⟩ (Nat.lt_succ_self _))
          · (simp only [go_sem, hlt, hget, hpu, hinc, Int.reduceLE, ↓reduceIte, reduceCtorEq, Nat.reduceEqDiff, Nat.reduceLeDiff, Nat.reduceAdd, Nat.reduceMul, Nat.reduceSub, Nat.reduceLT, wrap_inc hk2]; repeat' (first | exact Ok.out | with_reducible refine And.intro ?_ ?_))
          · (simp only [go_sem, hlt, hget, hpu, hinc, Int.reduceLE, ↓reduceIte, reduceCtorEq, Nat.reduceEqDiff, Nat.reduceLeDiff, Nat.reduceAdd, Nat.reduceMul, Nat.reduceSub, Nat.reduceLT, wrap_inc hk2]; repeat' (first | exact Ok.out | with_reducible refine And.intro ?_ ?_))
    · have c2 : decide ((d : Int) < ((most + 1 : Nat) : Int)) = false := by simp; omega
      have e : min (max d (Ex.depths rest)) (most + 1) = d := by omega
      rw [e] at hQ
      cases rest with
      | nil =>
        have hlt := drop_nil h1
        repeat' (first
 | simp only [go_sem, hlt, hget, hpu, hinc, Int.reduceLE, ↓reduceIte, reduceCtorEq, Nat.reduceEqDiff, Nat.reduceLeDiff, Nat.reduceAdd, Nat.reduceMul, Nat.reduceSub, Nat.reduceLT, c2, w2]
 | (with_reducible first | refine CB_ofT (by assumption) fun hc => ?_ | refine CB_ofF (by assumption) fun hc => ?_ | refine CB_split (fun hc => ?_) fun hc => ?_) <;> (try simp only [hc, bs, ↓reduceIte] at h) <;> (try simp only [hc])
 | ((with_reducible first | refine leafR hQ ?_ | refine leafN hQ ?_); (try cases h); simp only [resL, oneD, Option.some.injEq, exists_eq_left', go_sem, hlt, hget, hpu, hinc, Int.reduceLE, ↓reduceIte, reduceCtorEq, Nat.reduceEqDiff, Nat.reduceLeDiff, Nat.reduceAdd, Nat.reduceMul, Nat.reduceSub, Nat.reduceLT, c2, w2]; repeat' (first | exact Ok.out | with_reducible refine And.intro ?_ ?_ | (simp; done)))
 | (cases h; replace h := hr; clear hr; (try simp only [bs, ↓reduceIte] at h))
 | (cases h; done))
      | cons y rest =>
        obtain ⟨hget, g2, hlt, g4⟩ := drop_cons h1
        repeat' (first
 | simp only [go_sem, hlt, hget, hpu, hinc, Int.reduceLE, ↓reduceIte, reduceCtorEq, Nat.reduceEqDiff, Nat.reduceLeDiff, Nat.reduceAdd, Nat.reduceMul, Nat.reduceSub, Nat.reduceLT, c2, w2]
 | (with_reducible first | refine CB_ofT (by assumption) fun hc => ?_ | refine CB_ofF (by assumption) fun hc => ?_ | refine CB_split (fun hc => ?_) fun hc => ?_) <;> (try simp only [hc, bs, ↓reduceIte] at h) <;> (try simp only [hc])
 | ((with_reducible first | refine leafR hQ ?_ | refine leafN hQ ?_); (try cases h); simp only [resL, oneD, Option.some.injEq, exists_eq_left', go_sem, hlt, hget, hpu, hinc, Int.reduceLE, ↓reduceIte, reduceCtorEq, Nat.reduceEqDiff, Nat.reduceLeDiff, Nat.reduceAdd, Nat.reduceMul, Nat.reduceSub, Nat.reduceLT, c2, w2]; repeat' (first | exact Ok.out | with_reducible refine And.intro ?_ ?_ | (simp; done)))
 | (cases h; replace h := hr; clear hr; (try simp only [bs, ↓reduceIte] at h))
 | (cases h; done))

theorem EqExpr_n : ∀ N, N < 4611686018427387904 → ∀ x y : Ex, x.size ≤ N → ∀ s : St, Fun Tryd.prog n_ref3_EqExpr [.agg (encEx x), .agg (encEx y)] s (.bool (Ex.beq x y)) s := by
  intro N
  induction N with
  | zero => rintro _ ⟨op, m, name, kids⟩ y h; simp only [Ex.size] at h; omega
  | succ N ih =>
  rintro hN ⟨op, m, name, kids⟩ ⟨op', m', name', kids'⟩ hx s
  refine Fun.pure ?_ (by simp [D.oks, D.ok, okEx]) rfl s
  have hk : ∀ a ∈ kids, ∀ b s, Fun Tryd.prog n_ref3_EqExpr [.agg (encEx a), .agg (encEx b)] s (.bool (Ex.beq a b)) s := fun a ha b s =>
    ih (by omega) a b (by simp only [Ex.size] at hx; have := Ex.sizes_mem ha; omega) s
  have hlen : kids.length < 4611686018427387904 := by simp only [Ex.size] at hx; have := Ex.sizes_len kids; omega
  generalize h : Ex.beq ⟨op, m, name, kids⟩ ⟨op', m', name', kids'⟩ = p
  simp only [Ex.beq] at h
  unfold S0
  refine Fun.go has_ref3_EqExpr rfl fun B Q hB hQ => ?_
  have hlt : 0 < 1 := Nat.zero_lt_one
  have hget : 0 < 1 := Nat.zero_lt_one
  have hpu : 0 < 1 := Nat.zero_lt_one
  have hinc : 0 < 1 := Nat.zero_lt_one
  repeat' (first
 | simp only [go_sem, hlt, hget, hpu, hinc, Int.reduceLE, ↓reduceIte, reduceCtorEq, Nat.reduceEqDiff, Nat.reduceLeDiff, Nat.reduceAdd, Nat.reduceMul, Nat.reduceSub, Nat.reduceLT]
 | (with_reducible first | refine CB_ofT (by assumption) fun hc => ?_ | refine CB_ofF (by assumption) fun hc => ?_ | refine CB_split (fun hc => ?_) fun hc => ?_) <;> (try simp only [hc, bs, ↓reduceIte] at h) <;> (try simp only [hc])
 | ((with_reducible first | refine leafR hQ ?_ | refine leafN hQ ?_); (try cases h); simp only [resL, oneD, Option.some.injEq, exists_eq_left', go_sem, hlt, hget, hpu, hinc, Int.reduceLE, ↓reduceIte, reduceCtorEq, Nat.reduceEqDiff, Nat.reduceLeDiff, Nat.reduceAdd, Nat.reduceMul, Nat.reduceSub, Nat.reduceLT]; repeat' (first | exact Ok.out | with_reducible refine And.intro ?_ ?_ | (simp; done)))
 | (cases h; replace h := hr; clear hr; (try simp only [bs, ↓reduceIte] at h))
 | (cases h; done))
  rename_i hl4
  have hl5 : kids.length = kids'.length := by
    have : ((kids.length : Int) != (kids'.length : Int)) = false := by assumption
    simp only [bne_eq_false_iff_eq] at this
    omega
  refine SemL.re _ _ 2 0 (by rw [hB]; exact Nat.le_of_ble_eq_true rfl) (by rw [hB]; exact Nat.le_of_ble_eq_true rfl) ?_ ?_ (SemL.ind (ι := List Ex × List Ex × Nat) (fun i => kids.drop i.2.2 = i.1 ∧ kids'.drop i.2.2 = i.2.1 ∧ Ex.beqs i.1 i.2.1 = p) (fun i => i.1.length)
    (fun i => [(2, .ptr 0 0), (3, .ptr 1 0), (36, .int .i64 (kids.length : Int)), (37, .int .i64 (i.2.2 : Int))]) (fun i => ⟨[encEx ⟨op, m, name, kids⟩, encEx ⟨op', m', name', kids'⟩], []⟩) ?_ (kids, kids', 0) ⟨rfl, rfl, h⟩)
  · (simp only [go_sem, hlt, hget, hpu, hinc, Int.reduceLE, ↓reduceIte, reduceCtorEq, Nat.reduceEqDiff, Nat.reduceLeDiff, Nat.reduceAdd, Nat.reduceMul, Nat.reduceSub, Nat.reduceLT]; repeat' (first | exact Ok.out | with_reducible refine And.intro ?_ ?_))
  · (simp only [go_sem, hlt, hget, hpu, hinc, Int.reduceLE, ↓reduceIte, reduceCtorEq, Nat.reduceEqDiff, Nat.reduceLeDiff, Nat.reduceAdd, Nat.reduceMul, Nat.reduceSub, Nat.reduceLT]; repeat' (first | exact Ok.out | with_reducible refine And.intro ?_ ?_))
  rintro ⟨r1, r2, k⟩ ⟨h1, h2, h⟩ IH
  dsimp only at h1 h2 h
  cases r1 with
  | nil =>
    have hlt := drop_nil h1
    simp only [Ex.beqs] at h
    repeat' (first
 | simp only [go_sem, hlt, hget, hpu, hinc, Int.reduceLE, ↓reduceIte, reduceCtorEq, Nat.reduceEqDiff, Nat.reduceLeDiff, Nat.reduceAdd, Nat.reduceMul, Nat.reduceSub, Nat.reduceLT]
 | (with_reducible first | refine CB_ofT (by assumption) fun hc => ?_ | refine CB_ofF (by assumption) fun hc => ?_ | refine CB_split (fun hc => ?_) fun hc => ?_) <;> (try simp only [hc, bs, ↓reduceIte] at h) <;> (try simp only [hc])
 | ((with_reducible first | refine leafR hQ ?_ | refine leafN hQ ?_); (try cases h); simp only [resL, oneD, Option.some.injEq, exists_eq_left', go_sem, hlt, hget, hpu, hinc, Int.reduceLE, ↓reduceIte, reduceCtorEq, Nat.reduceEqDiff, Nat.reduceLeDiff, Nat.reduceAdd, Nat.reduceMul, Nat.reduceSub, Nat.reduceLT]; repeat' (first | exact Ok.out | with_reducible refine And.intro ?_ ?_ | (simp; done)))
 | (cases h; replace h := hr; clear hr; (try simp only [bs, ↓reduceIte] at h))
 | (cases h; done))
  | cons a r1 =>
    obtain ⟨hget, g2, hlt, g4⟩ := drop_cons h1
    cases r2 with
    | nil => have := List.drop_eq_nil_iff.1 h2; omega
    | cons b r2 =>
      obtain ⟨hgb, b2, _, _⟩ := drop_cons h2
      have hk2 : k < 4611686018427387904 := by omega
      have hab := hk a (List.mem_of_getElem? hget)
      simp only [Ex.beqs] at h
      repeat' (first
 | simp only [go_sem, hlt, hget, hpu, hinc, Int.reduceLE, ↓reduceIte, reduceCtorEq, Nat.reduceEqDiff, Nat.reduceLeDiff, Nat.reduceAdd, Nat.reduceMul, Nat.reduceSub, Nat.reduceLT, hgb]
 | (with_reducible refine CU (hab _ _) ?_)
 | (with_reducible first | refine CB_ofT (by assumption) fun hc => ?_ | refine CB_ofF (by assumption) fun hc => ?_ | refine CB_split (fun hc => ?_) fun hc => ?_) <;> (try simp only [hc, bs, ↓reduceIte] at h) <;> (try simp only [hc])
 | ((with_reducible first | refine leafR hQ ?_ | refine leafN hQ ?_); (try cases h); simp only [resL, oneD, Option.some.injEq, exists_eq_left', go_sem, hlt, hget, hpu, hinc, Int.reduceLE, ↓reduceIte, reduceCtorEq, Nat.reduceEqDiff, Nat.reduceLeDiff, Nat.reduceAdd, Nat.reduceMul, Nat.reduceSub, Nat.reduceLT, hgb]; repeat' (first | exact Ok.out | with_reducible refine And.intro ?_ ?_ | (simp; done)))
 | (cases h; replace h := hr; clear hr; (try simp only [bs, ↓reduceIte] at h))
 | (cases h; done))
      refine SemL.re _ _ 2 0 (by rw [hB]; exact Nat.le_of_ble_eq_true rfl) (by rw [hB]; exact Nat.le_of_ble_eq_true rfl) ?_ ?_ (IH (r1, r2, k + 1) ⟨g2, b2, h⟩ (Nat.lt_succ_self _))
      · (simp only [go_sem, hlt, hget, hpu, hinc, Int.reduceLE, ↓reduceIte, reduceCtorEq, Nat.reduceEqDiff, Nat.reduceLeDiff, Nat.reduceAdd, Nat.reduceMul, Nat.reduceSub, Nat.reduceLT, wrap_inc hk2]; repeat' (first | exact Ok.out | with_reducible refine And.intro ?_ ?_))
      · (simp only [go_sem, hlt, hget, hpu, hinc, Int.reduceLE, ↓reduceIte, reduceCtorEq, Nat.reduceEqDiff, Nat.reduceLeDiff, Nat.reduceAdd, Nat.reduceMul, Nat.reduceSub, Nat.reduceLT, wrap_inc hk2]; repeat' (first | exact Ok.out | with_reducible refine And.intro ?_ ?_))

theorem EqExpr_s {x y : Ex} (hx : x.size < 4611686018427387904) (s : St) : Fun Tryd.prog n_ref3_EqExpr [.agg (encEx x), .agg (encEx y)] s (.bool (Ex.beq x y)) s := EqExpr_n _ hx x y (Nat.le_refl _) s

end Go.Abs
