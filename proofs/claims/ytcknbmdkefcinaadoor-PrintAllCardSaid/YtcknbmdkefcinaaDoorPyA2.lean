/-
  What is proved here: part 2 of the road to the claim (Codes1, Have1, Codes2, Have2, Codes3, Have3, Prs, Lex1, Lex2, RefLex1, Prs2, Ref1, Ref2, Ref3, RefMay1, Full1, Full2, MirEq, RefEq, RefEq2, Prs3, Prs4, Prs5, Prs6, Lex3, Tree1, Tree2, MirParse, Prs7, Room1, Binds1, Full3, Rng, RefMay2).
  No conditions.
-/
import Derived.Test.YtcknbmdkefcinaaDoorPyA1
import Derived.Test.YtcknbmdkefcinaaDoorProg
import Derived.KernelRfl

set_option linter.unusedSimpArgs false
set_option linter.unusedVariables false

/-! Codes1 -/

namespace Go.Abs

abbrev QAY : AC := .run [(.op (some 6) none (.mv (.s 1))), (.op (some 7) none (.bin .gtr (.s 6) (.k (.int .i64 0))))]
abbrev QAZ : AC := .cond (.s 7) .skip (.exit 0)
abbrev QB0 : AC := .seq QAY QAZ
abbrev QB1 : AC := .run [(.op (some 10) none (.mv (.s 0))), (.op (some 11) none (.nilck (.s 10))), (.op (some 12) none (.faddr (.s 11) 0)), (.call (some 13) none n_strings_Builder_WriteByte [(.s 12), (.k (.int .u8 32))])]
abbrev QB2 : AC := .block 1 QB1
abbrev QB3 : AC := .run [(.op (some 8) none (.mv (.s 1))), (.op (some 9) none (.bin .sub (.s 8) (.k (.int .i64 1)))), (.op (some 1) none (.mv (.s 9)))]
abbrev QB4 : AC := .seq QB2 QB3
abbrev QB5 : AC := .seq QB0 QB4
abbrev QB6 : AC := .loop QB5
abbrev QB7 : AC := .block 0 QB6
abbrev QB8 : AC := .run [(.op (some 14) none (.mv (.s 0))), (.op (some 15) none (.nilck (.s 14))), (.op (some 16) none (.faddr (.s 15) 0)), (.op (some 17) none (.mv (.s 2))), (.call (some 18) none n_strings_Builder_WriteString [(.s 16), (.s 17)])]
abbrev QB9 : AC := .run [(.op (some 19) none (.mv (.s 0))), (.op (some 20) none (.nilck (.s 19))), (.op (some 21) none (.faddr (.s 20) 0)), (.call (some 22) none n_strings_Builder_WriteByte [(.s 21), (.k (.int .u8 10))])]
abbrev QBA : AC := .seq QB8 QB9
abbrev QBB : AC := .seq QB7 QBA
abbrev QBC : AC := .run [(.op (some 2) none (.mv (.k (.str []))))]
abbrev QBD : AC := .run [(.op (some 3) none (.mv (.s 0)))]
abbrev QBE : AC := .run [(.op (some 2) none (.mv (.k (.str [114, 101, 102, 32]))))]
abbrev QBF : AC := .seq QBE .ret
abbrev QBG : AC := .cond (.s 3) QBF .skip
abbrev QBH : AC := .seq QBD QBG
abbrev QBI : AC := .run [(.op (some 2) none (.mv (.k (.str []))))]
abbrev QBJ : AC := .seq QBI .ret
abbrev QBK : AC := .seq QBH QBJ
abbrev QBL : AC := .seq QBC QBK
abbrev QBM : AC := .run [(.op (some 9) none (.mv (.s 1))), (.op (some 10) none (.len (.s 9))), (.op (some 11) none (.mv (.k (.int .i64 0))))]
abbrev QBN : AC := .run [(.op (some 12) none (.bin .lss (.s 11) (.s 10)))]
abbrev QBO : AC := .cond (.s 12) .skip (.exit 0)
abbrev QBP : AC := .run [(.op (some 13) none (.iaddr (.s 9) (.s 11) 13)), (.op (some 14) none (.load (.s 13) true 13)), (.op (some 7) none (.alloc [(.int .i64 0), (.int .i64 0), (.slice .full 0 []), (.str []), (.str []), (.int .i64 0), (.int .i64 0), (.str []), (.slice .full 0 []), (.bool false), (.slice .full 0 []), (.slice .full 0 []), (.slice .full 0 [])])), (.op none none (.store (.s 7) (.s 14) 13))]
abbrev QBQ : AC := .run [(.op (some 15) none (.faddr (.s 7) 2)), (.op (some 16) none (.load (.s 15) false 1)), (.call (some 17) none n_print_marks [(.s 16)]), (.op (some 8) none (.mv (.s 17)))]
abbrev QBR : AC := .run [(.op (some 18) none (.faddr (.s 7) 1)), (.op (some 19) none (.load (.s 18) false 1))]
abbrev QBS : AC := .run [(.op (some 29) none (.bin .eql (.s 19) (.k (.int .i64 6)))), (.op (some 28) none (.mv (.s 29)))]
abbrev QBT : AC := .run [(.op (some 30) none (.mv (.s 0))), (.op (some 31) none (.mv (.s 2))), (.op (some 32) none (.mv (.s 8))), (.op (some 33) none (.bin .add (.s 32) (.k (.str [119, 104, 105, 108, 101, 32, 40])))), (.op (some 34) none (.faddr (.s 7) 5)), (.op (some 35) none (.load (.s 34) true 4)), (.call (some 36) none n_print_expr [(.s 35), (.k (.int .i64 0))]), (.op (some 37) none (.bin .add (.s 33) (.s 36))), (.op (some 38) none (.bin .add (.s 37) (.k (.str [41, 32, 123])))), (.call (some 39) none n_print_writer_line [(.s 30), (.s 31), (.s 38)])]
abbrev QBU : AC := .run [(.op (some 40) none (.mv (.s 0))), (.op (some 41) none (.faddr (.s 7) 11)), (.op (some 42) none (.load (.s 41) false 1)), (.op (some 43) none (.mv (.s 2))), (.op (some 44) none (.bin .add (.s 43) (.k (.int .i64 1)))), (.call (some 45) none n_print_writer_rows [(.s 40), (.s 42), (.s 44)])]
abbrev QBV : AC := .run [(.op (some 46) none (.mv (.s 0))), (.op (some 47) none (.mv (.s 2))), (.call (some 48) none n_print_writer_line [(.s 46), (.s 47), (.k (.str [125]))])]
abbrev QBW : AC := .seq QBU QBV
abbrev QBX : AC := .seq QBT QBW
abbrev QBY : AC := .run [(.op (some 50) none (.bin .eql (.s 19) (.k (.int .i64 5)))), (.op (some 49) none (.mv (.s 50)))]
abbrev QBZ : AC := .run [(.op (some 51) none (.mv (.s 0))), (.op (some 52) none (.mv (.s 2))), (.op (some 53) none (.mv (.s 8))), (.op (some 54) none (.bin .add (.s 53) (.k (.str [105, 102, 32, 40])))), (.op (some 55) none (.faddr (.s 7) 5)), (.op (some 56) none (.load (.s 55) true 4)), (.call (some 57) none n_print_expr [(.s 56), (.k (.int .i64 0))]), (.op (some 58) none (.bin .add (.s 54) (.s 57))), (.op (some 59) none (.bin .add (.s 58) (.k (.str [41, 32, 123])))), (.call (some 60) none n_print_writer_line [(.s 51), (.s 52), (.s 59)])]
abbrev QC0 : AC := .run [(.op (some 61) none (.mv (.s 0))), (.op (some 62) none (.faddr (.s 7) 11)), (.op (some 63) none (.load (.s 62) false 1)), (.op (some 64) none (.mv (.s 2))), (.op (some 65) none (.bin .add (.s 64) (.k (.int .i64 1)))), (.call (some 66) none n_print_writer_rows [(.s 61), (.s 63), (.s 65)])]
abbrev QC1 : AC := .run [(.op (some 67) none (.faddr (.s 7) 12)), (.op (some 68) none (.load (.s 67) false 1)), (.op (some 69) none (.len (.s 68))), (.op (some 70) none (.bin .gtr (.s 69) (.k (.int .i64 0))))]
abbrev QC2 : AC := .run [(.op (some 71) none (.mv (.s 0))), (.op (some 72) none (.mv (.s 2))), (.call (some 73) none n_print_writer_line [(.s 71), (.s 72), (.k (.str [125, 32, 101, 108, 115, 101, 32, 123]))])]
abbrev QC3 : AC := .run [(.op (some 74) none (.mv (.s 0))), (.op (some 75) none (.faddr (.s 7) 12)), (.op (some 76) none (.load (.s 75) false 1)), (.op (some 77) none (.mv (.s 2))), (.op (some 78) none (.bin .add (.s 77) (.k (.int .i64 1)))), (.call (some 79) none n_print_writer_rows [(.s 74), (.s 76), (.s 78)])]
abbrev QC4 : AC := .seq QC2 QC3
abbrev QC5 : AC := .cond (.s 70) QC4 .skip
abbrev QC6 : AC := .seq QC1 QC5
abbrev QC7 : AC := .run [(.op (some 80) none (.mv (.s 0))), (.op (some 81) none (.mv (.s 2))), (.call (some 82) none n_print_writer_line [(.s 80), (.s 81), (.k (.str [125]))])]
abbrev QC8 : AC := .seq QC6 QC7
abbrev QC9 : AC := .seq QC0 QC8
abbrev QCA : AC := .seq QBZ QC9
abbrev QCB : AC := .run [(.op (some 20) none (.mv (.s 0))), (.op (some 21) none (.mv (.s 2))), (.op (some 22) none (.mv (.s 8))), (.op (some 23) none (.load (.s 7) true 13)), (.call (some 24) none n_print_plain [(.s 23)]), (.op (some 25) none (.bin .add (.s 22) (.s 24))), (.op (some 26) none (.bin .add (.s 25) (.k (.str [59])))), (.call (some 27) none n_print_writer_line [(.s 20), (.s 21), (.s 26)])]
abbrev QCC : AC := .cond (.s 49) QCA QCB
abbrev QCD : AC := .seq QBY QCC
abbrev QCE : AC := .cond (.s 28) QBX QCD
abbrev QCF : AC := .seq QBS QCE
abbrev QCG : AC := .block 2 QCF
abbrev QCH : AC := .seq QBR QCG
abbrev QCI : AC := .seq QBQ QCH
abbrev QCJ : AC := .seq QBP QCI
abbrev QCK : AC := .block 1 QCJ
abbrev QCL : AC := .run [(.op (some 83) none (.bin .add (.s 11) (.k (.int .i64 1)))), (.op (some 11) none (.mv (.s 83)))]
abbrev QCM : AC := .seq QCK QCL
abbrev QCN : AC := .seq QBO QCM
abbrev QCO : AC := .seq QBN QCN
abbrev QCP : AC := .loop QCO
abbrev QCQ : AC := .block 0 QCP
abbrev QCR : AC := .seq QBM QCQ
abbrev QCS : AC := .run [(.op (some 2) none (.mv (.k (.str []))))]
abbrev QCT : AC := .run [(.op (some 3) none (.mv (.k (.str []))))]
abbrev QCU : AC := .run [(.op (some 6) none (.mv (.s 0))), (.op (some 7) none (.len (.s 6))), (.op (some 8) none (.mv (.k (.int .i64 0))))]
abbrev QCV : AC := .run [(.op (some 9) none (.bin .lss (.s 8) (.s 7)))]
abbrev QCW : AC := .cond (.s 9) .skip (.exit 0)
abbrev QCX : AC := .run [(.op (some 10) none (.iaddr (.s 6) (.s 8) 1)), (.op (some 11) none (.load (.s 10) false 1)), (.op (some 5) none (.mv (.s 11)))]
abbrev QCY : AC := .run [(.op (some 12) none (.mv (.s 3))), (.op (some 13) none (.mv (.s 5))), (.op (some 14) none (.bin .add (.s 13) (.k (.str [58, 32])))), (.op (some 15) none (.bin .add (.s 12) (.s 14))), (.op (some 3) none (.mv (.s 15)))]
abbrev QCZ : AC := .seq QCX QCY
abbrev QD0 : AC := .block 1 QCZ
abbrev QD1 : AC := .run [(.op (some 16) none (.bin .add (.s 8) (.k (.int .i64 1)))), (.op (some 8) none (.mv (.s 16)))]
abbrev QD2 : AC := .seq QD0 QD1
abbrev QD3 : AC := .seq QCW QD2
abbrev QD4 : AC := .seq QCV QD3
abbrev QD5 : AC := .loop QD4
abbrev QD6 : AC := .block 0 QD5
abbrev QD7 : AC := .seq QCU QD6
abbrev QD8 : AC := .run [(.op (some 17) none (.mv (.s 3))), (.op (some 2) none (.mv (.s 17)))]
abbrev QD9 : AC := .seq QD8 .ret
abbrev QDA : AC := .seq QD7 QD9
abbrev QDB : AC := .seq QCT QDA
abbrev QDC : AC := .seq QCS QDB
abbrev QDD : AC := .run [(.op (some 4) none (.mv (.k (.str []))))]
abbrev QDE : AC := .run [(.op (some 5) none (.mv (.k (.str []))))]
abbrev QDF : AC := .run [(.op (some 7) none (.mv (.s 0))), (.op (some 8) none (.len (.s 7))), (.op (some 9) none (.mv (.k (.int .i64 0))))]
abbrev QDG : AC := .run [(.op (some 10) none (.bin .lss (.s 9) (.s 8)))]
abbrev QDH : AC := .cond (.s 10) .skip (.exit 0)
abbrev QDI : AC := .run [(.op (some 11) none (.mv (.s 9))), (.op (some 6) none (.mv (.s 11)))]
abbrev QDJ : AC := .run [(.op (some 12) none (.mv (.s 6))), (.op (some 13) none (.bin .gtr (.s 12) (.k (.int .i64 0))))]
abbrev QDK : AC := .run [(.op (some 14) none (.mv (.s 5))), (.op (some 15) none (.mv (.s 1))), (.op (some 16) none (.bin .add (.s 14) (.s 15))), (.op (some 5) none (.mv (.s 16)))]
abbrev QDL : AC := .cond (.s 13) QDK .skip
abbrev QDM : AC := .seq QDJ QDL
abbrev QDN : AC := .run [(.op (some 17) none (.mv (.s 5))), (.op (some 18) none (.mv (.s 0))), (.op (some 19) none (.mv (.s 6))), (.op (some 20) none (.iaddr (.s 18) (.s 19) 1)), (.op (some 21) none (.load (.s 20) false 1)), (.op (some 22) none (.bin .add (.s 17) (.s 21))), (.op (some 5) none (.mv (.s 22)))]
abbrev QDO : AC := .seq QDM QDN
abbrev QDP : AC := .seq QDI QDO
abbrev QDQ : AC := .block 1 QDP
abbrev QDR : AC := .run [(.op (some 23) none (.bin .add (.s 9) (.k (.int .i64 1)))), (.op (some 9) none (.mv (.s 23)))]
abbrev QDS : AC := .seq QDQ QDR
abbrev QDT : AC := .seq QDH QDS
abbrev QDU : AC := .seq QDG QDT
abbrev QDV : AC := .loop QDU
abbrev QDW : AC := .block 0 QDV
abbrev QDX : AC := .seq QDF QDW
abbrev QDY : AC := .run [(.op (some 24) none (.mv (.s 5))), (.op (some 4) none (.mv (.s 24)))]
abbrev QDZ : AC := .seq QDY .ret
abbrev QE0 : AC := .seq QDX QDZ
abbrev QE1 : AC := .seq QDE QE0
abbrev QE2 : AC := .seq QDD QE1
abbrev QE3 : AC := .run [(.op (some 4) none (.mv (.k (.str []))))]
abbrev QE4 : AC := .run [(.op (some 5) none (.mv (.k (.str []))))]
abbrev QE5 : AC := .run [(.op (some 8) none (.mv (.s 0))), (.op (some 9) none (.len (.s 8))), (.op (some 10) none (.mv (.k (.int .i64 0))))]
abbrev QE6 : AC := .run [(.op (some 11) none (.bin .lss (.s 10) (.s 9)))]
abbrev QE7 : AC := .cond (.s 11) .skip (.exit 0)
abbrev QE8 : AC := .run [(.op (some 12) none (.iaddr (.s 8) (.s 10) 13)), (.op (some 13) none (.load (.s 12) true 13)), (.op (some 7) none (.alloc [(.int .i64 0), (.int .i64 0), (.slice .full 0 []), (.str []), (.str []), (.int .i64 0), (.int .i64 0), (.str []), (.slice .full 0 []), (.bool false), (.slice .full 0 []), (.slice .full 0 []), (.slice .full 0 [])])), (.op none none (.store (.s 7) (.s 13) 13))]
abbrev QE9 : AC := .par [(.op (some 14) none (.mv (.s 5))), (.op (some 15) none (.mv (.s 1))), (.op (some 16) none (.faddr (.s 7) 2)), (.op (some 17) none (.load (.s 16) false 1)), (.call (some 18) none n_ref3_with [(.s 17), (.k (.str [58, 32]))]), (.op (some 19) none (.bin .add (.s 15) (.s 18))), (.op (some 20) none (.load (.s 7) true 13)), (.call (some 21) none n_ref3_line [(.s 20)]), (.op (some 22) none (.bin .add (.s 19) (.s 21))), (.op (some 23) none (.bin .add (.s 22) (.k (.str [10])))), (.op (some 24) none (.bin .add (.s 14) (.s 23))), (.op (some 5) none (.mv (.s 24)))] [(2, 0), (3, 0), (4, 0), (6, 1), (7, 0), (0, 0), (1, 0), (5, 0), (8, 0), (9, 0), (10, 0), (11, 0)]
abbrev QEA : AC := .run [(.op (some 25) none (.faddr (.s 7) 1)), (.op (some 26) none (.load (.s 25) false 1)), (.op (some 27) none (.bin .eql (.s 26) (.k (.int .i64 5)))), (.op (some 28) none (.mv (.s 27))), (.op (some 29) (some (28, false)) (.faddr (.s 7) 1)), (.op (some 30) (some (28, false)) (.load (.s 29) false 1)), (.op (some 31) (some (28, false)) (.bin .eql (.s 30) (.k (.int .i64 6)))), (.op (some 32) none (.pick (.s 28) (.k (.bool true)) (.s 31)))]
abbrev QEB : AC := .run [(.op (some 33) none (.mv (.s 5))), (.op (some 34) none (.faddr (.s 7) 11)), (.op (some 35) none (.load (.s 34) false 1)), (.op (some 36) none (.mv (.s 1))), (.op (some 37) none (.bin .add (.s 36) (.k (.str [32])))), (.call (some 38) none n_ref3_rows [(.s 35), (.s 37)]), (.op (some 39) none (.bin .add (.s 33) (.s 38))), (.op (some 5) none (.mv (.s 39)))]
abbrev QEC : AC := .run [(.op (some 40) none (.faddr (.s 7) 12)), (.op (some 41) none (.load (.s 40) false 1)), (.op (some 42) none (.len (.s 41))), (.op (some 43) none (.bin .gtr (.s 42) (.k (.int .i64 0))))]
abbrev QED : AC := .run [(.op (some 44) none (.mv (.s 5))), (.op (some 45) none (.mv (.s 1))), (.op (some 46) none (.bin .add (.s 45) (.k (.str [125, 32, 101, 108, 115, 101, 32, 123, 10])))), (.op (some 47) none (.faddr (.s 7) 12)), (.op (some 48) none (.load (.s 47) false 1)), (.op (some 49) none (.mv (.s 1))), (.op (some 50) none (.bin .add (.s 49) (.k (.str [32])))), (.call (some 51) none n_ref3_rows [(.s 48), (.s 50)]), (.op (some 52) none (.bin .add (.s 46) (.s 51))), (.op (some 53) none (.bin .add (.s 44) (.s 52))), (.op (some 5) none (.mv (.s 53)))]
abbrev QEE : AC := .cond (.s 43) QED .skip
abbrev QEF : AC := .seq QEC QEE
abbrev QEG : AC := .run [(.op (some 54) none (.mv (.s 5))), (.op (some 55) none (.mv (.s 1))), (.op (some 56) none (.bin .add (.s 55) (.k (.str [125, 10])))), (.op (some 57) none (.bin .add (.s 54) (.s 56))), (.op (some 5) none (.mv (.s 57)))]
abbrev QEH : AC := .seq QEF QEG
abbrev QEI : AC := .seq QEB QEH
abbrev QEJ : AC := .cond (.s 32) QEI .skip
abbrev QEK : AC := .seq QEA QEJ
abbrev QEL : AC := .seq QE9 QEK
abbrev QEM : AC := .seq QE8 QEL
abbrev QEN : AC := .block 1 QEM
abbrev QEO : AC := .run [(.op (some 58) none (.bin .add (.s 10) (.k (.int .i64 1)))), (.op (some 10) none (.mv (.s 58)))]
abbrev QEP : AC := .seq QEN QEO
abbrev QEQ : AC := .seq QE7 QEP
abbrev QER : AC := .seq QE6 QEQ
abbrev QES : AC := .loop QER
abbrev QET : AC := .block 0 QES
abbrev QEU : AC := .seq QE5 QET
abbrev QEV : AC := .run [(.op (some 59) none (.mv (.s 5))), (.op (some 4) none (.mv (.s 59)))]
abbrev QEW : AC := .seq QEV .ret
abbrev QEX : AC := .seq QEU QEW
abbrev QEY : AC := .seq QE4 QEX
abbrev QEZ : AC := .seq QE3 QEY
abbrev QF0 : AC := .run [(.op (some 4) none (.mv (.k (.str []))))]
abbrev QF1 : AC := .run [(.op (some 5) none (.mv (.k (.str []))))]
abbrev QF2 : AC := .run [(.op (some 7) none (.mv (.s 0))), (.op (some 8) none (.len (.s 7))), (.op (some 9) none (.mv (.k (.int .i64 0))))]
abbrev QF3 : AC := .run [(.op (some 10) none (.bin .lss (.s 9) (.s 8)))]
abbrev QF4 : AC := .cond (.s 10) .skip (.exit 0)
abbrev QF5 : AC := .run [(.op (some 11) none (.mv (.s 9))), (.op (some 6) none (.mv (.s 11)))]
abbrev QF6 : AC := .run [(.op (some 12) none (.mv (.s 5))), (.op (some 13) none (.mv (.s 0))), (.op (some 14) none (.mv (.s 6))), (.op (some 15) none (.iaddr (.s 13) (.s 14) 1)), (.op (some 16) none (.load (.s 15) false 1)), (.op (some 17) none (.mv (.s 1))), (.op (some 18) none (.bin .add (.s 16) (.s 17))), (.op (some 19) none (.bin .add (.s 12) (.s 18))), (.op (some 5) none (.mv (.s 19)))]
abbrev QF7 : AC := .seq QF5 QF6
abbrev QF8 : AC := .block 1 QF7
abbrev QF9 : AC := .run [(.op (some 20) none (.bin .add (.s 9) (.k (.int .i64 1)))), (.op (some 9) none (.mv (.s 20)))]
abbrev QFA : AC := .seq QF8 QF9
abbrev QFB : AC := .seq QF4 QFA
abbrev QFC : AC := .seq QF3 QFB
abbrev QFD : AC := .loop QFC
abbrev QFE : AC := .block 0 QFD
abbrev QFF : AC := .seq QF2 QFE
abbrev QFG : AC := .run [(.op (some 21) none (.mv (.s 5))), (.op (some 4) none (.mv (.s 21)))]
abbrev QFH : AC := .seq QFG .ret
abbrev QFI : AC := .seq QFF QFH
abbrev QFJ : AC := .seq QF1 QFI
abbrev QFK : AC := .seq QF0 QFJ
abbrev QFL : AC := .run [(.op (some 2) none (.box (.s 0))), (.op (some 4) none (.mv (.k (.int .i64 0))))]
abbrev QFM : AC := .run [(.op (some 6) none (.faddr (.s 2) 2)), (.op (some 7) none (.load (.s 6) false 1)), (.op (some 8) none (.mv (.s 1))), (.call (some 9) none n_ref3_weighText [(.s 7), (.s 8)]), (.op (some 1) none (.mv (.s 9)))]
abbrev QFN : AC := .run [(.op (some 5) none (.mv (.k (.int .i64 0))))]
abbrev QFO : AC := .run [(.op (some 10) none (.mv (.s 5))), (.op (some 11) none (.faddr (.s 2) 3)), (.op (some 12) none (.load (.s 11) false 1)), (.op (some 13) none (.len (.s 12))), (.op (some 14) none (.bin .lss (.s 10) (.s 13))), (.op (some 15) none (.mv (.s 14))), (.op (some 16) (some (15, true)) (.mv (.s 1))), (.op (some 17) (some (15, true)) (.bin .leq (.s 16) (.k (.int .i64 20000)))), (.op (some 18) none (.pick (.s 15) (.s 17) (.k (.bool false))))]
abbrev QFP : AC := .cond (.s 18) .skip (.exit 0)
abbrev QFQ : AC := .seq QFO QFP
abbrev QFR : AC := .run [(.op (some 21) none (.faddr (.s 2) 3)), (.op (some 22) none (.load (.s 21) false 1)), (.op (some 23) none (.mv (.s 5))), (.op (some 24) none (.iaddr (.s 22) (.s 23) 4)), (.op (some 25) none (.load (.s 24) true 4)), (.op (some 26) none (.mv (.s 1))), (.call (some 27) none n_ref3_weighExpr [(.s 25), (.s 26)]), (.op (some 1) none (.mv (.s 27)))]
abbrev QFS : AC := .block 1 QFR
abbrev QFT : AC := .run [(.op (some 19) none (.mv (.s 5))), (.op (some 20) none (.bin .add (.s 19) (.k (.int .i64 1)))), (.op (some 5) none (.mv (.s 20)))]
abbrev QFU : AC := .seq QFS QFT
abbrev QFV : AC := .seq QFQ QFU
abbrev QFW : AC := .loop QFV
abbrev QFX : AC := .block 0 QFW
abbrev QFY : AC := .seq QFN QFX
abbrev QFZ : AC := .run [(.op (some 28) none (.mv (.s 1))), (.op (some 4) none (.mv (.s 28)))]
abbrev QG0 : AC := .seq QFZ .ret
abbrev QG1 : AC := .seq QFY QG0
abbrev QG2 : AC := .seq QFM QG1
abbrev QG3 : AC := .seq QFL QG2
abbrev QG4 : AC := .run [(.op (some 1) none (.box (.s 0))), (.op (some 2) none (.mv (.k (.bool false))))]
abbrev QG5 : AC := .run [(.op (some 3) none (.load (.s 1) true 4)), (.call (some 4) none n_tree_deep [(.s 3), (.k (.int .i64 20))]), (.op (some 2) none (.mv (.s 4)))]
abbrev QG6 : AC := .seq QG5 .ret
abbrev QG7 : AC := .seq QG4 QG6
abbrev QG8 : AC := .run [(.op (some 2) none (.box (.s 0))), (.op (some 4) none (.mv (.k (.str []))))]
abbrev QG9 : AC := .run [(.op (some 8) none (.faddr (.s 2) 0)), (.op (some 9) none (.load (.s 8) false 1))]
abbrev QGA : AC := .run [(.op (some 11) none (.bin .eql (.s 9) (.k (.int .i64 1)))), (.op (some 10) none (.mv (.s 11)))]
abbrev QGB : AC := .run [(.op (some 12) none (.faddr (.s 2) 1)), (.op (some 13) none (.load (.s 12) false 1)), (.call (some 14) none n_strconv_FormatInt [(.s 13), (.k (.int .i64 10))]), (.op (some 4) none (.mv (.s 14)))]
abbrev QGC : AC := .seq QGB .ret
abbrev QGD : AC := .run [(.op (some 16) none (.bin .eql (.s 9) (.k (.int .i64 2)))), (.op (some 15) none (.mv (.s 16)))]
abbrev QGE : AC := .run [(.op (some 17) none (.faddr (.s 2) 2)), (.op (some 18) none (.load (.s 17) false 1)), (.op (some 4) none (.mv (.s 18)))]
abbrev QGF : AC := .seq QGE .ret
abbrev QGG : AC := .run [(.op (some 20) none (.bin .eql (.s 9) (.k (.int .i64 3)))), (.op (some 19) none (.mv (.s 20)))]
abbrev QGH : AC := .run [(.op (some 21) none (.faddr (.s 2) 3)), (.op (some 22) none (.load (.s 21) false 1)), (.op (some 23) none (.iaddr (.s 22) (.k (.int .i64 0)) 4)), (.op (some 24) none (.load (.s 23) true 4)), (.call (some 25) none n_print_expr [(.s 24), (.k (.int .i64 7))]), (.op (some 26) none (.bin .add (.k (.str [45])) (.s 25))), (.op (some 4) none (.mv (.s 26)))]
abbrev QGI : AC := .seq QGH .ret
abbrev QGJ : AC := .run [(.op (some 28) none (.bin .eql (.s 9) (.k (.int .i64 4)))), (.op (some 27) none (.mv (.s 28)))]
abbrev QGK : AC := .run [(.op (some 29) none (.faddr (.s 2) 3)), (.op (some 30) none (.load (.s 29) false 1)), (.op (some 31) none (.iaddr (.s 30) (.k (.int .i64 0)) 4)), (.op (some 32) none (.load (.s 31) true 4)), (.call (some 33) none n_print_expr [(.s 32), (.k (.int .i64 7))]), (.op (some 34) none (.bin .add (.k (.str [33])) (.s 33))), (.op (some 4) none (.mv (.s 34)))]
abbrev QGL : AC := .seq QGK .ret
abbrev QGM : AC := .cond (.s 27) QGL .skip
abbrev QGN : AC := .seq QGJ QGM
abbrev QGO : AC := .cond (.s 19) QGI QGN
abbrev QGP : AC := .seq QGG QGO
abbrev QGQ : AC := .cond (.s 15) QGF QGP
abbrev QGR : AC := .seq QGD QGQ
abbrev QGS : AC := .cond (.s 10) QGC QGR
abbrev QGT : AC := .seq QGA QGS
abbrev QGU : AC := .block 0 QGT
abbrev QGV : AC := .seq QG9 QGU
abbrev QGW : AC := .run [(.op (some 36) none (.faddr (.s 2) 0)), (.op (some 37) none (.load (.s 36) false 1)), (.call (some 38) none n_print_sign [(.s 37)]), (.op (some 35) none (.mv (.s 38))), (.op (some 39) none (.ext (.s 35) 0)), (.op (some 40) none (.ext (.s 35) 1)), (.op (some 5) none (.mv (.s 39))), (.op (some 6) none (.mv (.s 40)))]
abbrev QGX : AC := .par [(.op (some 41) none (.faddr (.s 2) 3)), (.op (some 42) none (.load (.s 41) false 1)), (.op (some 43) none (.iaddr (.s 42) (.k (.int .i64 0)) 4)), (.op (some 44) none (.load (.s 43) true 4)), (.op (some 45) none (.mv (.s 6))), (.call (some 46) none n_print_expr [(.s 44), (.s 45)]), (.op (some 47) none (.bin .add (.s 46) (.k (.str [32])))), (.op (some 48) none (.mv (.s 5))), (.op (some 49) none (.bin .add (.s 47) (.s 48))), (.op (some 50) none (.bin .add (.s 49) (.k (.str [32])))), (.op (some 51) none (.faddr (.s 2) 3)), (.op (some 52) none (.load (.s 51) false 1)), (.op (some 53) none (.iaddr (.s 52) (.k (.int .i64 1)) 4)), (.op (some 54) none (.load (.s 53) true 4)), (.op (some 55) none (.mv (.s 6))), (.op (some 56) none (.bin .add (.s 55) (.k (.int .i64 1)))), (.call (some 57) none n_print_expr [(.s 54), (.s 56)]), (.op (some 58) none (.bin .add (.s 50) (.s 57))), (.op (some 7) none (.mv (.s 58)))] [(0, 0), (1, 0), (2, 0), (3, 0), (4, 0), (5, 0), (10, 0), (11, 1), (12, 0), (13, 1), (14, 0), (15, 0), (16, 0), (6, 0), (7, 0), (8, 0), (9, 0), (17, 0), (18, 0)]
abbrev QGY : AC := .run [(.op (some 59) none (.mv (.s 6))), (.op (some 60) none (.mv (.s 1))), (.op (some 61) none (.bin .lss (.s 59) (.s 60)))]
abbrev QGZ : AC := .run [(.op (some 62) none (.mv (.s 7))), (.op (some 63) none (.bin .add (.k (.str [40])) (.s 62))), (.op (some 64) none (.bin .add (.s 63) (.k (.str [41])))), (.op (some 4) none (.mv (.s 64)))]
abbrev QH0 : AC := .seq QGZ .ret
abbrev QH1 : AC := .cond (.s 61) QH0 .skip
abbrev QH2 : AC := .seq QGY QH1
abbrev QH3 : AC := .run [(.op (some 65) none (.mv (.s 7))), (.op (some 4) none (.mv (.s 65)))]
abbrev QH4 : AC := .seq QH3 .ret
abbrev QH5 : AC := .seq QH2 QH4
abbrev QH6 : AC := .seq QGX QH5
abbrev QH7 : AC := .seq QGW QH6
abbrev QH8 : AC := .seq QGV QH7
abbrev QH9 : AC := .seq QG8 QH8
abbrev QHA : AC := .run [(.op (some 1) none (.box (.s 0))), (.op (some 2) none (.mv (.k (.str []))))]
abbrev QHB : AC := .run [(.op (some 4) none (.faddr (.s 1) 0)), (.op (some 5) none (.load (.s 4) false 1)), (.call (some 6) none n_ref3_Arity [(.s 5)])]
abbrev QHC : AC := .run [(.op (some 8) none (.bin .eql (.s 6) (.k (.int .i64 0)))), (.op (some 7) none (.mv (.s 8)))]
abbrev QHD : AC := .run [(.op (some 9) none (.faddr (.s 1) 0)), (.op (some 10) none (.load (.s 9) false 1)), (.op (some 11) none (.bin .eql (.s 10) (.k (.int .i64 2))))]
abbrev QHE : AC := .run [(.op (some 12) none (.faddr (.s 1) 2)), (.op (some 13) none (.load (.s 12) false 1)), (.op (some 2) none (.mv (.s 13)))]
abbrev QHF : AC := .seq QHE .ret
abbrev QHG : AC := .cond (.s 11) QHF .skip
abbrev QHH : AC := .seq QHD QHG
abbrev QHI : AC := .run [(.op (some 14) none (.faddr (.s 1) 1)), (.op (some 15) none (.load (.s 14) false 1)), (.call (some 16) none n_ref3_Dec [(.s 15)]), (.op (some 2) none (.mv (.s 16)))]
abbrev QHJ : AC := .seq QHI .ret
abbrev QHK : AC := .seq QHH QHJ
abbrev QHL : AC := .run [(.op (some 18) none (.bin .eql (.s 6) (.k (.int .i64 1)))), (.op (some 17) none (.mv (.s 18)))]
abbrev QHM : AC := .run [(.op (some 19) none (.faddr (.s 1) 0)), (.op (some 20) none (.load (.s 19) false 1)), (.op (some 21) none (.bin .eql (.s 20) (.k (.int .i64 3))))]
abbrev QHN : AC := .run [(.op (some 22) none (.faddr (.s 1) 3)), (.op (some 23) none (.load (.s 22) false 1)), (.op (some 24) none (.iaddr (.s 23) (.k (.int .i64 0)) 4)), (.op (some 25) none (.load (.s 24) true 4)), (.call (some 26) none n_ref3_kid [(.s 25), (.k (.int .i64 7))]), (.op (some 27) none (.bin .add (.k (.str [45])) (.s 26))), (.op (some 2) none (.mv (.s 27)))]
abbrev QHO : AC := .seq QHN .ret
abbrev QHP : AC := .cond (.s 21) QHO .skip
abbrev QHQ : AC := .seq QHM QHP
abbrev QHR : AC := .run [(.op (some 28) none (.faddr (.s 1) 3)), (.op (some 29) none (.load (.s 28) false 1)), (.op (some 30) none (.iaddr (.s 29) (.k (.int .i64 0)) 4)), (.op (some 31) none (.load (.s 30) true 4)), (.call (some 32) none n_ref3_kid [(.s 31), (.k (.int .i64 7))]), (.op (some 33) none (.bin .add (.k (.str [33])) (.s 32))), (.op (some 2) none (.mv (.s 33)))]
abbrev QHS : AC := .seq QHR .ret
abbrev QHT : AC := .seq QHQ QHS
abbrev QHU : AC := .cond (.s 17) QHT .skip
abbrev QHV : AC := .seq QHL QHU
abbrev QHW : AC := .cond (.s 7) QHK QHV
abbrev QHX : AC := .seq QHC QHW
abbrev QHY : AC := .block 0 QHX
abbrev QHZ : AC := .seq QHB QHY
abbrev QI0 : AC := .run [(.op (some 34) none (.load (.s 1) true 4)), (.call (some 35) none n_ref3_much [(.s 34)]), (.op (some 3) none (.mv (.s 35)))]
abbrev QI1 : AC := .par [(.op (some 36) none (.faddr (.s 1) 3)), (.op (some 37) none (.load (.s 36) false 1)), (.op (some 38) none (.iaddr (.s 37) (.k (.int .i64 0)) 4)), (.op (some 39) none (.load (.s 38) true 4)), (.op (some 40) none (.mv (.s 3))), (.call (some 41) none n_ref3_kid [(.s 39), (.s 40)]), (.op (some 42) none (.bin .add (.s 41) (.k (.str [32])))), (.op (some 43) none (.faddr (.s 1) 0)), (.op (some 44) none (.load (.s 43) false 1)), (.call (some 45) none n_ref3_sign [(.s 44)]), (.op (some 46) none (.bin .add (.s 42) (.s 45))), (.op (some 47) none (.bin .add (.s 46) (.k (.str [32])))), (.op (some 48) none (.faddr (.s 1) 3)), (.op (some 49) none (.load (.s 48) false 1)), (.op (some 50) none (.iaddr (.s 49) (.k (.int .i64 1)) 4)), (.op (some 51) none (.load (.s 50) true 4)), (.op (some 52) none (.mv (.s 3))), (.op (some 53) none (.bin .add (.s 52) (.k (.int .i64 1)))), (.call (some 54) none n_ref3_kid [(.s 51), (.s 53)]), (.op (some 55) none (.bin .add (.s 47) (.s 54))), (.op (some 2) none (.mv (.s 55)))] [(0, 0), (1, 0), (2, 0), (3, 0), (4, 0), (5, 0), (7, 0), (8, 1), (9, 0), (12, 0), (13, 2), (14, 0), (15, 2), (16, 0), (17, 0), (18, 0), (6, 0), (10, 0), (11, 0), (19, 0), (20, 0)]
abbrev QI2 : AC := .seq QI1 .ret
abbrev QI3 : AC := .seq QI0 QI2
abbrev QI4 : AC := .seq QHZ QI3
abbrev QI5 : AC := .seq QHA QI4
abbrev QI6 : AC := .run [(.op (some 2) none (.mv (.k (.bool false))))]
abbrev QI7 : AC := .run [(.op (some 5) none (.mv (.s 0))), (.op (some 6) none (.len (.s 5))), (.op (some 7) none (.mv (.k (.int .i64 0))))]
abbrev QI8 : AC := .run [(.op (some 8) none (.bin .lss (.s 7) (.s 6)))]
abbrev QI9 : AC := .cond (.s 8) .skip (.exit 0)
abbrev QIA : AC := .run [(.op (some 9) none (.iaddr (.s 5) (.s 7) 1)), (.op (some 10) none (.load (.s 9) false 1)), (.op (some 4) none (.mv (.s 10)))]
abbrev QIB : AC := .run [(.op (some 11) none (.mv (.s 4))), (.call (some 12) none n_ref1_Name [(.s 11)]), (.op (some 13) none (.un .not (.s 12)))]
abbrev QIC : AC := .run [(.op (some 2) none (.mv (.k (.bool false))))]
abbrev QID : AC := .seq QIC .ret
abbrev QIE : AC := .cond (.s 13) QID .skip
abbrev QIF : AC := .seq QIB QIE
abbrev QIG : AC := .seq QIA QIF
abbrev QIH : AC := .block 1 QIG
abbrev QII : AC := .run [(.op (some 14) none (.bin .add (.s 7) (.k (.int .i64 1)))), (.op (some 7) none (.mv (.s 14)))]
abbrev QIJ : AC := .seq QIH QII
abbrev QIK : AC := .seq QI9 QIJ
abbrev QIL : AC := .seq QI8 QIK
abbrev QIM : AC := .loop QIL
abbrev QIN : AC := .block 0 QIM
abbrev QIO : AC := .seq QI7 QIN
abbrev QIP : AC := .run [(.op (some 2) none (.mv (.k (.bool true))))]
abbrev QIQ : AC := .seq QIP .ret
abbrev QIR : AC := .seq QIO QIQ
abbrev QIS : AC := .seq QI6 QIR
abbrev QIT : AC := .run [(.op (some 2) none (.mv (.k (.bool false))))]
abbrev QIU : AC := .run [(.op (some 4) none (.mv (.s 0))), (.op (some 5) none (.bin .eql (.s 4) (.k (.str [])))), (.op (some 6) none (.mv (.s 5))), (.op (some 7) (some (6, false)) (.mv (.s 0))), (.op (some 8) (some (6, false)) (.slen (.s 7))), (.op (some 9) (some (6, false)) (.bin .gtr (.s 8) (.k (.int .i64 8)))), (.op (some 10) none (.pick (.s 6) (.k (.bool true)) (.s 9))), (.op (some 11) none (.mv (.s 10))), (.op (some 12) (some (11, false)) (.mv (.s 0))), (.op (some 13) (some (11, false)) (.sidx (.s 12) (.k (.int .i64 0)))), (.call (some 14) (some (11, false)) n_ref1_small [(.s 13)]), (.op (some 15) (some (11, false)) (.un .not (.s 14))), (.op (some 16) none (.pick (.s 11) (.k (.bool true)) (.s 15)))]
abbrev QIV : AC := .run [(.op (some 2) none (.mv (.k (.bool false))))]
abbrev QIW : AC := .seq QIV .ret
abbrev QIX : AC := .cond (.s 16) QIW .skip
abbrev QIY : AC := .seq QIU QIX
abbrev QIZ : AC := .run [(.op (some 3) none (.mv (.k (.int .i64 1))))]
abbrev QJ0 : AC := .run [(.op (some 17) none (.mv (.s 3))), (.op (some 18) none (.mv (.s 0))), (.op (some 19) none (.slen (.s 18))), (.op (some 20) none (.bin .lss (.s 17) (.s 19)))]
abbrev QJ1 : AC := .cond (.s 20) .skip (.exit 0)
abbrev QJ2 : AC := .seq QJ0 QJ1
abbrev QJ3 : AC := .run [(.op (some 23) none (.mv (.s 0))), (.op (some 24) none (.mv (.s 3))), (.op (some 25) none (.sidx (.s 23) (.s 24))), (.call (some 26) none n_ref1_small [(.s 25)]), (.op (some 27) none (.un .not (.s 26))), (.op (some 28) none (.mv (.s 27))), (.op (some 29) (some (28, true)) (.mv (.s 0))), (.op (some 30) (some (28, true)) (.mv (.s 3))), (.op (some 31) (some (28, true)) (.sidx (.s 29) (.s 30))), (.call (some 32) (some (28, true)) n_ref1_digit [(.s 31)]), (.op (some 33) (some (28, true)) (.un .not (.s 32))), (.op (some 34) none (.pick (.s 28) (.s 33) (.k (.bool false))))]
abbrev QJ4 : AC := .run [(.op (some 2) none (.mv (.k (.bool false))))]
abbrev QJ5 : AC := .seq QJ4 .ret
abbrev QJ6 : AC := .cond (.s 34) QJ5 .skip
abbrev QJ7 : AC := .seq QJ3 QJ6
abbrev QJ8 : AC := .block 1 QJ7
abbrev QJ9 : AC := .run [(.op (some 21) none (.mv (.s 3))), (.op (some 22) none (.bin .add (.s 21) (.k (.int .i64 1)))), (.op (some 3) none (.mv (.s 22)))]
abbrev QJA : AC := .seq QJ8 QJ9
abbrev QJB : AC := .seq QJ2 QJA
abbrev QJC : AC := .loop QJB
abbrev QJD : AC := .block 0 QJC
abbrev QJE : AC := .seq QIZ QJD
abbrev QJF : AC := .run [(.op (some 35) none (.mv (.s 0))), (.call (some 36) none n_ref1_Word [(.s 35)]), (.op (some 37) none (.un .not (.s 36))), (.op (some 2) none (.mv (.s 37)))]
abbrev QJG : AC := .seq QJF .ret
abbrev QJH : AC := .seq QJE QJG
abbrev QJI : AC := .seq QIY QJH
abbrev QJJ : AC := .seq QIT QJI
abbrev QJK : AC := .run [(.op (some 1) none (.box (.s 0))), (.op (some 2) none (.mv (.k (.slice .full 0 []))))]
abbrev QJL : AC := .run [(.op (some 3) none (.mv (.k (.slice .full 0 []))))]
abbrev QJM : AC := .run [(.op (some 6) none (.faddr (.s 1) 1)), (.op (some 7) none (.load (.s 6) false 1)), (.op (some 8) none (.len (.s 7))), (.op (some 9) none (.mv (.k (.int .i64 0))))]
abbrev QJN : AC := .run [(.op (some 10) none (.bin .lss (.s 9) (.s 8)))]
abbrev QJO : AC := .cond (.s 10) .skip (.exit 0)
abbrev QJP : AC := .run [(.op (some 11) none (.iaddr (.s 7) (.s 9) 5)), (.op (some 12) none (.load (.s 11) true 5)), (.op (some 5) none (.alloc [(.str []), (.slice .full 0 []), (.slice .full 0 []), (.slice .full 0 []), (.slice .full 0 [])])), (.op none none (.store (.s 5) (.s 12) 5))]
abbrev QJQ : AC := .run [(.op (some 13) none (.mv (.s 3))), (.op (some 14) none (.load (.s 5) true 5)), (.call (some 15) none n_ref3_Flat [(.s 14)]), (.op (some 16) none (.app 16 232 (.s 13) (.s 15))), (.op (some 3) none (.mv (.s 16)))]
abbrev QJR : AC := .run [(.op (some 17) none (.mv (.s 3))), (.op (some 18) none (.len (.s 17))), (.op (some 19) none (.bin .gtr (.s 18) (.k (.int .i64 200))))]
abbrev QJS : AC := .run [(.op (some 20) none (.mv (.s 3))), (.op (some 2) none (.mv (.s 20)))]
abbrev QJT : AC := .seq QJS .ret
abbrev QJU : AC := .cond (.s 19) QJT .skip
abbrev QJV : AC := .seq QJR QJU
abbrev QJW : AC := .seq QJQ QJV
abbrev QJX : AC := .seq QJP QJW
abbrev QJY : AC := .block 1 QJX
abbrev QJZ : AC := .run [(.op (some 21) none (.bin .add (.s 9) (.k (.int .i64 1)))), (.op (some 9) none (.mv (.s 21)))]
abbrev QK0 : AC := .seq QJY QJZ
abbrev QK1 : AC := .seq QJO QK0
abbrev QK2 : AC := .seq QJN QK1
abbrev QK3 : AC := .loop QK2
abbrev QK4 : AC := .block 0 QK3
abbrev QK5 : AC := .seq QJM QK4
abbrev QK6 : AC := .run [(.op (some 22) none (.mv (.s 3))), (.op (some 2) none (.mv (.s 22)))]
abbrev QK7 : AC := .seq QK6 .ret
abbrev QK8 : AC := .seq QK5 QK7
abbrev QK9 : AC := .seq QJL QK8
abbrev QKA : AC := .seq QJK QK9
abbrev QKB : AC := .run [(.op (some 1) none (.box (.s 0))), (.op (some 2) none (.mv (.k (.bool false))))]
abbrev QKC : AC := .run [(.op (some 8) none (.faddr (.s 1) 1)), (.op (some 9) none (.load (.s 8) false 1)), (.op (some 10) none (.bin .eql (.s 9) (.k (.int .i64 1)))), (.op (some 11) none (.mv (.s 10))), (.op (some 12) (some (11, false)) (.faddr (.s 1) 1)), (.op (some 13) (some (11, false)) (.load (.s 12) false 1)), (.op (some 14) (some (11, false)) (.bin .eql (.s 13) (.k (.int .i64 3)))), (.op (some 15) none (.pick (.s 11) (.k (.bool true)) (.s 14))), (.op (some 16) none (.mv (.s 15))), (.op (some 17) (some (16, false)) (.faddr (.s 1) 1)), (.op (some 18) (some (16, false)) (.load (.s 17) false 1)), (.op (some 19) (some (16, false)) (.bin .eql (.s 18) (.k (.int .i64 5)))), (.op (some 20) none (.pick (.s 16) (.k (.bool true)) (.s 19))), (.op (some 21) none (.mv (.s 20))), (.op (some 22) (some (21, false)) (.faddr (.s 1) 1)), (.op (some 23) (some (21, false)) (.load (.s 22) false 1)), (.op (some 24) (some (21, false)) (.bin .eql (.s 23) (.k (.int .i64 6)))), (.op (some 25) none (.pick (.s 21) (.k (.bool true)) (.s 24))), (.op (some 26) none (.mv (.s 25))), (.op (some 27) (some (26, false)) (.faddr (.s 1) 1)), (.op (some 28) (some (26, false)) (.load (.s 27) false 1)), (.op (some 29) (some (26, false)) (.bin .eql (.s 28) (.k (.int .i64 9)))), (.op (some 30) (some (26, false)) (.mv (.s 29))), (.op (some 31) (some (30, true)) (.faddr (.s 1) 9)), (.op (some 32) (some (30, true)) (.load (.s 31) false 1)), (.op (some 33) (some (26, false)) (.pick (.s 30) (.s 32) (.k (.bool false)))), (.op (some 34) none (.pick (.s 26) (.k (.bool true)) (.s 33))), (.op (some 3) none (.mv (.s 34)))]
abbrev QKD : AC := .run [(.op (some 35) none (.faddr (.s 1) 1)), (.op (some 36) none (.load (.s 35) false 1)), (.op (some 37) none (.bin .eql (.s 36) (.k (.int .i64 1)))), (.op (some 38) none (.mv (.s 37))), (.op (some 39) (some (38, false)) (.faddr (.s 1) 1)), (.op (some 40) (some (38, false)) (.load (.s 39) false 1)), (.op (some 41) (some (38, false)) (.bin .eql (.s 40) (.k (.int .i64 2)))), (.op (some 42) none (.pick (.s 38) (.k (.bool true)) (.s 41))), (.op (some 43) none (.mv (.s 42))), (.op (some 44) (some (43, false)) (.faddr (.s 1) 1)), (.op (some 45) (some (43, false)) (.load (.s 44) false 1)), (.op (some 46) (some (43, false)) (.bin .eql (.s 45) (.k (.int .i64 10)))), (.op (some 47) none (.pick (.s 43) (.k (.bool true)) (.s 46))), (.op (some 4) none (.mv (.s 47)))]
abbrev QKE : AC := .run [(.op (some 48) none (.faddr (.s 1) 1)), (.op (some 49) none (.load (.s 48) false 1)), (.op (some 50) none (.bin .eql (.s 49) (.k (.int .i64 4)))), (.op (some 5) none (.mv (.s 50)))]
abbrev QKF : AC := .run [(.op (some 51) none (.faddr (.s 1) 1)), (.op (some 52) none (.load (.s 51) false 1)), (.op (some 53) none (.bin .lss (.s 52) (.k (.int .i64 1)))), (.op (some 54) none (.mv (.s 53))), (.op (some 55) (some (54, false)) (.faddr (.s 1) 1)), (.op (some 56) (some (54, false)) (.load (.s 55) false 1)), (.op (some 57) (some (54, false)) (.bin .gtr (.s 56) (.k (.int .i64 10)))), (.op (some 58) none (.pick (.s 54) (.k (.bool true)) (.s 57))), (.op (some 59) none (.mv (.s 58))), (.op (some 60) (some (59, false)) (.faddr (.s 1) 2)), (.op (some 61) (some (59, false)) (.load (.s 60) false 1)), (.call (some 62) (some (59, false)) n_ref3_names [(.s 61)]), (.op (some 63) (some (59, false)) (.un .not (.s 62))), (.op (some 64) none (.pick (.s 59) (.k (.bool true)) (.s 63))), (.op (some 65) none (.mv (.s 64))), (.op (some 66) (some (65, false)) (.mv (.s 3))), (.op (some 67) (some (65, false)) (.mv (.s 66))), (.op (some 68) (some (67, true)) (.faddr (.s 1) 5)), (.op (some 69) (some (67, true)) (.load (.s 68) true 4)), (.call (some 70) (some (67, true)) n_ref3_MayExpr [(.s 69)]), (.op (some 71) (some (67, true)) (.un .not (.s 70))), (.op (some 72) (some (65, false)) (.pick (.s 67) (.s 71) (.k (.bool false)))), (.op (some 73) none (.pick (.s 65) (.k (.bool true)) (.s 72))), (.op (some 74) none (.mv (.s 73))), (.op (some 75) (some (74, false)) (.mv (.s 3))), (.op (some 76) (some (74, false)) (.un .not (.s 75))), (.op (some 77) (some (74, false)) (.mv (.s 76))), (.op (some 78) (some (77, true)) (.faddr (.s 1) 5)), (.op (some 79) (some (77, true)) (.load (.s 78) true 4)), (.call (some 80) (some (77, true)) n_ref3_none [(.s 79)]), (.op (some 81) (some (77, true)) (.un .not (.s 80))), (.op (some 82) (some (74, false)) (.pick (.s 77) (.s 81) (.k (.bool false)))), (.op (some 83) none (.pick (.s 74) (.k (.bool true)) (.s 82))), (.op (some 84) none (.mv (.s 83))), (.op (some 85) (some (84, false)) (.faddr (.s 1) 9)), (.op (some 86) (some (84, false)) (.load (.s 85) false 1)), (.op (some 87) (some (84, false)) (.mv (.s 86))), (.op (some 88) (some (87, true)) (.faddr (.s 1) 1)), (.op (some 89) (some (87, true)) (.load (.s 88) false 1)), (.op (some 90) (some (87, true)) (.bin .neq (.s 89) (.k (.int .i64 9)))), (.op (some 91) (some (84, false)) (.pick (.s 87) (.s 90) (.k (.bool false)))), (.op (some 92) none (.pick (.s 84) (.k (.bool true)) (.s 91)))]
abbrev QKG : AC := .run [(.op (some 2) none (.mv (.k (.bool false))))]
abbrev QKH : AC := .seq QKG .ret
abbrev QKI : AC := .cond (.s 92) QKH .skip
abbrev QKJ : AC := .seq QKF QKI
abbrev QKK : AC := .run [(.op (some 93) none (.mv (.s 4))), (.op (some 94) none (.mv (.s 93))), (.op (some 95) (some (94, true)) (.faddr (.s 1) 3)), (.op (some 96) (some (94, true)) (.load (.s 95) false 1)), (.call (some 97) (some (94, true)) n_ref1_Name [(.s 96)]), (.op (some 98) (some (94, true)) (.un .not (.s 97))), (.op (some 99) none (.pick (.s 94) (.s 98) (.k (.bool false)))), (.op (some 100) none (.mv (.s 99))), (.op (some 101) (some (100, false)) (.mv (.s 4))), (.op (some 102) (some (100, false)) (.un .not (.s 101))), (.op (some 103) (some (100, false)) (.mv (.s 102))), (.op (some 104) (some (103, true)) (.faddr (.s 1) 3)), (.op (some 105) (some (103, true)) (.load (.s 104) false 1)), (.op (some 106) (some (103, true)) (.bin .neq (.s 105) (.k (.str [])))), (.op (some 107) (some (100, false)) (.pick (.s 103) (.s 106) (.k (.bool false)))), (.op (some 108) (some (100, false)) (.mv (.s 107))), (.op (some 109) (some (108, true)) (.mv (.s 5))), (.op (some 110) (some (108, true)) (.mv (.s 109))), (.op (some 111) (some (110, true)) (.faddr (.s 1) 3)), (.op (some 112) (some (110, true)) (.load (.s 111) false 1)), (.call (some 113) (some (110, true)) n_ref1_Name [(.s 112)]), (.op (some 114) (some (108, true)) (.pick (.s 110) (.s 113) (.k (.bool false)))), (.op (some 115) (some (108, true)) (.un .not (.s 114))), (.op (some 116) (some (100, false)) (.pick (.s 108) (.s 115) (.k (.bool false)))), (.op (some 117) none (.pick (.s 100) (.k (.bool true)) (.s 116)))]
abbrev QKL : AC := .run [(.op (some 2) none (.mv (.k (.bool false))))]
abbrev QKM : AC := .seq QKL .ret
abbrev QKN : AC := .cond (.s 117) QKM .skip
abbrev QKO : AC := .seq QKK QKN
abbrev QKP : AC := .run [(.op (some 118) none (.mv (.s 5))), (.op (some 119) none (.faddr (.s 1) 4)), (.op (some 120) none (.load (.s 119) false 1)), (.op (some 121) none (.bin .neq (.s 120) (.k (.str [])))), (.op (some 122) none (.eqb true (.s 118) (.s 121))), (.op (some 123) none (.mv (.s 122))), (.op (some 124) (some (123, false)) (.mv (.s 5))), (.op (some 125) (some (123, false)) (.mv (.s 124))), (.op (some 126) (some (125, true)) (.faddr (.s 1) 4)), (.op (some 127) (some (125, true)) (.load (.s 126) false 1)), (.call (some 128) (some (125, true)) n_ref1_Name [(.s 127)]), (.op (some 129) (some (125, true)) (.un .not (.s 128))), (.op (some 130) (some (123, false)) (.pick (.s 125) (.s 129) (.k (.bool false)))), (.op (some 131) none (.pick (.s 123) (.k (.bool true)) (.s 130))), (.op (some 132) none (.mv (.s 131))), (.op (some 133) (some (132, false)) (.mv (.s 5))), (.op (some 134) (some (132, false)) (.un .not (.s 133))), (.op (some 135) (some (132, false)) (.mv (.s 134))), (.op (some 136) (some (135, true)) (.faddr (.s 1) 10)), (.op (some 137) (some (135, true)) (.load (.s 136) false 1)), (.op (some 138) (some (135, true)) (.len (.s 137))), (.op (some 139) (some (135, true)) (.bin .gtr (.s 138) (.k (.int .i64 0)))), (.op (some 140) (some (132, false)) (.pick (.s 135) (.s 139) (.k (.bool false)))), (.op (some 141) none (.pick (.s 132) (.k (.bool true)) (.s 140)))]
abbrev QKQ : AC := .run [(.op (some 2) none (.mv (.k (.bool false))))]
abbrev QKR : AC := .seq QKQ .ret
abbrev QKS : AC := .cond (.s 141) QKR .skip
abbrev QKT : AC := .seq QKP QKS
abbrev QKU : AC := .run [(.op (some 142) none (.faddr (.s 1) 10)), (.op (some 143) none (.load (.s 142) false 1)), (.op (some 144) none (.len (.s 143))), (.op (some 145) none (.mv (.k (.int .i64 0))))]
abbrev QKV : AC := .run [(.op (some 146) none (.bin .lss (.s 145) (.s 144)))]
abbrev QKW : AC := .cond (.s 146) .skip (.exit 0)
abbrev QKX : AC := .run [(.op (some 147) none (.iaddr (.s 143) (.s 145) 6)), (.op (some 148) none (.load (.s 147) true 6)), (.op (some 7) none (.alloc [(.bool false), (.str []), (.int .i64 0), (.int .i64 0), (.str []), (.slice .full 0 [])])), (.op none none (.store (.s 7) (.s 148) 6))]
abbrev QKY : AC := .run [(.op (some 149) none (.load (.s 7) true 6)), (.call (some 150) none n_ref3_arg [(.s 149)]), (.op (some 151) none (.un .not (.s 150)))]
abbrev QKZ : AC := .run [(.op (some 2) none (.mv (.k (.bool false))))]
abbrev QL0 : AC := .seq QKZ .ret
abbrev QL1 : AC := .cond (.s 151) QL0 .skip
abbrev QL2 : AC := .seq QKY QL1
abbrev QL3 : AC := .seq QKX QL2
abbrev QL4 : AC := .block 1 QL3
abbrev QL5 : AC := .run [(.op (some 152) none (.bin .add (.s 145) (.k (.int .i64 1)))), (.op (some 145) none (.mv (.s 152)))]
abbrev QL6 : AC := .seq QL4 QL5
abbrev QL7 : AC := .seq QKW QL6
abbrev QL8 : AC := .seq QKV QL7
abbrev QL9 : AC := .loop QL8
abbrev QLA : AC := .block 0 QL9
abbrev QLB : AC := .seq QKU QLA
abbrev QLC : AC := .run [(.op (some 153) none (.faddr (.s 1) 11)), (.op (some 154) none (.load (.s 153) false 1)), (.op (some 155) none (.len (.s 154))), (.op (some 156) none (.bin .eql (.s 155) (.k (.int .i64 0)))), (.op (some 157) none (.mv (.s 156))), (.op (some 158) (some (157, false)) (.faddr (.s 1) 1)), (.op (some 159) (some (157, false)) (.load (.s 158) false 1)), (.op (some 160) (some (157, false)) (.bin .eql (.s 159) (.k (.int .i64 5)))), (.op (some 161) none (.pick (.s 157) (.k (.bool true)) (.s 160))), (.op (some 162) none (.mv (.s 161))), (.op (some 163) (some (162, false)) (.faddr (.s 1) 1)), (.op (some 164) (some (162, false)) (.load (.s 163) false 1)), (.op (some 165) (some (162, false)) (.bin .eql (.s 164) (.k (.int .i64 6)))), (.op (some 166) none (.pick (.s 162) (.k (.bool true)) (.s 165))), (.op (some 167) none (.mv (.s 166))), (.op (some 168) (some (167, true)) (.faddr (.s 1) 12)), (.op (some 169) (some (167, true)) (.load (.s 168) false 1)), (.op (some 170) (some (167, true)) (.len (.s 169))), (.op (some 171) (some (167, true)) (.bin .eql (.s 170) (.k (.int .i64 0)))), (.op (some 172) (some (167, true)) (.mv (.s 171))), (.op (some 173) (some (172, false)) (.faddr (.s 1) 1)), (.op (some 174) (some (172, false)) (.load (.s 173) false 1)), (.op (some 175) (some (172, false)) (.bin .eql (.s 174) (.k (.int .i64 5)))), (.op (some 176) (some (167, true)) (.pick (.s 172) (.k (.bool true)) (.s 175))), (.op (some 177) none (.pick (.s 167) (.s 176) (.k (.bool false)))), (.op (some 2) none (.mv (.s 177)))]
abbrev QLD : AC := .seq QLC .ret
abbrev QLE : AC := .seq QLB QLD
abbrev QLF : AC := .seq QKT QLE
abbrev QLG : AC := .seq QKO QLF
abbrev QLH : AC := .seq QKJ QLG
abbrev QLI : AC := .seq QKE QLH
abbrev QLJ : AC := .seq QKD QLI
abbrev QLK : AC := .seq QKC QLJ
abbrev QLL : AC := .seq QKB QLK
abbrev QLM : AC := .run [(.op (some 2) none (.box (.s 0))), (.op (some 4) none (.mv (.k (.int .i64 0))))]
abbrev QLN : AC := .run [(.op (some 8) none (.mv (.s 1))), (.op (some 9) none (.bin .eql (.s 8) (.k (.int .i64 0))))]
abbrev QLO : AC := .run [(.op (some 4) none (.mv (.k (.int .i64 1))))]
abbrev QLP : AC := .seq QLO .ret
abbrev QLQ : AC := .cond (.s 9) QLP .skip
abbrev QLR : AC := .seq QLN QLQ
abbrev QLS : AC := .run [(.op (some 5) none (.mv (.k (.int .i64 0))))]
abbrev QLT : AC := .run [(.op (some 6) none (.mv (.k (.int .i64 0))))]
abbrev QLU : AC := .run [(.op (some 10) none (.mv (.s 6))), (.op (some 11) none (.faddr (.s 2) 3)), (.op (some 12) none (.load (.s 11) false 1)), (.op (some 13) none (.len (.s 12))), (.op (some 14) none (.bin .lss (.s 10) (.s 13))), (.op (some 15) none (.mv (.s 14))), (.op (some 16) (some (15, true)) (.mv (.s 5))), (.op (some 17) (some (15, true)) (.mv (.s 1))), (.op (some 18) (some (15, true)) (.bin .lss (.s 16) (.s 17))), (.op (some 19) none (.pick (.s 15) (.s 18) (.k (.bool false))))]
abbrev QLV : AC := .cond (.s 19) .skip (.exit 0)
abbrev QLW : AC := .seq QLU QLV
abbrev QLX : AC := .run [(.op (some 22) none (.faddr (.s 2) 3)), (.op (some 23) none (.load (.s 22) false 1)), (.op (some 24) none (.mv (.s 6))), (.op (some 25) none (.iaddr (.s 23) (.s 24) 4)), (.op (some 26) none (.load (.s 25) true 4)), (.op (some 27) none (.mv (.s 1))), (.op (some 28) none (.bin .sub (.s 27) (.k (.int .i64 1)))), (.call (some 29) none n_ref3_deep [(.s 26), (.s 28)]), (.op (some 7) none (.mv (.s 29)))]
abbrev QLY : AC := .run [(.op (some 30) none (.mv (.s 7))), (.op (some 31) none (.mv (.s 5))), (.op (some 32) none (.bin .gtr (.s 30) (.s 31)))]
abbrev QLZ : AC := .run [(.op (some 33) none (.mv (.s 7))), (.op (some 5) none (.mv (.s 33)))]
abbrev QM0 : AC := .cond (.s 32) QLZ .skip
abbrev QM1 : AC := .seq QLY QM0
abbrev QM2 : AC := .seq QLX QM1
abbrev QM3 : AC := .block 1 QM2
abbrev QM4 : AC := .run [(.op (some 20) none (.mv (.s 6))), (.op (some 21) none (.bin .add (.s 20) (.k (.int .i64 1)))), (.op (some 6) none (.mv (.s 21)))]
abbrev QM5 : AC := .seq QM3 QM4
abbrev QM6 : AC := .seq QLW QM5
abbrev QM7 : AC := .loop QM6
abbrev QM8 : AC := .block 0 QM7
abbrev QM9 : AC := .seq QLT QM8
abbrev QMA : AC := .run [(.op (some 34) none (.mv (.s 5))), (.op (some 35) none (.bin .add (.s 34) (.k (.int .i64 1)))), (.op (some 4) none (.mv (.s 35)))]
abbrev QMB : AC := .seq QMA .ret
abbrev QMC : AC := .seq QM9 QMB
abbrev QMD : AC := .seq QLS QMC
abbrev QME : AC := .seq QLR QMD
abbrev QMF : AC := .seq QLM QME
abbrev QMG : AC := .run [(.op (some 1) none (.box (.s 0))), (.op (some 2) none (.mv (.k (.bool false))))]
abbrev QMH : AC := .par [(.op (some 4) none (.faddr (.s 1) 0)), (.op (some 5) none (.load (.s 4) false 1)), (.call (some 6) none n_ref3_Arity [(.s 5)]), (.op (some 7) none (.faddr (.s 1) 3)), (.op (some 8) none (.load (.s 7) false 1)), (.op (some 9) none (.len (.s 8))), (.op (some 10) none (.bin .neq (.s 6) (.s 9))), (.op (some 11) none (.mv (.s 10))), (.op (some 12) (some (11, false)) (.faddr (.s 1) 0)), (.op (some 13) (some (11, false)) (.load (.s 12) false 1)), (.op (some 14) (some (11, false)) (.bin .neq (.s 13) (.k (.int .i64 1)))), (.op (some 15) (some (11, false)) (.mv (.s 14))), (.op (some 16) (some (15, true)) (.faddr (.s 1) 1)), (.op (some 17) (some (15, true)) (.load (.s 16) false 1)), (.op (some 18) (some (15, true)) (.bin .neq (.s 17) (.k (.int .i64 0)))), (.op (some 19) (some (11, false)) (.pick (.s 15) (.s 18) (.k (.bool false)))), (.op (some 20) none (.pick (.s 11) (.k (.bool true)) (.s 19))), (.op (some 21) none (.mv (.s 20))), (.op (some 22) (some (21, false)) (.faddr (.s 1) 1)), (.op (some 23) (some (21, false)) (.load (.s 22) false 1)), (.op (some 24) (some (21, false)) (.bin .lss (.s 23) (.k (.int .i64 0)))), (.op (some 25) none (.pick (.s 21) (.k (.bool true)) (.s 24))), (.op (some 26) none (.mv (.s 25))), (.op (some 27) (some (26, false)) (.faddr (.s 1) 0)), (.op (some 28) (some (26, false)) (.load (.s 27) false 1)), (.op (some 29) (some (26, false)) (.bin .eql (.s 28) (.k (.int .i64 2)))), (.op (some 30) (some (26, false)) (.faddr (.s 1) 2)), (.op (some 31) (some (26, false)) (.load (.s 30) false 1)), (.op (some 32) (some (26, false)) (.bin .neq (.s 31) (.k (.str [])))), (.op (some 33) (some (26, false)) (.eqb true (.s 29) (.s 32))), (.op (some 34) none (.pick (.s 26) (.k (.bool true)) (.s 33))), (.op (some 35) none (.mv (.s 34))), (.op (some 36) (some (35, false)) (.faddr (.s 1) 2)), (.op (some 37) (some (35, false)) (.load (.s 36) false 1)), (.op (some 38) (some (35, false)) (.bin .neq (.s 37) (.k (.str [])))), (.op (some 39) (some (35, false)) (.mv (.s 38))), (.op (some 40) (some (39, true)) (.faddr (.s 1) 2)), (.op (some 41) (some (39, true)) (.load (.s 40) false 1)), (.call (some 42) (some (39, true)) n_ref1_Name [(.s 41)]), (.op (some 43) (some (39, true)) (.un .not (.s 42))), (.op (some 44) (some (35, false)) (.pick (.s 39) (.s 43) (.k (.bool false)))), (.op (some 45) none (.pick (.s 35) (.k (.bool true)) (.s 44)))] [(0, 0), (1, 0), (2, 0), (3, 0), (4, 1), (5, 0), (6, 0), (7, 0), (8, 0), (9, 0), (10, 0), (11, 0), (12, 0), (13, 0), (14, 0), (15, 0), (16, 0), (17, 0), (18, 0), (19, 0), (20, 0), (21, 0), (22, 0), (23, 0), (24, 0), (25, 0), (26, 0), (27, 0), (28, 0), (29, 0), (30, 0), (31, 0), (32, 0), (33, 0), (34, 0), (35, 0), (36, 0), (37, 0), (38, 0), (39, 0), (40, 0), (41, 0)]
abbrev QMI : AC := .run [(.op (some 2) none (.mv (.k (.bool false))))]
abbrev QMJ : AC := .seq QMI .ret
abbrev QMK : AC := .cond (.s 45) QMJ .skip
abbrev QML : AC := .seq QMH QMK
abbrev QMM : AC := .run [(.op (some 46) none (.faddr (.s 1) 3)), (.op (some 47) none (.load (.s 46) false 1)), (.op (some 48) none (.len (.s 47))), (.op (some 49) none (.mv (.k (.int .i64 0))))]
abbrev QMN : AC := .run [(.op (some 50) none (.bin .lss (.s 49) (.s 48)))]
abbrev QMO : AC := .cond (.s 50) .skip (.exit 0)
abbrev QMP : AC := .run [(.op (some 51) none (.mv (.s 49))), (.op (some 3) none (.mv (.s 51)))]
abbrev QMQ : AC := .run [(.op (some 52) none (.faddr (.s 1) 3)), (.op (some 53) none (.load (.s 52) false 1)), (.op (some 54) none (.mv (.s 3))), (.op (some 55) none (.iaddr (.s 53) (.s 54) 4)), (.op (some 56) none (.load (.s 55) true 4)), (.call (some 57) none n_ref3_form [(.s 56)]), (.op (some 58) none (.un .not (.s 57)))]
abbrev QMR : AC := .run [(.op (some 2) none (.mv (.k (.bool false))))]
abbrev QMS : AC := .seq QMR .ret
abbrev QMT : AC := .cond (.s 58) QMS .skip
abbrev QMU : AC := .seq QMQ QMT
abbrev QMV : AC := .seq QMP QMU
abbrev QMW : AC := .block 1 QMV
abbrev QMX : AC := .run [(.op (some 59) none (.bin .add (.s 49) (.k (.int .i64 1)))), (.op (some 49) none (.mv (.s 59)))]
abbrev QMY : AC := .seq QMW QMX
abbrev QMZ : AC := .seq QMO QMY
abbrev QN0 : AC := .seq QMN QMZ
abbrev QN1 : AC := .loop QN0
abbrev QN2 : AC := .block 0 QN1
abbrev QN3 : AC := .seq QMM QN2
abbrev QN4 : AC := .run [(.op (some 2) none (.mv (.k (.bool true))))]
abbrev QN5 : AC := .seq QN4 .ret
abbrev QN6 : AC := .seq QN3 QN5
abbrev QN7 : AC := .seq QML QN6
abbrev QN8 : AC := .seq QMG QN7
abbrev QN9 : AC := .run [(.op (some 2) none (.mv (.k (.slice .full 0 [])))), (.op (some 3) none (.alloc [(.int .i64 0), (.int .i64 0)]))]
abbrev QNA : AC := .run [(.op (some 4) none (.mv (.k (.slice .full 0 []))))]
abbrev QNB : AC := .run [(.op (some 5) none (.alloc [(.int .i64 0), (.str []), (.int .i64 0), (.int .i64 0)]))]
abbrev QNC : AC := .run [(.op (some 6) none (.mv (.k (.int .i64 0)))), (.op (some 7) none (.mv (.k (.int .i64 0)))), (.op (some 8) none (.mv (.k (.bool true))))]
abbrev QND : AC := .run [(.op (some 10) none (.mv (.s 0))), (.op (some 11) none (.slen (.s 10))), (.op (some 12) none (.bin .gtr (.s 11) (.k (.int .i64 100000))))]
abbrev QNE : AC := .run [(.op (some 13) none (.build [(.int .i64 0), (.int .i64 0)] [(0, (1, (.k (.int .i64 4))))])), (.op (some 2) none (.mv (.k (.slice .full 0 [])))), (.op none none (.store (.s 3) (.s 13) 2))]
abbrev QNF : AC := .seq QNE .ret
abbrev QNG : AC := .cond (.s 12) QNF .skip
abbrev QNH : AC := .seq QND QNG
abbrev QNI : AC := .run [(.op (some 14) none (.mv (.s 6))), (.op (some 15) none (.mv (.s 0))), (.op (some 16) none (.slen (.s 15))), (.op (some 17) none (.bin .geq (.s 14) (.s 16)))]
abbrev QNJ : AC := .run [(.op (some 18) none (.mv (.s 4))), (.op (some 19) none (.mv (.s 0))), (.op (some 20) none (.slen (.s 19))), (.op (some 21) none (.build [(.int .i64 0), (.str []), (.int .i64 0), (.int .i64 0)] [(3, (1, (.s 20)))])), (.op (some 22) none (.bslice [(.int .i64 0), (.str []), (.int .i64 0), (.int .i64 0)] 4 1 [(0, (.s 21))])), (.op (some 23) none (.app 4 40 (.s 18) (.s 22))), (.op (some 24) none (.build [(.int .i64 0), (.int .i64 0)] [])), (.op (some 2) none (.mv (.s 23))), (.op none none (.store (.s 3) (.s 24) 2))]
abbrev QNK : AC := .seq QNJ .ret
abbrev QNL : AC := .cond (.s 17) QNK .skip
abbrev QNM : AC := .seq QNI QNL
abbrev QNN : AC := .run [(.op (some 25) none (.mv (.s 6))), (.op (some 26) none (.build [(.int .i64 0), (.str []), (.int .i64 0), (.int .i64 0)] [(3, (1, (.s 25)))])), (.op none none (.store (.s 5) (.s 26) 4))]
abbrev QNO : AC := .run [(.op (some 27) none (.mv (.s 0))), (.op (some 28) none (.mv (.s 6))), (.op (some 29) none (.sidx (.s 27) (.s 28))), (.op (some 9) none (.mv (.s 29)))]
abbrev QNP : AC := .run [(.op (some 31) none (.mv (.s 9))), (.op (some 32) none (.bin .eql (.s 31) (.k (.int .u8 32)))), (.op (some 33) none (.mv (.s 32))), (.op (some 34) (some (33, false)) (.mv (.s 9))), (.op (some 35) (some (33, false)) (.bin .eql (.s 34) (.k (.int .u8 9)))), (.op (some 36) none (.pick (.s 33) (.k (.bool true)) (.s 35))), (.op (some 37) none (.mv (.s 36))), (.op (some 38) (some (37, false)) (.mv (.s 9))), (.op (some 39) (some (37, false)) (.bin .eql (.s 38) (.k (.int .u8 10)))), (.op (some 40) none (.pick (.s 37) (.k (.bool true)) (.s 39))), (.op (some 41) none (.mv (.s 40))), (.op (some 42) (some (41, false)) (.mv (.s 9))), (.op (some 43) (some (41, false)) (.bin .eql (.s 42) (.k (.int .u8 13)))), (.op (some 44) none (.pick (.s 41) (.k (.bool true)) (.s 43))), (.op (some 30) none (.mv (.s 44)))]
abbrev QNQ : AC := .run [(.op (some 45) none (.mv (.s 6))), (.op (some 46) none (.bin .add (.s 45) (.k (.int .i64 1)))), (.op (some 6) none (.mv (.s 46)))]
abbrev QNR : AC := .seq QNQ (.goto 0)
abbrev QNS : AC := .run [(.op (some 48) none (.mv (.s 9))), (.op (some 49) none (.bin .eql (.s 48) (.k (.int .u8 35)))), (.op (some 47) none (.mv (.s 49)))]
abbrev QNT : AC := .run [(.op (some 51) none (.mv (.s 9))), (.call (some 52) none n_lex_letter [(.s 51)]), (.op (some 50) none (.mv (.s 52)))]
abbrev QNU : AC := .run [(.op (some 54) none (.mv (.s 9))), (.call (some 55) none n_lex_digit [(.s 54)]), (.op (some 53) none (.mv (.s 55)))]
abbrev QNV : AC := .cond (.s 53) (.goto 3) .skip
abbrev QNW : AC := .seq QNU QNV
abbrev QNX : AC := .cond (.s 50) (.goto 2) QNW
abbrev QNY : AC := .seq QNT QNX
abbrev QNZ : AC := .cond (.s 47) (.goto 1) QNY
abbrev QO0 : AC := .seq QNS QNZ
abbrev QO1 : AC := .cond (.s 30) QNR QO0
abbrev QO2 : AC := .seq QNP QO1
abbrev QO3 : AC := .block 0 QO2
abbrev QO4 : AC := .seq QNO QO3
abbrev QO5 : AC := .run [(.op (some 56) none (.faddr (.s 5) 0)), (.op none none (.store (.s 56) (.k (.int .i64 4)) 1))]
abbrev QO6 : AC := .run [(.op (some 57) none (.mv (.s 6))), (.op (some 58) none (.mv (.s 0))), (.op (some 59) none (.mv (.s 6))), (.call (some 60) none n_lex_sign [(.s 58), (.s 59)]), (.op (some 61) none (.bin .add (.s 57) (.s 60))), (.op (some 6) none (.mv (.s 61)))]
abbrev QO7 : AC := .run [(.op (some 62) none (.mv (.s 0))), (.op (some 63) none (.faddr (.s 5) 3)), (.op (some 64) none (.load (.s 63) false 1)), (.op (some 65) none (.mv (.s 6))), (.op (some 66) none (.sslc (.s 62) (some (.s 64)) (some (.s 65)))), (.op (some 67) none (.faddr (.s 5) 1)), (.op none none (.store (.s 67) (.s 66) 1))]
abbrev QO8 : AC := .run [(.op (some 7) none (.mv (.k (.int .i64 2))))]
abbrev QO9 : AC := .run [(.op (some 68) none (.mv (.s 6))), (.op (some 69) none (.faddr (.s 5) 3)), (.op (some 70) none (.load (.s 69) false 1)), (.op (some 71) none (.bin .gtr (.s 68) (.s 70)))]
abbrev QOA : AC := .cond (.s 71) (.goto 4) .skip
abbrev QOB : AC := .seq QO9 QOA
abbrev QOC : AC := .run [(.op (some 72) none (.mv (.s 6))), (.op (some 73) none (.mv (.s 0))), (.op (some 74) none (.slen (.s 73))), (.op (some 75) none (.bin .lss (.s 72) (.s 74))), (.op (some 76) none (.mv (.s 75))), (.op (some 77) (some (76, true)) (.mv (.s 0))), (.op (some 78) (some (76, true)) (.mv (.s 6))), (.op (some 79) (some (76, true)) (.sidx (.s 77) (.s 78))), (.op (some 80) (some (76, true)) (.bin .neq (.s 79) (.k (.int .u8 10)))), (.op (some 81) none (.pick (.s 76) (.s 80) (.k (.bool false))))]
abbrev QOD : AC := .cond (.s 81) .skip (.exit 1)
abbrev QOE : AC := .seq QOC QOD
abbrev QOF : AC := .run [(.op (some 82) none (.mv (.s 6))), (.op (some 83) none (.bin .add (.s 82) (.k (.int .i64 1)))), (.op (some 6) none (.mv (.s 83)))]
abbrev QOG : AC := .block 2 QOF
abbrev QOH : AC := .seq QOE QOG
abbrev QOI : AC := .loop QOH
abbrev QOJ : AC := .block 1 QOI
abbrev QOK : AC := .run [(.op (some 84) none (.mv (.s 0))), (.op (some 85) none (.mv (.s 6))), (.call (some 86) none n_lex_run [(.s 84), (.s 85)]), (.op (some 6) none (.mv (.s 86)))]
abbrev QOL : AC := .par [(.op (some 87) none (.mv (.s 0))), (.op (some 88) none (.faddr (.s 5) 3)), (.op (some 89) none (.load (.s 88) false 1)), (.op (some 90) none (.mv (.s 6))), (.op (some 91) none (.sslc (.s 87) (some (.s 89)) (some (.s 90)))), (.op (some 92) none (.faddr (.s 5) 0)), (.op none none (.store (.s 92) (.k (.int .i64 1)) 1)), (.op (some 93) none (.faddr (.s 5) 1)), (.op none none (.store (.s 93) (.s 91) 1))] [(1, 0), (2, 0), (5, 0), (6, 0), (0, 0), (3, 0), (4, 0), (7, 0), (8, 0)]
abbrev QOM : AC := .run [(.op (some 94) none (.faddr (.s 5) 1)), (.op (some 95) none (.load (.s 94) false 1)), (.call (some 96) none n_lex_Word [(.s 95)])]
abbrev QON : AC := .run [(.op (some 97) none (.faddr (.s 5) 0)), (.op none none (.store (.s 97) (.k (.int .i64 3)) 1))]
abbrev QOO : AC := .cond (.s 96) QON .skip
abbrev QOP : AC := .seq QOM QOO
abbrev QOQ : AC := .run [(.op (some 7) none (.mv (.k (.int .i64 4))))]
abbrev QOR : AC := .run [(.op (some 98) none (.mv (.s 6))), (.op (some 99) none (.faddr (.s 5) 3)), (.op (some 100) none (.load (.s 99) false 1)), (.op (some 101) none (.bin .sub (.s 98) (.s 100))), (.op (some 102) none (.bin .gtr (.s 101) (.k (.int .i64 8))))]
abbrev QOS : AC := .cond (.s 102) (.goto 5) .skip
abbrev QOT : AC := .seq QOR QOS
abbrev QOU : AC := .run [(.op (some 103) none (.mv (.s 6))), (.op (some 104) none (.mv (.s 0))), (.op (some 105) none (.slen (.s 104))), (.op (some 106) none (.bin .lss (.s 103) (.s 105))), (.op (some 107) none (.mv (.s 106))), (.op (some 108) (some (107, true)) (.mv (.s 0))), (.op (some 109) (some (107, true)) (.mv (.s 6))), (.op (some 110) (some (107, true)) (.sidx (.s 108) (.s 109))), (.call (some 111) (some (107, true)) n_lex_digit [(.s 110)]), (.op (some 112) none (.pick (.s 107) (.s 111) (.k (.bool false))))]
abbrev QOV : AC := .cond (.s 112) .skip (.exit 3)
abbrev QOW : AC := .seq QOU QOV
abbrev QOX : AC := .run [(.op (some 113) none (.mv (.s 6))), (.op (some 114) none (.bin .add (.s 113) (.k (.int .i64 1)))), (.op (some 6) none (.mv (.s 114)))]
abbrev QOY : AC := .block 4 QOX
abbrev QOZ : AC := .seq QOW QOY
abbrev QP0 : AC := .loop QOZ
abbrev QP1 : AC := .block 3 QP0
abbrev QP2 : AC := .par [(.op (some 115) none (.mv (.s 0))), (.op (some 116) none (.faddr (.s 5) 3)), (.op (some 117) none (.load (.s 116) false 1)), (.op (some 118) none (.mv (.s 6))), (.op (some 119) none (.sslc (.s 115) (some (.s 117)) (some (.s 118)))), (.op (some 120) none (.faddr (.s 5) 0)), (.op none none (.store (.s 120) (.k (.int .i64 2)) 1)), (.op (some 121) none (.faddr (.s 5) 1)), (.op none none (.store (.s 121) (.s 119) 1)), (.op (some 7) none (.mv (.k (.int .i64 2))))] [(1, 0), (2, 0), (5, 0), (6, 0), (0, 0), (3, 0), (4, 0), (7, 0), (8, 0), (9, 0)]
abbrev QP3 : AC := .run [(.op (some 122) none (.faddr (.s 5) 1)), (.op (some 123) none (.load (.s 122) false 1)), (.op (some 124) none (.slen (.s 123))), (.op (some 125) none (.bin .gtr (.s 124) (.k (.int .i64 1)))), (.op (some 126) none (.mv (.s 125))), (.op (some 127) (some (126, true)) (.faddr (.s 5) 1)), (.op (some 128) (some (126, true)) (.load (.s 127) false 1)), (.op (some 129) (some (126, true)) (.sidx (.s 128) (.k (.int .i64 0)))), (.op (some 130) (some (126, true)) (.bin .eql (.s 129) (.k (.int .u8 48)))), (.op (some 131) none (.pick (.s 126) (.s 130) (.k (.bool false))))]
abbrev QP4 : AC := .cond (.s 131) (.goto 5) .skip
abbrev QP5 : AC := .seq QP3 QP4
abbrev QP6 : AC := .run [(.op (some 133) none (.faddr (.s 5) 1)), (.op (some 134) none (.load (.s 133) false 1)), (.call (some 135) none n_lex_number [(.s 134)]), (.op (some 132) none (.mv (.s 135))), (.op (some 136) none (.ext (.s 132) 0)), (.op (some 137) none (.ext (.s 132) 1)), (.op (some 138) none (.faddr (.s 5) 2)), (.op none none (.store (.s 138) (.s 136) 1)), (.op (some 8) none (.mv (.s 137)))]
abbrev QP7 : AC := .run [(.op (some 7) none (.mv (.k (.int .i64 4))))]
abbrev QP8 : AC := .run [(.op (some 139) none (.mv (.s 8))), (.op (some 140) none (.un .not (.s 139)))]
abbrev QP9 : AC := .cond (.s 140) (.goto 5) .skip
abbrev QPA : AC := .seq QP8 QP9
abbrev QPB : AC := .run [(.op (some 7) none (.mv (.k (.int .i64 4))))]
abbrev QPC : AC := .run [(.op (some 141) none (.mv (.s 4))), (.op (some 142) none (.len (.s 141))), (.op (some 143) none (.bin .eql (.s 142) (.k (.int .i64 2000))))]
abbrev QPD : AC := .cond (.s 143) (.goto 5) .skip
abbrev QPE : AC := .seq QPC QPD
abbrev QPF : AC := .run [(.op (some 144) none (.mv (.s 4))), (.op (some 145) none (.load (.s 5) true 4)), (.op (some 146) none (.bslice [(.int .i64 0), (.str []), (.int .i64 0), (.int .i64 0)] 4 1 [(0, (.s 145))])), (.op (some 147) none (.app 4 40 (.s 144) (.s 146))), (.op (some 4) none (.mv (.s 147)))]
abbrev QPG : AC := .par [(.op (some 148) none (.mv (.s 7))), (.op (some 149) none (.faddr (.s 5) 3)), (.op (some 150) none (.load (.s 149) false 1)), (.op (some 151) none (.build [(.int .i64 0), (.int .i64 0)] [(0, (1, (.s 148))), (1, (1, (.s 150)))])), (.op (some 2) none (.mv (.k (.slice .full 0 [])))), (.op none none (.store (.s 3) (.s 151) 2))] [(0, 0), (1, 0), (2, 0), (3, 0), (4, 0), (5, 0)]
abbrev QPH : AC := .seq QPG .ret
abbrev QPI : AC := .seq (.label 5) QPH
abbrev QPJ : AC := .seq (.goto 0) QPI
abbrev QPK : AC := .seq QPF QPJ
abbrev QPL : AC := .seq QPE QPK
abbrev QPM : AC := .seq QPB QPL
abbrev QPN : AC := .seq (.label 4) QPM
abbrev QPO : AC := .seq QPA QPN
abbrev QPP : AC := .seq QP7 QPO
abbrev QPQ : AC := .seq QP6 QPP
abbrev QPR : AC := .seq QP5 QPQ
abbrev QPS : AC := .seq QP2 QPR
abbrev QPT : AC := .seq QP1 QPS
abbrev QPU : AC := .seq (.label 3) QPT
abbrev QPV : AC := .seq (.goto 4) QPU
abbrev QPW : AC := .seq QOT QPV
abbrev QPX : AC := .seq QOQ QPW
abbrev QPY : AC := .seq QOP QPX
abbrev QPZ : AC := .seq QOL QPY
abbrev QQ0 : AC := .seq QOK QPZ
abbrev QQ1 : AC := .seq (.label 2) QQ0
abbrev QQ2 : AC := .seq (.goto 0) QQ1
abbrev QQ3 : AC := .seq QOJ QQ2
abbrev QQ4 : AC := .seq (.label 1) QQ3
abbrev QQ5 : AC := .seq (.goto 5) QQ4
abbrev QQ6 : AC := .seq QOB QQ5
abbrev QQ7 : AC := .seq QO8 QQ6
abbrev QQ8 : AC := .seq QO7 QQ7
abbrev QQ9 : AC := .seq QO6 QQ8
abbrev QQA : AC := .seq QO5 QQ9
abbrev QQB : AC := .seq QO4 QQA
abbrev QQC : AC := .seq QNN QQB
abbrev QQD : AC := .seq QNM QQC
abbrev QQE : AC := .seq (.label 0) QQD
abbrev QQF : AC := .seq QNH QQE
abbrev QQG : AC := .seq QNC QQF
abbrev QQH : AC := .seq QNB QQG
abbrev QQI : AC := .seq QNA QQH
abbrev QQJ : AC := .scope QQI
abbrev QQK : AC := .seq QN9 QQJ
abbrev QQL : AC := .run [(.op (some 2) none (.alloc [(.int .i64 0), (.int .i64 0), (.str []), (.slice .full 0 [])]))]
abbrev QQM : AC := .run [(.op (some 3) none (.mv (.s 0))), (.op (some 4) none (.build [(.int .i64 0), (.int .i64 0), (.str []), (.slice .full 0 [])] [(0, (1, (.k (.int .i64 1)))), (1, (1, (.s 3)))])), (.op none none (.store (.s 2) (.s 4) 4))]
abbrev QQN : AC := .seq QQM .ret
abbrev QQO : AC := .seq QQL QQN
abbrev QQP : AC := .run [(.op (some 2) none (.alloc [(.int .i64 0), (.int .i64 0), (.str []), (.slice .full 0 [])]))]
abbrev QQQ : AC := .run [(.op (some 3) none (.mv (.s 0))), (.op (some 4) none (.build [(.int .i64 0), (.int .i64 0), (.str []), (.slice .full 0 [])] [(0, (1, (.k (.int .i64 2)))), (2, (1, (.s 3)))])), (.op none none (.store (.s 2) (.s 4) 4))]
abbrev QQR : AC := .seq QQQ .ret
abbrev QQS : AC := .seq QQP QQR
abbrev QQT : AC := .run [(.op (some 4) none (.box (.s 1))), (.op (some 5) none (.box (.s 2))), (.op (some 6) none (.alloc [(.int .i64 0), (.int .i64 0), (.str []), (.slice .full 0 [])]))]
abbrev QQU : AC := .run [(.op (some 7) none (.mv (.s 0))), (.op (some 8) none (.load (.s 4) true 4)), (.op (some 9) none (.load (.s 5) true 4)), (.op (some 10) none (.bslice [(.int .i64 0), (.int .i64 0), (.str []), (.slice .full 0 [])] 4 2 [(0, (.s 8)), (1, (.s 9))])), (.op (some 11) none (.build [(.int .i64 0), (.int .i64 0), (.str []), (.slice .full 0 [])] [(0, (1, (.s 7))), (3, (1, (.s 10)))])), (.op none none (.store (.s 6) (.s 11) 4))]
abbrev QQV : AC := .seq QQU .ret
abbrev QQW : AC := .seq QQT QQV
abbrev QQX : AC := .run [(.op (some 2) none (.mv (.k (.bool false))))]
abbrev QQY : AC := .run [(.op (some 5) none (.mv (.s 0))), (.op (some 6) none (.len (.s 5))), (.op (some 7) none (.mv (.k (.int .i64 0))))]
abbrev QQZ : AC := .run [(.op (some 8) none (.bin .lss (.s 7) (.s 6)))]
abbrev QR0 : AC := .cond (.s 8) .skip (.exit 0)
abbrev QR1 : AC := .run [(.op (some 9) none (.iaddr (.s 5) (.s 7) 1)), (.op (some 10) none (.load (.s 9) false 1)), (.op (some 4) none (.mv (.s 10)))]
abbrev QR2 : AC := .run [(.op (some 11) none (.mv (.s 4))), (.call (some 12) none n_lex_Name [(.s 11)]), (.op (some 13) none (.un .not (.s 12)))]
abbrev QR3 : AC := .run [(.op (some 2) none (.mv (.k (.bool false))))]
abbrev QR4 : AC := .seq QR3 .ret
abbrev QR5 : AC := .cond (.s 13) QR4 .skip
abbrev QR6 : AC := .seq QR2 QR5
abbrev QR7 : AC := .seq QR1 QR6
abbrev QR8 : AC := .block 1 QR7
abbrev QR9 : AC := .run [(.op (some 14) none (.bin .add (.s 7) (.k (.int .i64 1)))), (.op (some 7) none (.mv (.s 14)))]
abbrev QRA : AC := .seq QR8 QR9
abbrev QRB : AC := .seq QR0 QRA
abbrev QRC : AC := .seq QQZ QRB
abbrev QRD : AC := .loop QRC
abbrev QRE : AC := .block 0 QRD
abbrev QRF : AC := .seq QQY QRE
abbrev QRG : AC := .run [(.op (some 2) none (.mv (.k (.bool true))))]
abbrev QRH : AC := .seq QRG .ret
abbrev QRI : AC := .seq QRF QRH
abbrev QRJ : AC := .seq QQX QRI
abbrev QRK : AC := .run [(.op (some 2) none (.mv (.k (.bool false))))]
abbrev QRL : AC := .run [(.op (some 3) none (.mv (.s 0))), (.op (some 4) none (.slen (.s 3))), (.op (some 5) none (.bin .lss (.s 4) (.k (.int .i64 1)))), (.op (some 6) none (.mv (.s 5))), (.op (some 7) (some (6, false)) (.mv (.s 0))), (.op (some 8) (some (6, false)) (.slen (.s 7))), (.op (some 9) (some (6, false)) (.bin .gtr (.s 8) (.k (.int .i64 8)))), (.op (some 10) none (.pick (.s 6) (.k (.bool true)) (.s 9))), (.op (some 11) none (.mv (.s 10))), (.op (some 12) (some (11, false)) (.mv (.s 0))), (.op (some 13) (some (11, false)) (.sidx (.s 12) (.k (.int .i64 0)))), (.call (some 14) (some (11, false)) n_lex_letter [(.s 13)]), (.op (some 15) (some (11, false)) (.un .not (.s 14))), (.op (some 16) none (.pick (.s 11) (.k (.bool true)) (.s 15)))]
abbrev QRM : AC := .run [(.op (some 2) none (.mv (.k (.bool false))))]
abbrev QRN : AC := .seq QRM .ret
abbrev QRO : AC := .cond (.s 16) QRN .skip
abbrev QRP : AC := .seq QRL QRO
abbrev QRQ : AC := .run [(.op (some 17) none (.mv (.s 0))), (.call (some 18) none n_lex_run [(.s 17), (.k (.int .i64 0))]), (.op (some 19) none (.mv (.s 0))), (.op (some 20) none (.slen (.s 19))), (.op (some 21) none (.bin .eql (.s 18) (.s 20))), (.op (some 22) none (.mv (.s 21))), (.op (some 23) (some (22, true)) (.mv (.s 0))), (.call (some 24) (some (22, true)) n_lex_Word [(.s 23)]), (.op (some 25) (some (22, true)) (.un .not (.s 24))), (.op (some 26) none (.pick (.s 22) (.s 25) (.k (.bool false)))), (.op (some 2) none (.mv (.s 26)))]
abbrev QRR : AC := .seq QRQ .ret
abbrev QRS : AC := .seq QRP QRR
abbrev QRT : AC := .seq QRK QRS
abbrev QRU : AC := .run [(.op (some 6) none (.mv (.k (.bool false))))]
abbrev QRV : AC := .run [(.op (some 9) none (.mv (.s 2))), (.op (some 10) none (.bin .gtr (.s 9) (.k (.int .i64 12)))), (.op (some 11) none (.mv (.s 10))), (.op (some 12) (some (11, true)) (.mv (.s 1))), (.op (some 13) (some (11, true)) (.len (.s 12))), (.op (some 14) (some (11, true)) (.bin .gtr (.s 13) (.k (.int .i64 0)))), (.op (some 15) none (.pick (.s 11) (.s 14) (.k (.bool false))))]
abbrev QRW : AC := .run [(.op (some 6) none (.mv (.k (.bool false))))]
abbrev QRX : AC := .seq QRW .ret
abbrev QRY : AC := .cond (.s 15) QRX .skip
abbrev QRZ : AC := .seq QRV QRY
abbrev QS0 : AC := .run [(.op (some 16) none (.mv (.s 1))), (.op (some 17) none (.len (.s 16))), (.op (some 18) none (.mv (.k (.int .i64 0))))]
abbrev QS1 : AC := .run [(.op (some 19) none (.bin .lss (.s 18) (.s 17)))]
abbrev QS2 : AC := .cond (.s 19) .skip (.exit 0)
abbrev QS3 : AC := .run [(.op (some 20) none (.iaddr (.s 16) (.s 18) 13)), (.op (some 21) none (.load (.s 20) true 13)), (.op (some 8) none (.alloc [(.int .i64 0), (.int .i64 0), (.slice .full 0 []), (.str []), (.str []), (.int .i64 0), (.int .i64 0), (.str []), (.slice .full 0 []), (.bool false), (.slice .full 0 []), (.slice .full 0 []), (.slice .full 0 [])])), (.op none none (.store (.s 8) (.s 21) 13))]
abbrev QS4 : AC := .run [(.op (some 22) none (.mv (.s 0))), (.op (some 23) none (.nilck (.s 22))), (.op (some 24) none (.faddr (.s 23) 0)), (.op (some 25) none (.load (.s 24) false 1)), (.op (some 26) none (.bin .add (.s 25) (.k (.int .i64 1)))), (.op (some 27) none (.nilck (.s 22))), (.op (some 28) none (.faddr (.s 27) 0)), (.op none none (.store (.s 28) (.s 26) 1))]
abbrev QS5 : AC := .par [(.op (some 29) none (.mv (.s 0))), (.op (some 30) none (.nilck (.s 29))), (.op (some 31) none (.faddr (.s 30) 0)), (.op (some 32) none (.load (.s 31) false 1)), (.op (some 33) none (.bin .gtr (.s 32) (.k (.int .i64 200)))), (.op (some 34) none (.mv (.s 33))), (.op (some 35) (some (34, false)) (.faddr (.s 8) 0)), (.op (some 36) (some (34, false)) (.load (.s 35) false 1)), (.op (some 37) (some (34, false)) (.mv (.s 0))), (.op (some 38) (some (34, false)) (.nilck (.s 37))), (.op (some 39) (some (34, false)) (.faddr (.s 38) 0)), (.op (some 40) (some (34, false)) (.load (.s 39) false 1)), (.op (some 41) (some (34, false)) (.bin .neq (.s 36) (.s 40))), (.op (some 42) none (.pick (.s 34) (.k (.bool true)) (.s 41))), (.op (some 43) none (.mv (.s 42))), (.op (some 44) (some (43, false)) (.faddr (.s 8) 2)), (.op (some 45) (some (43, false)) (.load (.s 44) false 1)), (.call (some 46) (some (43, false)) n_tree_names [(.s 45)]), (.op (some 47) (some (43, false)) (.un .not (.s 46))), (.op (some 48) none (.pick (.s 43) (.k (.bool true)) (.s 47))), (.op (some 49) none (.mv (.s 48))), (.op (some 50) (some (49, false)) (.load (.s 8) true 13)), (.call (some 51) (some (49, false)) n_tree_fields [(.s 50)]), (.op (some 52) (some (49, false)) (.un .not (.s 51))), (.op (some 53) none (.pick (.s 49) (.k (.bool true)) (.s 52)))] [(0, 0), (1, 0), (2, 0), (3, 0), (4, 0), (5, 0), (6, 0), (7, 0), (8, 0), (9, 0), (10, 0), (11, 0), (12, 0), (13, 0), (14, 0), (15, 0), (16, 0), (17, 0), (18, 0), (19, 0), (20, 0), (21, 0), (22, 0), (23, 0), (24, 0)]
abbrev QS6 : AC := .run [(.op (some 6) none (.mv (.k (.bool false))))]
abbrev QS7 : AC := .seq QS6 .ret
abbrev QS8 : AC := .cond (.s 53) QS7 .skip
abbrev QS9 : AC := .seq QS5 QS8
abbrev QSA : AC := .run [(.op (some 54) none (.mv (.s 0))), (.op (some 55) none (.faddr (.s 8) 11)), (.op (some 56) none (.load (.s 55) false 1)), (.op (some 57) none (.mv (.s 2))), (.op (some 58) none (.bin .add (.s 57) (.k (.int .i64 1)))), (.call (some 59) none n_tree_looker_rows [(.s 54), (.s 56), (.s 58)]), (.op (some 60) none (.un .not (.s 59))), (.op (some 61) none (.mv (.s 60))), (.op (some 62) (some (61, false)) (.mv (.s 0))), (.op (some 63) (some (61, false)) (.faddr (.s 8) 12)), (.op (some 64) (some (61, false)) (.load (.s 63) false 1)), (.op (some 65) (some (61, false)) (.mv (.s 2))), (.op (some 66) (some (61, false)) (.bin .add (.s 65) (.k (.int .i64 1)))), (.call (some 67) (some (61, false)) n_tree_looker_rows [(.s 62), (.s 64), (.s 66)]), (.op (some 68) (some (61, false)) (.un .not (.s 67))), (.op (some 69) none (.pick (.s 61) (.k (.bool true)) (.s 68)))]
abbrev QSB : AC := .run [(.op (some 6) none (.mv (.k (.bool false))))]
abbrev QSC : AC := .seq QSB .ret
abbrev QSD : AC := .cond (.s 69) QSC .skip
abbrev QSE : AC := .seq QSA QSD
abbrev QSF : AC := .seq QS9 QSE
abbrev QSG : AC := .seq QS4 QSF
abbrev QSH : AC := .seq QS3 QSG
abbrev QSI : AC := .block 1 QSH
abbrev QSJ : AC := .run [(.op (some 70) none (.bin .add (.s 18) (.k (.int .i64 1)))), (.op (some 18) none (.mv (.s 70)))]
abbrev QSK : AC := .seq QSI QSJ
abbrev QSL : AC := .seq QS2 QSK
abbrev QSM : AC := .seq QS1 QSL
abbrev QSN : AC := .loop QSM
abbrev QSO : AC := .block 0 QSN
abbrev QSP : AC := .seq QS0 QSO
abbrev QSQ : AC := .run [(.op (some 6) none (.mv (.k (.bool true))))]
abbrev QSR : AC := .seq QSQ .ret
abbrev QSS : AC := .seq QSP QSR
abbrev QST : AC := .seq QRZ QSS
abbrev QSU : AC := .seq QRU QST

end Go.Abs

/-! Have1 -/

namespace Go.Abs
open Go.Proofs

theorem has_print_writer_line : Has Tryd.prog n_print_writer_line 23 [] QBB := ⟨Tryd.f34, by kernel_rfl, by kernel_rfl⟩
theorem has_print_ref : Has Tryd.prog n_print_ref 4 [(2, none)] QBL := ⟨Tryd.f36, by kernel_rfl, by kernel_rfl⟩
theorem has_print_writer_rows : Has Tryd.prog n_print_writer_rows 84 [] QCR := ⟨Tryd.f37, by kernel_rfl, by kernel_rfl⟩
theorem has_print_marks : Has Tryd.prog n_print_marks 18 [(2, none)] QDC := ⟨Tryd.f38, by kernel_rfl, by kernel_rfl⟩
theorem has_ref3_Join : Has Tryd.prog n_ref3_Join 25 [(4, none)] QE2 := ⟨Tryd.f40, by kernel_rfl, by kernel_rfl⟩
theorem has_ref3_rows : Has Tryd.prog n_ref3_rows 60 [(4, none)] QEZ := ⟨Tryd.f41, by kernel_rfl, by kernel_rfl⟩
theorem has_ref3_with : Has Tryd.prog n_ref3_with 22 [(4, none)] QFK := ⟨Tryd.f42, by kernel_rfl, by kernel_rfl⟩
theorem has_ref3_weighExpr : Has Tryd.prog n_ref3_weighExpr 29 [(4, none)] QG3 := ⟨Tryd.f43, by kernel_rfl, by kernel_rfl⟩
theorem has_tree_MayExpr : Has Tryd.prog n_tree_MayExpr 5 [(2, none)] QG7 := ⟨Tryd.f44, by kernel_rfl, by kernel_rfl⟩
theorem has_print_expr : Has Tryd.prog n_print_expr 66 [(4, none)] QH9 := ⟨Tryd.f45, by kernel_rfl, by kernel_rfl⟩
theorem has_ref3_expr : Has Tryd.prog n_ref3_expr 56 [(2, none)] QI5 := ⟨Tryd.f46, by kernel_rfl, by kernel_rfl⟩
theorem has_ref3_names : Has Tryd.prog n_ref3_names 15 [(2, none)] QIS := ⟨Tryd.f47, by kernel_rfl, by kernel_rfl⟩
theorem has_ref1_Name : Has Tryd.prog n_ref1_Name 38 [(2, none)] QJJ := ⟨Tryd.f48, by kernel_rfl, by kernel_rfl⟩
theorem has_ref3_All : Has Tryd.prog n_ref3_All 23 [(2, none)] QKA := ⟨Tryd.f49, by kernel_rfl, by kernel_rfl⟩
theorem has_ref3_one : Has Tryd.prog n_ref3_one 178 [(2, none)] QLL := ⟨Tryd.f50, by kernel_rfl, by kernel_rfl⟩
theorem has_ref3_deep : Has Tryd.prog n_ref3_deep 36 [(4, none)] QMF := ⟨Tryd.f53, by kernel_rfl, by kernel_rfl⟩
theorem has_ref3_form : Has Tryd.prog n_ref3_form 60 [(2, none)] QN8 := ⟨Tryd.f54, by kernel_rfl, by kernel_rfl⟩
theorem has_ref3_num : Has Tryd.prog n_ref3_num 5 [(2, (some (true, 4)))] QQO := ⟨Tryd.f62, by kernel_rfl, by kernel_rfl⟩
theorem has_ref3_name : Has Tryd.prog n_ref3_name 5 [(2, (some (true, 4)))] QQS := ⟨Tryd.f63, by kernel_rfl, by kernel_rfl⟩
theorem has_ref3_two : Has Tryd.prog n_ref3_two 12 [(6, (some (true, 4)))] QQW := ⟨Tryd.f64, by kernel_rfl, by kernel_rfl⟩
theorem has_tree_names : Has Tryd.prog n_tree_names 15 [(2, none)] QRJ := ⟨Tryd.f65, by kernel_rfl, by kernel_rfl⟩
theorem has_lex_Name : Has Tryd.prog n_lex_Name 27 [(2, none)] QRT := ⟨Tryd.f66, by kernel_rfl, by kernel_rfl⟩
theorem has_tree_looker_rows : Has Tryd.prog n_tree_looker_rows 71 [(6, none)] QSU := ⟨Tryd.f67, by kernel_rfl, by kernel_rfl⟩

end Go.Abs

/-! Codes2 -/

namespace Go.Abs

abbrev QSV : AC := .run [(.op (some 4) none (.mv (.k (.val .nilIface))))]
abbrev QSW : AC := .run [(.op (some 5) none (.mv (.s 0))), (.call (some 6) none n_strings_Builder_copyCheck [(.s 5)])]
abbrev QSX : AC := .run [(.op (some 7) none (.mv (.s 0))), (.op (some 8) none (.mv (.s 0))), (.op (some 9) none (.nilck (.s 8))), (.op (some 10) none (.faddr (.s 9) 1)), (.op (some 11) none (.load (.s 10) false 1)), (.op (some 12) none (.mv (.s 1))), (.op (some 13) none (.bslice [(.int .u8 0)] 1 1 [(0, (.s 12))])), (.op (some 14) none (.appb (.s 11) (.s 13))), (.op (some 15) none (.nilck (.s 7))), (.op (some 16) none (.faddr (.s 15) 1)), (.op none none (.store (.s 16) (.s 14) 1))]
abbrev QSY : AC := .run [(.op (some 4) none (.mv (.k (.val .nilIface))))]
abbrev QSZ : AC := .seq QSY .ret
abbrev QT0 : AC := .seq QSX QSZ
abbrev QT1 : AC := .seq QSW QT0
abbrev QT2 : AC := .seq QSV QT1
abbrev QT3 : AC := .run [(.op (some 4) none (.mv (.k (.int .i64 0)))), (.op (some 5) none (.mv (.k (.val .nilIface))))]
abbrev QT4 : AC := .run [(.op (some 6) none (.mv (.s 0))), (.call (some 7) none n_strings_Builder_copyCheck [(.s 6)])]
abbrev QT5 : AC := .run [(.op (some 8) none (.mv (.s 0))), (.op (some 9) none (.mv (.s 0))), (.op (some 10) none (.nilck (.s 9))), (.op (some 11) none (.faddr (.s 10) 1)), (.op (some 12) none (.load (.s 11) false 1)), (.op (some 13) none (.mv (.s 1))), (.op (some 14) none (.apps (.s 12) (.s 13))), (.op (some 15) none (.nilck (.s 8))), (.op (some 16) none (.faddr (.s 15) 1)), (.op none none (.store (.s 16) (.s 14) 1))]
abbrev QT6 : AC := .run [(.op (some 17) none (.mv (.s 1))), (.op (some 18) none (.slen (.s 17))), (.op (some 4) none (.mv (.s 18))), (.op (some 5) none (.mv (.k (.val .nilIface))))]
abbrev QT7 : AC := .seq QT6 .ret
abbrev QT8 : AC := .seq QT5 QT7
abbrev QT9 : AC := .seq QT4 QT8
abbrev QTA : AC := .seq QT3 QT9
abbrev QTB : AC := .run [(.op (some 1) none (.box (.s 0))), (.op (some 2) none (.mv (.k (.str []))))]
abbrev QTC : AC := .run [(.op (some 7) none (.faddr (.s 1) 1)), (.op (some 8) none (.load (.s 7) false 1))]
abbrev QTD : AC := .run [(.op (some 10) none (.bin .eql (.s 8) (.k (.int .i64 1)))), (.op (some 9) none (.mv (.s 10)))]
abbrev QTE : AC := .par [(.op (some 11) none (.faddr (.s 1) 3)), (.op (some 12) none (.load (.s 11) false 1)), (.op (some 13) none (.bin .add (.s 12) (.k (.str [32, 61, 32])))), (.op (some 14) none (.faddr (.s 1) 5)), (.op (some 15) none (.load (.s 14) true 4)), (.call (some 16) none n_print_expr [(.s 15), (.k (.int .i64 0))]), (.op (some 17) none (.bin .add (.s 13) (.s 16))), (.op (some 2) none (.mv (.s 17)))] [(3, 0), (4, 0), (5, 0), (0, 0), (1, 1), (2, 0), (6, 0), (7, 0)]
abbrev QTF : AC := .seq QTE .ret
abbrev QTG : AC := .run [(.op (some 19) none (.bin .eql (.s 8) (.k (.int .i64 2)))), (.op (some 18) none (.mv (.s 19)))]
abbrev QTH : AC := .run [(.op (some 20) none (.faddr (.s 1) 3)), (.op (some 21) none (.load (.s 20) false 1)), (.op (some 22) none (.bin .add (.k (.str [114, 101, 97, 100, 32])) (.s 21))), (.op (some 2) none (.mv (.s 22)))]
abbrev QTI : AC := .seq QTH .ret
abbrev QTJ : AC := .run [(.op (some 24) none (.bin .eql (.s 8) (.k (.int .i64 3)))), (.op (some 23) none (.mv (.s 24)))]
abbrev QTK : AC := .run [(.op (some 25) none (.faddr (.s 1) 5)), (.op (some 26) none (.load (.s 25) true 4)), (.call (some 27) none n_print_expr [(.s 26), (.k (.int .i64 0))]), (.op (some 28) none (.bin .add (.k (.str [112, 114, 105, 110, 116, 32])) (.s 27))), (.op (some 2) none (.mv (.s 28)))]
abbrev QTL : AC := .seq QTK .ret
abbrev QTM : AC := .run [(.op (some 30) none (.bin .eql (.s 8) (.k (.int .i64 7)))), (.op (some 29) none (.mv (.s 30)))]
abbrev QTN : AC := .run [(.op (some 2) none (.mv (.k (.str [98, 114, 101, 97, 107]))))]
abbrev QTO : AC := .seq QTN .ret
abbrev QTP : AC := .run [(.op (some 32) none (.bin .eql (.s 8) (.k (.int .i64 8)))), (.op (some 31) none (.mv (.s 32)))]
abbrev QTQ : AC := .run [(.op (some 2) none (.mv (.k (.str [99, 111, 110, 116, 105, 110, 117, 101]))))]
abbrev QTR : AC := .seq QTQ .ret
abbrev QTS : AC := .run [(.op (some 34) none (.bin .eql (.s 8) (.k (.int .i64 10)))), (.op (some 33) none (.mv (.s 34)))]
abbrev QTT : AC := .run [(.op (some 35) none (.faddr (.s 1) 3)), (.op (some 36) none (.load (.s 35) false 1)), (.op (some 37) none (.bin .add (.k (.str [103, 111, 116, 111, 32])) (.s 36))), (.op (some 2) none (.mv (.s 37)))]
abbrev QTU : AC := .seq QTT .ret
abbrev QTV : AC := .run [(.op (some 39) none (.bin .eql (.s 8) (.k (.int .i64 9)))), (.op (some 38) none (.mv (.s 39)))]
abbrev QTW : AC := .run [(.op (some 40) none (.faddr (.s 1) 9)), (.op (some 41) none (.load (.s 40) false 1))]
abbrev QTX : AC := .run [(.op (some 42) none (.faddr (.s 1) 5)), (.op (some 43) none (.load (.s 42) true 4)), (.call (some 44) none n_print_expr [(.s 43), (.k (.int .i64 0))]), (.op (some 45) none (.bin .add (.k (.str [114, 101, 116, 117, 114, 110, 32])) (.s 44))), (.op (some 2) none (.mv (.s 45)))]
abbrev QTY : AC := .seq QTX .ret
abbrev QTZ : AC := .cond (.s 41) QTY .skip
abbrev QU0 : AC := .seq QTW QTZ
abbrev QU1 : AC := .run [(.op (some 2) none (.mv (.k (.str [114, 101, 116, 117, 114, 110]))))]
abbrev QU2 : AC := .seq QU1 .ret
abbrev QU3 : AC := .seq QU0 QU2
abbrev QU4 : AC := .cond (.s 38) QU3 .skip
abbrev QU5 : AC := .seq QTV QU4
abbrev QU6 : AC := .cond (.s 33) QTU QU5
abbrev QU7 : AC := .seq QTS QU6
abbrev QU8 : AC := .cond (.s 31) QTR QU7
abbrev QU9 : AC := .seq QTP QU8
abbrev QUA : AC := .cond (.s 29) QTO QU9
abbrev QUB : AC := .seq QTM QUA
abbrev QUC : AC := .cond (.s 23) QTL QUB
abbrev QUD : AC := .seq QTJ QUC
abbrev QUE : AC := .cond (.s 18) QTI QUD
abbrev QUF : AC := .seq QTG QUE
abbrev QUG : AC := .cond (.s 9) QTF QUF
abbrev QUH : AC := .seq QTD QUG
abbrev QUI : AC := .block 0 QUH
abbrev QUJ : AC := .seq QTC QUI
abbrev QUK : AC := .run [(.op (some 3) none (.mv (.k (.slice .full 0 []))))]
abbrev QUL : AC := .run [(.op (some 46) none (.faddr (.s 1) 10)), (.op (some 47) none (.load (.s 46) false 1)), (.op (some 48) none (.len (.s 47))), (.op (some 49) none (.mv (.k (.int .i64 0))))]
abbrev QUM : AC := .run [(.op (some 50) none (.bin .lss (.s 49) (.s 48)))]
abbrev QUN : AC := .cond (.s 50) .skip (.exit 1)
abbrev QUO : AC := .run [(.op (some 51) none (.iaddr (.s 47) (.s 49) 6)), (.op (some 52) none (.load (.s 51) true 6)), (.op (some 5) none (.alloc [(.bool false), (.str []), (.int .i64 0), (.int .i64 0), (.str []), (.slice .full 0 [])])), (.op none none (.store (.s 5) (.s 52) 6))]
abbrev QUP : AC := .run [(.op (some 53) none (.faddr (.s 5) 0)), (.op (some 54) none (.load (.s 53) false 1))]
abbrev QUQ : AC := .par [(.op (some 55) none (.mv (.s 3))), (.call (some 56) none n_print_ref [(.k (.bool true))]), (.op (some 57) none (.faddr (.s 5) 1)), (.op (some 58) none (.load (.s 57) false 1)), (.op (some 59) none (.bin .add (.s 56) (.s 58))), (.op (some 60) none (.bslice [(.str [])] 1 1 [(0, (.s 59))])), (.op (some 61) none (.app 1 16 (.s 55) (.s 60))), (.op (some 3) none (.mv (.s 61)))] [(1, 0), (0, 0), (2, 0), (3, 1), (4, 0), (5, 0), (6, 0), (7, 0)]
abbrev QUR : AC := .run [(.op (some 62) none (.mv (.s 3))), (.op (some 63) none (.faddr (.s 5) 2)), (.op (some 64) none (.load (.s 63) true 4)), (.call (some 65) none n_print_expr [(.s 64), (.k (.int .i64 0))]), (.op (some 66) none (.bslice [(.str [])] 1 1 [(0, (.s 65))])), (.op (some 67) none (.app 1 16 (.s 62) (.s 66))), (.op (some 3) none (.mv (.s 67)))]
abbrev QUS : AC := .cond (.s 54) QUQ QUR
abbrev QUT : AC := .seq QUP QUS
abbrev QUU : AC := .seq QUO QUT
abbrev QUV : AC := .block 2 QUU
abbrev QUW : AC := .run [(.op (some 68) none (.bin .add (.s 49) (.k (.int .i64 1)))), (.op (some 49) none (.mv (.s 68)))]
abbrev QUX : AC := .seq QUV QUW
abbrev QUY : AC := .seq QUN QUX
abbrev QUZ : AC := .seq QUM QUY
abbrev QV0 : AC := .loop QUZ
abbrev QV1 : AC := .block 1 QV0
abbrev QV2 : AC := .seq QUL QV1
abbrev QV3 : AC := .par [(.op (some 69) none (.faddr (.s 1) 4)), (.op (some 70) none (.load (.s 69) false 1)), (.op (some 71) none (.bin .add (.s 70) (.k (.str [40])))), (.op (some 72) none (.mv (.s 3))), (.call (some 73) none n_strings_Join [(.s 72), (.k (.str [44, 32]))]), (.op (some 74) none (.bin .add (.s 71) (.s 73))), (.op (some 75) none (.bin .add (.s 74) (.k (.str [41])))), (.op (some 6) none (.mv (.s 75)))] [(3, 0), (4, 0), (0, 0), (1, 1), (2, 0), (5, 0), (6, 0), (7, 0)]
abbrev QV4 : AC := .run [(.op (some 76) none (.faddr (.s 1) 3)), (.op (some 77) none (.load (.s 76) false 1)), (.op (some 78) none (.bin .neq (.s 77) (.k (.str []))))]
abbrev QV5 : AC := .run [(.op (some 79) none (.faddr (.s 1) 3)), (.op (some 80) none (.load (.s 79) false 1)), (.op (some 81) none (.bin .add (.s 80) (.k (.str [32, 61, 32])))), (.op (some 82) none (.mv (.s 6))), (.op (some 83) none (.bin .add (.s 81) (.s 82))), (.op (some 2) none (.mv (.s 83)))]
abbrev QV6 : AC := .seq QV5 .ret
abbrev QV7 : AC := .cond (.s 78) QV6 .skip
abbrev QV8 : AC := .seq QV4 QV7
abbrev QV9 : AC := .run [(.op (some 84) none (.mv (.s 6))), (.op (some 2) none (.mv (.s 84)))]
abbrev QVA : AC := .seq QV9 .ret
abbrev QVB : AC := .seq QV8 QVA
abbrev QVC : AC := .seq QV3 QVB
abbrev QVD : AC := .seq QV2 QVC
abbrev QVE : AC := .seq QUK QVD
abbrev QVF : AC := .seq QUJ QVE
abbrev QVG : AC := .seq QTB QVF
abbrev QVH : AC := .run [(.op (some 1) none (.box (.s 0))), (.op (some 2) none (.mv (.k (.str []))))]
abbrev QVI : AC := .run [(.op (some 3) none (.faddr (.s 1) 1)), (.op (some 4) none (.load (.s 3) false 1))]
abbrev QVJ : AC := .run [(.op (some 6) none (.bin .eql (.s 4) (.k (.int .i64 1)))), (.op (some 5) none (.mv (.s 6)))]
abbrev QVK : AC := .par [(.op (some 7) none (.faddr (.s 1) 3)), (.op (some 8) none (.load (.s 7) false 1)), (.op (some 9) none (.bin .add (.s 8) (.k (.str [32, 61, 32])))), (.op (some 10) none (.faddr (.s 1) 5)), (.op (some 11) none (.load (.s 10) true 4)), (.call (some 12) none n_ref3_expr [(.s 11)]), (.op (some 13) none (.bin .add (.s 9) (.s 12))), (.op (some 14) none (.bin .add (.s 13) (.k (.str [59])))), (.op (some 2) none (.mv (.s 14)))] [(3, 0), (4, 0), (5, 0), (0, 0), (1, 1), (2, 0), (6, 0), (7, 0), (8, 0)]
abbrev QVL : AC := .seq QVK .ret
abbrev QVM : AC := .run [(.op (some 16) none (.bin .eql (.s 4) (.k (.int .i64 2)))), (.op (some 15) none (.mv (.s 16)))]
abbrev QVN : AC := .run [(.op (some 17) none (.faddr (.s 1) 3)), (.op (some 18) none (.load (.s 17) false 1)), (.op (some 19) none (.bin .add (.k (.str [114, 101, 97, 100, 32])) (.s 18))), (.op (some 20) none (.bin .add (.s 19) (.k (.str [59])))), (.op (some 2) none (.mv (.s 20)))]
abbrev QVO : AC := .seq QVN .ret
abbrev QVP : AC := .run [(.op (some 22) none (.bin .eql (.s 4) (.k (.int .i64 3)))), (.op (some 21) none (.mv (.s 22)))]
abbrev QVQ : AC := .run [(.op (some 23) none (.faddr (.s 1) 5)), (.op (some 24) none (.load (.s 23) true 4)), (.call (some 25) none n_ref3_expr [(.s 24)]), (.op (some 26) none (.bin .add (.k (.str [112, 114, 105, 110, 116, 32])) (.s 25))), (.op (some 27) none (.bin .add (.s 26) (.k (.str [59])))), (.op (some 2) none (.mv (.s 27)))]
abbrev QVR : AC := .seq QVQ .ret
abbrev QVS : AC := .run [(.op (some 29) none (.bin .eql (.s 4) (.k (.int .i64 4)))), (.op (some 28) none (.mv (.s 29)))]
abbrev QVT : AC := .run [(.op (some 30) none (.load (.s 1) true 13)), (.call (some 31) none n_ref3_call [(.s 30)]), (.op (some 2) none (.mv (.s 31)))]
abbrev QVU : AC := .seq QVT .ret
abbrev QVV : AC := .run [(.op (some 33) none (.bin .eql (.s 4) (.k (.int .i64 5)))), (.op (some 32) none (.mv (.s 33)))]
abbrev QVW : AC := .run [(.op (some 34) none (.faddr (.s 1) 5)), (.op (some 35) none (.load (.s 34) true 4)), (.call (some 36) none n_ref3_expr [(.s 35)]), (.op (some 37) none (.bin .add (.k (.str [105, 102, 32, 40])) (.s 36))), (.op (some 38) none (.bin .add (.s 37) (.k (.str [41, 32, 123])))), (.op (some 2) none (.mv (.s 38)))]
abbrev QVX : AC := .seq QVW .ret
abbrev QVY : AC := .run [(.op (some 40) none (.bin .eql (.s 4) (.k (.int .i64 6)))), (.op (some 39) none (.mv (.s 40)))]
abbrev QVZ : AC := .run [(.op (some 41) none (.faddr (.s 1) 5)), (.op (some 42) none (.load (.s 41) true 4)), (.call (some 43) none n_ref3_expr [(.s 42)]), (.op (some 44) none (.bin .add (.k (.str [119, 104, 105, 108, 101, 32, 40])) (.s 43))), (.op (some 45) none (.bin .add (.s 44) (.k (.str [41, 32, 123])))), (.op (some 2) none (.mv (.s 45)))]
abbrev QW0 : AC := .seq QVZ .ret
abbrev QW1 : AC := .run [(.op (some 47) none (.bin .eql (.s 4) (.k (.int .i64 7)))), (.op (some 46) none (.mv (.s 47)))]
abbrev QW2 : AC := .run [(.op (some 2) none (.mv (.k (.str [98, 114, 101, 97, 107, 59]))))]
abbrev QW3 : AC := .seq QW2 .ret
abbrev QW4 : AC := .run [(.op (some 49) none (.bin .eql (.s 4) (.k (.int .i64 8)))), (.op (some 48) none (.mv (.s 49)))]
abbrev QW5 : AC := .run [(.op (some 2) none (.mv (.k (.str [99, 111, 110, 116, 105, 110, 117, 101, 59]))))]
abbrev QW6 : AC := .seq QW5 .ret
abbrev QW7 : AC := .run [(.op (some 51) none (.bin .eql (.s 4) (.k (.int .i64 10)))), (.op (some 50) none (.mv (.s 51)))]
abbrev QW8 : AC := .run [(.op (some 52) none (.faddr (.s 1) 3)), (.op (some 53) none (.load (.s 52) false 1)), (.op (some 54) none (.bin .add (.k (.str [103, 111, 116, 111, 32])) (.s 53))), (.op (some 55) none (.bin .add (.s 54) (.k (.str [59])))), (.op (some 2) none (.mv (.s 55)))]
abbrev QW9 : AC := .seq QW8 .ret
abbrev QWA : AC := .cond (.s 50) QW9 .skip
abbrev QWB : AC := .seq QW7 QWA
abbrev QWC : AC := .cond (.s 48) QW6 QWB
abbrev QWD : AC := .seq QW4 QWC
abbrev QWE : AC := .cond (.s 46) QW3 QWD
abbrev QWF : AC := .seq QW1 QWE
abbrev QWG : AC := .cond (.s 39) QW0 QWF
abbrev QWH : AC := .seq QVY QWG
abbrev QWI : AC := .cond (.s 32) QVX QWH
abbrev QWJ : AC := .seq QVV QWI
abbrev QWK : AC := .cond (.s 28) QVU QWJ
abbrev QWL : AC := .seq QVS QWK
abbrev QWM : AC := .cond (.s 21) QVR QWL
abbrev QWN : AC := .seq QVP QWM
abbrev QWO : AC := .cond (.s 15) QVO QWN
abbrev QWP : AC := .seq QVM QWO
abbrev QWQ : AC := .cond (.s 5) QVL QWP
abbrev QWR : AC := .seq QVJ QWQ
abbrev QWS : AC := .block 0 QWR
abbrev QWT : AC := .seq QVI QWS
abbrev QWU : AC := .run [(.op (some 56) none (.faddr (.s 1) 9)), (.op (some 57) none (.load (.s 56) false 1))]
abbrev QWV : AC := .run [(.op (some 58) none (.faddr (.s 1) 5)), (.op (some 59) none (.load (.s 58) true 4)), (.call (some 60) none n_ref3_expr [(.s 59)]), (.op (some 61) none (.bin .add (.k (.str [114, 101, 116, 117, 114, 110, 32])) (.s 60))), (.op (some 62) none (.bin .add (.s 61) (.k (.str [59])))), (.op (some 2) none (.mv (.s 62)))]
abbrev QWW : AC := .seq QWV .ret
abbrev QWX : AC := .cond (.s 57) QWW .skip
abbrev QWY : AC := .seq QWU QWX
abbrev QWZ : AC := .run [(.op (some 2) none (.mv (.k (.str [114, 101, 116, 117, 114, 110, 59]))))]
abbrev QX0 : AC := .seq QWZ .ret
abbrev QX1 : AC := .seq QWY QX0
abbrev QX2 : AC := .seq QWT QX1
abbrev QX3 : AC := .seq QVH QX2
abbrev QX4 : AC := .run [(.op (some 2) none (.box (.s 0))), (.op (some 4) none (.mv (.k (.bool false))))]
abbrev QX5 : AC := .par [(.op (some 7) none (.mv (.s 1))), (.op (some 8) none (.bin .lss (.s 7) (.k (.int .i64 1)))), (.op (some 9) none (.mv (.s 8))), (.op (some 10) (some (9, false)) (.faddr (.s 2) 3)), (.op (some 11) (some (9, false)) (.load (.s 10) false 1)), (.op (some 12) (some (9, false)) (.len (.s 11))), (.op (some 13) (some (9, false)) (.faddr (.s 2) 0)), (.op (some 14) (some (9, false)) (.load (.s 13) false 1)), (.call (some 15) (some (9, false)) n_tree_kids [(.s 14)]), (.op (some 16) (some (9, false)) (.bin .neq (.s 12) (.s 15))), (.op (some 17) none (.pick (.s 9) (.k (.bool true)) (.s 16)))] [(0, 0), (1, 0), (2, 0), (6, 0), (7, 0), (8, 0), (3, 0), (4, 1), (5, 0), (9, 0), (10, 0)]
abbrev QX6 : AC := .run [(.op (some 4) none (.mv (.k (.bool false))))]
abbrev QX7 : AC := .seq QX6 .ret
abbrev QX8 : AC := .cond (.s 17) QX7 .skip
abbrev QX9 : AC := .seq QX5 QX8
abbrev QXA : AC := .run [(.op (some 18) none (.faddr (.s 2) 0)), (.op (some 19) none (.load (.s 18) false 1))]
abbrev QXB : AC := .run [(.op (some 21) none (.bin .eql (.s 19) (.k (.int .i64 1)))), (.op (some 20) none (.mv (.s 21)))]
abbrev QXC : AC := .run [(.op (some 22) none (.faddr (.s 2) 1)), (.op (some 23) none (.load (.s 22) false 1)), (.op (some 24) none (.bin .geq (.s 23) (.k (.int .i64 0)))), (.op (some 25) none (.mv (.s 24))), (.op (some 26) (some (25, true)) (.faddr (.s 2) 2)), (.op (some 27) (some (25, true)) (.load (.s 26) false 1)), (.op (some 28) (some (25, true)) (.bin .eql (.s 27) (.k (.str [])))), (.op (some 29) none (.pick (.s 25) (.s 28) (.k (.bool false)))), (.op (some 4) none (.mv (.s 29)))]
abbrev QXD : AC := .seq QXC .ret
abbrev QXE : AC := .run [(.op (some 31) none (.bin .eql (.s 19) (.k (.int .i64 2)))), (.op (some 30) none (.mv (.s 31)))]
abbrev QXF : AC := .run [(.op (some 32) none (.faddr (.s 2) 1)), (.op (some 33) none (.load (.s 32) false 1)), (.op (some 34) none (.bin .eql (.s 33) (.k (.int .i64 0)))), (.op (some 35) none (.mv (.s 34))), (.op (some 36) (some (35, true)) (.faddr (.s 2) 2)), (.op (some 37) (some (35, true)) (.load (.s 36) false 1)), (.call (some 38) (some (35, true)) n_lex_Name [(.s 37)]), (.op (some 39) none (.pick (.s 35) (.s 38) (.k (.bool false)))), (.op (some 4) none (.mv (.s 39)))]
abbrev QXG : AC := .seq QXF .ret
abbrev QXH : AC := .cond (.s 30) QXG .skip
abbrev QXI : AC := .seq QXE QXH
abbrev QXJ : AC := .cond (.s 20) QXD QXI
abbrev QXK : AC := .seq QXB QXJ
abbrev QXL : AC := .block 0 QXK
abbrev QXM : AC := .seq QXA QXL
abbrev QXN : AC := .run [(.op (some 40) none (.faddr (.s 2) 1)), (.op (some 41) none (.load (.s 40) false 1)), (.op (some 42) none (.bin .neq (.s 41) (.k (.int .i64 0)))), (.op (some 43) none (.mv (.s 42))), (.op (some 44) (some (43, false)) (.faddr (.s 2) 2)), (.op (some 45) (some (43, false)) (.load (.s 44) false 1)), (.op (some 46) (some (43, false)) (.bin .neq (.s 45) (.k (.str [])))), (.op (some 47) none (.pick (.s 43) (.k (.bool true)) (.s 46)))]
abbrev QXO : AC := .run [(.op (some 4) none (.mv (.k (.bool false))))]
abbrev QXP : AC := .seq QXO .ret
abbrev QXQ : AC := .cond (.s 47) QXP .skip
abbrev QXR : AC := .seq QXN QXQ
abbrev QXS : AC := .run [(.op (some 48) none (.faddr (.s 2) 3)), (.op (some 49) none (.load (.s 48) false 1)), (.op (some 50) none (.len (.s 49))), (.op (some 51) none (.mv (.k (.int .i64 0))))]
abbrev QXT : AC := .run [(.op (some 52) none (.bin .lss (.s 51) (.s 50)))]
abbrev QXU : AC := .cond (.s 52) .skip (.exit 1)
abbrev QXV : AC := .run [(.op (some 53) none (.iaddr (.s 49) (.s 51) 4)), (.op (some 54) none (.load (.s 53) true 4)), (.op (some 6) none (.alloc [(.int .i64 0), (.int .i64 0), (.str []), (.slice .full 0 [])])), (.op none none (.store (.s 6) (.s 54) 4))]
abbrev QXW : AC := .run [(.op (some 55) none (.load (.s 6) true 4)), (.op (some 56) none (.mv (.s 1))), (.op (some 57) none (.bin .sub (.s 56) (.k (.int .i64 1)))), (.call (some 58) none n_tree_deep [(.s 55), (.s 57)]), (.op (some 59) none (.un .not (.s 58)))]
abbrev QXX : AC := .run [(.op (some 4) none (.mv (.k (.bool false))))]
abbrev QXY : AC := .seq QXX .ret
abbrev QXZ : AC := .cond (.s 59) QXY .skip
abbrev QY0 : AC := .seq QXW QXZ
abbrev QY1 : AC := .seq QXV QY0
abbrev QY2 : AC := .block 2 QY1
abbrev QY3 : AC := .run [(.op (some 60) none (.bin .add (.s 51) (.k (.int .i64 1)))), (.op (some 51) none (.mv (.s 60)))]
abbrev QY4 : AC := .seq QY2 QY3
abbrev QY5 : AC := .seq QXU QY4
abbrev QY6 : AC := .seq QXT QY5
abbrev QY7 : AC := .loop QY6
abbrev QY8 : AC := .block 1 QY7
abbrev QY9 : AC := .seq QXS QY8
abbrev QYA : AC := .run [(.op (some 4) none (.mv (.k (.bool true))))]
abbrev QYB : AC := .seq QYA .ret
abbrev QYC : AC := .seq QY9 QYB
abbrev QYD : AC := .seq QXR QYC
abbrev QYE : AC := .seq QXM QYD
abbrev QYF : AC := .seq QX9 QYE
abbrev QYG : AC := .seq QX4 QYF
abbrev QYH : AC := .run [(.op (some 2) none (.mv (.k (.str [])))), (.op (some 3) none (.mv (.k (.int .i64 0))))]
abbrev QYI : AC := .run [(.op (some 4) none (.mv (.s 0)))]
abbrev QYJ : AC := .run [(.op (some 6) none (.bin .eql (.s 4) (.k (.int .i64 17)))), (.op (some 5) none (.mv (.s 6)))]
abbrev QYK : AC := .run [(.op (some 2) none (.mv (.k (.str [124, 124])))), (.op (some 3) none (.mv (.k (.int .i64 1))))]
abbrev QYL : AC := .seq QYK .ret
abbrev QYM : AC := .run [(.op (some 8) none (.bin .eql (.s 4) (.k (.int .i64 16)))), (.op (some 7) none (.mv (.s 8)))]
abbrev QYN : AC := .run [(.op (some 2) none (.mv (.k (.str [38, 38])))), (.op (some 3) none (.mv (.k (.int .i64 2))))]
abbrev QYO : AC := .seq QYN .ret
abbrev QYP : AC := .run [(.op (some 10) none (.bin .eql (.s 4) (.k (.int .i64 14)))), (.op (some 9) none (.mv (.s 10)))]
abbrev QYQ : AC := .run [(.op (some 2) none (.mv (.k (.str [61, 61])))), (.op (some 3) none (.mv (.k (.int .i64 3))))]
abbrev QYR : AC := .seq QYQ .ret
abbrev QYS : AC := .run [(.op (some 12) none (.bin .eql (.s 4) (.k (.int .i64 15)))), (.op (some 11) none (.mv (.s 12)))]
abbrev QYT : AC := .run [(.op (some 2) none (.mv (.k (.str [33, 61])))), (.op (some 3) none (.mv (.k (.int .i64 3))))]
abbrev QYU : AC := .seq QYT .ret
abbrev QYV : AC := .run [(.op (some 14) none (.bin .eql (.s 4) (.k (.int .i64 10)))), (.op (some 13) none (.mv (.s 14)))]
abbrev QYW : AC := .run [(.op (some 2) none (.mv (.k (.str [60])))), (.op (some 3) none (.mv (.k (.int .i64 4))))]
abbrev QYX : AC := .seq QYW .ret
abbrev QYY : AC := .run [(.op (some 16) none (.bin .eql (.s 4) (.k (.int .i64 11)))), (.op (some 15) none (.mv (.s 16)))]
abbrev QYZ : AC := .run [(.op (some 2) none (.mv (.k (.str [60, 61])))), (.op (some 3) none (.mv (.k (.int .i64 4))))]
abbrev QZ0 : AC := .seq QYZ .ret
abbrev QZ1 : AC := .run [(.op (some 18) none (.bin .eql (.s 4) (.k (.int .i64 12)))), (.op (some 17) none (.mv (.s 18)))]
abbrev QZ2 : AC := .run [(.op (some 2) none (.mv (.k (.str [62])))), (.op (some 3) none (.mv (.k (.int .i64 4))))]
abbrev QZ3 : AC := .seq QZ2 .ret
abbrev QZ4 : AC := .run [(.op (some 20) none (.bin .eql (.s 4) (.k (.int .i64 13)))), (.op (some 19) none (.mv (.s 20)))]
abbrev QZ5 : AC := .run [(.op (some 2) none (.mv (.k (.str [62, 61])))), (.op (some 3) none (.mv (.k (.int .i64 4))))]
abbrev QZ6 : AC := .seq QZ5 .ret
abbrev QZ7 : AC := .run [(.op (some 22) none (.bin .eql (.s 4) (.k (.int .i64 8)))), (.op (some 21) none (.mv (.s 22)))]
abbrev QZ8 : AC := .run [(.op (some 2) none (.mv (.k (.str [43])))), (.op (some 3) none (.mv (.k (.int .i64 5))))]
abbrev QZ9 : AC := .seq QZ8 .ret
abbrev QZA : AC := .run [(.op (some 24) none (.bin .eql (.s 4) (.k (.int .i64 9)))), (.op (some 23) none (.mv (.s 24)))]
abbrev QZB : AC := .run [(.op (some 2) none (.mv (.k (.str [45])))), (.op (some 3) none (.mv (.k (.int .i64 5))))]
abbrev QZC : AC := .seq QZB .ret
abbrev QZD : AC := .run [(.op (some 26) none (.bin .eql (.s 4) (.k (.int .i64 5)))), (.op (some 25) none (.mv (.s 26)))]
abbrev QZE : AC := .run [(.op (some 2) none (.mv (.k (.str [42])))), (.op (some 3) none (.mv (.k (.int .i64 6))))]
abbrev QZF : AC := .seq QZE .ret
abbrev QZG : AC := .run [(.op (some 28) none (.bin .eql (.s 4) (.k (.int .i64 6)))), (.op (some 27) none (.mv (.s 28)))]
abbrev QZH : AC := .run [(.op (some 2) none (.mv (.k (.str [47])))), (.op (some 3) none (.mv (.k (.int .i64 6))))]
abbrev QZI : AC := .seq QZH .ret
abbrev QZJ : AC := .run [(.op (some 30) none (.bin .eql (.s 4) (.k (.int .i64 7)))), (.op (some 29) none (.mv (.s 30)))]
abbrev QZK : AC := .run [(.op (some 2) none (.mv (.k (.str [37])))), (.op (some 3) none (.mv (.k (.int .i64 6))))]
abbrev QZL : AC := .seq QZK .ret
abbrev QZM : AC := .cond (.s 29) QZL .skip
abbrev QZN : AC := .seq QZJ QZM
abbrev QZO : AC := .cond (.s 27) QZI QZN
abbrev QZP : AC := .seq QZG QZO
abbrev QZQ : AC := .cond (.s 25) QZF QZP
abbrev QZR : AC := .seq QZD QZQ
abbrev QZS : AC := .cond (.s 23) QZC QZR
abbrev QZT : AC := .seq QZA QZS
abbrev QZU : AC := .cond (.s 21) QZ9 QZT
abbrev QZV : AC := .seq QZ7 QZU
abbrev QZW : AC := .cond (.s 19) QZ6 QZV
abbrev QZX : AC := .seq QZ4 QZW
abbrev QZY : AC := .cond (.s 17) QZ3 QZX
abbrev QZZ : AC := .seq QZ1 QZY
abbrev Q100 : AC := .cond (.s 15) QZ0 QZZ
abbrev Q101 : AC := .seq QYY Q100
abbrev Q102 : AC := .cond (.s 13) QYX Q101
abbrev Q103 : AC := .seq QYV Q102
abbrev Q104 : AC := .cond (.s 11) QYU Q103
abbrev Q105 : AC := .seq QYS Q104
abbrev Q106 : AC := .cond (.s 9) QYR Q105
abbrev Q107 : AC := .seq QYP Q106
abbrev Q108 : AC := .cond (.s 7) QYO Q107
abbrev Q109 : AC := .seq QYM Q108
abbrev Q10A : AC := .cond (.s 5) QYL Q109
abbrev Q10B : AC := .seq QYJ Q10A
abbrev Q10C : AC := .block 0 Q10B
abbrev Q10D : AC := .seq QYI Q10C
abbrev Q10E : AC := .run [(.op (some 2) none (.mv (.k (.str [])))), (.op (some 3) none (.mv (.k (.int .i64 7))))]
abbrev Q10F : AC := .seq Q10E .ret
abbrev Q10G : AC := .seq Q10D Q10F
abbrev Q10H : AC := .seq QYH Q10G
abbrev Q10I : AC := .run [(.op (some 2) none (.mv (.k (.int .i64 0))))]
abbrev Q10J : AC := .run [(.op (some 4) none (.mv (.s 0))), (.op (some 5) none (.bin .eql (.s 4) (.k (.int .i64 1)))), (.op (some 6) none (.mv (.s 5))), (.op (some 7) (some (6, false)) (.mv (.s 0))), (.op (some 8) (some (6, false)) (.bin .eql (.s 7) (.k (.int .i64 2)))), (.op (some 9) none (.pick (.s 6) (.k (.bool true)) (.s 8))), (.op (some 3) none (.mv (.s 9)))]
abbrev Q10K : AC := .run [(.op (some 2) none (.mv (.k (.int .i64 0))))]
abbrev Q10L : AC := .seq Q10K .ret
abbrev Q10M : AC := .run [(.op (some 11) none (.mv (.s 0))), (.op (some 12) none (.bin .eql (.s 11) (.k (.int .i64 3)))), (.op (some 13) none (.mv (.s 12))), (.op (some 14) (some (13, false)) (.mv (.s 0))), (.op (some 15) (some (13, false)) (.bin .eql (.s 14) (.k (.int .i64 4)))), (.op (some 16) none (.pick (.s 13) (.k (.bool true)) (.s 15))), (.op (some 10) none (.mv (.s 16)))]
abbrev Q10N : AC := .run [(.op (some 2) none (.mv (.k (.int .i64 1))))]
abbrev Q10O : AC := .seq Q10N .ret
abbrev Q10P : AC := .run [(.op (some 18) none (.mv (.s 0))), (.op (some 19) none (.bin .geq (.s 18) (.k (.int .i64 5)))), (.op (some 20) none (.mv (.s 19))), (.op (some 21) (some (20, true)) (.mv (.s 0))), (.op (some 22) (some (20, true)) (.bin .leq (.s 21) (.k (.int .i64 17)))), (.op (some 23) none (.pick (.s 20) (.s 22) (.k (.bool false)))), (.op (some 17) none (.mv (.s 23)))]
abbrev Q10Q : AC := .run [(.op (some 2) none (.mv (.k (.int .i64 2))))]
abbrev Q10R : AC := .seq Q10Q .ret
abbrev Q10S : AC := .cond (.s 17) Q10R .skip
abbrev Q10T : AC := .seq Q10P Q10S
abbrev Q10U : AC := .cond (.s 10) Q10O Q10T
abbrev Q10V : AC := .seq Q10M Q10U
abbrev Q10W : AC := .cond (.s 3) Q10L Q10V
abbrev Q10X : AC := .seq Q10J Q10W
abbrev Q10Y : AC := .block 0 Q10X
abbrev Q10Z : AC := .run [(.op (some 2) none (.mv (.k (.int .i64 (-1)))))]
abbrev Q110 : AC := .seq Q10Z .ret
abbrev Q111 : AC := .seq Q10Y Q110
abbrev Q112 : AC := .seq Q10I Q111
abbrev Q113 : AC := .run [(.op (some 2) none (.mv (.k (.str []))))]
abbrev Q114 : AC := .run [(.op (some 3) none (.mv (.s 0))), (.op (some 4) none (.bin .lss (.s 3) (.k (.int .i64 0))))]
abbrev Q115 : AC := .run [(.op (some 5) none (.mv (.s 0))), (.op (some 6) none (.bin .add (.s 5) (.k (.int .i64 1)))), (.op (some 7) none (.un .neg (.s 6))), (.op (some 8) none (.conv .u64 (.s 7))), (.op (some 9) none (.bin .add (.s 8) (.k (.int .u64 1)))), (.call (some 10) none n_ref3_digits [(.s 9)]), (.op (some 11) none (.bin .add (.k (.str [45])) (.s 10))), (.op (some 2) none (.mv (.s 11)))]
abbrev Q116 : AC := .seq Q115 .ret
abbrev Q117 : AC := .cond (.s 4) Q116 .skip
abbrev Q118 : AC := .seq Q114 Q117
abbrev Q119 : AC := .run [(.op (some 12) none (.mv (.s 0))), (.op (some 13) none (.conv .u64 (.s 12))), (.call (some 14) none n_ref3_digits [(.s 13)]), (.op (some 2) none (.mv (.s 14)))]
abbrev Q11A : AC := .seq Q119 .ret
abbrev Q11B : AC := .seq Q118 Q11A
abbrev Q11C : AC := .seq Q113 Q11B
abbrev Q11D : AC := .run [(.op (some 2) none (.box (.s 0))), (.op (some 4) none (.mv (.k (.str []))))]
abbrev Q11E : AC := .run [(.op (some 5) none (.load (.s 2) true 4)), (.call (some 6) none n_ref3_much [(.s 5)]), (.op (some 7) none (.mv (.s 1))), (.op (some 8) none (.bin .lss (.s 6) (.s 7)))]
abbrev Q11F : AC := .run [(.op (some 9) none (.load (.s 2) true 4)), (.call (some 10) none n_ref3_expr [(.s 9)]), (.op (some 11) none (.bin .add (.k (.str [40])) (.s 10))), (.op (some 12) none (.bin .add (.s 11) (.k (.str [41])))), (.op (some 4) none (.mv (.s 12)))]
abbrev Q11G : AC := .seq Q11F .ret
abbrev Q11H : AC := .cond (.s 8) Q11G .skip
abbrev Q11I : AC := .seq Q11E Q11H
abbrev Q11J : AC := .run [(.op (some 13) none (.load (.s 2) true 4)), (.call (some 14) none n_ref3_expr [(.s 13)]), (.op (some 4) none (.mv (.s 14)))]
abbrev Q11K : AC := .seq Q11J .ret
abbrev Q11L : AC := .seq Q11I Q11K
abbrev Q11M : AC := .seq Q11D Q11L
abbrev Q11N : AC := .run [(.op (some 1) none (.box (.s 0))), (.op (some 2) none (.mv (.k (.int .i64 0))))]
abbrev Q11O : AC := .run [(.op (some 5) none (.faddr (.s 1) 0)), (.op (some 6) none (.load (.s 5) false 1)), (.call (some 7) none n_ref3_Arity [(.s 6)]), (.op (some 8) none (.bin .lss (.s 7) (.k (.int .i64 2))))]
abbrev Q11P : AC := .run [(.op (some 2) none (.mv (.k (.int .i64 7))))]
abbrev Q11Q : AC := .seq Q11P .ret
abbrev Q11R : AC := .cond (.s 8) Q11Q .skip
abbrev Q11S : AC := .seq Q11O Q11R
abbrev Q11T : AC := .run [(.op (some 10) none (.faddr (.s 1) 0)), (.op (some 11) none (.load (.s 10) false 1)), (.call (some 12) none n_ref3_sign [(.s 11)]), (.call (some 13) none n_ref3_Binds [(.s 12)]), (.op (some 9) none (.mv (.s 13))), (.op (some 14) none (.ext (.s 9) 0)), (.op (some 15) none (.ext (.s 9) 1)), (.op (some 3) none (.mv (.s 14))), (.op (some 4) none (.mv (.s 15)))]
abbrev Q11U : AC := .run [(.op (some 16) none (.mv (.s 3))), (.op (some 2) none (.mv (.s 16)))]
abbrev Q11V : AC := .seq Q11U .ret
abbrev Q11W : AC := .seq Q11T Q11V
abbrev Q11X : AC := .seq Q11S Q11W
abbrev Q11Y : AC := .seq Q11N Q11X
abbrev Q11Z : AC := .run [(.op (some 2) none (.mv (.k (.str []))))]
abbrev Q120 : AC := .run [(.op (some 3) none (.bslice [(.str [])] 1 13 [(0, (.k (.str [42]))), (1, (.k (.str [47]))), (2, (.k (.str [37]))), (3, (.k (.str [43]))), (4, (.k (.str [45]))), (5, (.k (.str [60]))), (6, (.k (.str [60, 61]))), (7, (.k (.str [62]))), (8, (.k (.str [62, 61]))), (9, (.k (.str [61, 61]))), (10, (.k (.str [33, 61]))), (11, (.k (.str [38, 38]))), (12, (.k (.str [124, 124])))])), (.op (some 4) none (.mv (.s 0))), (.op (some 5) none (.bin .sub (.s 4) (.k (.int .i64 5)))), (.op (some 6) none (.iaddr (.s 3) (.s 5) 1)), (.op (some 7) none (.load (.s 6) false 1)), (.op (some 2) none (.mv (.s 7)))]
abbrev Q121 : AC := .seq Q120 .ret
abbrev Q122 : AC := .seq Q11Z Q121
abbrev Q123 : AC := .run [(.op (some 2) none (.mv (.k (.bool false))))]
abbrev Q124 : AC := .run [(.op (some 3) none (.mv (.s 0))), (.op (some 4) none (.bin .geq (.s 3) (.k (.int .u8 97)))), (.op (some 5) none (.mv (.s 4))), (.op (some 6) (some (5, true)) (.mv (.s 0))), (.op (some 7) (some (5, true)) (.bin .leq (.s 6) (.k (.int .u8 122)))), (.op (some 8) none (.pick (.s 5) (.s 7) (.k (.bool false)))), (.op (some 2) none (.mv (.s 8)))]
abbrev Q125 : AC := .seq Q124 .ret
abbrev Q126 : AC := .seq Q123 Q125
abbrev Q127 : AC := .run [(.op (some 2) none (.mv (.k (.bool false))))]
abbrev Q128 : AC := .run [(.op (some 3) none (.mv (.s 0))), (.op (some 4) none (.bin .geq (.s 3) (.k (.int .u8 48)))), (.op (some 5) none (.mv (.s 4))), (.op (some 6) (some (5, true)) (.mv (.s 0))), (.op (some 7) (some (5, true)) (.bin .leq (.s 6) (.k (.int .u8 57)))), (.op (some 8) none (.pick (.s 5) (.s 7) (.k (.bool false)))), (.op (some 2) none (.mv (.s 8)))]
abbrev Q129 : AC := .seq Q128 .ret
abbrev Q12A : AC := .seq Q127 Q129
abbrev Q12B : AC := .run [(.op (some 2) none (.mv (.k (.bool false))))]
abbrev Q12C : AC := .run [(.call (some 5) none n_ref1_Words []), (.op (some 6) none (.len (.s 5))), (.op (some 7) none (.mv (.k (.int .i64 0))))]
abbrev Q12D : AC := .run [(.op (some 8) none (.bin .lss (.s 7) (.s 6)))]
abbrev Q12E : AC := .cond (.s 8) .skip (.exit 0)
abbrev Q12F : AC := .run [(.op (some 9) none (.iaddr (.s 5) (.s 7) 1)), (.op (some 10) none (.load (.s 9) false 1)), (.op (some 4) none (.mv (.s 10)))]
abbrev Q12G : AC := .run [(.op (some 11) none (.mv (.s 4))), (.op (some 12) none (.mv (.s 0))), (.op (some 13) none (.bin .eql (.s 11) (.s 12)))]
abbrev Q12H : AC := .run [(.op (some 2) none (.mv (.k (.bool true))))]
abbrev Q12I : AC := .seq Q12H .ret
abbrev Q12J : AC := .cond (.s 13) Q12I .skip
abbrev Q12K : AC := .seq Q12G Q12J
abbrev Q12L : AC := .seq Q12F Q12K
abbrev Q12M : AC := .block 1 Q12L
abbrev Q12N : AC := .run [(.op (some 14) none (.bin .add (.s 7) (.k (.int .i64 1)))), (.op (some 7) none (.mv (.s 14)))]
abbrev Q12O : AC := .seq Q12M Q12N
abbrev Q12P : AC := .seq Q12E Q12O
abbrev Q12Q : AC := .seq Q12D Q12P
abbrev Q12R : AC := .loop Q12Q
abbrev Q12S : AC := .block 0 Q12R
abbrev Q12T : AC := .seq Q12C Q12S
abbrev Q12U : AC := .run [(.op (some 2) none (.mv (.k (.bool false))))]
abbrev Q12V : AC := .seq Q12U .ret
abbrev Q12W : AC := .seq Q12T Q12V
abbrev Q12X : AC := .seq Q12B Q12W
abbrev Q12Y : AC := .run [(.op (some 1) none (.box (.s 0))), (.op (some 2) none (.mv (.k (.slice .full 0 []))))]
abbrev Q12Z : AC := .run [(.op (some 3) none (.faddr (.s 1) 3)), (.op (some 4) none (.load (.s 3) false 1)), (.call (some 5) none n_ref3_flat [(.s 4), (.k (.int .i64 1)), (.k (.int .i64 0)), (.k (.bool false)), (.k (.slice .full 0 []))]), (.op (some 2) none (.mv (.s 5)))]
abbrev Q130 : AC := .seq Q12Z .ret
abbrev Q131 : AC := .seq Q12Y Q130
abbrev Q132 : AC := .run [(.op (some 1) none (.box (.s 0))), (.op (some 2) none (.mv (.k (.bool false))))]
abbrev Q133 : AC := .run [(.op (some 3) none (.faddr (.s 1) 0)), (.op (some 4) none (.load (.s 3) false 1)), (.op (some 5) none (.bin .eql (.s 4) (.k (.int .i64 0)))), (.op (some 6) none (.mv (.s 5))), (.op (some 7) (some (6, true)) (.faddr (.s 1) 1)), (.op (some 8) (some (6, true)) (.load (.s 7) false 1)), (.op (some 9) (some (6, true)) (.bin .eql (.s 8) (.k (.int .i64 0)))), (.op (some 10) none (.pick (.s 6) (.s 9) (.k (.bool false)))), (.op (some 11) none (.mv (.s 10))), (.op (some 12) (some (11, true)) (.faddr (.s 1) 2)), (.op (some 13) (some (11, true)) (.load (.s 12) false 1)), (.op (some 14) (some (11, true)) (.bin .eql (.s 13) (.k (.str [])))), (.op (some 15) none (.pick (.s 11) (.s 14) (.k (.bool false)))), (.op (some 16) none (.mv (.s 15))), (.op (some 17) (some (16, true)) (.faddr (.s 1) 3)), (.op (some 18) (some (16, true)) (.load (.s 17) false 1)), (.op (some 19) (some (16, true)) (.len (.s 18))), (.op (some 20) (some (16, true)) (.bin .eql (.s 19) (.k (.int .i64 0)))), (.op (some 21) none (.pick (.s 16) (.s 20) (.k (.bool false)))), (.op (some 2) none (.mv (.s 21)))]
abbrev Q134 : AC := .seq Q133 .ret
abbrev Q135 : AC := .seq Q132 Q134
abbrev Q136 : AC := .run [(.op (some 1) none (.box (.s 0))), (.op (some 2) none (.mv (.k (.bool false))))]
abbrev Q137 : AC := .run [(.op (some 3) none (.faddr (.s 1) 0)), (.op (some 4) none (.load (.s 3) false 1))]
abbrev Q138 : AC := .run [(.op (some 5) none (.faddr (.s 1) 1)), (.op (some 6) none (.load (.s 5) false 1)), (.call (some 7) none n_ref1_Name [(.s 6)]), (.op (some 8) none (.mv (.s 7))), (.op (some 9) (some (8, true)) (.faddr (.s 1) 2)), (.op (some 10) (some (8, true)) (.load (.s 9) true 4)), (.call (some 11) (some (8, true)) n_ref3_none [(.s 10)]), (.op (some 12) none (.pick (.s 8) (.s 11) (.k (.bool false)))), (.op (some 2) none (.mv (.s 12)))]
abbrev Q139 : AC := .seq Q138 .ret
abbrev Q13A : AC := .cond (.s 4) Q139 .skip
abbrev Q13B : AC := .seq Q137 Q13A
abbrev Q13C : AC := .run [(.op (some 13) none (.faddr (.s 1) 1)), (.op (some 14) none (.load (.s 13) false 1)), (.op (some 15) none (.bin .eql (.s 14) (.k (.str [])))), (.op (some 16) none (.mv (.s 15))), (.op (some 17) (some (16, true)) (.faddr (.s 1) 2)), (.op (some 18) (some (16, true)) (.load (.s 17) true 4)), (.call (some 19) (some (16, true)) n_ref3_MayExpr [(.s 18)]), (.op (some 20) none (.pick (.s 16) (.s 19) (.k (.bool false)))), (.op (some 2) none (.mv (.s 20)))]
abbrev Q13D : AC := .seq Q13C .ret
abbrev Q13E : AC := .seq Q13B Q13D
abbrev Q13F : AC := .seq Q136 Q13E
abbrev Q13G : AC := .run [(.op (some 2) none (.mv (.k (.bool false))))]
abbrev Q13H : AC := .run [(.op (some 3) none (.mv (.s 0))), (.op (some 4) none (.bin .geq (.s 3) (.k (.int .u8 97)))), (.op (some 5) none (.mv (.s 4))), (.op (some 6) (some (5, true)) (.mv (.s 0))), (.op (some 7) (some (5, true)) (.bin .leq (.s 6) (.k (.int .u8 122)))), (.op (some 8) none (.pick (.s 5) (.s 7) (.k (.bool false)))), (.op (some 2) none (.mv (.s 8)))]
abbrev Q13I : AC := .seq Q13H .ret
abbrev Q13J : AC := .seq Q13G Q13I
abbrev Q13K : AC := .run [(.op (some 2) none (.mv (.k (.bool false))))]
abbrev Q13L : AC := .run [(.op (some 3) none (.mv (.s 0))), (.op (some 4) none (.bin .geq (.s 3) (.k (.int .u8 48)))), (.op (some 5) none (.mv (.s 4))), (.op (some 6) (some (5, true)) (.mv (.s 0))), (.op (some 7) (some (5, true)) (.bin .leq (.s 6) (.k (.int .u8 57)))), (.op (some 8) none (.pick (.s 5) (.s 7) (.k (.bool false)))), (.op (some 2) none (.mv (.s 8)))]
abbrev Q13M : AC := .seq Q13L .ret
abbrev Q13N : AC := .seq Q13K Q13M
abbrev Q13O : AC := .run [(.op (some 4) none (.mv (.k (.int .i64 0))))]
abbrev Q13P : AC := .run [(.op (some 5) none (.mv (.s 1))), (.op (some 6) none (.mv (.s 0))), (.op (some 7) none (.slen (.s 6))), (.op (some 8) none (.bin .lss (.s 5) (.s 7))), (.op (some 9) none (.mv (.s 8))), (.op (some 10) (some (9, true)) (.mv (.s 0))), (.op (some 11) (some (9, true)) (.mv (.s 1))), (.op (some 12) (some (9, true)) (.sidx (.s 10) (.s 11))), (.call (some 13) (some (9, true)) n_lex_letter [(.s 12)]), (.op (some 14) (some (9, true)) (.mv (.s 13))), (.op (some 15) (some (14, false)) (.mv (.s 0))), (.op (some 16) (some (14, false)) (.mv (.s 1))), (.op (some 17) (some (14, false)) (.sidx (.s 15) (.s 16))), (.call (some 18) (some (14, false)) n_lex_digit [(.s 17)]), (.op (some 19) (some (9, true)) (.pick (.s 14) (.k (.bool true)) (.s 18))), (.op (some 20) none (.pick (.s 9) (.s 19) (.k (.bool false))))]
abbrev Q13Q : AC := .cond (.s 20) .skip (.exit 0)
abbrev Q13R : AC := .seq Q13P Q13Q
abbrev Q13S : AC := .run [(.op (some 21) none (.mv (.s 1))), (.op (some 22) none (.bin .add (.s 21) (.k (.int .i64 1)))), (.op (some 1) none (.mv (.s 22)))]
abbrev Q13T : AC := .block 1 Q13S
abbrev Q13U : AC := .seq Q13R Q13T
abbrev Q13V : AC := .loop Q13U
abbrev Q13W : AC := .block 0 Q13V
abbrev Q13X : AC := .run [(.op (some 23) none (.mv (.s 1))), (.op (some 4) none (.mv (.s 23)))]
abbrev Q13Y : AC := .seq Q13X .ret
abbrev Q13Z : AC := .seq Q13W Q13Y
abbrev Q140 : AC := .seq Q13O Q13Z
abbrev Q141 : AC := .run [(.op (some 2) none (.mv (.k (.bool false))))]
abbrev Q142 : AC := .run [(.op (some 3) none (.mv (.s 0)))]
abbrev Q143 : AC := .run [(.op (some 5) none (.bin .eql (.s 3) (.k (.str [103, 108, 111, 98, 97, 108])))), (.op (some 4) none (.mv (.s 5)))]
abbrev Q144 : AC := .run [(.op (some 6) none (.bin .eql (.s 3) (.k (.str [112, 114, 111, 99])))), (.op (some 4) none (.mv (.s 6)))]
abbrev Q145 : AC := .run [(.op (some 7) none (.bin .eql (.s 3) (.k (.str [118, 97, 114])))), (.op (some 4) none (.mv (.s 7)))]
abbrev Q146 : AC := .run [(.op (some 8) none (.bin .eql (.s 3) (.k (.str [114, 101, 102])))), (.op (some 4) none (.mv (.s 8)))]
abbrev Q147 : AC := .run [(.op (some 9) none (.bin .eql (.s 3) (.k (.str [105, 102])))), (.op (some 4) none (.mv (.s 9)))]
abbrev Q148 : AC := .run [(.op (some 10) none (.bin .eql (.s 3) (.k (.str [101, 108, 115, 101])))), (.op (some 4) none (.mv (.s 10)))]
abbrev Q149 : AC := .run [(.op (some 11) none (.bin .eql (.s 3) (.k (.str [119, 104, 105, 108, 101])))), (.op (some 4) none (.mv (.s 11)))]
abbrev Q14A : AC := .run [(.op (some 12) none (.bin .eql (.s 3) (.k (.str [98, 114, 101, 97, 107])))), (.op (some 4) none (.mv (.s 12)))]
abbrev Q14B : AC := .run [(.op (some 13) none (.bin .eql (.s 3) (.k (.str [99, 111, 110, 116, 105, 110, 117, 101])))), (.op (some 4) none (.mv (.s 13)))]
abbrev Q14C : AC := .run [(.op (some 14) none (.bin .eql (.s 3) (.k (.str [114, 101, 116, 117, 114, 110])))), (.op (some 4) none (.mv (.s 14)))]
abbrev Q14D : AC := .run [(.op (some 15) none (.bin .eql (.s 3) (.k (.str [103, 111, 116, 111])))), (.op (some 4) none (.mv (.s 15)))]
abbrev Q14E : AC := .run [(.op (some 16) none (.bin .eql (.s 3) (.k (.str [114, 101, 97, 100])))), (.op (some 4) none (.mv (.s 16)))]
abbrev Q14F : AC := .run [(.op (some 17) none (.bin .eql (.s 3) (.k (.str [112, 114, 105, 110, 116])))), (.op (some 4) none (.mv (.s 17)))]
abbrev Q14G : AC := .cond (.s 4) .skip Q14F
abbrev Q14H : AC := .seq Q14E Q14G
abbrev Q14I : AC := .cond (.s 4) .skip Q14H
abbrev Q14J : AC := .seq Q14D Q14I
abbrev Q14K : AC := .cond (.s 4) .skip Q14J
abbrev Q14L : AC := .seq Q14C Q14K
abbrev Q14M : AC := .cond (.s 4) .skip Q14L
abbrev Q14N : AC := .seq Q14B Q14M
abbrev Q14O : AC := .cond (.s 4) .skip Q14N
abbrev Q14P : AC := .seq Q14A Q14O
abbrev Q14Q : AC := .cond (.s 4) .skip Q14P
abbrev Q14R : AC := .seq Q149 Q14Q
abbrev Q14S : AC := .cond (.s 4) .skip Q14R
abbrev Q14T : AC := .seq Q148 Q14S
abbrev Q14U : AC := .cond (.s 4) .skip Q14T
abbrev Q14V : AC := .seq Q147 Q14U
abbrev Q14W : AC := .cond (.s 4) .skip Q14V
abbrev Q14X : AC := .seq Q146 Q14W
abbrev Q14Y : AC := .cond (.s 4) .skip Q14X
abbrev Q14Z : AC := .seq Q145 Q14Y
abbrev Q150 : AC := .cond (.s 4) .skip Q14Z
abbrev Q151 : AC := .seq Q144 Q150
abbrev Q152 : AC := .cond (.s 4) .skip Q151
abbrev Q153 : AC := .seq Q143 Q152
abbrev Q154 : AC := .run [(.op (some 2) none (.mv (.k (.bool true))))]
abbrev Q155 : AC := .seq Q154 .ret
abbrev Q156 : AC := .cond (.s 4) Q155 .skip
abbrev Q157 : AC := .seq Q153 Q156
abbrev Q158 : AC := .block 0 Q157
abbrev Q159 : AC := .seq Q142 Q158
abbrev Q15A : AC := .run [(.op (some 2) none (.mv (.k (.bool false))))]
abbrev Q15B : AC := .seq Q15A .ret
abbrev Q15C : AC := .seq Q159 Q15B
abbrev Q15D : AC := .seq Q141 Q15C
abbrev Q15E : AC := .run [(.op (some 1) none (.box (.s 0))), (.op (some 2) none (.mv (.k (.bool false))))]
abbrev Q15F : AC := .par [(.op (some 10) none (.faddr (.s 1) 9)), (.op (some 11) none (.load (.s 10) false 1)), (.op (some 3) none (.mv (.k (.bool false)))), (.op (some 4) none (.mv (.k (.bool false)))), (.op (some 5) none (.mv (.k (.bool false)))), (.op (some 6) none (.mv (.s 11))), (.op (some 7) none (.mv (.k (.bool false)))), (.op (some 8) none (.mv (.k (.bool false))))] [(0, 0), (1, 0), (2, 0), (3, 0), (4, 0), (5, 0), (6, 0), (7, 0)]
abbrev Q15G : AC := .run [(.op (some 12) none (.faddr (.s 1) 1)), (.op (some 13) none (.load (.s 12) false 1)), (.op (some 14) none (.bin .eql (.s 13) (.k (.int .i64 4)))), (.op (some 9) none (.mv (.s 14)))]
abbrev Q15H : AC := .run [(.op (some 15) none (.faddr (.s 1) 1)), (.op (some 16) none (.load (.s 15) false 1))]
abbrev Q15I : AC := .run [(.op (some 18) none (.bin .eql (.s 16) (.k (.int .i64 1)))), (.op (some 17) none (.mv (.s 18)))]
abbrev Q15J : AC := .run [(.op (some 3) none (.mv (.k (.bool true)))), (.op (some 5) none (.mv (.k (.bool true))))]
abbrev Q15K : AC := .run [(.op (some 20) none (.bin .eql (.s 16) (.k (.int .i64 2)))), (.op (some 19) none (.mv (.s 20)))]
abbrev Q15L : AC := .run [(.op (some 21) none (.bin .eql (.s 16) (.k (.int .i64 10)))), (.op (some 19) none (.mv (.s 21)))]
abbrev Q15M : AC := .cond (.s 19) .skip Q15L
abbrev Q15N : AC := .seq Q15K Q15M
abbrev Q15O : AC := .run [(.op (some 3) none (.mv (.k (.bool true))))]
abbrev Q15P : AC := .run [(.op (some 23) none (.bin .eql (.s 16) (.k (.int .i64 3)))), (.op (some 22) none (.mv (.s 23)))]
abbrev Q15Q : AC := .run [(.op (some 5) none (.mv (.k (.bool true))))]
abbrev Q15R : AC := .run [(.op (some 25) none (.bin .eql (.s 16) (.k (.int .i64 4)))), (.op (some 24) none (.mv (.s 25)))]
abbrev Q15S : AC := .run [(.op (some 26) none (.faddr (.s 1) 3)), (.op (some 27) none (.load (.s 26) false 1)), (.op (some 28) none (.bin .neq (.s 27) (.k (.str [])))), (.op (some 3) none (.mv (.s 28))), (.op (some 4) none (.mv (.k (.bool true))))]
abbrev Q15T : AC := .run [(.op (some 30) none (.bin .eql (.s 16) (.k (.int .i64 5)))), (.op (some 29) none (.mv (.s 30)))]
abbrev Q15U : AC := .run [(.op (some 5) none (.mv (.k (.bool true)))), (.op (some 7) none (.mv (.k (.bool true)))), (.op (some 8) none (.mv (.k (.bool true))))]
abbrev Q15V : AC := .run [(.op (some 32) none (.bin .eql (.s 16) (.k (.int .i64 6)))), (.op (some 31) none (.mv (.s 32)))]
abbrev Q15W : AC := .run [(.op (some 5) none (.mv (.k (.bool true)))), (.op (some 7) none (.mv (.k (.bool true))))]
abbrev Q15X : AC := .run [(.op (some 34) none (.bin .eql (.s 16) (.k (.int .i64 9)))), (.op (some 33) none (.mv (.s 34)))]
abbrev Q15Y : AC := .run [(.op (some 35) none (.faddr (.s 1) 9)), (.op (some 36) none (.load (.s 35) false 1)), (.op (some 5) none (.mv (.s 36))), (.op (some 6) none (.mv (.k (.bool false))))]
abbrev Q15Z : AC := .run [(.op (some 38) none (.bin .eql (.s 16) (.k (.int .i64 7)))), (.op (some 37) none (.mv (.s 38)))]
abbrev Q160 : AC := .run [(.op (some 39) none (.bin .eql (.s 16) (.k (.int .i64 8)))), (.op (some 37) none (.mv (.s 39)))]
abbrev Q161 : AC := .cond (.s 37) .skip Q160
abbrev Q162 : AC := .seq Q15Z Q161
abbrev Q163 : AC := .run [(.op (some 2) none (.mv (.k (.bool false))))]
abbrev Q164 : AC := .seq Q163 .ret
abbrev Q165 : AC := .cond (.s 37) .skip Q164
abbrev Q166 : AC := .seq Q162 Q165
abbrev Q167 : AC := .cond (.s 33) Q15Y Q166
abbrev Q168 : AC := .seq Q15X Q167
abbrev Q169 : AC := .cond (.s 31) Q15W Q168
abbrev Q16A : AC := .seq Q15V Q169
abbrev Q16B : AC := .cond (.s 29) Q15U Q16A
abbrev Q16C : AC := .seq Q15T Q16B
abbrev Q16D : AC := .cond (.s 24) Q15S Q16C
abbrev Q16E : AC := .seq Q15R Q16D
abbrev Q16F : AC := .cond (.s 22) Q15Q Q16E
abbrev Q16G : AC := .seq Q15P Q16F
abbrev Q16H : AC := .cond (.s 19) Q15O Q16G
abbrev Q16I : AC := .seq Q15N Q16H
abbrev Q16J : AC := .cond (.s 17) Q15J Q16I
abbrev Q16K : AC := .seq Q15I Q16J
abbrev Q16L : AC := .block 0 Q16K
abbrev Q16M : AC := .seq Q15H Q16L
abbrev Q16N : AC := .run [(.op (some 40) none (.mv (.s 6))), (.op (some 41) none (.mv (.s 40))), (.op (some 42) (some (41, false)) (.mv (.s 7))), (.op (some 43) (some (41, false)) (.un .not (.s 42))), (.op (some 44) (some (41, false)) (.mv (.s 43))), (.op (some 45) (some (44, true)) (.faddr (.s 1) 11)), (.op (some 46) (some (44, true)) (.load (.s 45) false 1)), (.op (some 47) (some (44, true)) (.len (.s 46))), (.op (some 48) (some (44, true)) (.bin .gtr (.s 47) (.k (.int .i64 0)))), (.op (some 49) (some (41, false)) (.pick (.s 44) (.s 48) (.k (.bool false)))), (.op (some 50) none (.pick (.s 41) (.k (.bool true)) (.s 49))), (.op (some 51) none (.mv (.s 50))), (.op (some 52) (some (51, false)) (.mv (.s 8))), (.op (some 53) (some (51, false)) (.un .not (.s 52))), (.op (some 54) (some (51, false)) (.mv (.s 53))), (.op (some 55) (some (54, true)) (.faddr (.s 1) 12)), (.op (some 56) (some (54, true)) (.load (.s 55) false 1)), (.op (some 57) (some (54, true)) (.len (.s 56))), (.op (some 58) (some (54, true)) (.bin .gtr (.s 57) (.k (.int .i64 0)))), (.op (some 59) (some (51, false)) (.pick (.s 54) (.s 58) (.k (.bool false)))), (.op (some 60) none (.pick (.s 51) (.k (.bool true)) (.s 59))), (.op (some 61) none (.mv (.s 60))), (.op (some 62) (some (61, false)) (.mv (.s 9))), (.op (some 63) (some (61, false)) (.un .not (.s 62))), (.op (some 64) (some (61, false)) (.mv (.s 63))), (.op (some 65) (some (64, true)) (.faddr (.s 1) 10)), (.op (some 66) (some (64, true)) (.load (.s 65) false 1)), (.op (some 67) (some (64, true)) (.len (.s 66))), (.op (some 68) (some (64, true)) (.bin .gtr (.s 67) (.k (.int .i64 0)))), (.op (some 69) (some (61, false)) (.pick (.s 64) (.s 68) (.k (.bool false)))), (.op (some 70) none (.pick (.s 61) (.k (.bool true)) (.s 69)))]
abbrev Q16O : AC := .run [(.op (some 2) none (.mv (.k (.bool false))))]
abbrev Q16P : AC := .seq Q16O .ret
abbrev Q16Q : AC := .cond (.s 70) Q16P .skip
abbrev Q16R : AC := .seq Q16N Q16Q
abbrev Q16S : AC := .run [(.op (some 71) none (.faddr (.s 1) 3)), (.op (some 72) none (.load (.s 71) false 1)), (.op (some 73) none (.mv (.s 3))), (.call (some 74) none n_tree_named [(.s 72), (.s 73)]), (.op (some 75) none (.un .not (.s 74))), (.op (some 76) none (.mv (.s 75))), (.op (some 77) (some (76, false)) (.faddr (.s 1) 4)), (.op (some 78) (some (76, false)) (.load (.s 77) false 1)), (.op (some 79) (some (76, false)) (.mv (.s 4))), (.call (some 80) (some (76, false)) n_tree_named [(.s 78), (.s 79)]), (.op (some 81) (some (76, false)) (.un .not (.s 80))), (.op (some 82) none (.pick (.s 76) (.k (.bool true)) (.s 81))), (.op (some 83) none (.mv (.s 82))), (.op (some 84) (some (83, false)) (.faddr (.s 1) 5)), (.op (some 85) (some (83, false)) (.load (.s 84) true 4)), (.op (some 86) (some (83, false)) (.mv (.s 5))), (.call (some 87) (some (83, false)) n_tree_worth [(.s 85), (.s 86)]), (.op (some 88) (some (83, false)) (.un .not (.s 87))), (.op (some 89) none (.pick (.s 83) (.k (.bool true)) (.s 88)))]
abbrev Q16T : AC := .run [(.op (some 2) none (.mv (.k (.bool false))))]
abbrev Q16U : AC := .seq Q16T .ret
abbrev Q16V : AC := .cond (.s 89) Q16U .skip
abbrev Q16W : AC := .seq Q16S Q16V
abbrev Q16X : AC := .run [(.op (some 90) none (.faddr (.s 1) 10)), (.op (some 91) none (.load (.s 90) false 1)), (.call (some 92) none n_tree_handed [(.s 91)]), (.op (some 2) none (.mv (.s 92)))]
abbrev Q16Y : AC := .seq Q16X .ret
abbrev Q16Z : AC := .seq Q16W Q16Y
abbrev Q170 : AC := .seq Q16R Q16Z
abbrev Q171 : AC := .seq Q16M Q170
abbrev Q172 : AC := .seq Q15G Q171
abbrev Q173 : AC := .seq Q15F Q172
abbrev Q174 : AC := .seq Q15E Q173
abbrev Q175 : AC := .run [(.op (some 1) none (.box (.s 0))), (.op (some 2) none (.mv (.k (.str []))))]
abbrev Q176 : AC := .run [(.op (some 3) none (.mv (.k (.slice .full 0 []))))]
abbrev Q177 : AC := .run [(.op (some 7) none (.faddr (.s 1) 10)), (.op (some 8) none (.load (.s 7) false 1)), (.op (some 9) none (.len (.s 8))), (.op (some 10) none (.mv (.k (.int .i64 0))))]
abbrev Q178 : AC := .run [(.op (some 11) none (.bin .lss (.s 10) (.s 9)))]
abbrev Q179 : AC := .cond (.s 11) .skip (.exit 0)
abbrev Q17A : AC := .run [(.op (some 12) none (.iaddr (.s 8) (.s 10) 6)), (.op (some 13) none (.load (.s 12) true 6)), (.op (some 5) none (.alloc [(.bool false), (.str []), (.int .i64 0), (.int .i64 0), (.str []), (.slice .full 0 [])])), (.op none none (.store (.s 5) (.s 13) 6))]
abbrev Q17B : AC := .run [(.op (some 14) none (.faddr (.s 5) 0)), (.op (some 15) none (.load (.s 14) false 1))]
abbrev Q17C : AC := .run [(.op (some 16) none (.mv (.s 3))), (.op (some 17) none (.faddr (.s 5) 1)), (.op (some 18) none (.load (.s 17) false 1)), (.op (some 19) none (.bin .add (.k (.str [114, 101, 102, 32])) (.s 18))), (.op (some 20) none (.bslice [(.str [])] 1 1 [(0, (.s 19))])), (.op (some 21) none (.app 1 16 (.s 16) (.s 20))), (.op (some 3) none (.mv (.s 21)))]
abbrev Q17D : AC := .run [(.op (some 22) none (.mv (.s 3))), (.op (some 23) none (.faddr (.s 5) 2)), (.op (some 24) none (.load (.s 23) true 4)), (.call (some 25) none n_ref3_expr [(.s 24)]), (.op (some 26) none (.bslice [(.str [])] 1 1 [(0, (.s 25))])), (.op (some 27) none (.app 1 16 (.s 22) (.s 26))), (.op (some 3) none (.mv (.s 27)))]
abbrev Q17E : AC := .cond (.s 15) Q17C Q17D
abbrev Q17F : AC := .seq Q17B Q17E
abbrev Q17G : AC := .seq Q17A Q17F
abbrev Q17H : AC := .block 1 Q17G
abbrev Q17I : AC := .run [(.op (some 28) none (.bin .add (.s 10) (.k (.int .i64 1)))), (.op (some 10) none (.mv (.s 28)))]
abbrev Q17J : AC := .seq Q17H Q17I
abbrev Q17K : AC := .seq Q179 Q17J
abbrev Q17L : AC := .seq Q178 Q17K
abbrev Q17M : AC := .loop Q17L
abbrev Q17N : AC := .block 0 Q17M
abbrev Q17O : AC := .seq Q177 Q17N
abbrev Q17P : AC := .par [(.op (some 29) none (.faddr (.s 1) 4)), (.op (some 30) none (.load (.s 29) false 1)), (.op (some 31) none (.bin .add (.s 30) (.k (.str [40])))), (.op (some 32) none (.mv (.s 3))), (.call (some 33) none n_ref3_Join [(.s 32), (.k (.str [44, 32]))]), (.op (some 34) none (.bin .add (.s 31) (.s 33))), (.op (some 35) none (.bin .add (.s 34) (.k (.str [41, 59])))), (.op (some 6) none (.mv (.s 35)))] [(3, 0), (4, 0), (0, 0), (1, 1), (2, 0), (5, 0), (6, 0), (7, 0)]
abbrev Q17Q : AC := .run [(.op (some 36) none (.faddr (.s 1) 3)), (.op (some 37) none (.load (.s 36) false 1)), (.op (some 38) none (.bin .neq (.s 37) (.k (.str []))))]
abbrev Q17R : AC := .run [(.op (some 39) none (.faddr (.s 1) 3)), (.op (some 40) none (.load (.s 39) false 1)), (.op (some 41) none (.bin .add (.s 40) (.k (.str [32, 61, 32])))), (.op (some 42) none (.mv (.s 6))), (.op (some 43) none (.bin .add (.s 41) (.s 42))), (.op (some 2) none (.mv (.s 43)))]
abbrev Q17S : AC := .seq Q17R .ret
abbrev Q17T : AC := .cond (.s 38) Q17S .skip
abbrev Q17U : AC := .seq Q17Q Q17T
abbrev Q17V : AC := .run [(.op (some 44) none (.mv (.s 6))), (.op (some 2) none (.mv (.s 44)))]
abbrev Q17W : AC := .seq Q17V .ret
abbrev Q17X : AC := .seq Q17U Q17W
abbrev Q17Y : AC := .seq Q17P Q17X
abbrev Q17Z : AC := .seq Q17O Q17Y
abbrev Q180 : AC := .seq Q176 Q17Z
abbrev Q181 : AC := .seq Q175 Q180
abbrev Q182 : AC := .run [(.op (some 2) none (.mv (.k (.int .i64 0))))]
abbrev Q183 : AC := .run [(.op (some 4) none (.mv (.s 0))), (.op (some 5) none (.bin .eql (.s 4) (.k (.int .i64 1)))), (.op (some 6) none (.mv (.s 5))), (.op (some 7) (some (6, false)) (.mv (.s 0))), (.op (some 8) (some (6, false)) (.bin .eql (.s 7) (.k (.int .i64 2)))), (.op (some 9) none (.pick (.s 6) (.k (.bool true)) (.s 8))), (.op (some 3) none (.mv (.s 9)))]
abbrev Q184 : AC := .run [(.op (some 2) none (.mv (.k (.int .i64 0))))]
abbrev Q185 : AC := .seq Q184 .ret
abbrev Q186 : AC := .run [(.op (some 11) none (.mv (.s 0))), (.op (some 12) none (.bin .eql (.s 11) (.k (.int .i64 3)))), (.op (some 13) none (.mv (.s 12))), (.op (some 14) (some (13, false)) (.mv (.s 0))), (.op (some 15) (some (13, false)) (.bin .eql (.s 14) (.k (.int .i64 4)))), (.op (some 16) none (.pick (.s 13) (.k (.bool true)) (.s 15))), (.op (some 10) none (.mv (.s 16)))]
abbrev Q187 : AC := .run [(.op (some 2) none (.mv (.k (.int .i64 1))))]
abbrev Q188 : AC := .seq Q187 .ret
abbrev Q189 : AC := .run [(.op (some 18) none (.mv (.s 0))), (.op (some 19) none (.bin .geq (.s 18) (.k (.int .i64 5)))), (.op (some 20) none (.mv (.s 19))), (.op (some 21) (some (20, true)) (.mv (.s 0))), (.op (some 22) (some (20, true)) (.bin .leq (.s 21) (.k (.int .i64 17)))), (.op (some 23) none (.pick (.s 20) (.s 22) (.k (.bool false)))), (.op (some 17) none (.mv (.s 23)))]
abbrev Q18A : AC := .run [(.op (some 2) none (.mv (.k (.int .i64 2))))]
abbrev Q18B : AC := .seq Q18A .ret
abbrev Q18C : AC := .cond (.s 17) Q18B .skip
abbrev Q18D : AC := .seq Q189 Q18C
abbrev Q18E : AC := .cond (.s 10) Q188 Q18D
abbrev Q18F : AC := .seq Q186 Q18E
abbrev Q18G : AC := .cond (.s 3) Q185 Q18F
abbrev Q18H : AC := .seq Q183 Q18G
abbrev Q18I : AC := .block 0 Q18H
abbrev Q18J : AC := .run [(.op (some 2) none (.mv (.k (.int .i64 (-1)))))]
abbrev Q18K : AC := .seq Q18J .ret
abbrev Q18L : AC := .seq Q18I Q18K
abbrev Q18M : AC := .seq Q182 Q18L
abbrev Q18N : AC := .run [(.op (some 2) none (.mv (.k (.str []))))]
abbrev Q18O : AC := .run [(.op (some 3) none (.mv (.s 0))), (.op (some 4) none (.bin .lss (.s 3) (.k (.int .u64 10))))]
abbrev Q18P : AC := .run [(.op (some 5) none (.mv (.s 0))), (.op (some 6) none (.bin .add (.k (.int .u64 48)) (.s 5))), (.op (some 7) none (.conv .u8 (.s 6))), (.op (some 8) none (.bslice [(.int .u8 0)] 1 1 [(0, (.s 7))])), (.op (some 9) none (.tostr (.s 8))), (.op (some 2) none (.mv (.s 9)))]
abbrev Q18Q : AC := .seq Q18P .ret
abbrev Q18R : AC := .cond (.s 4) Q18Q .skip
abbrev Q18S : AC := .seq Q18O Q18R
abbrev Q18T : AC := .par [(.op (some 10) none (.mv (.s 0))), (.op (some 11) none (.bin .quo (.s 10) (.k (.int .u64 10)))), (.call (some 12) none n_ref3_digits [(.s 11)]), (.op (some 13) none (.mv (.s 0))), (.op (some 14) none (.bin .rem (.s 13) (.k (.int .u64 10)))), (.op (some 15) none (.bin .add (.k (.int .u64 48)) (.s 14))), (.op (some 16) none (.conv .u8 (.s 15))), (.op (some 17) none (.bslice [(.int .u8 0)] 1 1 [(0, (.s 16))])), (.op (some 18) none (.tostr (.s 17))), (.op (some 19) none (.bin .add (.s 12) (.s 18))), (.op (some 2) none (.mv (.s 19)))] [(0, 0), (1, 0), (2, 0), (3, 0), (4, 0), (5, 0), (6, 0), (7, 0), (8, 0), (9, 0), (10, 0)]
abbrev Q18U : AC := .seq Q18T .ret
abbrev Q18V : AC := .seq Q18S Q18U
abbrev Q18W : AC := .seq Q18N Q18V
abbrev Q18X : AC := .run [(.op (some 2) none (.mv (.k (.int .i64 0)))), (.op (some 3) none (.mv (.k (.int .i64 0))))]
abbrev Q18Y : AC := .run [(.op (some 8) none (.bslice [(.str [])] 1 13 [(0, (.k (.str [42]))), (1, (.k (.str [47]))), (2, (.k (.str [37]))), (3, (.k (.str [43]))), (4, (.k (.str [45]))), (5, (.k (.str [60]))), (6, (.k (.str [60, 61]))), (7, (.k (.str [62]))), (8, (.k (.str [62, 61]))), (9, (.k (.str [61, 61]))), (10, (.k (.str [33, 61]))), (11, (.k (.str [38, 38]))), (12, (.k (.str [124, 124])))])), (.op (some 4) none (.mv (.s 8)))]
abbrev Q18Z : AC := .run [(.op (some 9) none (.bslice [(.int .i64 0)] 1 13 [(0, (.k (.int .i64 6))), (1, (.k (.int .i64 6))), (2, (.k (.int .i64 6))), (3, (.k (.int .i64 5))), (4, (.k (.int .i64 5))), (5, (.k (.int .i64 4))), (6, (.k (.int .i64 4))), (7, (.k (.int .i64 4))), (8, (.k (.int .i64 4))), (9, (.k (.int .i64 3))), (10, (.k (.int .i64 3))), (11, (.k (.int .i64 2))), (12, (.k (.int .i64 1)))])), (.op (some 5) none (.mv (.s 9)))]
abbrev Q190 : AC := .run [(.op (some 10) none (.mv (.s 4))), (.op (some 11) none (.len (.s 10))), (.op (some 12) none (.mv (.k (.int .i64 0))))]
abbrev Q191 : AC := .run [(.op (some 13) none (.bin .lss (.s 12) (.s 11)))]
abbrev Q192 : AC := .cond (.s 13) .skip (.exit 0)
abbrev Q193 : AC := .run [(.op (some 14) none (.mv (.s 12))), (.op (some 15) none (.iaddr (.s 10) (.s 12) 1)), (.op (some 16) none (.load (.s 15) false 1)), (.op (some 6) none (.mv (.s 14))), (.op (some 7) none (.mv (.s 16)))]
abbrev Q194 : AC := .run [(.op (some 17) none (.mv (.s 7))), (.op (some 18) none (.mv (.s 0))), (.op (some 19) none (.bin .eql (.s 17) (.s 18)))]
abbrev Q195 : AC := .run [(.op (some 20) none (.mv (.s 5))), (.op (some 21) none (.mv (.s 6))), (.op (some 22) none (.iaddr (.s 20) (.s 21) 1)), (.op (some 23) none (.load (.s 22) false 1)), (.op (some 24) none (.mv (.s 6))), (.op (some 25) none (.bin .add (.k (.int .i64 5)) (.s 24))), (.op (some 2) none (.mv (.s 23))), (.op (some 3) none (.mv (.s 25)))]
abbrev Q196 : AC := .seq Q195 .ret
abbrev Q197 : AC := .cond (.s 19) Q196 .skip
abbrev Q198 : AC := .seq Q194 Q197
abbrev Q199 : AC := .seq Q193 Q198
abbrev Q19A : AC := .block 1 Q199
abbrev Q19B : AC := .run [(.op (some 26) none (.bin .add (.s 12) (.k (.int .i64 1)))), (.op (some 12) none (.mv (.s 26)))]
abbrev Q19C : AC := .seq Q19A Q19B
abbrev Q19D : AC := .seq Q192 Q19C
abbrev Q19E : AC := .seq Q191 Q19D
abbrev Q19F : AC := .loop Q19E
abbrev Q19G : AC := .block 0 Q19F
abbrev Q19H : AC := .seq Q190 Q19G
abbrev Q19I : AC := .run [(.op (some 2) none (.mv (.k (.int .i64 0)))), (.op (some 3) none (.mv (.k (.int .i64 0))))]
abbrev Q19J : AC := .seq Q19I .ret
abbrev Q19K : AC := .seq Q19H Q19J
abbrev Q19L : AC := .seq Q18Z Q19K
abbrev Q19M : AC := .seq Q18Y Q19L
abbrev Q19N : AC := .seq Q18X Q19M

end Go.Abs

/-! Have2 -/

namespace Go.Abs
open Go.Proofs

theorem has_strings_Builder_WriteByte : Has Tryd.prog n_strings_Builder_WriteByte 17 [(4, none)] QT2 := ⟨Tryd.f68, by kernel_rfl, by kernel_rfl⟩
theorem has_strings_Builder_WriteString : Has Tryd.prog n_strings_Builder_WriteString 19 [(4, none), (5, none)] QTA := ⟨Tryd.f69, by kernel_rfl, by kernel_rfl⟩
theorem has_print_plain : Has Tryd.prog n_print_plain 85 [(2, none)] QVG := ⟨Tryd.f71, by kernel_rfl, by kernel_rfl⟩
theorem has_ref3_line : Has Tryd.prog n_ref3_line 63 [(2, none)] QX3 := ⟨Tryd.f72, by kernel_rfl, by kernel_rfl⟩
theorem has_tree_deep : Has Tryd.prog n_tree_deep 61 [(4, none)] QYG := ⟨Tryd.f73, by kernel_rfl, by kernel_rfl⟩
theorem has_print_sign : Has Tryd.prog n_print_sign 31 [(2, none), (3, none)] Q10H := ⟨Tryd.f75, by kernel_rfl, by kernel_rfl⟩
theorem has_ref3_Arity : Has Tryd.prog n_ref3_Arity 24 [(2, none)] Q112 := ⟨Tryd.f76, by kernel_rfl, by kernel_rfl⟩
theorem has_ref3_Dec : Has Tryd.prog n_ref3_Dec 15 [(2, none)] Q11C := ⟨Tryd.f77, by kernel_rfl, by kernel_rfl⟩
theorem has_ref3_kid : Has Tryd.prog n_ref3_kid 15 [(4, none)] Q11M := ⟨Tryd.f78, by kernel_rfl, by kernel_rfl⟩
theorem has_ref3_much : Has Tryd.prog n_ref3_much 17 [(2, none)] Q11Y := ⟨Tryd.f79, by kernel_rfl, by kernel_rfl⟩
theorem has_ref3_sign : Has Tryd.prog n_ref3_sign 8 [(2, none)] Q122 := ⟨Tryd.f80, by kernel_rfl, by kernel_rfl⟩
theorem has_ref1_small : Has Tryd.prog n_ref1_small 9 [(2, none)] Q126 := ⟨Tryd.f81, by kernel_rfl, by kernel_rfl⟩
theorem has_ref1_digit : Has Tryd.prog n_ref1_digit 9 [(2, none)] Q12A := ⟨Tryd.f82, by kernel_rfl, by kernel_rfl⟩
theorem has_ref1_Word : Has Tryd.prog n_ref1_Word 15 [(2, none)] Q12X := ⟨Tryd.f83, by kernel_rfl, by kernel_rfl⟩
theorem has_ref3_Flat : Has Tryd.prog n_ref3_Flat 6 [(2, none)] Q131 := ⟨Tryd.f84, by kernel_rfl, by kernel_rfl⟩
theorem has_ref3_none : Has Tryd.prog n_ref3_none 22 [(2, none)] Q135 := ⟨Tryd.f85, by kernel_rfl, by kernel_rfl⟩
theorem has_ref3_arg : Has Tryd.prog n_ref3_arg 21 [(2, none)] Q13F := ⟨Tryd.f86, by kernel_rfl, by kernel_rfl⟩
theorem has_lex_letter : Has Tryd.prog n_lex_letter 9 [(2, none)] Q13J := ⟨Tryd.f88, by kernel_rfl, by kernel_rfl⟩
theorem has_lex_digit : Has Tryd.prog n_lex_digit 9 [(2, none)] Q13N := ⟨Tryd.f89, by kernel_rfl, by kernel_rfl⟩
theorem has_lex_run : Has Tryd.prog n_lex_run 24 [(4, none)] Q140 := ⟨Tryd.f91, by kernel_rfl, by kernel_rfl⟩
theorem has_lex_Word : Has Tryd.prog n_lex_Word 18 [(2, none)] Q15D := ⟨Tryd.f92, by kernel_rfl, by kernel_rfl⟩
theorem has_tree_fields : Has Tryd.prog n_tree_fields 93 [(2, none)] Q174 := ⟨Tryd.f103, by kernel_rfl, by kernel_rfl⟩
theorem has_ref3_call : Has Tryd.prog n_ref3_call 45 [(2, none)] Q181 := ⟨Tryd.f106, by kernel_rfl, by kernel_rfl⟩
theorem has_tree_kids : Has Tryd.prog n_tree_kids 24 [(2, none)] Q18M := ⟨Tryd.f107, by kernel_rfl, by kernel_rfl⟩
theorem has_ref3_digits : Has Tryd.prog n_ref3_digits 20 [(2, none)] Q18W := ⟨Tryd.f109, by kernel_rfl, by kernel_rfl⟩
theorem has_ref3_Binds : Has Tryd.prog n_ref3_Binds 27 [(2, none), (3, none)] Q19N := ⟨Tryd.f110, by kernel_rfl, by kernel_rfl⟩

end Go.Abs

/-! Codes3 -/

namespace Go.Abs

abbrev Q19O : AC := .run [(.op (some 0) none (.mv (.k (.slice .full 0 []))))]
abbrev Q19P : AC := .run [(.op (some 1) none (.bslice [(.str [])] 1 13 [(0, (.k (.str [103, 108, 111, 98, 97, 108]))), (1, (.k (.str [112, 114, 111, 99]))), (2, (.k (.str [118, 97, 114]))), (3, (.k (.str [114, 101, 102]))), (4, (.k (.str [105, 102]))), (5, (.k (.str [101, 108, 115, 101]))), (6, (.k (.str [119, 104, 105, 108, 101]))), (7, (.k (.str [98, 114, 101, 97, 107]))), (8, (.k (.str [99, 111, 110, 116, 105, 110, 117, 101]))), (9, (.k (.str [114, 101, 116, 117, 114, 110]))), (10, (.k (.str [103, 111, 116, 111]))), (11, (.k (.str [114, 101, 97, 100]))), (12, (.k (.str [112, 114, 105, 110, 116])))])), (.op (some 0) none (.mv (.s 1)))]
abbrev Q19Q : AC := .seq Q19P .ret
abbrev Q19R : AC := .seq Q19O Q19Q
abbrev Q19S : AC := .run [(.op (some 10) none (.mv (.k (.slice .full 0 []))))]
abbrev Q19T : AC := .run [(.op (some 11) none (.mv (.k (.int .i64 0))))]
abbrev Q19U : AC := .run [(.op (some 12) none (.mv (.s 11))), (.op (some 13) none (.mv (.s 0))), (.op (some 14) none (.len (.s 13))), (.op (some 15) none (.bin .lss (.s 12) (.s 14))), (.op (some 16) none (.mv (.s 15))), (.op (some 17) (some (16, true)) (.mv (.s 4))), (.op (some 18) (some (16, true)) (.len (.s 17))), (.op (some 19) (some (16, true)) (.bin .leq (.s 18) (.k (.int .i64 200)))), (.op (some 20) none (.pick (.s 16) (.s 19) (.k (.bool false))))]
abbrev Q19V : AC := .cond (.s 20) .skip (.exit 0)
abbrev Q19W : AC := .seq Q19U Q19V
abbrev Q19X : AC := .run [(.op (some 23) none (.mv (.s 4))), (.op (some 24) none (.mv (.s 0))), (.op (some 25) none (.mv (.s 11))), (.op (some 26) none (.iaddr (.s 24) (.s 25) 13)), (.op (some 27) none (.load (.s 26) true 13)), (.op (some 28) none (.mv (.s 1))), (.op (some 29) none (.mv (.s 2))), (.op (some 30) none (.mv (.s 3))), (.op (some 31) none (.build [(.int .i64 0), (.int .i64 0), (.slice .full 0 []), (.str []), (.str []), (.int .i64 0), (.int .i64 0), (.str []), (.slice .full 0 []), (.bool false), (.slice .full 0 []), (.slice .full 0 []), (.slice .full 0 []), (.int .i64 0), (.int .i64 0), (.bool false)] [(0, (13, (.s 27))), (13, (1, (.s 28))), (14, (1, (.s 29))), (15, (1, (.s 30)))])), (.op (some 32) none (.bslice [(.int .i64 0), (.int .i64 0), (.slice .full 0 []), (.str []), (.str []), (.int .i64 0), (.int .i64 0), (.str []), (.slice .full 0 []), (.bool false), (.slice .full 0 []), (.slice .full 0 []), (.slice .full 0 []), (.int .i64 0), (.int .i64 0), (.bool false)] 16 1 [(0, (.s 31))])), (.op (some 33) none (.app 16 232 (.s 23) (.s 32))), (.op (some 4) none (.mv (.s 33)))]
abbrev Q19Y : AC := .run [(.op (some 34) none (.mv (.s 1))), (.op (some 35) none (.bin .leq (.s 34) (.k (.int .i64 12))))]
abbrev Q19Z : AC := .par [(.op (some 36) none (.mv (.s 0))), (.op (some 37) none (.mv (.s 11))), (.op (some 38) none (.iaddr (.s 36) (.s 37) 13)), (.op (some 39) none (.faddr (.s 38) 11)), (.op (some 40) none (.load (.s 39) false 1)), (.op (some 41) none (.mv (.s 1))), (.op (some 42) none (.bin .add (.s 41) (.k (.int .i64 1)))), (.op (some 43) none (.mv (.s 0))), (.op (some 44) none (.mv (.s 11))), (.op (some 45) none (.iaddr (.s 43) (.s 44) 13)), (.op (some 46) none (.faddr (.s 45) 0)), (.op (some 47) none (.load (.s 46) false 1)), (.op (some 48) none (.mv (.s 4))), (.call (some 49) none n_ref3_flat [(.s 40), (.s 42), (.s 47), (.k (.bool false)), (.s 48)]), (.op (some 4) none (.mv (.s 49)))] [(0, 0), (1, 0), (2, 0), (3, 0), (4, 0), (5, 0), (6, 0), (7, 0), (8, 0), (9, 0), (10, 0), (11, 0), (12, 0), (13, 0), (14, 0)]
abbrev Q1A0 : AC := .par [(.op (some 50) none (.mv (.s 0))), (.op (some 51) none (.mv (.s 11))), (.op (some 52) none (.iaddr (.s 50) (.s 51) 13)), (.op (some 53) none (.faddr (.s 52) 12)), (.op (some 54) none (.load (.s 53) false 1)), (.op (some 55) none (.mv (.s 1))), (.op (some 56) none (.bin .add (.s 55) (.k (.int .i64 1)))), (.op (some 57) none (.mv (.s 0))), (.op (some 58) none (.mv (.s 11))), (.op (some 59) none (.iaddr (.s 57) (.s 58) 13)), (.op (some 60) none (.faddr (.s 59) 0)), (.op (some 61) none (.load (.s 60) false 1)), (.op (some 62) none (.mv (.s 4))), (.call (some 63) none n_ref3_flat [(.s 54), (.s 56), (.s 61), (.k (.bool true)), (.s 62)]), (.op (some 4) none (.mv (.s 63)))] [(0, 0), (1, 0), (2, 0), (3, 0), (4, 0), (5, 0), (6, 0), (7, 0), (8, 0), (9, 0), (10, 0), (11, 0), (12, 0), (13, 0), (14, 0)]
abbrev Q1A1 : AC := .seq Q19Z Q1A0
abbrev Q1A2 : AC := .cond (.s 35) Q1A1 .skip
abbrev Q1A3 : AC := .seq Q19Y Q1A2
abbrev Q1A4 : AC := .seq Q19X Q1A3
abbrev Q1A5 : AC := .block 1 Q1A4
abbrev Q1A6 : AC := .run [(.op (some 21) none (.mv (.s 11))), (.op (some 22) none (.bin .add (.s 21) (.k (.int .i64 1)))), (.op (some 11) none (.mv (.s 22)))]
abbrev Q1A7 : AC := .seq Q1A5 Q1A6
abbrev Q1A8 : AC := .seq Q19W Q1A7
abbrev Q1A9 : AC := .loop Q1A8
abbrev Q1AA : AC := .block 0 Q1A9
abbrev Q1AB : AC := .seq Q19T Q1AA
abbrev Q1AC : AC := .run [(.op (some 64) none (.mv (.s 4))), (.op (some 10) none (.mv (.s 64)))]
abbrev Q1AD : AC := .seq Q1AC .ret
abbrev Q1AE : AC := .seq Q1AB Q1AD
abbrev Q1AF : AC := .seq Q19S Q1AE
abbrev Q1AG : AC := .run [(.op (some 4) none (.mv (.k (.bool false))))]
abbrev Q1AH : AC := .run [(.op (some 5) none (.mv (.s 1))), (.op (some 6) none (.mv (.s 5))), (.op (some 7) (some (6, true)) (.mv (.s 0))), (.call (some 8) (some (6, true)) n_lex_Name [(.s 7)]), (.op (some 9) none (.pick (.s 6) (.s 8) (.k (.bool false)))), (.op (some 10) none (.mv (.s 9))), (.op (some 11) (some (10, false)) (.mv (.s 1))), (.op (some 12) (some (10, false)) (.un .not (.s 11))), (.op (some 13) (some (10, false)) (.mv (.s 12))), (.op (some 14) (some (13, true)) (.mv (.s 0))), (.op (some 15) (some (13, true)) (.bin .eql (.s 14) (.k (.str [])))), (.op (some 16) (some (10, false)) (.pick (.s 13) (.s 15) (.k (.bool false)))), (.op (some 17) none (.pick (.s 10) (.k (.bool true)) (.s 16))), (.op (some 4) none (.mv (.s 17)))]
abbrev Q1AI : AC := .seq Q1AH .ret
abbrev Q1AJ : AC := .seq Q1AG Q1AI
abbrev Q1AK : AC := .run [(.op (some 2) none (.box (.s 0))), (.op (some 4) none (.mv (.k (.bool false))))]
abbrev Q1AL : AC := .run [(.op (some 5) none (.mv (.s 1))), (.op (some 6) none (.mv (.s 5))), (.op (some 7) (some (6, true)) (.load (.s 2) true 4)), (.call (some 8) (some (6, true)) n_tree_MayExpr [(.s 7)]), (.op (some 9) none (.pick (.s 6) (.s 8) (.k (.bool false)))), (.op (some 10) none (.mv (.s 9))), (.op (some 11) (some (10, false)) (.mv (.s 1))), (.op (some 12) (some (10, false)) (.un .not (.s 11))), (.op (some 13) (some (10, false)) (.mv (.s 12))), (.op (some 14) (some (13, true)) (.load (.s 2) true 4)), (.call (some 15) (some (13, true)) n_tree_none [(.s 14)]), (.op (some 16) (some (10, false)) (.pick (.s 13) (.s 15) (.k (.bool false)))), (.op (some 17) none (.pick (.s 10) (.k (.bool true)) (.s 16))), (.op (some 4) none (.mv (.s 17)))]
abbrev Q1AM : AC := .seq Q1AL .ret
abbrev Q1AN : AC := .seq Q1AK Q1AM
abbrev Q1AO : AC := .run [(.op (some 2) none (.mv (.k (.bool false))))]
abbrev Q1AP : AC := .run [(.op (some 5) none (.mv (.s 0))), (.op (some 6) none (.len (.s 5))), (.op (some 7) none (.mv (.k (.int .i64 0))))]
abbrev Q1AQ : AC := .run [(.op (some 8) none (.bin .lss (.s 7) (.s 6)))]
abbrev Q1AR : AC := .cond (.s 8) .skip (.exit 0)
abbrev Q1AS : AC := .run [(.op (some 9) none (.iaddr (.s 5) (.s 7) 6)), (.op (some 10) none (.load (.s 9) true 6)), (.op (some 4) none (.alloc [(.bool false), (.str []), (.int .i64 0), (.int .i64 0), (.str []), (.slice .full 0 [])])), (.op none none (.store (.s 4) (.s 10) 6))]
abbrev Q1AT : AC := .run [(.op (some 11) none (.faddr (.s 4) 1)), (.op (some 12) none (.load (.s 11) false 1)), (.op (some 13) none (.faddr (.s 4) 0)), (.op (some 14) none (.load (.s 13) false 1)), (.call (some 15) none n_tree_named [(.s 12), (.s 14)]), (.op (some 16) none (.un .not (.s 15))), (.op (some 17) none (.mv (.s 16))), (.op (some 18) (some (17, false)) (.faddr (.s 4) 2)), (.op (some 19) (some (17, false)) (.load (.s 18) true 4)), (.op (some 20) (some (17, false)) (.faddr (.s 4) 0)), (.op (some 21) (some (17, false)) (.load (.s 20) false 1)), (.op (some 22) (some (17, false)) (.un .not (.s 21))), (.call (some 23) (some (17, false)) n_tree_worth [(.s 19), (.s 22)]), (.op (some 24) (some (17, false)) (.un .not (.s 23))), (.op (some 25) none (.pick (.s 17) (.k (.bool true)) (.s 24)))]
abbrev Q1AU : AC := .run [(.op (some 2) none (.mv (.k (.bool false))))]
abbrev Q1AV : AC := .seq Q1AU .ret
abbrev Q1AW : AC := .cond (.s 25) Q1AV .skip
abbrev Q1AX : AC := .seq Q1AT Q1AW
abbrev Q1AY : AC := .seq Q1AS Q1AX
abbrev Q1AZ : AC := .block 1 Q1AY
abbrev Q1B0 : AC := .run [(.op (some 26) none (.bin .add (.s 7) (.k (.int .i64 1)))), (.op (some 7) none (.mv (.s 26)))]
abbrev Q1B1 : AC := .seq Q1AZ Q1B0
abbrev Q1B2 : AC := .seq Q1AR Q1B1
abbrev Q1B3 : AC := .seq Q1AQ Q1B2
abbrev Q1B4 : AC := .loop Q1B3
abbrev Q1B5 : AC := .block 0 Q1B4
abbrev Q1B6 : AC := .seq Q1AP Q1B5
abbrev Q1B7 : AC := .run [(.op (some 2) none (.mv (.k (.bool true))))]
abbrev Q1B8 : AC := .seq Q1B7 .ret
abbrev Q1B9 : AC := .seq Q1B6 Q1B8
abbrev Q1BA : AC := .seq Q1AO Q1B9
abbrev Q1BB : AC := .run [(.op (some 1) none (.box (.s 0))), (.op (some 2) none (.mv (.k (.bool false))))]
abbrev Q1BC : AC := .run [(.op (some 3) none (.faddr (.s 1) 0)), (.op (some 4) none (.load (.s 3) false 1)), (.op (some 5) none (.bin .eql (.s 4) (.k (.int .i64 0)))), (.op (some 6) none (.mv (.s 5))), (.op (some 7) (some (6, true)) (.faddr (.s 1) 1)), (.op (some 8) (some (6, true)) (.load (.s 7) false 1)), (.op (some 9) (some (6, true)) (.bin .eql (.s 8) (.k (.int .i64 0)))), (.op (some 10) none (.pick (.s 6) (.s 9) (.k (.bool false)))), (.op (some 11) none (.mv (.s 10))), (.op (some 12) (some (11, true)) (.faddr (.s 1) 2)), (.op (some 13) (some (11, true)) (.load (.s 12) false 1)), (.op (some 14) (some (11, true)) (.bin .eql (.s 13) (.k (.str [])))), (.op (some 15) none (.pick (.s 11) (.s 14) (.k (.bool false)))), (.op (some 16) none (.mv (.s 15))), (.op (some 17) (some (16, true)) (.faddr (.s 1) 3)), (.op (some 18) (some (16, true)) (.load (.s 17) false 1)), (.op (some 19) (some (16, true)) (.len (.s 18))), (.op (some 20) (some (16, true)) (.bin .eql (.s 19) (.k (.int .i64 0)))), (.op (some 21) none (.pick (.s 16) (.s 20) (.k (.bool false)))), (.op (some 2) none (.mv (.s 21)))]
abbrev Q1BD : AC := .seq Q1BC .ret
abbrev Q1BE : AC := .seq Q1BB Q1BD

end Go.Abs

/-! Have3 -/

namespace Go.Abs
open Go.Proofs

theorem has_ref1_Words : Has Tryd.prog n_ref1_Words 2 [(0, none)] Q19R := ⟨Tryd.f111, by kernel_rfl, by kernel_rfl⟩
theorem has_ref3_flat : Has Tryd.prog n_ref3_flat 65 [(10, none)] Q1AF := ⟨Tryd.f112, by kernel_rfl, by kernel_rfl⟩
theorem has_tree_named : Has Tryd.prog n_tree_named 18 [(4, none)] Q1AJ := ⟨Tryd.f119, by kernel_rfl, by kernel_rfl⟩
theorem has_tree_worth : Has Tryd.prog n_tree_worth 18 [(4, none)] Q1AN := ⟨Tryd.f120, by kernel_rfl, by kernel_rfl⟩
theorem has_tree_handed : Has Tryd.prog n_tree_handed 27 [(2, none)] Q1BA := ⟨Tryd.f121, by kernel_rfl, by kernel_rfl⟩
theorem has_tree_none : Has Tryd.prog n_tree_none 22 [(2, none)] Q1BE := ⟨Tryd.f130, by kernel_rfl, by kernel_rfl⟩
end Go.Abs

/-! Prs -/

namespace Go.Abs

set_option maxRecDepth 8000
set_option linter.unusedSimpArgs false
set_option linter.unusedVariables false
open Go.Proofs

@[go_sem] def encRd (r : Rd) : List D := [.slice .shared 4 (r.l.map encTok), .int .i64 r.i, .int .i64 r.code, .int .i64 r.fat, .int .i64 r.n]
end Go.Abs

/-! Lex1 -/

namespace Go.Abs

set_option maxRecDepth 8000
set_option linter.unusedSimpArgs false
set_option linter.unusedVariables false
open Go.Proofs

theorem letter_s (c : UInt8) (s : St) : Fun Tryd.prog n_lex_letter [.int .u8 (c.toNat : Int)] s (.bool (isL c)) s := by
  refine Fun.pure ?_ rfl rfl s
  generalize h : isL c = b
  unfold isL at h
  unfold S0
  refine Fun.go has_lex_letter rfl fun B Q hB hQ => ?_
  have hlt : 0 < 1 := Nat.zero_lt_one
  have hget : 0 < 1 := Nat.zero_lt_one
  have hpu : 0 < 1 := Nat.zero_lt_one
  have hinc : 0 < 1 := Nat.zero_lt_one
  repeat' (first
 | simp only [go_sem, hlt, hget, hpu, hinc, Int.reduceLE, ↓reduceIte, reduceCtorEq, Nat.reduceEqDiff, Nat.reduceLeDiff, Nat.reduceAdd, Nat.reduceMul, Nat.reduceSub, Nat.reduceLT]
 | (with_reducible first | refine CB_ofT (by assumption) fun hc => ?_ | refine CB_ofF (by assumption) fun hc => ?_ | refine CB_split (fun hc => ?_) fun hc => ?_) <;> (try simp only [hc, bs, ↓reduceIte] at h) <;> (try simp only [hc])
 | ((with_reducible first | refine leafR hQ ?_ | refine leafN hQ ?_); (try cases h); simp only [resL, oneD, Option.some.injEq, exists_eq_left', go_sem, hlt, hget, hpu, hinc, Int.reduceLE, ↓reduceIte, reduceCtorEq, Nat.reduceEqDiff, Nat.reduceLeDiff, Nat.reduceAdd, Nat.reduceMul, Nat.reduceSub, Nat.reduceLT]; repeat' (first | exact Ok.out | with_reducible refine And.intro ?_ ?_ | (simp; done)))
 | (cases h; replace h := hr; clear hr; (try simp only [bs, ↓reduceIte] at h))
 | (cases h; done))

theorem digit_s (c : UInt8) (s : St) : Fun Tryd.prog n_lex_digit [.int .u8 (c.toNat : Int)] s (.bool (isD c)) s := by
  refine Fun.pure ?_ rfl rfl s
  generalize h : isD c = b
  unfold isD at h
  unfold S0
  refine Fun.go has_lex_digit rfl fun B Q hB hQ => ?_
  have hlt : 0 < 1 := Nat.zero_lt_one
  have hget : 0 < 1 := Nat.zero_lt_one
  have hpu : 0 < 1 := Nat.zero_lt_one
  have hinc : 0 < 1 := Nat.zero_lt_one
  repeat' (first
 | simp only [go_sem, hlt, hget, hpu, hinc, Int.reduceLE, ↓reduceIte, reduceCtorEq, Nat.reduceEqDiff, Nat.reduceLeDiff, Nat.reduceAdd, Nat.reduceMul, Nat.reduceSub, Nat.reduceLT]
 | (with_reducible first | refine CB_ofT (by assumption) fun hc => ?_ | refine CB_ofF (by assumption) fun hc => ?_ | refine CB_split (fun hc => ?_) fun hc => ?_) <;> (try simp only [hc, bs, ↓reduceIte] at h) <;> (try simp only [hc])
 | ((with_reducible first | refine leafR hQ ?_ | refine leafN hQ ?_); (try cases h); simp only [resL, oneD, Option.some.injEq, exists_eq_left', go_sem, hlt, hget, hpu, hinc, Int.reduceLE, ↓reduceIte, reduceCtorEq, Nat.reduceEqDiff, Nat.reduceLeDiff, Nat.reduceAdd, Nat.reduceMul, Nat.reduceSub, Nat.reduceLT]; repeat' (first | exact Ok.out | with_reducible refine And.intro ?_ ?_ | (simp; done)))
 | (cases h; replace h := hr; clear hr; (try simp only [bs, ↓reduceIte] at h))
 | (cases h; done))

theorem word_s (t : Str) (s : St) : Fun Tryd.prog n_lex_Word [.str t] s (.bool (isWord t)) s := by
  refine Fun.pure ?_ rfl rfl s
  generalize h : isWord t = b
  unfold isWord at h
  unfold S0
  refine Fun.go has_lex_Word rfl fun B Q hB hQ => ?_
  have hlt : 0 < 1 := Nat.zero_lt_one
  have hget : 0 < 1 := Nat.zero_lt_one
  have hpu : 0 < 1 := Nat.zero_lt_one
  have hinc : 0 < 1 := Nat.zero_lt_one
  repeat' (first
 | simp only [go_sem, hlt, hget, hpu, hinc, Int.reduceLE, ↓reduceIte, reduceCtorEq, Nat.reduceEqDiff, Nat.reduceLeDiff, Nat.reduceAdd, Nat.reduceMul, Nat.reduceSub, Nat.reduceLT]
 | (with_reducible first | refine CB_ofT (by assumption) fun hc => ?_ | refine CB_ofF (by assumption) fun hc => ?_ | refine CB_split (fun hc => ?_) fun hc => ?_) <;> (try simp only [hc, bs, ↓reduceIte] at h) <;> (try simp only [hc])
 | ((with_reducible first | refine leafR hQ ?_ | refine leafN hQ ?_); (try cases h); simp only [resL, oneD, Option.some.injEq, exists_eq_left', go_sem, hlt, hget, hpu, hinc, Int.reduceLE, ↓reduceIte, reduceCtorEq, Nat.reduceEqDiff, Nat.reduceLeDiff, Nat.reduceAdd, Nat.reduceMul, Nat.reduceSub, Nat.reduceLT]; repeat' (first | exact Ok.out | with_reducible refine And.intro ?_ ?_ | (simp; done)))
 | (cases h; replace h := hr; clear hr; (try simp only [bs, ↓reduceIte] at h))
 | (cases h; done))

theorem run_s {text : Str} {pos : Nat} (hl : text.length < 4611686018427387904) (s : St) : Fun Tryd.prog n_lex_run [.str text, .int .i64 (pos : Int)] s (.int .i64 ((pos + runL (text.drop pos) : Nat) : Int)) s := by
  refine Fun.pure ?_ rfl rfl s
  unfold S0
  refine Fun.go has_lex_run rfl fun B Q hB hQ => ?_
  have hlt : 0 < 1 := Nat.zero_lt_one
  have hget : 0 < 1 := Nat.zero_lt_one
  have hpu : 0 < 1 := Nat.zero_lt_one
  have hinc : 0 < 1 := Nat.zero_lt_one
  repeat' (first
 | simp only [go_sem, hlt, hget, hpu, hinc, Int.reduceLE, ↓reduceIte, reduceCtorEq, Nat.reduceEqDiff, Nat.reduceLeDiff, Nat.reduceAdd, Nat.reduceMul, Nat.reduceSub, Nat.reduceLT]
 | (with_reducible first | refine CB_ofT (by assumption) fun hc => ?_ | refine CB_ofF (by assumption) fun hc => ?_ | refine CB_split (fun hc => ?_) fun hc => ?_) <;> (try simp only [hc, bs, ↓reduceIte] at h) <;> (try simp only [hc])
 | ((with_reducible first | refine leafR hQ ?_ | refine leafN hQ ?_); (try cases h); simp only [resL, oneD, Option.some.injEq, exists_eq_left', go_sem, hlt, hget, hpu, hinc, Int.reduceLE, ↓reduceIte, reduceCtorEq, Nat.reduceEqDiff, Nat.reduceLeDiff, Nat.reduceAdd, Nat.reduceMul, Nat.reduceSub, Nat.reduceLT]; repeat' (first | exact Ok.out | with_reducible refine And.intro ?_ ?_ | (simp; done)))
 | (cases h; replace h := hr; clear hr; (try simp only [bs, ↓reduceIte] at h))
 | (cases h; done))
  refine SemL.re _ _ 0 0 (by rw [hB]; exact Nat.le_of_ble_eq_true rfl) (by rw [hB]; exact Nat.le_of_ble_eq_true rfl) ?_ ?_ (SemL.ind (ι := Str × Nat) (fun i => text.drop i.2 = i.1 ∧ i.2 + runL i.1 = pos + runL (text.drop pos)) (fun i => i.1.length)
    (fun i => [(0, .str text), (1, .int .i64 (i.2 : Int))]) (fun i => ⟨[], []⟩) ?_ (text.drop pos, pos) ⟨rfl, rfl⟩)
  · (simp only [go_sem, hlt, hget, hpu, hinc, Int.reduceLE, ↓reduceIte, reduceCtorEq, Nat.reduceEqDiff, Nat.reduceLeDiff, Nat.reduceAdd, Nat.reduceMul, Nat.reduceSub, Nat.reduceLT]; repeat' (first | exact Ok.out | with_reducible refine And.intro ?_ ?_))
  · (simp only [go_sem, hlt, hget, hpu, hinc, Int.reduceLE, ↓reduceIte, reduceCtorEq, Nat.reduceEqDiff, Nat.reduceLeDiff, Nat.reduceAdd, Nat.reduceMul, Nat.reduceSub, Nat.reduceLT]; repeat' (first | exact Ok.out | with_reducible refine And.intro ?_ ?_))
  rintro ⟨rest, k⟩ ⟨h1, h2⟩ IH
  dsimp only at h1 h2
  cases rest with
  | nil =>
    have hlt := drop_nil h1
    simp only [runL, Nat.add_zero] at h2
    rw [← h2] at hQ
    repeat' (first
 | simp only [go_sem, hlt, hget, hpu, hinc, Int.reduceLE, ↓reduceIte, reduceCtorEq, Nat.reduceEqDiff, Nat.reduceLeDiff, Nat.reduceAdd, Nat.reduceMul, Nat.reduceSub, Nat.reduceLT]
 | (with_reducible first | refine CB_ofT (by assumption) fun hc => ?_ | refine CB_ofF (by assumption) fun hc => ?_ | refine CB_split (fun hc => ?_) fun hc => ?_) <;> (try simp only [hc, bs, ↓reduceIte] at h) <;> (try simp only [hc])
 | ((with_reducible first | refine leafR hQ ?_ | refine leafN hQ ?_); (try cases h); simp only [resL, oneD, Option.some.injEq, exists_eq_left', go_sem, hlt, hget, hpu, hinc, Int.reduceLE, ↓reduceIte, reduceCtorEq, Nat.reduceEqDiff, Nat.reduceLeDiff, Nat.reduceAdd, Nat.reduceMul, Nat.reduceSub, Nat.reduceLT]; repeat' (first | exact Ok.out | with_reducible refine And.intro ?_ ?_ | (simp; done)))
 | (cases h; replace h := hr; clear hr; (try simp only [bs, ↓reduceIte] at h))
 | (cases h; done))
  | cons c rest =>
    obtain ⟨hget, g2, hlt, g4⟩ := drop_cons h1
    have hpu : k < 4611686018427387904 := by omega
    cases hb : (isL c || isD c)
    · simp only [runL, hb, Bool.false_eq_true, ↓reduceIte, Nat.add_zero] at h2
      rw [← h2] at hQ
      simp only [Bool.or_eq_false_iff] at hb
      repeat' (first
 | simp only [go_sem, hlt, hget, hpu, hinc, Int.reduceLE, ↓reduceIte, reduceCtorEq, Nat.reduceEqDiff, Nat.reduceLeDiff, Nat.reduceAdd, Nat.reduceMul, Nat.reduceSub, Nat.reduceLT, hb.1, hb.2]
 | (with_reducible refine CU (letter_s _ _) ?_)
 | (with_reducible refine CU (digit_s _ _) ?_)
 | (with_reducible first | refine CB_ofT (by assumption) fun hc => ?_ | refine CB_ofF (by assumption) fun hc => ?_ | refine CB_split (fun hc => ?_) fun hc => ?_) <;> (try simp only [hc, bs, ↓reduceIte] at h) <;> (try simp only [hc])
 | ((with_reducible first | refine leafR hQ ?_ | refine leafN hQ ?_); (try cases h); simp only [resL, oneD, Option.some.injEq, exists_eq_left', go_sem, hlt, hget, hpu, hinc, Int.reduceLE, ↓reduceIte, reduceCtorEq, Nat.reduceEqDiff, Nat.reduceLeDiff, Nat.reduceAdd, Nat.reduceMul, Nat.reduceSub, Nat.reduceLT, hb.1, hb.2]; repeat' (first | exact Ok.out | with_reducible refine And.intro ?_ ?_ | (simp; done)))
 | (cases h; replace h := hr; clear hr; (try simp only [bs, ↓reduceIte] at h))
 | (cases h; done))
    · simp only [runL, hb, ↓reduceIte] at h2
      cases hb1 : isL c
      · rw [hb1, Bool.false_or] at hb
        repeat' (first
 | simp only [go_sem, hlt, hget, hpu, hinc, Int.reduceLE, ↓reduceIte, reduceCtorEq, Nat.reduceEqDiff, Nat.reduceLeDiff, Nat.reduceAdd, Nat.reduceMul, Nat.reduceSub, Nat.reduceLT, hb, hb1]
 | (with_reducible refine CU (letter_s _ _) ?_)
 | (with_reducible refine CU (digit_s _ _) ?_)
 | (with_reducible first | refine CB_ofT (by assumption) fun hc => ?_ | refine CB_ofF (by assumption) fun hc => ?_ | refine CB_split (fun hc => ?_) fun hc => ?_) <;> (try simp only [hc, bs, ↓reduceIte] at h) <;> (try simp only [hc])
 | ((with_reducible first | refine leafR hQ ?_ | refine leafN hQ ?_); (try cases h); simp only [resL, oneD, Option.some.injEq, exists_eq_left', go_sem, hlt, hget, hpu, hinc, Int.reduceLE, ↓reduceIte, reduceCtorEq, Nat.reduceEqDiff, Nat.reduceLeDiff, Nat.reduceAdd, Nat.reduceMul, Nat.reduceSub, Nat.reduceLT, hb, hb1]; repeat' (first | exact Ok.out | with_reducible refine And.intro ?_ ?_ | (simp; done)))
 | (cases h; replace h := hr; clear hr; (try simp only [bs, ↓reduceIte] at h))
 | (cases h; done))
        refine SemL.re _ _ 0 0 (by rw [hB]; exact Nat.le_of_ble_eq_true rfl) (by rw [hB]; exact Nat.le_of_ble_eq_true rfl) ?_ ?_ (IH (rest, k + 1) ⟨g2, by dsimp only; omega⟩ (Nat.lt_succ_self _))
        · (simp only [go_sem, hlt, hget, hpu, hinc, Int.reduceLE, ↓reduceIte, reduceCtorEq, Nat.reduceEqDiff, Nat.reduceLeDiff, Nat.reduceAdd, Nat.reduceMul, Nat.reduceSub, Nat.reduceLT]; repeat' (first | exact Ok.out | with_reducible refine And.intro ?_ ?_))
        · (simp only [go_sem, hlt, hget, hpu, hinc, Int.reduceLE, ↓reduceIte, reduceCtorEq, Nat.reduceEqDiff, Nat.reduceLeDiff, Nat.reduceAdd, Nat.reduceMul, Nat.reduceSub, Nat.reduceLT]; repeat' (first | exact Ok.out | with_reducible refine And.intro ?_ ?_))
      · repeat' (first
 | simp only [go_sem, hlt, hget, hpu, hinc, Int.reduceLE, ↓reduceIte, reduceCtorEq, Nat.reduceEqDiff, Nat.reduceLeDiff, Nat.reduceAdd, Nat.reduceMul, Nat.reduceSub, Nat.reduceLT, hb1]
 | (with_reducible refine CU (letter_s _ _) ?_)
 | (with_reducible refine CU (digit_s _ _) ?_)
 | (with_reducible first | refine CB_ofT (by assumption) fun hc => ?_ | refine CB_ofF (by assumption) fun hc => ?_ | refine CB_split (fun hc => ?_) fun hc => ?_) <;> (try simp only [hc, bs, ↓reduceIte] at h) <;> (try simp only [hc])
 | ((with_reducible first | refine leafR hQ ?_ | refine leafN hQ ?_); (try cases h); simp only [resL, oneD, Option.some.injEq, exists_eq_left', go_sem, hlt, hget, hpu, hinc, Int.reduceLE, ↓reduceIte, reduceCtorEq, Nat.reduceEqDiff, Nat.reduceLeDiff, Nat.reduceAdd, Nat.reduceMul, Nat.reduceSub, Nat.reduceLT, hb1]; repeat' (first | exact Ok.out | with_reducible refine And.intro ?_ ?_ | (simp; done)))
 | (cases h; replace h := hr; clear hr; (try simp only [bs, ↓reduceIte] at h))
 | (cases h; done))
        refine SemL.re _ _ 0 0 (by rw [hB]; exact Nat.le_of_ble_eq_true rfl) (by rw [hB]; exact Nat.le_of_ble_eq_true rfl) ?_ ?_ (IH (rest, k + 1) ⟨g2, by dsimp only; omega⟩ (Nat.lt_succ_self _))
        · (simp only [go_sem, hlt, hget, hpu, hinc, Int.reduceLE, ↓reduceIte, reduceCtorEq, Nat.reduceEqDiff, Nat.reduceLeDiff, Nat.reduceAdd, Nat.reduceMul, Nat.reduceSub, Nat.reduceLT]; repeat' (first | exact Ok.out | with_reducible refine And.intro ?_ ?_))
        · (simp only [go_sem, hlt, hget, hpu, hinc, Int.reduceLE, ↓reduceIte, reduceCtorEq, Nat.reduceEqDiff, Nat.reduceLeDiff, Nat.reduceAdd, Nat.reduceMul, Nat.reduceSub, Nat.reduceLT]; repeat' (first | exact Ok.out | with_reducible refine And.intro ?_ ?_))

/-- What a text of digits is worth. -/
def worthP (s : Str) : Int × Bool := match worth 0 s with | some n => (n, true) | none => (0, false)

end Go.Abs

/-! Lex2 -/

namespace Go.Abs

set_option maxRecDepth 8000
set_option linter.unusedSimpArgs false
set_option linter.unusedVariables false
open Go.Proofs

def encF (f : Int × Int) : List D := [.int .i64 f.1, .int .i64 f.2]

/-- At the label ahead of the next token. -/
def lexTM (text : Str) (out : List Tok) (pos : Nat) : Tm := [(0, .str text), (3, .ptr 0 0), (4, .slice (.tok 0) 4 (out.map encTok)), (5, .ptr 1 0), (6, .int .i64 (pos : Int))]
def lexST (out : List Tok) : St := ⟨[[.int .i64 0, .int .i64 0], [.junk, .junk, .junk, .junk]], [some out.length]⟩

/-- On to the next token. -/
def LexGo (text : Str) (B : Base) (Q : Exit → Tm → St → Prop) (p : List Tok × Int × Int) (N : Nat) : Prop :=
  ∀ (n pos : Nat) (rest : Str) (out : List Tok), text.drop pos = rest → lexF n pos rest out = p → rest.length < n → out.length ≤ 2000 → pos ≤ text.length → n < N →
    SemS Tryd.prog B 152 QQI (.seq .skip QQD) Q (lexTM text out pos) (lexST out)

attribute [go_sem] lexTM lexST encF
end Go.Abs

/-! RefLex1 -/

namespace Go.Abs

set_option maxRecDepth 8000
set_option linter.unusedSimpArgs false
set_option linter.unusedVariables false
open Go.Proofs

theorem Rsmall_s (c : UInt8) (s : St) : Fun Tryd.prog n_ref1_small [.int .u8 (c.toNat : Int)] s (.bool (isL c)) s := by
  refine Fun.pure ?_ rfl rfl s
  generalize h : isL c = b
  unfold isL at h
  unfold S0
  refine Fun.go has_ref1_small rfl fun B Q hB hQ => ?_
  have hlt : 0 < 1 := Nat.zero_lt_one
  have hget : 0 < 1 := Nat.zero_lt_one
  have hpu : 0 < 1 := Nat.zero_lt_one
  have hinc : 0 < 1 := Nat.zero_lt_one
  repeat' (first
 | simp only [go_sem, hlt, hget, hpu, hinc, Int.reduceLE, ↓reduceIte, reduceCtorEq, Nat.reduceEqDiff, Nat.reduceLeDiff, Nat.reduceAdd, Nat.reduceMul, Nat.reduceSub, Nat.reduceLT]
 | (with_reducible first | refine CB_ofT (by assumption) fun hc => ?_ | refine CB_ofF (by assumption) fun hc => ?_ | refine CB_split (fun hc => ?_) fun hc => ?_) <;> (try simp only [hc, bs, ↓reduceIte] at h) <;> (try simp only [hc])
 | ((with_reducible first | refine leafR hQ ?_ | refine leafN hQ ?_); (try cases h); simp only [resL, oneD, Option.some.injEq, exists_eq_left', go_sem, hlt, hget, hpu, hinc, Int.reduceLE, ↓reduceIte, reduceCtorEq, Nat.reduceEqDiff, Nat.reduceLeDiff, Nat.reduceAdd, Nat.reduceMul, Nat.reduceSub, Nat.reduceLT]; repeat' (first | exact Ok.out | with_reducible refine And.intro ?_ ?_ | (simp; done)))
 | (cases h; replace h := hr; clear hr; (try simp only [bs, ↓reduceIte] at h))
 | (cases h; done))

theorem Rdigit_s (c : UInt8) (s : St) : Fun Tryd.prog n_ref1_digit [.int .u8 (c.toNat : Int)] s (.bool (isD c)) s := by
  refine Fun.pure ?_ rfl rfl s
  generalize h : isD c = b
  unfold isD at h
  unfold S0
  refine Fun.go has_ref1_digit rfl fun B Q hB hQ => ?_
  have hlt : 0 < 1 := Nat.zero_lt_one
  have hget : 0 < 1 := Nat.zero_lt_one
  have hpu : 0 < 1 := Nat.zero_lt_one
  have hinc : 0 < 1 := Nat.zero_lt_one
  repeat' (first
 | simp only [go_sem, hlt, hget, hpu, hinc, Int.reduceLE, ↓reduceIte, reduceCtorEq, Nat.reduceEqDiff, Nat.reduceLeDiff, Nat.reduceAdd, Nat.reduceMul, Nat.reduceSub, Nat.reduceLT]
 | (with_reducible first | refine CB_ofT (by assumption) fun hc => ?_ | refine CB_ofF (by assumption) fun hc => ?_ | refine CB_split (fun hc => ?_) fun hc => ?_) <;> (try simp only [hc, bs, ↓reduceIte] at h) <;> (try simp only [hc])
 | ((with_reducible first | refine leafR hQ ?_ | refine leafN hQ ?_); (try cases h); simp only [resL, oneD, Option.some.injEq, exists_eq_left', go_sem, hlt, hget, hpu, hinc, Int.reduceLE, ↓reduceIte, reduceCtorEq, Nat.reduceEqDiff, Nat.reduceLeDiff, Nat.reduceAdd, Nat.reduceMul, Nat.reduceSub, Nat.reduceLT]; repeat' (first | exact Ok.out | with_reducible refine And.intro ?_ ?_ | (simp; done)))
 | (cases h; replace h := hr; clear hr; (try simp only [bs, ↓reduceIte] at h))
 | (cases h; done))

theorem Words_s (s : St) : Fun Tryd.prog n_ref1_Words [] s (.slice .shared 1 [[.str [103, 108, 111, 98, 97, 108]], [.str [112, 114, 111, 99]], [.str [118, 97, 114]], [.str [114, 101, 102]], [.str [105, 102]], [.str [101, 108, 115, 101]], [.str [119, 104, 105, 108, 101]], [.str [98, 114, 101, 97, 107]], [.str [99, 111, 110, 116, 105, 110, 117, 101]], [.str [114, 101, 116, 117, 114, 110]], [.str [103, 111, 116, 111]], [.str [114, 101, 97, 100]], [.str [112, 114, 105, 110, 116]]]) s := by
  refine Fun.pure ?_ rfl rfl s
  unfold S0
  refine Fun.go has_ref1_Words rfl fun B Q hB hQ => ?_
  have hlt : 0 < 1 := Nat.zero_lt_one
  have hget : 0 < 1 := Nat.zero_lt_one
  have hpu : 0 < 1 := Nat.zero_lt_one
  have hinc : 0 < 1 := Nat.zero_lt_one
  repeat' (first
 | simp only [go_sem, hlt, hget, hpu, hinc, Int.reduceLE, ↓reduceIte, reduceCtorEq, Nat.reduceEqDiff, Nat.reduceLeDiff, Nat.reduceAdd, Nat.reduceMul, Nat.reduceSub, Nat.reduceLT]
 | (with_reducible first | refine CB_ofT (by assumption) fun hc => ?_ | refine CB_ofF (by assumption) fun hc => ?_ | refine CB_split (fun hc => ?_) fun hc => ?_) <;> (try simp only [hc, bs, ↓reduceIte] at h) <;> (try simp only [hc])
 | ((with_reducible first | refine leafR hQ ?_ | refine leafN hQ ?_); (try cases h); simp only [resL, oneD, Option.some.injEq, exists_eq_left', go_sem, hlt, hget, hpu, hinc, Int.reduceLE, ↓reduceIte, reduceCtorEq, Nat.reduceEqDiff, Nat.reduceLeDiff, Nat.reduceAdd, Nat.reduceMul, Nat.reduceSub, Nat.reduceLT]; repeat' (first | exact Ok.out | with_reducible refine And.intro ?_ ?_ | (simp; done)))
 | (cases h; replace h := hr; clear hr; (try simp only [bs, ↓reduceIte] at h))
 | (cases h; done))

def isWordR (s : Str) : Bool :=
  [103, 108, 111, 98, 97, 108] == s || [112, 114, 111, 99] == s || [118, 97, 114] == s || [114, 101, 102] == s || [105, 102] == s || [101, 108, 115, 101] == s || [119, 104, 105, 108, 101] == s || [98, 114, 101, 97, 107] == s || [99, 111, 110, 116, 105, 110, 117, 101] == s || [114, 101, 116, 117, 114, 110] == s || [103, 111, 116, 111] == s || [114, 101, 97, 100] == s || [112, 114, 105, 110, 116] == s
theorem isWordR_eq (s : Str) : isWordR s = isWord s := by
  have e : ∀ a : Str, (a == s) = (s == a) := fun a => BEq.comm
  simp only [isWordR, isWord, e]

theorem RWord_s (text : Str) (s : St) : Fun Tryd.prog n_ref1_Word [.str text] s (.bool (isWord text)) s := by
  refine Fun.pure ?_ rfl rfl s
  rw [← isWordR_eq]
  generalize h : isWordR text = p
  unfold isWordR at h
  unfold S0
  refine Fun.go has_ref1_Word rfl fun B Q hB hQ => ?_
  have hlt : 0 < 1 := Nat.zero_lt_one
  have hget : 0 < 1 := Nat.zero_lt_one
  have hpu : 0 < 1 := Nat.zero_lt_one
  have hinc : 0 < 1 := Nat.zero_lt_one
  repeat' (first
 | simp only [go_sem, hlt, hget, hpu, hinc, Int.reduceLE, ↓reduceIte, reduceCtorEq, Nat.reduceEqDiff, Nat.reduceLeDiff, Nat.reduceAdd, Nat.reduceMul, Nat.reduceSub, Nat.reduceLT, Int.cast_ofNat_Int, wrap_ok, Int.reduceAdd, Int.reduceLT, Int.reduceNeg, decide_true, decide_false, Int.reduceToNat]
 | (with_reducible refine CU (Words_s _) ?_)
 | (with_reducible refine SemL.onceW ?_)
 | (with_reducible first | refine CB_ofT (by assumption) fun hc => ?_ | refine CB_ofF (by assumption) fun hc => ?_ | refine CB_split (fun hc => ?_) fun hc => ?_) <;> (try simp only [hc, bs, ↓reduceIte] at h) <;> (try simp only [hc])
 | ((with_reducible first | refine leafR hQ ?_ | refine leafN hQ ?_); (try cases h); simp only [resL, oneD, Option.some.injEq, exists_eq_left', go_sem, hlt, hget, hpu, hinc, Int.reduceLE, ↓reduceIte, reduceCtorEq, Nat.reduceEqDiff, Nat.reduceLeDiff, Nat.reduceAdd, Nat.reduceMul, Nat.reduceSub, Nat.reduceLT, Int.cast_ofNat_Int, wrap_ok, Int.reduceAdd, Int.reduceLT, Int.reduceNeg, decide_true, decide_false, Int.reduceToNat]; repeat' (first | exact Ok.out | with_reducible refine And.intro ?_ ?_ | (simp; done)))
 | (cases h; replace h := hr; clear hr; (try simp only [bs, ↓reduceIte] at h))
 | (cases h; done))

end Go.Abs

/-! Prs2 -/

namespace Go.Abs

set_option maxRecDepth 8000
set_option linter.unusedSimpArgs false
set_option linter.unusedVariables false
open Go.Proofs

def OpR (p : Int × Int) : Prop := 0 ≤ p.2 ∧ p.2 ≤ 6
abbrev C_one (m : Nat) : Prop := ∀ {r : Rd} {p : Ex × Rd}, Rd.one m r = some p → ∀ {s : St} {o : Nat}, s.objs[o]? = some (encRd r) → Fun Tryd.prog n_parse_reader_one [.ptr o 0] s (.agg (encEx p.1)) ⟨s.objs.set o (encRd p.2), s.toks⟩
abbrev C_two (m : Nat) : Prop := ∀ {k : Int} {r : Rd} {p : Ex × Rd}, Rd.two m k r = some p → ∀ {s : St} {o : Nat}, s.objs[o]? = some (encRd r) → Fun Tryd.prog n_parse_reader_two [.ptr o 0, .int .i64 k] s (.agg (encEx p.1)) ⟨s.objs.set o (encRd p.2), s.toks⟩

end Go.Abs

/-! Ref1 -/

namespace Go.Abs
set_option linter.unusedSimpArgs false
set_option linter.unusedVariables false
open Go.Proofs

/-- The reader's cells; what the last one holds is left open. -/
@[go_sem] def encRc (z : D) (r : Rd) : List D := [.slice .shared 4 (r.l.map encTok), .int .i64 r.i, .int .i64 r.code, .int .i64 r.fat, z]
/-- A plain cell. -/
class Cell (z : D) : Prop where
  ok : D.ok 0 0 z = true
  fg : ∀ n m, D.fg n m z = z
instance (n : Int) : Cell (.int .i64 n) := ⟨rfl, fun _ _ => rfl⟩
instance : Cell .junk := ⟨rfl, fun _ _ => rfl⟩
theorem Cell_fg (z : D) [h : Cell z] (n m : Nat) : D.fg n m z = z := h.fg n m
attribute [go_sem] Cell_fg
/-- Does a word or a sign come, and has there been no fault? -/
def Rd.isO (text : Str) (r : Rd) : Option Bool := if r.good then r.is text else some false

end Go.Abs

/-! Ref2 -/

namespace Go.Abs

set_option maxRecDepth 8000
set_option linter.unusedSimpArgs false
set_option linter.unusedVariables false
open Go.Proofs

def bindsR (s : Str) : Int × Int :=
  if [42] == s then (6, 5) else if [47] == s then (6, 6) else if [37] == s then (6, 7) else if [43] == s then (5, 8) else if [45] == s then (5, 9)
  else if [60] == s then (4, 10) else if [60, 61] == s then (4, 11) else if [62] == s then (4, 12) else if [62, 61] == s then (4, 13)
  else if [61, 61] == s then (3, 14) else if [33, 61] == s then (3, 15) else if [38, 38] == s then (2, 16) else if [124, 124] == s then (1, 17) else (0, 0)

theorem Binds_s (text : Str) (s : St) : Fun Tryd.prog n_ref3_Binds [.str text] s (.tuple [.int .i64 (bindsR text).1, .int .i64 (bindsR text).2]) s := by
  refine Fun.pure ?_ rfl rfl s
  generalize h : bindsR text = p
  unfold bindsR at h
  unfold S0
  refine Fun.go has_ref3_Binds rfl fun B Q hB hQ => ?_
  have hlt : 0 < 1 := Nat.zero_lt_one
  have hget : 0 < 1 := Nat.zero_lt_one
  have hpu : 0 < 1 := Nat.zero_lt_one
  have hinc : 0 < 1 := Nat.zero_lt_one
  repeat' (first
 | simp only [go_sem, hlt, hget, hpu, hinc, Int.reduceLE, ↓reduceIte, reduceCtorEq, Nat.reduceEqDiff, Nat.reduceLeDiff, Nat.reduceAdd, Nat.reduceMul, Nat.reduceSub, Nat.reduceLT, Int.cast_ofNat_Int, wrap_ok, Int.reduceAdd, Int.reduceLT, Int.reduceNeg, decide_true, decide_false, Int.reduceToNat]
 | (with_reducible refine SemL.onceW ?_)
 | (with_reducible first | refine CB_ofT (by assumption) fun hc => ?_ | refine CB_ofF (by assumption) fun hc => ?_ | refine CB_split (fun hc => ?_) fun hc => ?_) <;> (try simp only [hc, bs, ↓reduceIte] at h) <;> (try simp only [hc])
 | ((with_reducible first | refine leafR hQ ?_ | refine leafN hQ ?_); (try cases h); simp only [resL, oneD, Option.some.injEq, exists_eq_left', go_sem, hlt, hget, hpu, hinc, Int.reduceLE, ↓reduceIte, reduceCtorEq, Nat.reduceEqDiff, Nat.reduceLeDiff, Nat.reduceAdd, Nat.reduceMul, Nat.reduceSub, Nat.reduceLT, Int.cast_ofNat_Int, wrap_ok, Int.reduceAdd, Int.reduceLT, Int.reduceNeg, decide_true, decide_false, Int.reduceToNat]; repeat' (first | exact Ok.out | with_reducible refine And.intro ?_ ?_ | (simp; done)))
 | (cases h; replace h := hr; clear hr; (try simp only [bs, ↓reduceIte] at h))
 | (cases h; done))

def BZ (p : Int × Int) : Prop := (p.2 == 0) = (p.1 == 0)
end Go.Abs

/-! Ref3 -/

namespace Go.Abs

set_option maxRecDepth 8000
set_option linter.unusedSimpArgs false
set_option linter.unusedVariables false
open Go.Proofs

theorem deep_n : ∀ (most : Nat), most < 1000000 → ∀ x : Ex, x.size < 4611686018427387904 → ∀ s : St, Fun Tryd.prog n_ref3_deep [.agg (encEx x), .int .i64 (most : Int)] s (.int .i64 ((min x.depth (most + 1) : Nat) : Int)) s := by
  intro most
  induction most with
  | zero =>
    rintro _ ⟨op, m, name, kids⟩ hx s
    refine Fun.pure ?_ (by simp [D.oks, D.ok, okEx]) rfl s
    have hz : ((0 : Int) == 0) = true := rfl
    have e : min (Ex.depth ⟨op, m, name, kids⟩) (0 + 1) = 1 := by simp only [Ex.depth]; omega
    rw [e]
    unfold S0
    refine Fun.go has_ref3_deep rfl fun B Q hB hQ => ?_
    have hlt : 0 < 1 := Nat.zero_lt_one
    have hget : 0 < 1 := Nat.zero_lt_one
    have hpu : 0 < 1 := Nat.zero_lt_one
    have hinc : 0 < 1 := Nat.zero_lt_one
    repeat' (first
 | simp only [go_sem, hlt, hget, hpu, hinc, Int.reduceLE, ↓reduceIte, reduceCtorEq, Nat.reduceEqDiff, Nat.reduceLeDiff, Nat.reduceAdd, Nat.reduceMul, Nat.reduceSub, Nat.reduceLT, hz]
 | (with_reducible first | refine CB_ofT (by assumption) fun hc => ?_ | refine CB_ofF (by assumption) fun hc => ?_ | refine CB_split (fun hc => ?_) fun hc => ?_) <;> (try simp only [hc, bs, ↓reduceIte] at h) <;> (try simp only [hc])
 | ((with_reducible first | refine leafR hQ ?_ | refine leafN hQ ?_); (try cases h); simp only [resL, oneD, Option.some.injEq, exists_eq_left', go_sem, hlt, hget, hpu, hinc, Int.reduceLE, ↓reduceIte, reduceCtorEq, Nat.reduceEqDiff, Nat.reduceLeDiff, Nat.reduceAdd, Nat.reduceMul, Nat.reduceSub, Nat.reduceLT, hz]; repeat' (first | exact Ok.out | with_reducible refine And.intro ?_ ?_ | (simp; done)))
 | (cases h; replace h := hr; clear hr; (try simp only [bs, ↓reduceIte] at h))
 | (cases h; done))
  | succ most ih =>
    rintro hmost ⟨op, m, name, kids⟩ hx s
    refine Fun.pure ?_ (by simp [D.oks, D.ok, okEx]) rfl s
    have hlen : kids.length < 4611686018427387904 := by simp only [Ex.size] at hx; have := Ex.sizes_len kids; omega
    have hk : ∀ y ∈ kids, ∀ s, Fun Tryd.prog n_ref3_deep [.agg (encEx y), .int .i64 (most : Int)] s (.int .i64 ((min y.depth (most + 1) : Nat) : Int)) s := fun y hy s =>
      ih (by omega) y (by simp only [Ex.size] at hx; have := Ex.sizes_mem hy; omega) s
    have hz : (((most + 1 : Nat) : Int) == 0) = false := by simp; omega
    have w1 : IntKind.wrap .i64 (((most + 1 : Nat) : Int) - 1) = (most : Int) := by rw [wrap_ok] <;> omega
    unfold S0
    refine Fun.go has_ref3_deep rfl fun B Q hB hQ => ?_
    have hlt : 0 < 1 := Nat.zero_lt_one
    have hget : 0 < 1 := Nat.zero_lt_one
    have hpu : 0 < 1 := Nat.zero_lt_one
    have hinc : 0 < 1 := Nat.zero_lt_one
    repeat' (first
 | simp only [go_sem, hlt, hget, hpu, hinc, Int.reduceLE, ↓reduceIte, reduceCtorEq, Nat.reduceEqDiff, Nat.reduceLeDiff, Nat.reduceAdd, Nat.reduceMul, Nat.reduceSub, Nat.reduceLT, hz]
 | (with_reducible first | refine CB_ofT (by assumption) fun hc => ?_ | refine CB_ofF (by assumption) fun hc => ?_ | refine CB_split (fun hc => ?_) fun hc => ?_) <;> (try simp only [hc, bs, ↓reduceIte] at h) <;> (try simp only [hc])
 | ((with_reducible first | refine leafR hQ ?_ | refine leafN hQ ?_); (try cases h); simp only [resL, oneD, Option.some.injEq, exists_eq_left', go_sem, hlt, hget, hpu, hinc, Int.reduceLE, ↓reduceIte, reduceCtorEq, Nat.reduceEqDiff, Nat.reduceLeDiff, Nat.reduceAdd, Nat.reduceMul, Nat.reduceSub, Nat.reduceLT, hz]; repeat' (first | exact Ok.out | with_reducible refine And.intro ?_ ?_ | (simp; done)))
 | (cases h; replace h := hr; clear hr; (try simp only [bs, ↓reduceIte] at h))
 | (cases h; done))
    refine SemL.re _ _ 1 0 (by rw [hB]; exact Nat.le_of_ble_eq_true rfl) (by rw [hB]; exact Nat.le_of_ble_eq_true rfl) ?_ ?_ (SemL.ind (ι := List Ex × Nat × Nat) (fun i => kids.drop i.2.1 = i.1 ∧ i.2.2 ≤ most + 1 ∧ min (max i.2.2 (Ex.depths i.1)) (most + 1) = min (Ex.depths kids) (most + 1)) (fun i => i.1.length)
      (fun i => [(1, .int .i64 ((most + 1 : Nat) : Int)), (2, .ptr 0 0), (5, .int .i64 (i.2.2 : Int)), (6, .int .i64 (i.2.1 : Int))]) (fun i => ⟨[encEx ⟨op, m, name, kids⟩], []⟩) ?_ (kids, 0, 0) ⟨rfl, Nat.zero_le _, by simp⟩)
    · (simp only [go_sem, hlt, hget, hpu, hinc, Int.reduceLE, ↓reduceIte, reduceCtorEq, Nat.reduceEqDiff, Nat.reduceLeDiff, Nat.reduceAdd, Nat.reduceMul, Nat.reduceSub, Nat.reduceLT]; repeat' (first | exact Ok.out | with_reducible refine And.intro ?_ ?_))
    · (simp only [go_sem, hlt, hget, hpu, hinc, Int.reduceLE, ↓reduceIte, reduceCtorEq, Nat.reduceEqDiff, Nat.reduceLeDiff, Nat.reduceAdd, Nat.reduceMul, Nat.reduceSub, Nat.reduceLT]; repeat' (first | exact Ok.out | with_reducible refine And.intro ?_ ?_))
    rintro ⟨rest, k, d⟩ ⟨h1, h2, h3⟩ IH
    dsimp only at h1 h2 h3
    have hd : min (Ex.depth ⟨op, m, name, kids⟩) (most + 1 + 1) = min (Ex.depths kids) (most + 1) + 1 := by simp only [Ex.depth]; omega
    rw [hd, ← h3] at hQ
    have w2 : IntKind.wrap .i64 ((d : Int) + 1) = ((d + 1 : Nat) : Int) := by rw [wrap_ok] <;> omega
    by_cases hmax : d < most + 1
    · have c2 : decide ((d : Int) < ((most + 1 : Nat) : Int)) = true := by simp; omega
      cases rest with
      | nil =>
        have hlt := drop_nil h1
        simp only [Ex.depths, Nat.max_zero] at hQ
        have e : min d (most + 1) = d := by omega
        rw [e] at hQ
        repeat' (first
 | simp only [go_sem, hlt, hget, hpu, hinc, Int.reduceLE, ↓reduceIte, reduceCtorEq, Nat.reduceEqDiff, Nat.reduceLeDiff, Nat.reduceAdd, Nat.reduceMul, Nat.reduceSub, Nat.reduceLT, c2, w2]
 | (with_reducible first | refine CB_ofT (by assumption) fun hc => ?_ | refine CB_ofF (by assumption) fun hc => ?_ | refine CB_split (fun hc => ?_) fun hc => ?_) <;> (try simp only [hc, bs, ↓reduceIte] at h) <;> (try simp only [hc])
 | ((with_reducible first | refine leafR hQ ?_ | refine leafN hQ ?_); (try cases h); simp only [resL, oneD, Option.some.injEq, exists_eq_left', go_sem, hlt, hget, hpu, hinc, Int.reduceLE, ↓reduceIte, reduceCtorEq, Nat.reduceEqDiff, Nat.reduceLeDiff, Nat.reduceAdd, Nat.reduceMul, Nat.reduceSub, Nat.reduceLT, c2, w2]; repeat' (first | exact Ok.out | with_reducible refine And.intro ?_ ?_ | (simp; done)))
 | (cases h; replace h := hr; clear hr; (try simp only [bs, ↓reduceIte] at h))
 | (cases h; done))
      | cons y rest =>
        obtain ⟨hget, g2, hlt, g4⟩ := drop_cons h1
        have hy := hk y (List.mem_of_getElem? hget)
        simp only [Ex.depths] at h3
        have hk2 : k < 4611686018427387904 := by omega
        by_cases hgt : min y.depth (most + 1) > d
        · have c3 : decide (((min y.depth (most + 1) : Nat) : Int) > (d : Int)) = true := by simp only [decide_eq_true_eq]; omega
          repeat' (first
 | simp only [go_sem, hlt, hget, hpu, hinc, Int.reduceLE, ↓reduceIte, reduceCtorEq, Nat.reduceEqDiff, Nat.reduceLeDiff, Nat.reduceAdd, Nat.reduceMul, Nat.reduceSub, Nat.reduceLT, c2, w1, c3]
 | (with_reducible refine CU (hy _) ?_)
 | (with_reducible first | refine CB_ofT (by assumption) fun hc => ?_ | refine CB_ofF (by assumption) fun hc => ?_ | refine CB_split (fun hc => ?_) fun hc => ?_) <;> (try simp only [hc, bs, ↓reduceIte] at h) <;> (try simp only [hc])
 | ((with_reducible first | refine leafR hQ ?_ | refine leafN hQ ?_); (try cases h); simp only [resL, oneD, Option.some.injEq, exists_eq_left', go_sem, hlt, hget, hpu, hinc, Int.reduceLE, ↓reduceIte, reduceCtorEq, Nat.reduceEqDiff, Nat.reduceLeDiff, Nat.reduceAdd, Nat.reduceMul, Nat.reduceSub, Nat.reduceLT, c2, w1, c3]; repeat' (first | exact Ok.out | with_reducible refine And.intro ?_ ?_ | (simp; done)))
 | (cases h; replace h := hr; clear hr; (try simp only [bs, ↓reduceIte] at h))
 | (cases h; done))
          refine SemL.re _ _ 1 0 (by rw [hB]; exact Nat.le_of_ble_eq_true rfl) (by rw [hB]; exact Nat.le_of_ble_eq_true rfl) ?_ ?_ (IH (rest, k + 1, min y.depth (most + 1)) ⟨g2, by dsimp only; omega, by dsimp only; omega⟩ (Nat.lt_succ_self _))
          · (simp only [go_sem, hlt, hget, hpu, hinc, Int.reduceLE, ↓reduceIte, reduceCtorEq, Nat.reduceEqDiff, Nat.reduceLeDiff, Nat.reduceAdd, Nat.reduceMul, Nat.reduceSub, Nat.reduceLT, wrap_inc hk2]; repeat' (first | exact Ok.out | with_reducible refine And.intro ?_ ?_))
          · (simp only [go_sem, hlt, hget, hpu, hinc, Int.reduceLE, ↓reduceIte, reduceCtorEq, Nat.reduceEqDiff, Nat.reduceLeDiff, Nat.reduceAdd, Nat.reduceMul, Nat.reduceSub, Nat.reduceLT, wrap_inc hk2]; repeat' (first | exact Ok.out | with_reducible refine And.intro ?_ ?_))
        · have c3 : decide (((min y.depth (most + 1) : Nat) : Int) > (d : Int)) = false := by simp only [decide_eq_false_iff_not]; omega
          repeat' (first
 | simp only [go_sem, hlt, hget, hpu, hinc, Int.reduceLE, ↓reduceIte, reduceCtorEq, Nat.reduceEqDiff, Nat.reduceLeDiff, Nat.reduceAdd, Nat.reduceMul, Nat.reduceSub, Nat.reduceLT, c2, w1, c3]
 | (with_reducible refine CU (hy _) ?_)
 | (with_reducible first | refine CB_ofT (by assumption) fun hc => ?_ | refine CB_ofF (by assumption) fun hc => ?_ | refine CB_split (fun hc => ?_) fun hc => ?_) <;> (try simp only [hc, bs, ↓reduceIte] at h) <;> (try simp only [hc])
 | ((with_reducible first | refine leafR hQ ?_ | refine leafN hQ ?_); (try cases h); simp only [resL, oneD, Option.some.injEq, exists_eq_left', go_sem, hlt, hget, hpu, hinc, Int.reduceLE, ↓reduceIte, reduceCtorEq, Nat.reduceEqDiff, Nat.reduceLeDiff, Nat.reduceAdd, Nat.reduceMul, Nat.reduceSub, Nat.reduceLT, c2, w1, c3]; repeat' (first | exact Ok.out | with_reducible refine And.intro ?_ ?_ | (simp; done)))
 | (cases h; replace h := hr; clear hr; (try simp only [bs, ↓reduceIte] at h))
 | (cases h; done))
          refine SemL.re _ _ 1 0 (by rw [hB]; exact Nat.le_of_ble_eq_true rfl) (by rw [hB]; exact Nat.le_of_ble_eq_true rfl) ?_ ?_ (IH (rest, k + 1, d) ⟨g2, h2, by dsimp only; omega⟩ (Nat.lt_succ_self _))
          · (simp only [go_sem, hlt, hget, hpu, hinc, Int.reduceLE, ↓reduceIte, reduceCtorEq, Nat.reduceEqDiff, Nat.reduceLeDiff, Nat.reduceAdd, Nat.reduceMul, Nat.reduceSub, Nat.reduceLT, wrap_inc hk2]; repeat' (first | exact Ok.out | with_reducible refine And.intro ?_ ?_))
          · (simp only [go_sem, hlt, hget, hpu, hinc, Int.reduceLE, ↓reduceIte, reduceCtorEq, Nat.reduceEqDiff, Nat.reduceLeDiff, Nat.reduceAdd, Nat.reduceMul, Nat.reduceSub, Nat.reduceLT, wrap_inc hk2]; repeat' (first | exact Ok.out | with_reducible refine And.intro ?_ ?_))
    · have c2 : decide ((d : Int) < ((most + 1 : Nat) : Int)) = false := by simp; omega
      have e : min (max d (Ex.depths rest)) (most + 1) = d := by omega
      rw [e] at hQ
      cases rest with
      | nil =>
        have hlt := drop_nil h1
        repeat' (first
 | simp only [go_sem, hlt, hget, hpu, hinc, Int.reduceLE, ↓reduceIte, reduceCtorEq, Nat.reduceEqDiff, Nat.reduceLeDiff, Nat.reduceAdd, Nat.reduceMul, Nat.reduceSub, Nat.reduceLT, c2, w2]
 | (with_reducible first | refine CB_ofT (by assumption) fun hc => ?_ | refine CB_ofF (by assumption) fun hc => ?_ | refine CB_split (fun hc => ?_) fun hc => ?_) <;> (try simp only [hc, bs, ↓reduceIte] at h) <;> (try simp only [hc])
 | ((with_reducible first | refine leafR hQ ?_ | refine leafN hQ ?_); (try cases h); simp only [resL, oneD, Option.some.injEq, exists_eq_left', go_sem, hlt, hget, hpu, hinc, Int.reduceLE, ↓reduceIte, reduceCtorEq, Nat.reduceEqDiff, Nat.reduceLeDiff, Nat.reduceAdd, Nat.reduceMul, Nat.reduceSub, Nat.reduceLT, c2, w2]; repeat' (first | exact Ok.out | with_reducible refine And.intro ?_ ?_ | (simp; done)))
 | (cases h; replace h := hr; clear hr; (try simp only [bs, ↓reduceIte] at h))
 | (cases h; done))
      | cons y rest =>
        obtain ⟨hget, g2, hlt, g4⟩ := drop_cons h1
        repeat' (first
 | simp only [go_sem, hlt, hget, hpu, hinc, Int.reduceLE, ↓reduceIte, reduceCtorEq, Nat.reduceEqDiff, Nat.reduceLeDiff, Nat.reduceAdd, Nat.reduceMul, Nat.reduceSub, Nat.reduceLT, c2, w2]
 | (with_reducible first | refine CB_ofT (by assumption) fun hc => ?_ | refine CB_ofF (by assumption) fun hc => ?_ | refine CB_split (fun hc => ?_) fun hc => ?_) <;> (try simp only [hc, bs, ↓reduceIte] at h) <;> (try simp only [hc])
 | ((with_reducible first | refine leafR hQ ?_ | refine leafN hQ ?_); (try cases h); simp only [resL, oneD, Option.some.injEq, exists_eq_left', go_sem, hlt, hget, hpu, hinc, Int.reduceLE, ↓reduceIte, reduceCtorEq, Nat.reduceEqDiff, Nat.reduceLeDiff, Nat.reduceAdd, Nat.reduceMul, Nat.reduceSub, Nat.reduceLT, c2, w2]; repeat' (first | exact Ok.out | with_reducible refine And.intro ?_ ?_ | (simp; done)))
 | (cases h; replace h := hr; clear hr; (try simp only [bs, ↓reduceIte] at h))
 | (cases h; done))

end Go.Abs

/-! RefMay1 -/

namespace Go.Abs

set_option maxRecDepth 8000
set_option linter.unusedSimpArgs false
set_option linter.unusedVariables false
open Go.Proofs

theorem RName_s (text : Str) (hl : text.length < 4611686018427387904) (s : St) : Fun Tryd.prog n_ref1_Name [.str text] s (.bool (isName text)) s := by
  refine Fun.pure ?_ rfl rfl s
  unfold S0
  cases text with
  | nil =>
    have e : (([] : Str) == []) = true := rfl
    refine Fun.go has_ref1_Name rfl fun B Q hB hQ => ?_
    have hlt : 0 < 1 := Nat.zero_lt_one
    have hget : 0 < 1 := Nat.zero_lt_one
    have hpu : 0 < 1 := Nat.zero_lt_one
    have hinc : 0 < 1 := Nat.zero_lt_one
    repeat' (first
 | simp only [go_sem, hlt, hget, hpu, hinc, Int.reduceLE, ↓reduceIte, reduceCtorEq, Nat.reduceEqDiff, Nat.reduceLeDiff, Nat.reduceAdd, Nat.reduceMul, Nat.reduceSub, Nat.reduceLT, e, isName]
 | (with_reducible first | refine CB_ofT (by assumption) fun hc => ?_ | refine CB_ofF (by assumption) fun hc => ?_ | refine CB_split (fun hc => ?_) fun hc => ?_) <;> (try simp only [hc, bs, ↓reduceIte] at h) <;> (try simp only [hc])
 | ((with_reducible first | refine leafR hQ ?_ | refine leafN hQ ?_); (try cases h); simp only [resL, oneD, Option.some.injEq, exists_eq_left', go_sem, hlt, hget, hpu, hinc, Int.reduceLE, ↓reduceIte, reduceCtorEq, Nat.reduceEqDiff, Nat.reduceLeDiff, Nat.reduceAdd, Nat.reduceMul, Nat.reduceSub, Nat.reduceLT, e, isName]; repeat' (first | exact Ok.out | with_reducible refine And.intro ?_ ?_ | (simp; done)))
 | (cases h; replace h := hr; clear hr; (try simp only [bs, ↓reduceIte] at h))
 | (cases h; done))
  | cons c r =>
    have e : ((c :: r) == []) = false := rfl
    generalize h : isName (c :: r) = p
    simp only [isName] at h
    refine Fun.go has_ref1_Name rfl fun B Q hB hQ => ?_
    have hlt : 0 < 1 := Nat.zero_lt_one
    have hget : 0 < 1 := Nat.zero_lt_one
    have hpu : 0 < 1 := Nat.zero_lt_one
    have hinc : 0 < 1 := Nat.zero_lt_one
    repeat' (first
 | simp only [go_sem, hlt, hget, hpu, hinc, Int.reduceLE, ↓reduceIte, reduceCtorEq, Nat.reduceEqDiff, Nat.reduceLeDiff, Nat.reduceAdd, Nat.reduceMul, Nat.reduceSub, Nat.reduceLT, e]
 | (with_reducible refine CU (Rsmall_s _ _) ?_)
 | (with_reducible first | refine CB_ofT (by assumption) fun hc => ?_ | refine CB_ofF (by assumption) fun hc => ?_ | refine CB_split (fun hc => ?_) fun hc => ?_) <;> (try simp only [hc, bs, ↓reduceIte] at h) <;> (try simp only [hc])
 | ((with_reducible first | refine leafR hQ ?_ | refine leafN hQ ?_); (try cases h); simp only [resL, oneD, Option.some.injEq, exists_eq_left', go_sem, hlt, hget, hpu, hinc, Int.reduceLE, ↓reduceIte, reduceCtorEq, Nat.reduceEqDiff, Nat.reduceLeDiff, Nat.reduceAdd, Nat.reduceMul, Nat.reduceSub, Nat.reduceLT, e]; repeat' (first | exact Ok.out | with_reducible refine And.intro ?_ ?_ | (simp; done)))
 | (cases h; replace h := hr; clear hr; (try simp only [bs, ↓reduceIte] at h))
 | (cases h; done))
    refine SemL.re _ _ 0 0 (by rw [hB]; exact Nat.le_of_ble_eq_true rfl) (by rw [hB]; exact Nat.le_of_ble_eq_true rfl) ?_ ?_ (SemL.ind (ι := Str × Nat) (fun i => (c :: r).drop i.2 = i.1 ∧ (if nameT i.1 then !(isWord (c :: r)) else false) = p) (fun i => i.1.length)
      (fun i => [(0, .str (c :: r)), (3, .int .i64 (i.2 : Int))]) (fun i => ⟨[], []⟩) ?_ (r, 1) ⟨rfl, h⟩)
    · (simp only [go_sem, hlt, hget, hpu, hinc, Int.reduceLE, ↓reduceIte, reduceCtorEq, Nat.reduceEqDiff, Nat.reduceLeDiff, Nat.reduceAdd, Nat.reduceMul, Nat.reduceSub, Nat.reduceLT]; repeat' (first | exact Ok.out | with_reducible refine And.intro ?_ ?_))
    · (simp only [go_sem, hlt, hget, hpu, hinc, Int.reduceLE, ↓reduceIte, reduceCtorEq, Nat.reduceEqDiff, Nat.reduceLeDiff, Nat.reduceAdd, Nat.reduceMul, Nat.reduceSub, Nat.reduceLT]; repeat' (first | exact Ok.out | with_reducible refine And.intro ?_ ?_))
    rintro ⟨rest, k⟩ ⟨h1, h⟩ IH
    dsimp only at h1 h
    cases rest with
    | nil =>
      have hlt := drop_nil h1
      simp only [List.length_cons] at hlt
      simp only [nameT, ↓reduceIte] at h
      repeat' (first
 | simp only [go_sem, hlt, hget, hpu, hinc, Int.reduceLE, ↓reduceIte, reduceCtorEq, Nat.reduceEqDiff, Nat.reduceLeDiff, Nat.reduceAdd, Nat.reduceMul, Nat.reduceSub, Nat.reduceLT]
 | (with_reducible refine CU (RWord_s _ _) ?_)
 | (with_reducible first | refine CB_ofT (by assumption) fun hc => ?_ | refine CB_ofF (by assumption) fun hc => ?_ | refine CB_split (fun hc => ?_) fun hc => ?_) <;> (try simp only [hc, bs, ↓reduceIte] at h) <;> (try simp only [hc])
 | ((with_reducible first | refine leafR hQ ?_ | refine leafN hQ ?_); (try cases h); simp only [resL, oneD, Option.some.injEq, exists_eq_left', go_sem, hlt, hget, hpu, hinc, Int.reduceLE, ↓reduceIte, reduceCtorEq, Nat.reduceEqDiff, Nat.reduceLeDiff, Nat.reduceAdd, Nat.reduceMul, Nat.reduceSub, Nat.reduceLT]; repeat' (first | exact Ok.out | with_reducible refine And.intro ?_ ?_ | (simp; done)))
 | (cases h; replace h := hr; clear hr; (try simp only [bs, ↓reduceIte] at h))
 | (cases h; done))
    | cons d rest =>
      obtain ⟨hget, g2, hlt, g4⟩ := drop_cons h1
      simp only [List.length_cons] at hlt
      have hpu : k < 4611686018427387904 := by omega
      simp only [nameT] at h
      repeat' (first
 | simp only [go_sem, hlt, hget, hpu, hinc, Int.reduceLE, ↓reduceIte, reduceCtorEq, Nat.reduceEqDiff, Nat.reduceLeDiff, Nat.reduceAdd, Nat.reduceMul, Nat.reduceSub, Nat.reduceLT]
 | (with_reducible refine CU (Rsmall_s _ _) ?_)
 | (with_reducible refine CU (Rdigit_s _ _) ?_)
 | (with_reducible first | refine CB_ofT (by assumption) fun hc => ?_ | refine CB_ofF (by assumption) fun hc => ?_ | refine CB_split (fun hc => ?_) fun hc => ?_) <;> (try simp only [hc, bs, ↓reduceIte] at h) <;> (try simp only [hc])
 | ((with_reducible first | refine leafR hQ ?_ | refine leafN hQ ?_); (try cases h); simp only [resL, oneD, Option.some.injEq, exists_eq_left', go_sem, hlt, hget, hpu, hinc, Int.reduceLE, ↓reduceIte, reduceCtorEq, Nat.reduceEqDiff, Nat.reduceLeDiff, Nat.reduceAdd, Nat.reduceMul, Nat.reduceSub, Nat.reduceLT]; repeat' (first | exact Ok.out | with_reducible refine And.intro ?_ ?_ | (simp; done)))
 | (cases h; replace h := hr; clear hr; (try simp only [bs, ↓reduceIte] at h))
 | (cases h; done))
      all_goals
        refine SemL.re _ _ 0 0 (by rw [hB]; exact Nat.le_of_ble_eq_true rfl) (by rw [hB]; exact Nat.le_of_ble_eq_true rfl) ?_ ?_ (IH (rest, k + 1) ⟨g2, h⟩ (Nat.lt_succ_self _))
        · (simp only [go_sem, hlt, hget, hpu, hinc, Int.reduceLE, ↓reduceIte, reduceCtorEq, Nat.reduceEqDiff, Nat.reduceLeDiff, Nat.reduceAdd, Nat.reduceMul, Nat.reduceSub, Nat.reduceLT]; repeat' (first | exact Ok.out | with_reducible refine And.intro ?_ ?_))
        · (simp only [go_sem, hlt, hget, hpu, hinc, Int.reduceLE, ↓reduceIte, reduceCtorEq, Nat.reduceEqDiff, Nat.reduceLeDiff, Nat.reduceAdd, Nat.reduceMul, Nat.reduceSub, Nat.reduceLT]; repeat' (first | exact Ok.out | with_reducible refine And.intro ?_ ?_))

theorem Arity_s (op : Int) (s : St) : Fun Tryd.prog n_ref3_Arity [.int .i64 op] s (.int .i64 (arityI op)) s := by
  refine Fun.pure ?_ rfl rfl s
  unfold S0
  generalize h : arityI op = p
  unfold arityI at h
  refine Fun.go has_ref3_Arity rfl fun B Q hB hQ => ?_
  have hlt : 0 < 1 := Nat.zero_lt_one
  have hget : 0 < 1 := Nat.zero_lt_one
  have hpu : 0 < 1 := Nat.zero_lt_one
  have hinc : 0 < 1 := Nat.zero_lt_one
  repeat' (first
 | simp only [go_sem, hlt, hget, hpu, hinc, Int.reduceLE, ↓reduceIte, reduceCtorEq, Nat.reduceEqDiff, Nat.reduceLeDiff, Nat.reduceAdd, Nat.reduceMul, Nat.reduceSub, Nat.reduceLT]
 | (with_reducible first | refine CB_ofT (by assumption) fun hc => ?_ | refine CB_ofF (by assumption) fun hc => ?_ | refine CB_split (fun hc => ?_) fun hc => ?_) <;> (try simp only [hc, bs, ↓reduceIte] at h) <;> (try simp only [hc])
 | ((with_reducible first | refine leafR hQ ?_ | refine leafN hQ ?_); (try cases h); simp only [resL, oneD, Option.some.injEq, exists_eq_left', go_sem, hlt, hget, hpu, hinc, Int.reduceLE, ↓reduceIte, reduceCtorEq, Nat.reduceEqDiff, Nat.reduceLeDiff, Nat.reduceAdd, Nat.reduceMul, Nat.reduceSub, Nat.reduceLT]; repeat' (first | exact Ok.out | with_reducible refine And.intro ?_ ?_ | (simp; done)))
 | (cases h; replace h := hr; clear hr; (try simp only [bs, ↓reduceIte] at h))
 | (cases h; done))

theorem names_s' {l : List Str} (hl : l.length < 4611686018427387904) (hs : ∀ t ∈ l, t.length < 4611686018427387904) (s : St) : Fun Tryd.prog n_ref3_names [.slice .shared 1 (l.map encStr)] s (.bool (mayNames l)) s := by
  refine Fun.pure ?_ (by simp [D.oks, D.ok, okrStr, Tag.ok]) rfl s
  unfold S0
  generalize h : mayNames l = p
  refine Fun.go has_ref3_names rfl fun B Q hB hQ => ?_
  have hlt : 0 < 1 := Nat.zero_lt_one
  have hget : 0 < 1 := Nat.zero_lt_one
  have hpu : 0 < 1 := Nat.zero_lt_one
  have hinc : 0 < 1 := Nat.zero_lt_one
  repeat' (first
 | simp only [go_sem, hlt, hget, hpu, hinc, Int.reduceLE, ↓reduceIte, reduceCtorEq, Nat.reduceEqDiff, Nat.reduceLeDiff, Nat.reduceAdd, Nat.reduceMul, Nat.reduceSub, Nat.reduceLT]
 | (with_reducible first | refine CB_ofT (by assumption) fun hc => ?_ | refine CB_ofF (by assumption) fun hc => ?_ | refine CB_split (fun hc => ?_) fun hc => ?_) <;> (try simp only [hc, bs, ↓reduceIte] at h) <;> (try simp only [hc])
 | ((with_reducible first | refine leafR hQ ?_ | refine leafN hQ ?_); (try cases h); simp only [resL, oneD, Option.some.injEq, exists_eq_left', go_sem, hlt, hget, hpu, hinc, Int.reduceLE, ↓reduceIte, reduceCtorEq, Nat.reduceEqDiff, Nat.reduceLeDiff, Nat.reduceAdd, Nat.reduceMul, Nat.reduceSub, Nat.reduceLT]; repeat' (first | exact Ok.out | with_reducible refine And.intro ?_ ?_ | (simp; done)))
 | (cases h; replace h := hr; clear hr; (try simp only [bs, ↓reduceIte] at h))
 | (cases h; done))
  refine SemL.re _ _ 0 0 (by rw [hB]; exact Nat.le_of_ble_eq_true rfl) (by rw [hB]; exact Nat.le_of_ble_eq_true rfl) ?_ ?_ (SemL.ind (ι := List Str × Nat) (fun i => l.drop i.2 = i.1 ∧ mayNames i.1 = p) (fun i => i.1.length)
    (fun i => [(5, .slice .shared 1 (l.map encStr)), (6, .int .i64 (l.length : Int)), (7, .int .i64 (i.2 : Int))]) (fun i => ⟨[], []⟩) ?_ (l, 0) ⟨rfl, h⟩)
  · (simp only [go_sem, hlt, hget, hpu, hinc, Int.reduceLE, ↓reduceIte, reduceCtorEq, Nat.reduceEqDiff, Nat.reduceLeDiff, Nat.reduceAdd, Nat.reduceMul, Nat.reduceSub, Nat.reduceLT]; repeat' (first | exact Ok.out | with_reducible refine And.intro ?_ ?_))
  · (simp only [go_sem, hlt, hget, hpu, hinc, Int.reduceLE, ↓reduceIte, reduceCtorEq, Nat.reduceEqDiff, Nat.reduceLeDiff, Nat.reduceAdd, Nat.reduceMul, Nat.reduceSub, Nat.reduceLT]; repeat' (first | exact Ok.out | with_reducible refine And.intro ?_ ?_))
  rintro ⟨rest, k⟩ ⟨h1, h⟩ IH
  dsimp only at h1 h
  cases rest with
  | nil =>
    have hlt := drop_nil h1
    simp only [mayNames] at h
    repeat' (first
 | simp only [go_sem, hlt, hget, hpu, hinc, Int.reduceLE, ↓reduceIte, reduceCtorEq, Nat.reduceEqDiff, Nat.reduceLeDiff, Nat.reduceAdd, Nat.reduceMul, Nat.reduceSub, Nat.reduceLT]
 | (with_reducible first | refine CB_ofT (by assumption) fun hc => ?_ | refine CB_ofF (by assumption) fun hc => ?_ | refine CB_split (fun hc => ?_) fun hc => ?_) <;> (try simp only [hc, bs, ↓reduceIte] at h) <;> (try simp only [hc])
 | ((with_reducible first | refine leafR hQ ?_ | refine leafN hQ ?_); (try cases h); simp only [resL, oneD, Option.some.injEq, exists_eq_left', go_sem, hlt, hget, hpu, hinc, Int.reduceLE, ↓reduceIte, reduceCtorEq, Nat.reduceEqDiff, Nat.reduceLeDiff, Nat.reduceAdd, Nat.reduceMul, Nat.reduceSub, Nat.reduceLT]; repeat' (first | exact Ok.out | with_reducible refine And.intro ?_ ?_ | (simp; done)))
 | (cases h; replace h := hr; clear hr; (try simp only [bs, ↓reduceIte] at h))
 | (cases h; done))
  | cons t rest =>
    obtain ⟨hget, g2, hlt, g4⟩ := drop_cons h1
    have hpu : k < 4611686018427387904 := by omega
    have hn := RName_s t (hs t (List.mem_of_getElem? hget))
    simp only [mayNames] at h
    repeat' (first
 | simp only [go_sem, hlt, hget, hpu, hinc, Int.reduceLE, ↓reduceIte, reduceCtorEq, Nat.reduceEqDiff, Nat.reduceLeDiff, Nat.reduceAdd, Nat.reduceMul, Nat.reduceSub, Nat.reduceLT]
 | (with_reducible refine CU (hn _) ?_)
 | (with_reducible first | refine CB_ofT (by assumption) fun hc => ?_ | refine CB_ofF (by assumption) fun hc => ?_ | refine CB_split (fun hc => ?_) fun hc => ?_) <;> (try simp only [hc, bs, ↓reduceIte] at h) <;> (try simp only [hc])
 | ((with_reducible first | refine leafR hQ ?_ | refine leafN hQ ?_); (try cases h); simp only [resL, oneD, Option.some.injEq, exists_eq_left', go_sem, hlt, hget, hpu, hinc, Int.reduceLE, ↓reduceIte, reduceCtorEq, Nat.reduceEqDiff, Nat.reduceLeDiff, Nat.reduceAdd, Nat.reduceMul, Nat.reduceSub, Nat.reduceLT]; repeat' (first | exact Ok.out | with_reducible refine And.intro ?_ ?_ | (simp; done)))
 | (cases h; replace h := hr; clear hr; (try simp only [bs, ↓reduceIte] at h))
 | (cases h; done))
    refine SemL.re _ _ 0 0 (by rw [hB]; exact Nat.le_of_ble_eq_true rfl) (by rw [hB]; exact Nat.le_of_ble_eq_true rfl) ?_ ?_ (IH (rest, k + 1) ⟨g2, h⟩ (Nat.lt_succ_self _))
    · (simp only [go_sem, hlt, hget, hpu, hinc, Int.reduceLE, ↓reduceIte, reduceCtorEq, Nat.reduceEqDiff, Nat.reduceLeDiff, Nat.reduceAdd, Nat.reduceMul, Nat.reduceSub, Nat.reduceLT]; repeat' (first | exact Ok.out | with_reducible refine And.intro ?_ ?_))
    · (simp only [go_sem, hlt, hget, hpu, hinc, Int.reduceLE, ↓reduceIte, reduceCtorEq, Nat.reduceEqDiff, Nat.reduceLeDiff, Nat.reduceAdd, Nat.reduceMul, Nat.reduceSub, Nat.reduceLT]; repeat' (first | exact Ok.out | with_reducible refine And.intro ?_ ?_))

theorem form_n : ∀ (n : Nat) (x : Ex), x.size ≤ n → x.size < 4611686018427387904 → x.texts → ∀ s : St, Fun Tryd.prog n_ref3_form [.agg (encEx x)] s (.bool x.form) s := by
  intro n
  induction n with
  | zero => rintro ⟨op, m, name, kids⟩ h; simp only [Ex.size] at h; omega
  | succ n ih =>
    rintro ⟨op, m, name, kids⟩ h hx ht s
    refine Fun.pure ?_ (by simp [D.oks, D.ok, okEx]) rfl s
    have hlen : kids.length < 4611686018427387904 := by simp only [Ex.size] at hx; have := Ex.sizes_len kids; omega
    have hk : ∀ y ∈ kids, ∀ s, Fun Tryd.prog n_ref3_form [.agg (encEx y)] s (.bool y.form) s := fun y hy s =>
      ih y (by simp only [Ex.size] at h; have := Ex.sizes_mem hy; omega) (by simp only [Ex.size] at hx; have := Ex.sizes_mem hy; omega) (Ex.texts_mem ht hy) s
    have hn := RName_s name ht.1
    unfold S0
    generalize h : Ex.form ⟨op, m, name, kids⟩ = p
    simp only [Ex.form] at h
    refine Fun.go has_ref3_form rfl fun B Q hB hQ => ?_
    have hlt : 0 < 1 := Nat.zero_lt_one
    have hget : 0 < 1 := Nat.zero_lt_one
    have hpu : 0 < 1 := Nat.zero_lt_one
    have hinc : 0 < 1 := Nat.zero_lt_one
    repeat' (first
 | simp only [go_sem, hlt, hget, hpu, hinc, Int.reduceLE, ↓reduceIte, reduceCtorEq, Nat.reduceEqDiff, Nat.reduceLeDiff, Nat.reduceAdd, Nat.reduceMul, Nat.reduceSub, Nat.reduceLT]
 | (with_reducible refine CU (Arity_s _ _) ?_)
 | (with_reducible refine CU (hn _) ?_)
 | (with_reducible first | refine CB_ofT (by assumption) fun hc => ?_ | refine CB_ofF (by assumption) fun hc => ?_ | refine CB_split (fun hc => ?_) fun hc => ?_) <;> (try simp only [hc, bs, ↓reduceIte] at h) <;> (try simp only [hc])
 | ((with_reducible first | refine leafR hQ ?_ | refine leafN hQ ?_); (try cases h); simp only [resL, oneD, Option.some.injEq, exists_eq_left', go_sem, hlt, hget, hpu, hinc, Int.reduceLE, ↓reduceIte, reduceCtorEq, Nat.reduceEqDiff, Nat.reduceLeDiff, Nat.reduceAdd, Nat.reduceMul, Nat.reduceSub, Nat.reduceLT]; repeat' (first | exact Ok.out | with_reducible refine And.intro ?_ ?_ | (simp; done)))
 | (cases h; replace h := hr; clear hr; (try simp only [bs, ↓reduceIte] at h))
 | (cases h; done))
    all_goals
      refine SemL.re _ _ 1 0 (by rw [hB]; exact Nat.le_of_ble_eq_true rfl) (by rw [hB]; exact Nat.le_of_ble_eq_true rfl) ?_ ?_ (SemL.ind (ι := List Ex × Nat) (fun i => kids.drop i.2 = i.1 ∧ Ex.forms i.1 = p) (fun i => i.1.length)
        (fun i => [(1, .ptr 0 0), (48, .int .i64 (kids.length : Int)), (49, .int .i64 (i.2 : Int))]) (fun i => ⟨[encEx ⟨op, m, name, kids⟩], []⟩) ?_ (kids, 0) ⟨rfl, h⟩)
      · (simp only [go_sem, hlt, hget, hpu, hinc, Int.reduceLE, ↓reduceIte, reduceCtorEq, Nat.reduceEqDiff, Nat.reduceLeDiff, Nat.reduceAdd, Nat.reduceMul, Nat.reduceSub, Nat.reduceLT]; repeat' (first | exact Ok.out | with_reducible refine And.intro ?_ ?_))
      · (simp only [go_sem, hlt, hget, hpu, hinc, Int.reduceLE, ↓reduceIte, reduceCtorEq, Nat.reduceEqDiff, Nat.reduceLeDiff, Nat.reduceAdd, Nat.reduceMul, Nat.reduceSub, Nat.reduceLT]; repeat' (first | exact Ok.out | with_reducible refine And.intro ?_ ?_))
      rintro ⟨rest, k⟩ ⟨h1, h⟩ IH
      dsimp only at h1 h
      cases rest with
      | nil =>
        have hlt := drop_nil h1
        simp only [Ex.forms] at h
        repeat' (first
 | simp only [go_sem, hlt, hget, hpu, hinc, Int.reduceLE, ↓reduceIte, reduceCtorEq, Nat.reduceEqDiff, Nat.reduceLeDiff, Nat.reduceAdd, Nat.reduceMul, Nat.reduceSub, Nat.reduceLT]
 | (with_reducible first | refine CB_ofT (by assumption) fun hc => ?_ | refine CB_ofF (by assumption) fun hc => ?_ | refine CB_split (fun hc => ?_) fun hc => ?_) <;> (try simp only [hc, bs, ↓reduceIte] at h) <;> (try simp only [hc])
 | ((with_reducible first | refine leafR hQ ?_ | refine leafN hQ ?_); (try cases h); simp only [resL, oneD, Option.some.injEq, exists_eq_left', go_sem, hlt, hget, hpu, hinc, Int.reduceLE, ↓reduceIte, reduceCtorEq, Nat.reduceEqDiff, Nat.reduceLeDiff, Nat.reduceAdd, Nat.reduceMul, Nat.reduceSub, Nat.reduceLT]; repeat' (first | exact Ok.out | with_reducible refine And.intro ?_ ?_ | (simp; done)))
 | (cases h; replace h := hr; clear hr; (try simp only [bs, ↓reduceIte] at h))
 | (cases h; done))
      | cons y rest =>
        obtain ⟨hget, g2, hlt, g4⟩ := drop_cons h1
        have hy := hk y (List.mem_of_getElem? hget)
        have hpu : k < 4611686018427387904 := by omega
        simp only [Ex.forms] at h
        repeat' (first
 | simp only [go_sem, hlt, hget, hpu, hinc, Int.reduceLE, ↓reduceIte, reduceCtorEq, Nat.reduceEqDiff, Nat.reduceLeDiff, Nat.reduceAdd, Nat.reduceMul, Nat.reduceSub, Nat.reduceLT]
 | (with_reducible refine CU (hy _) ?_)
 | (with_reducible first | refine CB_ofT (by assumption) fun hc => ?_ | refine CB_ofF (by assumption) fun hc => ?_ | refine CB_split (fun hc => ?_) fun hc => ?_) <;> (try simp only [hc, bs, ↓reduceIte] at h) <;> (try simp only [hc])
 | ((with_reducible first | refine leafR hQ ?_ | refine leafN hQ ?_); (try cases h); simp only [resL, oneD, Option.some.injEq, exists_eq_left', go_sem, hlt, hget, hpu, hinc, Int.reduceLE, ↓reduceIte, reduceCtorEq, Nat.reduceEqDiff, Nat.reduceLeDiff, Nat.reduceAdd, Nat.reduceMul, Nat.reduceSub, Nat.reduceLT]; repeat' (first | exact Ok.out | with_reducible refine And.intro ?_ ?_ | (simp; done)))
 | (cases h; replace h := hr; clear hr; (try simp only [bs, ↓reduceIte] at h))
 | (cases h; done))
        refine SemL.re _ _ 1 0 (by rw [hB]; exact Nat.le_of_ble_eq_true rfl) (by rw [hB]; exact Nat.le_of_ble_eq_true rfl) ?_ ?_ (IH (rest, k + 1) ⟨g2, h⟩ (Nat.lt_succ_self _))
        · (simp only [go_sem, hlt, hget, hpu, hinc, Int.reduceLE, ↓reduceIte, reduceCtorEq, Nat.reduceEqDiff, Nat.reduceLeDiff, Nat.reduceAdd, Nat.reduceMul, Nat.reduceSub, Nat.reduceLT]; repeat' (first | exact Ok.out | with_reducible refine And.intro ?_ ?_))
        · (simp only [go_sem, hlt, hget, hpu, hinc, Int.reduceLE, ↓reduceIte, reduceCtorEq, Nat.reduceEqDiff, Nat.reduceLeDiff, Nat.reduceAdd, Nat.reduceMul, Nat.reduceSub, Nat.reduceLT]; repeat' (first | exact Ok.out | with_reducible refine And.intro ?_ ?_))

theorem MayExpr_s {x : Ex} (hx : x.size < 4611686018427387904) (ht : x.texts) (s : St) : Fun Tryd.prog n_ref3_MayExpr [.agg (encEx x)] s (.bool x.may) s := by
  refine Fun.pure ?_ (by simp [D.oks, D.ok, okEx]) rfl s
  have hd := fun s => deep_n 20 (by decide) x hx s
  have c20 : ((20 : Nat) : Int) = 20 := rfl
  rw [c20] at hd
  have hf := form_n _ x (Nat.le_refl _) hx ht
  unfold S0
  generalize h : Ex.may x = p
  unfold Ex.may at h
  refine Fun.go has_ref3_MayExpr rfl fun B Q hB hQ => ?_
  have hlt : 0 < 1 := Nat.zero_lt_one
  have hget : 0 < 1 := Nat.zero_lt_one
  have hpu : 0 < 1 := Nat.zero_lt_one
  have hinc : 0 < 1 := Nat.zero_lt_one
  repeat' (first
 | simp only [go_sem, hlt, hget, hpu, hinc, Int.reduceLE, ↓reduceIte, reduceCtorEq, Nat.reduceEqDiff, Nat.reduceLeDiff, Nat.reduceAdd, Nat.reduceMul, Nat.reduceSub, Nat.reduceLT]
 | (with_reducible refine CU (hd _) ?_)
 | (with_reducible refine CU (hf _) ?_)
 | (with_reducible first | refine CB_ofT (by assumption) fun hc => ?_ | refine CB_ofF (by assumption) fun hc => ?_ | refine CB_split (fun hc => ?_) fun hc => ?_) <;> (try simp only [hc, bs, ↓reduceIte] at h) <;> (try simp only [hc])
 | ((with_reducible first | refine leafR hQ ?_ | refine leafN hQ ?_); (try cases h); simp only [resL, oneD, Option.some.injEq, exists_eq_left', go_sem, hlt, hget, hpu, hinc, Int.reduceLE, ↓reduceIte, reduceCtorEq, Nat.reduceEqDiff, Nat.reduceLeDiff, Nat.reduceAdd, Nat.reduceMul, Nat.reduceSub, Nat.reduceLT]; repeat' (first | exact Ok.out | with_reducible refine And.intro ?_ ?_ | (simp; done)))
 | (cases h; replace h := hr; clear hr; (try simp only [bs, ↓reduceIte] at h))
 | (cases h; done))

theorem none_s (x : Ex) (s : St) : Fun Tryd.prog n_ref3_none [.agg (encEx x)] s (.bool x.none) s := by
  refine Fun.pure ?_ (by simp [D.oks, D.ok, okEx]) rfl s
  unfold S0
  generalize h : Ex.none x = p
  unfold Ex.none at h
  refine Fun.go has_ref3_none rfl fun B Q hB hQ => ?_
  have hlt : 0 < 1 := Nat.zero_lt_one
  have hget : 0 < 1 := Nat.zero_lt_one
  have hpu : 0 < 1 := Nat.zero_lt_one
  have hinc : 0 < 1 := Nat.zero_lt_one
  repeat' (first
 | simp only [go_sem, hlt, hget, hpu, hinc, Int.reduceLE, ↓reduceIte, reduceCtorEq, Nat.reduceEqDiff, Nat.reduceLeDiff, Nat.reduceAdd, Nat.reduceMul, Nat.reduceSub, Nat.reduceLT]
 | (with_reducible first | refine CB_ofT (by assumption) fun hc => ?_ | refine CB_ofF (by assumption) fun hc => ?_ | refine CB_split (fun hc => ?_) fun hc => ?_) <;> (try simp only [hc, bs, ↓reduceIte] at h) <;> (try simp only [hc])
 | ((with_reducible first | refine leafR hQ ?_ | refine leafN hQ ?_); (try cases h); simp only [resL, oneD, Option.some.injEq, exists_eq_left', go_sem, hlt, hget, hpu, hinc, Int.reduceLE, ↓reduceIte, reduceCtorEq, Nat.reduceEqDiff, Nat.reduceLeDiff, Nat.reduceAdd, Nat.reduceMul, Nat.reduceSub, Nat.reduceLT]; repeat' (first | exact Ok.out | with_reducible refine And.intro ?_ ?_ | (simp; done)))
 | (cases h; replace h := hr; clear hr; (try simp only [bs, ↓reduceIte] at h))
 | (cases h; done))

theorem arg_s {a : Ar} (hx : a.x.size < 4611686018427387904) (ht : a.x.texts) (hn : a.name.length < 4611686018427387904) (s : St) : Fun Tryd.prog n_ref3_arg [.agg (encAr a)] s (.bool a.may) s := by
  refine Fun.pure ?_ (by simp [D.oks, D.ok, okAr]) rfl s
  have hm := MayExpr_s hx ht
  have h1 := RName_s a.name hn
  unfold S0
  generalize h : Ar.may a = p
  simp only [Ar.may] at h
  refine Fun.go has_ref3_arg rfl fun B Q hB hQ => ?_
  have hlt : 0 < 1 := Nat.zero_lt_one
  have hget : 0 < 1 := Nat.zero_lt_one
  have hpu : 0 < 1 := Nat.zero_lt_one
  have hinc : 0 < 1 := Nat.zero_lt_one
  repeat' (first
 | simp only [go_sem, hlt, hget, hpu, hinc, Int.reduceLE, ↓reduceIte, reduceCtorEq, Nat.reduceEqDiff, Nat.reduceLeDiff, Nat.reduceAdd, Nat.reduceMul, Nat.reduceSub, Nat.reduceLT]
 | (with_reducible refine CU (hm _) ?_)
 | (with_reducible refine CU (h1 _) ?_)
 | (with_reducible refine CU (none_s _ _) ?_)
 | (with_reducible first | refine CB_ofT (by assumption) fun hc => ?_ | refine CB_ofF (by assumption) fun hc => ?_ | refine CB_split (fun hc => ?_) fun hc => ?_) <;> (try simp only [hc, bs, ↓reduceIte] at h) <;> (try simp only [hc])
 | ((with_reducible first | refine leafR hQ ?_ | refine leafN hQ ?_); (try cases h); simp only [resL, oneD, Option.some.injEq, exists_eq_left', go_sem, hlt, hget, hpu, hinc, Int.reduceLE, ↓reduceIte, reduceCtorEq, Nat.reduceEqDiff, Nat.reduceLeDiff, Nat.reduceAdd, Nat.reduceMul, Nat.reduceSub, Nat.reduceLT]; repeat' (first | exact Ok.out | with_reducible refine And.intro ?_ ?_ | (simp; done)))
 | (cases h; replace h := hr; clear hr; (try simp only [bs, ↓reduceIte] at h))
 | (cases h; done))

end Go.Abs

/-! Full1 -/

namespace Go.Abs

set_option maxRecDepth 8000
set_option linter.unusedSimpArgs false
set_option linter.unusedVariables false
open Go.Proofs

def weighT (t : Str) (n : Int) : Int := if n > 20000 then 20001 else if (t.length : Int) ≥ 20000 - n then 20001 else n + 1 + t.length
mutual
def weighE : Ex → Int → Int
  | ⟨_, _, name, kids⟩, n => weighEs kids (weighT name n)
def weighEs : List Ex → Int → Int
  | [], n => n
  | x :: l, n => if n ≤ 20000 then weighEs l (weighE x n) else n
end

theorem weighT_in {t : Str} {n : Int} (h0 : 0 ≤ n) : weighT t n ≤ 20001 ∧ (n ≤ 20000 → n + 1 ≤ weighT t n) ∧ 0 ≤ weighT t n ∧ (weighT t n ≤ 20000 → n + 1 + t.length = weighT t n) := by
  unfold weighT; split
  · omega
  · split <;> omega

theorem weigh_in : ∀ (m : Nat) (x : Ex), x.size ≤ m → ∀ n : Int, 0 ≤ n → weighE x n ≤ 20001 ∧ (n ≤ 20000 → n + 1 ≤ weighE x n) ∧ 0 ≤ weighE x n ∧ (weighE x n ≤ 20000 → (x.size : Int) + 1 ≤ 2 * (weighE x n - n) ∧ x.texts) := by
  intro m
  induction m with
  | zero => rintro ⟨op, v, name, kids⟩ h; simp only [Ex.size] at h; omega
  | succ m ih =>
    rintro ⟨op, v, name, kids⟩ h n h0
    simp only [Ex.size] at h
    obtain ⟨t1, t2, t3, t4⟩ := weighT_in (t := name) h0
    have go : ∀ (l : List Ex), Ex.sizes l ≤ m → ∀ c : Int, 0 ≤ c → c ≤ 20001 → weighEs l c ≤ 20001 ∧ c ≤ weighEs l c ∧ (weighEs l c ≤ 20000 → (Ex.sizes l : Int) ≤ 2 * (weighEs l c - c) ∧ Ex.textss l) := by
      intro l
      induction l with
      | nil => intro _ c h0 h1; simp only [weighEs, Ex.sizes]; exact ⟨h1, Int.le_refl _, fun _ => ⟨by omega, trivial⟩⟩
      | cons y l ihl =>
        intro hs c h0 h1
        simp only [Ex.sizes] at hs ⊢
        simp only [weighEs]
        split
        · rename_i hc
          obtain ⟨a1, a2, a3, a4⟩ := ih y (by omega) c h0
          obtain ⟨b1, b2, b3⟩ := ihl (by omega) (weighE y c) a3 a1
          have := a2 hc
          refine ⟨b1, by omega, fun hw => ?_⟩
          obtain ⟨c1, c2⟩ := b3 hw
          obtain ⟨d1, d2⟩ := a4 (by omega)
          exact ⟨by omega, d2, c2⟩
        · exact ⟨h1, Int.le_refl _, fun hw => by omega⟩
    obtain ⟨g1, g2, g3⟩ := go kids (by omega) (weighT name n) t3 t1
    simp only [weighE, Ex.size]
    refine ⟨g1, fun hn => by have := t2 hn; omega, by omega, fun hw => ?_⟩
    obtain ⟨k1, k2⟩ := g3 hw
    have := t4 (by omega)
    exact ⟨by omega, by omega, k2⟩

theorem weighT_s (t : Str) {n : Int} (h0 : 0 ≤ n) (h1 : n ≤ 20001) (s : St) : Fun Tryd.prog n_ref3_weighText [.str t, .int .i64 n] s (.int .i64 (weighT t n)) s := by
  refine Fun.pure ?_ rfl rfl s
  unfold S0
  have w1 : IntKind.wrap .i64 (20000 - n) = 20000 - n := wrap_ok (by omega) (by omega)
  have w2 : IntKind.wrap .i64 (n + 1) = n + 1 := wrap_ok (by omega) (by omega)
  by_cases c : n > 20000
  · have c1 : decide (n > 20000) = true := by simp; omega
    have e : weighT t n = 20001 := by simp [weighT, c]
    rw [e]
    refine Fun.go has_ref3_weighText rfl fun B Q hB hQ => ?_
    have hlt : 0 < 1 := Nat.zero_lt_one
    have hget : 0 < 1 := Nat.zero_lt_one
    have hpu : 0 < 1 := Nat.zero_lt_one
    have hinc : 0 < 1 := Nat.zero_lt_one
    repeat' (first
 | simp only [go_sem, hlt, hget, hpu, hinc, Int.reduceLE, ↓reduceIte, reduceCtorEq, Nat.reduceEqDiff, Nat.reduceLeDiff, Nat.reduceAdd, Nat.reduceMul, Nat.reduceSub, Nat.reduceLT, c1, w1, w2]
 | (with_reducible first | refine CB_ofT (by assumption) fun hc => ?_ | refine CB_ofF (by assumption) fun hc => ?_ | refine CB_split (fun hc => ?_) fun hc => ?_) <;> (try simp only [hc, bs, ↓reduceIte] at h) <;> (try simp only [hc])
 | ((with_reducible first | refine leafR hQ ?_ | refine leafN hQ ?_); (try cases h); simp only [resL, oneD, Option.some.injEq, exists_eq_left', go_sem, hlt, hget, hpu, hinc, Int.reduceLE, ↓reduceIte, reduceCtorEq, Nat.reduceEqDiff, Nat.reduceLeDiff, Nat.reduceAdd, Nat.reduceMul, Nat.reduceSub, Nat.reduceLT, c1, w1, w2]; repeat' (first | exact Ok.out | with_reducible refine And.intro ?_ ?_ | (simp; done)))
 | (cases h; replace h := hr; clear hr; (try simp only [bs, ↓reduceIte] at h))
 | (cases h; done))
  · have c1 : decide (n > 20000) = false := by simp; omega
    by_cases d : (t.length : Int) ≥ 20000 - n
    · have d1 : decide ((t.length : Int) ≥ 20000 - n) = true := by simp; omega
      have e : weighT t n = 20001 := by unfold weighT; rw [if_neg c, if_pos d]
      rw [e]
      refine Fun.go has_ref3_weighText rfl fun B Q hB hQ => ?_
      have hlt : 0 < 1 := Nat.zero_lt_one
      have hget : 0 < 1 := Nat.zero_lt_one
      have hpu : 0 < 1 := Nat.zero_lt_one
      have hinc : 0 < 1 := Nat.zero_lt_one
      repeat' (first
 | simp only [go_sem, hlt, hget, hpu, hinc, Int.reduceLE, ↓reduceIte, reduceCtorEq, Nat.reduceEqDiff, Nat.reduceLeDiff, Nat.reduceAdd, Nat.reduceMul, Nat.reduceSub, Nat.reduceLT, c1, d1, w1, w2]
 | (with_reducible first | refine CB_ofT (by assumption) fun hc => ?_ | refine CB_ofF (by assumption) fun hc => ?_ | refine CB_split (fun hc => ?_) fun hc => ?_) <;> (try simp only [hc, bs, ↓reduceIte] at h) <;> (try simp only [hc])
 | ((with_reducible first | refine leafR hQ ?_ | refine leafN hQ ?_); (try cases h); simp only [resL, oneD, Option.some.injEq, exists_eq_left', go_sem, hlt, hget, hpu, hinc, Int.reduceLE, ↓reduceIte, reduceCtorEq, Nat.reduceEqDiff, Nat.reduceLeDiff, Nat.reduceAdd, Nat.reduceMul, Nat.reduceSub, Nat.reduceLT, c1, d1, w1, w2]; repeat' (first | exact Ok.out | with_reducible refine And.intro ?_ ?_ | (simp; done)))
 | (cases h; replace h := hr; clear hr; (try simp only [bs, ↓reduceIte] at h))
 | (cases h; done))
    · have d1 : decide ((t.length : Int) ≥ 20000 - n) = false := by simp; omega
      have e : weighT t n = n + 1 + t.length := by unfold weighT; rw [if_neg c, if_neg d]
      have w3 : IntKind.wrap .i64 (n + 1 + t.length) = n + 1 + t.length := wrap_ok (by omega) (by omega)
      rw [e]
      refine Fun.go has_ref3_weighText rfl fun B Q hB hQ => ?_
      have hlt : 0 < 1 := Nat.zero_lt_one
      have hget : 0 < 1 := Nat.zero_lt_one
      have hpu : 0 < 1 := Nat.zero_lt_one
      have hinc : 0 < 1 := Nat.zero_lt_one
      repeat' (first
 | simp only [go_sem, hlt, hget, hpu, hinc, Int.reduceLE, ↓reduceIte, reduceCtorEq, Nat.reduceEqDiff, Nat.reduceLeDiff, Nat.reduceAdd, Nat.reduceMul, Nat.reduceSub, Nat.reduceLT, c1, d1, w1, w2, w3]
 | (with_reducible first | refine CB_ofT (by assumption) fun hc => ?_ | refine CB_ofF (by assumption) fun hc => ?_ | refine CB_split (fun hc => ?_) fun hc => ?_) <;> (try simp only [hc, bs, ↓reduceIte] at h) <;> (try simp only [hc])
 | ((with_reducible first | refine leafR hQ ?_ | refine leafN hQ ?_); (try cases h); simp only [resL, oneD, Option.some.injEq, exists_eq_left', go_sem, hlt, hget, hpu, hinc, Int.reduceLE, ↓reduceIte, reduceCtorEq, Nat.reduceEqDiff, Nat.reduceLeDiff, Nat.reduceAdd, Nat.reduceMul, Nat.reduceSub, Nat.reduceLT, c1, d1, w1, w2, w3]; repeat' (first | exact Ok.out | with_reducible refine And.intro ?_ ?_ | (simp; done)))
 | (cases h; replace h := hr; clear hr; (try simp only [bs, ↓reduceIte] at h))
 | (cases h; done))

theorem weighE_s : ∀ (m : Nat) (x : Ex), x.size ≤ m → ∀ {n : Int}, 0 ≤ n → n ≤ 20000 → ∀ s : St, Fun Tryd.prog n_ref3_weighExpr [.agg (encEx x), .int .i64 n] s (.int .i64 (weighE x n)) s := by
  intro m
  induction m with
  | zero => rintro ⟨op, v, name, kids⟩ h; simp only [Ex.size] at h; omega
  | succ m ih =>
    rintro ⟨op, v, name, kids⟩ hsz n h0 h1 s
    refine Fun.pure ?_ (by simp [D.oks, D.ok, okEx]) rfl s
    simp only [Ex.size] at hsz
    have hk : ∀ y ∈ kids, ∀ {n : Int}, 0 ≤ n → n ≤ 20000 → ∀ s : St, Fun Tryd.prog n_ref3_weighExpr [.agg (encEx y), .int .i64 n] s (.int .i64 (weighE y n)) s := fun y hy => ih y (by have := Ex.sizes_mem hy; omega)
    have ht := fun s => weighT_s name h0 (by omega) s
    obtain ⟨t1, t2, t3, t4⟩ := weighT_in (t := name) h0
    unfold S0
    generalize h : weighE ⟨op, v, name, kids⟩ n = p
    simp only [weighE] at h
    refine Fun.go has_ref3_weighExpr rfl fun B Q hB hQ => ?_
    have hlt : 0 < 1 := Nat.zero_lt_one
    have hget : 0 < 1 := Nat.zero_lt_one
    have hpu : 0 < 1 := Nat.zero_lt_one
    have hinc : 0 < 1 := Nat.zero_lt_one
    repeat' (first
 | simp only [go_sem, hlt, hget, hpu, hinc, Int.reduceLE, ↓reduceIte, reduceCtorEq, Nat.reduceEqDiff, Nat.reduceLeDiff, Nat.reduceAdd, Nat.reduceMul, Nat.reduceSub, Nat.reduceLT]
 | (with_reducible refine CU (ht _) ?_)
 | (with_reducible first | refine CB_ofT (by assumption) fun hc => ?_ | refine CB_ofF (by assumption) fun hc => ?_ | refine CB_split (fun hc => ?_) fun hc => ?_) <;> (try simp only [hc, bs, ↓reduceIte] at h) <;> (try simp only [hc])
 | ((with_reducible first | refine leafR hQ ?_ | refine leafN hQ ?_); (try cases h); simp only [resL, oneD, Option.some.injEq, exists_eq_left', go_sem, hlt, hget, hpu, hinc, Int.reduceLE, ↓reduceIte, reduceCtorEq, Nat.reduceEqDiff, Nat.reduceLeDiff, Nat.reduceAdd, Nat.reduceMul, Nat.reduceSub, Nat.reduceLT]; repeat' (first | exact Ok.out | with_reducible refine And.intro ?_ ?_ | (simp; done)))
 | (cases h; replace h := hr; clear hr; (try simp only [bs, ↓reduceIte] at h))
 | (cases h; done))
    refine SemL.re _ _ 1 0 (by rw [hB]; exact Nat.le_of_ble_eq_true rfl) (by rw [hB]; exact Nat.le_of_ble_eq_true rfl) ?_ ?_ (SemL.ind (ι := List Ex × Nat × Int) (fun i => kids.drop i.2.1 = i.1 ∧ weighEs i.1 i.2.2 = p ∧ (i.2.1 : Int) ≤ i.2.2 ∧ i.2.2 ≤ 20001) (fun i => i.1.length)
      (fun i => [(1, .int .i64 i.2.2), (2, .ptr 0 0), (5, .int .i64 (i.2.1 : Int))]) (fun i => ⟨[encEx ⟨op, v, name, kids⟩], []⟩) ?_ (kids, 0, weighT name n) ⟨rfl, h, t3, t1⟩)
    · (simp only [go_sem, hlt, hget, hpu, hinc, Int.reduceLE, ↓reduceIte, reduceCtorEq, Nat.reduceEqDiff, Nat.reduceLeDiff, Nat.reduceAdd, Nat.reduceMul, Nat.reduceSub, Nat.reduceLT]; repeat' (first | exact Ok.out | with_reducible refine And.intro ?_ ?_))
    · (simp only [go_sem, hlt, hget, hpu, hinc, Int.reduceLE, ↓reduceIte, reduceCtorEq, Nat.reduceEqDiff, Nat.reduceLeDiff, Nat.reduceAdd, Nat.reduceMul, Nat.reduceSub, Nat.reduceLT]; repeat' (first | exact Ok.out | with_reducible refine And.intro ?_ ?_))
    rintro ⟨rest, k, c⟩ ⟨g1, h, g3, g4⟩ IH
    dsimp only at g1 h g3 g4
    cases rest with
    | nil =>
      have hlt := drop_nil g1
      simp only [weighEs] at h
      repeat' (first
 | simp only [go_sem, hlt, hget, hpu, hinc, Int.reduceLE, ↓reduceIte, reduceCtorEq, Nat.reduceEqDiff, Nat.reduceLeDiff, Nat.reduceAdd, Nat.reduceMul, Nat.reduceSub, Nat.reduceLT]
 | (with_reducible first | refine CB_ofT (by assumption) fun hc => ?_ | refine CB_ofF (by assumption) fun hc => ?_ | refine CB_split (fun hc => ?_) fun hc => ?_) <;> (try simp only [hc, bs, ↓reduceIte] at h) <;> (try simp only [hc])
 | ((with_reducible first | refine leafR hQ ?_ | refine leafN hQ ?_); (try cases h); simp only [resL, oneD, Option.some.injEq, exists_eq_left', go_sem, hlt, hget, hpu, hinc, Int.reduceLE, ↓reduceIte, reduceCtorEq, Nat.reduceEqDiff, Nat.reduceLeDiff, Nat.reduceAdd, Nat.reduceMul, Nat.reduceSub, Nat.reduceLT]; repeat' (first | exact Ok.out | with_reducible refine And.intro ?_ ?_ | (simp; done)))
 | (cases h; replace h := hr; clear hr; (try simp only [bs, ↓reduceIte] at h))
 | (cases h; done))
    | cons y rest =>
      obtain ⟨hget, g2, hlt, g5⟩ := drop_cons g1
      simp only [weighEs] at h
      by_cases hc : c ≤ 20000
      · have c1 : decide (c ≤ 20000) = true := by simp; omega
        have hy := fun s => hk y (List.mem_of_getElem? hget) (n := c) (by omega) hc s
        obtain ⟨a1, a2, a3, a4⟩ := weigh_in _ y (Nat.le_refl _) c (by omega)
        have := a2 hc
        have w3 : IntKind.wrap .i64 ((k : Int) + 1) = ((k + 1 : Nat) : Int) := by rw [wrap_ok] <;> omega
        rw [if_pos hc] at h
        repeat' (first
 | simp only [go_sem, hlt, hget, hpu, hinc, Int.reduceLE, ↓reduceIte, reduceCtorEq, Nat.reduceEqDiff, Nat.reduceLeDiff, Nat.reduceAdd, Nat.reduceMul, Nat.reduceSub, Nat.reduceLT, c1, w3]
 | (with_reducible refine CU (hy _) ?_)
 | (with_reducible first | refine CB_ofT (by assumption) fun hc => ?_ | refine CB_ofF (by assumption) fun hc => ?_ | refine CB_split (fun hc => ?_) fun hc => ?_) <;> (try simp only [hc, bs, ↓reduceIte] at h) <;> (try simp only [hc])
 | ((with_reducible first | refine leafR hQ ?_ | refine leafN hQ ?_); (try cases h); simp only [resL, oneD, Option.some.injEq, exists_eq_left', go_sem, hlt, hget, hpu, hinc, Int.reduceLE, ↓reduceIte, reduceCtorEq, Nat.reduceEqDiff, Nat.reduceLeDiff, Nat.reduceAdd, Nat.reduceMul, Nat.reduceSub, Nat.reduceLT, c1, w3]; repeat' (first | exact Ok.out | with_reducible refine And.intro ?_ ?_ | (simp; done)))
 | (cases h; replace h := hr; clear hr; (try simp only [bs, ↓reduceIte] at h))
 | (cases h; done))
        refine SemL.re _ _ 1 0 (by rw [hB]; exact Nat.le_of_ble_eq_true rfl) (by rw [hB]; exact Nat.le_of_ble_eq_true rfl) ?_ ?_ (IH (rest, k + 1, weighE y c) ⟨g2, h, by dsimp only; omega, a1⟩ (Nat.lt_succ_self _))
        · (simp only [go_sem, hlt, hget, hpu, hinc, Int.reduceLE, ↓reduceIte, reduceCtorEq, Nat.reduceEqDiff, Nat.reduceLeDiff, Nat.reduceAdd, Nat.reduceMul, Nat.reduceSub, Nat.reduceLT]; repeat' (first | exact Ok.out | with_reducible refine And.intro ?_ ?_))
        · (simp only [go_sem, hlt, hget, hpu, hinc, Int.reduceLE, ↓reduceIte, reduceCtorEq, Nat.reduceEqDiff, Nat.reduceLeDiff, Nat.reduceAdd, Nat.reduceMul, Nat.reduceSub, Nat.reduceLT]; repeat' (first | exact Ok.out | with_reducible refine And.intro ?_ ?_))
      · have c1 : decide (c ≤ 20000) = false := by simp; omega
        rw [if_neg hc] at h
        repeat' (first
 | simp only [go_sem, hlt, hget, hpu, hinc, Int.reduceLE, ↓reduceIte, reduceCtorEq, Nat.reduceEqDiff, Nat.reduceLeDiff, Nat.reduceAdd, Nat.reduceMul, Nat.reduceSub, Nat.reduceLT, c1]
 | (with_reducible first | refine CB_ofT (by assumption) fun hc => ?_ | refine CB_ofF (by assumption) fun hc => ?_ | refine CB_split (fun hc => ?_) fun hc => ?_) <;> (try simp only [hc, bs, ↓reduceIte] at h) <;> (try simp only [hc])
 | ((with_reducible first | refine leafR hQ ?_ | refine leafN hQ ?_); (try cases h); simp only [resL, oneD, Option.some.injEq, exists_eq_left', go_sem, hlt, hget, hpu, hinc, Int.reduceLE, ↓reduceIte, reduceCtorEq, Nat.reduceEqDiff, Nat.reduceLeDiff, Nat.reduceAdd, Nat.reduceMul, Nat.reduceSub, Nat.reduceLT, c1]; repeat' (first | exact Ok.out | with_reducible refine And.intro ?_ ?_ | (simp; done)))
 | (cases h; replace h := hr; clear hr; (try simp only [bs, ↓reduceIte] at h))
 | (cases h; done))

end Go.Abs

/-! Full2 -/

namespace Go.Abs

set_option maxRecDepth 8000
set_option linter.unusedSimpArgs false
set_option linter.unusedVariables false
open Go.Proofs

mutual
def Ex.nodes : Ex → Nat
  | ⟨_, _, _, kids⟩ => 1 + Ex.nodess kids
def Ex.nodess : List Ex → Nat
  | [] => 0
  | x :: l => x.nodes + Ex.nodess l
end
mutual
def sizeM : Ex → Int → Int
  | ⟨_, _, _, kids⟩, most => sizeL kids most 1
def sizeL : List Ex → Int → Int → Int
  | [], _, n => n
  | x :: l, most, n => if n ≤ most then sizeL l most (n + sizeM x (most - n)) else n
end

end Go.Abs

/-! MirEq -/

namespace Go.Abs

def eqTs : List Str → List Str → Bool
  | [], _ => true
  | _ :: _, [] => true
  | x :: l, y :: l' => if !(x == y) then false else eqTs l l'
def eqT (l l' : List Str) : Bool := if (l.length : Int) != (l'.length : Int) then false else eqTs l l'

def Ar.beqs : List Ar → List Ar → Bool
  | [], _ => true
  | _ :: _, [] => true
  | a :: l, b :: l' => if !(a.ref == b.ref) || !(a.name == b.name) || !(Ex.beq a.x b.x) then false else Ar.beqs l l'

mutual
def Sm.beq : Sm → Sm → Bool
  | ⟨id, kind, labels, name, proc, x, has, args, thn, els⟩, ⟨id', kind', labels', name', proc', x', has', args', thn', els'⟩ =>
    if id != id' || kind != kind' || !(name == name') || !(proc == proc') || !(has == has') || !(eqT labels labels') || !(Ex.beq x x') || (args.length : Int) != (args'.length : Int) then false
    else if !(Ar.beqs args args') then false
    else if (if (thn.length : Int) != (thn'.length : Int) then false else Sm.beqs thn thn') then (if (els.length : Int) != (els'.length : Int) then false else Sm.beqs els els') else false
def Sm.beqs : List Sm → List Sm → Bool
  | [], _ => true
  | _ :: _, [] => true
  | s :: l, t :: l' => if !(Sm.beq s t) then false else Sm.beqs l l'
end
def Sm.beqL (l l' : List Sm) : Bool := if (l.length : Int) != (l'.length : Int) then false else Sm.beqs l l'

def Pm.beqs : List Pm → List Pm → Bool
  | [], _ => true
  | _ :: _, [] => true
  | a :: l, b :: l' => if !((a.name == b.name) && (a.ref == b.ref)) then false else Pm.beqs l l'

def Pc.beqs : List Pc → List Pc → Bool
  | [], _ => true
  | _ :: _, [] => true
  | f :: l, g :: l' =>
    if !(f.name == g.name) || (f.params.length : Int) != (g.params.length : Int) || !(eqT f.vars g.vars) || !(eqT f.fin g.fin) || !(Sm.beqL f.body g.body) then false
    else if !(Pm.beqs f.params g.params) then false else Pc.beqs l l'

def Pg.beq (p q : Pg) : Bool := if !(eqT p.globals q.globals) || (p.procs.length : Int) != (q.procs.length : Int) then false else Pc.beqs p.procs q.procs

/-! ### What is the same is the same -/

end Go.Abs

/-! RefEq -/

namespace Go.Abs

set_option maxRecDepth 8000
set_option linter.unusedSimpArgs false
set_option linter.unusedVariables false
open Go.Proofs

abbrev C_eqOne (N : Nat) : Prop := ∀ s t : Sm, s.size < N → ∀ st : St, Fun Tryd.prog n_ref3_eqOne [.agg (encSm s), .agg (encSm t)] st (.bool (Sm.beq s t)) st
abbrev C_eqL (N : Nat) : Prop := ∀ l l' : List Sm, Sm.sizes l < N → ∀ st : St, Fun Tryd.prog n_ref3_EqStmts [.slice .shared 13 (l.map encSm), .slice .shared 13 (l'.map encSm)] st (.bool (Sm.beqL l l')) st

end Go.Abs

/-! RefEq2 -/

namespace Go.Abs

set_option maxRecDepth 8000
set_option linter.unusedSimpArgs false
set_option linter.unusedVariables false
open Go.Proofs

/-! ### The sample -/

def exNum (n : Int) : Ex := ⟨1, n, [], []⟩
def exName (s : Str) : Ex := ⟨2, 0, s, []⟩
def exTwo (op : Int) (a b : Ex) : Ex := ⟨op, 0, [], [a, b]⟩

theorem num_s (n : Int) (s : St) : Fun Tryd.prog n_ref3_num [.int .i64 n] s (.agg (encEx (exNum n))) s := by
  refine Fun.pure ?_ rfl (by simp [D.ok, okEx]) s
  unfold S0
  refine Fun.go has_ref3_num rfl fun B Q hB hQ => ?_
  have hlt : 0 < 1 := Nat.zero_lt_one
  have hget : 0 < 1 := Nat.zero_lt_one
  have hpu : 0 < 1 := Nat.zero_lt_one
  have hinc : 0 < 1 := Nat.zero_lt_one
  repeat' (first
 | simp only [go_sem, hlt, hget, hpu, hinc, Int.reduceLE, ↓reduceIte, reduceCtorEq, Nat.reduceEqDiff, Nat.reduceLeDiff, Nat.reduceAdd, Nat.reduceMul, Nat.reduceSub, Nat.reduceLT, exNum]
 | (with_reducible first | refine CB_ofT (by assumption) fun hc => ?_ | refine CB_ofF (by assumption) fun hc => ?_ | refine CB_split (fun hc => ?_) fun hc => ?_) <;> (try simp only [hc, bs, ↓reduceIte] at h) <;> (try simp only [hc])
 | ((with_reducible first | refine leafR hQ ?_ | refine leafN hQ ?_); (try cases h); simp only [resL, oneD, Option.some.injEq, exists_eq_left', go_sem, hlt, hget, hpu, hinc, Int.reduceLE, ↓reduceIte, reduceCtorEq, Nat.reduceEqDiff, Nat.reduceLeDiff, Nat.reduceAdd, Nat.reduceMul, Nat.reduceSub, Nat.reduceLT, exNum]; repeat' (first | exact Ok.out | with_reducible refine And.intro ?_ ?_ | (simp; done)))
 | (cases h; replace h := hr; clear hr; (try simp only [bs, ↓reduceIte] at h))
 | (cases h; done))
theorem name_ref_s (t : Str) (s : St) : Fun Tryd.prog n_ref3_name [.str t] s (.agg (encEx (exName t))) s := by
  refine Fun.pure ?_ rfl (by simp [D.ok, okEx]) s
  unfold S0
  refine Fun.go has_ref3_name rfl fun B Q hB hQ => ?_
  have hlt : 0 < 1 := Nat.zero_lt_one
  have hget : 0 < 1 := Nat.zero_lt_one
  have hpu : 0 < 1 := Nat.zero_lt_one
  have hinc : 0 < 1 := Nat.zero_lt_one
  repeat' (first
 | simp only [go_sem, hlt, hget, hpu, hinc, Int.reduceLE, ↓reduceIte, reduceCtorEq, Nat.reduceEqDiff, Nat.reduceLeDiff, Nat.reduceAdd, Nat.reduceMul, Nat.reduceSub, Nat.reduceLT, exName]
 | (with_reducible first | refine CB_ofT (by assumption) fun hc => ?_ | refine CB_ofF (by assumption) fun hc => ?_ | refine CB_split (fun hc => ?_) fun hc => ?_) <;> (try simp only [hc, bs, ↓reduceIte] at h) <;> (try simp only [hc])
 | ((with_reducible first | refine leafR hQ ?_ | refine leafN hQ ?_); (try cases h); simp only [resL, oneD, Option.some.injEq, exists_eq_left', go_sem, hlt, hget, hpu, hinc, Int.reduceLE, ↓reduceIte, reduceCtorEq, Nat.reduceEqDiff, Nat.reduceLeDiff, Nat.reduceAdd, Nat.reduceMul, Nat.reduceSub, Nat.reduceLT, exName]; repeat' (first | exact Ok.out | with_reducible refine And.intro ?_ ?_ | (simp; done)))
 | (cases h; replace h := hr; clear hr; (try simp only [bs, ↓reduceIte] at h))
 | (cases h; done))
theorem two_ref_s (op : Int) (a b : Ex) (s : St) : Fun Tryd.prog n_ref3_two [.int .i64 op, .agg (encEx a), .agg (encEx b)] s (.agg (encEx (exTwo op a b))) s := by
  refine Fun.pure ?_ (by simp [D.oks, D.ok, okEx]) (by simp [D.ok, okEx]) s
  unfold S0
  refine Fun.go has_ref3_two rfl fun B Q hB hQ => ?_
  have hlt : 0 < 1 := Nat.zero_lt_one
  have hget : 0 < 1 := Nat.zero_lt_one
  have hpu : 0 < 1 := Nat.zero_lt_one
  have hinc : 0 < 1 := Nat.zero_lt_one
  repeat' (first
 | simp only [go_sem, hlt, hget, hpu, hinc, Int.reduceLE, ↓reduceIte, reduceCtorEq, Nat.reduceEqDiff, Nat.reduceLeDiff, Nat.reduceAdd, Nat.reduceMul, Nat.reduceSub, Nat.reduceLT, exTwo]
 | (with_reducible first | refine CB_ofT (by assumption) fun hc => ?_ | refine CB_ofF (by assumption) fun hc => ?_ | refine CB_split (fun hc => ?_) fun hc => ?_) <;> (try simp only [hc, bs, ↓reduceIte] at h) <;> (try simp only [hc])
 | ((with_reducible first | refine leafR hQ ?_ | refine leafN hQ ?_); (try cases h); simp only [resL, oneD, Option.some.injEq, exists_eq_left', go_sem, hlt, hget, hpu, hinc, Int.reduceLE, ↓reduceIte, reduceCtorEq, Nat.reduceEqDiff, Nat.reduceLeDiff, Nat.reduceAdd, Nat.reduceMul, Nat.reduceSub, Nat.reduceLT, exTwo]; repeat' (first | exact Ok.out | with_reducible refine And.intro ?_ ?_ | (simp; done)))
 | (cases h; replace h := hr; clear hr; (try simp only [bs, ↓reduceIte] at h))
 | (cases h; done))

def source : Str := [103, 108, 111, 98, 97, 108, 32, 103, 59, 10, 112, 114, 111, 99, 32, 109, 97, 105, 110, 40, 41, 32, 123, 10, 32, 118, 97, 114, 32, 118, 59, 10, 32, 118, 32, 61, 32, 50, 59, 10, 32, 103, 32, 61, 32, 112, 40, 51, 44, 32, 114, 101, 102, 32, 118, 41, 59, 10, 32, 112, 114, 105, 110, 116, 32, 118, 59, 10, 32, 112, 114, 105, 110, 116, 32, 103, 59, 10, 125, 10, 112, 114, 111, 99, 32, 112, 40, 120, 44, 32, 114, 101, 102, 32, 121, 41, 32, 123, 10, 32, 121, 32, 61, 32, 121, 32, 43, 32, 120, 59, 10, 32, 105, 102, 32, 40, 121, 32, 62, 32, 57, 41, 32, 123, 10, 32, 32, 103, 111, 116, 111, 32, 101, 59, 10, 32, 125, 10, 32, 114, 101, 116, 117, 114, 110, 32, 121, 59, 10, 101, 58, 32, 125, 10]

theorem Source_s (s : St) : Fun Tryd.prog n_ref3_Source [] s (.str source) s := by
  refine Fun.pure ?_ rfl rfl s
  unfold S0
  refine Fun.go has_ref3_Source rfl fun B Q hB hQ => ?_
  have hlt : 0 < 1 := Nat.zero_lt_one
  have hget : 0 < 1 := Nat.zero_lt_one
  have hpu : 0 < 1 := Nat.zero_lt_one
  have hinc : 0 < 1 := Nat.zero_lt_one
  repeat' (first
 | simp only [go_sem, hlt, hget, hpu, hinc, Int.reduceLE, ↓reduceIte, reduceCtorEq, Nat.reduceEqDiff, Nat.reduceLeDiff, Nat.reduceAdd, Nat.reduceMul, Nat.reduceSub, Nat.reduceLT, source]
 | (with_reducible first | refine CB_ofT (by assumption) fun hc => ?_ | refine CB_ofF (by assumption) fun hc => ?_ | refine CB_split (fun hc => ?_) fun hc => ?_) <;> (try simp only [hc, bs, ↓reduceIte] at h) <;> (try simp only [hc])
 | ((with_reducible first | refine leafR hQ ?_ | refine leafN hQ ?_); (try cases h); simp only [resL, oneD, Option.some.injEq, exists_eq_left', go_sem, hlt, hget, hpu, hinc, Int.reduceLE, ↓reduceIte, reduceCtorEq, Nat.reduceEqDiff, Nat.reduceLeDiff, Nat.reduceAdd, Nat.reduceMul, Nat.reduceSub, Nat.reduceLT, source]; repeat' (first | exact Ok.out | with_reducible refine And.intro ?_ ?_ | (simp; done)))
 | (cases h; replace h := hr; clear hr; (try simp only [bs, ↓reduceIte] at h))
 | (cases h; done))

def some0 : Pg := ⟨[[103]], [
  ⟨[109, 97, 105, 110], [], [[118]], [
    ⟨1, 1, [], [118], [], exNum 2, false, [], [], []⟩,
    ⟨2, 4, [], [103], [112], ex0, false, [⟨false, [], exNum 3⟩, ⟨true, [118], ex0⟩], [], []⟩,
    ⟨3, 3, [], [], [], exName [118], false, [], [], []⟩,
    ⟨4, 3, [], [], [], exName [103], false, [], [], []⟩], []⟩,
  ⟨[112], [⟨[120], false⟩, ⟨[121], true⟩], [], [
    ⟨5, 1, [], [121], [], exTwo 8 (exName [121]) (exName [120]), false, [], [], []⟩,
    ⟨6, 5, [], [], [], exTwo 12 (exName [121]) (exNum 9), false, [], [⟨7, 10, [], [101], [], ex0, false, [], [], []⟩], []⟩,
    ⟨8, 9, [], [], [], exName [121], true, [], [], []⟩], [[101]]⟩]⟩

theorem Some_s (s : St) : Fun Tryd.prog n_ref3_Some [] s (.agg (encPg some0)) s := by
  refine Fun.pure ?_ rfl (by simp [D.ok, okPg]) s
  unfold S0
  refine Fun.go has_ref3_Some rfl fun B Q hB hQ => ?_
  have hlt : 0 < 1 := Nat.zero_lt_one
  have hget : 0 < 1 := Nat.zero_lt_one
  have hpu : 0 < 1 := Nat.zero_lt_one
  have hinc : 0 < 1 := Nat.zero_lt_one
  repeat' (first
 | simp only [go_sem, hlt, hget, hpu, hinc, Int.reduceLE, ↓reduceIte, reduceCtorEq, Nat.reduceEqDiff, Nat.reduceLeDiff, Nat.reduceAdd, Nat.reduceMul, Nat.reduceSub, Nat.reduceLT, some0]
 | (with_reducible refine CU (num_s _ _) ?_)
 | (with_reducible refine CU (name_ref_s _ _) ?_)
 | (with_reducible refine CU (two_ref_s _ _ _ _) ?_)
 | (with_reducible first | refine CB_ofT (by assumption) fun hc => ?_ | refine CB_ofF (by assumption) fun hc => ?_ | refine CB_split (fun hc => ?_) fun hc => ?_) <;> (try simp only [hc, bs, ↓reduceIte] at h) <;> (try simp only [hc])
 | ((with_reducible first | refine leafR hQ ?_ | refine leafN hQ ?_); (try cases h); simp only [resL, oneD, Option.some.injEq, exists_eq_left', go_sem, hlt, hget, hpu, hinc, Int.reduceLE, ↓reduceIte, reduceCtorEq, Nat.reduceEqDiff, Nat.reduceLeDiff, Nat.reduceAdd, Nat.reduceMul, Nat.reduceSub, Nat.reduceLT, some0]; repeat' (first | exact Ok.out | with_reducible refine And.intro ?_ ?_ | (simp; done)))
 | (cases h; replace h := hr; clear hr; (try simp only [bs, ↓reduceIte] at h))
 | (cases h; done))
  repeat' (first | exact Ok.out | with_reducible refine Wk.agg ?_ | with_reducible refine Wk.rows ?_ | with_reducible refine Wk.slice ?_ | with_reducible refine WkR.cons ?_ ?_ | with_reducible refine WkL.cons ?_ ?_)

end Go.Abs

/-! Prs3 -/

namespace Go.Abs

set_option maxRecDepth 8000
set_option linter.unusedSimpArgs false
set_option linter.unusedVariables false
open Go.Proofs

end Go.Abs

/-! Prs4 -/

namespace Go.Abs

set_option maxRecDepth 8000
set_option linter.unusedSimpArgs false
set_option linter.unusedVariables false
open Go.Proofs

end Go.Abs

/-! Prs5 -/

namespace Go.Abs

set_option maxRecDepth 8000
set_option linter.unusedSimpArgs false
set_option linter.unusedVariables false
open Go.Proofs

abbrev C_rows (m n : Nat) : Prop := ∀ {nest : Int} {body : Bool} {r : Rd} {p : (List Sm × List Str) × Rd}, Rd.rows m n nest body r = some p → ∀ {s : St} {o : Nat}, s.objs[o]? = some (encRd r) →
  Fun Tryd.prog n_parse_reader_rows [.ptr o 0, .int .i64 nest, .bool body] s (.tuple [.slice .shared 13 (p.1.1.map encSm), .slice .shared 1 (p.1.2.map encStr)]) ⟨s.objs.set o (encRd p.2), s.toks⟩
abbrev C_stmt (m n : Nat) : Prop := ∀ {nest : Int} {r : Rd} {p : Sm × Rd}, Rd.stmt m n nest r = some p → ∀ {s : St} {o : Nat}, s.objs[o]? = some (encRd r) →
  Fun Tryd.prog n_parse_reader_stmt [.ptr o 0, .int .i64 nest] s (.agg (encSm p.1)) ⟨s.objs.set o (encRd p.2), s.toks⟩
abbrev C_block (m n : Nat) : Prop := ∀ {nest : Int} {r : Rd} {p : List Sm × Rd}, Rd.block m n nest r = some p → ∀ {s : St} {o : Nat}, s.objs[o]? = some (encRd r) →
  Fun Tryd.prog n_parse_reader_block [.ptr o 0, .int .i64 nest] s (.slice .shared 13 (p.1.map encSm)) ⟨s.objs.set o (encRd p.2), s.toks⟩
abbrev C_choice (m n : Nat) : Prop := ∀ {nest : Int} {r : Rd} {p : Sm × Rd}, Rd.choice m n nest r = some p → ∀ {s : St} {o : Nat}, s.objs[o]? = some (encRd r) →
  Fun Tryd.prog n_parse_reader_choice [.ptr o 0, .int .i64 nest] s (.agg (encSm p.1)) ⟨s.objs.set o (encRd p.2), s.toks⟩

end Go.Abs

/-! Prs6 -/

namespace Go.Abs

set_option maxRecDepth 8000
set_option linter.unusedSimpArgs false
set_option linter.unusedVariables false
open Go.Proofs

end Go.Abs

/-! Lex3 -/

namespace Go.Abs

set_option maxRecDepth 8000
set_option linter.unusedSimpArgs false
set_option linter.unusedVariables false
open Go.Proofs

end Go.Abs

/-! Tree1 -/

namespace Go.Abs

set_option maxRecDepth 8000
set_option linter.unusedSimpArgs false
set_option linter.unusedVariables false
open Go.Proofs

end Go.Abs

/-! Tree2 -/

namespace Go.Abs

set_option maxRecDepth 8000
set_option linter.unusedSimpArgs false
set_option linter.unusedVariables false
open Go.Proofs

abbrev C_cop (b : Bool) (N : Nat) : Prop := ∀ l : List Sm, Sm.sizes l < N → ∀ n : Nat, n + Sm.sizes l < 1073741824 → ∀ s : St,
  Fun Tryd.prog n_tree_copied [.slice .shared 13 (l.map encSm), .int .i64 (n : Int), .bool b] s (.tuple [.slice .shared 13 ((Sm.nums b n l).1.map encSm), .int .i64 ((Sm.nums b n l).2 : Int)]) s

end Go.Abs

/-! MirParse -/

namespace Go.Abs

def rd0 (l : List Tok) : Rd := ⟨l, 0, 0, 0, 0⟩

def parseM (m : Nat) (text : Str) : Option (Pg × Int × Int) :=
  if (lexAll text).2.1 != 0 then some (pg0, (lexAll text).2)
  else (Rd.program m (rd0 (lexAll text).1)).bind fun p => if p.2.code != 0 then some (pg0, p.2.code, p.2.fat) else (p.1.numberO).bind fun q => some (q, 0, 0)

def exprM (m : Nat) (text : Str) : Option (Ex × Int × Int) :=
  if (lexAll text).2.1 != 0 then some (ex0, (lexAll text).2)
  else (Rd.whole m (rd0 (lexAll text).1)).bind fun x => x.2.notEnd.bind fun b =>
    if b then (x.2.bad 3).bind fun r => if !r.good then some (ex0, r.code, r.fat) else some (x.1, 0, 0)
    else if !x.2.good then some (ex0, x.2.code, x.2.fat) else some (x.1, 0, 0)

end Go.Abs

/-! Prs7 -/

namespace Go.Abs

set_option maxRecDepth 8000
set_option linter.unusedSimpArgs false
set_option linter.unusedVariables false
open Go.Proofs

end Go.Abs

/-! Room1 -/

namespace Go.Abs
set_option linter.unusedSimpArgs false
set_option linter.unusedVariables false
open Go.Proofs

def modM (n k : Int) : Int := if Int.tmod n k < 0 then Int.tmod n k + k else Int.tmod n k
def manyM (t : Str) : Nat → Str
  | 0 => []
  | n + 1 => manyM t n ++ t
def two (i : Nat) : Str := [UInt8.ofNat (48 + i / 10), UInt8.ofNat (48 + i % 10)]
def rowM (ahead : Str) : Nat → Str
  | 0 => []
  | n + 1 => (if n = 0 then rowM ahead n else rowM ahead n ++ [44]) ++ (ahead ++ [97] ++ two n)
def procsM : Nat → Str
  | 0 => []
  | n + 1 => procsM n ++ ([112, 114, 111, 99, 32, 112] ++ two n ++ [40, 41, 123, 125])

theorem wrap_u8 {i : Nat} (h : i < 256) : IntKind.wrap .u8 (i : Int) = (i : Int) := by
  rw [IntKind.wrap_u8]; omega

end Go.Abs

/-! Binds1 -/

namespace Go.Abs

set_option maxRecDepth 8000
set_option linter.unusedSimpArgs false
set_option linter.unusedVariables false
open Go.Proofs

def encInt (n : Int) : List D := [.int .i64 n]
theorem okInt (n : Int) : D.oks 0 0 (encInt n) = true := rfl
theorem fgrInt (n m : Nat) (l : List Int) : D.fgr n m (l.map encInt) = l.map encInt := fgr_map okInt n m l
attribute [go_sem] encInt fgrInt
/-- A sign's text. -/
def signR (op : Int) : Str :=
  if op = 5 then [42] else if op = 6 then [47] else if op = 7 then [37] else if op = 8 then [43] else if op = 9 then [45] else if op = 10 then [60] else if op = 11 then [60, 61]
  else if op = 12 then [62] else if op = 13 then [62, 61] else if op = 14 then [61, 61] else if op = 15 then [33, 61] else if op = 16 then [38, 38] else [124, 124]
def bindB (op : Int) : Int := (bindsR (signR op)).1

theorem signs {op : Int} (h : (decide (5 ≤ op) && decide (op ≤ 17)) = true) : op = 5 ∨ op = 6 ∨ op = 7 ∨ op = 8 ∨ op = 9 ∨ op = 10 ∨ op = 11 ∨ op = 12 ∨ op = 13 ∨ op = 14 ∨ op = 15 ∨ op = 16 ∨ op = 17 := by
  simp only [Bool.and_eq_true, decide_eq_true_eq] at h; omega

theorem signs_s {op : Int} (h : (decide (5 ≤ op) && decide (op ≤ 17)) = true) (s : St) : Fun Tryd.prog n_ref3_sign [.int .i64 op] s (.str (signR op)) s := by
  refine Fun.pure ?_ rfl rfl s
  unfold S0
  rcases signs h with rfl | rfl | rfl | rfl | rfl | rfl | rfl | rfl | rfl | rfl | rfl | rfl | rfl
  all_goals
    refine Fun.go has_ref3_sign rfl fun B Q hB hQ => ?_
    have hlt : 0 < 1 := Nat.zero_lt_one
    have hget : 0 < 1 := Nat.zero_lt_one
    have hpu : 0 < 1 := Nat.zero_lt_one
    have hinc : 0 < 1 := Nat.zero_lt_one
    repeat' (first
 | simp only [go_sem, hlt, hget, hpu, hinc, Int.reduceLE, ↓reduceIte, reduceCtorEq, Nat.reduceEqDiff, Nat.reduceLeDiff, Nat.reduceAdd, Nat.reduceMul, Nat.reduceSub, Nat.reduceLT, signR, Int.reduceSub, Int.cast_ofNat_Int, wrap_ok, Int.reduceNeg, Int.reduceLT, Int.reduceToNat, Int.reduceEq]
 | (with_reducible first | refine CB_ofT (by assumption) fun hc => ?_ | refine CB_ofF (by assumption) fun hc => ?_ | refine CB_split (fun hc => ?_) fun hc => ?_) <;> (try simp only [hc, bs, ↓reduceIte] at h) <;> (try simp only [hc])
 | ((with_reducible first | refine leafR hQ ?_ | refine leafN hQ ?_); (try cases h); simp only [resL, oneD, Option.some.injEq, exists_eq_left', go_sem, hlt, hget, hpu, hinc, Int.reduceLE, ↓reduceIte, reduceCtorEq, Nat.reduceEqDiff, Nat.reduceLeDiff, Nat.reduceAdd, Nat.reduceMul, Nat.reduceSub, Nat.reduceLT, signR, Int.reduceSub, Int.cast_ofNat_Int, wrap_ok, Int.reduceNeg, Int.reduceLT, Int.reduceToNat, Int.reduceEq]; repeat' (first | exact Ok.out | with_reducible refine And.intro ?_ ?_ | (simp; done)))
 | (cases h; replace h := hr; clear hr; (try simp only [bs, ↓reduceIte] at h))
 | (cases h; done))

theorem bindB_pos {op : Int} (h : (decide (5 ≤ op) && decide (op ≤ 17)) = true) : 1 ≤ bindB op ∧ bindB op ≤ 6 ∧ (bindsR (signR op)).2 = op := by
  rcases signs h with rfl | rfl | rfl | rfl | rfl | rfl | rfl | rfl | rfl | rfl | rfl | rfl | rfl <;> exact ⟨by decide, by decide, by decide⟩

/-- So many names. -/
def operandsM : Nat → List Str
  | 0 => []
  | n + 1 => operandsM n ++ [[UInt8.ofNat (97 + n)]]
end Go.Abs

/-! Full3 -/

namespace Go.Abs

set_option maxRecDepth 8000
set_option linter.unusedSimpArgs false
set_option linter.unusedVariables false
open Go.Proofs

def digF : Nat → Nat → Str
  | 0, _ => []
  | f + 1, n => if n < 10 then [UInt8.ofNat (48 + n)] else digF f (n / 10) ++ [UInt8.ofNat (48 + n % 10)]
theorem digF_len : ∀ f n, (digF f n).length ≤ f
  | 0, n => Nat.le_refl _
  | f + 1, n => by simp only [digF]; split; simp; simp only [List.length_append, List.length_cons, List.length_nil]; have := digF_len f (n / 10); omega

theorem wrap_u64 {i : Nat} (h : i < 18446744073709551616) : IntKind.wrap .u64 (i : Int) = (i : Int) := by
  simp only [IntKind.wrap, IntKind.bits, IntKind.signed]; simp; omega

theorem digits_s : ∀ (f : Nat) (n : Nat), f ≤ 20 → n < 10 ^ f → n < 18446744073709551616 → 0 < f → ∀ s : St, Fun Tryd.prog n_ref3_digits [.int .u64 (n : Int)] s (.str (digF f n)) s := by
  intro f
  induction f with
  | zero => intro n _ _ _ h; omega
  | succ f ih =>
    intro n hf hn h64 _ s
    refine Fun.pure ?_ rfl rfl s
    unfold S0
    by_cases c : n < 10
    · have c1 : decide ((n : Int) < 10) = true := by simp; omega
      have e : digF (f + 1) n = [UInt8.ofNat (48 + n)] := by simp only [digF, if_pos c]
      have w2 : IntKind.wrap .u64 (48 + (n : Int)) = ((48 + n : Nat) : Int) := by
        have := wrap_u64 (i := 48 + n) (by omega)
        rw [← this]; congr 1
      have w4 := wrap_u8 (i := 48 + n) (by omega)
      rw [e]
      refine Fun.go has_ref3_digits rfl fun B Q hB hQ => ?_
      have hlt : 0 < 1 := Nat.zero_lt_one
      have hget : 0 < 1 := Nat.zero_lt_one
      have hpu : 0 < 1 := Nat.zero_lt_one
      have hinc : 0 < 1 := Nat.zero_lt_one
      repeat' (first
 | simp only [go_sem, hlt, hget, hpu, hinc, Int.reduceLE, ↓reduceIte, reduceCtorEq, Nat.reduceEqDiff, Nat.reduceLeDiff, Nat.reduceAdd, Nat.reduceMul, Nat.reduceSub, Nat.reduceLT, c1, w2, w4, bytesOfRows, byteOfRow]
 | (with_reducible first | refine CB_ofT (by assumption) fun hc => ?_ | refine CB_ofF (by assumption) fun hc => ?_ | refine CB_split (fun hc => ?_) fun hc => ?_) <;> (try simp only [hc, bs, ↓reduceIte] at h) <;> (try simp only [hc])
 | ((with_reducible first | refine leafR hQ ?_ | refine leafN hQ ?_); (try cases h); simp only [resL, oneD, Option.some.injEq, exists_eq_left', go_sem, hlt, hget, hpu, hinc, Int.reduceLE, ↓reduceIte, reduceCtorEq, Nat.reduceEqDiff, Nat.reduceLeDiff, Nat.reduceAdd, Nat.reduceMul, Nat.reduceSub, Nat.reduceLT, c1, w2, w4, bytesOfRows, byteOfRow]; repeat' (first | exact Ok.out | with_reducible refine And.intro ?_ ?_ | (simp; done)))
 | (cases h; replace h := hr; clear hr; (try simp only [bs, ↓reduceIte] at h))
 | (cases h; done))
    · have c1 : decide ((n : Int) < 10) = false := by simp; omega
      have e : digF (f + 1) n = digF f (n / 10) ++ [UInt8.ofNat (48 + n % 10)] := by simp only [digF, if_neg c]
      have d1 : Int.tdiv (n : Int) 10 = ((n / 10 : Nat) : Int) := by rw [Int.ofNat_tdiv]; rfl
      have d2 : Int.tmod (n : Int) 10 = ((n % 10 : Nat) : Int) := by rw [Int.ofNat_tmod]; rfl
      have k10 : ((10 : Int) = 0) = False := by simp
      have w1 := wrap_u64 (i := n / 10) (by omega)
      have w5 := wrap_u64 (i := n % 10) (by omega)
      have w2 : IntKind.wrap .u64 (48 + ((n % 10 : Nat) : Int)) = ((48 + n % 10 : Nat) : Int) := by
        have := wrap_u64 (i := 48 + n % 10) (by omega)
        rw [← this]; congr 1
      have w4 := wrap_u8 (i := 48 + n % 10) (by omega)
      have hf0 : 0 < f := by
        cases f with
        | zero => simp at hn; omega
        | succ f => omega
      have hr := ih (n / 10) (by omega) (by rw [Nat.pow_succ] at hn; omega) (by omega) hf0
      have hl := digF_len f (n / 10)
      have m1 : (digF f (n / 10)).length + 1 ≤ maxStr := by unfold maxStr; omega
      rw [e]
      refine Fun.go has_ref3_digits rfl fun B Q hB hQ => ?_
      have hlt : 0 < 1 := Nat.zero_lt_one
      have hget : 0 < 1 := Nat.zero_lt_one
      have hpu : 0 < 1 := Nat.zero_lt_one
      have hinc : 0 < 1 := Nat.zero_lt_one
      repeat' (first
 | simp only [go_sem, hlt, hget, hpu, hinc, Int.reduceLE, ↓reduceIte, reduceCtorEq, Nat.reduceEqDiff, Nat.reduceLeDiff, Nat.reduceAdd, Nat.reduceMul, Nat.reduceSub, Nat.reduceLT, c1, d1, d2, k10, w1, w2, w4, w5, m1, bytesOfRows, byteOfRow]
 | (with_reducible refine CU (hr _) ?_)
 | (with_reducible first | refine CB_ofT (by assumption) fun hc => ?_ | refine CB_ofF (by assumption) fun hc => ?_ | refine CB_split (fun hc => ?_) fun hc => ?_) <;> (try simp only [hc, bs, ↓reduceIte] at h) <;> (try simp only [hc])
 | ((with_reducible first | refine leafR hQ ?_ | refine leafN hQ ?_); (try cases h); simp only [resL, oneD, Option.some.injEq, exists_eq_left', go_sem, hlt, hget, hpu, hinc, Int.reduceLE, ↓reduceIte, reduceCtorEq, Nat.reduceEqDiff, Nat.reduceLeDiff, Nat.reduceAdd, Nat.reduceMul, Nat.reduceSub, Nat.reduceLT, c1, d1, d2, k10, w1, w2, w4, w5, m1, bytesOfRows, byteOfRow]; repeat' (first | exact Ok.out | with_reducible refine And.intro ?_ ?_ | (simp; done)))
 | (cases h; replace h := hr; clear hr; (try simp only [bs, ↓reduceIte] at h))
 | (cases h; done))

theorem Dec_s {n : Int} (h0 : 0 ≤ n) (h1 : n ≤ 9223372036854775807) (s : St) : Fun Tryd.prog n_ref3_Dec [.int .i64 n] s (.str (digF 20 n.toNat)) s := by
  refine Fun.pure ?_ rfl rfl s
  obtain ⟨k, hk⟩ : ∃ k : Nat, n = (k : Int) := ⟨n.toNat, by omega⟩
  subst hk
  rw [Int.toNat_natCast]
  have c1 : decide ((k : Int) < 0) = false := by simp
  have w1 := wrap_u64 (i := k) (by omega)
  have hr := digits_s 20 k (by omega) (by omega) (by omega) (by omega)
  unfold S0
  refine Fun.go has_ref3_Dec rfl fun B Q hB hQ => ?_
  have hlt : 0 < 1 := Nat.zero_lt_one
  have hget : 0 < 1 := Nat.zero_lt_one
  have hpu : 0 < 1 := Nat.zero_lt_one
  have hinc : 0 < 1 := Nat.zero_lt_one
  repeat' (first
 | simp only [go_sem, hlt, hget, hpu, hinc, Int.reduceLE, ↓reduceIte, reduceCtorEq, Nat.reduceEqDiff, Nat.reduceLeDiff, Nat.reduceAdd, Nat.reduceMul, Nat.reduceSub, Nat.reduceLT, c1, w1]
 | (with_reducible refine CU (hr _) ?_)
 | (with_reducible first | refine CB_ofT (by assumption) fun hc => ?_ | refine CB_ofF (by assumption) fun hc => ?_ | refine CB_split (fun hc => ?_) fun hc => ?_) <;> (try simp only [hc, bs, ↓reduceIte] at h) <;> (try simp only [hc])
 | ((with_reducible first | refine leafR hQ ?_ | refine leafN hQ ?_); (try cases h); simp only [resL, oneD, Option.some.injEq, exists_eq_left', go_sem, hlt, hget, hpu, hinc, Int.reduceLE, ↓reduceIte, reduceCtorEq, Nat.reduceEqDiff, Nat.reduceLeDiff, Nat.reduceAdd, Nat.reduceMul, Nat.reduceSub, Nat.reduceLT, c1, w1]; repeat' (first | exact Ok.out | with_reducible refine And.intro ?_ ?_ | (simp; done)))
 | (cases h; replace h := hr; clear hr; (try simp only [bs, ↓reduceIte] at h))
 | (cases h; done))

end Go.Abs

/-! Rng -/

namespace Go.Abs

mutual
/-- Its numbers are numbers. -/
def Ex.rng : Ex → Prop
  | ⟨_, n, _, kids⟩ => n ≤ 9223372036854775807 ∧ Ex.rngs kids
def Ex.rngs : List Ex → Prop
  | [] => True
  | x :: l => x.rng ∧ Ex.rngs l
end

end Go.Abs

/-! RefMay2 -/

namespace Go.Abs

set_option maxRecDepth 8000
set_option linter.unusedSimpArgs false
set_option linter.unusedVariables false
open Go.Proofs

/-- Its texts are texts. -/
structure Sm.Fine (s : Sm) : Prop where
  lab : ∀ t ∈ s.labels, t.length < 4611686018427387904
  labl : s.labels.length < 4611686018427387904
  name : s.name.length < 4611686018427387904
  proc : s.proc.length < 4611686018427387904
  x : s.x.size < 4611686018427387904
  xt : s.x.texts
  argl : s.args.length < 4611686018427387904
  arg : ∀ a ∈ s.args, a.x.size < 4611686018427387904 ∧ a.x.texts ∧ a.name.length < 4611686018427387904


section
variable {v : Sm} {B : Base} {Q : Exit → Tm → St → Prop} {p : Bool}

theorem one_4 (hf : v.Fine) (hB : B.s = ⟨[], []⟩) (hQ : retF 0 0 [(2, none)] (.bool p) ⟨[], []⟩ = Q)
    (h : (if !(Ar.mays v.args) then false else ((v.thn.length : Int) == 0 || v.kind == 5 || v.kind == 6) && ((v.els.length : Int) == 0 || v.kind == 5)) = p) :
    Sem Tryd.prog B 178 QLE Q [(1, .ptr 0 0)] ⟨[encSm v], []⟩ := by
  have hargl := hf.argl
  have harg := fun a ha s => arg_s (hf.arg a ha).1 (hf.arg a ha).2.1 (hf.arg a ha).2.2 s
  have hlt : 0 < 1 := Nat.zero_lt_one
  have hget : 0 < 1 := Nat.zero_lt_one
  have hpu : 0 < 1 := Nat.zero_lt_one
  have hinc : 0 < 1 := Nat.zero_lt_one
  refine wpC_sound ?_
  repeat' (first
 | simp only [go_sem, hlt, hget, hpu, hinc, Int.reduceLE, ↓reduceIte, reduceCtorEq, Nat.reduceEqDiff, Nat.reduceLeDiff, Nat.reduceAdd, Nat.reduceMul, Nat.reduceSub, Nat.reduceLT]
 | (with_reducible first | refine CB_ofT (by assumption) fun hc => ?_ | refine CB_ofF (by assumption) fun hc => ?_ | refine CB_split (fun hc => ?_) fun hc => ?_) <;> (try simp only [hc, bs, ↓reduceIte] at h) <;> (try simp only [hc])
 | ((with_reducible first | refine leafR hQ ?_ | refine leafN hQ ?_); (try cases h); simp only [resL, oneD, Option.some.injEq, exists_eq_left', go_sem, hlt, hget, hpu, hinc, Int.reduceLE, ↓reduceIte, reduceCtorEq, Nat.reduceEqDiff, Nat.reduceLeDiff, Nat.reduceAdd, Nat.reduceMul, Nat.reduceSub, Nat.reduceLT]; repeat' (first | exact Ok.out | with_reducible refine And.intro ?_ ?_ | (simp; done)))
 | (cases h; replace h := hr; clear hr; (try simp only [bs, ↓reduceIte] at h))
 | (cases h; done))
  refine SemL.re _ _ 1 0 (by rw [hB]; exact Nat.le_of_ble_eq_true rfl) (by rw [hB]; exact Nat.le_of_ble_eq_true rfl) ?_ ?_ (SemL.ind (ι := List Ar × Nat) (fun i => v.args.drop i.2 = i.1 ∧ (if !(Ar.mays i.1) then false else ((v.thn.length : Int) == 0 || v.kind == 5 || v.kind == 6) && ((v.els.length : Int) == 0 || v.kind == 5)) = p) (fun i => i.1.length)
    (fun i => [(1, .ptr 0 0), (143, .slice .shared 6 (v.args.map encAr)), (144, .int .i64 (v.args.length : Int)), (145, .int .i64 (i.2 : Int))]) (fun i => ⟨[encSm v], []⟩) ?_ (v.args, 0) ⟨rfl, h⟩)
  · (simp only [go_sem, hlt, hget, hpu, hinc, Int.reduceLE, ↓reduceIte, reduceCtorEq, Nat.reduceEqDiff, Nat.reduceLeDiff, Nat.reduceAdd, Nat.reduceMul, Nat.reduceSub, Nat.reduceLT]; repeat' (first | exact Ok.out | with_reducible refine And.intro ?_ ?_))
  · (simp only [go_sem, hlt, hget, hpu, hinc, Int.reduceLE, ↓reduceIte, reduceCtorEq, Nat.reduceEqDiff, Nat.reduceLeDiff, Nat.reduceAdd, Nat.reduceMul, Nat.reduceSub, Nat.reduceLT]; repeat' (first | exact Ok.out | with_reducible refine And.intro ?_ ?_))
  rintro ⟨rest, k⟩ ⟨h1, h⟩ IH
  dsimp only at h1 h
  cases rest with
  | nil =>
    have hlt := drop_nil h1
    simp only [Ar.mays, Bool.not_true, Bool.false_eq_true, ↓reduceIte] at h
    repeat' (first
 | simp only [go_sem, hlt, hget, hpu, hinc, Int.reduceLE, ↓reduceIte, reduceCtorEq, Nat.reduceEqDiff, Nat.reduceLeDiff, Nat.reduceAdd, Nat.reduceMul, Nat.reduceSub, Nat.reduceLT]
 | (with_reducible first | refine CB_ofT (by assumption) fun hc => ?_ | refine CB_ofF (by assumption) fun hc => ?_ | refine CB_split (fun hc => ?_) fun hc => ?_) <;> (try simp only [hc, bs, ↓reduceIte] at h) <;> (try simp only [hc])
 | ((with_reducible first | refine leafR hQ ?_ | refine leafN hQ ?_); (try cases h); simp only [resL, oneD, Option.some.injEq, exists_eq_left', go_sem, hlt, hget, hpu, hinc, Int.reduceLE, ↓reduceIte, reduceCtorEq, Nat.reduceEqDiff, Nat.reduceLeDiff, Nat.reduceAdd, Nat.reduceMul, Nat.reduceSub, Nat.reduceLT]; repeat' (first | exact Ok.out | with_reducible refine And.intro ?_ ?_ | (simp; done)))
 | (cases h; replace h := hr; clear hr; (try simp only [bs, ↓reduceIte] at h))
 | (cases h; done))
    all_goals
      simp only [*]
      exact Ok.out
  | cons a rest =>
    obtain ⟨hget, g2, hlt, g4⟩ := drop_cons h1
    have ha := harg a (List.mem_of_getElem? hget)
    have hpu : k < 4611686018427387904 := by omega
    simp only [Ar.mays] at h
    repeat' (first
 | simp only [go_sem, hlt, hget, hpu, hinc, Int.reduceLE, ↓reduceIte, reduceCtorEq, Nat.reduceEqDiff, Nat.reduceLeDiff, Nat.reduceAdd, Nat.reduceMul, Nat.reduceSub, Nat.reduceLT]
 | (with_reducible refine CU (ha _) ?_)
 | (with_reducible first | refine CB_ofT (by assumption) fun hc => ?_ | refine CB_ofF (by assumption) fun hc => ?_ | refine CB_split (fun hc => ?_) fun hc => ?_) <;> (try simp only [hc, bs, ↓reduceIte] at h) <;> (try simp only [hc])
 | ((with_reducible first | refine leafR hQ ?_ | refine leafN hQ ?_); (try cases h); simp only [resL, oneD, Option.some.injEq, exists_eq_left', go_sem, hlt, hget, hpu, hinc, Int.reduceLE, ↓reduceIte, reduceCtorEq, Nat.reduceEqDiff, Nat.reduceLeDiff, Nat.reduceAdd, Nat.reduceMul, Nat.reduceSub, Nat.reduceLT]; repeat' (first | exact Ok.out | with_reducible refine And.intro ?_ ?_ | (simp; done)))
 | (cases h; replace h := hr; clear hr; (try simp only [bs, ↓reduceIte] at h))
 | (cases h; done))
    refine SemL.re _ _ 1 0 (by rw [hB]; exact Nat.le_of_ble_eq_true rfl) (by rw [hB]; exact Nat.le_of_ble_eq_true rfl) ?_ ?_ (IH (rest, k + 1) ⟨g2, h⟩ (Nat.lt_succ_self _))
    · (simp only [go_sem, hlt, hget, hpu, hinc, Int.reduceLE, ↓reduceIte, reduceCtorEq, Nat.reduceEqDiff, Nat.reduceLeDiff, Nat.reduceAdd, Nat.reduceMul, Nat.reduceSub, Nat.reduceLT]; repeat' (first | exact Ok.out | with_reducible refine And.intro ?_ ?_))
    · (simp only [go_sem, hlt, hget, hpu, hinc, Int.reduceLE, ↓reduceIte, reduceCtorEq, Nat.reduceEqDiff, Nat.reduceLeDiff, Nat.reduceAdd, Nat.reduceMul, Nat.reduceSub, Nat.reduceLT]; repeat' (first | exact Ok.out | with_reducible refine And.intro ?_ ?_))

theorem one_3 {cl : Bool} (hf : v.Fine) (hB : B.s = ⟨[], []⟩) (hQ : retF 0 0 [(2, none)] (.bool p) ⟨[], []⟩ = Q)
    (h : (if !(cl == !(v.proc == [])) || (cl && !(isName v.proc)) || (!cl && decide ((v.args.length : Int) > 0)) then false
      else if !(Ar.mays v.args) then false else ((v.thn.length : Int) == 0 || v.kind == 5 || v.kind == 6) && ((v.els.length : Int) == 0 || v.kind == 5)) = p) :
    Sem Tryd.prog B 178 QLF Q [(1, .ptr 0 0), (5, .bool cl)] ⟨[encSm v], []⟩ := by
  have hproc := RName_s v.proc hf.proc
  have hlt : 0 < 1 := Nat.zero_lt_one
  have hget : 0 < 1 := Nat.zero_lt_one
  have hpu : 0 < 1 := Nat.zero_lt_one
  have hinc : 0 < 1 := Nat.zero_lt_one
  refine Sem.seqW ?_
  repeat' (first
 | simp only [go_sem, hlt, hget, hpu, hinc, Int.reduceLE, ↓reduceIte, reduceCtorEq, Nat.reduceEqDiff, Nat.reduceLeDiff, Nat.reduceAdd, Nat.reduceMul, Nat.reduceSub, Nat.reduceLT]
 | (with_reducible refine CU (hproc _) ?_)
 | (with_reducible first | refine CB_ofT (by assumption) fun hc => ?_ | refine CB_ofF (by assumption) fun hc => ?_ | refine CB_split (fun hc => ?_) fun hc => ?_) <;> (try simp only [hc, bs, ↓reduceIte] at h) <;> (try simp only [hc])
 | ((with_reducible first | refine leafR hQ ?_ | refine leafN hQ ?_); (try cases h); simp only [resL, oneD, Option.some.injEq, exists_eq_left', go_sem, hlt, hget, hpu, hinc, Int.reduceLE, ↓reduceIte, reduceCtorEq, Nat.reduceEqDiff, Nat.reduceLeDiff, Nat.reduceAdd, Nat.reduceMul, Nat.reduceSub, Nat.reduceLT]; repeat' (first | exact Ok.out | with_reducible refine And.intro ?_ ?_ | (simp; done)))
 | (cases h; replace h := hr; clear hr; (try simp only [bs, ↓reduceIte] at h))
 | (cases h; done))
  all_goals
    refine Sem.re _ _ 1 0 (by rw [hB]; exact Nat.le_of_ble_eq_true rfl) (by rw [hB]; exact Nat.le_of_ble_eq_true rfl) ?_ ?_ (one_4 hf hB hQ h)
    · (simp only [go_sem, hlt, hget, hpu, hinc, Int.reduceLE, ↓reduceIte, reduceCtorEq, Nat.reduceEqDiff, Nat.reduceLeDiff, Nat.reduceAdd, Nat.reduceMul, Nat.reduceSub, Nat.reduceLT]; repeat' (first | exact Ok.out | with_reducible refine And.intro ?_ ?_))
    · (simp only [go_sem, hlt, hget, hpu, hinc, Int.reduceLE, ↓reduceIte, reduceCtorEq, Nat.reduceEqDiff, Nat.reduceLeDiff, Nat.reduceAdd, Nat.reduceMul, Nat.reduceSub, Nat.reduceLT]; repeat' (first | exact Ok.out | with_reducible refine And.intro ?_ ?_))

theorem one_2 {hn cl : Bool} (hf : v.Fine) (hB : B.s = ⟨[], []⟩) (hQ : retF 0 0 [(2, none)] (.bool p) ⟨[], []⟩ = Q)
    (h : (if (hn && !(isName v.name)) || (!hn && !(v.name == []) && !(cl && isName v.name)) then false
      else if !(cl == !(v.proc == [])) || (cl && !(isName v.proc)) || (!cl && decide ((v.args.length : Int) > 0)) then false
      else if !(Ar.mays v.args) then false else ((v.thn.length : Int) == 0 || v.kind == 5 || v.kind == 6) && ((v.els.length : Int) == 0 || v.kind == 5)) = p) :
    Sem Tryd.prog B 178 QLG Q [(1, .ptr 0 0), (4, .bool hn), (5, .bool cl)] ⟨[encSm v], []⟩ := by
  have hname := RName_s v.name hf.name
  have hlt : 0 < 1 := Nat.zero_lt_one
  have hget : 0 < 1 := Nat.zero_lt_one
  have hpu : 0 < 1 := Nat.zero_lt_one
  have hinc : 0 < 1 := Nat.zero_lt_one
  have k := @one_3 v B Q p cl hf hB hQ
  cases cl
  all_goals
    refine Sem.seqW ?_
    repeat' (first
 | simp only [go_sem, hlt, hget, hpu, hinc, Int.reduceLE, ↓reduceIte, reduceCtorEq, Nat.reduceEqDiff, Nat.reduceLeDiff, Nat.reduceAdd, Nat.reduceMul, Nat.reduceSub, Nat.reduceLT]
 | (with_reducible refine CU (hname _) ?_)
 | (with_reducible first | refine CB_ofT (by assumption) fun hc => ?_ | refine CB_ofF (by assumption) fun hc => ?_ | refine CB_split (fun hc => ?_) fun hc => ?_) <;> (try simp only [hc, bs, ↓reduceIte] at h) <;> (try simp only [hc])
 | ((with_reducible first | refine leafR hQ ?_ | refine leafN hQ ?_); (try cases h); simp only [resL, oneD, Option.some.injEq, exists_eq_left', go_sem, hlt, hget, hpu, hinc, Int.reduceLE, ↓reduceIte, reduceCtorEq, Nat.reduceEqDiff, Nat.reduceLeDiff, Nat.reduceAdd, Nat.reduceMul, Nat.reduceSub, Nat.reduceLT]; repeat' (first | exact Ok.out | with_reducible refine And.intro ?_ ?_ | (simp; done)))
 | (cases h; replace h := hr; clear hr; (try simp only [bs, ↓reduceIte] at h))
 | (cases h; done))
  all_goals
    refine Sem.re _ _ 1 0 (by rw [hB]; exact Nat.le_of_ble_eq_true rfl) (by rw [hB]; exact Nat.le_of_ble_eq_true rfl) ?_ ?_ (k (by simpa only [bs, ↓reduceIte] using h))
    · (simp only [go_sem, hlt, hget, hpu, hinc, Int.reduceLE, ↓reduceIte, reduceCtorEq, Nat.reduceEqDiff, Nat.reduceLeDiff, Nat.reduceAdd, Nat.reduceMul, Nat.reduceSub, Nat.reduceLT]; repeat' (first | exact Ok.out | with_reducible refine And.intro ?_ ?_))
    · (simp only [go_sem, hlt, hget, hpu, hinc, Int.reduceLE, ↓reduceIte, reduceCtorEq, Nat.reduceEqDiff, Nat.reduceLeDiff, Nat.reduceAdd, Nat.reduceMul, Nat.reduceSub, Nat.reduceLT]; repeat' (first | exact Ok.out | with_reducible refine And.intro ?_ ?_))

theorem one_1 {hx hn cl : Bool} (hf : v.Fine) (hB : B.s = ⟨[], []⟩) (hQ : retF 0 0 [(2, none)] (.bool p) ⟨[], []⟩ = Q)
    (h : (if decide (v.kind < 1) || decide (v.kind > 10) || !(mayNames v.labels) || (hx && !(v.x.may)) || (!hx && !(v.x.none)) || (v.has && v.kind != 9) then false
      else if (hn && !(isName v.name)) || (!hn && !(v.name == []) && !(cl && isName v.name)) then false
      else if !(cl == !(v.proc == [])) || (cl && !(isName v.proc)) || (!cl && decide ((v.args.length : Int) > 0)) then false
      else if !(Ar.mays v.args) then false else ((v.thn.length : Int) == 0 || v.kind == 5 || v.kind == 6) && ((v.els.length : Int) == 0 || v.kind == 5)) = p) :
    Sem Tryd.prog B 178 QLH Q [(1, .ptr 0 0), (3, .bool hx), (4, .bool hn), (5, .bool cl)] ⟨[encSm v], []⟩ := by
  have hns := fun s => names_s' hf.labl hf.lab s
  have hm := MayExpr_s hf.x hf.xt
  have hlt : 0 < 1 := Nat.zero_lt_one
  have hget : 0 < 1 := Nat.zero_lt_one
  have hpu : 0 < 1 := Nat.zero_lt_one
  have hinc : 0 < 1 := Nat.zero_lt_one
  refine Sem.seqW ?_
  repeat' (first
 | simp only [go_sem, hlt, hget, hpu, hinc, Int.reduceLE, ↓reduceIte, reduceCtorEq, Nat.reduceEqDiff, Nat.reduceLeDiff, Nat.reduceAdd, Nat.reduceMul, Nat.reduceSub, Nat.reduceLT]
 | (with_reducible refine CU (hns _) ?_)
 | (with_reducible refine CU (hm _) ?_)
 | (with_reducible refine CU (none_s _ _) ?_)
 | (with_reducible first | refine CB_ofT (by assumption) fun hc => ?_ | refine CB_ofF (by assumption) fun hc => ?_ | refine CB_split (fun hc => ?_) fun hc => ?_) <;> (try simp only [hc, bs, ↓reduceIte] at h) <;> (try simp only [hc])
 | ((with_reducible first | refine leafR hQ ?_ | refine leafN hQ ?_); (try cases h); simp only [resL, oneD, Option.some.injEq, exists_eq_left', go_sem, hlt, hget, hpu, hinc, Int.reduceLE, ↓reduceIte, reduceCtorEq, Nat.reduceEqDiff, Nat.reduceLeDiff, Nat.reduceAdd, Nat.reduceMul, Nat.reduceSub, Nat.reduceLT]; repeat' (first | exact Ok.out | with_reducible refine And.intro ?_ ?_ | (simp; done)))
 | (cases h; replace h := hr; clear hr; (try simp only [bs, ↓reduceIte] at h))
 | (cases h; done))
  all_goals
    refine Sem.re _ _ 1 0 (by rw [hB]; exact Nat.le_of_ble_eq_true rfl) (by rw [hB]; exact Nat.le_of_ble_eq_true rfl) ?_ ?_ (one_2 hf hB hQ h)
    · (simp only [go_sem, hlt, hget, hpu, hinc, Int.reduceLE, ↓reduceIte, reduceCtorEq, Nat.reduceEqDiff, Nat.reduceLeDiff, Nat.reduceAdd, Nat.reduceMul, Nat.reduceSub, Nat.reduceLT]; repeat' (first | exact Ok.out | with_reducible refine And.intro ?_ ?_))
    · (simp only [go_sem, hlt, hget, hpu, hinc, Int.reduceLE, ↓reduceIte, reduceCtorEq, Nat.reduceEqDiff, Nat.reduceLeDiff, Nat.reduceAdd, Nat.reduceMul, Nat.reduceSub, Nat.reduceLT]; repeat' (first | exact Ok.out | with_reducible refine And.intro ?_ ?_))

theorem one_c {hx hn : Bool} (hf : v.Fine) (hB : B.s = ⟨[], []⟩) (hQ : retF 0 0 [(2, none)] (.bool p) ⟨[], []⟩ = Q) (ex : v.hasX = hx) (en : v.hasName = hn) (h : v.one = p) :
    Sem Tryd.prog B 178 QLI Q [(1, .ptr 0 0), (3, .bool hx), (4, .bool hn)] ⟨[encSm v], []⟩ := by
  unfold Sm.one at h
  rw [ex, en] at h
  have hlt : 0 < 1 := Nat.zero_lt_one
  have hget : 0 < 1 := Nat.zero_lt_one
  have hpu : 0 < 1 := Nat.zero_lt_one
  have hinc : 0 < 1 := Nat.zero_lt_one
  refine Sem.seqW ?_
  repeat' (first
 | simp only [go_sem, hlt, hget, hpu, hinc, Int.reduceLE, ↓reduceIte, reduceCtorEq, Nat.reduceEqDiff, Nat.reduceLeDiff, Nat.reduceAdd, Nat.reduceMul, Nat.reduceSub, Nat.reduceLT]
 | (with_reducible first | refine CB_ofT (by assumption) fun hc => ?_ | refine CB_ofF (by assumption) fun hc => ?_ | refine CB_split (fun hc => ?_) fun hc => ?_) <;> (try simp only [hc, bs, ↓reduceIte] at h) <;> (try simp only [hc])
 | ((with_reducible first | refine leafR hQ ?_ | refine leafN hQ ?_); (try cases h); simp only [resL, oneD, Option.some.injEq, exists_eq_left', go_sem, hlt, hget, hpu, hinc, Int.reduceLE, ↓reduceIte, reduceCtorEq, Nat.reduceEqDiff, Nat.reduceLeDiff, Nat.reduceAdd, Nat.reduceMul, Nat.reduceSub, Nat.reduceLT]; repeat' (first | exact Ok.out | with_reducible refine And.intro ?_ ?_ | (simp; done)))
 | (cases h; replace h := hr; clear hr; (try simp only [bs, ↓reduceIte] at h))
 | (cases h; done))
  refine Sem.re _ _ 1 0 (by rw [hB]; exact Nat.le_of_ble_eq_true rfl) (by rw [hB]; exact Nat.le_of_ble_eq_true rfl) ?_ ?_ (one_1 hf hB hQ h)
  · (simp only [go_sem, hlt, hget, hpu, hinc, Int.reduceLE, ↓reduceIte, reduceCtorEq, Nat.reduceEqDiff, Nat.reduceLeDiff, Nat.reduceAdd, Nat.reduceMul, Nat.reduceSub, Nat.reduceLT, Sm.isCall]; repeat' (first | exact Ok.out | with_reducible refine And.intro ?_ ?_))
  · (simp only [go_sem, hlt, hget, hpu, hinc, Int.reduceLE, ↓reduceIte, reduceCtorEq, Nat.reduceEqDiff, Nat.reduceLeDiff, Nat.reduceAdd, Nat.reduceMul, Nat.reduceSub, Nat.reduceLT, Sm.isCall]; repeat' (first | exact Ok.out | with_reducible refine And.intro ?_ ?_))

theorem one_b {hx : Bool} (hf : v.Fine) (hB : B.s = ⟨[], []⟩) (hQ : retF 0 0 [(2, none)] (.bool p) ⟨[], []⟩ = Q) (ex : v.hasX = hx) (hp : v.one = p) :
    Sem Tryd.prog B 178 QLJ Q [(1, .ptr 0 0), (3, .bool hx)] ⟨[encSm v], []⟩ := by
  generalize h : v.hasName = hn
  have hn := h
  unfold Sm.hasName at h
  have hlt : 0 < 1 := Nat.zero_lt_one
  have hget : 0 < 1 := Nat.zero_lt_one
  have hpu : 0 < 1 := Nat.zero_lt_one
  have hinc : 0 < 1 := Nat.zero_lt_one
  refine Sem.seqW ?_
  repeat' (first
 | simp only [go_sem, hlt, hget, hpu, hinc, Int.reduceLE, ↓reduceIte, reduceCtorEq, Nat.reduceEqDiff, Nat.reduceLeDiff, Nat.reduceAdd, Nat.reduceMul, Nat.reduceSub, Nat.reduceLT]
 | (with_reducible first | refine CB_ofT (by assumption) fun hc => ?_ | refine CB_ofF (by assumption) fun hc => ?_ | refine CB_split (fun hc => ?_) fun hc => ?_) <;> (try simp only [hc, bs, ↓reduceIte] at h) <;> (try simp only [hc])
 | ((with_reducible first | refine leafR hQ ?_ | refine leafN hQ ?_); (try cases h); simp only [resL, oneD, Option.some.injEq, exists_eq_left', go_sem, hlt, hget, hpu, hinc, Int.reduceLE, ↓reduceIte, reduceCtorEq, Nat.reduceEqDiff, Nat.reduceLeDiff, Nat.reduceAdd, Nat.reduceMul, Nat.reduceSub, Nat.reduceLT]; repeat' (first | exact Ok.out | with_reducible refine And.intro ?_ ?_ | (simp; done)))
 | (cases h; replace h := hr; clear hr; (try simp only [bs, ↓reduceIte] at h))
 | (cases h; done))
  all_goals
    refine Sem.re _ _ 1 0 (by rw [hB]; exact Nat.le_of_ble_eq_true rfl) (by rw [hB]; exact Nat.le_of_ble_eq_true rfl) ?_ ?_ (one_c hf hB hQ ex hn hp)
    · (simp only [go_sem, hlt, hget, hpu, hinc, Int.reduceLE, ↓reduceIte, reduceCtorEq, Nat.reduceEqDiff, Nat.reduceLeDiff, Nat.reduceAdd, Nat.reduceMul, Nat.reduceSub, Nat.reduceLT, h]; repeat' (first | exact Ok.out | with_reducible refine And.intro ?_ ?_))
    · (simp only [go_sem, hlt, hget, hpu, hinc, Int.reduceLE, ↓reduceIte, reduceCtorEq, Nat.reduceEqDiff, Nat.reduceLeDiff, Nat.reduceAdd, Nat.reduceMul, Nat.reduceSub, Nat.reduceLT, h]; repeat' (first | exact Ok.out | with_reducible refine And.intro ?_ ?_))

theorem one_a (hf : v.Fine) (hB : B.s = ⟨[], []⟩) (hQ : retF 0 0 [(2, none)] (.bool p) ⟨[], []⟩ = Q) (hp : v.one = p) :
    Sem Tryd.prog B 178 QLK Q [(1, .ptr 0 0)] ⟨[encSm v], []⟩ := by
  generalize h : v.hasX = hx
  have ex := h
  unfold Sm.hasX at h
  have hlt : 0 < 1 := Nat.zero_lt_one
  have hget : 0 < 1 := Nat.zero_lt_one
  have hpu : 0 < 1 := Nat.zero_lt_one
  have hinc : 0 < 1 := Nat.zero_lt_one
  refine Sem.seqW ?_
  repeat' (first
 | simp only [go_sem, hlt, hget, hpu, hinc, Int.reduceLE, ↓reduceIte, reduceCtorEq, Nat.reduceEqDiff, Nat.reduceLeDiff, Nat.reduceAdd, Nat.reduceMul, Nat.reduceSub, Nat.reduceLT]
 | (with_reducible first | refine CB_ofT (by assumption) fun hc => ?_ | refine CB_ofF (by assumption) fun hc => ?_ | refine CB_split (fun hc => ?_) fun hc => ?_) <;> (try simp only [hc, bs, ↓reduceIte] at h) <;> (try simp only [hc])
 | ((with_reducible first | refine leafR hQ ?_ | refine leafN hQ ?_); (try cases h); simp only [resL, oneD, Option.some.injEq, exists_eq_left', go_sem, hlt, hget, hpu, hinc, Int.reduceLE, ↓reduceIte, reduceCtorEq, Nat.reduceEqDiff, Nat.reduceLeDiff, Nat.reduceAdd, Nat.reduceMul, Nat.reduceSub, Nat.reduceLT]; repeat' (first | exact Ok.out | with_reducible refine And.intro ?_ ?_ | (simp; done)))
 | (cases h; replace h := hr; clear hr; (try simp only [bs, ↓reduceIte] at h))
 | (cases h; done))
  all_goals
    refine Sem.re _ _ 1 0 (by rw [hB]; exact Nat.le_of_ble_eq_true rfl) (by rw [hB]; exact Nat.le_of_ble_eq_true rfl) ?_ ?_ (one_b hf hB hQ ex hp)
    · (simp only [go_sem, hlt, hget, hpu, hinc, Int.reduceLE, ↓reduceIte, reduceCtorEq, Nat.reduceEqDiff, Nat.reduceLeDiff, Nat.reduceAdd, Nat.reduceMul, Nat.reduceSub, Nat.reduceLT, h]; repeat' (first | exact Ok.out | with_reducible refine And.intro ?_ ?_))
    · (simp only [go_sem, hlt, hget, hpu, hinc, Int.reduceLE, ↓reduceIte, reduceCtorEq, Nat.reduceEqDiff, Nat.reduceLeDiff, Nat.reduceAdd, Nat.reduceMul, Nat.reduceSub, Nat.reduceLT, h]; repeat' (first | exact Ok.out | with_reducible refine And.intro ?_ ?_))
end

theorem Fun.goS {P : Program} {f : FuncId} {nt : Nat} {res : List (Nat × Option (Bool × Nat))} {body : AC} {args : List D} {s : St} {d : D} {s' : St} (h0 : Has P f nt res body) (hl : Nat.ble args.length nt = true)
    (h : ∀ (B : Base) (Q : Exit → Tm → St → Prop), B.s = s → retF s.objs.length s.toks.length res d s' = Q → Sem P B nt body Q (argTm 0 args) s) : Fun P f args s d s' := by
  obtain ⟨fn, hf, hc⟩ := h0
  exact Fun.intro ⟨fn, hf, hc⟩ (Nat.le_of_ble_eq_true hl) fun B hB => h B _ hB rfl

theorem one_s {v : Sm} (hf : v.Fine) (s : St) : Fun Tryd.prog n_ref3_one [.agg (encSm v)] s (.bool v.one) s := by
  refine Fun.pure ?_ (by simp [D.oks, D.ok, okSm]) rfl s
  unfold S0
  refine Fun.goS has_ref3_one rfl fun B Q hB hQ => ?_
  have hlt : 0 < 1 := Nat.zero_lt_one
  have hget : 0 < 1 := Nat.zero_lt_one
  have hpu : 0 < 1 := Nat.zero_lt_one
  have hinc : 0 < 1 := Nat.zero_lt_one
  refine Sem.seqW ?_
  repeat' (first
 | simp only [go_sem, hlt, hget, hpu, hinc, Int.reduceLE, ↓reduceIte, reduceCtorEq, Nat.reduceEqDiff, Nat.reduceLeDiff, Nat.reduceAdd, Nat.reduceMul, Nat.reduceSub, Nat.reduceLT]
 | (with_reducible first | refine CB_ofT (by assumption) fun hc => ?_ | refine CB_ofF (by assumption) fun hc => ?_ | refine CB_split (fun hc => ?_) fun hc => ?_) <;> (try simp only [hc, bs, ↓reduceIte] at h) <;> (try simp only [hc])
 | ((with_reducible first | refine leafR hQ ?_ | refine leafN hQ ?_); (try cases h); simp only [resL, oneD, Option.some.injEq, exists_eq_left', go_sem, hlt, hget, hpu, hinc, Int.reduceLE, ↓reduceIte, reduceCtorEq, Nat.reduceEqDiff, Nat.reduceLeDiff, Nat.reduceAdd, Nat.reduceMul, Nat.reduceSub, Nat.reduceLT]; repeat' (first | exact Ok.out | with_reducible refine And.intro ?_ ?_ | (simp; done)))
 | (cases h; replace h := hr; clear hr; (try simp only [bs, ↓reduceIte] at h))
 | (cases h; done))
  refine Sem.re _ _ 1 0 (by rw [hB]; exact Nat.le_of_ble_eq_true rfl) (by rw [hB]; exact Nat.le_of_ble_eq_true rfl) ?_ ?_ (one_a hf hB hQ rfl)
  · (simp only [go_sem, hlt, hget, hpu, hinc, Int.reduceLE, ↓reduceIte, reduceCtorEq, Nat.reduceEqDiff, Nat.reduceLeDiff, Nat.reduceAdd, Nat.reduceMul, Nat.reduceSub, Nat.reduceLT]; repeat' (first | exact Ok.out | with_reducible refine And.intro ?_ ?_))
  · (simp only [go_sem, hlt, hget, hpu, hinc, Int.reduceLE, ↓reduceIte, reduceCtorEq, Nat.reduceEqDiff, Nat.reduceLeDiff, Nat.reduceAdd, Nat.reduceMul, Nat.reduceSub, Nat.reduceLT]; repeat' (first | exact Ok.out | with_reducible refine And.intro ?_ ?_))

end Go.Abs
