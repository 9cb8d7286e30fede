/-
  What is proved here: part 2 of the road to the claim (Codes1, Have1, Codes2, Have2, Codes3, Have3, Prs, Lex1, Lex2, RefLex1, Prs2, Ref1, Ref2, Ref3, RefMay1, Full1, Full2, MirEq, RefEq, RefEq2, Prs3, Prs4, Prs5, Prs6, Lex3, Tree1, Tree2, MirParse, Prs7, Room1, Binds1, Full3, Rng, RefMay2, RefMay3).
  No conditions.
-/
import Derived.Test.YtcknbmdkefcinaaDoorPyE1
import Derived.Test.YtcknbmdkefcinaaDoorProg
import Derived.KernelRfl

set_option linter.unusedSimpArgs false
set_option linter.unusedVariables false

/-! Codes1 -/

namespace Go.Abs

abbrev QBV : AC := .run [(.op (some 6) none (.mv (.s 1))), (.op (some 7) none (.bin .gtr (.s 6) (.k (.int .i64 0))))]
abbrev QBW : AC := .cond (.s 7) .skip (.exit 0)
abbrev QBX : AC := .seq QBV QBW
abbrev QBY : AC := .run [(.op (some 10) none (.mv (.s 0))), (.op (some 11) none (.nilck (.s 10))), (.op (some 12) none (.faddr (.s 11) 0)), (.call (some 13) none n_strings_Builder_WriteByte [(.s 12), (.k (.int .u8 32))])]
abbrev QBZ : AC := .block 1 QBY
abbrev QC0 : AC := .run [(.op (some 8) none (.mv (.s 1))), (.op (some 9) none (.bin .sub (.s 8) (.k (.int .i64 1)))), (.op (some 1) none (.mv (.s 9)))]
abbrev QC1 : AC := .seq QBZ QC0
abbrev QC2 : AC := .seq QBX QC1
abbrev QC3 : AC := .loop QC2
abbrev QC4 : AC := .block 0 QC3
abbrev QC5 : AC := .run [(.op (some 14) none (.mv (.s 0))), (.op (some 15) none (.nilck (.s 14))), (.op (some 16) none (.faddr (.s 15) 0)), (.op (some 17) none (.mv (.s 2))), (.call (some 18) none n_strings_Builder_WriteString [(.s 16), (.s 17)])]
abbrev QC6 : AC := .run [(.op (some 19) none (.mv (.s 0))), (.op (some 20) none (.nilck (.s 19))), (.op (some 21) none (.faddr (.s 20) 0)), (.call (some 22) none n_strings_Builder_WriteByte [(.s 21), (.k (.int .u8 10))])]
abbrev QC7 : AC := .seq QC5 QC6
abbrev QC8 : AC := .seq QC4 QC7
abbrev QC9 : AC := .run [(.op (some 2) none (.mv (.k (.str []))))]
abbrev QCA : AC := .run [(.op (some 3) none (.mv (.s 0)))]
abbrev QCB : AC := .run [(.op (some 2) none (.mv (.k (.str [114, 101, 102, 32]))))]
abbrev QCC : AC := .seq QCB .ret
abbrev QCD : AC := .cond (.s 3) QCC .skip
abbrev QCE : AC := .seq QCA QCD
abbrev QCF : AC := .run [(.op (some 2) none (.mv (.k (.str []))))]
abbrev QCG : AC := .seq QCF .ret
abbrev QCH : AC := .seq QCE QCG
abbrev QCI : AC := .seq QC9 QCH
abbrev QCJ : AC := .run [(.op (some 9) none (.mv (.s 1))), (.op (some 10) none (.len (.s 9))), (.op (some 11) none (.mv (.k (.int .i64 0))))]
abbrev QCK : AC := .run [(.op (some 12) none (.bin .lss (.s 11) (.s 10)))]
abbrev QCL : AC := .cond (.s 12) .skip (.exit 0)
abbrev QCM : AC := .run [(.op (some 13) none (.iaddr (.s 9) (.s 11) 13)), (.op (some 14) none (.load (.s 13) true 13)), (.op (some 7) none (.alloc [(.int .i64 0), (.int .i64 0), (.slice .full 0 []), (.str []), (.str []), (.int .i64 0), (.int .i64 0), (.str []), (.slice .full 0 []), (.bool false), (.slice .full 0 []), (.slice .full 0 []), (.slice .full 0 [])])), (.op none none (.store (.s 7) (.s 14) 13))]
abbrev QCN : AC := .run [(.op (some 15) none (.faddr (.s 7) 2)), (.op (some 16) none (.load (.s 15) false 1)), (.call (some 17) none n_print_marks [(.s 16)]), (.op (some 8) none (.mv (.s 17)))]
abbrev QCO : AC := .run [(.op (some 18) none (.faddr (.s 7) 1)), (.op (some 19) none (.load (.s 18) false 1))]
abbrev QCP : AC := .run [(.op (some 29) none (.bin .eql (.s 19) (.k (.int .i64 6)))), (.op (some 28) none (.mv (.s 29)))]
abbrev QCQ : AC := .run [(.op (some 30) none (.mv (.s 0))), (.op (some 31) none (.mv (.s 2))), (.op (some 32) none (.mv (.s 8))), (.op (some 33) none (.bin .add (.s 32) (.k (.str [119, 104, 105, 108, 101, 32, 40])))), (.op (some 34) none (.faddr (.s 7) 5)), (.op (some 35) none (.load (.s 34) true 4)), (.call (some 36) none n_print_expr [(.s 35), (.k (.int .i64 0))]), (.op (some 37) none (.bin .add (.s 33) (.s 36))), (.op (some 38) none (.bin .add (.s 37) (.k (.str [41, 32, 123])))), (.call (some 39) none n_print_writer_line [(.s 30), (.s 31), (.s 38)])]
abbrev QCR : AC := .run [(.op (some 40) none (.mv (.s 0))), (.op (some 41) none (.faddr (.s 7) 11)), (.op (some 42) none (.load (.s 41) false 1)), (.op (some 43) none (.mv (.s 2))), (.op (some 44) none (.bin .add (.s 43) (.k (.int .i64 1)))), (.call (some 45) none n_print_writer_rows [(.s 40), (.s 42), (.s 44)])]
abbrev QCS : AC := .run [(.op (some 46) none (.mv (.s 0))), (.op (some 47) none (.mv (.s 2))), (.call (some 48) none n_print_writer_line [(.s 46), (.s 47), (.k (.str [125]))])]
abbrev QCT : AC := .seq QCR QCS
abbrev QCU : AC := .seq QCQ QCT
abbrev QCV : AC := .run [(.op (some 50) none (.bin .eql (.s 19) (.k (.int .i64 5)))), (.op (some 49) none (.mv (.s 50)))]
abbrev QCW : AC := .run [(.op (some 51) none (.mv (.s 0))), (.op (some 52) none (.mv (.s 2))), (.op (some 53) none (.mv (.s 8))), (.op (some 54) none (.bin .add (.s 53) (.k (.str [105, 102, 32, 40])))), (.op (some 55) none (.faddr (.s 7) 5)), (.op (some 56) none (.load (.s 55) true 4)), (.call (some 57) none n_print_expr [(.s 56), (.k (.int .i64 0))]), (.op (some 58) none (.bin .add (.s 54) (.s 57))), (.op (some 59) none (.bin .add (.s 58) (.k (.str [41, 32, 123])))), (.call (some 60) none n_print_writer_line [(.s 51), (.s 52), (.s 59)])]
abbrev QCX : AC := .run [(.op (some 61) none (.mv (.s 0))), (.op (some 62) none (.faddr (.s 7) 11)), (.op (some 63) none (.load (.s 62) false 1)), (.op (some 64) none (.mv (.s 2))), (.op (some 65) none (.bin .add (.s 64) (.k (.int .i64 1)))), (.call (some 66) none n_print_writer_rows [(.s 61), (.s 63), (.s 65)])]
abbrev QCY : AC := .run [(.op (some 67) none (.faddr (.s 7) 12)), (.op (some 68) none (.load (.s 67) false 1)), (.op (some 69) none (.len (.s 68))), (.op (some 70) none (.bin .gtr (.s 69) (.k (.int .i64 0))))]
abbrev QCZ : AC := .run [(.op (some 71) none (.mv (.s 0))), (.op (some 72) none (.mv (.s 2))), (.call (some 73) none n_print_writer_line [(.s 71), (.s 72), (.k (.str [125, 32, 101, 108, 115, 101, 32, 123]))])]
abbrev QD0 : AC := .run [(.op (some 74) none (.mv (.s 0))), (.op (some 75) none (.faddr (.s 7) 12)), (.op (some 76) none (.load (.s 75) false 1)), (.op (some 77) none (.mv (.s 2))), (.op (some 78) none (.bin .add (.s 77) (.k (.int .i64 1)))), (.call (some 79) none n_print_writer_rows [(.s 74), (.s 76), (.s 78)])]
abbrev QD1 : AC := .seq QCZ QD0
abbrev QD2 : AC := .cond (.s 70) QD1 .skip
abbrev QD3 : AC := .seq QCY QD2
abbrev QD4 : AC := .run [(.op (some 80) none (.mv (.s 0))), (.op (some 81) none (.mv (.s 2))), (.call (some 82) none n_print_writer_line [(.s 80), (.s 81), (.k (.str [125]))])]
abbrev QD5 : AC := .seq QD3 QD4
abbrev QD6 : AC := .seq QCX QD5
abbrev QD7 : AC := .seq QCW QD6
abbrev QD8 : AC := .run [(.op (some 20) none (.mv (.s 0))), (.op (some 21) none (.mv (.s 2))), (.op (some 22) none (.mv (.s 8))), (.op (some 23) none (.load (.s 7) true 13)), (.call (some 24) none n_print_plain [(.s 23)]), (.op (some 25) none (.bin .add (.s 22) (.s 24))), (.op (some 26) none (.bin .add (.s 25) (.k (.str [59])))), (.call (some 27) none n_print_writer_line [(.s 20), (.s 21), (.s 26)])]
abbrev QD9 : AC := .cond (.s 49) QD7 QD8
abbrev QDA : AC := .seq QCV QD9
abbrev QDB : AC := .cond (.s 28) QCU QDA
abbrev QDC : AC := .seq QCP QDB
abbrev QDD : AC := .block 2 QDC
abbrev QDE : AC := .seq QCO QDD
abbrev QDF : AC := .seq QCN QDE
abbrev QDG : AC := .seq QCM QDF
abbrev QDH : AC := .block 1 QDG
abbrev QDI : AC := .run [(.op (some 83) none (.bin .add (.s 11) (.k (.int .i64 1)))), (.op (some 11) none (.mv (.s 83)))]
abbrev QDJ : AC := .seq QDH QDI
abbrev QDK : AC := .seq QCL QDJ
abbrev QDL : AC := .seq QCK QDK
abbrev QDM : AC := .loop QDL
abbrev QDN : AC := .block 0 QDM
abbrev QDO : AC := .seq QCJ QDN
abbrev QDP : AC := .run [(.op (some 2) none (.mv (.k (.str []))))]
abbrev QDQ : AC := .run [(.op (some 3) none (.mv (.k (.str []))))]
abbrev QDR : AC := .run [(.op (some 6) none (.mv (.s 0))), (.op (some 7) none (.len (.s 6))), (.op (some 8) none (.mv (.k (.int .i64 0))))]
abbrev QDS : AC := .run [(.op (some 9) none (.bin .lss (.s 8) (.s 7)))]
abbrev QDT : AC := .cond (.s 9) .skip (.exit 0)
abbrev QDU : AC := .run [(.op (some 10) none (.iaddr (.s 6) (.s 8) 1)), (.op (some 11) none (.load (.s 10) false 1)), (.op (some 5) none (.mv (.s 11)))]
abbrev QDV : AC := .run [(.op (some 12) none (.mv (.s 3))), (.op (some 13) none (.mv (.s 5))), (.op (some 14) none (.bin .add (.s 13) (.k (.str [58, 32])))), (.op (some 15) none (.bin .add (.s 12) (.s 14))), (.op (some 3) none (.mv (.s 15)))]
abbrev QDW : AC := .seq QDU QDV
abbrev QDX : AC := .block 1 QDW
abbrev QDY : AC := .run [(.op (some 16) none (.bin .add (.s 8) (.k (.int .i64 1)))), (.op (some 8) none (.mv (.s 16)))]
abbrev QDZ : AC := .seq QDX QDY
abbrev QE0 : AC := .seq QDT QDZ
abbrev QE1 : AC := .seq QDS QE0
abbrev QE2 : AC := .loop QE1
abbrev QE3 : AC := .block 0 QE2
abbrev QE4 : AC := .seq QDR QE3
abbrev QE5 : AC := .run [(.op (some 17) none (.mv (.s 3))), (.op (some 2) none (.mv (.s 17)))]
abbrev QE6 : AC := .seq QE5 .ret
abbrev QE7 : AC := .seq QE4 QE6
abbrev QE8 : AC := .seq QDQ QE7
abbrev QE9 : AC := .seq QDP QE8
abbrev QEA : AC := .run [(.op (some 2) none (.box (.s 0))), (.op (some 4) none (.mv (.k (.int .i64 0))))]
abbrev QEB : AC := .run [(.op (some 6) none (.faddr (.s 2) 2)), (.op (some 7) none (.load (.s 6) false 1)), (.op (some 8) none (.mv (.s 1))), (.call (some 9) none n_ref3_weighText [(.s 7), (.s 8)]), (.op (some 1) none (.mv (.s 9)))]
abbrev QEC : AC := .run [(.op (some 5) none (.mv (.k (.int .i64 0))))]
abbrev QED : AC := .run [(.op (some 10) none (.mv (.s 5))), (.op (some 11) none (.faddr (.s 2) 3)), (.op (some 12) none (.load (.s 11) false 1)), (.op (some 13) none (.len (.s 12))), (.op (some 14) none (.bin .lss (.s 10) (.s 13))), (.op (some 15) none (.mv (.s 14))), (.op (some 16) (some (15, true)) (.mv (.s 1))), (.op (some 17) (some (15, true)) (.bin .leq (.s 16) (.k (.int .i64 20000)))), (.op (some 18) none (.pick (.s 15) (.s 17) (.k (.bool false))))]
abbrev QEE : AC := .cond (.s 18) .skip (.exit 0)
abbrev QEF : AC := .seq QED QEE
abbrev QEG : AC := .run [(.op (some 21) none (.faddr (.s 2) 3)), (.op (some 22) none (.load (.s 21) false 1)), (.op (some 23) none (.mv (.s 5))), (.op (some 24) none (.iaddr (.s 22) (.s 23) 4)), (.op (some 25) none (.load (.s 24) true 4)), (.op (some 26) none (.mv (.s 1))), (.call (some 27) none n_ref3_weighExpr [(.s 25), (.s 26)]), (.op (some 1) none (.mv (.s 27)))]
abbrev QEH : AC := .block 1 QEG
abbrev QEI : AC := .run [(.op (some 19) none (.mv (.s 5))), (.op (some 20) none (.bin .add (.s 19) (.k (.int .i64 1)))), (.op (some 5) none (.mv (.s 20)))]
abbrev QEJ : AC := .seq QEH QEI
abbrev QEK : AC := .seq QEF QEJ
abbrev QEL : AC := .loop QEK
abbrev QEM : AC := .block 0 QEL
abbrev QEN : AC := .seq QEC QEM
abbrev QEO : AC := .run [(.op (some 28) none (.mv (.s 1))), (.op (some 4) none (.mv (.s 28)))]
abbrev QEP : AC := .seq QEO .ret
abbrev QEQ : AC := .seq QEN QEP
abbrev QER : AC := .seq QEB QEQ
abbrev QES : AC := .seq QEA QER
abbrev QET : AC := .run [(.op (some 1) none (.box (.s 0))), (.op (some 2) none (.mv (.k (.bool false))))]
abbrev QEU : AC := .run [(.op (some 3) none (.load (.s 1) true 4)), (.call (some 4) none n_tree_deep [(.s 3), (.k (.int .i64 20))]), (.op (some 2) none (.mv (.s 4)))]
abbrev QEV : AC := .seq QEU .ret
abbrev QEW : AC := .seq QET QEV
abbrev QEX : AC := .run [(.op (some 2) none (.box (.s 0))), (.op (some 4) none (.mv (.k (.str []))))]
abbrev QEY : AC := .run [(.op (some 8) none (.faddr (.s 2) 0)), (.op (some 9) none (.load (.s 8) false 1))]
abbrev QEZ : AC := .run [(.op (some 11) none (.bin .eql (.s 9) (.k (.int .i64 1)))), (.op (some 10) none (.mv (.s 11)))]
abbrev QF0 : AC := .run [(.op (some 12) none (.faddr (.s 2) 1)), (.op (some 13) none (.load (.s 12) false 1)), (.call (some 14) none n_strconv_FormatInt [(.s 13), (.k (.int .i64 10))]), (.op (some 4) none (.mv (.s 14)))]
abbrev QF1 : AC := .seq QF0 .ret
abbrev QF2 : AC := .run [(.op (some 16) none (.bin .eql (.s 9) (.k (.int .i64 2)))), (.op (some 15) none (.mv (.s 16)))]
abbrev QF3 : AC := .run [(.op (some 17) none (.faddr (.s 2) 2)), (.op (some 18) none (.load (.s 17) false 1)), (.op (some 4) none (.mv (.s 18)))]
abbrev QF4 : AC := .seq QF3 .ret
abbrev QF5 : AC := .run [(.op (some 20) none (.bin .eql (.s 9) (.k (.int .i64 3)))), (.op (some 19) none (.mv (.s 20)))]
abbrev QF6 : AC := .run [(.op (some 21) none (.faddr (.s 2) 3)), (.op (some 22) none (.load (.s 21) false 1)), (.op (some 23) none (.iaddr (.s 22) (.k (.int .i64 0)) 4)), (.op (some 24) none (.load (.s 23) true 4)), (.call (some 25) none n_print_expr [(.s 24), (.k (.int .i64 7))]), (.op (some 26) none (.bin .add (.k (.str [45])) (.s 25))), (.op (some 4) none (.mv (.s 26)))]
abbrev QF7 : AC := .seq QF6 .ret
abbrev QF8 : AC := .run [(.op (some 28) none (.bin .eql (.s 9) (.k (.int .i64 4)))), (.op (some 27) none (.mv (.s 28)))]
abbrev QF9 : AC := .run [(.op (some 29) none (.faddr (.s 2) 3)), (.op (some 30) none (.load (.s 29) false 1)), (.op (some 31) none (.iaddr (.s 30) (.k (.int .i64 0)) 4)), (.op (some 32) none (.load (.s 31) true 4)), (.call (some 33) none n_print_expr [(.s 32), (.k (.int .i64 7))]), (.op (some 34) none (.bin .add (.k (.str [33])) (.s 33))), (.op (some 4) none (.mv (.s 34)))]
abbrev QFA : AC := .seq QF9 .ret
abbrev QFB : AC := .cond (.s 27) QFA .skip
abbrev QFC : AC := .seq QF8 QFB
abbrev QFD : AC := .cond (.s 19) QF7 QFC
abbrev QFE : AC := .seq QF5 QFD
abbrev QFF : AC := .cond (.s 15) QF4 QFE
abbrev QFG : AC := .seq QF2 QFF
abbrev QFH : AC := .cond (.s 10) QF1 QFG
abbrev QFI : AC := .seq QEZ QFH
abbrev QFJ : AC := .block 0 QFI
abbrev QFK : AC := .seq QEY QFJ
abbrev QFL : AC := .run [(.op (some 36) none (.faddr (.s 2) 0)), (.op (some 37) none (.load (.s 36) false 1)), (.call (some 38) none n_print_sign [(.s 37)]), (.op (some 35) none (.mv (.s 38))), (.op (some 39) none (.ext (.s 35) 0)), (.op (some 40) none (.ext (.s 35) 1)), (.op (some 5) none (.mv (.s 39))), (.op (some 6) none (.mv (.s 40)))]
abbrev QFM : AC := .par [(.op (some 41) none (.faddr (.s 2) 3)), (.op (some 42) none (.load (.s 41) false 1)), (.op (some 43) none (.iaddr (.s 42) (.k (.int .i64 0)) 4)), (.op (some 44) none (.load (.s 43) true 4)), (.op (some 45) none (.mv (.s 6))), (.call (some 46) none n_print_expr [(.s 44), (.s 45)]), (.op (some 47) none (.bin .add (.s 46) (.k (.str [32])))), (.op (some 48) none (.mv (.s 5))), (.op (some 49) none (.bin .add (.s 47) (.s 48))), (.op (some 50) none (.bin .add (.s 49) (.k (.str [32])))), (.op (some 51) none (.faddr (.s 2) 3)), (.op (some 52) none (.load (.s 51) false 1)), (.op (some 53) none (.iaddr (.s 52) (.k (.int .i64 1)) 4)), (.op (some 54) none (.load (.s 53) true 4)), (.op (some 55) none (.mv (.s 6))), (.op (some 56) none (.bin .add (.s 55) (.k (.int .i64 1)))), (.call (some 57) none n_print_expr [(.s 54), (.s 56)]), (.op (some 58) none (.bin .add (.s 50) (.s 57))), (.op (some 7) none (.mv (.s 58)))] [(0, 0), (1, 0), (2, 0), (3, 0), (4, 0), (5, 0), (10, 0), (11, 1), (12, 0), (13, 1), (14, 0), (15, 0), (16, 0), (6, 0), (7, 0), (8, 0), (9, 0), (17, 0), (18, 0)]
abbrev QFN : AC := .run [(.op (some 59) none (.mv (.s 6))), (.op (some 60) none (.mv (.s 1))), (.op (some 61) none (.bin .lss (.s 59) (.s 60)))]
abbrev QFO : AC := .run [(.op (some 62) none (.mv (.s 7))), (.op (some 63) none (.bin .add (.k (.str [40])) (.s 62))), (.op (some 64) none (.bin .add (.s 63) (.k (.str [41])))), (.op (some 4) none (.mv (.s 64)))]
abbrev QFP : AC := .seq QFO .ret
abbrev QFQ : AC := .cond (.s 61) QFP .skip
abbrev QFR : AC := .seq QFN QFQ
abbrev QFS : AC := .run [(.op (some 65) none (.mv (.s 7))), (.op (some 4) none (.mv (.s 65)))]
abbrev QFT : AC := .seq QFS .ret
abbrev QFU : AC := .seq QFR QFT
abbrev QFV : AC := .seq QFM QFU
abbrev QFW : AC := .seq QFL QFV
abbrev QFX : AC := .seq QFK QFW
abbrev QFY : AC := .seq QEX QFX
abbrev QFZ : AC := .run [(.op (some 2) none (.mv (.k (.bool false))))]
abbrev QG0 : AC := .run [(.op (some 5) none (.mv (.s 0))), (.op (some 6) none (.len (.s 5))), (.op (some 7) none (.mv (.k (.int .i64 0))))]
abbrev QG1 : AC := .run [(.op (some 8) none (.bin .lss (.s 7) (.s 6)))]
abbrev QG2 : AC := .cond (.s 8) .skip (.exit 0)
abbrev QG3 : AC := .run [(.op (some 9) none (.iaddr (.s 5) (.s 7) 1)), (.op (some 10) none (.load (.s 9) false 1)), (.op (some 4) none (.mv (.s 10)))]
abbrev QG4 : AC := .run [(.op (some 11) none (.mv (.s 4))), (.call (some 12) none n_ref1_Name [(.s 11)]), (.op (some 13) none (.un .not (.s 12)))]
abbrev QG5 : AC := .run [(.op (some 2) none (.mv (.k (.bool false))))]
abbrev QG6 : AC := .seq QG5 .ret
abbrev QG7 : AC := .cond (.s 13) QG6 .skip
abbrev QG8 : AC := .seq QG4 QG7
abbrev QG9 : AC := .seq QG3 QG8
abbrev QGA : AC := .block 1 QG9
abbrev QGB : AC := .run [(.op (some 14) none (.bin .add (.s 7) (.k (.int .i64 1)))), (.op (some 7) none (.mv (.s 14)))]
abbrev QGC : AC := .seq QGA QGB
abbrev QGD : AC := .seq QG2 QGC
abbrev QGE : AC := .seq QG1 QGD
abbrev QGF : AC := .loop QGE
abbrev QGG : AC := .block 0 QGF
abbrev QGH : AC := .seq QG0 QGG
abbrev QGI : AC := .run [(.op (some 2) none (.mv (.k (.bool true))))]
abbrev QGJ : AC := .seq QGI .ret
abbrev QGK : AC := .seq QGH QGJ
abbrev QGL : AC := .seq QFZ QGK
abbrev QGM : AC := .run [(.op (some 2) none (.mv (.k (.bool false))))]
abbrev QGN : AC := .run [(.op (some 4) none (.mv (.s 0))), (.op (some 5) none (.bin .eql (.s 4) (.k (.str [])))), (.op (some 6) none (.mv (.s 5))), (.op (some 7) (some (6, false)) (.mv (.s 0))), (.op (some 8) (some (6, false)) (.slen (.s 7))), (.op (some 9) (some (6, false)) (.bin .gtr (.s 8) (.k (.int .i64 8)))), (.op (some 10) none (.pick (.s 6) (.k (.bool true)) (.s 9))), (.op (some 11) none (.mv (.s 10))), (.op (some 12) (some (11, false)) (.mv (.s 0))), (.op (some 13) (some (11, false)) (.sidx (.s 12) (.k (.int .i64 0)))), (.call (some 14) (some (11, false)) n_ref1_small [(.s 13)]), (.op (some 15) (some (11, false)) (.un .not (.s 14))), (.op (some 16) none (.pick (.s 11) (.k (.bool true)) (.s 15)))]
abbrev QGO : AC := .run [(.op (some 2) none (.mv (.k (.bool false))))]
abbrev QGP : AC := .seq QGO .ret
abbrev QGQ : AC := .cond (.s 16) QGP .skip
abbrev QGR : AC := .seq QGN QGQ
abbrev QGS : AC := .run [(.op (some 3) none (.mv (.k (.int .i64 1))))]
abbrev QGT : AC := .run [(.op (some 17) none (.mv (.s 3))), (.op (some 18) none (.mv (.s 0))), (.op (some 19) none (.slen (.s 18))), (.op (some 20) none (.bin .lss (.s 17) (.s 19)))]
abbrev QGU : AC := .cond (.s 20) .skip (.exit 0)
abbrev QGV : AC := .seq QGT QGU
abbrev QGW : AC := .run [(.op (some 23) none (.mv (.s 0))), (.op (some 24) none (.mv (.s 3))), (.op (some 25) none (.sidx (.s 23) (.s 24))), (.call (some 26) none n_ref1_small [(.s 25)]), (.op (some 27) none (.un .not (.s 26))), (.op (some 28) none (.mv (.s 27))), (.op (some 29) (some (28, true)) (.mv (.s 0))), (.op (some 30) (some (28, true)) (.mv (.s 3))), (.op (some 31) (some (28, true)) (.sidx (.s 29) (.s 30))), (.call (some 32) (some (28, true)) n_ref1_digit [(.s 31)]), (.op (some 33) (some (28, true)) (.un .not (.s 32))), (.op (some 34) none (.pick (.s 28) (.s 33) (.k (.bool false))))]
abbrev QGX : AC := .run [(.op (some 2) none (.mv (.k (.bool false))))]
abbrev QGY : AC := .seq QGX .ret
abbrev QGZ : AC := .cond (.s 34) QGY .skip
abbrev QH0 : AC := .seq QGW QGZ
abbrev QH1 : AC := .block 1 QH0
abbrev QH2 : AC := .run [(.op (some 21) none (.mv (.s 3))), (.op (some 22) none (.bin .add (.s 21) (.k (.int .i64 1)))), (.op (some 3) none (.mv (.s 22)))]
abbrev QH3 : AC := .seq QH1 QH2
abbrev QH4 : AC := .seq QGV QH3
abbrev QH5 : AC := .loop QH4
abbrev QH6 : AC := .block 0 QH5
abbrev QH7 : AC := .seq QGS QH6
abbrev QH8 : AC := .run [(.op (some 35) none (.mv (.s 0))), (.call (some 36) none n_ref1_Word [(.s 35)]), (.op (some 37) none (.un .not (.s 36))), (.op (some 2) none (.mv (.s 37)))]
abbrev QH9 : AC := .seq QH8 .ret
abbrev QHA : AC := .seq QH7 QH9
abbrev QHB : AC := .seq QGR QHA
abbrev QHC : AC := .seq QGM QHB
abbrev QHD : AC := .run [(.op (some 1) none (.box (.s 0))), (.op (some 2) none (.mv (.k (.slice .full 0 []))))]
abbrev QHE : AC := .run [(.op (some 3) none (.mv (.k (.slice .full 0 []))))]
abbrev QHF : AC := .run [(.op (some 6) none (.faddr (.s 1) 1)), (.op (some 7) none (.load (.s 6) false 1)), (.op (some 8) none (.len (.s 7))), (.op (some 9) none (.mv (.k (.int .i64 0))))]
abbrev QHG : AC := .run [(.op (some 10) none (.bin .lss (.s 9) (.s 8)))]
abbrev QHH : AC := .cond (.s 10) .skip (.exit 0)
abbrev QHI : AC := .run [(.op (some 11) none (.iaddr (.s 7) (.s 9) 5)), (.op (some 12) none (.load (.s 11) true 5)), (.op (some 5) none (.alloc [(.str []), (.slice .full 0 []), (.slice .full 0 []), (.slice .full 0 []), (.slice .full 0 [])])), (.op none none (.store (.s 5) (.s 12) 5))]
abbrev QHJ : AC := .run [(.op (some 13) none (.mv (.s 3))), (.op (some 14) none (.load (.s 5) true 5)), (.call (some 15) none n_ref3_Flat [(.s 14)]), (.op (some 16) none (.app 16 232 (.s 13) (.s 15))), (.op (some 3) none (.mv (.s 16)))]
abbrev QHK : AC := .run [(.op (some 17) none (.mv (.s 3))), (.op (some 18) none (.len (.s 17))), (.op (some 19) none (.bin .gtr (.s 18) (.k (.int .i64 200))))]
abbrev QHL : AC := .run [(.op (some 20) none (.mv (.s 3))), (.op (some 2) none (.mv (.s 20)))]
abbrev QHM : AC := .seq QHL .ret
abbrev QHN : AC := .cond (.s 19) QHM .skip
abbrev QHO : AC := .seq QHK QHN
abbrev QHP : AC := .seq QHJ QHO
abbrev QHQ : AC := .seq QHI QHP
abbrev QHR : AC := .block 1 QHQ
abbrev QHS : AC := .run [(.op (some 21) none (.bin .add (.s 9) (.k (.int .i64 1)))), (.op (some 9) none (.mv (.s 21)))]
abbrev QHT : AC := .seq QHR QHS
abbrev QHU : AC := .seq QHH QHT
abbrev QHV : AC := .seq QHG QHU
abbrev QHW : AC := .loop QHV
abbrev QHX : AC := .block 0 QHW
abbrev QHY : AC := .seq QHF QHX
abbrev QHZ : AC := .run [(.op (some 22) none (.mv (.s 3))), (.op (some 2) none (.mv (.s 22)))]
abbrev QI0 : AC := .seq QHZ .ret
abbrev QI1 : AC := .seq QHY QI0
abbrev QI2 : AC := .seq QHE QI1
abbrev QI3 : AC := .seq QHD QI2
abbrev QI4 : AC := .run [(.op (some 1) none (.box (.s 0))), (.op (some 2) none (.mv (.k (.bool false))))]
abbrev QI5 : AC := .run [(.op (some 8) none (.faddr (.s 1) 1)), (.op (some 9) none (.load (.s 8) false 1)), (.op (some 10) none (.bin .eql (.s 9) (.k (.int .i64 1)))), (.op (some 11) none (.mv (.s 10))), (.op (some 12) (some (11, false)) (.faddr (.s 1) 1)), (.op (some 13) (some (11, false)) (.load (.s 12) false 1)), (.op (some 14) (some (11, false)) (.bin .eql (.s 13) (.k (.int .i64 3)))), (.op (some 15) none (.pick (.s 11) (.k (.bool true)) (.s 14))), (.op (some 16) none (.mv (.s 15))), (.op (some 17) (some (16, false)) (.faddr (.s 1) 1)), (.op (some 18) (some (16, false)) (.load (.s 17) false 1)), (.op (some 19) (some (16, false)) (.bin .eql (.s 18) (.k (.int .i64 5)))), (.op (some 20) none (.pick (.s 16) (.k (.bool true)) (.s 19))), (.op (some 21) none (.mv (.s 20))), (.op (some 22) (some (21, false)) (.faddr (.s 1) 1)), (.op (some 23) (some (21, false)) (.load (.s 22) false 1)), (.op (some 24) (some (21, false)) (.bin .eql (.s 23) (.k (.int .i64 6)))), (.op (some 25) none (.pick (.s 21) (.k (.bool true)) (.s 24))), (.op (some 26) none (.mv (.s 25))), (.op (some 27) (some (26, false)) (.faddr (.s 1) 1)), (.op (some 28) (some (26, false)) (.load (.s 27) false 1)), (.op (some 29) (some (26, false)) (.bin .eql (.s 28) (.k (.int .i64 9)))), (.op (some 30) (some (26, false)) (.mv (.s 29))), (.op (some 31) (some (30, true)) (.faddr (.s 1) 9)), (.op (some 32) (some (30, true)) (.load (.s 31) false 1)), (.op (some 33) (some (26, false)) (.pick (.s 30) (.s 32) (.k (.bool false)))), (.op (some 34) none (.pick (.s 26) (.k (.bool true)) (.s 33))), (.op (some 3) none (.mv (.s 34)))]
abbrev QI6 : AC := .run [(.op (some 35) none (.faddr (.s 1) 1)), (.op (some 36) none (.load (.s 35) false 1)), (.op (some 37) none (.bin .eql (.s 36) (.k (.int .i64 1)))), (.op (some 38) none (.mv (.s 37))), (.op (some 39) (some (38, false)) (.faddr (.s 1) 1)), (.op (some 40) (some (38, false)) (.load (.s 39) false 1)), (.op (some 41) (some (38, false)) (.bin .eql (.s 40) (.k (.int .i64 2)))), (.op (some 42) none (.pick (.s 38) (.k (.bool true)) (.s 41))), (.op (some 43) none (.mv (.s 42))), (.op (some 44) (some (43, false)) (.faddr (.s 1) 1)), (.op (some 45) (some (43, false)) (.load (.s 44) false 1)), (.op (some 46) (some (43, false)) (.bin .eql (.s 45) (.k (.int .i64 10)))), (.op (some 47) none (.pick (.s 43) (.k (.bool true)) (.s 46))), (.op (some 4) none (.mv (.s 47)))]
abbrev QI7 : AC := .run [(.op (some 48) none (.faddr (.s 1) 1)), (.op (some 49) none (.load (.s 48) false 1)), (.op (some 50) none (.bin .eql (.s 49) (.k (.int .i64 4)))), (.op (some 5) none (.mv (.s 50)))]
abbrev QI8 : AC := .run [(.op (some 51) none (.faddr (.s 1) 1)), (.op (some 52) none (.load (.s 51) false 1)), (.op (some 53) none (.bin .lss (.s 52) (.k (.int .i64 1)))), (.op (some 54) none (.mv (.s 53))), (.op (some 55) (some (54, false)) (.faddr (.s 1) 1)), (.op (some 56) (some (54, false)) (.load (.s 55) false 1)), (.op (some 57) (some (54, false)) (.bin .gtr (.s 56) (.k (.int .i64 10)))), (.op (some 58) none (.pick (.s 54) (.k (.bool true)) (.s 57))), (.op (some 59) none (.mv (.s 58))), (.op (some 60) (some (59, false)) (.faddr (.s 1) 2)), (.op (some 61) (some (59, false)) (.load (.s 60) false 1)), (.call (some 62) (some (59, false)) n_ref3_names [(.s 61)]), (.op (some 63) (some (59, false)) (.un .not (.s 62))), (.op (some 64) none (.pick (.s 59) (.k (.bool true)) (.s 63))), (.op (some 65) none (.mv (.s 64))), (.op (some 66) (some (65, false)) (.mv (.s 3))), (.op (some 67) (some (65, false)) (.mv (.s 66))), (.op (some 68) (some (67, true)) (.faddr (.s 1) 5)), (.op (some 69) (some (67, true)) (.load (.s 68) true 4)), (.call (some 70) (some (67, true)) n_ref3_MayExpr [(.s 69)]), (.op (some 71) (some (67, true)) (.un .not (.s 70))), (.op (some 72) (some (65, false)) (.pick (.s 67) (.s 71) (.k (.bool false)))), (.op (some 73) none (.pick (.s 65) (.k (.bool true)) (.s 72))), (.op (some 74) none (.mv (.s 73))), (.op (some 75) (some (74, false)) (.mv (.s 3))), (.op (some 76) (some (74, false)) (.un .not (.s 75))), (.op (some 77) (some (74, false)) (.mv (.s 76))), (.op (some 78) (some (77, true)) (.faddr (.s 1) 5)), (.op (some 79) (some (77, true)) (.load (.s 78) true 4)), (.call (some 80) (some (77, true)) n_ref3_none [(.s 79)]), (.op (some 81) (some (77, true)) (.un .not (.s 80))), (.op (some 82) (some (74, false)) (.pick (.s 77) (.s 81) (.k (.bool false)))), (.op (some 83) none (.pick (.s 74) (.k (.bool true)) (.s 82))), (.op (some 84) none (.mv (.s 83))), (.op (some 85) (some (84, false)) (.faddr (.s 1) 9)), (.op (some 86) (some (84, false)) (.load (.s 85) false 1)), (.op (some 87) (some (84, false)) (.mv (.s 86))), (.op (some 88) (some (87, true)) (.faddr (.s 1) 1)), (.op (some 89) (some (87, true)) (.load (.s 88) false 1)), (.op (some 90) (some (87, true)) (.bin .neq (.s 89) (.k (.int .i64 9)))), (.op (some 91) (some (84, false)) (.pick (.s 87) (.s 90) (.k (.bool false)))), (.op (some 92) none (.pick (.s 84) (.k (.bool true)) (.s 91)))]
abbrev QI9 : AC := .run [(.op (some 2) none (.mv (.k (.bool false))))]
abbrev QIA : AC := .seq QI9 .ret
abbrev QIB : AC := .cond (.s 92) QIA .skip
abbrev QIC : AC := .seq QI8 QIB
abbrev QID : AC := .run [(.op (some 93) none (.mv (.s 4))), (.op (some 94) none (.mv (.s 93))), (.op (some 95) (some (94, true)) (.faddr (.s 1) 3)), (.op (some 96) (some (94, true)) (.load (.s 95) false 1)), (.call (some 97) (some (94, true)) n_ref1_Name [(.s 96)]), (.op (some 98) (some (94, true)) (.un .not (.s 97))), (.op (some 99) none (.pick (.s 94) (.s 98) (.k (.bool false)))), (.op (some 100) none (.mv (.s 99))), (.op (some 101) (some (100, false)) (.mv (.s 4))), (.op (some 102) (some (100, false)) (.un .not (.s 101))), (.op (some 103) (some (100, false)) (.mv (.s 102))), (.op (some 104) (some (103, true)) (.faddr (.s 1) 3)), (.op (some 105) (some (103, true)) (.load (.s 104) false 1)), (.op (some 106) (some (103, true)) (.bin .neq (.s 105) (.k (.str [])))), (.op (some 107) (some (100, false)) (.pick (.s 103) (.s 106) (.k (.bool false)))), (.op (some 108) (some (100, false)) (.mv (.s 107))), (.op (some 109) (some (108, true)) (.mv (.s 5))), (.op (some 110) (some (108, true)) (.mv (.s 109))), (.op (some 111) (some (110, true)) (.faddr (.s 1) 3)), (.op (some 112) (some (110, true)) (.load (.s 111) false 1)), (.call (some 113) (some (110, true)) n_ref1_Name [(.s 112)]), (.op (some 114) (some (108, true)) (.pick (.s 110) (.s 113) (.k (.bool false)))), (.op (some 115) (some (108, true)) (.un .not (.s 114))), (.op (some 116) (some (100, false)) (.pick (.s 108) (.s 115) (.k (.bool false)))), (.op (some 117) none (.pick (.s 100) (.k (.bool true)) (.s 116)))]
abbrev QIE : AC := .run [(.op (some 2) none (.mv (.k (.bool false))))]
abbrev QIF : AC := .seq QIE .ret
abbrev QIG : AC := .cond (.s 117) QIF .skip
abbrev QIH : AC := .seq QID QIG
abbrev QII : AC := .run [(.op (some 118) none (.mv (.s 5))), (.op (some 119) none (.faddr (.s 1) 4)), (.op (some 120) none (.load (.s 119) false 1)), (.op (some 121) none (.bin .neq (.s 120) (.k (.str [])))), (.op (some 122) none (.eqb true (.s 118) (.s 121))), (.op (some 123) none (.mv (.s 122))), (.op (some 124) (some (123, false)) (.mv (.s 5))), (.op (some 125) (some (123, false)) (.mv (.s 124))), (.op (some 126) (some (125, true)) (.faddr (.s 1) 4)), (.op (some 127) (some (125, true)) (.load (.s 126) false 1)), (.call (some 128) (some (125, true)) n_ref1_Name [(.s 127)]), (.op (some 129) (some (125, true)) (.un .not (.s 128))), (.op (some 130) (some (123, false)) (.pick (.s 125) (.s 129) (.k (.bool false)))), (.op (some 131) none (.pick (.s 123) (.k (.bool true)) (.s 130))), (.op (some 132) none (.mv (.s 131))), (.op (some 133) (some (132, false)) (.mv (.s 5))), (.op (some 134) (some (132, false)) (.un .not (.s 133))), (.op (some 135) (some (132, false)) (.mv (.s 134))), (.op (some 136) (some (135, true)) (.faddr (.s 1) 10)), (.op (some 137) (some (135, true)) (.load (.s 136) false 1)), (.op (some 138) (some (135, true)) (.len (.s 137))), (.op (some 139) (some (135, true)) (.bin .gtr (.s 138) (.k (.int .i64 0)))), (.op (some 140) (some (132, false)) (.pick (.s 135) (.s 139) (.k (.bool false)))), (.op (some 141) none (.pick (.s 132) (.k (.bool true)) (.s 140)))]
abbrev QIJ : AC := .run [(.op (some 2) none (.mv (.k (.bool false))))]
abbrev QIK : AC := .seq QIJ .ret
abbrev QIL : AC := .cond (.s 141) QIK .skip
abbrev QIM : AC := .seq QII QIL
abbrev QIN : AC := .run [(.op (some 142) none (.faddr (.s 1) 10)), (.op (some 143) none (.load (.s 142) false 1)), (.op (some 144) none (.len (.s 143))), (.op (some 145) none (.mv (.k (.int .i64 0))))]
abbrev QIO : AC := .run [(.op (some 146) none (.bin .lss (.s 145) (.s 144)))]
abbrev QIP : AC := .cond (.s 146) .skip (.exit 0)
abbrev QIQ : AC := .run [(.op (some 147) none (.iaddr (.s 143) (.s 145) 6)), (.op (some 148) none (.load (.s 147) true 6)), (.op (some 7) none (.alloc [(.bool false), (.str []), (.int .i64 0), (.int .i64 0), (.str []), (.slice .full 0 [])])), (.op none none (.store (.s 7) (.s 148) 6))]
abbrev QIR : AC := .run [(.op (some 149) none (.load (.s 7) true 6)), (.call (some 150) none n_ref3_arg [(.s 149)]), (.op (some 151) none (.un .not (.s 150)))]
abbrev QIS : AC := .run [(.op (some 2) none (.mv (.k (.bool false))))]
abbrev QIT : AC := .seq QIS .ret
abbrev QIU : AC := .cond (.s 151) QIT .skip
abbrev QIV : AC := .seq QIR QIU
abbrev QIW : AC := .seq QIQ QIV
abbrev QIX : AC := .block 1 QIW
abbrev QIY : AC := .run [(.op (some 152) none (.bin .add (.s 145) (.k (.int .i64 1)))), (.op (some 145) none (.mv (.s 152)))]
abbrev QIZ : AC := .seq QIX QIY
abbrev QJ0 : AC := .seq QIP QIZ
abbrev QJ1 : AC := .seq QIO QJ0
abbrev QJ2 : AC := .loop QJ1
abbrev QJ3 : AC := .block 0 QJ2
abbrev QJ4 : AC := .seq QIN QJ3
abbrev QJ5 : AC := .run [(.op (some 153) none (.faddr (.s 1) 11)), (.op (some 154) none (.load (.s 153) false 1)), (.op (some 155) none (.len (.s 154))), (.op (some 156) none (.bin .eql (.s 155) (.k (.int .i64 0)))), (.op (some 157) none (.mv (.s 156))), (.op (some 158) (some (157, false)) (.faddr (.s 1) 1)), (.op (some 159) (some (157, false)) (.load (.s 158) false 1)), (.op (some 160) (some (157, false)) (.bin .eql (.s 159) (.k (.int .i64 5)))), (.op (some 161) none (.pick (.s 157) (.k (.bool true)) (.s 160))), (.op (some 162) none (.mv (.s 161))), (.op (some 163) (some (162, false)) (.faddr (.s 1) 1)), (.op (some 164) (some (162, false)) (.load (.s 163) false 1)), (.op (some 165) (some (162, false)) (.bin .eql (.s 164) (.k (.int .i64 6)))), (.op (some 166) none (.pick (.s 162) (.k (.bool true)) (.s 165))), (.op (some 167) none (.mv (.s 166))), (.op (some 168) (some (167, true)) (.faddr (.s 1) 12)), (.op (some 169) (some (167, true)) (.load (.s 168) false 1)), (.op (some 170) (some (167, true)) (.len (.s 169))), (.op (some 171) (some (167, true)) (.bin .eql (.s 170) (.k (.int .i64 0)))), (.op (some 172) (some (167, true)) (.mv (.s 171))), (.op (some 173) (some (172, false)) (.faddr (.s 1) 1)), (.op (some 174) (some (172, false)) (.load (.s 173) false 1)), (.op (some 175) (some (172, false)) (.bin .eql (.s 174) (.k (.int .i64 5)))), (.op (some 176) (some (167, true)) (.pick (.s 172) (.k (.bool true)) (.s 175))), (.op (some 177) none (.pick (.s 167) (.s 176) (.k (.bool false)))), (.op (some 2) none (.mv (.s 177)))]
abbrev QJ6 : AC := .seq QJ5 .ret
abbrev QJ7 : AC := .seq QJ4 QJ6
abbrev QJ8 : AC := .seq QIM QJ7
abbrev QJ9 : AC := .seq QIH QJ8
abbrev QJA : AC := .seq QIC QJ9
abbrev QJB : AC := .seq QI7 QJA
abbrev QJC : AC := .seq QI6 QJB
abbrev QJD : AC := .seq QI5 QJC
abbrev QJE : AC := .seq QI4 QJD
abbrev QJF : AC := .run [(.op (some 2) none (.box (.s 0))), (.op (some 4) none (.mv (.k (.int .i64 0))))]
abbrev QJG : AC := .run [(.op (some 8) none (.mv (.s 1))), (.op (some 9) none (.bin .eql (.s 8) (.k (.int .i64 0))))]
abbrev QJH : AC := .run [(.op (some 4) none (.mv (.k (.int .i64 1))))]
abbrev QJI : AC := .seq QJH .ret
abbrev QJJ : AC := .cond (.s 9) QJI .skip
abbrev QJK : AC := .seq QJG QJJ
abbrev QJL : AC := .run [(.op (some 5) none (.mv (.k (.int .i64 0))))]
abbrev QJM : AC := .run [(.op (some 6) none (.mv (.k (.int .i64 0))))]
abbrev QJN : AC := .run [(.op (some 10) none (.mv (.s 6))), (.op (some 11) none (.faddr (.s 2) 3)), (.op (some 12) none (.load (.s 11) false 1)), (.op (some 13) none (.len (.s 12))), (.op (some 14) none (.bin .lss (.s 10) (.s 13))), (.op (some 15) none (.mv (.s 14))), (.op (some 16) (some (15, true)) (.mv (.s 5))), (.op (some 17) (some (15, true)) (.mv (.s 1))), (.op (some 18) (some (15, true)) (.bin .lss (.s 16) (.s 17))), (.op (some 19) none (.pick (.s 15) (.s 18) (.k (.bool false))))]
abbrev QJO : AC := .cond (.s 19) .skip (.exit 0)
abbrev QJP : AC := .seq QJN QJO
abbrev QJQ : AC := .run [(.op (some 22) none (.faddr (.s 2) 3)), (.op (some 23) none (.load (.s 22) false 1)), (.op (some 24) none (.mv (.s 6))), (.op (some 25) none (.iaddr (.s 23) (.s 24) 4)), (.op (some 26) none (.load (.s 25) true 4)), (.op (some 27) none (.mv (.s 1))), (.op (some 28) none (.bin .sub (.s 27) (.k (.int .i64 1)))), (.call (some 29) none n_ref3_deep [(.s 26), (.s 28)]), (.op (some 7) none (.mv (.s 29)))]
abbrev QJR : AC := .run [(.op (some 30) none (.mv (.s 7))), (.op (some 31) none (.mv (.s 5))), (.op (some 32) none (.bin .gtr (.s 30) (.s 31)))]
abbrev QJS : AC := .run [(.op (some 33) none (.mv (.s 7))), (.op (some 5) none (.mv (.s 33)))]
abbrev QJT : AC := .cond (.s 32) QJS .skip
abbrev QJU : AC := .seq QJR QJT
abbrev QJV : AC := .seq QJQ QJU
abbrev QJW : AC := .block 1 QJV
abbrev QJX : AC := .run [(.op (some 20) none (.mv (.s 6))), (.op (some 21) none (.bin .add (.s 20) (.k (.int .i64 1)))), (.op (some 6) none (.mv (.s 21)))]
abbrev QJY : AC := .seq QJW QJX
abbrev QJZ : AC := .seq QJP QJY
abbrev QK0 : AC := .loop QJZ
abbrev QK1 : AC := .block 0 QK0
abbrev QK2 : AC := .seq QJM QK1
abbrev QK3 : AC := .run [(.op (some 34) none (.mv (.s 5))), (.op (some 35) none (.bin .add (.s 34) (.k (.int .i64 1)))), (.op (some 4) none (.mv (.s 35)))]
abbrev QK4 : AC := .seq QK3 .ret
abbrev QK5 : AC := .seq QK2 QK4
abbrev QK6 : AC := .seq QJL QK5
abbrev QK7 : AC := .seq QJK QK6
abbrev QK8 : AC := .seq QJF QK7
abbrev QK9 : AC := .run [(.op (some 1) none (.box (.s 0))), (.op (some 2) none (.mv (.k (.bool false))))]
abbrev QKA : AC := .par [(.op (some 4) none (.faddr (.s 1) 0)), (.op (some 5) none (.load (.s 4) false 1)), (.call (some 6) none n_ref3_Arity [(.s 5)]), (.op (some 7) none (.faddr (.s 1) 3)), (.op (some 8) none (.load (.s 7) false 1)), (.op (some 9) none (.len (.s 8))), (.op (some 10) none (.bin .neq (.s 6) (.s 9))), (.op (some 11) none (.mv (.s 10))), (.op (some 12) (some (11, false)) (.faddr (.s 1) 0)), (.op (some 13) (some (11, false)) (.load (.s 12) false 1)), (.op (some 14) (some (11, false)) (.bin .neq (.s 13) (.k (.int .i64 1)))), (.op (some 15) (some (11, false)) (.mv (.s 14))), (.op (some 16) (some (15, true)) (.faddr (.s 1) 1)), (.op (some 17) (some (15, true)) (.load (.s 16) false 1)), (.op (some 18) (some (15, true)) (.bin .neq (.s 17) (.k (.int .i64 0)))), (.op (some 19) (some (11, false)) (.pick (.s 15) (.s 18) (.k (.bool false)))), (.op (some 20) none (.pick (.s 11) (.k (.bool true)) (.s 19))), (.op (some 21) none (.mv (.s 20))), (.op (some 22) (some (21, false)) (.faddr (.s 1) 1)), (.op (some 23) (some (21, false)) (.load (.s 22) false 1)), (.op (some 24) (some (21, false)) (.bin .lss (.s 23) (.k (.int .i64 0)))), (.op (some 25) none (.pick (.s 21) (.k (.bool true)) (.s 24))), (.op (some 26) none (.mv (.s 25))), (.op (some 27) (some (26, false)) (.faddr (.s 1) 0)), (.op (some 28) (some (26, false)) (.load (.s 27) false 1)), (.op (some 29) (some (26, false)) (.bin .eql (.s 28) (.k (.int .i64 2)))), (.op (some 30) (some (26, false)) (.faddr (.s 1) 2)), (.op (some 31) (some (26, false)) (.load (.s 30) false 1)), (.op (some 32) (some (26, false)) (.bin .neq (.s 31) (.k (.str [])))), (.op (some 33) (some (26, false)) (.eqb true (.s 29) (.s 32))), (.op (some 34) none (.pick (.s 26) (.k (.bool true)) (.s 33))), (.op (some 35) none (.mv (.s 34))), (.op (some 36) (some (35, false)) (.faddr (.s 1) 2)), (.op (some 37) (some (35, false)) (.load (.s 36) false 1)), (.op (some 38) (some (35, false)) (.bin .neq (.s 37) (.k (.str [])))), (.op (some 39) (some (35, false)) (.mv (.s 38))), (.op (some 40) (some (39, true)) (.faddr (.s 1) 2)), (.op (some 41) (some (39, true)) (.load (.s 40) false 1)), (.call (some 42) (some (39, true)) n_ref1_Name [(.s 41)]), (.op (some 43) (some (39, true)) (.un .not (.s 42))), (.op (some 44) (some (35, false)) (.pick (.s 39) (.s 43) (.k (.bool false)))), (.op (some 45) none (.pick (.s 35) (.k (.bool true)) (.s 44)))] [(0, 0), (1, 0), (2, 0), (3, 0), (4, 1), (5, 0), (6, 0), (7, 0), (8, 0), (9, 0), (10, 0), (11, 0), (12, 0), (13, 0), (14, 0), (15, 0), (16, 0), (17, 0), (18, 0), (19, 0), (20, 0), (21, 0), (22, 0), (23, 0), (24, 0), (25, 0), (26, 0), (27, 0), (28, 0), (29, 0), (30, 0), (31, 0), (32, 0), (33, 0), (34, 0), (35, 0), (36, 0), (37, 0), (38, 0), (39, 0), (40, 0), (41, 0)]
abbrev QKB : AC := .run [(.op (some 2) none (.mv (.k (.bool false))))]
abbrev QKC : AC := .seq QKB .ret
abbrev QKD : AC := .cond (.s 45) QKC .skip
abbrev QKE : AC := .seq QKA QKD
abbrev QKF : AC := .run [(.op (some 46) none (.faddr (.s 1) 3)), (.op (some 47) none (.load (.s 46) false 1)), (.op (some 48) none (.len (.s 47))), (.op (some 49) none (.mv (.k (.int .i64 0))))]
abbrev QKG : AC := .run [(.op (some 50) none (.bin .lss (.s 49) (.s 48)))]
abbrev QKH : AC := .cond (.s 50) .skip (.exit 0)
abbrev QKI : AC := .run [(.op (some 51) none (.mv (.s 49))), (.op (some 3) none (.mv (.s 51)))]
abbrev QKJ : AC := .run [(.op (some 52) none (.faddr (.s 1) 3)), (.op (some 53) none (.load (.s 52) false 1)), (.op (some 54) none (.mv (.s 3))), (.op (some 55) none (.iaddr (.s 53) (.s 54) 4)), (.op (some 56) none (.load (.s 55) true 4)), (.call (some 57) none n_ref3_form [(.s 56)]), (.op (some 58) none (.un .not (.s 57)))]
abbrev QKK : AC := .run [(.op (some 2) none (.mv (.k (.bool false))))]
abbrev QKL : AC := .seq QKK .ret
abbrev QKM : AC := .cond (.s 58) QKL .skip
abbrev QKN : AC := .seq QKJ QKM
abbrev QKO : AC := .seq QKI QKN
abbrev QKP : AC := .block 1 QKO
abbrev QKQ : AC := .run [(.op (some 59) none (.bin .add (.s 49) (.k (.int .i64 1)))), (.op (some 49) none (.mv (.s 59)))]
abbrev QKR : AC := .seq QKP QKQ
abbrev QKS : AC := .seq QKH QKR
abbrev QKT : AC := .seq QKG QKS
abbrev QKU : AC := .loop QKT
abbrev QKV : AC := .block 0 QKU
abbrev QKW : AC := .seq QKF QKV
abbrev QKX : AC := .run [(.op (some 2) none (.mv (.k (.bool true))))]
abbrev QKY : AC := .seq QKX .ret
abbrev QKZ : AC := .seq QKW QKY
abbrev QL0 : AC := .seq QKE QKZ
abbrev QL1 : AC := .seq QK9 QL0
abbrev QL2 : AC := .run [(.op (some 2) none (.mv (.k (.slice .full 0 [])))), (.op (some 3) none (.alloc [(.int .i64 0), (.int .i64 0)]))]
abbrev QL3 : AC := .run [(.op (some 4) none (.mv (.k (.slice .full 0 []))))]
abbrev QL4 : AC := .run [(.op (some 5) none (.alloc [(.int .i64 0), (.str []), (.int .i64 0), (.int .i64 0)]))]
abbrev QL5 : AC := .run [(.op (some 6) none (.mv (.k (.int .i64 0)))), (.op (some 7) none (.mv (.k (.int .i64 0)))), (.op (some 8) none (.mv (.k (.bool true))))]
abbrev QL6 : AC := .run [(.op (some 10) none (.mv (.s 0))), (.op (some 11) none (.slen (.s 10))), (.op (some 12) none (.bin .gtr (.s 11) (.k (.int .i64 100000))))]
abbrev QL7 : AC := .run [(.op (some 13) none (.build [(.int .i64 0), (.int .i64 0)] [(0, (1, (.k (.int .i64 4))))])), (.op (some 2) none (.mv (.k (.slice .full 0 [])))), (.op none none (.store (.s 3) (.s 13) 2))]
abbrev QL8 : AC := .seq QL7 .ret
abbrev QL9 : AC := .cond (.s 12) QL8 .skip
abbrev QLA : AC := .seq QL6 QL9
abbrev QLB : AC := .run [(.op (some 14) none (.mv (.s 6))), (.op (some 15) none (.mv (.s 0))), (.op (some 16) none (.slen (.s 15))), (.op (some 17) none (.bin .geq (.s 14) (.s 16)))]
abbrev QLC : AC := .run [(.op (some 18) none (.mv (.s 4))), (.op (some 19) none (.mv (.s 0))), (.op (some 20) none (.slen (.s 19))), (.op (some 21) none (.build [(.int .i64 0), (.str []), (.int .i64 0), (.int .i64 0)] [(3, (1, (.s 20)))])), (.op (some 22) none (.bslice [(.int .i64 0), (.str []), (.int .i64 0), (.int .i64 0)] 4 1 [(0, (.s 21))])), (.op (some 23) none (.app 4 40 (.s 18) (.s 22))), (.op (some 24) none (.build [(.int .i64 0), (.int .i64 0)] [])), (.op (some 2) none (.mv (.s 23))), (.op none none (.store (.s 3) (.s 24) 2))]
abbrev QLD : AC := .seq QLC .ret
abbrev QLE : AC := .cond (.s 17) QLD .skip
abbrev QLF : AC := .seq QLB QLE
abbrev QLG : AC := .run [(.op (some 25) none (.mv (.s 6))), (.op (some 26) none (.build [(.int .i64 0), (.str []), (.int .i64 0), (.int .i64 0)] [(3, (1, (.s 25)))])), (.op none none (.store (.s 5) (.s 26) 4))]
abbrev QLH : AC := .run [(.op (some 27) none (.mv (.s 0))), (.op (some 28) none (.mv (.s 6))), (.op (some 29) none (.sidx (.s 27) (.s 28))), (.op (some 9) none (.mv (.s 29)))]
abbrev QLI : AC := .run [(.op (some 31) none (.mv (.s 9))), (.op (some 32) none (.bin .eql (.s 31) (.k (.int .u8 32)))), (.op (some 33) none (.mv (.s 32))), (.op (some 34) (some (33, false)) (.mv (.s 9))), (.op (some 35) (some (33, false)) (.bin .eql (.s 34) (.k (.int .u8 9)))), (.op (some 36) none (.pick (.s 33) (.k (.bool true)) (.s 35))), (.op (some 37) none (.mv (.s 36))), (.op (some 38) (some (37, false)) (.mv (.s 9))), (.op (some 39) (some (37, false)) (.bin .eql (.s 38) (.k (.int .u8 10)))), (.op (some 40) none (.pick (.s 37) (.k (.bool true)) (.s 39))), (.op (some 41) none (.mv (.s 40))), (.op (some 42) (some (41, false)) (.mv (.s 9))), (.op (some 43) (some (41, false)) (.bin .eql (.s 42) (.k (.int .u8 13)))), (.op (some 44) none (.pick (.s 41) (.k (.bool true)) (.s 43))), (.op (some 30) none (.mv (.s 44)))]
abbrev QLJ : AC := .run [(.op (some 45) none (.mv (.s 6))), (.op (some 46) none (.bin .add (.s 45) (.k (.int .i64 1)))), (.op (some 6) none (.mv (.s 46)))]
abbrev QLK : AC := .seq QLJ (.goto 0)
abbrev QLL : AC := .run [(.op (some 48) none (.mv (.s 9))), (.op (some 49) none (.bin .eql (.s 48) (.k (.int .u8 35)))), (.op (some 47) none (.mv (.s 49)))]
abbrev QLM : AC := .run [(.op (some 51) none (.mv (.s 9))), (.call (some 52) none n_lex_letter [(.s 51)]), (.op (some 50) none (.mv (.s 52)))]
abbrev QLN : AC := .run [(.op (some 54) none (.mv (.s 9))), (.call (some 55) none n_lex_digit [(.s 54)]), (.op (some 53) none (.mv (.s 55)))]
abbrev QLO : AC := .cond (.s 53) (.goto 3) .skip
abbrev QLP : AC := .seq QLN QLO
abbrev QLQ : AC := .cond (.s 50) (.goto 2) QLP
abbrev QLR : AC := .seq QLM QLQ
abbrev QLS : AC := .cond (.s 47) (.goto 1) QLR
abbrev QLT : AC := .seq QLL QLS
abbrev QLU : AC := .cond (.s 30) QLK QLT
abbrev QLV : AC := .seq QLI QLU
abbrev QLW : AC := .block 0 QLV
abbrev QLX : AC := .seq QLH QLW
abbrev QLY : AC := .run [(.op (some 56) none (.faddr (.s 5) 0)), (.op none none (.store (.s 56) (.k (.int .i64 4)) 1))]
abbrev QLZ : AC := .run [(.op (some 57) none (.mv (.s 6))), (.op (some 58) none (.mv (.s 0))), (.op (some 59) none (.mv (.s 6))), (.call (some 60) none n_lex_sign [(.s 58), (.s 59)]), (.op (some 61) none (.bin .add (.s 57) (.s 60))), (.op (some 6) none (.mv (.s 61)))]
abbrev QM0 : AC := .run [(.op (some 62) none (.mv (.s 0))), (.op (some 63) none (.faddr (.s 5) 3)), (.op (some 64) none (.load (.s 63) false 1)), (.op (some 65) none (.mv (.s 6))), (.op (some 66) none (.sslc (.s 62) (some (.s 64)) (some (.s 65)))), (.op (some 67) none (.faddr (.s 5) 1)), (.op none none (.store (.s 67) (.s 66) 1))]
abbrev QM1 : AC := .run [(.op (some 7) none (.mv (.k (.int .i64 2))))]
abbrev QM2 : AC := .run [(.op (some 68) none (.mv (.s 6))), (.op (some 69) none (.faddr (.s 5) 3)), (.op (some 70) none (.load (.s 69) false 1)), (.op (some 71) none (.bin .gtr (.s 68) (.s 70)))]
abbrev QM3 : AC := .cond (.s 71) (.goto 4) .skip
abbrev QM4 : AC := .seq QM2 QM3
abbrev QM5 : AC := .run [(.op (some 72) none (.mv (.s 6))), (.op (some 73) none (.mv (.s 0))), (.op (some 74) none (.slen (.s 73))), (.op (some 75) none (.bin .lss (.s 72) (.s 74))), (.op (some 76) none (.mv (.s 75))), (.op (some 77) (some (76, true)) (.mv (.s 0))), (.op (some 78) (some (76, true)) (.mv (.s 6))), (.op (some 79) (some (76, true)) (.sidx (.s 77) (.s 78))), (.op (some 80) (some (76, true)) (.bin .neq (.s 79) (.k (.int .u8 10)))), (.op (some 81) none (.pick (.s 76) (.s 80) (.k (.bool false))))]
abbrev QM6 : AC := .cond (.s 81) .skip (.exit 1)
abbrev QM7 : AC := .seq QM5 QM6
abbrev QM8 : AC := .run [(.op (some 82) none (.mv (.s 6))), (.op (some 83) none (.bin .add (.s 82) (.k (.int .i64 1)))), (.op (some 6) none (.mv (.s 83)))]
abbrev QM9 : AC := .block 2 QM8
abbrev QMA : AC := .seq QM7 QM9
abbrev QMB : AC := .loop QMA
abbrev QMC : AC := .block 1 QMB
abbrev QMD : AC := .run [(.op (some 84) none (.mv (.s 0))), (.op (some 85) none (.mv (.s 6))), (.call (some 86) none n_lex_run [(.s 84), (.s 85)]), (.op (some 6) none (.mv (.s 86)))]
abbrev QME : AC := .par [(.op (some 87) none (.mv (.s 0))), (.op (some 88) none (.faddr (.s 5) 3)), (.op (some 89) none (.load (.s 88) false 1)), (.op (some 90) none (.mv (.s 6))), (.op (some 91) none (.sslc (.s 87) (some (.s 89)) (some (.s 90)))), (.op (some 92) none (.faddr (.s 5) 0)), (.op none none (.store (.s 92) (.k (.int .i64 1)) 1)), (.op (some 93) none (.faddr (.s 5) 1)), (.op none none (.store (.s 93) (.s 91) 1))] [(1, 0), (2, 0), (5, 0), (6, 0), (0, 0), (3, 0), (4, 0), (7, 0), (8, 0)]
abbrev QMF : AC := .run [(.op (some 94) none (.faddr (.s 5) 1)), (.op (some 95) none (.load (.s 94) false 1)), (.call (some 96) none n_lex_Word [(.s 95)])]
abbrev QMG : AC := .run [(.op (some 97) none (.faddr (.s 5) 0)), (.op none none (.store (.s 97) (.k (.int .i64 3)) 1))]
abbrev QMH : AC := .cond (.s 96) QMG .skip
abbrev QMI : AC := .seq QMF QMH
abbrev QMJ : AC := .run [(.op (some 7) none (.mv (.k (.int .i64 4))))]
abbrev QMK : AC := .run [(.op (some 98) none (.mv (.s 6))), (.op (some 99) none (.faddr (.s 5) 3)), (.op (some 100) none (.load (.s 99) false 1)), (.op (some 101) none (.bin .sub (.s 98) (.s 100))), (.op (some 102) none (.bin .gtr (.s 101) (.k (.int .i64 8))))]
abbrev QML : AC := .cond (.s 102) (.goto 5) .skip
abbrev QMM : AC := .seq QMK QML
abbrev QMN : AC := .run [(.op (some 103) none (.mv (.s 6))), (.op (some 104) none (.mv (.s 0))), (.op (some 105) none (.slen (.s 104))), (.op (some 106) none (.bin .lss (.s 103) (.s 105))), (.op (some 107) none (.mv (.s 106))), (.op (some 108) (some (107, true)) (.mv (.s 0))), (.op (some 109) (some (107, true)) (.mv (.s 6))), (.op (some 110) (some (107, true)) (.sidx (.s 108) (.s 109))), (.call (some 111) (some (107, true)) n_lex_digit [(.s 110)]), (.op (some 112) none (.pick (.s 107) (.s 111) (.k (.bool false))))]
abbrev QMO : AC := .cond (.s 112) .skip (.exit 3)
abbrev QMP : AC := .seq QMN QMO
abbrev QMQ : AC := .run [(.op (some 113) none (.mv (.s 6))), (.op (some 114) none (.bin .add (.s 113) (.k (.int .i64 1)))), (.op (some 6) none (.mv (.s 114)))]
abbrev QMR : AC := .block 4 QMQ
abbrev QMS : AC := .seq QMP QMR
abbrev QMT : AC := .loop QMS
abbrev QMU : AC := .block 3 QMT
abbrev QMV : AC := .par [(.op (some 115) none (.mv (.s 0))), (.op (some 116) none (.faddr (.s 5) 3)), (.op (some 117) none (.load (.s 116) false 1)), (.op (some 118) none (.mv (.s 6))), (.op (some 119) none (.sslc (.s 115) (some (.s 117)) (some (.s 118)))), (.op (some 120) none (.faddr (.s 5) 0)), (.op none none (.store (.s 120) (.k (.int .i64 2)) 1)), (.op (some 121) none (.faddr (.s 5) 1)), (.op none none (.store (.s 121) (.s 119) 1)), (.op (some 7) none (.mv (.k (.int .i64 2))))] [(1, 0), (2, 0), (5, 0), (6, 0), (0, 0), (3, 0), (4, 0), (7, 0), (8, 0), (9, 0)]
abbrev QMW : AC := .run [(.op (some 122) none (.faddr (.s 5) 1)), (.op (some 123) none (.load (.s 122) false 1)), (.op (some 124) none (.slen (.s 123))), (.op (some 125) none (.bin .gtr (.s 124) (.k (.int .i64 1)))), (.op (some 126) none (.mv (.s 125))), (.op (some 127) (some (126, true)) (.faddr (.s 5) 1)), (.op (some 128) (some (126, true)) (.load (.s 127) false 1)), (.op (some 129) (some (126, true)) (.sidx (.s 128) (.k (.int .i64 0)))), (.op (some 130) (some (126, true)) (.bin .eql (.s 129) (.k (.int .u8 48)))), (.op (some 131) none (.pick (.s 126) (.s 130) (.k (.bool false))))]
abbrev QMX : AC := .cond (.s 131) (.goto 5) .skip
abbrev QMY : AC := .seq QMW QMX
abbrev QMZ : AC := .run [(.op (some 133) none (.faddr (.s 5) 1)), (.op (some 134) none (.load (.s 133) false 1)), (.call (some 135) none n_lex_number [(.s 134)]), (.op (some 132) none (.mv (.s 135))), (.op (some 136) none (.ext (.s 132) 0)), (.op (some 137) none (.ext (.s 132) 1)), (.op (some 138) none (.faddr (.s 5) 2)), (.op none none (.store (.s 138) (.s 136) 1)), (.op (some 8) none (.mv (.s 137)))]
abbrev QN0 : AC := .run [(.op (some 7) none (.mv (.k (.int .i64 4))))]
abbrev QN1 : AC := .run [(.op (some 139) none (.mv (.s 8))), (.op (some 140) none (.un .not (.s 139)))]
abbrev QN2 : AC := .cond (.s 140) (.goto 5) .skip
abbrev QN3 : AC := .seq QN1 QN2
abbrev QN4 : AC := .run [(.op (some 7) none (.mv (.k (.int .i64 4))))]
abbrev QN5 : AC := .run [(.op (some 141) none (.mv (.s 4))), (.op (some 142) none (.len (.s 141))), (.op (some 143) none (.bin .eql (.s 142) (.k (.int .i64 2000))))]
abbrev QN6 : AC := .cond (.s 143) (.goto 5) .skip
abbrev QN7 : AC := .seq QN5 QN6
abbrev QN8 : AC := .run [(.op (some 144) none (.mv (.s 4))), (.op (some 145) none (.load (.s 5) true 4)), (.op (some 146) none (.bslice [(.int .i64 0), (.str []), (.int .i64 0), (.int .i64 0)] 4 1 [(0, (.s 145))])), (.op (some 147) none (.app 4 40 (.s 144) (.s 146))), (.op (some 4) none (.mv (.s 147)))]
abbrev QN9 : AC := .par [(.op (some 148) none (.mv (.s 7))), (.op (some 149) none (.faddr (.s 5) 3)), (.op (some 150) none (.load (.s 149) false 1)), (.op (some 151) none (.build [(.int .i64 0), (.int .i64 0)] [(0, (1, (.s 148))), (1, (1, (.s 150)))])), (.op (some 2) none (.mv (.k (.slice .full 0 [])))), (.op none none (.store (.s 3) (.s 151) 2))] [(0, 0), (1, 0), (2, 0), (3, 0), (4, 0), (5, 0)]
abbrev QNA : AC := .seq QN9 .ret
abbrev QNB : AC := .seq (.label 5) QNA
abbrev QNC : AC := .seq (.goto 0) QNB
abbrev QND : AC := .seq QN8 QNC
abbrev QNE : AC := .seq QN7 QND
abbrev QNF : AC := .seq QN4 QNE
abbrev QNG : AC := .seq (.label 4) QNF
abbrev QNH : AC := .seq QN3 QNG
abbrev QNI : AC := .seq QN0 QNH
abbrev QNJ : AC := .seq QMZ QNI
abbrev QNK : AC := .seq QMY QNJ
abbrev QNL : AC := .seq QMV QNK
abbrev QNM : AC := .seq QMU QNL
abbrev QNN : AC := .seq (.label 3) QNM
abbrev QNO : AC := .seq (.goto 4) QNN
abbrev QNP : AC := .seq QMM QNO
abbrev QNQ : AC := .seq QMJ QNP
abbrev QNR : AC := .seq QMI QNQ
abbrev QNS : AC := .seq QME QNR
abbrev QNT : AC := .seq QMD QNS
abbrev QNU : AC := .seq (.label 2) QNT
abbrev QNV : AC := .seq (.goto 0) QNU
abbrev QNW : AC := .seq QMC QNV
abbrev QNX : AC := .seq (.label 1) QNW
abbrev QNY : AC := .seq (.goto 5) QNX
abbrev QNZ : AC := .seq QM4 QNY
abbrev QO0 : AC := .seq QM1 QNZ
abbrev QO1 : AC := .seq QM0 QO0
abbrev QO2 : AC := .seq QLZ QO1
abbrev QO3 : AC := .seq QLY QO2
abbrev QO4 : AC := .seq QLX QO3
abbrev QO5 : AC := .seq QLG QO4
abbrev QO6 : AC := .seq QLF QO5
abbrev QO7 : AC := .seq (.label 0) QO6
abbrev QO8 : AC := .seq QLA QO7
abbrev QO9 : AC := .seq QL5 QO8
abbrev QOA : AC := .seq QL4 QO9
abbrev QOB : AC := .seq QL3 QOA
abbrev QOC : AC := .scope QOB
abbrev QOD : AC := .seq QL2 QOC
abbrev QOE : AC := .run [(.op (some 2) none (.alloc [(.int .i64 0), (.int .i64 0), (.str []), (.slice .full 0 [])]))]
abbrev QOF : AC := .run [(.op (some 3) none (.mv (.s 0))), (.op (some 4) none (.build [(.int .i64 0), (.int .i64 0), (.str []), (.slice .full 0 [])] [(0, (1, (.k (.int .i64 1)))), (1, (1, (.s 3)))])), (.op none none (.store (.s 2) (.s 4) 4))]
abbrev QOG : AC := .seq QOF .ret
abbrev QOH : AC := .seq QOE QOG
abbrev QOI : AC := .run [(.op (some 2) none (.alloc [(.int .i64 0), (.int .i64 0), (.str []), (.slice .full 0 [])]))]
abbrev QOJ : AC := .run [(.op (some 3) none (.mv (.s 0))), (.op (some 4) none (.build [(.int .i64 0), (.int .i64 0), (.str []), (.slice .full 0 [])] [(0, (1, (.k (.int .i64 2)))), (2, (1, (.s 3)))])), (.op none none (.store (.s 2) (.s 4) 4))]
abbrev QOK : AC := .seq QOJ .ret
abbrev QOL : AC := .seq QOI QOK
abbrev QOM : AC := .run [(.op (some 4) none (.box (.s 1))), (.op (some 5) none (.box (.s 2))), (.op (some 6) none (.alloc [(.int .i64 0), (.int .i64 0), (.str []), (.slice .full 0 [])]))]
abbrev QON : AC := .run [(.op (some 7) none (.mv (.s 0))), (.op (some 8) none (.load (.s 4) true 4)), (.op (some 9) none (.load (.s 5) true 4)), (.op (some 10) none (.bslice [(.int .i64 0), (.int .i64 0), (.str []), (.slice .full 0 [])] 4 2 [(0, (.s 8)), (1, (.s 9))])), (.op (some 11) none (.build [(.int .i64 0), (.int .i64 0), (.str []), (.slice .full 0 [])] [(0, (1, (.s 7))), (3, (1, (.s 10)))])), (.op none none (.store (.s 6) (.s 11) 4))]
abbrev QOO : AC := .seq QON .ret
abbrev QOP : AC := .seq QOM QOO
abbrev QOQ : AC := .run [(.op (some 2) none (.mv (.k (.bool false))))]
abbrev QOR : AC := .run [(.op (some 5) none (.mv (.s 0))), (.op (some 6) none (.len (.s 5))), (.op (some 7) none (.mv (.k (.int .i64 0))))]
abbrev QOS : AC := .run [(.op (some 8) none (.bin .lss (.s 7) (.s 6)))]
abbrev QOT : AC := .cond (.s 8) .skip (.exit 0)
abbrev QOU : AC := .run [(.op (some 9) none (.iaddr (.s 5) (.s 7) 1)), (.op (some 10) none (.load (.s 9) false 1)), (.op (some 4) none (.mv (.s 10)))]
abbrev QOV : AC := .run [(.op (some 11) none (.mv (.s 4))), (.call (some 12) none n_lex_Name [(.s 11)]), (.op (some 13) none (.un .not (.s 12)))]
abbrev QOW : AC := .run [(.op (some 2) none (.mv (.k (.bool false))))]
abbrev QOX : AC := .seq QOW .ret
abbrev QOY : AC := .cond (.s 13) QOX .skip
abbrev QOZ : AC := .seq QOV QOY
abbrev QP0 : AC := .seq QOU QOZ
abbrev QP1 : AC := .block 1 QP0
abbrev QP2 : AC := .run [(.op (some 14) none (.bin .add (.s 7) (.k (.int .i64 1)))), (.op (some 7) none (.mv (.s 14)))]
abbrev QP3 : AC := .seq QP1 QP2
abbrev QP4 : AC := .seq QOT QP3
abbrev QP5 : AC := .seq QOS QP4
abbrev QP6 : AC := .loop QP5
abbrev QP7 : AC := .block 0 QP6
abbrev QP8 : AC := .seq QOR QP7
abbrev QP9 : AC := .run [(.op (some 2) none (.mv (.k (.bool true))))]
abbrev QPA : AC := .seq QP9 .ret
abbrev QPB : AC := .seq QP8 QPA
abbrev QPC : AC := .seq QOQ QPB
abbrev QPD : AC := .run [(.op (some 2) none (.mv (.k (.bool false))))]
abbrev QPE : AC := .run [(.op (some 3) none (.mv (.s 0))), (.op (some 4) none (.slen (.s 3))), (.op (some 5) none (.bin .lss (.s 4) (.k (.int .i64 1)))), (.op (some 6) none (.mv (.s 5))), (.op (some 7) (some (6, false)) (.mv (.s 0))), (.op (some 8) (some (6, false)) (.slen (.s 7))), (.op (some 9) (some (6, false)) (.bin .gtr (.s 8) (.k (.int .i64 8)))), (.op (some 10) none (.pick (.s 6) (.k (.bool true)) (.s 9))), (.op (some 11) none (.mv (.s 10))), (.op (some 12) (some (11, false)) (.mv (.s 0))), (.op (some 13) (some (11, false)) (.sidx (.s 12) (.k (.int .i64 0)))), (.call (some 14) (some (11, false)) n_lex_letter [(.s 13)]), (.op (some 15) (some (11, false)) (.un .not (.s 14))), (.op (some 16) none (.pick (.s 11) (.k (.bool true)) (.s 15)))]
abbrev QPF : AC := .run [(.op (some 2) none (.mv (.k (.bool false))))]
abbrev QPG : AC := .seq QPF .ret
abbrev QPH : AC := .cond (.s 16) QPG .skip
abbrev QPI : AC := .seq QPE QPH
abbrev QPJ : AC := .run [(.op (some 17) none (.mv (.s 0))), (.call (some 18) none n_lex_run [(.s 17), (.k (.int .i64 0))]), (.op (some 19) none (.mv (.s 0))), (.op (some 20) none (.slen (.s 19))), (.op (some 21) none (.bin .eql (.s 18) (.s 20))), (.op (some 22) none (.mv (.s 21))), (.op (some 23) (some (22, true)) (.mv (.s 0))), (.call (some 24) (some (22, true)) n_lex_Word [(.s 23)]), (.op (some 25) (some (22, true)) (.un .not (.s 24))), (.op (some 26) none (.pick (.s 22) (.s 25) (.k (.bool false)))), (.op (some 2) none (.mv (.s 26)))]
abbrev QPK : AC := .seq QPJ .ret
abbrev QPL : AC := .seq QPI QPK
abbrev QPM : AC := .seq QPD QPL
abbrev QPN : AC := .run [(.op (some 6) none (.mv (.k (.bool false))))]
abbrev QPO : AC := .run [(.op (some 9) none (.mv (.s 2))), (.op (some 10) none (.bin .gtr (.s 9) (.k (.int .i64 12)))), (.op (some 11) none (.mv (.s 10))), (.op (some 12) (some (11, true)) (.mv (.s 1))), (.op (some 13) (some (11, true)) (.len (.s 12))), (.op (some 14) (some (11, true)) (.bin .gtr (.s 13) (.k (.int .i64 0)))), (.op (some 15) none (.pick (.s 11) (.s 14) (.k (.bool false))))]
abbrev QPP : AC := .run [(.op (some 6) none (.mv (.k (.bool false))))]
abbrev QPQ : AC := .seq QPP .ret
abbrev QPR : AC := .cond (.s 15) QPQ .skip
abbrev QPS : AC := .seq QPO QPR
abbrev QPT : AC := .run [(.op (some 16) none (.mv (.s 1))), (.op (some 17) none (.len (.s 16))), (.op (some 18) none (.mv (.k (.int .i64 0))))]
abbrev QPU : AC := .run [(.op (some 19) none (.bin .lss (.s 18) (.s 17)))]
abbrev QPV : AC := .cond (.s 19) .skip (.exit 0)
abbrev QPW : AC := .run [(.op (some 20) none (.iaddr (.s 16) (.s 18) 13)), (.op (some 21) none (.load (.s 20) true 13)), (.op (some 8) none (.alloc [(.int .i64 0), (.int .i64 0), (.slice .full 0 []), (.str []), (.str []), (.int .i64 0), (.int .i64 0), (.str []), (.slice .full 0 []), (.bool false), (.slice .full 0 []), (.slice .full 0 []), (.slice .full 0 [])])), (.op none none (.store (.s 8) (.s 21) 13))]
abbrev QPX : AC := .run [(.op (some 22) none (.mv (.s 0))), (.op (some 23) none (.nilck (.s 22))), (.op (some 24) none (.faddr (.s 23) 0)), (.op (some 25) none (.load (.s 24) false 1)), (.op (some 26) none (.bin .add (.s 25) (.k (.int .i64 1)))), (.op (some 27) none (.nilck (.s 22))), (.op (some 28) none (.faddr (.s 27) 0)), (.op none none (.store (.s 28) (.s 26) 1))]
abbrev QPY : AC := .par [(.op (some 29) none (.mv (.s 0))), (.op (some 30) none (.nilck (.s 29))), (.op (some 31) none (.faddr (.s 30) 0)), (.op (some 32) none (.load (.s 31) false 1)), (.op (some 33) none (.bin .gtr (.s 32) (.k (.int .i64 200)))), (.op (some 34) none (.mv (.s 33))), (.op (some 35) (some (34, false)) (.faddr (.s 8) 0)), (.op (some 36) (some (34, false)) (.load (.s 35) false 1)), (.op (some 37) (some (34, false)) (.mv (.s 0))), (.op (some 38) (some (34, false)) (.nilck (.s 37))), (.op (some 39) (some (34, false)) (.faddr (.s 38) 0)), (.op (some 40) (some (34, false)) (.load (.s 39) false 1)), (.op (some 41) (some (34, false)) (.bin .neq (.s 36) (.s 40))), (.op (some 42) none (.pick (.s 34) (.k (.bool true)) (.s 41))), (.op (some 43) none (.mv (.s 42))), (.op (some 44) (some (43, false)) (.faddr (.s 8) 2)), (.op (some 45) (some (43, false)) (.load (.s 44) false 1)), (.call (some 46) (some (43, false)) n_tree_names [(.s 45)]), (.op (some 47) (some (43, false)) (.un .not (.s 46))), (.op (some 48) none (.pick (.s 43) (.k (.bool true)) (.s 47))), (.op (some 49) none (.mv (.s 48))), (.op (some 50) (some (49, false)) (.load (.s 8) true 13)), (.call (some 51) (some (49, false)) n_tree_fields [(.s 50)]), (.op (some 52) (some (49, false)) (.un .not (.s 51))), (.op (some 53) none (.pick (.s 49) (.k (.bool true)) (.s 52)))] [(0, 0), (1, 0), (2, 0), (3, 0), (4, 0), (5, 0), (6, 0), (7, 0), (8, 0), (9, 0), (10, 0), (11, 0), (12, 0), (13, 0), (14, 0), (15, 0), (16, 0), (17, 0), (18, 0), (19, 0), (20, 0), (21, 0), (22, 0), (23, 0), (24, 0)]
abbrev QPZ : AC := .run [(.op (some 6) none (.mv (.k (.bool false))))]
abbrev QQ0 : AC := .seq QPZ .ret
abbrev QQ1 : AC := .cond (.s 53) QQ0 .skip
abbrev QQ2 : AC := .seq QPY QQ1
abbrev QQ3 : AC := .run [(.op (some 54) none (.mv (.s 0))), (.op (some 55) none (.faddr (.s 8) 11)), (.op (some 56) none (.load (.s 55) false 1)), (.op (some 57) none (.mv (.s 2))), (.op (some 58) none (.bin .add (.s 57) (.k (.int .i64 1)))), (.call (some 59) none n_tree_looker_rows [(.s 54), (.s 56), (.s 58)]), (.op (some 60) none (.un .not (.s 59))), (.op (some 61) none (.mv (.s 60))), (.op (some 62) (some (61, false)) (.mv (.s 0))), (.op (some 63) (some (61, false)) (.faddr (.s 8) 12)), (.op (some 64) (some (61, false)) (.load (.s 63) false 1)), (.op (some 65) (some (61, false)) (.mv (.s 2))), (.op (some 66) (some (61, false)) (.bin .add (.s 65) (.k (.int .i64 1)))), (.call (some 67) (some (61, false)) n_tree_looker_rows [(.s 62), (.s 64), (.s 66)]), (.op (some 68) (some (61, false)) (.un .not (.s 67))), (.op (some 69) none (.pick (.s 61) (.k (.bool true)) (.s 68)))]
abbrev QQ4 : AC := .run [(.op (some 6) none (.mv (.k (.bool false))))]
abbrev QQ5 : AC := .seq QQ4 .ret
abbrev QQ6 : AC := .cond (.s 69) QQ5 .skip
abbrev QQ7 : AC := .seq QQ3 QQ6
abbrev QQ8 : AC := .seq QQ2 QQ7
abbrev QQ9 : AC := .seq QPX QQ8
abbrev QQA : AC := .seq QPW QQ9
abbrev QQB : AC := .block 1 QQA
abbrev QQC : AC := .run [(.op (some 70) none (.bin .add (.s 18) (.k (.int .i64 1)))), (.op (some 18) none (.mv (.s 70)))]
abbrev QQD : AC := .seq QQB QQC
abbrev QQE : AC := .seq QPV QQD
abbrev QQF : AC := .seq QPU QQE
abbrev QQG : AC := .loop QQF
abbrev QQH : AC := .block 0 QQG
abbrev QQI : AC := .seq QPT QQH
abbrev QQJ : AC := .run [(.op (some 6) none (.mv (.k (.bool true))))]
abbrev QQK : AC := .seq QQJ .ret
abbrev QQL : AC := .seq QQI QQK
abbrev QQM : AC := .seq QPS QQL
abbrev QQN : AC := .seq QPN QQM

end Go.Abs

/-! Have1 -/

namespace Go.Abs
open Go.Proofs

theorem has_print_writer_line : Has Tryd.prog n_print_writer_line 23 [] QC8 := ⟨Tryd.f34, by kernel_rfl, by kernel_rfl⟩
theorem has_print_ref : Has Tryd.prog n_print_ref 4 [(2, none)] QCI := ⟨Tryd.f36, by kernel_rfl, by kernel_rfl⟩
theorem has_print_writer_rows : Has Tryd.prog n_print_writer_rows 84 [] QDO := ⟨Tryd.f37, by kernel_rfl, by kernel_rfl⟩
theorem has_print_marks : Has Tryd.prog n_print_marks 18 [(2, none)] QE9 := ⟨Tryd.f38, by kernel_rfl, by kernel_rfl⟩
theorem has_ref3_weighExpr : Has Tryd.prog n_ref3_weighExpr 29 [(4, none)] QES := ⟨Tryd.f43, by kernel_rfl, by kernel_rfl⟩
theorem has_tree_MayExpr : Has Tryd.prog n_tree_MayExpr 5 [(2, none)] QEW := ⟨Tryd.f44, by kernel_rfl, by kernel_rfl⟩
theorem has_print_expr : Has Tryd.prog n_print_expr 66 [(4, none)] QFY := ⟨Tryd.f45, by kernel_rfl, by kernel_rfl⟩
theorem has_ref3_names : Has Tryd.prog n_ref3_names 15 [(2, none)] QGL := ⟨Tryd.f47, by kernel_rfl, by kernel_rfl⟩
theorem has_ref1_Name : Has Tryd.prog n_ref1_Name 38 [(2, none)] QHC := ⟨Tryd.f48, by kernel_rfl, by kernel_rfl⟩
theorem has_ref3_All : Has Tryd.prog n_ref3_All 23 [(2, none)] QI3 := ⟨Tryd.f49, by kernel_rfl, by kernel_rfl⟩
theorem has_ref3_one : Has Tryd.prog n_ref3_one 178 [(2, none)] QJE := ⟨Tryd.f50, by kernel_rfl, by kernel_rfl⟩
theorem has_ref3_deep : Has Tryd.prog n_ref3_deep 36 [(4, none)] QK8 := ⟨Tryd.f53, by kernel_rfl, by kernel_rfl⟩
theorem has_ref3_form : Has Tryd.prog n_ref3_form 60 [(2, none)] QL1 := ⟨Tryd.f54, by kernel_rfl, by kernel_rfl⟩
theorem has_ref3_num : Has Tryd.prog n_ref3_num 5 [(2, (some (true, 4)))] QOH := ⟨Tryd.f62, by kernel_rfl, by kernel_rfl⟩
theorem has_ref3_name : Has Tryd.prog n_ref3_name 5 [(2, (some (true, 4)))] QOL := ⟨Tryd.f63, by kernel_rfl, by kernel_rfl⟩
theorem has_ref3_two : Has Tryd.prog n_ref3_two 12 [(6, (some (true, 4)))] QOP := ⟨Tryd.f64, by kernel_rfl, by kernel_rfl⟩
theorem has_tree_names : Has Tryd.prog n_tree_names 15 [(2, none)] QPC := ⟨Tryd.f65, by kernel_rfl, by kernel_rfl⟩
theorem has_lex_Name : Has Tryd.prog n_lex_Name 27 [(2, none)] QPM := ⟨Tryd.f66, by kernel_rfl, by kernel_rfl⟩
theorem has_tree_looker_rows : Has Tryd.prog n_tree_looker_rows 71 [(6, none)] QQN := ⟨Tryd.f67, by kernel_rfl, by kernel_rfl⟩

end Go.Abs

/-! Codes2 -/

namespace Go.Abs

abbrev QQO : AC := .run [(.op (some 4) none (.mv (.k (.val .nilIface))))]
abbrev QQP : AC := .run [(.op (some 5) none (.mv (.s 0))), (.call (some 6) none n_strings_Builder_copyCheck [(.s 5)])]
abbrev QQQ : AC := .run [(.op (some 7) none (.mv (.s 0))), (.op (some 8) none (.mv (.s 0))), (.op (some 9) none (.nilck (.s 8))), (.op (some 10) none (.faddr (.s 9) 1)), (.op (some 11) none (.load (.s 10) false 1)), (.op (some 12) none (.mv (.s 1))), (.op (some 13) none (.bslice [(.int .u8 0)] 1 1 [(0, (.s 12))])), (.op (some 14) none (.appb (.s 11) (.s 13))), (.op (some 15) none (.nilck (.s 7))), (.op (some 16) none (.faddr (.s 15) 1)), (.op none none (.store (.s 16) (.s 14) 1))]
abbrev QQR : AC := .run [(.op (some 4) none (.mv (.k (.val .nilIface))))]
abbrev QQS : AC := .seq QQR .ret
abbrev QQT : AC := .seq QQQ QQS
abbrev QQU : AC := .seq QQP QQT
abbrev QQV : AC := .seq QQO QQU
abbrev QQW : AC := .run [(.op (some 4) none (.mv (.k (.int .i64 0)))), (.op (some 5) none (.mv (.k (.val .nilIface))))]
abbrev QQX : AC := .run [(.op (some 6) none (.mv (.s 0))), (.call (some 7) none n_strings_Builder_copyCheck [(.s 6)])]
abbrev QQY : AC := .run [(.op (some 8) none (.mv (.s 0))), (.op (some 9) none (.mv (.s 0))), (.op (some 10) none (.nilck (.s 9))), (.op (some 11) none (.faddr (.s 10) 1)), (.op (some 12) none (.load (.s 11) false 1)), (.op (some 13) none (.mv (.s 1))), (.op (some 14) none (.apps (.s 12) (.s 13))), (.op (some 15) none (.nilck (.s 8))), (.op (some 16) none (.faddr (.s 15) 1)), (.op none none (.store (.s 16) (.s 14) 1))]
abbrev QQZ : AC := .run [(.op (some 17) none (.mv (.s 1))), (.op (some 18) none (.slen (.s 17))), (.op (some 4) none (.mv (.s 18))), (.op (some 5) none (.mv (.k (.val .nilIface))))]
abbrev QR0 : AC := .seq QQZ .ret
abbrev QR1 : AC := .seq QQY QR0
abbrev QR2 : AC := .seq QQX QR1
abbrev QR3 : AC := .seq QQW QR2
abbrev QR4 : AC := .run [(.op (some 1) none (.box (.s 0))), (.op (some 2) none (.mv (.k (.str []))))]
abbrev QR5 : AC := .run [(.op (some 7) none (.faddr (.s 1) 1)), (.op (some 8) none (.load (.s 7) false 1))]
abbrev QR6 : AC := .run [(.op (some 10) none (.bin .eql (.s 8) (.k (.int .i64 1)))), (.op (some 9) none (.mv (.s 10)))]
abbrev QR7 : AC := .par [(.op (some 11) none (.faddr (.s 1) 3)), (.op (some 12) none (.load (.s 11) false 1)), (.op (some 13) none (.bin .add (.s 12) (.k (.str [32, 61, 32])))), (.op (some 14) none (.faddr (.s 1) 5)), (.op (some 15) none (.load (.s 14) true 4)), (.call (some 16) none n_print_expr [(.s 15), (.k (.int .i64 0))]), (.op (some 17) none (.bin .add (.s 13) (.s 16))), (.op (some 2) none (.mv (.s 17)))] [(3, 0), (4, 0), (5, 0), (0, 0), (1, 1), (2, 0), (6, 0), (7, 0)]
abbrev QR8 : AC := .seq QR7 .ret
abbrev QR9 : AC := .run [(.op (some 19) none (.bin .eql (.s 8) (.k (.int .i64 2)))), (.op (some 18) none (.mv (.s 19)))]
abbrev QRA : AC := .run [(.op (some 20) none (.faddr (.s 1) 3)), (.op (some 21) none (.load (.s 20) false 1)), (.op (some 22) none (.bin .add (.k (.str [114, 101, 97, 100, 32])) (.s 21))), (.op (some 2) none (.mv (.s 22)))]
abbrev QRB : AC := .seq QRA .ret
abbrev QRC : AC := .run [(.op (some 24) none (.bin .eql (.s 8) (.k (.int .i64 3)))), (.op (some 23) none (.mv (.s 24)))]
abbrev QRD : AC := .run [(.op (some 25) none (.faddr (.s 1) 5)), (.op (some 26) none (.load (.s 25) true 4)), (.call (some 27) none n_print_expr [(.s 26), (.k (.int .i64 0))]), (.op (some 28) none (.bin .add (.k (.str [112, 114, 105, 110, 116, 32])) (.s 27))), (.op (some 2) none (.mv (.s 28)))]
abbrev QRE : AC := .seq QRD .ret
abbrev QRF : AC := .run [(.op (some 30) none (.bin .eql (.s 8) (.k (.int .i64 7)))), (.op (some 29) none (.mv (.s 30)))]
abbrev QRG : AC := .run [(.op (some 2) none (.mv (.k (.str [98, 114, 101, 97, 107]))))]
abbrev QRH : AC := .seq QRG .ret
abbrev QRI : AC := .run [(.op (some 32) none (.bin .eql (.s 8) (.k (.int .i64 8)))), (.op (some 31) none (.mv (.s 32)))]
abbrev QRJ : AC := .run [(.op (some 2) none (.mv (.k (.str [99, 111, 110, 116, 105, 110, 117, 101]))))]
abbrev QRK : AC := .seq QRJ .ret
abbrev QRL : AC := .run [(.op (some 34) none (.bin .eql (.s 8) (.k (.int .i64 10)))), (.op (some 33) none (.mv (.s 34)))]
abbrev QRM : AC := .run [(.op (some 35) none (.faddr (.s 1) 3)), (.op (some 36) none (.load (.s 35) false 1)), (.op (some 37) none (.bin .add (.k (.str [103, 111, 116, 111, 32])) (.s 36))), (.op (some 2) none (.mv (.s 37)))]
abbrev QRN : AC := .seq QRM .ret
abbrev QRO : AC := .run [(.op (some 39) none (.bin .eql (.s 8) (.k (.int .i64 9)))), (.op (some 38) none (.mv (.s 39)))]
abbrev QRP : AC := .run [(.op (some 40) none (.faddr (.s 1) 9)), (.op (some 41) none (.load (.s 40) false 1))]
abbrev QRQ : AC := .run [(.op (some 42) none (.faddr (.s 1) 5)), (.op (some 43) none (.load (.s 42) true 4)), (.call (some 44) none n_print_expr [(.s 43), (.k (.int .i64 0))]), (.op (some 45) none (.bin .add (.k (.str [114, 101, 116, 117, 114, 110, 32])) (.s 44))), (.op (some 2) none (.mv (.s 45)))]
abbrev QRR : AC := .seq QRQ .ret
abbrev QRS : AC := .cond (.s 41) QRR .skip
abbrev QRT : AC := .seq QRP QRS
abbrev QRU : AC := .run [(.op (some 2) none (.mv (.k (.str [114, 101, 116, 117, 114, 110]))))]
abbrev QRV : AC := .seq QRU .ret
abbrev QRW : AC := .seq QRT QRV
abbrev QRX : AC := .cond (.s 38) QRW .skip
abbrev QRY : AC := .seq QRO QRX
abbrev QRZ : AC := .cond (.s 33) QRN QRY
abbrev QS0 : AC := .seq QRL QRZ
abbrev QS1 : AC := .cond (.s 31) QRK QS0
abbrev QS2 : AC := .seq QRI QS1
abbrev QS3 : AC := .cond (.s 29) QRH QS2
abbrev QS4 : AC := .seq QRF QS3
abbrev QS5 : AC := .cond (.s 23) QRE QS4
abbrev QS6 : AC := .seq QRC QS5
abbrev QS7 : AC := .cond (.s 18) QRB QS6
abbrev QS8 : AC := .seq QR9 QS7
abbrev QS9 : AC := .cond (.s 9) QR8 QS8
abbrev QSA : AC := .seq QR6 QS9
abbrev QSB : AC := .block 0 QSA
abbrev QSC : AC := .seq QR5 QSB
abbrev QSD : AC := .run [(.op (some 3) none (.mv (.k (.slice .full 0 []))))]
abbrev QSE : AC := .run [(.op (some 46) none (.faddr (.s 1) 10)), (.op (some 47) none (.load (.s 46) false 1)), (.op (some 48) none (.len (.s 47))), (.op (some 49) none (.mv (.k (.int .i64 0))))]
abbrev QSF : AC := .run [(.op (some 50) none (.bin .lss (.s 49) (.s 48)))]
abbrev QSG : AC := .cond (.s 50) .skip (.exit 1)
abbrev QSH : AC := .run [(.op (some 51) none (.iaddr (.s 47) (.s 49) 6)), (.op (some 52) none (.load (.s 51) true 6)), (.op (some 5) none (.alloc [(.bool false), (.str []), (.int .i64 0), (.int .i64 0), (.str []), (.slice .full 0 [])])), (.op none none (.store (.s 5) (.s 52) 6))]
abbrev QSI : AC := .run [(.op (some 53) none (.faddr (.s 5) 0)), (.op (some 54) none (.load (.s 53) false 1))]
abbrev QSJ : AC := .par [(.op (some 55) none (.mv (.s 3))), (.call (some 56) none n_print_ref [(.k (.bool true))]), (.op (some 57) none (.faddr (.s 5) 1)), (.op (some 58) none (.load (.s 57) false 1)), (.op (some 59) none (.bin .add (.s 56) (.s 58))), (.op (some 60) none (.bslice [(.str [])] 1 1 [(0, (.s 59))])), (.op (some 61) none (.app 1 16 (.s 55) (.s 60))), (.op (some 3) none (.mv (.s 61)))] [(1, 0), (0, 0), (2, 0), (3, 1), (4, 0), (5, 0), (6, 0), (7, 0)]
abbrev QSK : AC := .run [(.op (some 62) none (.mv (.s 3))), (.op (some 63) none (.faddr (.s 5) 2)), (.op (some 64) none (.load (.s 63) true 4)), (.call (some 65) none n_print_expr [(.s 64), (.k (.int .i64 0))]), (.op (some 66) none (.bslice [(.str [])] 1 1 [(0, (.s 65))])), (.op (some 67) none (.app 1 16 (.s 62) (.s 66))), (.op (some 3) none (.mv (.s 67)))]
abbrev QSL : AC := .cond (.s 54) QSJ QSK
abbrev QSM : AC := .seq QSI QSL
abbrev QSN : AC := .seq QSH QSM
abbrev QSO : AC := .block 2 QSN
abbrev QSP : AC := .run [(.op (some 68) none (.bin .add (.s 49) (.k (.int .i64 1)))), (.op (some 49) none (.mv (.s 68)))]
abbrev QSQ : AC := .seq QSO QSP
abbrev QSR : AC := .seq QSG QSQ
abbrev QSS : AC := .seq QSF QSR
abbrev QST : AC := .loop QSS
abbrev QSU : AC := .block 1 QST
abbrev QSV : AC := .seq QSE QSU
abbrev QSW : AC := .par [(.op (some 69) none (.faddr (.s 1) 4)), (.op (some 70) none (.load (.s 69) false 1)), (.op (some 71) none (.bin .add (.s 70) (.k (.str [40])))), (.op (some 72) none (.mv (.s 3))), (.call (some 73) none n_strings_Join [(.s 72), (.k (.str [44, 32]))]), (.op (some 74) none (.bin .add (.s 71) (.s 73))), (.op (some 75) none (.bin .add (.s 74) (.k (.str [41])))), (.op (some 6) none (.mv (.s 75)))] [(3, 0), (4, 0), (0, 0), (1, 1), (2, 0), (5, 0), (6, 0), (7, 0)]
abbrev QSX : AC := .run [(.op (some 76) none (.faddr (.s 1) 3)), (.op (some 77) none (.load (.s 76) false 1)), (.op (some 78) none (.bin .neq (.s 77) (.k (.str []))))]
abbrev QSY : AC := .run [(.op (some 79) none (.faddr (.s 1) 3)), (.op (some 80) none (.load (.s 79) false 1)), (.op (some 81) none (.bin .add (.s 80) (.k (.str [32, 61, 32])))), (.op (some 82) none (.mv (.s 6))), (.op (some 83) none (.bin .add (.s 81) (.s 82))), (.op (some 2) none (.mv (.s 83)))]
abbrev QSZ : AC := .seq QSY .ret
abbrev QT0 : AC := .cond (.s 78) QSZ .skip
abbrev QT1 : AC := .seq QSX QT0
abbrev QT2 : AC := .run [(.op (some 84) none (.mv (.s 6))), (.op (some 2) none (.mv (.s 84)))]
abbrev QT3 : AC := .seq QT2 .ret
abbrev QT4 : AC := .seq QT1 QT3
abbrev QT5 : AC := .seq QSW QT4
abbrev QT6 : AC := .seq QSV QT5
abbrev QT7 : AC := .seq QSD QT6
abbrev QT8 : AC := .seq QSC QT7
abbrev QT9 : AC := .seq QR4 QT8
abbrev QTA : AC := .run [(.op (some 2) none (.box (.s 0))), (.op (some 4) none (.mv (.k (.bool false))))]
abbrev QTB : AC := .par [(.op (some 7) none (.mv (.s 1))), (.op (some 8) none (.bin .lss (.s 7) (.k (.int .i64 1)))), (.op (some 9) none (.mv (.s 8))), (.op (some 10) (some (9, false)) (.faddr (.s 2) 3)), (.op (some 11) (some (9, false)) (.load (.s 10) false 1)), (.op (some 12) (some (9, false)) (.len (.s 11))), (.op (some 13) (some (9, false)) (.faddr (.s 2) 0)), (.op (some 14) (some (9, false)) (.load (.s 13) false 1)), (.call (some 15) (some (9, false)) n_tree_kids [(.s 14)]), (.op (some 16) (some (9, false)) (.bin .neq (.s 12) (.s 15))), (.op (some 17) none (.pick (.s 9) (.k (.bool true)) (.s 16)))] [(0, 0), (1, 0), (2, 0), (6, 0), (7, 0), (8, 0), (3, 0), (4, 1), (5, 0), (9, 0), (10, 0)]
abbrev QTC : AC := .run [(.op (some 4) none (.mv (.k (.bool false))))]
abbrev QTD : AC := .seq QTC .ret
abbrev QTE : AC := .cond (.s 17) QTD .skip
abbrev QTF : AC := .seq QTB QTE
abbrev QTG : AC := .run [(.op (some 18) none (.faddr (.s 2) 0)), (.op (some 19) none (.load (.s 18) false 1))]
abbrev QTH : AC := .run [(.op (some 21) none (.bin .eql (.s 19) (.k (.int .i64 1)))), (.op (some 20) none (.mv (.s 21)))]
abbrev QTI : AC := .run [(.op (some 22) none (.faddr (.s 2) 1)), (.op (some 23) none (.load (.s 22) false 1)), (.op (some 24) none (.bin .geq (.s 23) (.k (.int .i64 0)))), (.op (some 25) none (.mv (.s 24))), (.op (some 26) (some (25, true)) (.faddr (.s 2) 2)), (.op (some 27) (some (25, true)) (.load (.s 26) false 1)), (.op (some 28) (some (25, true)) (.bin .eql (.s 27) (.k (.str [])))), (.op (some 29) none (.pick (.s 25) (.s 28) (.k (.bool false)))), (.op (some 4) none (.mv (.s 29)))]
abbrev QTJ : AC := .seq QTI .ret
abbrev QTK : AC := .run [(.op (some 31) none (.bin .eql (.s 19) (.k (.int .i64 2)))), (.op (some 30) none (.mv (.s 31)))]
abbrev QTL : AC := .run [(.op (some 32) none (.faddr (.s 2) 1)), (.op (some 33) none (.load (.s 32) false 1)), (.op (some 34) none (.bin .eql (.s 33) (.k (.int .i64 0)))), (.op (some 35) none (.mv (.s 34))), (.op (some 36) (some (35, true)) (.faddr (.s 2) 2)), (.op (some 37) (some (35, true)) (.load (.s 36) false 1)), (.call (some 38) (some (35, true)) n_lex_Name [(.s 37)]), (.op (some 39) none (.pick (.s 35) (.s 38) (.k (.bool false)))), (.op (some 4) none (.mv (.s 39)))]
abbrev QTM : AC := .seq QTL .ret
abbrev QTN : AC := .cond (.s 30) QTM .skip
abbrev QTO : AC := .seq QTK QTN
abbrev QTP : AC := .cond (.s 20) QTJ QTO
abbrev QTQ : AC := .seq QTH QTP
abbrev QTR : AC := .block 0 QTQ
abbrev QTS : AC := .seq QTG QTR
abbrev QTT : AC := .run [(.op (some 40) none (.faddr (.s 2) 1)), (.op (some 41) none (.load (.s 40) false 1)), (.op (some 42) none (.bin .neq (.s 41) (.k (.int .i64 0)))), (.op (some 43) none (.mv (.s 42))), (.op (some 44) (some (43, false)) (.faddr (.s 2) 2)), (.op (some 45) (some (43, false)) (.load (.s 44) false 1)), (.op (some 46) (some (43, false)) (.bin .neq (.s 45) (.k (.str [])))), (.op (some 47) none (.pick (.s 43) (.k (.bool true)) (.s 46)))]
abbrev QTU : AC := .run [(.op (some 4) none (.mv (.k (.bool false))))]
abbrev QTV : AC := .seq QTU .ret
abbrev QTW : AC := .cond (.s 47) QTV .skip
abbrev QTX : AC := .seq QTT QTW
abbrev QTY : AC := .run [(.op (some 48) none (.faddr (.s 2) 3)), (.op (some 49) none (.load (.s 48) false 1)), (.op (some 50) none (.len (.s 49))), (.op (some 51) none (.mv (.k (.int .i64 0))))]
abbrev QTZ : AC := .run [(.op (some 52) none (.bin .lss (.s 51) (.s 50)))]
abbrev QU0 : AC := .cond (.s 52) .skip (.exit 1)
abbrev QU1 : AC := .run [(.op (some 53) none (.iaddr (.s 49) (.s 51) 4)), (.op (some 54) none (.load (.s 53) true 4)), (.op (some 6) none (.alloc [(.int .i64 0), (.int .i64 0), (.str []), (.slice .full 0 [])])), (.op none none (.store (.s 6) (.s 54) 4))]
abbrev QU2 : AC := .run [(.op (some 55) none (.load (.s 6) true 4)), (.op (some 56) none (.mv (.s 1))), (.op (some 57) none (.bin .sub (.s 56) (.k (.int .i64 1)))), (.call (some 58) none n_tree_deep [(.s 55), (.s 57)]), (.op (some 59) none (.un .not (.s 58)))]
abbrev QU3 : AC := .run [(.op (some 4) none (.mv (.k (.bool false))))]
abbrev QU4 : AC := .seq QU3 .ret
abbrev QU5 : AC := .cond (.s 59) QU4 .skip
abbrev QU6 : AC := .seq QU2 QU5
abbrev QU7 : AC := .seq QU1 QU6
abbrev QU8 : AC := .block 2 QU7
abbrev QU9 : AC := .run [(.op (some 60) none (.bin .add (.s 51) (.k (.int .i64 1)))), (.op (some 51) none (.mv (.s 60)))]
abbrev QUA : AC := .seq QU8 QU9
abbrev QUB : AC := .seq QU0 QUA
abbrev QUC : AC := .seq QTZ QUB
abbrev QUD : AC := .loop QUC
abbrev QUE : AC := .block 1 QUD
abbrev QUF : AC := .seq QTY QUE
abbrev QUG : AC := .run [(.op (some 4) none (.mv (.k (.bool true))))]
abbrev QUH : AC := .seq QUG .ret
abbrev QUI : AC := .seq QUF QUH
abbrev QUJ : AC := .seq QTX QUI
abbrev QUK : AC := .seq QTS QUJ
abbrev QUL : AC := .seq QTF QUK
abbrev QUM : AC := .seq QTA QUL
abbrev QUN : AC := .run [(.op (some 2) none (.mv (.k (.str [])))), (.op (some 3) none (.mv (.k (.int .i64 0))))]
abbrev QUO : AC := .run [(.op (some 4) none (.mv (.s 0)))]
abbrev QUP : AC := .run [(.op (some 6) none (.bin .eql (.s 4) (.k (.int .i64 17)))), (.op (some 5) none (.mv (.s 6)))]
abbrev QUQ : AC := .run [(.op (some 2) none (.mv (.k (.str [124, 124])))), (.op (some 3) none (.mv (.k (.int .i64 1))))]
abbrev QUR : AC := .seq QUQ .ret
abbrev QUS : AC := .run [(.op (some 8) none (.bin .eql (.s 4) (.k (.int .i64 16)))), (.op (some 7) none (.mv (.s 8)))]
abbrev QUT : AC := .run [(.op (some 2) none (.mv (.k (.str [38, 38])))), (.op (some 3) none (.mv (.k (.int .i64 2))))]
abbrev QUU : AC := .seq QUT .ret
abbrev QUV : AC := .run [(.op (some 10) none (.bin .eql (.s 4) (.k (.int .i64 14)))), (.op (some 9) none (.mv (.s 10)))]
abbrev QUW : AC := .run [(.op (some 2) none (.mv (.k (.str [61, 61])))), (.op (some 3) none (.mv (.k (.int .i64 3))))]
abbrev QUX : AC := .seq QUW .ret
abbrev QUY : AC := .run [(.op (some 12) none (.bin .eql (.s 4) (.k (.int .i64 15)))), (.op (some 11) none (.mv (.s 12)))]
abbrev QUZ : AC := .run [(.op (some 2) none (.mv (.k (.str [33, 61])))), (.op (some 3) none (.mv (.k (.int .i64 3))))]
abbrev QV0 : AC := .seq QUZ .ret
abbrev QV1 : AC := .run [(.op (some 14) none (.bin .eql (.s 4) (.k (.int .i64 10)))), (.op (some 13) none (.mv (.s 14)))]
abbrev QV2 : AC := .run [(.op (some 2) none (.mv (.k (.str [60])))), (.op (some 3) none (.mv (.k (.int .i64 4))))]
abbrev QV3 : AC := .seq QV2 .ret
abbrev QV4 : AC := .run [(.op (some 16) none (.bin .eql (.s 4) (.k (.int .i64 11)))), (.op (some 15) none (.mv (.s 16)))]
abbrev QV5 : AC := .run [(.op (some 2) none (.mv (.k (.str [60, 61])))), (.op (some 3) none (.mv (.k (.int .i64 4))))]
abbrev QV6 : AC := .seq QV5 .ret
abbrev QV7 : AC := .run [(.op (some 18) none (.bin .eql (.s 4) (.k (.int .i64 12)))), (.op (some 17) none (.mv (.s 18)))]
abbrev QV8 : AC := .run [(.op (some 2) none (.mv (.k (.str [62])))), (.op (some 3) none (.mv (.k (.int .i64 4))))]
abbrev QV9 : AC := .seq QV8 .ret
abbrev QVA : AC := .run [(.op (some 20) none (.bin .eql (.s 4) (.k (.int .i64 13)))), (.op (some 19) none (.mv (.s 20)))]
abbrev QVB : AC := .run [(.op (some 2) none (.mv (.k (.str [62, 61])))), (.op (some 3) none (.mv (.k (.int .i64 4))))]
abbrev QVC : AC := .seq QVB .ret
abbrev QVD : AC := .run [(.op (some 22) none (.bin .eql (.s 4) (.k (.int .i64 8)))), (.op (some 21) none (.mv (.s 22)))]
abbrev QVE : AC := .run [(.op (some 2) none (.mv (.k (.str [43])))), (.op (some 3) none (.mv (.k (.int .i64 5))))]
abbrev QVF : AC := .seq QVE .ret
abbrev QVG : AC := .run [(.op (some 24) none (.bin .eql (.s 4) (.k (.int .i64 9)))), (.op (some 23) none (.mv (.s 24)))]
abbrev QVH : AC := .run [(.op (some 2) none (.mv (.k (.str [45])))), (.op (some 3) none (.mv (.k (.int .i64 5))))]
abbrev QVI : AC := .seq QVH .ret
abbrev QVJ : AC := .run [(.op (some 26) none (.bin .eql (.s 4) (.k (.int .i64 5)))), (.op (some 25) none (.mv (.s 26)))]
abbrev QVK : AC := .run [(.op (some 2) none (.mv (.k (.str [42])))), (.op (some 3) none (.mv (.k (.int .i64 6))))]
abbrev QVL : AC := .seq QVK .ret
abbrev QVM : AC := .run [(.op (some 28) none (.bin .eql (.s 4) (.k (.int .i64 6)))), (.op (some 27) none (.mv (.s 28)))]
abbrev QVN : AC := .run [(.op (some 2) none (.mv (.k (.str [47])))), (.op (some 3) none (.mv (.k (.int .i64 6))))]
abbrev QVO : AC := .seq QVN .ret
abbrev QVP : AC := .run [(.op (some 30) none (.bin .eql (.s 4) (.k (.int .i64 7)))), (.op (some 29) none (.mv (.s 30)))]
abbrev QVQ : AC := .run [(.op (some 2) none (.mv (.k (.str [37])))), (.op (some 3) none (.mv (.k (.int .i64 6))))]
abbrev QVR : AC := .seq QVQ .ret
abbrev QVS : AC := .cond (.s 29) QVR .skip
abbrev QVT : AC := .seq QVP QVS
abbrev QVU : AC := .cond (.s 27) QVO QVT
abbrev QVV : AC := .seq QVM QVU
abbrev QVW : AC := .cond (.s 25) QVL QVV
abbrev QVX : AC := .seq QVJ QVW
abbrev QVY : AC := .cond (.s 23) QVI QVX
abbrev QVZ : AC := .seq QVG QVY
abbrev QW0 : AC := .cond (.s 21) QVF QVZ
abbrev QW1 : AC := .seq QVD QW0
abbrev QW2 : AC := .cond (.s 19) QVC QW1
abbrev QW3 : AC := .seq QVA QW2
abbrev QW4 : AC := .cond (.s 17) QV9 QW3
abbrev QW5 : AC := .seq QV7 QW4
abbrev QW6 : AC := .cond (.s 15) QV6 QW5
abbrev QW7 : AC := .seq QV4 QW6
abbrev QW8 : AC := .cond (.s 13) QV3 QW7
abbrev QW9 : AC := .seq QV1 QW8
abbrev QWA : AC := .cond (.s 11) QV0 QW9
abbrev QWB : AC := .seq QUY QWA
abbrev QWC : AC := .cond (.s 9) QUX QWB
abbrev QWD : AC := .seq QUV QWC
abbrev QWE : AC := .cond (.s 7) QUU QWD
abbrev QWF : AC := .seq QUS QWE
abbrev QWG : AC := .cond (.s 5) QUR QWF
abbrev QWH : AC := .seq QUP QWG
abbrev QWI : AC := .block 0 QWH
abbrev QWJ : AC := .seq QUO QWI
abbrev QWK : AC := .run [(.op (some 2) none (.mv (.k (.str [])))), (.op (some 3) none (.mv (.k (.int .i64 7))))]
abbrev QWL : AC := .seq QWK .ret
abbrev QWM : AC := .seq QWJ QWL
abbrev QWN : AC := .seq QUN QWM
abbrev QWO : AC := .run [(.op (some 2) none (.mv (.k (.int .i64 0))))]
abbrev QWP : AC := .run [(.op (some 4) none (.mv (.s 0))), (.op (some 5) none (.bin .eql (.s 4) (.k (.int .i64 1)))), (.op (some 6) none (.mv (.s 5))), (.op (some 7) (some (6, false)) (.mv (.s 0))), (.op (some 8) (some (6, false)) (.bin .eql (.s 7) (.k (.int .i64 2)))), (.op (some 9) none (.pick (.s 6) (.k (.bool true)) (.s 8))), (.op (some 3) none (.mv (.s 9)))]
abbrev QWQ : AC := .run [(.op (some 2) none (.mv (.k (.int .i64 0))))]
abbrev QWR : AC := .seq QWQ .ret
abbrev QWS : AC := .run [(.op (some 11) none (.mv (.s 0))), (.op (some 12) none (.bin .eql (.s 11) (.k (.int .i64 3)))), (.op (some 13) none (.mv (.s 12))), (.op (some 14) (some (13, false)) (.mv (.s 0))), (.op (some 15) (some (13, false)) (.bin .eql (.s 14) (.k (.int .i64 4)))), (.op (some 16) none (.pick (.s 13) (.k (.bool true)) (.s 15))), (.op (some 10) none (.mv (.s 16)))]
abbrev QWT : AC := .run [(.op (some 2) none (.mv (.k (.int .i64 1))))]
abbrev QWU : AC := .seq QWT .ret
abbrev QWV : AC := .run [(.op (some 18) none (.mv (.s 0))), (.op (some 19) none (.bin .geq (.s 18) (.k (.int .i64 5)))), (.op (some 20) none (.mv (.s 19))), (.op (some 21) (some (20, true)) (.mv (.s 0))), (.op (some 22) (some (20, true)) (.bin .leq (.s 21) (.k (.int .i64 17)))), (.op (some 23) none (.pick (.s 20) (.s 22) (.k (.bool false)))), (.op (some 17) none (.mv (.s 23)))]
abbrev QWW : AC := .run [(.op (some 2) none (.mv (.k (.int .i64 2))))]
abbrev QWX : AC := .seq QWW .ret
abbrev QWY : AC := .cond (.s 17) QWX .skip
abbrev QWZ : AC := .seq QWV QWY
abbrev QX0 : AC := .cond (.s 10) QWU QWZ
abbrev QX1 : AC := .seq QWS QX0
abbrev QX2 : AC := .cond (.s 3) QWR QX1
abbrev QX3 : AC := .seq QWP QX2
abbrev QX4 : AC := .block 0 QX3
abbrev QX5 : AC := .run [(.op (some 2) none (.mv (.k (.int .i64 (-1)))))]
abbrev QX6 : AC := .seq QX5 .ret
abbrev QX7 : AC := .seq QX4 QX6
abbrev QX8 : AC := .seq QWO QX7
abbrev QX9 : AC := .run [(.op (some 2) none (.mv (.k (.bool false))))]
abbrev QXA : AC := .run [(.op (some 3) none (.mv (.s 0))), (.op (some 4) none (.bin .geq (.s 3) (.k (.int .u8 97)))), (.op (some 5) none (.mv (.s 4))), (.op (some 6) (some (5, true)) (.mv (.s 0))), (.op (some 7) (some (5, true)) (.bin .leq (.s 6) (.k (.int .u8 122)))), (.op (some 8) none (.pick (.s 5) (.s 7) (.k (.bool false)))), (.op (some 2) none (.mv (.s 8)))]
abbrev QXB : AC := .seq QXA .ret
abbrev QXC : AC := .seq QX9 QXB
abbrev QXD : AC := .run [(.op (some 2) none (.mv (.k (.bool false))))]
abbrev QXE : AC := .run [(.op (some 3) none (.mv (.s 0))), (.op (some 4) none (.bin .geq (.s 3) (.k (.int .u8 48)))), (.op (some 5) none (.mv (.s 4))), (.op (some 6) (some (5, true)) (.mv (.s 0))), (.op (some 7) (some (5, true)) (.bin .leq (.s 6) (.k (.int .u8 57)))), (.op (some 8) none (.pick (.s 5) (.s 7) (.k (.bool false)))), (.op (some 2) none (.mv (.s 8)))]
abbrev QXF : AC := .seq QXE .ret
abbrev QXG : AC := .seq QXD QXF
abbrev QXH : AC := .run [(.op (some 2) none (.mv (.k (.bool false))))]
abbrev QXI : AC := .run [(.call (some 5) none n_ref1_Words []), (.op (some 6) none (.len (.s 5))), (.op (some 7) none (.mv (.k (.int .i64 0))))]
abbrev QXJ : AC := .run [(.op (some 8) none (.bin .lss (.s 7) (.s 6)))]
abbrev QXK : AC := .cond (.s 8) .skip (.exit 0)
abbrev QXL : AC := .run [(.op (some 9) none (.iaddr (.s 5) (.s 7) 1)), (.op (some 10) none (.load (.s 9) false 1)), (.op (some 4) none (.mv (.s 10)))]
abbrev QXM : AC := .run [(.op (some 11) none (.mv (.s 4))), (.op (some 12) none (.mv (.s 0))), (.op (some 13) none (.bin .eql (.s 11) (.s 12)))]
abbrev QXN : AC := .run [(.op (some 2) none (.mv (.k (.bool true))))]
abbrev QXO : AC := .seq QXN .ret
abbrev QXP : AC := .cond (.s 13) QXO .skip
abbrev QXQ : AC := .seq QXM QXP
abbrev QXR : AC := .seq QXL QXQ
abbrev QXS : AC := .block 1 QXR
abbrev QXT : AC := .run [(.op (some 14) none (.bin .add (.s 7) (.k (.int .i64 1)))), (.op (some 7) none (.mv (.s 14)))]
abbrev QXU : AC := .seq QXS QXT
abbrev QXV : AC := .seq QXK QXU
abbrev QXW : AC := .seq QXJ QXV
abbrev QXX : AC := .loop QXW
abbrev QXY : AC := .block 0 QXX
abbrev QXZ : AC := .seq QXI QXY
abbrev QY0 : AC := .run [(.op (some 2) none (.mv (.k (.bool false))))]
abbrev QY1 : AC := .seq QY0 .ret
abbrev QY2 : AC := .seq QXZ QY1
abbrev QY3 : AC := .seq QXH QY2
abbrev QY4 : AC := .run [(.op (some 1) none (.box (.s 0))), (.op (some 2) none (.mv (.k (.slice .full 0 []))))]
abbrev QY5 : AC := .run [(.op (some 3) none (.faddr (.s 1) 3)), (.op (some 4) none (.load (.s 3) false 1)), (.call (some 5) none n_ref3_flat [(.s 4), (.k (.int .i64 1)), (.k (.int .i64 0)), (.k (.bool false)), (.k (.slice .full 0 []))]), (.op (some 2) none (.mv (.s 5)))]
abbrev QY6 : AC := .seq QY5 .ret
abbrev QY7 : AC := .seq QY4 QY6
abbrev QY8 : AC := .run [(.op (some 1) none (.box (.s 0))), (.op (some 2) none (.mv (.k (.bool false))))]
abbrev QY9 : AC := .run [(.op (some 3) none (.faddr (.s 1) 0)), (.op (some 4) none (.load (.s 3) false 1)), (.op (some 5) none (.bin .eql (.s 4) (.k (.int .i64 0)))), (.op (some 6) none (.mv (.s 5))), (.op (some 7) (some (6, true)) (.faddr (.s 1) 1)), (.op (some 8) (some (6, true)) (.load (.s 7) false 1)), (.op (some 9) (some (6, true)) (.bin .eql (.s 8) (.k (.int .i64 0)))), (.op (some 10) none (.pick (.s 6) (.s 9) (.k (.bool false)))), (.op (some 11) none (.mv (.s 10))), (.op (some 12) (some (11, true)) (.faddr (.s 1) 2)), (.op (some 13) (some (11, true)) (.load (.s 12) false 1)), (.op (some 14) (some (11, true)) (.bin .eql (.s 13) (.k (.str [])))), (.op (some 15) none (.pick (.s 11) (.s 14) (.k (.bool false)))), (.op (some 16) none (.mv (.s 15))), (.op (some 17) (some (16, true)) (.faddr (.s 1) 3)), (.op (some 18) (some (16, true)) (.load (.s 17) false 1)), (.op (some 19) (some (16, true)) (.len (.s 18))), (.op (some 20) (some (16, true)) (.bin .eql (.s 19) (.k (.int .i64 0)))), (.op (some 21) none (.pick (.s 16) (.s 20) (.k (.bool false)))), (.op (some 2) none (.mv (.s 21)))]
abbrev QYA : AC := .seq QY9 .ret
abbrev QYB : AC := .seq QY8 QYA
abbrev QYC : AC := .run [(.op (some 1) none (.box (.s 0))), (.op (some 2) none (.mv (.k (.bool false))))]
abbrev QYD : AC := .run [(.op (some 3) none (.faddr (.s 1) 0)), (.op (some 4) none (.load (.s 3) false 1))]
abbrev QYE : AC := .run [(.op (some 5) none (.faddr (.s 1) 1)), (.op (some 6) none (.load (.s 5) false 1)), (.call (some 7) none n_ref1_Name [(.s 6)]), (.op (some 8) none (.mv (.s 7))), (.op (some 9) (some (8, true)) (.faddr (.s 1) 2)), (.op (some 10) (some (8, true)) (.load (.s 9) true 4)), (.call (some 11) (some (8, true)) n_ref3_none [(.s 10)]), (.op (some 12) none (.pick (.s 8) (.s 11) (.k (.bool false)))), (.op (some 2) none (.mv (.s 12)))]
abbrev QYF : AC := .seq QYE .ret
abbrev QYG : AC := .cond (.s 4) QYF .skip
abbrev QYH : AC := .seq QYD QYG
abbrev QYI : AC := .run [(.op (some 13) none (.faddr (.s 1) 1)), (.op (some 14) none (.load (.s 13) false 1)), (.op (some 15) none (.bin .eql (.s 14) (.k (.str [])))), (.op (some 16) none (.mv (.s 15))), (.op (some 17) (some (16, true)) (.faddr (.s 1) 2)), (.op (some 18) (some (16, true)) (.load (.s 17) true 4)), (.call (some 19) (some (16, true)) n_ref3_MayExpr [(.s 18)]), (.op (some 20) none (.pick (.s 16) (.s 19) (.k (.bool false)))), (.op (some 2) none (.mv (.s 20)))]
abbrev QYJ : AC := .seq QYI .ret
abbrev QYK : AC := .seq QYH QYJ
abbrev QYL : AC := .seq QYC QYK
abbrev QYM : AC := .run [(.op (some 2) none (.mv (.k (.bool false))))]
abbrev QYN : AC := .run [(.op (some 3) none (.mv (.s 0))), (.op (some 4) none (.bin .geq (.s 3) (.k (.int .u8 97)))), (.op (some 5) none (.mv (.s 4))), (.op (some 6) (some (5, true)) (.mv (.s 0))), (.op (some 7) (some (5, true)) (.bin .leq (.s 6) (.k (.int .u8 122)))), (.op (some 8) none (.pick (.s 5) (.s 7) (.k (.bool false)))), (.op (some 2) none (.mv (.s 8)))]
abbrev QYO : AC := .seq QYN .ret
abbrev QYP : AC := .seq QYM QYO
abbrev QYQ : AC := .run [(.op (some 2) none (.mv (.k (.bool false))))]
abbrev QYR : AC := .run [(.op (some 3) none (.mv (.s 0))), (.op (some 4) none (.bin .geq (.s 3) (.k (.int .u8 48)))), (.op (some 5) none (.mv (.s 4))), (.op (some 6) (some (5, true)) (.mv (.s 0))), (.op (some 7) (some (5, true)) (.bin .leq (.s 6) (.k (.int .u8 57)))), (.op (some 8) none (.pick (.s 5) (.s 7) (.k (.bool false)))), (.op (some 2) none (.mv (.s 8)))]
abbrev QYS : AC := .seq QYR .ret
abbrev QYT : AC := .seq QYQ QYS
abbrev QYU : AC := .run [(.op (some 4) none (.mv (.k (.int .i64 0))))]
abbrev QYV : AC := .run [(.op (some 5) none (.mv (.s 1))), (.op (some 6) none (.mv (.s 0))), (.op (some 7) none (.slen (.s 6))), (.op (some 8) none (.bin .lss (.s 5) (.s 7))), (.op (some 9) none (.mv (.s 8))), (.op (some 10) (some (9, true)) (.mv (.s 0))), (.op (some 11) (some (9, true)) (.mv (.s 1))), (.op (some 12) (some (9, true)) (.sidx (.s 10) (.s 11))), (.call (some 13) (some (9, true)) n_lex_letter [(.s 12)]), (.op (some 14) (some (9, true)) (.mv (.s 13))), (.op (some 15) (some (14, false)) (.mv (.s 0))), (.op (some 16) (some (14, false)) (.mv (.s 1))), (.op (some 17) (some (14, false)) (.sidx (.s 15) (.s 16))), (.call (some 18) (some (14, false)) n_lex_digit [(.s 17)]), (.op (some 19) (some (9, true)) (.pick (.s 14) (.k (.bool true)) (.s 18))), (.op (some 20) none (.pick (.s 9) (.s 19) (.k (.bool false))))]
abbrev QYW : AC := .cond (.s 20) .skip (.exit 0)
abbrev QYX : AC := .seq QYV QYW
abbrev QYY : AC := .run [(.op (some 21) none (.mv (.s 1))), (.op (some 22) none (.bin .add (.s 21) (.k (.int .i64 1)))), (.op (some 1) none (.mv (.s 22)))]
abbrev QYZ : AC := .block 1 QYY
abbrev QZ0 : AC := .seq QYX QYZ
abbrev QZ1 : AC := .loop QZ0
abbrev QZ2 : AC := .block 0 QZ1
abbrev QZ3 : AC := .run [(.op (some 23) none (.mv (.s 1))), (.op (some 4) none (.mv (.s 23)))]
abbrev QZ4 : AC := .seq QZ3 .ret
abbrev QZ5 : AC := .seq QZ2 QZ4
abbrev QZ6 : AC := .seq QYU QZ5
abbrev QZ7 : AC := .run [(.op (some 2) none (.mv (.k (.bool false))))]
abbrev QZ8 : AC := .run [(.op (some 3) none (.mv (.s 0)))]
abbrev QZ9 : AC := .run [(.op (some 5) none (.bin .eql (.s 3) (.k (.str [103, 108, 111, 98, 97, 108])))), (.op (some 4) none (.mv (.s 5)))]
abbrev QZA : AC := .run [(.op (some 6) none (.bin .eql (.s 3) (.k (.str [112, 114, 111, 99])))), (.op (some 4) none (.mv (.s 6)))]
abbrev QZB : AC := .run [(.op (some 7) none (.bin .eql (.s 3) (.k (.str [118, 97, 114])))), (.op (some 4) none (.mv (.s 7)))]
abbrev QZC : AC := .run [(.op (some 8) none (.bin .eql (.s 3) (.k (.str [114, 101, 102])))), (.op (some 4) none (.mv (.s 8)))]
abbrev QZD : AC := .run [(.op (some 9) none (.bin .eql (.s 3) (.k (.str [105, 102])))), (.op (some 4) none (.mv (.s 9)))]
abbrev QZE : AC := .run [(.op (some 10) none (.bin .eql (.s 3) (.k (.str [101, 108, 115, 101])))), (.op (some 4) none (.mv (.s 10)))]
abbrev QZF : AC := .run [(.op (some 11) none (.bin .eql (.s 3) (.k (.str [119, 104, 105, 108, 101])))), (.op (some 4) none (.mv (.s 11)))]
abbrev QZG : AC := .run [(.op (some 12) none (.bin .eql (.s 3) (.k (.str [98, 114, 101, 97, 107])))), (.op (some 4) none (.mv (.s 12)))]
abbrev QZH : AC := .run [(.op (some 13) none (.bin .eql (.s 3) (.k (.str [99, 111, 110, 116, 105, 110, 117, 101])))), (.op (some 4) none (.mv (.s 13)))]
abbrev QZI : AC := .run [(.op (some 14) none (.bin .eql (.s 3) (.k (.str [114, 101, 116, 117, 114, 110])))), (.op (some 4) none (.mv (.s 14)))]
abbrev QZJ : AC := .run [(.op (some 15) none (.bin .eql (.s 3) (.k (.str [103, 111, 116, 111])))), (.op (some 4) none (.mv (.s 15)))]
abbrev QZK : AC := .run [(.op (some 16) none (.bin .eql (.s 3) (.k (.str [114, 101, 97, 100])))), (.op (some 4) none (.mv (.s 16)))]
abbrev QZL : AC := .run [(.op (some 17) none (.bin .eql (.s 3) (.k (.str [112, 114, 105, 110, 116])))), (.op (some 4) none (.mv (.s 17)))]
abbrev QZM : AC := .cond (.s 4) .skip QZL
abbrev QZN : AC := .seq QZK QZM
abbrev QZO : AC := .cond (.s 4) .skip QZN
abbrev QZP : AC := .seq QZJ QZO
abbrev QZQ : AC := .cond (.s 4) .skip QZP
abbrev QZR : AC := .seq QZI QZQ
abbrev QZS : AC := .cond (.s 4) .skip QZR
abbrev QZT : AC := .seq QZH QZS
abbrev QZU : AC := .cond (.s 4) .skip QZT
abbrev QZV : AC := .seq QZG QZU
abbrev QZW : AC := .cond (.s 4) .skip QZV
abbrev QZX : AC := .seq QZF QZW
abbrev QZY : AC := .cond (.s 4) .skip QZX
abbrev QZZ : AC := .seq QZE QZY
abbrev Q100 : AC := .cond (.s 4) .skip QZZ
abbrev Q101 : AC := .seq QZD Q100
abbrev Q102 : AC := .cond (.s 4) .skip Q101
abbrev Q103 : AC := .seq QZC Q102
abbrev Q104 : AC := .cond (.s 4) .skip Q103
abbrev Q105 : AC := .seq QZB Q104
abbrev Q106 : AC := .cond (.s 4) .skip Q105
abbrev Q107 : AC := .seq QZA Q106
abbrev Q108 : AC := .cond (.s 4) .skip Q107
abbrev Q109 : AC := .seq QZ9 Q108
abbrev Q10A : AC := .run [(.op (some 2) none (.mv (.k (.bool true))))]
abbrev Q10B : AC := .seq Q10A .ret
abbrev Q10C : AC := .cond (.s 4) Q10B .skip
abbrev Q10D : AC := .seq Q109 Q10C
abbrev Q10E : AC := .block 0 Q10D
abbrev Q10F : AC := .seq QZ8 Q10E
abbrev Q10G : AC := .run [(.op (some 2) none (.mv (.k (.bool false))))]
abbrev Q10H : AC := .seq Q10G .ret
abbrev Q10I : AC := .seq Q10F Q10H
abbrev Q10J : AC := .seq QZ7 Q10I
abbrev Q10K : AC := .run [(.op (some 1) none (.box (.s 0))), (.op (some 2) none (.mv (.k (.bool false))))]
abbrev Q10L : AC := .par [(.op (some 10) none (.faddr (.s 1) 9)), (.op (some 11) none (.load (.s 10) false 1)), (.op (some 3) none (.mv (.k (.bool false)))), (.op (some 4) none (.mv (.k (.bool false)))), (.op (some 5) none (.mv (.k (.bool false)))), (.op (some 6) none (.mv (.s 11))), (.op (some 7) none (.mv (.k (.bool false)))), (.op (some 8) none (.mv (.k (.bool false))))] [(0, 0), (1, 0), (2, 0), (3, 0), (4, 0), (5, 0), (6, 0), (7, 0)]
abbrev Q10M : AC := .run [(.op (some 12) none (.faddr (.s 1) 1)), (.op (some 13) none (.load (.s 12) false 1)), (.op (some 14) none (.bin .eql (.s 13) (.k (.int .i64 4)))), (.op (some 9) none (.mv (.s 14)))]
abbrev Q10N : AC := .run [(.op (some 15) none (.faddr (.s 1) 1)), (.op (some 16) none (.load (.s 15) false 1))]
abbrev Q10O : AC := .run [(.op (some 18) none (.bin .eql (.s 16) (.k (.int .i64 1)))), (.op (some 17) none (.mv (.s 18)))]
abbrev Q10P : AC := .run [(.op (some 3) none (.mv (.k (.bool true)))), (.op (some 5) none (.mv (.k (.bool true))))]
abbrev Q10Q : AC := .run [(.op (some 20) none (.bin .eql (.s 16) (.k (.int .i64 2)))), (.op (some 19) none (.mv (.s 20)))]
abbrev Q10R : AC := .run [(.op (some 21) none (.bin .eql (.s 16) (.k (.int .i64 10)))), (.op (some 19) none (.mv (.s 21)))]
abbrev Q10S : AC := .cond (.s 19) .skip Q10R
abbrev Q10T : AC := .seq Q10Q Q10S
abbrev Q10U : AC := .run [(.op (some 3) none (.mv (.k (.bool true))))]
abbrev Q10V : AC := .run [(.op (some 23) none (.bin .eql (.s 16) (.k (.int .i64 3)))), (.op (some 22) none (.mv (.s 23)))]
abbrev Q10W : AC := .run [(.op (some 5) none (.mv (.k (.bool true))))]
abbrev Q10X : AC := .run [(.op (some 25) none (.bin .eql (.s 16) (.k (.int .i64 4)))), (.op (some 24) none (.mv (.s 25)))]
abbrev Q10Y : AC := .run [(.op (some 26) none (.faddr (.s 1) 3)), (.op (some 27) none (.load (.s 26) false 1)), (.op (some 28) none (.bin .neq (.s 27) (.k (.str [])))), (.op (some 3) none (.mv (.s 28))), (.op (some 4) none (.mv (.k (.bool true))))]
abbrev Q10Z : AC := .run [(.op (some 30) none (.bin .eql (.s 16) (.k (.int .i64 5)))), (.op (some 29) none (.mv (.s 30)))]
abbrev Q110 : AC := .run [(.op (some 5) none (.mv (.k (.bool true)))), (.op (some 7) none (.mv (.k (.bool true)))), (.op (some 8) none (.mv (.k (.bool true))))]
abbrev Q111 : AC := .run [(.op (some 32) none (.bin .eql (.s 16) (.k (.int .i64 6)))), (.op (some 31) none (.mv (.s 32)))]
abbrev Q112 : AC := .run [(.op (some 5) none (.mv (.k (.bool true)))), (.op (some 7) none (.mv (.k (.bool true))))]
abbrev Q113 : AC := .run [(.op (some 34) none (.bin .eql (.s 16) (.k (.int .i64 9)))), (.op (some 33) none (.mv (.s 34)))]
abbrev Q114 : AC := .run [(.op (some 35) none (.faddr (.s 1) 9)), (.op (some 36) none (.load (.s 35) false 1)), (.op (some 5) none (.mv (.s 36))), (.op (some 6) none (.mv (.k (.bool false))))]
abbrev Q115 : AC := .run [(.op (some 38) none (.bin .eql (.s 16) (.k (.int .i64 7)))), (.op (some 37) none (.mv (.s 38)))]
abbrev Q116 : AC := .run [(.op (some 39) none (.bin .eql (.s 16) (.k (.int .i64 8)))), (.op (some 37) none (.mv (.s 39)))]
abbrev Q117 : AC := .cond (.s 37) .skip Q116
abbrev Q118 : AC := .seq Q115 Q117
abbrev Q119 : AC := .run [(.op (some 2) none (.mv (.k (.bool false))))]
abbrev Q11A : AC := .seq Q119 .ret
abbrev Q11B : AC := .cond (.s 37) .skip Q11A
abbrev Q11C : AC := .seq Q118 Q11B
abbrev Q11D : AC := .cond (.s 33) Q114 Q11C
abbrev Q11E : AC := .seq Q113 Q11D
abbrev Q11F : AC := .cond (.s 31) Q112 Q11E
abbrev Q11G : AC := .seq Q111 Q11F
abbrev Q11H : AC := .cond (.s 29) Q110 Q11G
abbrev Q11I : AC := .seq Q10Z Q11H
abbrev Q11J : AC := .cond (.s 24) Q10Y Q11I
abbrev Q11K : AC := .seq Q10X Q11J
abbrev Q11L : AC := .cond (.s 22) Q10W Q11K
abbrev Q11M : AC := .seq Q10V Q11L
abbrev Q11N : AC := .cond (.s 19) Q10U Q11M
abbrev Q11O : AC := .seq Q10T Q11N
abbrev Q11P : AC := .cond (.s 17) Q10P Q11O
abbrev Q11Q : AC := .seq Q10O Q11P
abbrev Q11R : AC := .block 0 Q11Q
abbrev Q11S : AC := .seq Q10N Q11R
abbrev Q11T : AC := .run [(.op (some 40) none (.mv (.s 6))), (.op (some 41) none (.mv (.s 40))), (.op (some 42) (some (41, false)) (.mv (.s 7))), (.op (some 43) (some (41, false)) (.un .not (.s 42))), (.op (some 44) (some (41, false)) (.mv (.s 43))), (.op (some 45) (some (44, true)) (.faddr (.s 1) 11)), (.op (some 46) (some (44, true)) (.load (.s 45) false 1)), (.op (some 47) (some (44, true)) (.len (.s 46))), (.op (some 48) (some (44, true)) (.bin .gtr (.s 47) (.k (.int .i64 0)))), (.op (some 49) (some (41, false)) (.pick (.s 44) (.s 48) (.k (.bool false)))), (.op (some 50) none (.pick (.s 41) (.k (.bool true)) (.s 49))), (.op (some 51) none (.mv (.s 50))), (.op (some 52) (some (51, false)) (.mv (.s 8))), (.op (some 53) (some (51, false)) (.un .not (.s 52))), (.op (some 54) (some (51, false)) (.mv (.s 53))), (.op (some 55) (some (54, true)) (.faddr (.s 1) 12)), (.op (some 56) (some (54, true)) (.load (.s 55) false 1)), (.op (some 57) (some (54, true)) (.len (.s 56))), (.op (some 58) (some (54, true)) (.bin .gtr (.s 57) (.k (.int .i64 0)))), (.op (some 59) (some (51, false)) (.pick (.s 54) (.s 58) (.k (.bool false)))), (.op (some 60) none (.pick (.s 51) (.k (.bool true)) (.s 59))), (.op (some 61) none (.mv (.s 60))), (.op (some 62) (some (61, false)) (.mv (.s 9))), (.op (some 63) (some (61, false)) (.un .not (.s 62))), (.op (some 64) (some (61, false)) (.mv (.s 63))), (.op (some 65) (some (64, true)) (.faddr (.s 1) 10)), (.op (some 66) (some (64, true)) (.load (.s 65) false 1)), (.op (some 67) (some (64, true)) (.len (.s 66))), (.op (some 68) (some (64, true)) (.bin .gtr (.s 67) (.k (.int .i64 0)))), (.op (some 69) (some (61, false)) (.pick (.s 64) (.s 68) (.k (.bool false)))), (.op (some 70) none (.pick (.s 61) (.k (.bool true)) (.s 69)))]
abbrev Q11U : AC := .run [(.op (some 2) none (.mv (.k (.bool false))))]
abbrev Q11V : AC := .seq Q11U .ret
abbrev Q11W : AC := .cond (.s 70) Q11V .skip
abbrev Q11X : AC := .seq Q11T Q11W
abbrev Q11Y : AC := .run [(.op (some 71) none (.faddr (.s 1) 3)), (.op (some 72) none (.load (.s 71) false 1)), (.op (some 73) none (.mv (.s 3))), (.call (some 74) none n_tree_named [(.s 72), (.s 73)]), (.op (some 75) none (.un .not (.s 74))), (.op (some 76) none (.mv (.s 75))), (.op (some 77) (some (76, false)) (.faddr (.s 1) 4)), (.op (some 78) (some (76, false)) (.load (.s 77) false 1)), (.op (some 79) (some (76, false)) (.mv (.s 4))), (.call (some 80) (some (76, false)) n_tree_named [(.s 78), (.s 79)]), (.op (some 81) (some (76, false)) (.un .not (.s 80))), (.op (some 82) none (.pick (.s 76) (.k (.bool true)) (.s 81))), (.op (some 83) none (.mv (.s 82))), (.op (some 84) (some (83, false)) (.faddr (.s 1) 5)), (.op (some 85) (some (83, false)) (.load (.s 84) true 4)), (.op (some 86) (some (83, false)) (.mv (.s 5))), (.call (some 87) (some (83, false)) n_tree_worth [(.s 85), (.s 86)]), (.op (some 88) (some (83, false)) (.un .not (.s 87))), (.op (some 89) none (.pick (.s 83) (.k (.bool true)) (.s 88)))]
abbrev Q11Z : AC := .run [(.op (some 2) none (.mv (.k (.bool false))))]
abbrev Q120 : AC := .seq Q11Z .ret
abbrev Q121 : AC := .cond (.s 89) Q120 .skip
abbrev Q122 : AC := .seq Q11Y Q121
abbrev Q123 : AC := .run [(.op (some 90) none (.faddr (.s 1) 10)), (.op (some 91) none (.load (.s 90) false 1)), (.call (some 92) none n_tree_handed [(.s 91)]), (.op (some 2) none (.mv (.s 92)))]
abbrev Q124 : AC := .seq Q123 .ret
abbrev Q125 : AC := .seq Q122 Q124
abbrev Q126 : AC := .seq Q11X Q125
abbrev Q127 : AC := .seq Q11S Q126
abbrev Q128 : AC := .seq Q10M Q127
abbrev Q129 : AC := .seq Q10L Q128
abbrev Q12A : AC := .seq Q10K Q129
abbrev Q12B : AC := .run [(.op (some 2) none (.mv (.k (.int .i64 0))))]
abbrev Q12C : AC := .run [(.op (some 4) none (.mv (.s 0))), (.op (some 5) none (.bin .eql (.s 4) (.k (.int .i64 1)))), (.op (some 6) none (.mv (.s 5))), (.op (some 7) (some (6, false)) (.mv (.s 0))), (.op (some 8) (some (6, false)) (.bin .eql (.s 7) (.k (.int .i64 2)))), (.op (some 9) none (.pick (.s 6) (.k (.bool true)) (.s 8))), (.op (some 3) none (.mv (.s 9)))]
abbrev Q12D : AC := .run [(.op (some 2) none (.mv (.k (.int .i64 0))))]
abbrev Q12E : AC := .seq Q12D .ret
abbrev Q12F : AC := .run [(.op (some 11) none (.mv (.s 0))), (.op (some 12) none (.bin .eql (.s 11) (.k (.int .i64 3)))), (.op (some 13) none (.mv (.s 12))), (.op (some 14) (some (13, false)) (.mv (.s 0))), (.op (some 15) (some (13, false)) (.bin .eql (.s 14) (.k (.int .i64 4)))), (.op (some 16) none (.pick (.s 13) (.k (.bool true)) (.s 15))), (.op (some 10) none (.mv (.s 16)))]
abbrev Q12G : AC := .run [(.op (some 2) none (.mv (.k (.int .i64 1))))]
abbrev Q12H : AC := .seq Q12G .ret
abbrev Q12I : AC := .run [(.op (some 18) none (.mv (.s 0))), (.op (some 19) none (.bin .geq (.s 18) (.k (.int .i64 5)))), (.op (some 20) none (.mv (.s 19))), (.op (some 21) (some (20, true)) (.mv (.s 0))), (.op (some 22) (some (20, true)) (.bin .leq (.s 21) (.k (.int .i64 17)))), (.op (some 23) none (.pick (.s 20) (.s 22) (.k (.bool false)))), (.op (some 17) none (.mv (.s 23)))]
abbrev Q12J : AC := .run [(.op (some 2) none (.mv (.k (.int .i64 2))))]
abbrev Q12K : AC := .seq Q12J .ret
abbrev Q12L : AC := .cond (.s 17) Q12K .skip
abbrev Q12M : AC := .seq Q12I Q12L
abbrev Q12N : AC := .cond (.s 10) Q12H Q12M
abbrev Q12O : AC := .seq Q12F Q12N
abbrev Q12P : AC := .cond (.s 3) Q12E Q12O
abbrev Q12Q : AC := .seq Q12C Q12P
abbrev Q12R : AC := .block 0 Q12Q
abbrev Q12S : AC := .run [(.op (some 2) none (.mv (.k (.int .i64 (-1)))))]
abbrev Q12T : AC := .seq Q12S .ret
abbrev Q12U : AC := .seq Q12R Q12T
abbrev Q12V : AC := .seq Q12B Q12U

end Go.Abs

/-! Have2 -/

namespace Go.Abs
open Go.Proofs

theorem has_strings_Builder_WriteByte : Has Tryd.prog n_strings_Builder_WriteByte 17 [(4, none)] QQV := ⟨Tryd.f68, by kernel_rfl, by kernel_rfl⟩
theorem has_strings_Builder_WriteString : Has Tryd.prog n_strings_Builder_WriteString 19 [(4, none), (5, none)] QR3 := ⟨Tryd.f69, by kernel_rfl, by kernel_rfl⟩
theorem has_print_plain : Has Tryd.prog n_print_plain 85 [(2, none)] QT9 := ⟨Tryd.f71, by kernel_rfl, by kernel_rfl⟩
theorem has_tree_deep : Has Tryd.prog n_tree_deep 61 [(4, none)] QUM := ⟨Tryd.f73, by kernel_rfl, by kernel_rfl⟩
theorem has_print_sign : Has Tryd.prog n_print_sign 31 [(2, none), (3, none)] QWN := ⟨Tryd.f75, by kernel_rfl, by kernel_rfl⟩
theorem has_ref3_Arity : Has Tryd.prog n_ref3_Arity 24 [(2, none)] QX8 := ⟨Tryd.f76, by kernel_rfl, by kernel_rfl⟩
theorem has_ref1_small : Has Tryd.prog n_ref1_small 9 [(2, none)] QXC := ⟨Tryd.f81, by kernel_rfl, by kernel_rfl⟩
theorem has_ref1_digit : Has Tryd.prog n_ref1_digit 9 [(2, none)] QXG := ⟨Tryd.f82, by kernel_rfl, by kernel_rfl⟩
theorem has_ref1_Word : Has Tryd.prog n_ref1_Word 15 [(2, none)] QY3 := ⟨Tryd.f83, by kernel_rfl, by kernel_rfl⟩
theorem has_ref3_Flat : Has Tryd.prog n_ref3_Flat 6 [(2, none)] QY7 := ⟨Tryd.f84, by kernel_rfl, by kernel_rfl⟩
theorem has_ref3_none : Has Tryd.prog n_ref3_none 22 [(2, none)] QYB := ⟨Tryd.f85, by kernel_rfl, by kernel_rfl⟩
theorem has_ref3_arg : Has Tryd.prog n_ref3_arg 21 [(2, none)] QYL := ⟨Tryd.f86, by kernel_rfl, by kernel_rfl⟩
theorem has_lex_letter : Has Tryd.prog n_lex_letter 9 [(2, none)] QYP := ⟨Tryd.f88, by kernel_rfl, by kernel_rfl⟩
theorem has_lex_digit : Has Tryd.prog n_lex_digit 9 [(2, none)] QYT := ⟨Tryd.f89, by kernel_rfl, by kernel_rfl⟩
theorem has_lex_run : Has Tryd.prog n_lex_run 24 [(4, none)] QZ6 := ⟨Tryd.f91, by kernel_rfl, by kernel_rfl⟩
theorem has_lex_Word : Has Tryd.prog n_lex_Word 18 [(2, none)] Q10J := ⟨Tryd.f92, by kernel_rfl, by kernel_rfl⟩
theorem has_tree_fields : Has Tryd.prog n_tree_fields 93 [(2, none)] Q12A := ⟨Tryd.f103, by kernel_rfl, by kernel_rfl⟩
theorem has_tree_kids : Has Tryd.prog n_tree_kids 24 [(2, none)] Q12V := ⟨Tryd.f107, by kernel_rfl, by kernel_rfl⟩
end Go.Abs

/-! Codes3 -/

namespace Go.Abs

abbrev Q12W : AC := .run [(.op (some 0) none (.mv (.k (.slice .full 0 []))))]
abbrev Q12X : AC := .run [(.op (some 1) none (.bslice [(.str [])] 1 13 [(0, (.k (.str [103, 108, 111, 98, 97, 108]))), (1, (.k (.str [112, 114, 111, 99]))), (2, (.k (.str [118, 97, 114]))), (3, (.k (.str [114, 101, 102]))), (4, (.k (.str [105, 102]))), (5, (.k (.str [101, 108, 115, 101]))), (6, (.k (.str [119, 104, 105, 108, 101]))), (7, (.k (.str [98, 114, 101, 97, 107]))), (8, (.k (.str [99, 111, 110, 116, 105, 110, 117, 101]))), (9, (.k (.str [114, 101, 116, 117, 114, 110]))), (10, (.k (.str [103, 111, 116, 111]))), (11, (.k (.str [114, 101, 97, 100]))), (12, (.k (.str [112, 114, 105, 110, 116])))])), (.op (some 0) none (.mv (.s 1)))]
abbrev Q12Y : AC := .seq Q12X .ret
abbrev Q12Z : AC := .seq Q12W Q12Y
abbrev Q130 : AC := .run [(.op (some 10) none (.mv (.k (.slice .full 0 []))))]
abbrev Q131 : AC := .run [(.op (some 11) none (.mv (.k (.int .i64 0))))]
abbrev Q132 : AC := .run [(.op (some 12) none (.mv (.s 11))), (.op (some 13) none (.mv (.s 0))), (.op (some 14) none (.len (.s 13))), (.op (some 15) none (.bin .lss (.s 12) (.s 14))), (.op (some 16) none (.mv (.s 15))), (.op (some 17) (some (16, true)) (.mv (.s 4))), (.op (some 18) (some (16, true)) (.len (.s 17))), (.op (some 19) (some (16, true)) (.bin .leq (.s 18) (.k (.int .i64 200)))), (.op (some 20) none (.pick (.s 16) (.s 19) (.k (.bool false))))]
abbrev Q133 : AC := .cond (.s 20) .skip (.exit 0)
abbrev Q134 : AC := .seq Q132 Q133
abbrev Q135 : AC := .run [(.op (some 23) none (.mv (.s 4))), (.op (some 24) none (.mv (.s 0))), (.op (some 25) none (.mv (.s 11))), (.op (some 26) none (.iaddr (.s 24) (.s 25) 13)), (.op (some 27) none (.load (.s 26) true 13)), (.op (some 28) none (.mv (.s 1))), (.op (some 29) none (.mv (.s 2))), (.op (some 30) none (.mv (.s 3))), (.op (some 31) none (.build [(.int .i64 0), (.int .i64 0), (.slice .full 0 []), (.str []), (.str []), (.int .i64 0), (.int .i64 0), (.str []), (.slice .full 0 []), (.bool false), (.slice .full 0 []), (.slice .full 0 []), (.slice .full 0 []), (.int .i64 0), (.int .i64 0), (.bool false)] [(0, (13, (.s 27))), (13, (1, (.s 28))), (14, (1, (.s 29))), (15, (1, (.s 30)))])), (.op (some 32) none (.bslice [(.int .i64 0), (.int .i64 0), (.slice .full 0 []), (.str []), (.str []), (.int .i64 0), (.int .i64 0), (.str []), (.slice .full 0 []), (.bool false), (.slice .full 0 []), (.slice .full 0 []), (.slice .full 0 []), (.int .i64 0), (.int .i64 0), (.bool false)] 16 1 [(0, (.s 31))])), (.op (some 33) none (.app 16 232 (.s 23) (.s 32))), (.op (some 4) none (.mv (.s 33)))]
abbrev Q136 : AC := .run [(.op (some 34) none (.mv (.s 1))), (.op (some 35) none (.bin .leq (.s 34) (.k (.int .i64 12))))]
abbrev Q137 : AC := .par [(.op (some 36) none (.mv (.s 0))), (.op (some 37) none (.mv (.s 11))), (.op (some 38) none (.iaddr (.s 36) (.s 37) 13)), (.op (some 39) none (.faddr (.s 38) 11)), (.op (some 40) none (.load (.s 39) false 1)), (.op (some 41) none (.mv (.s 1))), (.op (some 42) none (.bin .add (.s 41) (.k (.int .i64 1)))), (.op (some 43) none (.mv (.s 0))), (.op (some 44) none (.mv (.s 11))), (.op (some 45) none (.iaddr (.s 43) (.s 44) 13)), (.op (some 46) none (.faddr (.s 45) 0)), (.op (some 47) none (.load (.s 46) false 1)), (.op (some 48) none (.mv (.s 4))), (.call (some 49) none n_ref3_flat [(.s 40), (.s 42), (.s 47), (.k (.bool false)), (.s 48)]), (.op (some 4) none (.mv (.s 49)))] [(0, 0), (1, 0), (2, 0), (3, 0), (4, 0), (5, 0), (6, 0), (7, 0), (8, 0), (9, 0), (10, 0), (11, 0), (12, 0), (13, 0), (14, 0)]
abbrev Q138 : AC := .par [(.op (some 50) none (.mv (.s 0))), (.op (some 51) none (.mv (.s 11))), (.op (some 52) none (.iaddr (.s 50) (.s 51) 13)), (.op (some 53) none (.faddr (.s 52) 12)), (.op (some 54) none (.load (.s 53) false 1)), (.op (some 55) none (.mv (.s 1))), (.op (some 56) none (.bin .add (.s 55) (.k (.int .i64 1)))), (.op (some 57) none (.mv (.s 0))), (.op (some 58) none (.mv (.s 11))), (.op (some 59) none (.iaddr (.s 57) (.s 58) 13)), (.op (some 60) none (.faddr (.s 59) 0)), (.op (some 61) none (.load (.s 60) false 1)), (.op (some 62) none (.mv (.s 4))), (.call (some 63) none n_ref3_flat [(.s 54), (.s 56), (.s 61), (.k (.bool true)), (.s 62)]), (.op (some 4) none (.mv (.s 63)))] [(0, 0), (1, 0), (2, 0), (3, 0), (4, 0), (5, 0), (6, 0), (7, 0), (8, 0), (9, 0), (10, 0), (11, 0), (12, 0), (13, 0), (14, 0)]
abbrev Q139 : AC := .seq Q137 Q138
abbrev Q13A : AC := .cond (.s 35) Q139 .skip
abbrev Q13B : AC := .seq Q136 Q13A
abbrev Q13C : AC := .seq Q135 Q13B
abbrev Q13D : AC := .block 1 Q13C
abbrev Q13E : AC := .run [(.op (some 21) none (.mv (.s 11))), (.op (some 22) none (.bin .add (.s 21) (.k (.int .i64 1)))), (.op (some 11) none (.mv (.s 22)))]
abbrev Q13F : AC := .seq Q13D Q13E
abbrev Q13G : AC := .seq Q134 Q13F
abbrev Q13H : AC := .loop Q13G
abbrev Q13I : AC := .block 0 Q13H
abbrev Q13J : AC := .seq Q131 Q13I
abbrev Q13K : AC := .run [(.op (some 64) none (.mv (.s 4))), (.op (some 10) none (.mv (.s 64)))]
abbrev Q13L : AC := .seq Q13K .ret
abbrev Q13M : AC := .seq Q13J Q13L
abbrev Q13N : AC := .seq Q130 Q13M
abbrev Q13O : AC := .run [(.op (some 4) none (.mv (.k (.bool false))))]
abbrev Q13P : AC := .run [(.op (some 5) none (.mv (.s 1))), (.op (some 6) none (.mv (.s 5))), (.op (some 7) (some (6, true)) (.mv (.s 0))), (.call (some 8) (some (6, true)) n_lex_Name [(.s 7)]), (.op (some 9) none (.pick (.s 6) (.s 8) (.k (.bool false)))), (.op (some 10) none (.mv (.s 9))), (.op (some 11) (some (10, false)) (.mv (.s 1))), (.op (some 12) (some (10, false)) (.un .not (.s 11))), (.op (some 13) (some (10, false)) (.mv (.s 12))), (.op (some 14) (some (13, true)) (.mv (.s 0))), (.op (some 15) (some (13, true)) (.bin .eql (.s 14) (.k (.str [])))), (.op (some 16) (some (10, false)) (.pick (.s 13) (.s 15) (.k (.bool false)))), (.op (some 17) none (.pick (.s 10) (.k (.bool true)) (.s 16))), (.op (some 4) none (.mv (.s 17)))]
abbrev Q13Q : AC := .seq Q13P .ret
abbrev Q13R : AC := .seq Q13O Q13Q
abbrev Q13S : AC := .run [(.op (some 2) none (.box (.s 0))), (.op (some 4) none (.mv (.k (.bool false))))]
abbrev Q13T : AC := .run [(.op (some 5) none (.mv (.s 1))), (.op (some 6) none (.mv (.s 5))), (.op (some 7) (some (6, true)) (.load (.s 2) true 4)), (.call (some 8) (some (6, true)) n_tree_MayExpr [(.s 7)]), (.op (some 9) none (.pick (.s 6) (.s 8) (.k (.bool false)))), (.op (some 10) none (.mv (.s 9))), (.op (some 11) (some (10, false)) (.mv (.s 1))), (.op (some 12) (some (10, false)) (.un .not (.s 11))), (.op (some 13) (some (10, false)) (.mv (.s 12))), (.op (some 14) (some (13, true)) (.load (.s 2) true 4)), (.call (some 15) (some (13, true)) n_tree_none [(.s 14)]), (.op (some 16) (some (10, false)) (.pick (.s 13) (.s 15) (.k (.bool false)))), (.op (some 17) none (.pick (.s 10) (.k (.bool true)) (.s 16))), (.op (some 4) none (.mv (.s 17)))]
abbrev Q13U : AC := .seq Q13T .ret
abbrev Q13V : AC := .seq Q13S Q13U
abbrev Q13W : AC := .run [(.op (some 2) none (.mv (.k (.bool false))))]
abbrev Q13X : AC := .run [(.op (some 5) none (.mv (.s 0))), (.op (some 6) none (.len (.s 5))), (.op (some 7) none (.mv (.k (.int .i64 0))))]
abbrev Q13Y : AC := .run [(.op (some 8) none (.bin .lss (.s 7) (.s 6)))]
abbrev Q13Z : AC := .cond (.s 8) .skip (.exit 0)
abbrev Q140 : AC := .run [(.op (some 9) none (.iaddr (.s 5) (.s 7) 6)), (.op (some 10) none (.load (.s 9) true 6)), (.op (some 4) none (.alloc [(.bool false), (.str []), (.int .i64 0), (.int .i64 0), (.str []), (.slice .full 0 [])])), (.op none none (.store (.s 4) (.s 10) 6))]
abbrev Q141 : AC := .run [(.op (some 11) none (.faddr (.s 4) 1)), (.op (some 12) none (.load (.s 11) false 1)), (.op (some 13) none (.faddr (.s 4) 0)), (.op (some 14) none (.load (.s 13) false 1)), (.call (some 15) none n_tree_named [(.s 12), (.s 14)]), (.op (some 16) none (.un .not (.s 15))), (.op (some 17) none (.mv (.s 16))), (.op (some 18) (some (17, false)) (.faddr (.s 4) 2)), (.op (some 19) (some (17, false)) (.load (.s 18) true 4)), (.op (some 20) (some (17, false)) (.faddr (.s 4) 0)), (.op (some 21) (some (17, false)) (.load (.s 20) false 1)), (.op (some 22) (some (17, false)) (.un .not (.s 21))), (.call (some 23) (some (17, false)) n_tree_worth [(.s 19), (.s 22)]), (.op (some 24) (some (17, false)) (.un .not (.s 23))), (.op (some 25) none (.pick (.s 17) (.k (.bool true)) (.s 24)))]
abbrev Q142 : AC := .run [(.op (some 2) none (.mv (.k (.bool false))))]
abbrev Q143 : AC := .seq Q142 .ret
abbrev Q144 : AC := .cond (.s 25) Q143 .skip
abbrev Q145 : AC := .seq Q141 Q144
abbrev Q146 : AC := .seq Q140 Q145
abbrev Q147 : AC := .block 1 Q146
abbrev Q148 : AC := .run [(.op (some 26) none (.bin .add (.s 7) (.k (.int .i64 1)))), (.op (some 7) none (.mv (.s 26)))]
abbrev Q149 : AC := .seq Q147 Q148
abbrev Q14A : AC := .seq Q13Z Q149
abbrev Q14B : AC := .seq Q13Y Q14A
abbrev Q14C : AC := .loop Q14B
abbrev Q14D : AC := .block 0 Q14C
abbrev Q14E : AC := .seq Q13X Q14D
abbrev Q14F : AC := .run [(.op (some 2) none (.mv (.k (.bool true))))]
abbrev Q14G : AC := .seq Q14F .ret
abbrev Q14H : AC := .seq Q14E Q14G
abbrev Q14I : AC := .seq Q13W Q14H
abbrev Q14J : AC := .run [(.op (some 1) none (.box (.s 0))), (.op (some 2) none (.mv (.k (.bool false))))]
abbrev Q14K : AC := .run [(.op (some 3) none (.faddr (.s 1) 0)), (.op (some 4) none (.load (.s 3) false 1)), (.op (some 5) none (.bin .eql (.s 4) (.k (.int .i64 0)))), (.op (some 6) none (.mv (.s 5))), (.op (some 7) (some (6, true)) (.faddr (.s 1) 1)), (.op (some 8) (some (6, true)) (.load (.s 7) false 1)), (.op (some 9) (some (6, true)) (.bin .eql (.s 8) (.k (.int .i64 0)))), (.op (some 10) none (.pick (.s 6) (.s 9) (.k (.bool false)))), (.op (some 11) none (.mv (.s 10))), (.op (some 12) (some (11, true)) (.faddr (.s 1) 2)), (.op (some 13) (some (11, true)) (.load (.s 12) false 1)), (.op (some 14) (some (11, true)) (.bin .eql (.s 13) (.k (.str [])))), (.op (some 15) none (.pick (.s 11) (.s 14) (.k (.bool false)))), (.op (some 16) none (.mv (.s 15))), (.op (some 17) (some (16, true)) (.faddr (.s 1) 3)), (.op (some 18) (some (16, true)) (.load (.s 17) false 1)), (.op (some 19) (some (16, true)) (.len (.s 18))), (.op (some 20) (some (16, true)) (.bin .eql (.s 19) (.k (.int .i64 0)))), (.op (some 21) none (.pick (.s 16) (.s 20) (.k (.bool false)))), (.op (some 2) none (.mv (.s 21)))]
abbrev Q14L : AC := .seq Q14K .ret
abbrev Q14M : AC := .seq Q14J Q14L

end Go.Abs

/-! Have3 -/

namespace Go.Abs
open Go.Proofs

theorem has_ref1_Words : Has Tryd.prog n_ref1_Words 2 [(0, none)] Q12Z := ⟨Tryd.f111, by kernel_rfl, by kernel_rfl⟩
theorem has_ref3_flat : Has Tryd.prog n_ref3_flat 65 [(10, none)] Q13N := ⟨Tryd.f112, by kernel_rfl, by kernel_rfl⟩
theorem has_tree_named : Has Tryd.prog n_tree_named 18 [(4, none)] Q13R := ⟨Tryd.f119, by kernel_rfl, by kernel_rfl⟩
theorem has_tree_worth : Has Tryd.prog n_tree_worth 18 [(4, none)] Q13V := ⟨Tryd.f120, by kernel_rfl, by kernel_rfl⟩
theorem has_tree_handed : Has Tryd.prog n_tree_handed 27 [(2, none)] Q14I := ⟨Tryd.f121, by kernel_rfl, by kernel_rfl⟩
theorem has_tree_none : Has Tryd.prog n_tree_none 22 [(2, none)] Q14M := ⟨Tryd.f130, by kernel_rfl, by kernel_rfl⟩
end Go.Abs

/-! Prs -/

namespace Go.Abs

set_option maxRecDepth 8000
set_option linter.unusedSimpArgs false
set_option linter.unusedVariables false
open Go.Proofs

@[go_sem] def encRd (r : Rd) : List D := [.slice .shared 4 (r.l.map encTok), .int .i64 r.i, .int .i64 r.code, .int .i64 r.fat, .int .i64 r.n]
end Go.Abs

/-! Lex1 -/

namespace Go.Abs

set_option maxRecDepth 8000
set_option linter.unusedSimpArgs false
set_option linter.unusedVariables false
open Go.Proofs

theorem letter_s (c : UInt8) (s : St) : Fun Tryd.prog n_lex_letter [.int .u8 (c.toNat : Int)] s (.bool (isL c)) s := by
  refine Fun.pure ?_ rfl rfl s
  generalize h : isL c = b
  unfold isL at h
  unfold S0
  refine Fun.go has_lex_letter rfl fun B Q hB hQ => ?_
  have hlt : 0 < 1 := Nat.zero_lt_one
  have hget : 0 < 1 := Nat.zero_lt_one
  have hpu : 0 < 1 := Nat.zero_lt_one
  have hinc : 0 < 1 := Nat.zero_lt_one
  repeat' (first
 | simp only [go_sem, hlt, hget, hpu, hinc, Int.reduceLE, ↓reduceIte, reduceCtorEq, Nat.reduceEqDiff, Nat.reduceLeDiff, Nat.reduceAdd, Nat.reduceMul, Nat.reduceSub, Nat.reduceLT]
 | (with_reducible first | refine CB_ofT (by assumption) fun hc => ?_ | refine CB_ofF (by assumption) fun hc => ?_ | refine CB_split (fun hc => ?_) fun hc => ?_) <;> (try simp only [hc, bs, ↓reduceIte] at h) <;> (try simp only [hc])
 | ((with_reducible first | refine leafR hQ ?_ | refine leafN hQ ?_); (try cases h); simp only [resL, oneD, Option.some.injEq, exists_eq_left', go_sem, hlt, hget, hpu, hinc, Int.reduceLE, ↓reduceIte, reduceCtorEq, Nat.reduceEqDiff, Nat.reduceLeDiff, Nat.reduceAdd, Nat.reduceMul, Nat.reduceSub, Nat.reduceLT]; repeat' (first | exact Ok.out | with_reducible refine And.intro ?_ ?_ | (simp; done)))
 | (cases h; replace h := hr; clear hr; (try simp only [bs, ↓reduceIte] at h))
 | (cases h; done))

theorem digit_s (c : UInt8) (s : St) : Fun Tryd.prog n_lex_digit [.int .u8 (c.toNat : Int)] s (.bool (isD c)) s := by
  refine Fun.pure ?_ rfl rfl s
  generalize h : isD c = b
  unfold isD at h
  unfold S0
  refine Fun.go has_lex_digit rfl fun B Q hB hQ => ?_
  have hlt : 0 < 1 := Nat.zero_lt_one
  have hget : 0 < 1 := Nat.zero_lt_one
  have hpu : 0 < 1 := Nat.zero_lt_one
  have hinc : 0 < 1 := Nat.zero_lt_one
  repeat' (first
 | simp only [go_sem, hlt, hget, hpu, hinc, Int.reduceLE, ↓reduceIte, reduceCtorEq, Nat.reduceEqDiff, Nat.reduceLeDiff, Nat.reduceAdd, Nat.reduceMul, Nat.reduceSub, Nat.reduceLT]
 | (with_reducible first | refine CB_ofT (by assumption) fun hc => ?_ | refine CB_ofF (by assumption) fun hc => ?_ | refine CB_split (fun hc => ?_) fun hc => ?_) <;> (try simp only [hc, bs, ↓reduceIte] at h) <;> (try simp only [hc])
 | ((with_reducible first | refine leafR hQ ?_ | refine leafN hQ ?_); (try cases h); simp only [resL, oneD, Option.some.injEq, exists_eq_left', go_sem, hlt, hget, hpu, hinc, Int.reduceLE, ↓reduceIte, reduceCtorEq, Nat.reduceEqDiff, Nat.reduceLeDiff, Nat.reduceAdd, Nat.reduceMul, Nat.reduceSub, Nat.reduceLT]; repeat' (first | exact Ok.out | with_reducible refine And.intro ?_ ?_ | (simp; done)))
 | (cases h; replace h := hr; clear hr; (try simp only [bs, ↓reduceIte] at h))
 | (cases h; done))

theorem word_s (t : Str) (s : St) : Fun Tryd.prog n_lex_Word [.str t] s (.bool (isWord t)) s := by
  refine Fun.pure ?_ rfl rfl s
  generalize h : isWord t = b
  unfold isWord at h
  unfold S0
  refine Fun.go has_lex_Word rfl fun B Q hB hQ => ?_
  have hlt : 0 < 1 := Nat.zero_lt_one
  have hget : 0 < 1 := Nat.zero_lt_one
  have hpu : 0 < 1 := Nat.zero_lt_one
  have hinc : 0 < 1 := Nat.zero_lt_one
  repeat' (first
 | simp only [go_sem, hlt, hget, hpu, hinc, Int.reduceLE, ↓reduceIte, reduceCtorEq, Nat.reduceEqDiff, Nat.reduceLeDiff, Nat.reduceAdd, Nat.reduceMul, Nat.reduceSub, Nat.reduceLT]
 | (with_reducible first | refine CB_ofT (by assumption) fun hc => ?_ | refine CB_ofF (by assumption) fun hc => ?_ | refine CB_split (fun hc => ?_) fun hc => ?_) <;> (try simp only [hc, bs, ↓reduceIte] at h) <;> (try simp only [hc])
 | ((with_reducible first | refine leafR hQ ?_ | refine leafN hQ ?_); (try cases h); simp only [resL, oneD, Option.some.injEq, exists_eq_left', go_sem, hlt, hget, hpu, hinc, Int.reduceLE, ↓reduceIte, reduceCtorEq, Nat.reduceEqDiff, Nat.reduceLeDiff, Nat.reduceAdd, Nat.reduceMul, Nat.reduceSub, Nat.reduceLT]; repeat' (first | exact Ok.out | with_reducible refine And.intro ?_ ?_ | (simp; done)))
 | (cases h; replace h := hr; clear hr; (try simp only [bs, ↓reduceIte] at h))
 | (cases h; done))

theorem run_s {text : Str} {pos : Nat} (hl : text.length < 4611686018427387904) (s : St) : Fun Tryd.prog n_lex_run [.str text, .int .i64 (pos : Int)] s (.int .i64 ((pos + runL (text.drop pos) : Nat) : Int)) s := by
  refine Fun.pure ?_ rfl rfl s
  unfold S0
  refine Fun.go has_lex_run rfl fun B Q hB hQ => ?_
  have hlt : 0 < 1 := Nat.zero_lt_one
  have hget : 0 < 1 := Nat.zero_lt_one
  have hpu : 0 < 1 := Nat.zero_lt_one
  have hinc : 0 < 1 := Nat.zero_lt_one
  repeat' (first
 | simp only [go_sem, hlt, hget, hpu, hinc, Int.reduceLE, ↓reduceIte, reduceCtorEq, Nat.reduceEqDiff, Nat.reduceLeDiff, Nat.reduceAdd, Nat.reduceMul, Nat.reduceSub, Nat.reduceLT]
 | (with_reducible first | refine CB_ofT (by assumption) fun hc => ?_ | refine CB_ofF (by assumption) fun hc => ?_ | refine CB_split (fun hc => ?_) fun hc => ?_) <;> (try simp only [hc, bs, ↓reduceIte] at h) <;> (try simp only [hc])
 | ((with_reducible first | refine leafR hQ ?_ | refine leafN hQ ?_); (try cases h); simp only [resL, oneD, Option.some.injEq, exists_eq_left', go_sem, hlt, hget, hpu, hinc, Int.reduceLE, ↓reduceIte, reduceCtorEq, Nat.reduceEqDiff, Nat.reduceLeDiff, Nat.reduceAdd, Nat.reduceMul, Nat.reduceSub, Nat.reduceLT]; repeat' (first | exact Ok.out | with_reducible refine And.intro ?_ ?_ | (simp; done)))
 | (cases h; replace h := hr; clear hr; (try simp only [bs, ↓reduceIte] at h))
 | (cases h; done))
  refine SemL.re _ _ 0 0 (by rw [hB]; exact Nat.le_of_ble_eq_true rfl) (by rw [hB]; exact Nat.le_of_ble_eq_true rfl) ?_ ?_ (SemL.ind (ι := Str × Nat) (fun i => text.drop i.2 = i.1 ∧ i.2 + runL i.1 = pos + runL (text.drop pos)) (fun i => i.1.length)
    (fun i => [(0, .str text), (1, .int .i64 (i.2 : Int))]) (fun i => ⟨[], []⟩) ?_ (text.drop pos, pos) ⟨rfl, rfl⟩)
  · (simp only [go_sem, hlt, hget, hpu, hinc, Int.reduceLE, ↓reduceIte, reduceCtorEq, Nat.reduceEqDiff, Nat.reduceLeDiff, Nat.reduceAdd, Nat.reduceMul, Nat.reduceSub, Nat.reduceLT]; repeat' (first | exact Ok.out | with_reducible refine And.intro ?_ ?_))
  · (simp only [go_sem, hlt, hget, hpu, hinc, Int.reduceLE, ↓reduceIte, reduceCtorEq, Nat.reduceEqDiff, Nat.reduceLeDiff, Nat.reduceAdd, Nat.reduceMul, Nat.reduceSub, Nat.reduceLT]; repeat' (first | exact Ok.out | with_reducible refine And.intro ?_ ?_))
  rintro ⟨rest, k⟩ ⟨h1, h2⟩ IH
  dsimp only at h1 h2
  cases rest with
  | nil =>
    have hlt := drop_nil h1
    simp only [runL, Nat.add_zero] at h2
    rw [← h2] at hQ
    repeat' (first
 | simp only [go_sem, hlt, hget, hpu, hinc, Int.reduceLE, ↓reduceIte, reduceCtorEq, Nat.reduceEqDiff, Nat.reduceLeDiff, Nat.reduceAdd, Nat.reduceMul, Nat.reduceSub, Nat.reduceLT]
 | (with_reducible first | refine CB_ofT (by assumption) fun hc => ?_ | refine CB_ofF (by assumption) fun hc => ?_ | refine CB_split (fun hc => ?_) fun hc => ?_) <;> (try simp only [hc, bs, ↓reduceIte] at h) <;> (try simp only [hc])
 | ((with_reducible first | refine leafR hQ ?_ | refine leafN hQ ?_); (try cases h); simp only [resL, oneD, Option.some.injEq, exists_eq_left', go_sem, hlt, hget, hpu, hinc, Int.reduceLE, ↓reduceIte, reduceCtorEq, Nat.reduceEqDiff, Nat.reduceLeDiff, Nat.reduceAdd, Nat.reduceMul, Nat.reduceSub, Nat.reduceLT]; repeat' (first | exact Ok.out | with_reducible refine And.intro ?_ ?_ | (simp; done)))
 | (cases h; replace h := hr; clear hr; (try simp only [bs, ↓reduceIte] at h))
 | (cases h; done))
  | cons c rest =>
    obtain ⟨hget, g2, hlt, g4⟩ := drop_cons h1
    have hpu : k < 4611686018427387904 := by omega
    cases hb : (isL c || isD c)
    · simp only [runL, hb, Bool.false_eq_true, ↓reduceIte, Nat.add_zero] at h2
      rw [← h2] at hQ
      simp only [Bool.or_eq_false_iff] at hb
      repeat' (first
 | simp only [go_sem, hlt, hget, hpu, hinc, Int.reduceLE, ↓reduceIte, reduceCtorEq, Nat.reduceEqDiff, Nat.reduceLeDiff, Nat.reduceAdd, Nat.reduceMul, Nat.reduceSub, Nat.reduceLT, hb.1, hb.2]
 | (with_reducible refine CU (letter_s _ _) ?_)
 | (with_reducible refine CU (digit_s _ _) ?_)
 | (with_reducible first | refine CB_ofT (by assumption) fun hc => ?_ | refine CB_ofF (by assumption) fun hc => ?_ | refine CB_split (fun hc => ?_) fun hc => ?_) <;> (try simp only [hc, bs, ↓reduceIte] at h) <;> (try simp only [hc])
 | ((with_reducible first | refine leafR hQ ?_ | refine leafN hQ ?_); (try cases h); simp only [resL, oneD, Option.some.injEq, exists_eq_left', go_sem, hlt, hget, hpu, hinc, Int.reduceLE, ↓reduceIte, reduceCtorEq, Nat.reduceEqDiff, Nat.reduceLeDiff, Nat.reduceAdd, Nat.reduceMul, Nat.reduceSub, Nat.reduceLT, hb.1, hb.2]; repeat' (first | exact Ok.out | with_reducible refine And.intro ?_ ?_ | (simp; done)))
 | (cases h; replace h := hr; clear hr; (try simp only [bs, ↓reduceIte] at h))
 | (cases h; done))
    · simp only [runL, hb, ↓reduceIte] at h2
      cases hb1 : isL c
      · rw [hb1, Bool.false_or] at hb
        repeat' (first
 | simp only [go_sem, hlt, hget, hpu, hinc, Int.reduceLE, ↓reduceIte, reduceCtorEq, Nat.reduceEqDiff, Nat.reduceLeDiff, Nat.reduceAdd, Nat.reduceMul, Nat.reduceSub, Nat.reduceLT, hb, hb1]
 | (with_reducible refine CU (letter_s _ _) ?_)
 | (with_reducible refine CU (digit_s _ _) ?_)
 | (with_reducible first | refine CB_ofT (by assumption) fun hc => ?_ | refine CB_ofF (by assumption) fun hc => ?_ | refine CB_split (fun hc => ?_) fun hc => ?_) <;> (try simp only [hc, bs, ↓reduceIte] at h) <;> (try simp only [hc])
 | ((with_reducible first | refine leafR hQ ?_ | refine leafN hQ ?_); (try cases h); simp only [resL, oneD, Option.some.injEq, exists_eq_left', go_sem, hlt, hget, hpu, hinc, Int.reduceLE, ↓reduceIte, reduceCtorEq, Nat.reduceEqDiff, Nat.reduceLeDiff, Nat.reduceAdd, Nat.reduceMul, Nat.reduceSub, Nat.reduceLT, hb, hb1]; repeat' (first | exact Ok.out | with_reducible refine And.intro ?_ ?_ | (simp; done)))
 | (cases h; replace h := hr; clear hr; (try simp only [bs, ↓reduceIte] at h))
 | (cases h; done))
        refine SemL.re _ _ 0 0 (by rw [hB]; exact Nat.le_of_ble_eq_true rfl) (by rw [hB]; exact Nat.le_of_ble_eq_true rfl) ?_ ?_ (IH (rest, k + 1) ⟨g2, by dsimp only; omega⟩ (Nat.lt_succ_self _))
        · (simp only [go_sem, hlt, hget, hpu, hinc, Int.reduceLE, ↓reduceIte, reduceCtorEq, Nat.reduceEqDiff, Nat.reduceLeDiff, Nat.reduceAdd, Nat.reduceMul, Nat.reduceSub, Nat.reduceLT]; repeat' (first | exact Ok.out | with_reducible refine And.intro ?_ ?_))
        · (simp only [go_sem, hlt, hget, hpu, hinc, Int.reduceLE, ↓reduceIte, reduceCtorEq, Nat.reduceEqDiff, Nat.reduceLeDiff, Nat.reduceAdd, Nat.reduceMul, Nat.reduceSub, Nat.reduceLT]; repeat' (first | exact Ok.out | with_reducible refine And.intro ?_ ?_))
      · repeat' (first
 | simp only [go_sem, hlt, hget, hpu, hinc, Int.reduceLE, ↓reduceIte, reduceCtorEq, Nat.reduceEqDiff, Nat.reduceLeDiff, Nat.reduceAdd, Nat.reduceMul, Nat.reduceSub, Nat.reduceLT, hb1]
 | (with_reducible refine CU (letter_s _ _) ?_)
 | (with_reducible refine CU (digit_s _ _) ?_)
 | (with_reducible first | refine CB_ofT (by assumption) fun hc => ?_ | refine CB_ofF (by assumption) fun hc => ?_ | refine CB_split (fun hc => ?_) fun hc => ?_) <;> (try simp only [hc, bs, ↓reduceIte] at h) <;> (try simp only [hc])
 | ((with_reducible first | refine leafR hQ ?_ | refine leafN hQ ?_); (try cases h); simp only [resL, oneD, Option.some.injEq, exists_eq_left', go_sem, hlt, hget, hpu, hinc, Int.reduceLE, ↓reduceIte, reduceCtorEq, Nat.reduceEqDiff, Nat.reduceLeDiff, Nat.reduceAdd, Nat.reduceMul, Nat.reduceSub, Nat.reduceLT, hb1]; repeat' (first | exact Ok.out | with_reducible refine And.intro ?_ ?_ | (simp; done)))
 | (cases h; replace h := hr; clear hr; (try simp only [bs, ↓reduceIte] at h))
 | (cases h; done))
        refine SemL.re _ _ 0 0 (by rw [hB]; exact Nat.le_of_ble_eq_true rfl) (by rw [hB]; exact Nat.le_of_ble_eq_true rfl) ?_ ?_ (IH (rest, k + 1) ⟨g2, by dsimp only; omega⟩ (Nat.lt_succ_self _))
        · (simp only [go_sem, hlt, hget, hpu, hinc, Int.reduceLE, ↓reduceIte, reduceCtorEq, Nat.reduceEqDiff, Nat.reduceLeDiff, Nat.reduceAdd, Nat.reduceMul, Nat.reduceSub, Nat.reduceLT]; repeat' (first | exact Ok.out | with_reducible refine And.intro ?_ ?_))
        · (simp only [go_sem, hlt, hget, hpu, hinc, Int.reduceLE, ↓reduceIte, reduceCtorEq, Nat.reduceEqDiff, Nat.reduceLeDiff, Nat.reduceAdd, Nat.reduceMul, Nat.reduceSub, Nat.reduceLT]; repeat' (first | exact Ok.out | with_reducible refine And.intro ?_ ?_))

/-- What a text of digits is worth. -/
def worthP (s : Str) : Int × Bool := match worth 0 s with | some n => (n, true) | none => (0, false)

end Go.Abs

/-! Lex2 -/

namespace Go.Abs

set_option maxRecDepth 8000
set_option linter.unusedSimpArgs false
set_option linter.unusedVariables false
open Go.Proofs

def encF (f : Int × Int) : List D := [.int .i64 f.1, .int .i64 f.2]

/-- At the label ahead of the next token. -/
def lexTM (text : Str) (out : List Tok) (pos : Nat) : Tm := [(0, .str text), (3, .ptr 0 0), (4, .slice (.tok 0) 4 (out.map encTok)), (5, .ptr 1 0), (6, .int .i64 (pos : Int))]
def lexST (out : List Tok) : St := ⟨[[.int .i64 0, .int .i64 0], [.junk, .junk, .junk, .junk]], [some out.length]⟩

/-- On to the next token. -/
def LexGo (text : Str) (B : Base) (Q : Exit → Tm → St → Prop) (p : List Tok × Int × Int) (N : Nat) : Prop :=
  ∀ (n pos : Nat) (rest : Str) (out : List Tok), text.drop pos = rest → lexF n pos rest out = p → rest.length < n → out.length ≤ 2000 → pos ≤ text.length → n < N →
    SemS Tryd.prog B 152 QOB (.seq .skip QO6) Q (lexTM text out pos) (lexST out)

attribute [go_sem] lexTM lexST encF
end Go.Abs

/-! RefLex1 -/

namespace Go.Abs

set_option maxRecDepth 8000
set_option linter.unusedSimpArgs false
set_option linter.unusedVariables false
open Go.Proofs

theorem Rsmall_s (c : UInt8) (s : St) : Fun Tryd.prog n_ref1_small [.int .u8 (c.toNat : Int)] s (.bool (isL c)) s := by
  refine Fun.pure ?_ rfl rfl s
  generalize h : isL c = b
  unfold isL at h
  unfold S0
  refine Fun.go has_ref1_small rfl fun B Q hB hQ => ?_
  have hlt : 0 < 1 := Nat.zero_lt_one
  have hget : 0 < 1 := Nat.zero_lt_one
  have hpu : 0 < 1 := Nat.zero_lt_one
  have hinc : 0 < 1 := Nat.zero_lt_one
  repeat' (first
 | simp only [go_sem, hlt, hget, hpu, hinc, Int.reduceLE, ↓reduceIte, reduceCtorEq, Nat.reduceEqDiff, Nat.reduceLeDiff, Nat.reduceAdd, Nat.reduceMul, Nat.reduceSub, Nat.reduceLT]
 | (with_reducible first | refine CB_ofT (by assumption) fun hc => ?_ | refine CB_ofF (by assumption) fun hc => ?_ | refine CB_split (fun hc => ?_) fun hc => ?_) <;> (try simp only [hc, bs, ↓reduceIte] at h) <;> (try simp only [hc])
 | ((with_reducible first | refine leafR hQ ?_ | refine leafN hQ ?_); (try cases h); simp only [resL, oneD, Option.some.injEq, exists_eq_left', go_sem, hlt, hget, hpu, hinc, Int.reduceLE, ↓reduceIte, reduceCtorEq, Nat.reduceEqDiff, Nat.reduceLeDiff, Nat.reduceAdd, Nat.reduceMul, Nat.reduceSub, Nat.reduceLT]; repeat' (first | exact Ok.out | with_reducible refine And.intro ?_ ?_ | (simp; done)))
 | (cases h; replace h := hr; clear hr; (try simp only [bs, ↓reduceIte] at h))
 | (cases h; done))

theorem Rdigit_s (c : UInt8) (s : St) : Fun Tryd.prog n_ref1_digit [.int .u8 (c.toNat : Int)] s (.bool (isD c)) s := by
  refine Fun.pure ?_ rfl rfl s
  generalize h : isD c = b
  unfold isD at h
  unfold S0
  refine Fun.go has_ref1_digit rfl fun B Q hB hQ => ?_
  have hlt : 0 < 1 := Nat.zero_lt_one
  have hget : 0 < 1 := Nat.zero_lt_one
  have hpu : 0 < 1 := Nat.zero_lt_one
  have hinc : 0 < 1 := Nat.zero_lt_one
  repeat' (first
 | simp only [go_sem, hlt, hget, hpu, hinc, Int.reduceLE, ↓reduceIte, reduceCtorEq, Nat.reduceEqDiff, Nat.reduceLeDiff, Nat.reduceAdd, Nat.reduceMul, Nat.reduceSub, Nat.reduceLT]
 | (with_reducible first | refine CB_ofT (by assumption) fun hc => ?_ | refine CB_ofF (by assumption) fun hc => ?_ | refine CB_split (fun hc => ?_) fun hc => ?_) <;> (try simp only [hc, bs, ↓reduceIte] at h) <;> (try simp only [hc])
 | ((with_reducible first | refine leafR hQ ?_ | refine leafN hQ ?_); (try cases h); simp only [resL, oneD, Option.some.injEq, exists_eq_left', go_sem, hlt, hget, hpu, hinc, Int.reduceLE, ↓reduceIte, reduceCtorEq, Nat.reduceEqDiff, Nat.reduceLeDiff, Nat.reduceAdd, Nat.reduceMul, Nat.reduceSub, Nat.reduceLT]; repeat' (first | exact Ok.out | with_reducible refine And.intro ?_ ?_ | (simp; done)))
 | (cases h; replace h := hr; clear hr; (try simp only [bs, ↓reduceIte] at h))
 | (cases h; done))

theorem Words_s (s : St) : Fun Tryd.prog n_ref1_Words [] s (.slice .shared 1 [[.str [103, 108, 111, 98, 97, 108]], [.str [112, 114, 111, 99]], [.str [118, 97, 114]], [.str [114, 101, 102]], [.str [105, 102]], [.str [101, 108, 115, 101]], [.str [119, 104, 105, 108, 101]], [.str [98, 114, 101, 97, 107]], [.str [99, 111, 110, 116, 105, 110, 117, 101]], [.str [114, 101, 116, 117, 114, 110]], [.str [103, 111, 116, 111]], [.str [114, 101, 97, 100]], [.str [112, 114, 105, 110, 116]]]) s := by
  refine Fun.pure ?_ rfl rfl s
  unfold S0
  refine Fun.go has_ref1_Words rfl fun B Q hB hQ => ?_
  have hlt : 0 < 1 := Nat.zero_lt_one
  have hget : 0 < 1 := Nat.zero_lt_one
  have hpu : 0 < 1 := Nat.zero_lt_one
  have hinc : 0 < 1 := Nat.zero_lt_one
  repeat' (first
 | simp only [go_sem, hlt, hget, hpu, hinc, Int.reduceLE, ↓reduceIte, reduceCtorEq, Nat.reduceEqDiff, Nat.reduceLeDiff, Nat.reduceAdd, Nat.reduceMul, Nat.reduceSub, Nat.reduceLT]
 | (with_reducible first | refine CB_ofT (by assumption) fun hc => ?_ | refine CB_ofF (by assumption) fun hc => ?_ | refine CB_split (fun hc => ?_) fun hc => ?_) <;> (try simp only [hc, bs, ↓reduceIte] at h) <;> (try simp only [hc])
 | ((with_reducible first | refine leafR hQ ?_ | refine leafN hQ ?_); (try cases h); simp only [resL, oneD, Option.some.injEq, exists_eq_left', go_sem, hlt, hget, hpu, hinc, Int.reduceLE, ↓reduceIte, reduceCtorEq, Nat.reduceEqDiff, Nat.reduceLeDiff, Nat.reduceAdd, Nat.reduceMul, Nat.reduceSub, Nat.reduceLT]; repeat' (first | exact Ok.out | with_reducible refine And.intro ?_ ?_ | (simp; done)))
 | (cases h; replace h := hr; clear hr; (try simp only [bs, ↓reduceIte] at h))
 | (cases h; done))

def isWordR (s : Str) : Bool :=
  [103, 108, 111, 98, 97, 108] == s || [112, 114, 111, 99] == s || [118, 97, 114] == s || [114, 101, 102] == s || [105, 102] == s || [101, 108, 115, 101] == s || [119, 104, 105, 108, 101] == s || [98, 114, 101, 97, 107] == s || [99, 111, 110, 116, 105, 110, 117, 101] == s || [114, 101, 116, 117, 114, 110] == s || [103, 111, 116, 111] == s || [114, 101, 97, 100] == s || [112, 114, 105, 110, 116] == s
theorem isWordR_eq (s : Str) : isWordR s = isWord s := by
  have e : ∀ a : Str, (a == s) = (s == a) := fun a => BEq.comm
  simp only [isWordR, isWord, e]

theorem RWord_s (text : Str) (s : St) : Fun Tryd.prog n_ref1_Word [.str text] s (.bool (isWord text)) s := by
  refine Fun.pure ?_ rfl rfl s
  rw [← isWordR_eq]
  generalize h : isWordR text = p
  unfold isWordR at h
  unfold S0
  refine Fun.go has_ref1_Word rfl fun B Q hB hQ => ?_
  have hlt : 0 < 1 := Nat.zero_lt_one
  have hget : 0 < 1 := Nat.zero_lt_one
  have hpu : 0 < 1 := Nat.zero_lt_one
  have hinc : 0 < 1 := Nat.zero_lt_one
  repeat' (first
 | simp only [go_sem, hlt, hget, hpu, hinc, Int.reduceLE, ↓reduceIte, reduceCtorEq, Nat.reduceEqDiff, Nat.reduceLeDiff, Nat.reduceAdd, Nat.reduceMul, Nat.reduceSub, Nat.reduceLT, Int.cast_ofNat_Int, wrap_ok, Int.reduceAdd, Int.reduceLT, Int.reduceNeg, decide_true, decide_false, Int.reduceToNat]
 | (with_reducible refine CU (Words_s _) ?_)
 | (with_reducible refine SemL.onceW ?_)
 | (with_reducible first | refine CB_ofT (by assumption) fun hc => ?_ | refine CB_ofF (by assumption) fun hc => ?_ | refine CB_split (fun hc => ?_) fun hc => ?_) <;> (try simp only [hc, bs, ↓reduceIte] at h) <;> (try simp only [hc])
 | ((with_reducible first | refine leafR hQ ?_ | refine leafN hQ ?_); (try cases h); simp only [resL, oneD, Option.some.injEq, exists_eq_left', go_sem, hlt, hget, hpu, hinc, Int.reduceLE, ↓reduceIte, reduceCtorEq, Nat.reduceEqDiff, Nat.reduceLeDiff, Nat.reduceAdd, Nat.reduceMul, Nat.reduceSub, Nat.reduceLT, Int.cast_ofNat_Int, wrap_ok, Int.reduceAdd, Int.reduceLT, Int.reduceNeg, decide_true, decide_false, Int.reduceToNat]; repeat' (first | exact Ok.out | with_reducible refine And.intro ?_ ?_ | (simp; done)))
 | (cases h; replace h := hr; clear hr; (try simp only [bs, ↓reduceIte] at h))
 | (cases h; done))

end Go.Abs

/-! Prs2 -/

namespace Go.Abs

set_option maxRecDepth 8000
set_option linter.unusedSimpArgs false
set_option linter.unusedVariables false
open Go.Proofs

def OpR (p : Int × Int) : Prop := 0 ≤ p.2 ∧ p.2 ≤ 6
abbrev C_one (m : Nat) : Prop := ∀ {r : Rd} {p : Ex × Rd}, Rd.one m r = some p → ∀ {s : St} {o : Nat}, s.objs[o]? = some (encRd r) → Fun Tryd.prog n_parse_reader_one [.ptr o 0] s (.agg (encEx p.1)) ⟨s.objs.set o (encRd p.2), s.toks⟩
abbrev C_two (m : Nat) : Prop := ∀ {k : Int} {r : Rd} {p : Ex × Rd}, Rd.two m k r = some p → ∀ {s : St} {o : Nat}, s.objs[o]? = some (encRd r) → Fun Tryd.prog n_parse_reader_two [.ptr o 0, .int .i64 k] s (.agg (encEx p.1)) ⟨s.objs.set o (encRd p.2), s.toks⟩

end Go.Abs

/-! Ref1 -/

namespace Go.Abs
set_option linter.unusedSimpArgs false
set_option linter.unusedVariables false
open Go.Proofs

/-- The reader's cells; what the last one holds is left open. -/
@[go_sem] def encRc (z : D) (r : Rd) : List D := [.slice .shared 4 (r.l.map encTok), .int .i64 r.i, .int .i64 r.code, .int .i64 r.fat, z]
/-- A plain cell. -/
class Cell (z : D) : Prop where
  ok : D.ok 0 0 z = true
  fg : ∀ n m, D.fg n m z = z
instance (n : Int) : Cell (.int .i64 n) := ⟨rfl, fun _ _ => rfl⟩
instance : Cell .junk := ⟨rfl, fun _ _ => rfl⟩
theorem Cell_fg (z : D) [h : Cell z] (n m : Nat) : D.fg n m z = z := h.fg n m
attribute [go_sem] Cell_fg
/-- Does a word or a sign come, and has there been no fault? -/
def Rd.isO (text : Str) (r : Rd) : Option Bool := if r.good then r.is text else some false

end Go.Abs

/-! Ref2 -/

namespace Go.Abs

set_option maxRecDepth 8000
set_option linter.unusedSimpArgs false
set_option linter.unusedVariables false
open Go.Proofs

def bindsR (s : Str) : Int × Int :=
  if [42] == s then (6, 5) else if [47] == s then (6, 6) else if [37] == s then (6, 7) else if [43] == s then (5, 8) else if [45] == s then (5, 9)
  else if [60] == s then (4, 10) else if [60, 61] == s then (4, 11) else if [62] == s then (4, 12) else if [62, 61] == s then (4, 13)
  else if [61, 61] == s then (3, 14) else if [33, 61] == s then (3, 15) else if [38, 38] == s then (2, 16) else if [124, 124] == s then (1, 17) else (0, 0)

def BZ (p : Int × Int) : Prop := (p.2 == 0) = (p.1 == 0)
end Go.Abs

/-! Ref3 -/

namespace Go.Abs

set_option maxRecDepth 8000
set_option linter.unusedSimpArgs false
set_option linter.unusedVariables false
open Go.Proofs

theorem deep_n : ∀ (most : Nat), most < 1000000 → ∀ x : Ex, x.size < 4611686018427387904 → ∀ s : St, Fun Tryd.prog n_ref3_deep [.agg (encEx x), .int .i64 (most : Int)] s (.int .i64 ((min x.depth (most + 1) : Nat) : Int)) s := by
  intro most
  induction most with
  | zero =>
    rintro _ ⟨op, m, name, kids⟩ hx s
    refine Fun.pure ?_ (by simp [D.oks, D.ok, okEx]) rfl s
    have hz : ((0 : Int) == 0) = true := rfl
    have e : min (Ex.depth ⟨op, m, name, kids⟩) (0 + 1) = 1 := by simp only [Ex.depth]; omega
    rw [e]
    unfold S0
    refine Fun.go has_ref3_deep rfl fun B Q hB hQ => ?_
    have hlt : 0 < 1 := Nat.zero_lt_one
    have hget : 0 < 1 := Nat.zero_lt_one
    have hpu : 0 < 1 := Nat.zero_lt_one
    have hinc : 0 < 1 := Nat.zero_lt_one
    repeat' (first
 | simp only [go_sem, hlt, hget, hpu, hinc, Int.reduceLE, ↓reduceIte, reduceCtorEq, Nat.reduceEqDiff, Nat.reduceLeDiff, Nat.reduceAdd, Nat.reduceMul, Nat.reduceSub, Nat.reduceLT, hz]
 | (with_reducible first | refine CB_ofT (by assumption) fun hc => ?_ | refine CB_ofF (by assumption) fun hc => ?_ | refine CB_split (fun hc => ?_) fun hc => ?_) <;> (try simp only [hc, bs, ↓reduceIte] at h) <;> (try simp only [hc])
 | ((with_reducible first | refine leafR hQ ?_ | refine leafN hQ ?_); (try cases h); simp only [resL, oneD, Option.some.injEq, exists_eq_left', go_sem, hlt, hget, hpu, hinc, Int.reduceLE, ↓reduceIte, reduceCtorEq, Nat.reduceEqDiff, Nat.reduceLeDiff, Nat.reduceAdd, Nat.reduceMul, Nat.reduceSub, Nat.reduceLT, hz]; repeat' (first | exact Ok.out | with_reducible refine And.intro ?_ ?_ | (simp; done)))
 | (cases h; replace h := hr; clear hr; (try simp only [bs, ↓reduceIte] at h))
 | (cases h; done))
  | succ most ih =>
    rintro hmost ⟨op, m, name, kids⟩ hx s
    refine Fun.pure ?_ (by simp [D.oks, D.ok, okEx]) rfl s
    have hlen : kids.length < 4611686018427387904 := by simp only [Ex.size] at hx; have := Ex.sizes_len kids; omega
    have hk : ∀ y ∈ kids, ∀ s, Fun Tryd.prog n_ref3_deep [.agg (encEx y), .int .i64 (most : Int)] s (.int .i64 ((min y.depth (most + 1) : Nat) : Int)) s := fun y hy s =>
      ih (by omega) y (by simp only [Ex.size] at hx; have := Ex.sizes_mem hy; omega) s
    have hz : (((most + 1 : Nat) : Int) == 0) = false := by simp; omega
    have w1 : IntKind.wrap .i64 (((most + 1 : Nat) : Int) - 1) = (most : Int) := by rw [wrap_ok] <;> omega
    unfold S0
    refine Fun.go has_ref3_deep rfl fun B Q hB hQ => ?_
    have hlt : 0 < 1 := Nat.zero_lt_one
    have hget : 0 < 1 := Nat.zero_lt_one
    have hpu : 0 < 1 := Nat.zero_lt_one
    have hinc : 0 < 1 := Nat.zero_lt_one
    repeat' (first
 | simp only [go_sem, hlt, hget, hpu, hinc, Int.reduceLE, ↓reduceIte, reduceCtorEq, Nat.reduceEqDiff, Nat.reduceLeDiff, Nat.reduceAdd, Nat.reduceMul, Nat.reduceSub, Nat.reduceLT, hz]
 | (with_reducible first | refine CB_ofT (by assumption) fun hc => ?_ | refine CB_ofF (by assumption) fun hc => ?_ | refine CB_split (fun hc => ?_) fun hc => ?_) <;> (try simp only [hc, bs, ↓reduceIte] at h) <;> (try simp only [hc])
 | ((with_reducible first | refine leafR hQ ?_ | refine leafN hQ ?_); (try cases h); simp only [resL, oneD, Option.some.injEq, exists_eq_left', go_sem, hlt, hget, hpu, hinc, Int.reduceLE, ↓reduceIte, reduceCtorEq, Nat.reduceEqDiff, Nat.reduceLeDiff, Nat.reduceAdd, Nat.reduceMul, Nat.reduceSub, Nat.reduceLT, hz]; repeat' (first | exact Ok.out | with_reducible refine And.intro ?_ ?_ | (simp; done)))
 | (cases h; replace h := hr; clear hr; (try simp only [bs, ↓reduceIte] at h))
 | (cases h; done))
    refine SemL.re _ _ 1 0 (by rw [hB]; exact Nat.le_of_ble_eq_true rfl) (by rw [hB]; exact Nat.le_of_ble_eq_true rfl) ?_ ?_ (SemL.ind (ι := List Ex × Nat × Nat) (fun i => kids.drop i.2.1 = i.1 ∧ i.2.2 ≤ most + 1 ∧ min (max i.2.2 (Ex.depths i.1)) (most + 1) = min (Ex.depths kids) (most + 1)) (fun i => i.1.length)
      (fun i => [(1, .int .i64 ((most + 1 : Nat) : Int)), (2, .ptr 0 0), (5, .int .i64 (i.2.2 : Int)), (6, .int .i64 (i.2.1 : Int))]) (fun i => ⟨[encEx ⟨op, m, name, kids⟩], []⟩) ?_ (kids, 0, 0) ⟨rfl, Nat.zero_le _, by simp⟩)
    · (simp only [go_sem, hlt, hget, hpu, hinc, Int.reduceLE, ↓reduceIte, reduceCtorEq, Nat.reduceEqDiff, Nat.reduceLeDiff, Nat.reduceAdd, Nat.reduceMul, Nat.reduceSub, Nat.reduceLT]; repeat' (first | exact Ok.out | with_reducible refine And.intro ?_ ?_))
    · (simp only [go_sem, hlt, hget, hpu, hinc, Int.reduceLE, ↓reduceIte, reduceCtorEq, Nat.reduceEqDiff, Nat.reduceLeDiff, Nat.reduceAdd, Nat.reduceMul, Nat.reduceSub, Nat.reduceLT]; repeat' (first | exact Ok.out | with_reducible refine And.intro ?_ ?_))
    rintro ⟨rest, k, d⟩ ⟨h1, h2, h3⟩ IH
    dsimp only at h1 h2 h3
    have hd : min (Ex.depth ⟨op, m, name, kids⟩) (most + 1 + 1) = min (Ex.depths kids) (most + 1) + 1 := by simp only [Ex.depth]; omega
    rw [hd, ← h3] at hQ
    have w2 : IntKind.wrap .i64 ((d : Int) + 1) = ((d + 1 : Nat) : Int) := by rw [wrap_ok] <;> omega
    by_cases hmax : d < most + 1
    · have c2 : decide ((d : Int) < ((most + 1 : Nat) : Int)) = true := by simp; omega
      cases rest with
      | nil =>
        have hlt := drop_nil h1
        simp only [Ex.depths, Nat.max_zero] at hQ
        have e : min d (most + 1) = d := by omega
        rw [e] at hQ
        repeat' (first
 | simp only [go_sem, hlt, hget, hpu, hinc, Int.reduceLE, ↓reduceIte, reduceCtorEq, Nat.reduceEqDiff, Nat.reduceLeDiff, Nat.reduceAdd, Nat.reduceMul, Nat.reduceSub, Nat.reduceLT, c2, w2]
 | (with_reducible first | refine CB_ofT (by assumption) fun hc => ?_ | refine CB_ofF (by assumption) fun hc => ?_ | refine CB_split (fun hc => ?_) fun hc => ?_) <;> (try simp only [hc, bs, ↓reduceIte] at h) <;> (try simp only [hc])
 | ((with_reducible first | refine leafR hQ ?_ | refine leafN hQ ?_); (try cases h); simp only [resL, oneD, Option.some.injEq, exists_eq_left', go_sem, hlt, hget, hpu, hinc, Int.reduceLE, ↓reduceIte, reduceCtorEq, Nat.reduceEqDiff, Nat.reduceLeDiff, Nat.reduceAdd, Nat.reduceMul, Nat.reduceSub, Nat.reduceLT, c2, w2]; repeat' (first | exact Ok.out | with_reducible refine And.intro ?_ ?_ | (simp; done)))
 | (cases h; replace h := hr; clear hr; (try simp only [bs, ↓reduceIte] at h))
 | (cases h; done))
      | cons y rest =>
        obtain ⟨hget, g2, hlt, g4⟩ := drop_cons h1
        have hy := hk y (List.mem_of_getElem? hget)
        simp only [Ex.depths] at h3
        have hk2 : k < 4611686018427387904 := by omega
        by_cases hgt : min y.depth (most + 1) > d
        · have c3 : decide (((min y.depth (most + 1) : Nat) : Int) > (d : Int)) = true := by simp only [decide_eq_true_eq]; omega
          repeat' (first
 | simp only [go_sem, hlt, hget, hpu, hinc, Int.reduceLE, ↓reduceIte, reduceCtorEq, Nat.reduceEqDiff, Nat.reduceLeDiff, Nat.reduceAdd, Nat.reduceMul, Nat.reduceSub, Nat.reduceLT, c2, w1, c3]
 | (with_reducible refine CU (hy _) ?_)
 | (with_reducible first | refine CB_ofT (by assumption) fun hc => ?_ | refine CB_ofF (by assumption) fun hc => ?_ | refine CB_split (fun hc => ?_) fun hc => ?_) <;> (try simp only [hc, bs, ↓reduceIte] at h) <;> (try simp only [hc])
 | ((with_reducible first | refine leafR hQ ?_ | refine leafN hQ ?_); (try cases h); simp only [resL, oneD, Option.some.injEq, exists_eq_left', go_sem, hlt, hget, hpu, hinc, Int.reduceLE, ↓reduceIte, reduceCtorEq, Nat.reduceEqDiff, Nat.reduceLeDiff, Nat.reduceAdd, Nat.reduceMul, Nat.reduceSub, Nat.reduceLT, c2, w1, c3]; repeat' (first | exact Ok.out | with_reducible refine And.intro ?_ ?_ | (simp; done)))
 | (cases h; replace h := hr; clear hr; (try simp only [bs, ↓reduceIte] at h))
 | (cases h; done))
          refine SemL.re _ _ 1 0 (by rw [hB]; exact Nat.le_of_ble_eq_true rfl) (by rw [hB]; exact Nat.le_of_ble_eq_true rfl) ?_ ?_ (IH (rest, k + 1, min y.depth (most + 1)) ⟨g2, by dsimp only; omega, by dsimp only; omega⟩ (Nat.lt_succ_self _))
          · (simp only [go_sem, hlt, hget, hpu, hinc, Int.reduceLE, ↓reduceIte, reduceCtorEq, Nat.reduceEqDiff, Nat.reduceLeDiff, Nat.reduceAdd, Nat.reduceMul, Nat.reduceSub, Nat.reduceLT, wrap_inc hk2]; repeat' (first | exact Ok.out | with_reducible refine And.intro ?_ ?_))
          · (simp only [go_sem, hlt, hget, hpu, hinc, Int.reduceLE, ↓reduceIte, reduceCtorEq, Nat.reduceEqDiff, Nat.reduceLeDiff, Nat.reduceAdd, Nat.reduceMul, Nat.reduceSub, Nat.reduceLT, wrap_inc hk2]; repeat' (first | exact Ok.out | with_reducible refine And.intro ?_ ?_))
        · have c3 : decide (((min y.depth (most + 1) : Nat) : Int) > (d : Int)) = false := by simp only [decide_eq_false_iff_not]; omega
          repeat' (first
 | simp only [go_sem, hlt, hget, hpu, hinc, Int.reduceLE, ↓reduceIte, reduceCtorEq, Nat.reduceEqDiff, Nat.reduceLeDiff, Nat.reduceAdd, Nat.reduceMul, Nat.reduceSub, Nat.reduceLT, c2, w1, c3]
 | (with_reducible refine CU (hy _) ?_)
 | (with_reducible first | refine CB_ofT (by assumption) fun hc => ?_ | refine CB_ofF (by assumption) fun hc => ?_ | refine CB_split (fun hc => ?_) fun hc => ?_) <;> (try simp only [hc, bs, ↓reduceIte] at h) <;> (try simp only [hc])
 | ((with_reducible first | refine leafR hQ ?_ | refine leafN hQ ?_); (try cases h); simp only [resL, oneD, Option.some.injEq, exists_eq_left', go_sem, hlt, hget, hpu, hinc, Int.reduceLE, ↓reduceIte, reduceCtorEq, Nat.reduceEqDiff, Nat.reduceLeDiff, Nat.reduceAdd, Nat.reduceMul, Nat.reduceSub, Nat.reduceLT, c2, w1, c3]; repeat' (first | exact Ok.out | with_reducible refine And.intro ?_ ?_ | (simp; done)))
 | (cases h; replace h := hr; clear hr; (try simp only [bs, ↓reduceIte] at h))
 | (cases h; done))
          refine SemL.re _ _ 1 0 (by rw [hB]; exact Nat.le_of_ble_eq_true rfl) (by rw [hB]; exact Nat.le_of_ble_eq_true rfl) ?_ ?_ (IH (rest, k + 1, d) ⟨g2, h2, by dsimp only; omega⟩ (Nat.lt_succ_self _))
          · (simp only [go_sem, hlt, hget, hpu, hinc, Int.reduceLE, ↓reduceIte, reduceCtorEq, Nat.reduceEqDiff, Nat.reduceLeDiff, Nat.reduceAdd, Nat.reduceMul, Nat.reduceSub, Nat.reduceLT, wrap_inc hk2]; repeat' (first | exact Ok.out | with_reducible refine And.intro ?_ ?_))
          · (simp only [go_sem, hlt, hget, hpu, hinc, Int.reduceLE, ↓reduceIte, reduceCtorEq, Nat.reduceEqDiff, Nat.reduceLeDiff, Nat.reduceAdd, Nat.reduceMul, Nat.reduceSub, Nat.reduceLT, wrap_inc hk2]; repeat' (first | exact Ok.out | with_reducible refine And.intro ?_ ?_))
    · have c2 : decide ((d : Int) < ((most + 1 : Nat) : Int)) = false := by simp; omega
      have e : min (max d (Ex.depths rest)) (most + 1) = d := by omega
      rw [e] at hQ
      cases rest with
      | nil =>
        have hlt := drop_nil h1
        repeat' (first
 | simp only [go_sem, hlt, hget, hpu, hinc, Int.reduceLE, ↓reduceIte, reduceCtorEq, Nat.reduceEqDiff, Nat.reduceLeDiff, Nat.reduceAdd, Nat.reduceMul, Nat.reduceSub, Nat.reduceLT, c2, w2]
 | (with_reducible first | refine CB_ofT (by assumption) fun hc => ?_ | refine CB_ofF (by assumption) fun hc => ?_ | refine CB_split (fun hc => ?_) fun hc => ?_) <;> (try simp only [hc, bs, ↓reduceIte] at h) <;> (try simp only [hc])
 | ((with_reducible first | refine leafR hQ ?_ | refine leafN hQ ?_); (try cases h); simp only [resL, oneD, Option.some.injEq, exists_eq_left', go_sem, hlt, hget, hpu, hinc, Int.reduceLE, ↓reduceIte, reduceCtorEq, Nat.reduceEqDiff, Nat.reduceLeDiff, Nat.reduceAdd, Nat.reduceMul, Nat.reduceSub, Nat.reduceLT, c2, w2]; repeat' (first | exact Ok.out | with_reducible refine And.intro ?_ ?_ | (simp; done)))
 | (cases h; replace h := hr; clear hr; (try simp only [bs, ↓reduceIte] at h))
 | (cases h; done))
      | cons y rest =>
        obtain ⟨hget, g2, hlt, g4⟩ := drop_cons h1
        repeat' (first
 | simp only [go_sem, hlt, hget, hpu, hinc, Int.reduceLE, ↓reduceIte, reduceCtorEq, Nat.reduceEqDiff, Nat.reduceLeDiff, Nat.reduceAdd, Nat.reduceMul, Nat.reduceSub, Nat.reduceLT, c2, w2]
 | (with_reducible first | refine CB_ofT (by assumption) fun hc => ?_ | refine CB_ofF (by assumption) fun hc => ?_ | refine CB_split (fun hc => ?_) fun hc => ?_) <;> (try simp only [hc, bs, ↓reduceIte] at h) <;> (try simp only [hc])
 | ((with_reducible first | refine leafR hQ ?_ | refine leafN hQ ?_); (try cases h); simp only [resL, oneD, Option.some.injEq, exists_eq_left', go_sem, hlt, hget, hpu, hinc, Int.reduceLE, ↓reduceIte, reduceCtorEq, Nat.reduceEqDiff, Nat.reduceLeDiff, Nat.reduceAdd, Nat.reduceMul, Nat.reduceSub, Nat.reduceLT, c2, w2]; repeat' (first | exact Ok.out | with_reducible refine And.intro ?_ ?_ | (simp; done)))
 | (cases h; replace h := hr; clear hr; (try simp only [bs, ↓reduceIte] at h))
 | (cases h; done))

end Go.Abs

/-! RefMay1 -/

namespace Go.Abs

set_option maxRecDepth 8000
set_option linter.unusedSimpArgs false
set_option linter.unusedVariables false
open Go.Proofs

theorem RName_s (text : Str) (hl : text.length < 4611686018427387904) (s : St) : Fun Tryd.prog n_ref1_Name [.str text] s (.bool (isName text)) s := by
  refine Fun.pure ?_ rfl rfl s
  unfold S0
  cases text with
  | nil =>
    have e : (([] : Str) == []) = true := rfl
    refine Fun.go has_ref1_Name rfl fun B Q hB hQ => ?_
    have hlt : 0 < 1 := Nat.zero_lt_one
    have hget : 0 < 1 := Nat.zero_lt_one
    have hpu : 0 < 1 := Nat.zero_lt_one
    have hinc : 0 < 1 := Nat.zero_lt_one
    repeat' (first
 | simp only [go_sem, hlt, hget, hpu, hinc, Int.reduceLE, ↓reduceIte, reduceCtorEq, Nat.reduceEqDiff, Nat.reduceLeDiff, Nat.reduceAdd, Nat.reduceMul, Nat.reduceSub, Nat.reduceLT, e, isName]
 | (with_reducible first | refine CB_ofT (by assumption) fun hc => ?_ | refine CB_ofF (by assumption) fun hc => ?_ | refine CB_split (fun hc => ?_) fun hc => ?_) <;> (try simp only [hc, bs, ↓reduceIte] at h) <;> (try simp only [hc])
 | ((with_reducible first | refine leafR hQ ?_ | refine leafN hQ ?_); (try cases h); simp only [resL, oneD, Option.some.injEq, exists_eq_left', go_sem, hlt, hget, hpu, hinc, Int.reduceLE, ↓reduceIte, reduceCtorEq, Nat.reduceEqDiff, Nat.reduceLeDiff, Nat.reduceAdd, Nat.reduceMul, Nat.reduceSub, Nat.reduceLT, e, isName]; repeat' (first | exact Ok.out | with_reducible refine And.intro ?_ ?_ | (simp; done)))
 | (cases h; replace h := hr; clear hr; (try simp only [bs, ↓reduceIte] at h))
 | (cases h; done))
  | cons c r =>
    have e : ((c :: r) == []) = false := rfl
    generalize h : isName (c :: r) = p
    simp only [isName] at h
    refine Fun.go has_ref1_Name rfl fun B Q hB hQ => ?_
    have hlt : 0 < 1 := Nat.zero_lt_one
    have hget : 0 < 1 := Nat.zero_lt_one
    have hpu : 0 < 1 := Nat.zero_lt_one
    have hinc : 0 < 1 := Nat.zero_lt_one
    repeat' (first
 | simp only [go_sem, hlt, hget, hpu, hinc, Int.reduceLE, ↓reduceIte, reduceCtorEq, Nat.reduceEqDiff, Nat.reduceLeDiff, Nat.reduceAdd, Nat.reduceMul, Nat.reduceSub, Nat.reduceLT, e]
 | (with_reducible refine CU (Rsmall_s _ _) ?_)
 | (with_reducible first | refine CB_ofT (by assumption) fun hc => ?_ | refine CB_ofF (by assumption) fun hc => ?_ | refine CB_split (fun hc => ?_) fun hc => ?_) <;> (try simp only [hc, bs, ↓reduceIte] at h) <;> (try simp only [hc])
 | ((with_reducible first | refine leafR hQ ?_ | refine leafN hQ ?_); (try cases h); simp only [resL, oneD, Option.some.injEq, exists_eq_left', go_sem, hlt, hget, hpu, hinc, Int.reduceLE, ↓reduceIte, reduceCtorEq, Nat.reduceEqDiff, Nat.reduceLeDiff, Nat.reduceAdd, Nat.reduceMul, Nat.reduceSub, Nat.reduceLT, e]; repeat' (first | exact Ok.out | with_reducible refine And.intro ?_ ?_ | (simp; done)))
 | (cases h; replace h := hr; clear hr; (try simp only [bs, ↓reduceIte] at h))
 | (cases h; done))
    refine SemL.re _ _ 0 0 (by rw [hB]; exact Nat.le_of_ble_eq_true rfl) (by rw [hB]; exact Nat.le_of_ble_eq_true rfl) ?_ ?_ (SemL.ind (ι := Str × Nat) (fun i => (c :: r).drop i.2 = i.1 ∧ (if nameT i.1 then !(isWord (c :: r)) else false) = p) (fun i => i.1.length)
      (fun i => [(0, .str (c :: r)), (3, .int .i64 (i.2 : Int))]) (fun i => ⟨[], []⟩) ?_ (r, 1) ⟨rfl, h⟩)
    · (simp only [go_sem, hlt, hget, hpu, hinc, Int.reduceLE, ↓reduceIte, reduceCtorEq, Nat.reduceEqDiff, Nat.reduceLeDiff, Nat.reduceAdd, Nat.reduceMul, Nat.reduceSub, Nat.reduceLT]; repeat' (first | exact Ok.out | with_reducible refine And.intro ?_ ?_))
    · (simp only [go_sem, hlt, hget, hpu, hinc, Int.reduceLE, ↓reduceIte, reduceCtorEq, Nat.reduceEqDiff, Nat.reduceLeDiff, Nat.reduceAdd, Nat.reduceMul, Nat.reduceSub, Nat.reduceLT]; repeat' (first | exact Ok.out | with_reducible refine And.intro ?_ ?_))
    rintro ⟨rest, k⟩ ⟨h1, h⟩ IH
    dsimp only at h1 h
    cases rest with
    | nil =>
      have hlt := drop_nil h1
      simp only [List.length_cons] at hlt
      simp only [nameT, ↓reduceIte] at h
      repeat' (first
 | simp only [go_sem, hlt, hget, hpu, hinc, Int.reduceLE, ↓reduceIte, reduceCtorEq, Nat.reduceEqDiff, Nat.reduceLeDiff, Nat.reduceAdd, Nat.reduceMul, Nat.reduceSub, Nat.reduceLT]
 | (with_reducible refine CU (RWord_s _ _) ?_)
 | (with_reducible first | refine CB_ofT (by assumption) fun hc => ?_ | refine CB_ofF (by assumption) fun hc => ?_ | refine CB_split (fun hc => ?_) fun hc => ?_) <;> (try simp only [hc, bs, ↓reduceIte] at h) <;> (try simp only [hc])
 | ((with_reducible first | refine leafR hQ ?_ | refine leafN hQ ?_); (try cases h); simp only [resL, oneD, Option.some.injEq, exists_eq_left', go_sem, hlt, hget, hpu, hinc, Int.reduceLE, ↓reduceIte, reduceCtorEq, Nat.reduceEqDiff, Nat.reduceLeDiff, Nat.reduceAdd, Nat.reduceMul, Nat.reduceSub, Nat.reduceLT]; repeat' (first | exact Ok.out | with_reducible refine And.intro ?_ ?_ | (simp; done)))
 | (cases h; replace h := hr; clear hr; (try simp only [bs, ↓reduceIte] at h))
 | (cases h; done))
    | cons d rest =>
      obtain ⟨hget, g2, hlt, g4⟩ := drop_cons h1
      simp only [List.length_cons] at hlt
      have hpu : k < 4611686018427387904 := by omega
      simp only [nameT] at h
      repeat' (first
 | simp only [go_sem, hlt, hget, hpu, hinc, Int.reduceLE, ↓reduceIte, reduceCtorEq, Nat.reduceEqDiff, Nat.reduceLeDiff, Nat.reduceAdd, Nat.reduceMul, Nat.reduceSub, Nat.reduceLT]
 | (with_reducible refine CU (Rsmall_s _ _) ?_)
 | (with_reducible refine CU (Rdigit_s _ _) ?_)
 | (with_reducible first | refine CB_ofT (by assumption) fun hc => ?_ | refine CB_ofF (by assumption) fun hc => ?_ | refine CB_split (fun hc => ?_) fun hc => ?_) <;> (try simp only [hc, bs, ↓reduceIte] at h) <;> (try simp only [hc])
 | ((with_reducible first | refine leafR hQ ?_ | refine leafN hQ ?_); (try cases h); simp only [resL, oneD, Option.some.injEq, exists_eq_left', go_sem, hlt, hget, hpu, hinc, Int.reduceLE, ↓reduceIte, reduceCtorEq, Nat.reduceEqDiff, Nat.reduceLeDiff, Nat.reduceAdd, Nat.reduceMul, Nat.reduceSub, Nat.reduceLT]; repeat' (first | exact Ok.out | with_reducible refine And.intro ?_ ?_ | (simp; done)))
 | (cases h; replace h := hr; clear hr; (try simp only [bs, ↓reduceIte] at h))
 | (cases h; done))
      all_goals
        refine SemL.re _ _ 0 0 (by rw [hB]; exact Nat.le_of_ble_eq_true rfl) (by rw [hB]; exact Nat.le_of_ble_eq_true rfl) ?_ ?_ (IH (rest, k + 1) ⟨g2, h⟩ (Nat.lt_succ_self _))
        · (simp only [go_sem, hlt, hget, hpu, hinc, Int.reduceLE, ↓reduceIte, reduceCtorEq, Nat.reduceEqDiff, Nat.reduceLeDiff, Nat.reduceAdd, Nat.reduceMul, Nat.reduceSub, Nat.reduceLT]; repeat' (first | exact Ok.out | with_reducible refine And.intro ?_ ?_))
        · (simp only [go_sem, hlt, hget, hpu, hinc, Int.reduceLE, ↓reduceIte, reduceCtorEq, Nat.reduceEqDiff, Nat.reduceLeDiff, Nat.reduceAdd, Nat.reduceMul, Nat.reduceSub, Nat.reduceLT]; repeat' (first | exact Ok.out | with_reducible refine And.intro ?_ ?_))

theorem Arity_s (op : Int) (s : St) : Fun Tryd.prog n_ref3_Arity [.int .i64 op] s (.int .i64 (arityI op)) s := by
  refine Fun.pure ?_ rfl rfl s
  unfold S0
  generalize h : arityI op = p
  unfold arityI at h
  refine Fun.go has_ref3_Arity rfl fun B Q hB hQ => ?_
  have hlt : 0 < 1 := Nat.zero_lt_one
  have hget : 0 < 1 := Nat.zero_lt_one
  have hpu : 0 < 1 := Nat.zero_lt_one
  have hinc : 0 < 1 := Nat.zero_lt_one
  repeat' (first
 | simp only [go_sem, hlt, hget, hpu, hinc, Int.reduceLE, ↓reduceIte, reduceCtorEq, Nat.reduceEqDiff, Nat.reduceLeDiff, Nat.reduceAdd, Nat.reduceMul, Nat.reduceSub, Nat.reduceLT]
 | (with_reducible first | refine CB_ofT (by assumption) fun hc => ?_ | refine CB_ofF (by assumption) fun hc => ?_ | refine CB_split (fun hc => ?_) fun hc => ?_) <;> (try simp only [hc, bs, ↓reduceIte] at h) <;> (try simp only [hc])
 | ((with_reducible first | refine leafR hQ ?_ | refine leafN hQ ?_); (try cases h); simp only [resL, oneD, Option.some.injEq, exists_eq_left', go_sem, hlt, hget, hpu, hinc, Int.reduceLE, ↓reduceIte, reduceCtorEq, Nat.reduceEqDiff, Nat.reduceLeDiff, Nat.reduceAdd, Nat.reduceMul, Nat.reduceSub, Nat.reduceLT]; repeat' (first | exact Ok.out | with_reducible refine And.intro ?_ ?_ | (simp; done)))
 | (cases h; replace h := hr; clear hr; (try simp only [bs, ↓reduceIte] at h))
 | (cases h; done))

theorem names_s' {l : List Str} (hl : l.length < 4611686018427387904) (hs : ∀ t ∈ l, t.length < 4611686018427387904) (s : St) : Fun Tryd.prog n_ref3_names [.slice .shared 1 (l.map encStr)] s (.bool (mayNames l)) s := by
  refine Fun.pure ?_ (by simp [D.oks, D.ok, okrStr, Tag.ok]) rfl s
  unfold S0
  generalize h : mayNames l = p
  refine Fun.go has_ref3_names rfl fun B Q hB hQ => ?_
  have hlt : 0 < 1 := Nat.zero_lt_one
  have hget : 0 < 1 := Nat.zero_lt_one
  have hpu : 0 < 1 := Nat.zero_lt_one
  have hinc : 0 < 1 := Nat.zero_lt_one
  repeat' (first
 | simp only [go_sem, hlt, hget, hpu, hinc, Int.reduceLE, ↓reduceIte, reduceCtorEq, Nat.reduceEqDiff, Nat.reduceLeDiff, Nat.reduceAdd, Nat.reduceMul, Nat.reduceSub, Nat.reduceLT]
 | (with_reducible first | refine CB_ofT (by assumption) fun hc => ?_ | refine CB_ofF (by assumption) fun hc => ?_ | refine CB_split (fun hc => ?_) fun hc => ?_) <;> (try simp only [hc, bs, ↓reduceIte] at h) <;> (try simp only [hc])
 | ((with_reducible first | refine leafR hQ ?_ | refine leafN hQ ?_); (try cases h); simp only [resL, oneD, Option.some.injEq, exists_eq_left', go_sem, hlt, hget, hpu, hinc, Int.reduceLE, ↓reduceIte, reduceCtorEq, Nat.reduceEqDiff, Nat.reduceLeDiff, Nat.reduceAdd, Nat.reduceMul, Nat.reduceSub, Nat.reduceLT]; repeat' (first | exact Ok.out | with_reducible refine And.intro ?_ ?_ | (simp; done)))
 | (cases h; replace h := hr; clear hr; (try simp only [bs, ↓reduceIte] at h))
 | (cases h; done))
  refine SemL.re _ _ 0 0 (by rw [hB]; exact Nat.le_of_ble_eq_true rfl) (by rw [hB]; exact Nat.le_of_ble_eq_true rfl) ?_ ?_ (SemL.ind (ι := List Str × Nat) (fun i => l.drop i.2 = i.1 ∧ mayNames i.1 = p) (fun i => i.1.length)
    (fun i => [(5, .slice .shared 1 (l.map encStr)), (6, .int .i64 (l.length : Int)), (7, .int .i64 (i.2 : Int))]) (fun i => ⟨[], []⟩) ?_ (l, 0) ⟨rfl, h⟩)
  · (simp only [go_sem, hlt, hget, hpu, hinc, Int.reduceLE, ↓reduceIte, reduceCtorEq, Nat.reduceEqDiff, Nat.reduceLeDiff, Nat.reduceAdd, Nat.reduceMul, Nat.reduceSub, Nat.reduceLT]; repeat' (first | exact Ok.out | with_reducible refine And.intro ?_ ?_))
  · (simp only [go_sem, hlt, hget, hpu, hinc, Int.reduceLE, ↓reduceIte, reduceCtorEq, Nat.reduceEqDiff, Nat.reduceLeDiff, Nat.reduceAdd, Nat.reduceMul, Nat.reduceSub, Nat.reduceLT]; repeat' (first | exact Ok.out | with_reducible refine And.intro ?_ ?_))
  rintro ⟨rest, k⟩ ⟨h1, h⟩ IH
  dsimp only at h1 h
  cases rest with
  | nil =>
    have hlt := drop_nil h1
    simp only [mayNames] at h
    repeat' (first
 | simp only [go_sem, hlt, hget, hpu, hinc, Int.reduceLE, ↓reduceIte, reduceCtorEq, Nat.reduceEqDiff, Nat.reduceLeDiff, Nat.reduceAdd, Nat.reduceMul, Nat.reduceSub, Nat.reduceLT]
 | (with_reducible first | refine CB_ofT (by assumption) fun hc => ?_ | refine CB_ofF (by assumption) fun hc => ?_ | refine CB_split (fun hc => ?_) fun hc => ?_) <;> (try simp only [hc, bs, ↓reduceIte] at h) <;> (try simp only [hc])
 | ((with_reducible first | refine leafR hQ ?_ | refine leafN hQ ?_); (try cases h); simp only [resL, oneD, Option.some.injEq, exists_eq_left', go_sem, hlt, hget, hpu, hinc, Int.reduceLE, ↓reduceIte, reduceCtorEq, Nat.reduceEqDiff, Nat.reduceLeDiff, Nat.reduceAdd, Nat.reduceMul, Nat.reduceSub, Nat.reduceLT]; repeat' (first | exact Ok.out | with_reducible refine And.intro ?_ ?_ | (simp; done)))
 | (cases h; replace h := hr; clear hr; (try simp only [bs, ↓reduceIte] at h))
 | (cases h; done))
  | cons t rest =>
    obtain ⟨hget, g2, hlt, g4⟩ := drop_cons h1
    have hpu : k < 4611686018427387904 := by omega
    have hn := RName_s t (hs t (List.mem_of_getElem? hget))
    simp only [mayNames] at h
    repeat' (first
 | simp only [go_sem, hlt, hget, hpu, hinc, Int.reduceLE, ↓reduceIte, reduceCtorEq, Nat.reduceEqDiff, Nat.reduceLeDiff, Nat.reduceAdd, Nat.reduceMul, Nat.reduceSub, Nat.reduceLT]
 | (with_reducible refine CU (hn _) ?_)
 | (with_reducible first | refine CB_ofT (by assumption) fun hc => ?_ | refine CB_ofF (by assumption) fun hc => ?_ | refine CB_split (fun hc => ?_) fun hc => ?_) <;> (try simp only [hc, bs, ↓reduceIte] at h) <;> (try simp only [hc])
 | ((with_reducible first | refine leafR hQ ?_ | refine leafN hQ ?_); (try cases h); simp only [resL, oneD, Option.some.injEq, exists_eq_left', go_sem, hlt, hget, hpu, hinc, Int.reduceLE, ↓reduceIte, reduceCtorEq, Nat.reduceEqDiff, Nat.reduceLeDiff, Nat.reduceAdd, Nat.reduceMul, Nat.reduceSub, Nat.reduceLT]; repeat' (first | exact Ok.out | with_reducible refine And.intro ?_ ?_ | (simp; done)))
 | (cases h; replace h := hr; clear hr; (try simp only [bs, ↓reduceIte] at h))
 | (cases h; done))
    refine SemL.re _ _ 0 0 (by rw [hB]; exact Nat.le_of_ble_eq_true rfl) (by rw [hB]; exact Nat.le_of_ble_eq_true rfl) ?_ ?_ (IH (rest, k + 1) ⟨g2, h⟩ (Nat.lt_succ_self _))
    · (simp only [go_sem, hlt, hget, hpu, hinc, Int.reduceLE, ↓reduceIte, reduceCtorEq, Nat.reduceEqDiff, Nat.reduceLeDiff, Nat.reduceAdd, Nat.reduceMul, Nat.reduceSub, Nat.reduceLT]; repeat' (first | exact Ok.out | with_reducible refine And.intro ?_ ?_))
    · (simp only [go_sem, hlt, hget, hpu, hinc, Int.reduceLE, ↓reduceIte, reduceCtorEq, Nat.reduceEqDiff, Nat.reduceLeDiff, Nat.reduceAdd, Nat.reduceMul, Nat.reduceSub, Nat.reduceLT]; repeat' (first | exact Ok.out | with_reducible refine And.intro ?_ ?_))

theorem form_n : ∀ (n : Nat) (x : Ex), x.size ≤ n → x.size < 4611686018427387904 → x.texts → ∀ s : St, Fun Tryd.prog n_ref3_form [.agg (encEx x)] s (.bool x.form) s := by
  intro n
  induction n with
  | zero => rintro ⟨op, m, name, kids⟩ h; simp only [Ex.size] at h; omega
  | succ n ih =>
    rintro ⟨op, m, name, kids⟩ h hx ht s
    refine Fun.pure ?_ (by simp [D.oks, D.ok, okEx]) rfl s
    have hlen : kids.length < 4611686018427387904 := by simp only [Ex.size] at hx; have := Ex.sizes_len kids; omega
    have hk : ∀ y ∈ kids, ∀ s, Fun Tryd.prog n_ref3_form [.agg (encEx y)] s (.bool y.form) s := fun y hy s =>
      ih y (by simp only [Ex.size] at h; have := Ex.sizes_mem hy; omega) (by simp only [Ex.size] at hx; have := Ex.sizes_mem hy; omega) (Ex.texts_mem ht hy) s
    have hn := RName_s name ht.1
    unfold S0
    generalize h : Ex.form ⟨op, m, name, kids⟩ = p
    simp only [Ex.form] at h
    refine Fun.go has_ref3_form rfl fun B Q hB hQ => ?_
    have hlt : 0 < 1 := Nat.zero_lt_one
    have hget : 0 < 1 := Nat.zero_lt_one
    have hpu : 0 < 1 := Nat.zero_lt_one
    have hinc : 0 < 1 := Nat.zero_lt_one
    repeat' (first
 | simp only [go_sem, hlt, hget, hpu, hinc, Int.reduceLE, ↓reduceIte, reduceCtorEq, Nat.reduceEqDiff, Nat.reduceLeDiff, Nat.reduceAdd, Nat.reduceMul, Nat.reduceSub, Nat.reduceLT]
 | (with_reducible refine CU (Arity_s _ _) ?_)
 | (with_reducible refine CU (hn _) ?_)
 | (with_reducible first | refine CB_ofT (by assumption) fun hc => ?_ | refine CB_ofF (by assumption) fun hc => ?_ | refine CB_split (fun hc => ?_) fun hc => ?_) <;> (try simp only [hc, bs, ↓reduceIte] at h) <;> (try simp only [hc])
 | ((with_reducible first | refine leafR hQ ?_ | refine leafN hQ ?_); (try cases h); simp only [resL, oneD, Option.some.injEq, exists_eq_left', go_sem, hlt, hget, hpu, hinc, Int.reduceLE, ↓reduceIte, reduceCtorEq, Nat.reduceEqDiff, Nat.reduceLeDiff, Nat.reduceAdd, Nat.reduceMul, Nat.reduceSub, Nat.reduceLT]; repeat' (first | exact Ok.out | with_reducible refine And.intro ?_ ?_ | (simp; done)))
 | (cases h; replace h := hr; clear hr; (try simp only [bs, ↓reduceIte] at h))
 | (cases h; done))
    all_goals
      refine SemL.re _ _ 1 0 (by rw [hB]; exact Nat.le_of_ble_eq_true rfl) (by rw [hB]; exact Nat.le_of_ble_eq_true rfl) ?_ ?_ (SemL.ind (ι := List Ex × Nat) (fun i => kids.drop i.2 = i.1 ∧ Ex.forms i.1 = p) (fun i => i.1.length)
        (fun i => [(1, .ptr 0 0), (48, .int .i64 (kids.length : Int)), (49, .int .i64 (i.2 : Int))]) (fun i => ⟨[encEx ⟨op, m, name, kids⟩], []⟩) ?_ (kids, 0) ⟨rfl, h⟩)
      · (simp only [go_sem, hlt, hget, hpu, hinc, Int.reduceLE, ↓reduceIte, reduceCtorEq, Nat.reduceEqDiff, Nat.reduceLeDiff, Nat.reduceAdd, Nat.reduceMul, Nat.reduceSub, Nat.reduceLT]; repeat' (first | exact Ok.out | with_reducible refine And.intro ?_ ?_))
      · (simp only [go_sem, hlt, hget, hpu, hinc, Int.reduceLE, ↓reduceIte, reduceCtorEq, Nat.reduceEqDiff, Nat.reduceLeDiff, Nat.reduceAdd, Nat.reduceMul, Nat.reduceSub, Nat.reduceLT]; repeat' (first | exact Ok.out | with_reducible refine And.intro ?_ ?_))
      rintro ⟨rest, k⟩ ⟨h1, h⟩ IH
      dsimp only at h1 h
      cases rest with
      | nil =>
        have hlt := drop_nil h1
        simp only [Ex.forms] at h
        repeat' (first
 | simp only [go_sem, hlt, hget, hpu, hinc, Int.reduceLE, ↓reduceIte, reduceCtorEq, Nat.reduceEqDiff, Nat.reduceLeDiff, Nat.reduceAdd, Nat.reduceMul, Nat.reduceSub, Nat.reduceLT]
 | (with_reducible first | refine CB_ofT (by assumption) fun hc => ?_ | refine CB_ofF (by assumption) fun hc => ?_ | refine CB_split (fun hc => ?_) fun hc => ?_) <;> (try simp only [hc, bs, ↓reduceIte] at h) <;> (try simp only [hc])
 | ((with_reducible first | refine leafR hQ ?_ | refine leafN hQ ?_); (try cases h); simp only [resL, oneD, Option.some.injEq, exists_eq_left', go_sem, hlt, hget, hpu, hinc, Int.reduceLE, ↓reduceIte, reduceCtorEq, Nat.reduceEqDiff, Nat.reduceLeDiff, Nat.reduceAdd, Nat.reduceMul, Nat.reduceSub, Nat.reduceLT]; repeat' (first | exact Ok.out | with_reducible refine And.intro ?_ ?_ | (simp; done)))
 | (cases h; replace h := hr; clear hr; (try simp only [bs, ↓reduceIte] at h))
 | (cases h; done))
      | cons y rest =>
        obtain ⟨hget, g2, hlt, g4⟩ := drop_cons h1
        have hy := hk y (List.mem_of_getElem? hget)
        have hpu : k < 4611686018427387904 := by omega
        simp only [Ex.forms] at h
        repeat' (first
 | simp only [go_sem, hlt, hget, hpu, hinc, Int.reduceLE, ↓reduceIte, reduceCtorEq, Nat.reduceEqDiff, Nat.reduceLeDiff, Nat.reduceAdd, Nat.reduceMul, Nat.reduceSub, Nat.reduceLT]
 | (with_reducible refine CU (hy _) ?_)
 | (with_reducible first | refine CB_ofT (by assumption) fun hc => ?_ | refine CB_ofF (by assumption) fun hc => ?_ | refine CB_split (fun hc => ?_) fun hc => ?_) <;> (try simp only [hc, bs, ↓reduceIte] at h) <;> (try simp only [hc])
 | ((with_reducible first | refine leafR hQ ?_ | refine leafN hQ ?_); (try cases h); simp only [resL, oneD, Option.some.injEq, exists_eq_left', go_sem, hlt, hget, hpu, hinc, Int.reduceLE, ↓reduceIte, reduceCtorEq, Nat.reduceEqDiff, Nat.reduceLeDiff, Nat.reduceAdd, Nat.reduceMul, Nat.reduceSub, Nat.reduceLT]; repeat' (first | exact Ok.out | with_reducible refine And.intro ?_ ?_ | (simp; done)))
 | (cases h; replace h := hr; clear hr; (try simp only [bs, ↓reduceIte] at h))
 | (cases h; done))
        refine SemL.re _ _ 1 0 (by rw [hB]; exact Nat.le_of_ble_eq_true rfl) (by rw [hB]; exact Nat.le_of_ble_eq_true rfl) ?_ ?_ (IH (rest, k + 1) ⟨g2, h⟩ (Nat.lt_succ_self _))
        · (simp only [go_sem, hlt, hget, hpu, hinc, Int.reduceLE, ↓reduceIte, reduceCtorEq, Nat.reduceEqDiff, Nat.reduceLeDiff, Nat.reduceAdd, Nat.reduceMul, Nat.reduceSub, Nat.reduceLT]; repeat' (first | exact Ok.out | with_reducible refine And.intro ?_ ?_))
        · (simp only [go_sem, hlt, hget, hpu, hinc, Int.reduceLE, ↓reduceIte, reduceCtorEq, Nat.reduceEqDiff, Nat.reduceLeDiff, Nat.reduceAdd, Nat.reduceMul, Nat.reduceSub, Nat.reduceLT]; repeat' (first | exact Ok.out | with_reducible refine And.intro ?_ ?_))

theorem MayExpr_s {x : Ex} (hx : x.size < 4611686018427387904) (ht : x.texts) (s : St) : Fun Tryd.prog n_ref3_MayExpr [.agg (encEx x)] s (.bool x.may) s := by
  refine Fun.pure ?_ (by simp [D.oks, D.ok, okEx]) rfl s
  have hd := fun s => deep_n 20 (by decide) x hx s
  have c20 : ((20 : Nat) : Int) = 20 := rfl
  rw [c20] at hd
  have hf := form_n _ x (Nat.le_refl _) hx ht
  unfold S0
  generalize h : Ex.may x = p
  unfold Ex.may at h
  refine Fun.go has_ref3_MayExpr rfl fun B Q hB hQ => ?_
  have hlt : 0 < 1 := Nat.zero_lt_one
  have hget : 0 < 1 := Nat.zero_lt_one
  have hpu : 0 < 1 := Nat.zero_lt_one
  have hinc : 0 < 1 := Nat.zero_lt_one
  repeat' (first
 | simp only [go_sem, hlt, hget, hpu, hinc, Int.reduceLE, ↓reduceIte, reduceCtorEq, Nat.reduceEqDiff, Nat.reduceLeDiff, Nat.reduceAdd, Nat.reduceMul, Nat.reduceSub, Nat.reduceLT]
 | (with_reducible refine CU (hd _) ?_)
 | (with_reducible refine CU (hf _) ?_)
 | (with_reducible first | refine CB_ofT (by assumption) fun hc => ?_ | refine CB_ofF (by assumption) fun hc => ?_ | refine CB_split (fun hc => ?_) fun hc => ?_) <;> (try simp only [hc, bs, ↓reduceIte] at h) <;> (try simp only [hc])
 | ((with_reducible first | refine leafR hQ ?_ | refine leafN hQ ?_); (try cases h); simp only [resL, oneD, Option.some.injEq, exists_eq_left', go_sem, hlt, hget, hpu, hinc, Int.reduceLE, ↓reduceIte, reduceCtorEq, Nat.reduceEqDiff, Nat.reduceLeDiff, Nat.reduceAdd, Nat.reduceMul, Nat.reduceSub, Nat.reduceLT]; repeat' (first | exact Ok.out | with_reducible refine And.intro ?_ ?_ | (simp; done)))
 | (cases h; replace h := hr; clear hr; (try simp only [bs, ↓reduceIte] at h))
 | (cases h; done))

theorem none_s (x : Ex) (s : St) : Fun Tryd.prog n_ref3_none [.agg (encEx x)] s (.bool x.none) s := by
  refine Fun.pure ?_ (by simp [D.oks, D.ok, okEx]) rfl s
  unfold S0
  generalize h : Ex.none x = p
  unfold Ex.none at h
  refine Fun.go has_ref3_none rfl fun B Q hB hQ => ?_
  have hlt : 0 < 1 := Nat.zero_lt_one
  have hget : 0 < 1 := Nat.zero_lt_one
  have hpu : 0 < 1 := Nat.zero_lt_one
  have hinc : 0 < 1 := Nat.zero_lt_one
  repeat' (first
 | simp only [go_sem, hlt, hget, hpu, hinc, Int.reduceLE, ↓reduceIte, reduceCtorEq, Nat.reduceEqDiff, Nat.reduceLeDiff, Nat.reduceAdd, Nat.reduceMul, Nat.reduceSub, Nat.reduceLT]
 | (with_reducible first | refine CB_ofT (by assumption) fun hc => ?_ | refine CB_ofF (by assumption) fun hc => ?_ | refine CB_split (fun hc => ?_) fun hc => ?_) <;> (try simp only [hc, bs, ↓reduceIte] at h) <;> (try simp only [hc])
 | ((with_reducible first | refine leafR hQ ?_ | refine leafN hQ ?_); (try cases h); simp only [resL, oneD, Option.some.injEq, exists_eq_left', go_sem, hlt, hget, hpu, hinc, Int.reduceLE, ↓reduceIte, reduceCtorEq, Nat.reduceEqDiff, Nat.reduceLeDiff, Nat.reduceAdd, Nat.reduceMul, Nat.reduceSub, Nat.reduceLT]; repeat' (first | exact Ok.out | with_reducible refine And.intro ?_ ?_ | (simp; done)))
 | (cases h; replace h := hr; clear hr; (try simp only [bs, ↓reduceIte] at h))
 | (cases h; done))

theorem arg_s {a : Ar} (hx : a.x.size < 4611686018427387904) (ht : a.x.texts) (hn : a.name.length < 4611686018427387904) (s : St) : Fun Tryd.prog n_ref3_arg [.agg (encAr a)] s (.bool a.may) s := by
  refine Fun.pure ?_ (by simp [D.oks, D.ok, okAr]) rfl s
  have hm := MayExpr_s hx ht
  have h1 := RName_s a.name hn
  unfold S0
  generalize h : Ar.may a = p
  simp only [Ar.may] at h
  refine Fun.go has_ref3_arg rfl fun B Q hB hQ => ?_
  have hlt : 0 < 1 := Nat.zero_lt_one
  have hget : 0 < 1 := Nat.zero_lt_one
  have hpu : 0 < 1 := Nat.zero_lt_one
  have hinc : 0 < 1 := Nat.zero_lt_one
  repeat' (first
 | simp only [go_sem, hlt, hget, hpu, hinc, Int.reduceLE, ↓reduceIte, reduceCtorEq, Nat.reduceEqDiff, Nat.reduceLeDiff, Nat.reduceAdd, Nat.reduceMul, Nat.reduceSub, Nat.reduceLT]
 | (with_reducible refine CU (hm _) ?_)
 | (with_reducible refine CU (h1 _) ?_)
 | (with_reducible refine CU (none_s _ _) ?_)
 | (with_reducible first | refine CB_ofT (by assumption) fun hc => ?_ | refine CB_ofF (by assumption) fun hc => ?_ | refine CB_split (fun hc => ?_) fun hc => ?_) <;> (try simp only [hc, bs, ↓reduceIte] at h) <;> (try simp only [hc])
 | ((with_reducible first | refine leafR hQ ?_ | refine leafN hQ ?_); (try cases h); simp only [resL, oneD, Option.some.injEq, exists_eq_left', go_sem, hlt, hget, hpu, hinc, Int.reduceLE, ↓reduceIte, reduceCtorEq, Nat.reduceEqDiff, Nat.reduceLeDiff, Nat.reduceAdd, Nat.reduceMul, Nat.reduceSub, Nat.reduceLT]; repeat' (first | exact Ok.out | with_reducible refine And.intro ?_ ?_ | (simp; done)))
 | (cases h; replace h := hr; clear hr; (try simp only [bs, ↓reduceIte] at h))
 | (cases h; done))

end Go.Abs

/-! Full1 -/

namespace Go.Abs

set_option maxRecDepth 8000
set_option linter.unusedSimpArgs false
set_option linter.unusedVariables false
open Go.Proofs

def weighT (t : Str) (n : Int) : Int := if n > 20000 then 20001 else if (t.length : Int) ≥ 20000 - n then 20001 else n + 1 + t.length
mutual
def weighE : Ex → Int → Int
  | ⟨_, _, name, kids⟩, n => weighEs kids (weighT name n)
def weighEs : List Ex → Int → Int
  | [], n => n
  | x :: l, n => if n ≤ 20000 then weighEs l (weighE x n) else n
end

theorem weighT_in {t : Str} {n : Int} (h0 : 0 ≤ n) : weighT t n ≤ 20001 ∧ (n ≤ 20000 → n + 1 ≤ weighT t n) ∧ 0 ≤ weighT t n ∧ (weighT t n ≤ 20000 → n + 1 + t.length = weighT t n) := by
  unfold weighT; split
  · omega
  · split <;> omega

theorem weigh_in : ∀ (m : Nat) (x : Ex), x.size ≤ m → ∀ n : Int, 0 ≤ n → weighE x n ≤ 20001 ∧ (n ≤ 20000 → n + 1 ≤ weighE x n) ∧ 0 ≤ weighE x n ∧ (weighE x n ≤ 20000 → (x.size : Int) + 1 ≤ 2 * (weighE x n - n) ∧ x.texts) := by
  intro m
  induction m with
  | zero => rintro ⟨op, v, name, kids⟩ h; simp only [Ex.size] at h; omega
  | succ m ih =>
    rintro ⟨op, v, name, kids⟩ h n h0
    simp only [Ex.size] at h
    obtain ⟨t1, t2, t3, t4⟩ := weighT_in (t := name) h0
    have go : ∀ (l : List Ex), Ex.sizes l ≤ m → ∀ c : Int, 0 ≤ c → c ≤ 20001 → weighEs l c ≤ 20001 ∧ c ≤ weighEs l c ∧ (weighEs l c ≤ 20000 → (Ex.sizes l : Int) ≤ 2 * (weighEs l c - c) ∧ Ex.textss l) := by
      intro l
      induction l with
      | nil => intro _ c h0 h1; simp only [weighEs, Ex.sizes]; exact ⟨h1, Int.le_refl _, fun _ => ⟨by omega, trivial⟩⟩
      | cons y l ihl =>
        intro hs c h0 h1
        simp only [Ex.sizes] at hs ⊢
        simp only [weighEs]
        split
        · rename_i hc
          obtain ⟨a1, a2, a3, a4⟩ := ih y (by omega) c h0
          obtain ⟨b1, b2, b3⟩ := ihl (by omega) (weighE y c) a3 a1
          have := a2 hc
          refine ⟨b1, by omega, fun hw => ?_⟩
          obtain ⟨c1, c2⟩ := b3 hw
          obtain ⟨d1, d2⟩ := a4 (by omega)
          exact ⟨by omega, d2, c2⟩
        · exact ⟨h1, Int.le_refl _, fun hw => by omega⟩
    obtain ⟨g1, g2, g3⟩ := go kids (by omega) (weighT name n) t3 t1
    simp only [weighE, Ex.size]
    refine ⟨g1, fun hn => by have := t2 hn; omega, by omega, fun hw => ?_⟩
    obtain ⟨k1, k2⟩ := g3 hw
    have := t4 (by omega)
    exact ⟨by omega, by omega, k2⟩

theorem weighT_s (t : Str) {n : Int} (h0 : 0 ≤ n) (h1 : n ≤ 20001) (s : St) : Fun Tryd.prog n_ref3_weighText [.str t, .int .i64 n] s (.int .i64 (weighT t n)) s := by
  refine Fun.pure ?_ rfl rfl s
  unfold S0
  have w1 : IntKind.wrap .i64 (20000 - n) = 20000 - n := wrap_ok (by omega) (by omega)
  have w2 : IntKind.wrap .i64 (n + 1) = n + 1 := wrap_ok (by omega) (by omega)
  by_cases c : n > 20000
  · have c1 : decide (n > 20000) = true := by simp; omega
    have e : weighT t n = 20001 := by simp [weighT, c]
    rw [e]
    refine Fun.go has_ref3_weighText rfl fun B Q hB hQ => ?_
    have hlt : 0 < 1 := Nat.zero_lt_one
    have hget : 0 < 1 := Nat.zero_lt_one
    have hpu : 0 < 1 := Nat.zero_lt_one
    have hinc : 0 < 1 := Nat.zero_lt_one
    repeat' (first
 | simp only [go_sem, hlt, hget, hpu, hinc, Int.reduceLE, ↓reduceIte, reduceCtorEq, Nat.reduceEqDiff, Nat.reduceLeDiff, Nat.reduceAdd, Nat.reduceMul, Nat.reduceSub, Nat.reduceLT, c1, w1, w2]
 | (with_reducible first | refine CB_ofT (by assumption) fun hc => ?_ | refine CB_ofF (by assumption) fun hc => ?_ | refine CB_split (fun hc => ?_) fun hc => ?_) <;> (try simp only [hc, bs, ↓reduceIte] at h) <;> (try simp only [hc])
 | ((with_reducible first | refine leafR hQ ?_ | refine leafN hQ ?_); (try cases h); simp only [resL, oneD, Option.some.injEq, exists_eq_left', go_sem, hlt, hget, hpu, hinc, Int.reduceLE, ↓reduceIte, reduceCtorEq, Nat.reduceEqDiff, Nat.reduceLeDiff, Nat.reduceAdd, Nat.reduceMul, Nat.reduceSub, Nat.reduceLT, c1, w1, w2]; repeat' (first | exact Ok.out | with_reducible refine And.intro ?_ ?_ | (simp; done)))
 | (cases h; replace h := hr; clear hr; (try simp only [bs, ↓reduceIte] at h))
 | (cases h; done))
  · have c1 : decide (n > 20000) = false := by simp; omega
    by_cases d : (t.length : Int) ≥ 20000 - n
    · have d1 : decide ((t.length : Int) ≥ 20000 - n) = true := by simp; omega
      have e : weighT t n = 20001 := by unfold weighT; rw [if_neg c, if_pos d]
      rw [e]
      refine Fun.go has_ref3_weighText rfl fun B Q hB hQ => ?_
      have hlt : 0 < 1 := Nat.zero_lt_one
      have hget : 0 < 1 := Nat.zero_lt_one
      have hpu : 0 < 1 := Nat.zero_lt_one
      have hinc : 0 < 1 := Nat.zero_lt_one
      repeat' (first
 | simp only [go_sem, hlt, hget, hpu, hinc, Int.reduceLE, ↓reduceIte, reduceCtorEq, Nat.reduceEqDiff, Nat.reduceLeDiff, Nat.reduceAdd, Nat.reduceMul, Nat.reduceSub, Nat.reduceLT, c1, d1, w1, w2]
 | (with_reducible first | refine CB_ofT (by assumption) fun hc => ?_ | refine CB_ofF (by assumption) fun hc => ?_ | refine CB_split (fun hc => ?_) fun hc => ?_) <;> (try simp only [hc, bs, ↓reduceIte] at h) <;> (try simp only [hc])
 | ((with_reducible first | refine leafR hQ ?_ | refine leafN hQ ?_); (try cases h); simp only [resL, oneD, Option.some.injEq, exists_eq_left', go_sem, hlt, hget, hpu, hinc, Int.reduceLE, ↓reduceIte, reduceCtorEq, Nat.reduceEqDiff, Nat.reduceLeDiff, Nat.reduceAdd, Nat.reduceMul, Nat.reduceSub, Nat.reduceLT, c1, d1, w1, w2]; repeat' (first | exact Ok.out | with_reducible refine And.intro ?_ ?_ | (simp; done)))
 | (cases h; replace h := hr; clear hr; (try simp only [bs, ↓reduceIte] at h))
 | (cases h; done))
    · have d1 : decide ((t.length : Int) ≥ 20000 - n) = false := by simp; omega
      have e : weighT t n = n + 1 + t.length := by unfold weighT; rw [if_neg c, if_neg d]
      have w3 : IntKind.wrap .i64 (n + 1 + t.length) = n + 1 + t.length := wrap_ok (by omega) (by omega)
      rw [e]
      refine Fun.go has_ref3_weighText rfl fun B Q hB hQ => ?_
      have hlt : 0 < 1 := Nat.zero_lt_one
      have hget : 0 < 1 := Nat.zero_lt_one
      have hpu : 0 < 1 := Nat.zero_lt_one
      have hinc : 0 < 1 := Nat.zero_lt_one
      repeat' (first
 | simp only [go_sem, hlt, hget, hpu, hinc, Int.reduceLE, ↓reduceIte, reduceCtorEq, Nat.reduceEqDiff, Nat.reduceLeDiff, Nat.reduceAdd, Nat.reduceMul, Nat.reduceSub, Nat.reduceLT, c1, d1, w1, w2, w3]
 | (with_reducible first | refine CB_ofT (by assumption) fun hc => ?_ | refine CB_ofF (by assumption) fun hc => ?_ | refine CB_split (fun hc => ?_) fun hc => ?_) <;> (try simp only [hc, bs, ↓reduceIte] at h) <;> (try simp only [hc])
 | ((with_reducible first | refine leafR hQ ?_ | refine leafN hQ ?_); (try cases h); simp only [resL, oneD, Option.some.injEq, exists_eq_left', go_sem, hlt, hget, hpu, hinc, Int.reduceLE, ↓reduceIte, reduceCtorEq, Nat.reduceEqDiff, Nat.reduceLeDiff, Nat.reduceAdd, Nat.reduceMul, Nat.reduceSub, Nat.reduceLT, c1, d1, w1, w2, w3]; repeat' (first | exact Ok.out | with_reducible refine And.intro ?_ ?_ | (simp; done)))
 | (cases h; replace h := hr; clear hr; (try simp only [bs, ↓reduceIte] at h))
 | (cases h; done))

theorem weighE_s : ∀ (m : Nat) (x : Ex), x.size ≤ m → ∀ {n : Int}, 0 ≤ n → n ≤ 20000 → ∀ s : St, Fun Tryd.prog n_ref3_weighExpr [.agg (encEx x), .int .i64 n] s (.int .i64 (weighE x n)) s := by
  intro m
  induction m with
  | zero => rintro ⟨op, v, name, kids⟩ h; simp only [Ex.size] at h; omega
  | succ m ih =>
    rintro ⟨op, v, name, kids⟩ hsz n h0 h1 s
    refine Fun.pure ?_ (by simp [D.oks, D.ok, okEx]) rfl s
    simp only [Ex.size] at hsz
    have hk : ∀ y ∈ kids, ∀ {n : Int}, 0 ≤ n → n ≤ 20000 → ∀ s : St, Fun Tryd.prog n_ref3_weighExpr [.agg (encEx y), .int .i64 n] s (.int .i64 (weighE y n)) s := fun y hy => ih y (by have := Ex.sizes_mem hy; omega)
    have ht := fun s => weighT_s name h0 (by omega) s
    obtain ⟨t1, t2, t3, t4⟩ := weighT_in (t := name) h0
    unfold S0
    generalize h : weighE ⟨op, v, name, kids⟩ n = p
    simp only [weighE] at h
    refine Fun.go has_ref3_weighExpr rfl fun B Q hB hQ => ?_
    have hlt : 0 < 1 := Nat.zero_lt_one
    have hget : 0 < 1 := Nat.zero_lt_one
    have hpu : 0 < 1 := Nat.zero_lt_one
    have hinc : 0 < 1 := Nat.zero_lt_one
    repeat' (first
 | simp only [go_sem, hlt, hget, hpu, hinc, Int.reduceLE, ↓reduceIte, reduceCtorEq, Nat.reduceEqDiff, Nat.reduceLeDiff, Nat.reduceAdd, Nat.reduceMul, Nat.reduceSub, Nat.reduceLT]
 | (with_reducible refine CU (ht _) ?_)
 | (with_reducible first | refine CB_ofT (by assumption) fun hc => ?_ | refine CB_ofF (by assumption) fun hc => ?_ | refine CB_split (fun hc => ?_) fun hc => ?_) <;> (try simp only [hc, bs, ↓reduceIte] at h) <;> (try simp only [hc])
 | ((with_reducible first | refine leafR hQ ?_ | refine leafN hQ ?_); (try cases h); simp only [resL, oneD, Option.some.injEq, exists_eq_left', go_sem, hlt, hget, hpu, hinc, Int.reduceLE, ↓reduceIte, reduceCtorEq, Nat.reduceEqDiff, Nat.reduceLeDiff, Nat.reduceAdd, Nat.reduceMul, Nat.reduceSub, Nat.reduceLT]; repeat' (first | exact Ok.out | with_reducible refine And.intro ?_ ?_ | (simp; done)))
 | (cases h; replace h := hr; clear hr; (try simp only [bs, ↓reduceIte] at h))
 | (cases h; done))
    refine SemL.re _ _ 1 0 (by rw [hB]; exact Nat.le_of_ble_eq_true rfl) (by rw [hB]; exact Nat.le_of_ble_eq_true rfl) ?_ ?_ (SemL.ind (ι := List Ex × Nat × Int) (fun i => kids.drop i.2.1 = i.1 ∧ weighEs i.1 i.2.2 = p ∧ (i.2.1 : Int) ≤ i.2.2 ∧ i.2.2 ≤ 20001) (fun i => i.1.length)
      (fun i => [(1, .int .i64 i.2.2), (2, .ptr 0 0), (5, .int .i64 (i.2.1 : Int))]) (fun i => ⟨[encEx ⟨op, v, name, kids⟩], []⟩) ?_ (kids, 0, weighT name n) ⟨rfl, h, t3, t1⟩)
    · (simp only [go_sem, hlt, hget, hpu, hinc, Int.reduceLE, ↓reduceIte, reduceCtorEq, Nat.reduceEqDiff, Nat.reduceLeDiff, Nat.reduceAdd, Nat.reduceMul, Nat.reduceSub, Nat.reduceLT]; repeat' (first | exact Ok.out | with_reducible refine And.intro ?_ ?_))
    · (simp only [go_sem, hlt, hget, hpu, hinc, Int.reduceLE, ↓reduceIte, reduceCtorEq, Nat.reduceEqDiff, Nat.reduceLeDiff, Nat.reduceAdd, Nat.reduceMul, Nat.reduceSub, Nat.reduceLT]; repeat' (first | exact Ok.out | with_reducible refine And.intro ?_ ?_))
    rintro ⟨rest, k, c⟩ ⟨g1, h, g3, g4⟩ IH
    dsimp only at g1 h g3 g4
    cases rest with
    | nil =>
      have hlt := drop_nil g1
      simp only [weighEs] at h
      repeat' (first
 | simp only [go_sem, hlt, hget, hpu, hinc, Int.reduceLE, ↓reduceIte, reduceCtorEq, Nat.reduceEqDiff, Nat.reduceLeDiff, Nat.reduceAdd, Nat.reduceMul, Nat.reduceSub, Nat.reduceLT]
 | (with_reducible first | refine CB_ofT (by assumption) fun hc => ?_ | refine CB_ofF (by assumption) fun hc => ?_ | refine CB_split (fun hc => ?_) fun hc => ?_) <;> (try simp only [hc, bs, ↓reduceIte] at h) <;> (try simp only [hc])
 | ((with_reducible first | refine leafR hQ ?_ | refine leafN hQ ?_); (try cases h); simp only [resL, oneD, Option.some.injEq, exists_eq_left', go_sem, hlt, hget, hpu, hinc, Int.reduceLE, ↓reduceIte, reduceCtorEq, Nat.reduceEqDiff, Nat.reduceLeDiff, Nat.reduceAdd, Nat.reduceMul, Nat.reduceSub, Nat.reduceLT]; repeat' (first | exact Ok.out | with_reducible refine And.intro ?_ ?_ | (simp; done)))
 | (cases h; replace h := hr; clear hr; (try simp only [bs, ↓reduceIte] at h))
 | (cases h; done))
    | cons y rest =>
      obtain ⟨hget, g2, hlt, g5⟩ := drop_cons g1
      simp only [weighEs] at h
      by_cases hc : c ≤ 20000
      · have c1 : decide (c ≤ 20000) = true := by simp; omega
        have hy := fun s => hk y (List.mem_of_getElem? hget) (n := c) (by omega) hc s
        obtain ⟨a1, a2, a3, a4⟩ := weigh_in _ y (Nat.le_refl _) c (by omega)
        have := a2 hc
        have w3 : IntKind.wrap .i64 ((k : Int) + 1) = ((k + 1 : Nat) : Int) := by rw [wrap_ok] <;> omega
        rw [if_pos hc] at h
        repeat' (first
 | simp only [go_sem, hlt, hget, hpu, hinc, Int.reduceLE, ↓reduceIte, reduceCtorEq, Nat.reduceEqDiff, Nat.reduceLeDiff, Nat.reduceAdd, Nat.reduceMul, Nat.reduceSub, Nat.reduceLT, c1, w3]
 | (with_reducible refine CU (hy _) ?_)
 | (with_reducible first | refine CB_ofT (by assumption) fun hc => ?_ | refine CB_ofF (by assumption) fun hc => ?_ | refine CB_split (fun hc => ?_) fun hc => ?_) <;> (try simp only [hc, bs, ↓reduceIte] at h) <;> (try simp only [hc])
 | ((with_reducible first | refine leafR hQ ?_ | refine leafN hQ ?_); (try cases h); simp only [resL, oneD, Option.some.injEq, exists_eq_left', go_sem, hlt, hget, hpu, hinc, Int.reduceLE, ↓reduceIte, reduceCtorEq, Nat.reduceEqDiff, Nat.reduceLeDiff, Nat.reduceAdd, Nat.reduceMul, Nat.reduceSub, Nat.reduceLT, c1, w3]; repeat' (first | exact Ok.out | with_reducible refine And.intro ?_ ?_ | (simp; done)))
 | (cases h; replace h := hr; clear hr; (try simp only [bs, ↓reduceIte] at h))
 | (cases h; done))
        refine SemL.re _ _ 1 0 (by rw [hB]; exact Nat.le_of_ble_eq_true rfl) (by rw [hB]; exact Nat.le_of_ble_eq_true rfl) ?_ ?_ (IH (rest, k + 1, weighE y c) ⟨g2, h, by dsimp only; omega, a1⟩ (Nat.lt_succ_self _))
        · (simp only [go_sem, hlt, hget, hpu, hinc, Int.reduceLE, ↓reduceIte, reduceCtorEq, Nat.reduceEqDiff, Nat.reduceLeDiff, Nat.reduceAdd, Nat.reduceMul, Nat.reduceSub, Nat.reduceLT]; repeat' (first | exact Ok.out | with_reducible refine And.intro ?_ ?_))
        · (simp only [go_sem, hlt, hget, hpu, hinc, Int.reduceLE, ↓reduceIte, reduceCtorEq, Nat.reduceEqDiff, Nat.reduceLeDiff, Nat.reduceAdd, Nat.reduceMul, Nat.reduceSub, Nat.reduceLT]; repeat' (first | exact Ok.out | with_reducible refine And.intro ?_ ?_))
      · have c1 : decide (c ≤ 20000) = false := by simp; omega
        rw [if_neg hc] at h
        repeat' (first
 | simp only [go_sem, hlt, hget, hpu, hinc, Int.reduceLE, ↓reduceIte, reduceCtorEq, Nat.reduceEqDiff, Nat.reduceLeDiff, Nat.reduceAdd, Nat.reduceMul, Nat.reduceSub, Nat.reduceLT, c1]
 | (with_reducible first | refine CB_ofT (by assumption) fun hc => ?_ | refine CB_ofF (by assumption) fun hc => ?_ | refine CB_split (fun hc => ?_) fun hc => ?_) <;> (try simp only [hc, bs, ↓reduceIte] at h) <;> (try simp only [hc])
 | ((with_reducible first | refine leafR hQ ?_ | refine leafN hQ ?_); (try cases h); simp only [resL, oneD, Option.some.injEq, exists_eq_left', go_sem, hlt, hget, hpu, hinc, Int.reduceLE, ↓reduceIte, reduceCtorEq, Nat.reduceEqDiff, Nat.reduceLeDiff, Nat.reduceAdd, Nat.reduceMul, Nat.reduceSub, Nat.reduceLT, c1]; repeat' (first | exact Ok.out | with_reducible refine And.intro ?_ ?_ | (simp; done)))
 | (cases h; replace h := hr; clear hr; (try simp only [bs, ↓reduceIte] at h))
 | (cases h; done))

end Go.Abs

/-! Full2 -/

namespace Go.Abs

set_option maxRecDepth 8000
set_option linter.unusedSimpArgs false
set_option linter.unusedVariables false
open Go.Proofs

mutual
def Ex.nodes : Ex → Nat
  | ⟨_, _, _, kids⟩ => 1 + Ex.nodess kids
def Ex.nodess : List Ex → Nat
  | [] => 0
  | x :: l => x.nodes + Ex.nodess l
end
mutual
def sizeM : Ex → Int → Int
  | ⟨_, _, _, kids⟩, most => sizeL kids most 1
def sizeL : List Ex → Int → Int → Int
  | [], _, n => n
  | x :: l, most, n => if n ≤ most then sizeL l most (n + sizeM x (most - n)) else n
end

end Go.Abs

/-! MirEq -/

namespace Go.Abs

def eqTs : List Str → List Str → Bool
  | [], _ => true
  | _ :: _, [] => true
  | x :: l, y :: l' => if !(x == y) then false else eqTs l l'
def eqT (l l' : List Str) : Bool := if (l.length : Int) != (l'.length : Int) then false else eqTs l l'

def Ar.beqs : List Ar → List Ar → Bool
  | [], _ => true
  | _ :: _, [] => true
  | a :: l, b :: l' => if !(a.ref == b.ref) || !(a.name == b.name) || !(Ex.beq a.x b.x) then false else Ar.beqs l l'

mutual
def Sm.beq : Sm → Sm → Bool
  | ⟨id, kind, labels, name, proc, x, has, args, thn, els⟩, ⟨id', kind', labels', name', proc', x', has', args', thn', els'⟩ =>
    if id != id' || kind != kind' || !(name == name') || !(proc == proc') || !(has == has') || !(eqT labels labels') || !(Ex.beq x x') || (args.length : Int) != (args'.length : Int) then false
    else if !(Ar.beqs args args') then false
    else if (if (thn.length : Int) != (thn'.length : Int) then false else Sm.beqs thn thn') then (if (els.length : Int) != (els'.length : Int) then false else Sm.beqs els els') else false
def Sm.beqs : List Sm → List Sm → Bool
  | [], _ => true
  | _ :: _, [] => true
  | s :: l, t :: l' => if !(Sm.beq s t) then false else Sm.beqs l l'
end
def Sm.beqL (l l' : List Sm) : Bool := if (l.length : Int) != (l'.length : Int) then false else Sm.beqs l l'

def Pm.beqs : List Pm → List Pm → Bool
  | [], _ => true
  | _ :: _, [] => true
  | a :: l, b :: l' => if !((a.name == b.name) && (a.ref == b.ref)) then false else Pm.beqs l l'

def Pc.beqs : List Pc → List Pc → Bool
  | [], _ => true
  | _ :: _, [] => true
  | f :: l, g :: l' =>
    if !(f.name == g.name) || (f.params.length : Int) != (g.params.length : Int) || !(eqT f.vars g.vars) || !(eqT f.fin g.fin) || !(Sm.beqL f.body g.body) then false
    else if !(Pm.beqs f.params g.params) then false else Pc.beqs l l'

def Pg.beq (p q : Pg) : Bool := if !(eqT p.globals q.globals) || (p.procs.length : Int) != (q.procs.length : Int) then false else Pc.beqs p.procs q.procs

/-! ### What is the same is the same -/

end Go.Abs

/-! RefEq -/

namespace Go.Abs

set_option maxRecDepth 8000
set_option linter.unusedSimpArgs false
set_option linter.unusedVariables false
open Go.Proofs

abbrev C_eqOne (N : Nat) : Prop := ∀ s t : Sm, s.size < N → ∀ st : St, Fun Tryd.prog n_ref3_eqOne [.agg (encSm s), .agg (encSm t)] st (.bool (Sm.beq s t)) st
abbrev C_eqL (N : Nat) : Prop := ∀ l l' : List Sm, Sm.sizes l < N → ∀ st : St, Fun Tryd.prog n_ref3_EqStmts [.slice .shared 13 (l.map encSm), .slice .shared 13 (l'.map encSm)] st (.bool (Sm.beqL l l')) st

end Go.Abs

/-! RefEq2 -/

namespace Go.Abs

set_option maxRecDepth 8000
set_option linter.unusedSimpArgs false
set_option linter.unusedVariables false
open Go.Proofs

/-! ### The sample -/

def exNum (n : Int) : Ex := ⟨1, n, [], []⟩
def exName (s : Str) : Ex := ⟨2, 0, s, []⟩
def exTwo (op : Int) (a b : Ex) : Ex := ⟨op, 0, [], [a, b]⟩

theorem num_s (n : Int) (s : St) : Fun Tryd.prog n_ref3_num [.int .i64 n] s (.agg (encEx (exNum n))) s := by
  refine Fun.pure ?_ rfl (by simp [D.ok, okEx]) s
  unfold S0
  refine Fun.go has_ref3_num rfl fun B Q hB hQ => ?_
  have hlt : 0 < 1 := Nat.zero_lt_one
  have hget : 0 < 1 := Nat.zero_lt_one
  have hpu : 0 < 1 := Nat.zero_lt_one
  have hinc : 0 < 1 := Nat.zero_lt_one
  repeat' (first
 | simp only [go_sem, hlt, hget, hpu, hinc, Int.reduceLE, ↓reduceIte, reduceCtorEq, Nat.reduceEqDiff, Nat.reduceLeDiff, Nat.reduceAdd, Nat.reduceMul, Nat.reduceSub, Nat.reduceLT, exNum]
 | (with_reducible first | refine CB_ofT (by assumption) fun hc => ?_ | refine CB_ofF (by assumption) fun hc => ?_ | refine CB_split (fun hc => ?_) fun hc => ?_) <;> (try simp only [hc, bs, ↓reduceIte] at h) <;> (try simp only [hc])
 | ((with_reducible first | refine leafR hQ ?_ | refine leafN hQ ?_); (try cases h); simp only [resL, oneD, Option.some.injEq, exists_eq_left', go_sem, hlt, hget, hpu, hinc, Int.reduceLE, ↓reduceIte, reduceCtorEq, Nat.reduceEqDiff, Nat.reduceLeDiff, Nat.reduceAdd, Nat.reduceMul, Nat.reduceSub, Nat.reduceLT, exNum]; repeat' (first | exact Ok.out | with_reducible refine And.intro ?_ ?_ | (simp; done)))
 | (cases h; replace h := hr; clear hr; (try simp only [bs, ↓reduceIte] at h))
 | (cases h; done))
theorem name_ref_s (t : Str) (s : St) : Fun Tryd.prog n_ref3_name [.str t] s (.agg (encEx (exName t))) s := by
  refine Fun.pure ?_ rfl (by simp [D.ok, okEx]) s
  unfold S0
  refine Fun.go has_ref3_name rfl fun B Q hB hQ => ?_
  have hlt : 0 < 1 := Nat.zero_lt_one
  have hget : 0 < 1 := Nat.zero_lt_one
  have hpu : 0 < 1 := Nat.zero_lt_one
  have hinc : 0 < 1 := Nat.zero_lt_one
  repeat' (first
 | simp only [go_sem, hlt, hget, hpu, hinc, Int.reduceLE, ↓reduceIte, reduceCtorEq, Nat.reduceEqDiff, Nat.reduceLeDiff, Nat.reduceAdd, Nat.reduceMul, Nat.reduceSub, Nat.reduceLT, exName]
 | (with_reducible first | refine CB_ofT (by assumption) fun hc => ?_ | refine CB_ofF (by assumption) fun hc => ?_ | refine CB_split (fun hc => ?_) fun hc => ?_) <;> (try simp only [hc, bs, ↓reduceIte] at h) <;> (try simp only [hc])
 | ((with_reducible first | refine leafR hQ ?_ | refine leafN hQ ?_); (try cases h); simp only [resL, oneD, Option.some.injEq, exists_eq_left', go_sem, hlt, hget, hpu, hinc, Int.reduceLE, ↓reduceIte, reduceCtorEq, Nat.reduceEqDiff, Nat.reduceLeDiff, Nat.reduceAdd, Nat.reduceMul, Nat.reduceSub, Nat.reduceLT, exName]; repeat' (first | exact Ok.out | with_reducible refine And.intro ?_ ?_ | (simp; done)))
 | (cases h; replace h := hr; clear hr; (try simp only [bs, ↓reduceIte] at h))
 | (cases h; done))
theorem two_ref_s (op : Int) (a b : Ex) (s : St) : Fun Tryd.prog n_ref3_two [.int .i64 op, .agg (encEx a), .agg (encEx b)] s (.agg (encEx (exTwo op a b))) s := by
  refine Fun.pure ?_ (by simp [D.oks, D.ok, okEx]) (by simp [D.ok, okEx]) s
  unfold S0
  refine Fun.go has_ref3_two rfl fun B Q hB hQ => ?_
  have hlt : 0 < 1 := Nat.zero_lt_one
  have hget : 0 < 1 := Nat.zero_lt_one
  have hpu : 0 < 1 := Nat.zero_lt_one
  have hinc : 0 < 1 := Nat.zero_lt_one
  repeat' (first
 | simp only [go_sem, hlt, hget, hpu, hinc, Int.reduceLE, ↓reduceIte, reduceCtorEq, Nat.reduceEqDiff, Nat.reduceLeDiff, Nat.reduceAdd, Nat.reduceMul, Nat.reduceSub, Nat.reduceLT, exTwo]
 | (with_reducible first | refine CB_ofT (by assumption) fun hc => ?_ | refine CB_ofF (by assumption) fun hc => ?_ | refine CB_split (fun hc => ?_) fun hc => ?_) <;> (try simp only [hc, bs, ↓reduceIte] at h) <;> (try simp only [hc])
 | ((with_reducible first | refine leafR hQ ?_ | refine leafN hQ ?_); (try cases h); simp only [resL, oneD, Option.some.injEq, exists_eq_left', go_sem, hlt, hget, hpu, hinc, Int.reduceLE, ↓reduceIte, reduceCtorEq, Nat.reduceEqDiff, Nat.reduceLeDiff, Nat.reduceAdd, Nat.reduceMul, Nat.reduceSub, Nat.reduceLT, exTwo]; repeat' (first | exact Ok.out | with_reducible refine And.intro ?_ ?_ | (simp; done)))
 | (cases h; replace h := hr; clear hr; (try simp only [bs, ↓reduceIte] at h))
 | (cases h; done))

def source : Str := [103, 108, 111, 98, 97, 108, 32, 103, 59, 10, 112, 114, 111, 99, 32, 109, 97, 105, 110, 40, 41, 32, 123, 10, 32, 118, 97, 114, 32, 118, 59, 10, 32, 118, 32, 61, 32, 50, 59, 10, 32, 103, 32, 61, 32, 112, 40, 51, 44, 32, 114, 101, 102, 32, 118, 41, 59, 10, 32, 112, 114, 105, 110, 116, 32, 118, 59, 10, 32, 112, 114, 105, 110, 116, 32, 103, 59, 10, 125, 10, 112, 114, 111, 99, 32, 112, 40, 120, 44, 32, 114, 101, 102, 32, 121, 41, 32, 123, 10, 32, 121, 32, 61, 32, 121, 32, 43, 32, 120, 59, 10, 32, 105, 102, 32, 40, 121, 32, 62, 32, 57, 41, 32, 123, 10, 32, 32, 103, 111, 116, 111, 32, 101, 59, 10, 32, 125, 10, 32, 114, 101, 116, 117, 114, 110, 32, 121, 59, 10, 101, 58, 32, 125, 10]

theorem Source_s (s : St) : Fun Tryd.prog n_ref3_Source [] s (.str source) s := by
  refine Fun.pure ?_ rfl rfl s
  unfold S0
  refine Fun.go has_ref3_Source rfl fun B Q hB hQ => ?_
  have hlt : 0 < 1 := Nat.zero_lt_one
  have hget : 0 < 1 := Nat.zero_lt_one
  have hpu : 0 < 1 := Nat.zero_lt_one
  have hinc : 0 < 1 := Nat.zero_lt_one
  repeat' (first
 | simp only [go_sem, hlt, hget, hpu, hinc, Int.reduceLE, ↓reduceIte, reduceCtorEq, Nat.reduceEqDiff, Nat.reduceLeDiff, Nat.reduceAdd, Nat.reduceMul, Nat.reduceSub, Nat.reduceLT, source]
 | (with_reducible first | refine CB_ofT (by assumption) fun hc => ?_ | refine CB_ofF (by assumption) fun hc => ?_ | refine CB_split (fun hc => ?_) fun hc => ?_) <;> (try simp only [hc, bs, ↓reduceIte] at h) <;> (try simp only [hc])
 | ((with_reducible first | refine leafR hQ ?_ | refine leafN hQ ?_); (try cases h); simp only [resL, oneD, Option.some.injEq, exists_eq_left', go_sem, hlt, hget, hpu, hinc, Int.reduceLE, ↓reduceIte, reduceCtorEq, Nat.reduceEqDiff, Nat.reduceLeDiff, Nat.reduceAdd, Nat.reduceMul, Nat.reduceSub, Nat.reduceLT, source]; repeat' (first | exact Ok.out | with_reducible refine And.intro ?_ ?_ | (simp; done)))
 | (cases h; replace h := hr; clear hr; (try simp only [bs, ↓reduceIte] at h))
 | (cases h; done))

def some0 : Pg := ⟨[[103]], [
  ⟨[109, 97, 105, 110], [], [[118]], [
    ⟨1, 1, [], [118], [], exNum 2, false, [], [], []⟩,
    ⟨2, 4, [], [103], [112], ex0, false, [⟨false, [], exNum 3⟩, ⟨true, [118], ex0⟩], [], []⟩,
    ⟨3, 3, [], [], [], exName [118], false, [], [], []⟩,
    ⟨4, 3, [], [], [], exName [103], false, [], [], []⟩], []⟩,
  ⟨[112], [⟨[120], false⟩, ⟨[121], true⟩], [], [
    ⟨5, 1, [], [121], [], exTwo 8 (exName [121]) (exName [120]), false, [], [], []⟩,
    ⟨6, 5, [], [], [], exTwo 12 (exName [121]) (exNum 9), false, [], [⟨7, 10, [], [101], [], ex0, false, [], [], []⟩], []⟩,
    ⟨8, 9, [], [], [], exName [121], true, [], [], []⟩], [[101]]⟩]⟩

theorem Some_s (s : St) : Fun Tryd.prog n_ref3_Some [] s (.agg (encPg some0)) s := by
  refine Fun.pure ?_ rfl (by simp [D.ok, okPg]) s
  unfold S0
  refine Fun.go has_ref3_Some rfl fun B Q hB hQ => ?_
  have hlt : 0 < 1 := Nat.zero_lt_one
  have hget : 0 < 1 := Nat.zero_lt_one
  have hpu : 0 < 1 := Nat.zero_lt_one
  have hinc : 0 < 1 := Nat.zero_lt_one
  repeat' (first
 | simp only [go_sem, hlt, hget, hpu, hinc, Int.reduceLE, ↓reduceIte, reduceCtorEq, Nat.reduceEqDiff, Nat.reduceLeDiff, Nat.reduceAdd, Nat.reduceMul, Nat.reduceSub, Nat.reduceLT, some0]
 | (with_reducible refine CU (num_s _ _) ?_)
 | (with_reducible refine CU (name_ref_s _ _) ?_)
 | (with_reducible refine CU (two_ref_s _ _ _ _) ?_)
 | (with_reducible first | refine CB_ofT (by assumption) fun hc => ?_ | refine CB_ofF (by assumption) fun hc => ?_ | refine CB_split (fun hc => ?_) fun hc => ?_) <;> (try simp only [hc, bs, ↓reduceIte] at h) <;> (try simp only [hc])
 | ((with_reducible first | refine leafR hQ ?_ | refine leafN hQ ?_); (try cases h); simp only [resL, oneD, Option.some.injEq, exists_eq_left', go_sem, hlt, hget, hpu, hinc, Int.reduceLE, ↓reduceIte, reduceCtorEq, Nat.reduceEqDiff, Nat.reduceLeDiff, Nat.reduceAdd, Nat.reduceMul, Nat.reduceSub, Nat.reduceLT, some0]; repeat' (first | exact Ok.out | with_reducible refine And.intro ?_ ?_ | (simp; done)))
 | (cases h; replace h := hr; clear hr; (try simp only [bs, ↓reduceIte] at h))
 | (cases h; done))
  repeat' (first | exact Ok.out | with_reducible refine Wk.agg ?_ | with_reducible refine Wk.rows ?_ | with_reducible refine Wk.slice ?_ | with_reducible refine WkR.cons ?_ ?_ | with_reducible refine WkL.cons ?_ ?_)

end Go.Abs

/-! Prs3 -/

namespace Go.Abs

set_option maxRecDepth 8000
set_option linter.unusedSimpArgs false
set_option linter.unusedVariables false
open Go.Proofs

end Go.Abs

/-! Prs4 -/

namespace Go.Abs

set_option maxRecDepth 8000
set_option linter.unusedSimpArgs false
set_option linter.unusedVariables false
open Go.Proofs

end Go.Abs

/-! Prs5 -/

namespace Go.Abs

set_option maxRecDepth 8000
set_option linter.unusedSimpArgs false
set_option linter.unusedVariables false
open Go.Proofs

abbrev C_rows (m n : Nat) : Prop := ∀ {nest : Int} {body : Bool} {r : Rd} {p : (List Sm × List Str) × Rd}, Rd.rows m n nest body r = some p → ∀ {s : St} {o : Nat}, s.objs[o]? = some (encRd r) →
  Fun Tryd.prog n_parse_reader_rows [.ptr o 0, .int .i64 nest, .bool body] s (.tuple [.slice .shared 13 (p.1.1.map encSm), .slice .shared 1 (p.1.2.map encStr)]) ⟨s.objs.set o (encRd p.2), s.toks⟩
abbrev C_stmt (m n : Nat) : Prop := ∀ {nest : Int} {r : Rd} {p : Sm × Rd}, Rd.stmt m n nest r = some p → ∀ {s : St} {o : Nat}, s.objs[o]? = some (encRd r) →
  Fun Tryd.prog n_parse_reader_stmt [.ptr o 0, .int .i64 nest] s (.agg (encSm p.1)) ⟨s.objs.set o (encRd p.2), s.toks⟩
abbrev C_block (m n : Nat) : Prop := ∀ {nest : Int} {r : Rd} {p : List Sm × Rd}, Rd.block m n nest r = some p → ∀ {s : St} {o : Nat}, s.objs[o]? = some (encRd r) →
  Fun Tryd.prog n_parse_reader_block [.ptr o 0, .int .i64 nest] s (.slice .shared 13 (p.1.map encSm)) ⟨s.objs.set o (encRd p.2), s.toks⟩
abbrev C_choice (m n : Nat) : Prop := ∀ {nest : Int} {r : Rd} {p : Sm × Rd}, Rd.choice m n nest r = some p → ∀ {s : St} {o : Nat}, s.objs[o]? = some (encRd r) →
  Fun Tryd.prog n_parse_reader_choice [.ptr o 0, .int .i64 nest] s (.agg (encSm p.1)) ⟨s.objs.set o (encRd p.2), s.toks⟩

end Go.Abs

/-! Prs6 -/

namespace Go.Abs

set_option maxRecDepth 8000
set_option linter.unusedSimpArgs false
set_option linter.unusedVariables false
open Go.Proofs

end Go.Abs

/-! Lex3 -/

namespace Go.Abs

set_option maxRecDepth 8000
set_option linter.unusedSimpArgs false
set_option linter.unusedVariables false
open Go.Proofs

end Go.Abs

/-! Tree1 -/

namespace Go.Abs

set_option maxRecDepth 8000
set_option linter.unusedSimpArgs false
set_option linter.unusedVariables false
open Go.Proofs

end Go.Abs

/-! Tree2 -/

namespace Go.Abs

set_option maxRecDepth 8000
set_option linter.unusedSimpArgs false
set_option linter.unusedVariables false
open Go.Proofs

abbrev C_cop (b : Bool) (N : Nat) : Prop := ∀ l : List Sm, Sm.sizes l < N → ∀ n : Nat, n + Sm.sizes l < 1073741824 → ∀ s : St,
  Fun Tryd.prog n_tree_copied [.slice .shared 13 (l.map encSm), .int .i64 (n : Int), .bool b] s (.tuple [.slice .shared 13 ((Sm.nums b n l).1.map encSm), .int .i64 ((Sm.nums b n l).2 : Int)]) s

end Go.Abs

/-! MirParse -/

namespace Go.Abs

def rd0 (l : List Tok) : Rd := ⟨l, 0, 0, 0, 0⟩

def parseM (m : Nat) (text : Str) : Option (Pg × Int × Int) :=
  if (lexAll text).2.1 != 0 then some (pg0, (lexAll text).2)
  else (Rd.program m (rd0 (lexAll text).1)).bind fun p => if p.2.code != 0 then some (pg0, p.2.code, p.2.fat) else (p.1.numberO).bind fun q => some (q, 0, 0)

def exprM (m : Nat) (text : Str) : Option (Ex × Int × Int) :=
  if (lexAll text).2.1 != 0 then some (ex0, (lexAll text).2)
  else (Rd.whole m (rd0 (lexAll text).1)).bind fun x => x.2.notEnd.bind fun b =>
    if b then (x.2.bad 3).bind fun r => if !r.good then some (ex0, r.code, r.fat) else some (x.1, 0, 0)
    else if !x.2.good then some (ex0, x.2.code, x.2.fat) else some (x.1, 0, 0)

end Go.Abs

/-! Prs7 -/

namespace Go.Abs

set_option maxRecDepth 8000
set_option linter.unusedSimpArgs false
set_option linter.unusedVariables false
open Go.Proofs

end Go.Abs

/-! Room1 -/

namespace Go.Abs
set_option linter.unusedSimpArgs false
set_option linter.unusedVariables false
open Go.Proofs

def modM (n k : Int) : Int := if Int.tmod n k < 0 then Int.tmod n k + k else Int.tmod n k
def manyM (t : Str) : Nat → Str
  | 0 => []
  | n + 1 => manyM t n ++ t
def two (i : Nat) : Str := [UInt8.ofNat (48 + i / 10), UInt8.ofNat (48 + i % 10)]
def rowM (ahead : Str) : Nat → Str
  | 0 => []
  | n + 1 => (if n = 0 then rowM ahead n else rowM ahead n ++ [44]) ++ (ahead ++ [97] ++ two n)
def procsM : Nat → Str
  | 0 => []
  | n + 1 => procsM n ++ ([112, 114, 111, 99, 32, 112] ++ two n ++ [40, 41, 123, 125])

end Go.Abs

/-! Binds1 -/

namespace Go.Abs

set_option maxRecDepth 8000
set_option linter.unusedSimpArgs false
set_option linter.unusedVariables false
open Go.Proofs

def encInt (n : Int) : List D := [.int .i64 n]
theorem okInt (n : Int) : D.oks 0 0 (encInt n) = true := rfl
theorem fgrInt (n m : Nat) (l : List Int) : D.fgr n m (l.map encInt) = l.map encInt := fgr_map okInt n m l
attribute [go_sem] encInt fgrInt
/-- A sign's text. -/
def signR (op : Int) : Str :=
  if op = 5 then [42] else if op = 6 then [47] else if op = 7 then [37] else if op = 8 then [43] else if op = 9 then [45] else if op = 10 then [60] else if op = 11 then [60, 61]
  else if op = 12 then [62] else if op = 13 then [62, 61] else if op = 14 then [61, 61] else if op = 15 then [33, 61] else if op = 16 then [38, 38] else [124, 124]
def bindB (op : Int) : Int := (bindsR (signR op)).1

theorem signs {op : Int} (h : (decide (5 ≤ op) && decide (op ≤ 17)) = true) : op = 5 ∨ op = 6 ∨ op = 7 ∨ op = 8 ∨ op = 9 ∨ op = 10 ∨ op = 11 ∨ op = 12 ∨ op = 13 ∨ op = 14 ∨ op = 15 ∨ op = 16 ∨ op = 17 := by
  simp only [Bool.and_eq_true, decide_eq_true_eq] at h; omega

theorem bindB_pos {op : Int} (h : (decide (5 ≤ op) && decide (op ≤ 17)) = true) : 1 ≤ bindB op ∧ bindB op ≤ 6 ∧ (bindsR (signR op)).2 = op := by
  rcases signs h with rfl | rfl | rfl | rfl | rfl | rfl | rfl | rfl | rfl | rfl | rfl | rfl | rfl <;> exact ⟨by decide, by decide, by decide⟩

/-- So many names. -/
def operandsM : Nat → List Str
  | 0 => []
  | n + 1 => operandsM n ++ [[UInt8.ofNat (97 + n)]]
end Go.Abs

/-! Full3 -/

namespace Go.Abs

set_option maxRecDepth 8000
set_option linter.unusedSimpArgs false
set_option linter.unusedVariables false
open Go.Proofs

def digF : Nat → Nat → Str
  | 0, _ => []
  | f + 1, n => if n < 10 then [UInt8.ofNat (48 + n)] else digF f (n / 10) ++ [UInt8.ofNat (48 + n % 10)]
theorem digF_len : ∀ f n, (digF f n).length ≤ f
  | 0, n => Nat.le_refl _
  | f + 1, n => by simp only [digF]; split; simp; simp only [List.length_append, List.length_cons, List.length_nil]; have := digF_len f (n / 10); omega

end Go.Abs

/-! Rng -/

namespace Go.Abs

mutual
/-- Its numbers are numbers. -/
def Ex.rng : Ex → Prop
  | ⟨_, n, _, kids⟩ => n ≤ 9223372036854775807 ∧ Ex.rngs kids
def Ex.rngs : List Ex → Prop
  | [] => True
  | x :: l => x.rng ∧ Ex.rngs l
end

end Go.Abs

/-! RefMay2 -/

namespace Go.Abs

set_option maxRecDepth 8000
set_option linter.unusedSimpArgs false
set_option linter.unusedVariables false
open Go.Proofs

/-- Its texts are texts. -/
structure Sm.Fine (s : Sm) : Prop where
  lab : ∀ t ∈ s.labels, t.length < 4611686018427387904
  labl : s.labels.length < 4611686018427387904
  name : s.name.length < 4611686018427387904
  proc : s.proc.length < 4611686018427387904
  x : s.x.size < 4611686018427387904
  xt : s.x.texts
  argl : s.args.length < 4611686018427387904
  arg : ∀ a ∈ s.args, a.x.size < 4611686018427387904 ∧ a.x.texts ∧ a.name.length < 4611686018427387904


section
variable {v : Sm} {B : Base} {Q : Exit → Tm → St → Prop} {p : Bool}

theorem one_4 (hf : v.Fine) (hB : B.s = ⟨[], []⟩) (hQ : retF 0 0 [(2, none)] (.bool p) ⟨[], []⟩ = Q)
    (h : (if !(Ar.mays v.args) then false else ((v.thn.length : Int) == 0 || v.kind == 5 || v.kind == 6) && ((v.els.length : Int) == 0 || v.kind == 5)) = p) :
    Sem Tryd.prog B 178 QJ7 Q [(1, .ptr 0 0)] ⟨[encSm v], []⟩ := by
  have hargl := hf.argl
  have harg := fun a ha s => arg_s (hf.arg a ha).1 (hf.arg a ha).2.1 (hf.arg a ha).2.2 s
  have hlt : 0 < 1 := Nat.zero_lt_one
  have hget : 0 < 1 := Nat.zero_lt_one
  have hpu : 0 < 1 := Nat.zero_lt_one
  have hinc : 0 < 1 := Nat.zero_lt_one
  refine wpC_sound ?_
  repeat' (first
 | simp only [go_sem, hlt, hget, hpu, hinc, Int.reduceLE, ↓reduceIte, reduceCtorEq, Nat.reduceEqDiff, Nat.reduceLeDiff, Nat.reduceAdd, Nat.reduceMul, Nat.reduceSub, Nat.reduceLT]
 | (with_reducible first | refine CB_ofT (by assumption) fun hc => ?_ | refine CB_ofF (by assumption) fun hc => ?_ | refine CB_split (fun hc => ?_) fun hc => ?_) <;> (try simp only [hc, bs, ↓reduceIte] at h) <;> (try simp only [hc])
 | ((with_reducible first | refine leafR hQ ?_ | refine leafN hQ ?_); (try cases h); simp only [resL, oneD, Option.some.injEq, exists_eq_left', go_sem, hlt, hget, hpu, hinc, Int.reduceLE, ↓reduceIte, reduceCtorEq, Nat.reduceEqDiff, Nat.reduceLeDiff, Nat.reduceAdd, Nat.reduceMul, Nat.reduceSub, Nat.reduceLT]; repeat' (first | exact Ok.out | with_reducible refine And.intro ?_ ?_ | (simp; done)))
 | (cases h; replace h := hr; clear hr; (try simp only [bs, ↓reduceIte] at h))
 | (cases h; done))
  refine SemL.re _ _ 1 0 (by rw [hB]; exact Nat.le_of_ble_eq_true rfl) (by rw [hB]; exact Nat.le_of_ble_eq_true rfl) ?_ ?_ (SemL.ind (ι := List Ar × Nat) (fun i => v.args.drop i.2 = i.1 ∧ (if !(Ar.mays i.1) then false else ((v.thn.length : Int) == 0 || v.kind == 5 || v.kind == 6) && ((v.els.length : Int) == 0 || v.kind == 5)) = p) (fun i => i.1.length)
    (fun i => [(1, .ptr 0 0), (143, .slice .shared 6 (v.args.map encAr)), (144, .int .i64 (v.args.length : Int)), (145, .int .i64 (i.2 : Int))]) (fun i => ⟨[encSm v], []⟩) ?_ (v.args, 0) ⟨rfl, h⟩)
  · (simp only [go_sem, hlt, hget, hpu, hinc, Int.reduceLE, ↓reduceIte, reduceCtorEq, Nat.reduceEqDiff, Nat.reduceLeDiff, Nat.reduceAdd, Nat.reduceMul, Nat.reduceSub, Nat.reduceLT]; repeat' (first | exact Ok.out | with_reducible refine And.intro ?_ ?_))
  · (simp only [go_sem, hlt, hget, hpu, hinc, Int.reduceLE, ↓reduceIte, reduceCtorEq, Nat.reduceEqDiff, Nat.reduceLeDiff, Nat.reduceAdd, Nat.reduceMul, Nat.reduceSub, Nat.reduceLT]; repeat' (first | exact Ok.out | with_reducible refine And.intro ?_ ?_))
  rintro ⟨rest, k⟩ ⟨h1, h⟩ IH
  dsimp only at h1 h
  cases rest with
  | nil =>
    have hlt := drop_nil h1
    simp only [Ar.mays, Bool.not_true, Bool.false_eq_true, ↓reduceIte] at h
    repeat' (first
 | simp only [go_sem, hlt, hget, hpu, hinc, Int.reduceLE, ↓reduceIte, reduceCtorEq, Nat.reduceEqDiff, Nat.reduceLeDiff, Nat.reduceAdd, Nat.reduceMul, Nat.reduceSub, Nat.reduceLT]
 | (with_reducible first | refine CB_ofT (by assumption) fun hc => ?_ | refine CB_ofF (by assumption) fun hc => ?_ | refine CB_split (fun hc => ?_) fun hc => ?_) <;> (try simp only [hc, bs, ↓reduceIte] at h) <;> (try simp only [hc])
 | ((with_reducible first | refine leafR hQ ?_ | refine leafN hQ ?_); (try cases h); simp only [resL, oneD, Option.some.injEq, exists_eq_left', go_sem, hlt, hget, hpu, hinc, Int.reduceLE, ↓reduceIte, reduceCtorEq, Nat.reduceEqDiff, Nat.reduceLeDiff, Nat.reduceAdd, Nat.reduceMul, Nat.reduceSub, Nat.reduceLT]; repeat' (first | exact Ok.out | with_reducible refine And.intro ?_ ?_ | (simp; done)))
 | (cases h; replace h := hr; clear hr; (try simp only [bs, ↓reduceIte] at h))
 | (cases h; done))
    all_goals
      simp only [*]
      exact Ok.out
  | cons a rest =>
    obtain ⟨hget, g2, hlt, g4⟩ := drop_cons h1
    have ha := harg a (List.mem_of_getElem? hget)
    have hpu : k < 4611686018427387904 := by omega
    simp only [Ar.mays] at h
    repeat' (first
 | simp only [go_sem, hlt, hget, hpu, hinc, Int.reduceLE, ↓reduceIte, reduceCtorEq, Nat.reduceEqDiff, Nat.reduceLeDiff, Nat.reduceAdd, Nat.reduceMul, Nat.reduceSub, Nat.reduceLT]
 | (with_reducible refine CU (ha _) ?_)
 | (with_reducible first | refine CB_ofT (by assumption) fun hc => ?_ | refine CB_ofF (by assumption) fun hc => ?_ | refine CB_split (fun hc => ?_) fun hc => ?_) <;> (try simp only [hc, bs, ↓reduceIte] at h) <;> (try simp only [hc])
 | ((with_reducible first | refine leafR hQ ?_ | refine leafN hQ ?_); (try cases h); simp only [resL, oneD, Option.some.injEq, exists_eq_left', go_sem, hlt, hget, hpu, hinc, Int.reduceLE, ↓reduceIte, reduceCtorEq, Nat.reduceEqDiff, Nat.reduceLeDiff, Nat.reduceAdd, Nat.reduceMul, Nat.reduceSub, Nat.reduceLT]; repeat' (first | exact Ok.out | with_reducible refine And.intro ?_ ?_ | (simp; done)))
 | (cases h; replace h := hr; clear hr; (try simp only [bs, ↓reduceIte] at h))
 | (cases h; done))
    refine SemL.re _ _ 1 0 (by rw [hB]; exact Nat.le_of_ble_eq_true rfl) (by rw [hB]; exact Nat.le_of_ble_eq_true rfl) ?_ ?_ (IH (rest, k + 1) ⟨g2, h⟩ (Nat.lt_succ_self _))
    · (simp only [go_sem, hlt, hget, hpu, hinc, Int.reduceLE, ↓reduceIte, reduceCtorEq, Nat.reduceEqDiff, Nat.reduceLeDiff, Nat.reduceAdd, Nat.reduceMul, Nat.reduceSub, Nat.reduceLT]; repeat' (first | exact Ok.out | with_reducible refine And.intro ?_ ?_))
    · (simp only [go_sem, hlt, hget, hpu, hinc, Int.reduceLE, ↓reduceIte, reduceCtorEq, Nat.reduceEqDiff, Nat.reduceLeDiff, Nat.reduceAdd, Nat.reduceMul, Nat.reduceSub, Nat.reduceLT]; repeat' (first | exact Ok.out | with_reducible refine And.intro ?_ ?_))

theorem one_3 {cl : Bool} (hf : v.Fine) (hB : B.s = ⟨[], []⟩) (hQ : retF 0 0 [(2, none)] (.bool p) ⟨[], []⟩ = Q)
    (h : (if !(cl == !(v.proc == [])) || (cl && !(isName v.proc)) || (!cl && decide ((v.args.length : Int) > 0)) then false
      else if !(Ar.mays v.args) then false else ((v.thn.length : Int) == 0 || v.kind == 5 || v.kind == 6) && ((v.els.length : Int) == 0 || v.kind == 5)) = p) :
    Sem Tryd.prog B 178 QJ8 Q [(1, .ptr 0 0), (5, .bool cl)] ⟨[encSm v], []⟩ := by
  have hproc := RName_s v.proc hf.proc
  have hlt : 0 < 1 := Nat.zero_lt_one
  have hget : 0 < 1 := Nat.zero_lt_one
  have hpu : 0 < 1 := Nat.zero_lt_one
  have hinc : 0 < 1 := Nat.zero_lt_one
  refine Sem.seqW ?_
  repeat' (first
 | simp only [go_sem, hlt, hget, hpu, hinc, Int.reduceLE, ↓reduceIte, reduceCtorEq, Nat.reduceEqDiff, Nat.reduceLeDiff, Nat.reduceAdd, Nat.reduceMul, Nat.reduceSub, Nat.reduceLT]
 | (with_reducible refine CU (hproc _) ?_)
 | (with_reducible first | refine CB_ofT (by assumption) fun hc => ?_ | refine CB_ofF (by assumption) fun hc => ?_ | refine CB_split (fun hc => ?_) fun hc => ?_) <;> (try simp only [hc, bs, ↓reduceIte] at h) <;> (try simp only [hc])
 | ((with_reducible first | refine leafR hQ ?_ | refine leafN hQ ?_); (try cases h); simp only [resL, oneD, Option.some.injEq, exists_eq_left', go_sem, hlt, hget, hpu, hinc, Int.reduceLE, ↓reduceIte, reduceCtorEq, Nat.reduceEqDiff, Nat.reduceLeDiff, Nat.reduceAdd, Nat.reduceMul, Nat.reduceSub, Nat.reduceLT]; repeat' (first | exact Ok.out | with_reducible refine And.intro ?_ ?_ | (simp; done)))
 | (cases h; replace h := hr; clear hr; (try simp only [bs, ↓reduceIte] at h))
 | (cases h; done))
  all_goals
    refine Sem.re _ _ 1 0 (by rw [hB]; exact Nat.le_of_ble_eq_true rfl) (by rw [hB]; exact Nat.le_of_ble_eq_true rfl) ?_ ?_ (one_4 hf hB hQ h)
    · (simp only [go_sem, hlt, hget, hpu, hinc, Int.reduceLE, ↓reduceIte, reduceCtorEq, Nat.reduceEqDiff, Nat.reduceLeDiff, Nat.reduceAdd, Nat.reduceMul, Nat.reduceSub, Nat.reduceLT]; repeat' (first | exact Ok.out | with_reducible refine And.intro ?_ ?_))
    · (simp only [go_sem, hlt, hget, hpu, hinc, Int.reduceLE, ↓reduceIte, reduceCtorEq, Nat.reduceEqDiff, Nat.reduceLeDiff, Nat.reduceAdd, Nat.reduceMul, Nat.reduceSub, Nat.reduceLT]; repeat' (first | exact Ok.out | with_reducible refine And.intro ?_ ?_))

theorem one_2 {hn cl : Bool} (hf : v.Fine) (hB : B.s = ⟨[], []⟩) (hQ : retF 0 0 [(2, none)] (.bool p) ⟨[], []⟩ = Q)
    (h : (if (hn && !(isName v.name)) || (!hn && !(v.name == []) && !(cl && isName v.name)) then false
      else if !(cl == !(v.proc == [])) || (cl && !(isName v.proc)) || (!cl && decide ((v.args.length : Int) > 0)) then false
      else if !(Ar.mays v.args) then false else ((v.thn.length : Int) == 0 || v.kind == 5 || v.kind == 6) && ((v.els.length : Int) == 0 || v.kind == 5)) = p) :
    Sem Tryd.prog B 178 QJ9 Q [(1, .ptr 0 0), (4, .bool hn), (5, .bool cl)] ⟨[encSm v], []⟩ := by
  have hname := RName_s v.name hf.name
  have hlt : 0 < 1 := Nat.zero_lt_one
  have hget : 0 < 1 := Nat.zero_lt_one
  have hpu : 0 < 1 := Nat.zero_lt_one
  have hinc : 0 < 1 := Nat.zero_lt_one
  have k := @one_3 v B Q p cl hf hB hQ
  cases cl
  all_goals
    refine Sem.seqW ?_
    repeat' (first
 | simp only [go_sem, hlt, hget, hpu, hinc, Int.reduceLE, ↓reduceIte, reduceCtorEq, Nat.reduceEqDiff, Nat.reduceLeDiff, Nat.reduceAdd, Nat.reduceMul, Nat.reduceSub, Nat.reduceLT]
 | (with_reducible refine CU (hname _) ?_)
 | (with_reducible first | refine CB_ofT (by assumption) fun hc => ?_ | refine CB_ofF (by assumption) fun hc => ?_ | refine CB_split (fun hc => ?_) fun hc => ?_) <;> (try simp only [hc, bs, ↓reduceIte] at h) <;> (try simp only [hc])
 | ((with_reducible first | refine leafR hQ ?_ | refine leafN hQ ?_); (try cases h); simp only [resL, oneD, Option.some.injEq, exists_eq_left', go_sem, hlt, hget, hpu, hinc, Int.reduceLE, ↓reduceIte, reduceCtorEq, Nat.reduceEqDiff, Nat.reduceLeDiff, Nat.reduceAdd, Nat.reduceMul, Nat.reduceSub, Nat.reduceLT]; repeat' (first | exact Ok.out | with_reducible refine And.intro ?_ ?_ | (simp; done)))
 | (cases h; replace h := hr; clear hr; (try simp only [bs, ↓reduceIte] at h))
 | (cases h; done))
  all_goals
    refine Sem.re _ _ 1 0 (by rw [hB]; exact Nat.le_of_ble_eq_true rfl) (by rw [hB]; exact Nat.le_of_ble_eq_true rfl) ?_ ?_ (k (by simpa only [bs, ↓reduceIte] using h))
    · (simp only [go_sem, hlt, hget, hpu, hinc, Int.reduceLE, ↓reduceIte, reduceCtorEq, Nat.reduceEqDiff, Nat.reduceLeDiff, Nat.reduceAdd, Nat.reduceMul, Nat.reduceSub, Nat.reduceLT]; repeat' (first | exact Ok.out | with_reducible refine And.intro ?_ ?_))
    · (simp only [go_sem, hlt, hget, hpu, hinc, Int.reduceLE, ↓reduceIte, reduceCtorEq, Nat.reduceEqDiff, Nat.reduceLeDiff, Nat.reduceAdd, Nat.reduceMul, Nat.reduceSub, Nat.reduceLT]; repeat' (first | exact Ok.out | with_reducible refine And.intro ?_ ?_))

theorem one_1 {hx hn cl : Bool} (hf : v.Fine) (hB : B.s = ⟨[], []⟩) (hQ : retF 0 0 [(2, none)] (.bool p) ⟨[], []⟩ = Q)
    (h : (if decide (v.kind < 1) || decide (v.kind > 10) || !(mayNames v.labels) || (hx && !(v.x.may)) || (!hx && !(v.x.none)) || (v.has && v.kind != 9) then false
      else if (hn && !(isName v.name)) || (!hn && !(v.name == []) && !(cl && isName v.name)) then false
      else if !(cl == !(v.proc == [])) || (cl && !(isName v.proc)) || (!cl && decide ((v.args.length : Int) > 0)) then false
      else if !(Ar.mays v.args) then false else ((v.thn.length : Int) == 0 || v.kind == 5 || v.kind == 6) && ((v.els.length : Int) == 0 || v.kind == 5)) = p) :
    Sem Tryd.prog B 178 QJA Q [(1, .ptr 0 0), (3, .bool hx), (4, .bool hn), (5, .bool cl)] ⟨[encSm v], []⟩ := by
  have hns := fun s => names_s' hf.labl hf.lab s
  have hm := MayExpr_s hf.x hf.xt
  have hlt : 0 < 1 := Nat.zero_lt_one
  have hget : 0 < 1 := Nat.zero_lt_one
  have hpu : 0 < 1 := Nat.zero_lt_one
  have hinc : 0 < 1 := Nat.zero_lt_one
  refine Sem.seqW ?_
  repeat' (first
 | simp only [go_sem, hlt, hget, hpu, hinc, Int.reduceLE, ↓reduceIte, reduceCtorEq, Nat.reduceEqDiff, Nat.reduceLeDiff, Nat.reduceAdd, Nat.reduceMul, Nat.reduceSub, Nat.reduceLT]
 | (with_reducible refine CU (hns _) ?_)
 | (with_reducible refine CU (hm _) ?_)
 | (with_reducible refine CU (none_s _ _) ?_)
 | (with_reducible first | refine CB_ofT (by assumption) fun hc => ?_ | refine CB_ofF (by assumption) fun hc => ?_ | refine CB_split (fun hc => ?_) fun hc => ?_) <;> (try simp only [hc, bs, ↓reduceIte] at h) <;> (try simp only [hc])
 | ((with_reducible first | refine leafR hQ ?_ | refine leafN hQ ?_); (try cases h); simp only [resL, oneD, Option.some.injEq, exists_eq_left', go_sem, hlt, hget, hpu, hinc, Int.reduceLE, ↓reduceIte, reduceCtorEq, Nat.reduceEqDiff, Nat.reduceLeDiff, Nat.reduceAdd, Nat.reduceMul, Nat.reduceSub, Nat.reduceLT]; repeat' (first | exact Ok.out | with_reducible refine And.intro ?_ ?_ | (simp; done)))
 | (cases h; replace h := hr; clear hr; (try simp only [bs, ↓reduceIte] at h))
 | (cases h; done))
  all_goals
    refine Sem.re _ _ 1 0 (by rw [hB]; exact Nat.le_of_ble_eq_true rfl) (by rw [hB]; exact Nat.le_of_ble_eq_true rfl) ?_ ?_ (one_2 hf hB hQ h)
    · (simp only [go_sem, hlt, hget, hpu, hinc, Int.reduceLE, ↓reduceIte, reduceCtorEq, Nat.reduceEqDiff, Nat.reduceLeDiff, Nat.reduceAdd, Nat.reduceMul, Nat.reduceSub, Nat.reduceLT]; repeat' (first | exact Ok.out | with_reducible refine And.intro ?_ ?_))
    · (simp only [go_sem, hlt, hget, hpu, hinc, Int.reduceLE, ↓reduceIte, reduceCtorEq, Nat.reduceEqDiff, Nat.reduceLeDiff, Nat.reduceAdd, Nat.reduceMul, Nat.reduceSub, Nat.reduceLT]; repeat' (first | exact Ok.out | with_reducible refine And.intro ?_ ?_))

theorem one_c {hx hn : Bool} (hf : v.Fine) (hB : B.s = ⟨[], []⟩) (hQ : retF 0 0 [(2, none)] (.bool p) ⟨[], []⟩ = Q) (ex : v.hasX = hx) (en : v.hasName = hn) (h : v.one = p) :
    Sem Tryd.prog B 178 QJB Q [(1, .ptr 0 0), (3, .bool hx), (4, .bool hn)] ⟨[encSm v], []⟩ := by
  unfold Sm.one at h
  rw [ex, en] at h
  have hlt : 0 < 1 := Nat.zero_lt_one
  have hget : 0 < 1 := Nat.zero_lt_one
  have hpu : 0 < 1 := Nat.zero_lt_one
  have hinc : 0 < 1 := Nat.zero_lt_one
  refine Sem.seqW ?_
  repeat' (first
 | simp only [go_sem, hlt, hget, hpu, hinc, Int.reduceLE, ↓reduceIte, reduceCtorEq, Nat.reduceEqDiff, Nat.reduceLeDiff, Nat.reduceAdd, Nat.reduceMul, Nat.reduceSub, Nat.reduceLT]
 | (with_reducible first | refine CB_ofT (by assumption) fun hc => ?_ | refine CB_ofF (by assumption) fun hc => ?_ | refine CB_split (fun hc => ?_) fun hc => ?_) <;> (try simp only [hc, bs, ↓reduceIte] at h) <;> (try simp only [hc])
 | ((with_reducible first | refine leafR hQ ?_ | refine leafN hQ ?_); (try cases h); simp only [resL, oneD, Option.some.injEq, exists_eq_left', go_sem, hlt, hget, hpu, hinc, Int.reduceLE, ↓reduceIte, reduceCtorEq, Nat.reduceEqDiff, Nat.reduceLeDiff, Nat.reduceAdd, Nat.reduceMul, Nat.reduceSub, Nat.reduceLT]; repeat' (first | exact Ok.out | with_reducible refine And.intro ?_ ?_ | (simp; done)))
 | (cases h; replace h := hr; clear hr; (try simp only [bs, ↓reduceIte] at h))
 | (cases h; done))
  refine Sem.re _ _ 1 0 (by rw [hB]; exact Nat.le_of_ble_eq_true rfl) (by rw [hB]; exact Nat.le_of_ble_eq_true rfl) ?_ ?_ (one_1 hf hB hQ h)
  · (simp only [go_sem, hlt, hget, hpu, hinc, Int.reduceLE, ↓reduceIte, reduceCtorEq, Nat.reduceEqDiff, Nat.reduceLeDiff, Nat.reduceAdd, Nat.reduceMul, Nat.reduceSub, Nat.reduceLT, Sm.isCall]; repeat' (first | exact Ok.out | with_reducible refine And.intro ?_ ?_))
  · (simp only [go_sem, hlt, hget, hpu, hinc, Int.reduceLE, ↓reduceIte, reduceCtorEq, Nat.reduceEqDiff, Nat.reduceLeDiff, Nat.reduceAdd, Nat.reduceMul, Nat.reduceSub, Nat.reduceLT, Sm.isCall]; repeat' (first | exact Ok.out | with_reducible refine And.intro ?_ ?_))

theorem one_b {hx : Bool} (hf : v.Fine) (hB : B.s = ⟨[], []⟩) (hQ : retF 0 0 [(2, none)] (.bool p) ⟨[], []⟩ = Q) (ex : v.hasX = hx) (hp : v.one = p) :
    Sem Tryd.prog B 178 QJC Q [(1, .ptr 0 0), (3, .bool hx)] ⟨[encSm v], []⟩ := by
  generalize h : v.hasName = hn
  have hn := h
  unfold Sm.hasName at h
  have hlt : 0 < 1 := Nat.zero_lt_one
  have hget : 0 < 1 := Nat.zero_lt_one
  have hpu : 0 < 1 := Nat.zero_lt_one
  have hinc : 0 < 1 := Nat.zero_lt_one
  refine Sem.seqW ?_
  repeat' (first
 | simp only [go_sem, hlt, hget, hpu, hinc, Int.reduceLE, ↓reduceIte, reduceCtorEq, Nat.reduceEqDiff, Nat.reduceLeDiff, Nat.reduceAdd, Nat.reduceMul, Nat.reduceSub, Nat.reduceLT]
 | (with_reducible first | refine CB_ofT (by assumption) fun hc => ?_ | refine CB_ofF (by assumption) fun hc => ?_ | refine CB_split (fun hc => ?_) fun hc => ?_) <;> (try simp only [hc, bs, ↓reduceIte] at h) <;> (try simp only [hc])
 | ((with_reducible first | refine leafR hQ ?_ | refine leafN hQ ?_); (try cases h); simp only [resL, oneD, Option.some.injEq, exists_eq_left', go_sem, hlt, hget, hpu, hinc, Int.reduceLE, ↓reduceIte, reduceCtorEq, Nat.reduceEqDiff, Nat.reduceLeDiff, Nat.reduceAdd, Nat.reduceMul, Nat.reduceSub, Nat.reduceLT]; repeat' (first | exact Ok.out | with_reducible refine And.intro ?_ ?_ | (simp; done)))
 | (cases h; replace h := hr; clear hr; (try simp only [bs, ↓reduceIte] at h))
 | (cases h; done))
  all_goals
    refine Sem.re _ _ 1 0 (by rw [hB]; exact Nat.le_of_ble_eq_true rfl) (by rw [hB]; exact Nat.le_of_ble_eq_true rfl) ?_ ?_ (one_c hf hB hQ ex hn hp)
    · (simp only [go_sem, hlt, hget, hpu, hinc, Int.reduceLE, ↓reduceIte, reduceCtorEq, Nat.reduceEqDiff, Nat.reduceLeDiff, Nat.reduceAdd, Nat.reduceMul, Nat.reduceSub, Nat.reduceLT, h]; repeat' (first | exact Ok.out | with_reducible refine And.intro ?_ ?_))
    · (simp only [go_sem, hlt, hget, hpu, hinc, Int.reduceLE, ↓reduceIte, reduceCtorEq, Nat.reduceEqDiff, Nat.reduceLeDiff, Nat.reduceAdd, Nat.reduceMul, Nat.reduceSub, Nat.reduceLT, h]; repeat' (first | exact Ok.out | with_reducible refine And.intro ?_ ?_))

theorem one_a (hf : v.Fine) (hB : B.s = ⟨[], []⟩) (hQ : retF 0 0 [(2, none)] (.bool p) ⟨[], []⟩ = Q) (hp : v.one = p) :
    Sem Tryd.prog B 178 QJD Q [(1, .ptr 0 0)] ⟨[encSm v], []⟩ := by
  generalize h : v.hasX = hx
  have ex := h
  unfold Sm.hasX at h
  have hlt : 0 < 1 := Nat.zero_lt_one
  have hget : 0 < 1 := Nat.zero_lt_one
  have hpu : 0 < 1 := Nat.zero_lt_one
  have hinc : 0 < 1 := Nat.zero_lt_one
  refine Sem.seqW ?_
  repeat' (first
 | simp only [go_sem, hlt, hget, hpu, hinc, Int.reduceLE, ↓reduceIte, reduceCtorEq, Nat.reduceEqDiff, Nat.reduceLeDiff, Nat.reduceAdd, Nat.reduceMul, Nat.reduceSub, Nat.reduceLT]
 | (with_reducible first | refine CB_ofT (by assumption) fun hc => ?_ | refine CB_ofF (by assumption) fun hc => ?_ | refine CB_split (fun hc => ?_) fun hc => ?_) <;> (try simp only [hc, bs, ↓reduceIte] at h) <;> (try simp only [hc])
 | ((with_reducible first | refine leafR hQ ?_ | refine leafN hQ ?_); (try cases h); simp only [resL, oneD, Option.some.injEq, exists_eq_left', go_sem, hlt, hget, hpu, hinc, Int.reduceLE, ↓reduceIte, reduceCtorEq, Nat.reduceEqDiff, Nat.reduceLeDiff, Nat.reduceAdd, Nat.reduceMul, Nat.reduceSub, Nat.reduceLT]; repeat' (first | exact Ok.out | with_reducible refine And.intro ?_ ?_ | (simp; done)))
 | (cases h; replace h := hr; clear hr; (try simp only [bs, ↓reduceIte] at h))
 | (cases h; done))
  all_goals
    refine Sem.re _ _ 1 0 (by rw [hB]; exact Nat.le_of_ble_eq_true rfl) (by rw [hB]; exact Nat.le_of_ble_eq_true rfl) ?_ ?_ (one_b hf hB hQ ex hp)
    · (simp only [go_sem, hlt, hget, hpu, hinc, Int.reduceLE, ↓reduceIte, reduceCtorEq, Nat.reduceEqDiff, Nat.reduceLeDiff, Nat.reduceAdd, Nat.reduceMul, Nat.reduceSub, Nat.reduceLT, h]; repeat' (first | exact Ok.out | with_reducible refine And.intro ?_ ?_))
    · (simp only [go_sem, hlt, hget, hpu, hinc, Int.reduceLE, ↓reduceIte, reduceCtorEq, Nat.reduceEqDiff, Nat.reduceLeDiff, Nat.reduceAdd, Nat.reduceMul, Nat.reduceSub, Nat.reduceLT, h]; repeat' (first | exact Ok.out | with_reducible refine And.intro ?_ ?_))
end

theorem Fun.goS {P : Program} {f : FuncId} {nt : Nat} {res : List (Nat × Option (Bool × Nat))} {body : AC} {args : List D} {s : St} {d : D} {s' : St} (h0 : Has P f nt res body) (hl : Nat.ble args.length nt = true)
    (h : ∀ (B : Base) (Q : Exit → Tm → St → Prop), B.s = s → retF s.objs.length s.toks.length res d s' = Q → Sem P B nt body Q (argTm 0 args) s) : Fun P f args s d s' := by
  obtain ⟨fn, hf, hc⟩ := h0
  exact Fun.intro ⟨fn, hf, hc⟩ (Nat.le_of_ble_eq_true hl) fun B hB => h B _ hB rfl

theorem one_s {v : Sm} (hf : v.Fine) (s : St) : Fun Tryd.prog n_ref3_one [.agg (encSm v)] s (.bool v.one) s := by
  refine Fun.pure ?_ (by simp [D.oks, D.ok, okSm]) rfl s
  unfold S0
  refine Fun.goS has_ref3_one rfl fun B Q hB hQ => ?_
  have hlt : 0 < 1 := Nat.zero_lt_one
  have hget : 0 < 1 := Nat.zero_lt_one
  have hpu : 0 < 1 := Nat.zero_lt_one
  have hinc : 0 < 1 := Nat.zero_lt_one
  refine Sem.seqW ?_
  repeat' (first
 | simp only [go_sem, hlt, hget, hpu, hinc, Int.reduceLE, ↓reduceIte, reduceCtorEq, Nat.reduceEqDiff, Nat.reduceLeDiff, Nat.reduceAdd, Nat.reduceMul, Nat.reduceSub, Nat.reduceLT]
 | (with_reducible first | refine CB_ofT (by assumption) fun hc => ?_ | refine CB_ofF (by assumption) fun hc => ?_ | refine CB_split (fun hc => ?_) fun hc => ?_) <;> (try simp only [hc, bs, ↓reduceIte] at h) <;> (try simp only [hc])
 | ((with_reducible first | refine leafR hQ ?_ | refine leafN hQ ?_); (try cases h); simp only [resL, oneD, Option.some.injEq, exists_eq_left', go_sem, hlt, hget, hpu, hinc, Int.reduceLE, ↓reduceIte, reduceCtorEq, Nat.reduceEqDiff, Nat.reduceLeDiff, Nat.reduceAdd, Nat.reduceMul, Nat.reduceSub, Nat.reduceLT]; repeat' (first | exact Ok.out | with_reducible refine And.intro ?_ ?_ | (simp; done)))
 | (cases h; replace h := hr; clear hr; (try simp only [bs, ↓reduceIte] at h))
 | (cases h; done))
  refine Sem.re _ _ 1 0 (by rw [hB]; exact Nat.le_of_ble_eq_true rfl) (by rw [hB]; exact Nat.le_of_ble_eq_true rfl) ?_ ?_ (one_a hf hB hQ rfl)
  · (simp only [go_sem, hlt, hget, hpu, hinc, Int.reduceLE, ↓reduceIte, reduceCtorEq, Nat.reduceEqDiff, Nat.reduceLeDiff, Nat.reduceAdd, Nat.reduceMul, Nat.reduceSub, Nat.reduceLT]; repeat' (first | exact Ok.out | with_reducible refine And.intro ?_ ?_))
  · (simp only [go_sem, hlt, hget, hpu, hinc, Int.reduceLE, ↓reduceIte, reduceCtorEq, Nat.reduceEqDiff, Nat.reduceLeDiff, Nat.reduceAdd, Nat.reduceMul, Nat.reduceSub, Nat.reduceLT]; repeat' (first | exact Ok.out | with_reducible refine And.intro ?_ ?_))

end Go.Abs

/-! RefMay3 -/

namespace Go.Abs

set_option maxRecDepth 8000
set_option linter.unusedSimpArgs false
set_option linter.unusedVariables false
open Go.Proofs

def encIt (i : It) : List D := [.int .i64 i.s.id, .int .i64 i.s.kind, .slice .shared 1 (i.s.labels.map encStr), .str i.s.name, .str i.s.proc,
      .int .i64 i.s.x.op, .int .i64 i.s.x.n, .str i.s.x.name, .slice .shared 4 (i.s.x.kids.map encEx), .bool i.s.has, .slice .shared 6 (i.s.args.map encAr), .slice .shared 13 (i.s.thn.map encSm), .slice .shared 13 (i.s.els.map encSm), .int .i64 i.deep, .int .i64 i.inn, .bool i.els]
theorem okIt (i : It) : D.oks 0 0 (encIt i) = true := by simp [encIt, D.oks, D.ok, Tag.ok, okrStr, okrEx, okrAr, okrSm]
theorem okrIt (l : List It) : D.okr 0 0 (l.map encIt) = true := okr_map okIt l
theorem fgrIt (n m : Nat) (l : List It) : D.fgr n m (l.map encIt) = l.map encIt := fgr_map okIt n m l
theorem fgsIt (n m : Nat) (i : It) : D.fgs n m (encIt i) = encIt i := fgs_ok n m _ (okIt i)
theorem lenIt (x : It) : (encIt x).length = 16 := nd rfl
theorem takeIt (x : It) : List.take 13 (encIt x) = encSm x.s := by simp only [encIt, encSm_eq]; rfl
theorem cellIt_0 (x : It) : (encIt x)[0]? = some (.int .i64 x.s.id) := nd rfl
theorem cellIt_13 (x : It) : (encIt x)[13]? = some (.int .i64 x.deep) := nd rfl
theorem mkIt (s : Sm) (d n : Int) (e : Bool) : encIt ⟨s, d, n, e⟩ = [.int .i64 s.id, .int .i64 s.kind, .slice .shared 1 (s.labels.map encStr), .str s.name, .str s.proc,
      .int .i64 s.x.op, .int .i64 s.x.n, .str s.x.name, .slice .shared 4 (s.x.kids.map encEx), .bool s.has, .slice .shared 6 (s.args.map encAr), .slice .shared 13 (s.thn.map encSm), .slice .shared 13 (s.els.map encSm), .int .i64 d, .int .i64 n, .bool e] := nd rfl
attribute [go_sem] fgrIt fgsIt lenIt takeIt cellIt_0 cellIt_13
theorem flatS_eq (deep inn : Int) (els : Bool) (out : List It) (s : Sm) :
    flatS deep inn els out s = if decide (deep ≤ 12) then flatL (deep + 1) s.id true (flatL (deep + 1) s.id false (out ++ [⟨s, deep, inn, els⟩]) s.thn) s.els else out ++ [⟨s, deep, inn, els⟩] := by
  cases s; simp only [flatS]

mutual
theorem flatS_len (deep inn : Int) (els : Bool) (out : List It) (h : out.length ≤ 200) : ∀ s : Sm, (flatS deep inn els out s).length ≤ 201
  | ⟨id, kind, labels, name, proc, x, has, args, thn, e⟩ => by
    simp only [flatS]
    have h1 : (out ++ [(⟨⟨id, kind, labels, name, proc, x, has, args, thn, e⟩, deep, inn, els⟩ : It)]).length ≤ 201 := by simp; omega
    split
    · exact flatL_len _ _ _ _ (flatL_len _ _ _ _ h1 thn) e
    · exact h1
theorem flatL_len (deep inn : Int) (els : Bool) (out : List It) (h : out.length ≤ 201) : ∀ l : List Sm, (flatL deep inn els out l).length ≤ 201
  | [] => by simpa only [flatL] using h
  | s :: l => by
    simp only [flatL]
    split
    · rename_i hc
      simp only [decide_eq_true_eq] at hc
      exact flatL_len deep inn els _ (flatS_len _ _ _ _ (by omega) s) l
    · exact h
end

abbrev C_flat (N : Nat) : Prop := ∀ (l : List Sm) (deep inn : Int) (els : Bool) (out : List It), Sm.sizes l < N → 0 ≤ deep → deep ≤ 13 → out.length ≤ 201 → ∀ {s : St} {t : Nat}, s.toks[t]? = some (some out.length) →
  Fun Tryd.prog n_ref3_flat [.slice .shared 13 (l.map encSm), .int .i64 deep, .int .i64 inn, .bool els, .slice (.tok t) 16 (out.map encIt)] s (.slice (.tok t) 16 ((flatL deep inn els out l).map encIt)) ⟨s.objs, s.toks.set t (some (flatL deep inn els out l).length)⟩

theorem flat_0 {N : Nat} (hN : N < 4611686018427387904) (ih : C_flat N) {l : List Sm} {deep inn : Int} {els : Bool} {out : List It} (hs : Sm.sizes l < N + 1) (hd0 : 0 ≤ deep) (hd : deep ≤ 13) (ho : out.length ≤ 201) :
    Fun Tryd.prog n_ref3_flat [.slice .shared 13 (l.map encSm), .int .i64 deep, .int .i64 inn, .bool els, .slice (.tok 0) 16 (out.map encIt)] ⟨[], [some out.length]⟩ (.slice (.tok 0) 16 ((flatL deep inn els out l).map encIt)) ⟨[], [some (flatL deep inn els out l).length]⟩ := by
  generalize hR : flatL deep inn els out l = R
  refine Fun.go has_ref3_flat rfl fun B Q hB hQ => ?_
  have hlt : 0 < 1 := Nat.zero_lt_one
  have hget : 0 < 1 := Nat.zero_lt_one
  have hpu : 0 < 1 := Nat.zero_lt_one
  have hinc : 0 < 1 := Nat.zero_lt_one
  repeat' (first
 | simp only [go_sem, hlt, hget, hpu, hinc, Int.reduceLE, ↓reduceIte, reduceCtorEq, Nat.reduceEqDiff, Nat.reduceLeDiff, Nat.reduceAdd, Nat.reduceMul, Nat.reduceSub, Nat.reduceLT]
 | (with_reducible first | refine CB_ofT (by assumption) fun hc => ?_ | refine CB_ofF (by assumption) fun hc => ?_ | refine CB_split (fun hc => ?_) fun hc => ?_) <;> (try simp only [hc, bs, ↓reduceIte] at h) <;> (try simp only [hc])
 | ((with_reducible first | refine leafR hQ ?_ | refine leafN hQ ?_); (try cases h); simp only [resL, oneD, Option.some.injEq, exists_eq_left', go_sem, hlt, hget, hpu, hinc, Int.reduceLE, ↓reduceIte, reduceCtorEq, Nat.reduceEqDiff, Nat.reduceLeDiff, Nat.reduceAdd, Nat.reduceMul, Nat.reduceSub, Nat.reduceLT]; repeat' (first | exact Ok.out | with_reducible refine And.intro ?_ ?_ | (simp; done)))
 | (cases h; replace h := hr; clear hr; (try simp only [bs, ↓reduceIte] at h))
 | (cases h; done))
  refine SemL.re _ _ 0 1 (by rw [hB]; exact Nat.le_of_ble_eq_true rfl) (by rw [hB]; exact Nat.le_of_ble_eq_true rfl) ?_ ?_ (SemL.ind (ι := List Sm × Nat × List It × Nat) (fun i => l.drop i.2.1 = i.1 ∧ flatL deep inn els i.2.2.1 i.1 = R ∧ i.2.2.1.length ≤ 201 ∧ i.2.2.2 = i.2.2.1.length) (fun i => i.1.length)
    (fun i => [(0, .slice .shared 13 (l.map encSm)), (1, .int .i64 deep), (2, .int .i64 inn), (3, .bool els), (4, .slice (.tok 0) 16 (i.2.2.1.map encIt)), (11, .int .i64 (i.2.1 : Int))]) (fun i => ⟨[], [some i.2.2.2]⟩) ?_ (l, 0, out, out.length) ⟨rfl, hR, ho, rfl⟩)
  · (simp only [go_sem, hlt, hget, hpu, hinc, Int.reduceLE, ↓reduceIte, reduceCtorEq, Nat.reduceEqDiff, Nat.reduceLeDiff, Nat.reduceAdd, Nat.reduceMul, Nat.reduceSub, Nat.reduceLT]; repeat' (first | exact Ok.out | with_reducible refine And.intro ?_ ?_))
  · (simp only [go_sem, hlt, hget, hpu, hinc, Int.reduceLE, ↓reduceIte, reduceCtorEq, Nat.reduceEqDiff, Nat.reduceLeDiff, Nat.reduceAdd, Nat.reduceMul, Nat.reduceSub, Nat.reduceLT]; repeat' (first | exact Ok.out | with_reducible refine And.intro ?_ ?_))
  rintro ⟨rest, k, out, n⟩ ⟨h1, h2, h3, h4⟩ IH
  dsimp only at h1 h2 h3 h4
  subst h4
  have hlen : l.length < 4611686018427387904 := by have := Sm.sizes_len l; omega
  cases rest with
  | nil =>
    have hlt := drop_nil h1
    simp only [flatL] at h2
    subst h2
    repeat' (first
 | simp only [go_sem, hlt, hget, hpu, hinc, Int.reduceLE, ↓reduceIte, reduceCtorEq, Nat.reduceEqDiff, Nat.reduceLeDiff, Nat.reduceAdd, Nat.reduceMul, Nat.reduceSub, Nat.reduceLT]
 | (with_reducible first | refine CB_ofT (by assumption) fun hc => ?_ | refine CB_ofF (by assumption) fun hc => ?_ | refine CB_split (fun hc => ?_) fun hc => ?_) <;> (try simp only [hc, bs, ↓reduceIte] at h) <;> (try simp only [hc])
 | ((with_reducible first | refine leafR hQ ?_ | refine leafN hQ ?_); (try cases h); simp only [resL, oneD, Option.some.injEq, exists_eq_left', go_sem, hlt, hget, hpu, hinc, Int.reduceLE, ↓reduceIte, reduceCtorEq, Nat.reduceEqDiff, Nat.reduceLeDiff, Nat.reduceAdd, Nat.reduceMul, Nat.reduceSub, Nat.reduceLT]; repeat' (first | exact Ok.out | with_reducible refine And.intro ?_ ?_ | (simp; done)))
 | (cases h; replace h := hr; clear hr; (try simp only [bs, ↓reduceIte] at h))
 | (cases h; done))
  | cons v rest =>
    obtain ⟨hget, g2, hlt, g4⟩ := drop_cons h1
    have hk2 : k < 4611686018427387904 := by omega
    have hv := Sm.sizes_mem (List.mem_of_getElem? hget)
    have hvs : Sm.sizes v.thn < N ∧ Sm.sizes v.els < N := by
      obtain ⟨_, _, _, _, _, _, _, _, _, _⟩ := v
      simp only [Sm.size] at hv ⊢; omega
    simp only [flatL] at h2
    by_cases hc : out.length ≤ 200
    · have c1 : decide ((out.length : Int) ≤ 200) = true := by simp; omega
      simp only [c1, ↓reduceIte, flatS_eq] at h2
      have hpu : (out.length + 1) * 233 ≤ maxStr := by unfold maxStr; omega
      have hl2 : (out ++ [(⟨v, deep, inn, els⟩ : It)]).length ≤ 201 := by simp; omega
      have hw : IntKind.wrap .i64 (deep + 1) = deep + 1 := wrap_ok (by omega) (by omega)
      by_cases hd12 : deep ≤ 12
      · have c2 : decide (deep ≤ 12) = true := by simp; omega
        simp only [c2, ↓reduceIte] at h2
        have f1 := fun {s : St} {t : Nat} (ht : s.toks[t]? = some (some (out ++ [(⟨v, deep, inn, els⟩ : It)]).length)) => ih v.thn (deep + 1) v.id false _ hvs.1 (by omega) (by omega) hl2 ht
        have f2 := fun {s : St} {t : Nat} (ht : s.toks[t]? = some (some (flatL (deep + 1) v.id false (out ++ [(⟨v, deep, inn, els⟩ : It)]) v.thn).length)) => ih v.els (deep + 1) v.id true _ hvs.2 (by omega) (by omega) (flatL_len _ _ _ _ hl2 _) ht
        simp only [List.map_append, List.map_cons, List.map_nil, mkIt, List.length_append, List.length_cons, List.length_nil] at f1
        repeat' (first
 | simp only [go_sem, hlt, hget, hpu, hinc, Int.reduceLE, ↓reduceIte, reduceCtorEq, Nat.reduceEqDiff, Nat.reduceLeDiff, Nat.reduceAdd, Nat.reduceMul, Nat.reduceSub, Nat.reduceLT, c1, c2, hw, encSm_eq]
 | (with_reducible refine CU (f1 (by with_unfolding_all rfl)) ?_)
 | (with_reducible refine CU (f2 (by with_unfolding_all rfl)) ?_)
 | (with_reducible first | refine CB_ofT (by assumption) fun hc => ?_ | refine CB_ofF (by assumption) fun hc => ?_ | refine CB_split (fun hc => ?_) fun hc => ?_) <;> (try simp only [hc, bs, ↓reduceIte] at h) <;> (try simp only [hc])
 | ((with_reducible first | refine leafR hQ ?_ | refine leafN hQ ?_); (try cases h); simp only [resL, oneD, Option.some.injEq, exists_eq_left', go_sem, hlt, hget, hpu, hinc, Int.reduceLE, ↓reduceIte, reduceCtorEq, Nat.reduceEqDiff, Nat.reduceLeDiff, Nat.reduceAdd, Nat.reduceMul, Nat.reduceSub, Nat.reduceLT, c1, c2, hw, encSm_eq]; repeat' (first | exact Ok.out | with_reducible refine And.intro ?_ ?_ | (simp; done)))
 | (cases h; replace h := hr; clear hr; (try simp only [bs, ↓reduceIte] at h))
 | (cases h; done))
        refine SemL.re _ _ 0 1 (by rw [hB]; exact Nat.le_of_ble_eq_true rfl) (by rw [hB]; exact Nat.le_of_ble_eq_true rfl) ?_ ?_ (IH (rest, k + 1, _, _) ⟨g2, h2, flatL_len _ _ _ _ (flatL_len _ _ _ _ hl2 _) _, rfl⟩ (Nat.lt_succ_self _))
        · (simp only [go_sem, hlt, hget, hpu, hinc, Int.reduceLE, ↓reduceIte, reduceCtorEq, Nat.reduceEqDiff, Nat.reduceLeDiff, Nat.reduceAdd, Nat.reduceMul, Nat.reduceSub, Nat.reduceLT, wrap_inc hk2]; repeat' (first | exact Ok.out | with_reducible refine And.intro ?_ ?_))
        · (simp only [go_sem, hlt, hget, hpu, hinc, Int.reduceLE, ↓reduceIte, reduceCtorEq, Nat.reduceEqDiff, Nat.reduceLeDiff, Nat.reduceAdd, Nat.reduceMul, Nat.reduceSub, Nat.reduceLT, wrap_inc hk2]; repeat' (first | exact Ok.out | with_reducible refine And.intro ?_ ?_))
      · have c2 : decide (deep ≤ 12) = false := by simp; omega
        simp only [c2, Bool.false_eq_true, ↓reduceIte] at h2
        repeat' (first
 | simp only [go_sem, hlt, hget, hpu, hinc, Int.reduceLE, ↓reduceIte, reduceCtorEq, Nat.reduceEqDiff, Nat.reduceLeDiff, Nat.reduceAdd, Nat.reduceMul, Nat.reduceSub, Nat.reduceLT, c1, c2, encSm_eq]
 | (with_reducible first | refine CB_ofT (by assumption) fun hc => ?_ | refine CB_ofF (by assumption) fun hc => ?_ | refine CB_split (fun hc => ?_) fun hc => ?_) <;> (try simp only [hc, bs, ↓reduceIte] at h) <;> (try simp only [hc])
 | ((with_reducible first | refine leafR hQ ?_ | refine leafN hQ ?_); (try cases h); simp only [resL, oneD, Option.some.injEq, exists_eq_left', go_sem, hlt, hget, hpu, hinc, Int.reduceLE, ↓reduceIte, reduceCtorEq, Nat.reduceEqDiff, Nat.reduceLeDiff, Nat.reduceAdd, Nat.reduceMul, Nat.reduceSub, Nat.reduceLT, c1, c2, encSm_eq]; repeat' (first | exact Ok.out | with_reducible refine And.intro ?_ ?_ | (simp; done)))
 | (cases h; replace h := hr; clear hr; (try simp only [bs, ↓reduceIte] at h))
 | (cases h; done))
        refine SemL.re _ _ 0 1 (by rw [hB]; exact Nat.le_of_ble_eq_true rfl) (by rw [hB]; exact Nat.le_of_ble_eq_true rfl) ?_ ?_ (IH (rest, k + 1, out ++ [⟨v, deep, inn, els⟩], out.length + 1) ⟨g2, h2, hl2, by simp⟩ (Nat.lt_succ_self _))
        · (simp only [go_sem, hlt, hget, hpu, hinc, Int.reduceLE, ↓reduceIte, reduceCtorEq, Nat.reduceEqDiff, Nat.reduceLeDiff, Nat.reduceAdd, Nat.reduceMul, Nat.reduceSub, Nat.reduceLT, wrap_inc hk2, mkIt, List.map_append, List.map_cons, List.map_nil]; repeat' (first | exact Ok.out | with_reducible refine And.intro ?_ ?_))
        · (simp only [go_sem, hlt, hget, hpu, hinc, Int.reduceLE, ↓reduceIte, reduceCtorEq, Nat.reduceEqDiff, Nat.reduceLeDiff, Nat.reduceAdd, Nat.reduceMul, Nat.reduceSub, Nat.reduceLT, wrap_inc hk2, mkIt, List.map_append, List.map_cons, List.map_nil]; repeat' (first | exact Ok.out | with_reducible refine And.intro ?_ ?_))
    · have c1 : decide ((out.length : Int) ≤ 200) = false := by simp; omega
      simp only [c1, Bool.false_eq_true, ↓reduceIte] at h2
      subst h2
      repeat' (first
 | simp only [go_sem, hlt, hget, hpu, hinc, Int.reduceLE, ↓reduceIte, reduceCtorEq, Nat.reduceEqDiff, Nat.reduceLeDiff, Nat.reduceAdd, Nat.reduceMul, Nat.reduceSub, Nat.reduceLT, c1]
 | (with_reducible first | refine CB_ofT (by assumption) fun hc => ?_ | refine CB_ofF (by assumption) fun hc => ?_ | refine CB_split (fun hc => ?_) fun hc => ?_) <;> (try simp only [hc, bs, ↓reduceIte] at h) <;> (try simp only [hc])
 | ((with_reducible first | refine leafR hQ ?_ | refine leafN hQ ?_); (try cases h); simp only [resL, oneD, Option.some.injEq, exists_eq_left', go_sem, hlt, hget, hpu, hinc, Int.reduceLE, ↓reduceIte, reduceCtorEq, Nat.reduceEqDiff, Nat.reduceLeDiff, Nat.reduceAdd, Nat.reduceMul, Nat.reduceSub, Nat.reduceLT, c1]; repeat' (first | exact Ok.out | with_reducible refine And.intro ?_ ?_ | (simp; done)))
 | (cases h; replace h := hr; clear hr; (try simp only [bs, ↓reduceIte] at h))
 | (cases h; done))

theorem flat_all : ∀ N, N < 4611686018427387904 → C_flat N := by
  intro N
  induction N with
  | zero => exact fun _ l deep inn els out h => absurd h (Nat.not_lt_zero _)
  | succ N ih =>
    intro h l deep inn els out hs hd0 hd ho s t ht
    exact (flat_0 (by omega) (ih (by omega)) hs hd0 hd ho).tokF (pre := [_, _, _, _]) (post := []) (by simp [D.oks, D.ok, Tag.ok, okrSm]) rfl (okrIt out) (okrIt _) ht

theorem flat_nil {l : List Sm} (hs : Sm.sizes l < 4611686018427387000) (s : St) :
    Fun Tryd.prog n_ref3_flat [.slice .shared 13 (l.map encSm), .int .i64 1, .int .i64 0, .bool false, .slice .full 0 []] s (.slice .shared 16 ((flatL 1 0 false [] l).map encIt)) s := by
  refine Fun.pure ?_ (by simp [D.oks, D.ok, Tag.ok, okrSm, D.okr]) (by simp [D.ok, Tag.ok, okrIt]) s
  obtain ⟨N, hN⟩ : ∃ N, N = Sm.sizes l := ⟨_, rfl⟩
  have ih := flat_all N (by omega)
  replace hs : Sm.sizes l < N + 1 ∧ N < 4611686018427387000 := by omega
  obtain ⟨hs, hN⟩ := hs
  generalize hR : flatL 1 0 false [] l = R
  obtain ⟨deep, hdeep⟩ : ∃ d : Int, d = 1 := ⟨_, rfl⟩
  obtain ⟨inn, hinn⟩ : ∃ d : Int, d = 0 := ⟨_, rfl⟩
  obtain ⟨els, hels⟩ : ∃ d : Bool, d = false := ⟨_, rfl⟩
  rw [← hdeep, ← hinn, ← hels] at hR
  rw [← hdeep, ← hinn, ← hels]
  have hd0 : 0 ≤ deep := by omega
  have hd : deep ≤ 13 := by omega
  clear hdeep hinn hels
  have ho : ([] : List It).length ≤ 201 := Nat.zero_le _
  unfold S0
  refine Fun.go has_ref3_flat rfl fun B Q hB hQ => ?_
  have hlt : 0 < 1 := Nat.zero_lt_one
  have hget : 0 < 1 := Nat.zero_lt_one
  have hpu : 0 < 1 := Nat.zero_lt_one
  have hinc : 0 < 1 := Nat.zero_lt_one
  repeat' (first
 | simp only [go_sem, hlt, hget, hpu, hinc, Int.reduceLE, ↓reduceIte, reduceCtorEq, Nat.reduceEqDiff, Nat.reduceLeDiff, Nat.reduceAdd, Nat.reduceMul, Nat.reduceSub, Nat.reduceLT]
 | (with_reducible first | refine CB_ofT (by assumption) fun hc => ?_ | refine CB_ofF (by assumption) fun hc => ?_ | refine CB_split (fun hc => ?_) fun hc => ?_) <;> (try simp only [hc, bs, ↓reduceIte] at h) <;> (try simp only [hc])
 | ((with_reducible first | refine leafR hQ ?_ | refine leafN hQ ?_); (try cases h); simp only [resL, oneD, Option.some.injEq, exists_eq_left', go_sem, hlt, hget, hpu, hinc, Int.reduceLE, ↓reduceIte, reduceCtorEq, Nat.reduceEqDiff, Nat.reduceLeDiff, Nat.reduceAdd, Nat.reduceMul, Nat.reduceSub, Nat.reduceLT]; repeat' (first | exact Ok.out | with_reducible refine And.intro ?_ ?_ | (simp; done)))
 | (cases h; replace h := hr; clear hr; (try simp only [bs, ↓reduceIte] at h))
 | (cases h; done))
  refine SemL.tokT 4 16 rfl ?_
  simp only [go_sem, hlt, hget, hpu, hinc, Int.reduceLE, ↓reduceIte, reduceCtorEq, Nat.reduceEqDiff, Nat.reduceLeDiff, Nat.reduceAdd, Nat.reduceMul, Nat.reduceSub, Nat.reduceLT]
  refine SemL.re _ _ 0 1 (by rw [hB]; exact Nat.le_of_ble_eq_true rfl) (by rw [hB]; exact Nat.le_of_ble_eq_true rfl) ?_ ?_ (SemL.ind (ι := List Sm × Nat × List It × Nat) (fun i => l.drop i.2.1 = i.1 ∧ flatL deep inn els i.2.2.1 i.1 = R ∧ i.2.2.1.length ≤ 201 ∧ i.2.2.2 = i.2.2.1.length) (fun i => i.1.length)
    (fun i => [(0, .slice .shared 13 (l.map encSm)), (1, .int .i64 deep), (2, .int .i64 inn), (3, .bool els), (4, .slice (.tok 0) 16 (i.2.2.1.map encIt)), (11, .int .i64 (i.2.1 : Int))]) (fun i => ⟨[], [some i.2.2.2]⟩) ?_ (l, 0, [], 0) ⟨rfl, hR, ho, rfl⟩)
  · (simp only [go_sem, hlt, hget, hpu, hinc, Int.reduceLE, ↓reduceIte, reduceCtorEq, Nat.reduceEqDiff, Nat.reduceLeDiff, Nat.reduceAdd, Nat.reduceMul, Nat.reduceSub, Nat.reduceLT]; repeat' (first | exact Ok.out | with_reducible refine And.intro ?_ ?_))
  · (simp only [go_sem, hlt, hget, hpu, hinc, Int.reduceLE, ↓reduceIte, reduceCtorEq, Nat.reduceEqDiff, Nat.reduceLeDiff, Nat.reduceAdd, Nat.reduceMul, Nat.reduceSub, Nat.reduceLT]; repeat' (first | exact Ok.out | with_reducible refine And.intro ?_ ?_))
  rintro ⟨rest, k, out, n⟩ ⟨h1, h2, h3, h4⟩ IH
  dsimp only at h1 h2 h3 h4
  subst h4
  have hlen : l.length < 4611686018427387904 := by have := Sm.sizes_len l; omega
  cases rest with
  | nil =>
    have hlt := drop_nil h1
    simp only [flatL] at h2
    subst h2
    repeat' (first
 | simp only [go_sem, hlt, hget, hpu, hinc, Int.reduceLE, ↓reduceIte, reduceCtorEq, Nat.reduceEqDiff, Nat.reduceLeDiff, Nat.reduceAdd, Nat.reduceMul, Nat.reduceSub, Nat.reduceLT]
 | (with_reducible first | refine CB_ofT (by assumption) fun hc => ?_ | refine CB_ofF (by assumption) fun hc => ?_ | refine CB_split (fun hc => ?_) fun hc => ?_) <;> (try simp only [hc, bs, ↓reduceIte] at h) <;> (try simp only [hc])
 | ((with_reducible first | refine leafR hQ ?_ | refine leafN hQ ?_); (try cases h); simp only [resL, oneD, Option.some.injEq, exists_eq_left', go_sem, hlt, hget, hpu, hinc, Int.reduceLE, ↓reduceIte, reduceCtorEq, Nat.reduceEqDiff, Nat.reduceLeDiff, Nat.reduceAdd, Nat.reduceMul, Nat.reduceSub, Nat.reduceLT]; repeat' (first | exact Ok.out | with_reducible refine And.intro ?_ ?_ | (simp; done)))
 | (cases h; replace h := hr; clear hr; (try simp only [bs, ↓reduceIte] at h))
 | (cases h; done))
  | cons v rest =>
    obtain ⟨hget, g2, hlt, g4⟩ := drop_cons h1
    have hk2 : k < 4611686018427387904 := by omega
    have hv := Sm.sizes_mem (List.mem_of_getElem? hget)
    have hvs : Sm.sizes v.thn < N ∧ Sm.sizes v.els < N := by
      obtain ⟨_, _, _, _, _, _, _, _, _, _⟩ := v
      simp only [Sm.size] at hv ⊢; omega
    simp only [flatL] at h2
    by_cases hc : out.length ≤ 200
    · have c1 : decide ((out.length : Int) ≤ 200) = true := by simp; omega
      simp only [c1, ↓reduceIte, flatS_eq] at h2
      have hpu : (out.length + 1) * 233 ≤ maxStr := by unfold maxStr; omega
      have hl2 : (out ++ [(⟨v, deep, inn, els⟩ : It)]).length ≤ 201 := by simp; omega
      have hw : IntKind.wrap .i64 (deep + 1) = deep + 1 := wrap_ok (by omega) (by omega)
      by_cases hd12 : deep ≤ 12
      · have c2 : decide (deep ≤ 12) = true := by simp; omega
        simp only [c2, ↓reduceIte] at h2
        have f1 := fun {s : St} {t : Nat} (ht : s.toks[t]? = some (some (out ++ [(⟨v, deep, inn, els⟩ : It)]).length)) => ih v.thn (deep + 1) v.id false _ hvs.1 (by omega) (by omega) hl2 ht
        have f2 := fun {s : St} {t : Nat} (ht : s.toks[t]? = some (some (flatL (deep + 1) v.id false (out ++ [(⟨v, deep, inn, els⟩ : It)]) v.thn).length)) => ih v.els (deep + 1) v.id true _ hvs.2 (by omega) (by omega) (flatL_len _ _ _ _ hl2 _) ht
        simp only [List.map_append, List.map_cons, List.map_nil, mkIt, List.length_append, List.length_cons, List.length_nil] at f1
        repeat' (first
 | simp only [go_sem, hlt, hget, hpu, hinc, Int.reduceLE, ↓reduceIte, reduceCtorEq, Nat.reduceEqDiff, Nat.reduceLeDiff, Nat.reduceAdd, Nat.reduceMul, Nat.reduceSub, Nat.reduceLT, c1, c2, hw, encSm_eq]
 | (with_reducible refine CU (f1 (by with_unfolding_all rfl)) ?_)
 | (with_reducible refine CU (f2 (by with_unfolding_all rfl)) ?_)
 | (with_reducible first | refine CB_ofT (by assumption) fun hc => ?_ | refine CB_ofF (by assumption) fun hc => ?_ | refine CB_split (fun hc => ?_) fun hc => ?_) <;> (try simp only [hc, bs, ↓reduceIte] at h) <;> (try simp only [hc])
 | ((with_reducible first | refine leafR hQ ?_ | refine leafN hQ ?_); (try cases h); simp only [resL, oneD, Option.some.injEq, exists_eq_left', go_sem, hlt, hget, hpu, hinc, Int.reduceLE, ↓reduceIte, reduceCtorEq, Nat.reduceEqDiff, Nat.reduceLeDiff, Nat.reduceAdd, Nat.reduceMul, Nat.reduceSub, Nat.reduceLT, c1, c2, hw, encSm_eq]; repeat' (first | exact Ok.out | with_reducible refine And.intro ?_ ?_ | (simp; done)))
 | (cases h; replace h := hr; clear hr; (try simp only [bs, ↓reduceIte] at h))
 | (cases h; done))
        refine SemL.re _ _ 0 1 (by rw [hB]; exact Nat.le_of_ble_eq_true rfl) (by rw [hB]; exact Nat.le_of_ble_eq_true rfl) ?_ ?_ (IH (rest, k + 1, _, _) ⟨g2, h2, flatL_len _ _ _ _ (flatL_len _ _ _ _ hl2 _) _, rfl⟩ (Nat.lt_succ_self _))
        · (simp only [go_sem, hlt, hget, hpu, hinc, Int.reduceLE, ↓reduceIte, reduceCtorEq, Nat.reduceEqDiff, Nat.reduceLeDiff, Nat.reduceAdd, Nat.reduceMul, Nat.reduceSub, Nat.reduceLT, wrap_inc hk2]; repeat' (first | exact Ok.out | with_reducible refine And.intro ?_ ?_))
        · (simp only [go_sem, hlt, hget, hpu, hinc, Int.reduceLE, ↓reduceIte, reduceCtorEq, Nat.reduceEqDiff, Nat.reduceLeDiff, Nat.reduceAdd, Nat.reduceMul, Nat.reduceSub, Nat.reduceLT, wrap_inc hk2]; repeat' (first | exact Ok.out | with_reducible refine And.intro ?_ ?_))
      · have c2 : decide (deep ≤ 12) = false := by simp; omega
        simp only [c2, Bool.false_eq_true, ↓reduceIte] at h2
        repeat' (first
 | simp only [go_sem, hlt, hget, hpu, hinc, Int.reduceLE, ↓reduceIte, reduceCtorEq, Nat.reduceEqDiff, Nat.reduceLeDiff, Nat.reduceAdd, Nat.reduceMul, Nat.reduceSub, Nat.reduceLT, c1, c2, encSm_eq]
 | (with_reducible first | refine CB_ofT (by assumption) fun hc => ?_ | refine CB_ofF (by assumption) fun hc => ?_ | refine CB_split (fun hc => ?_) fun hc => ?_) <;> (try simp only [hc, bs, ↓reduceIte] at h) <;> (try simp only [hc])
 | ((with_reducible first | refine leafR hQ ?_ | refine leafN hQ ?_); (try cases h); simp only [resL, oneD, Option.some.injEq, exists_eq_left', go_sem, hlt, hget, hpu, hinc, Int.reduceLE, ↓reduceIte, reduceCtorEq, Nat.reduceEqDiff, Nat.reduceLeDiff, Nat.reduceAdd, Nat.reduceMul, Nat.reduceSub, Nat.reduceLT, c1, c2, encSm_eq]; repeat' (first | exact Ok.out | with_reducible refine And.intro ?_ ?_ | (simp; done)))
 | (cases h; replace h := hr; clear hr; (try simp only [bs, ↓reduceIte] at h))
 | (cases h; done))
        refine SemL.re _ _ 0 1 (by rw [hB]; exact Nat.le_of_ble_eq_true rfl) (by rw [hB]; exact Nat.le_of_ble_eq_true rfl) ?_ ?_ (IH (rest, k + 1, out ++ [⟨v, deep, inn, els⟩], out.length + 1) ⟨g2, h2, hl2, by simp⟩ (Nat.lt_succ_self _))
        · (simp only [go_sem, hlt, hget, hpu, hinc, Int.reduceLE, ↓reduceIte, reduceCtorEq, Nat.reduceEqDiff, Nat.reduceLeDiff, Nat.reduceAdd, Nat.reduceMul, Nat.reduceSub, Nat.reduceLT, wrap_inc hk2, mkIt, List.map_append, List.map_cons, List.map_nil]; repeat' (first | exact Ok.out | with_reducible refine And.intro ?_ ?_))
        · (simp only [go_sem, hlt, hget, hpu, hinc, Int.reduceLE, ↓reduceIte, reduceCtorEq, Nat.reduceEqDiff, Nat.reduceLeDiff, Nat.reduceAdd, Nat.reduceMul, Nat.reduceSub, Nat.reduceLT, wrap_inc hk2, mkIt, List.map_append, List.map_cons, List.map_nil]; repeat' (first | exact Ok.out | with_reducible refine And.intro ?_ ?_))
    · have c1 : decide ((out.length : Int) ≤ 200) = false := by simp; omega
      simp only [c1, Bool.false_eq_true, ↓reduceIte] at h2
      subst h2
      repeat' (first
 | simp only [go_sem, hlt, hget, hpu, hinc, Int.reduceLE, ↓reduceIte, reduceCtorEq, Nat.reduceEqDiff, Nat.reduceLeDiff, Nat.reduceAdd, Nat.reduceMul, Nat.reduceSub, Nat.reduceLT, c1]
 | (with_reducible first | refine CB_ofT (by assumption) fun hc => ?_ | refine CB_ofF (by assumption) fun hc => ?_ | refine CB_split (fun hc => ?_) fun hc => ?_) <;> (try simp only [hc, bs, ↓reduceIte] at h) <;> (try simp only [hc])
 | ((with_reducible first | refine leafR hQ ?_ | refine leafN hQ ?_); (try cases h); simp only [resL, oneD, Option.some.injEq, exists_eq_left', go_sem, hlt, hget, hpu, hinc, Int.reduceLE, ↓reduceIte, reduceCtorEq, Nat.reduceEqDiff, Nat.reduceLeDiff, Nat.reduceAdd, Nat.reduceMul, Nat.reduceSub, Nat.reduceLT, c1]; repeat' (first | exact Ok.out | with_reducible refine And.intro ?_ ?_ | (simp; done)))
 | (cases h; replace h := hr; clear hr; (try simp only [bs, ↓reduceIte] at h))
 | (cases h; done))

theorem Flat_s {f : Pc} (hs : Sm.sizes f.body < 4611686018427387000) (s : St) : Fun Tryd.prog n_ref3_Flat [.agg (encPc f)] s (.slice .shared 16 (f.flat.map encIt)) s := by
  refine Fun.pure ?_ (by simp only [D.oks, D.ok, okPc]; rfl) (by simp [D.ok, Tag.ok, okrIt]) s
  have h := fun s => flat_nil hs s
  unfold S0
  refine Fun.go has_ref3_Flat rfl fun B Q hB hQ => ?_
  have hlt : 0 < 1 := Nat.zero_lt_one
  have hget : 0 < 1 := Nat.zero_lt_one
  have hpu : 0 < 1 := Nat.zero_lt_one
  have hinc : 0 < 1 := Nat.zero_lt_one
  repeat' (first
 | simp only [go_sem, hlt, hget, hpu, hinc, Int.reduceLE, ↓reduceIte, reduceCtorEq, Nat.reduceEqDiff, Nat.reduceLeDiff, Nat.reduceAdd, Nat.reduceMul, Nat.reduceSub, Nat.reduceLT, Pc.flat]
 | (with_reducible refine CU (h _) ?_)
 | (with_reducible first | refine CB_ofT (by assumption) fun hc => ?_ | refine CB_ofF (by assumption) fun hc => ?_ | refine CB_split (fun hc => ?_) fun hc => ?_) <;> (try simp only [hc, bs, ↓reduceIte] at h) <;> (try simp only [hc])
 | ((with_reducible first | refine leafR hQ ?_ | refine leafN hQ ?_); (try cases h); simp only [resL, oneD, Option.some.injEq, exists_eq_left', go_sem, hlt, hget, hpu, hinc, Int.reduceLE, ↓reduceIte, reduceCtorEq, Nat.reduceEqDiff, Nat.reduceLeDiff, Nat.reduceAdd, Nat.reduceMul, Nat.reduceSub, Nat.reduceLT, Pc.flat]; repeat' (first | exact Ok.out | with_reducible refine And.intro ?_ ?_ | (simp; done)))
 | (cases h; replace h := hr; clear hr; (try simp only [bs, ↓reduceIte] at h))
 | (cases h; done))

end Go.Abs
