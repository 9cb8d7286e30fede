/-
  What is proved here: part 2 of the road to the claim (Codes0, Have0, Codes1, Have1, Codes2, Have2, Codes3, Have3, Prs, Lex1, Lex2, RefLex1, Prs2, Ref1, Ref2, Ref3, RefMay1, Full1, Full2, MirEq).
  No conditions.
-/
import Derived.Test.YtcknbmdkefcinaaDoorPyD1
import Derived.Test.YtcknbmdkefcinaaDoorProg
import Derived.KernelRfl

set_option linter.unusedSimpArgs false
set_option linter.unusedVariables false

/-! Codes0 -/

namespace Go.Abs

abbrev Q00 : AC := .run [(.op (some 2) none (.box (.s 0))), (.op (some 3) none (.box (.s 1))), (.op (some 4) none (.mv (.k (.bool false))))]
abbrev Q01 : AC := .run [(.call (some 5) none n_law5_printed []), (.op (some 6) none (.un .not (.s 5)))]
abbrev Q02 : AC := .run [(.op (some 4) none (.mv (.k (.bool false))))]
abbrev Q03 : AC := .seq Q02 .ret
abbrev Q04 : AC := .cond (.s 6) Q03 .skip
abbrev Q05 : AC := .seq Q01 Q04
abbrev Q06 : AC := .run [(.op (some 7) none (.load (.s 2) true 2)), (.call (some 8) none n_ref3_Fits [(.s 7)]), (.op (some 9) none (.un .not (.s 8))), (.op (some 10) none (.mv (.s 9))), (.op (some 11) (some (10, false)) (.load (.s 3) true 2)), (.call (some 12) (some (10, false)) n_ref3_Fits [(.s 11)]), (.op (some 13) (some (10, false)) (.un .not (.s 12))), (.op (some 14) none (.pick (.s 10) (.k (.bool true)) (.s 13)))]
abbrev Q07 : AC := .run [(.op (some 4) none (.mv (.k (.bool true))))]
abbrev Q08 : AC := .seq Q07 .ret
abbrev Q09 : AC := .cond (.s 14) Q08 .skip
abbrev Q0A : AC := .seq Q06 Q09
abbrev Q0B : AC := .run [(.op (some 15) none (.load (.s 2) true 2)), (.call (some 16) none n_ref3_May [(.s 15)]), (.op (some 17) none (.un .not (.s 16))), (.op (some 18) none (.mv (.s 17))), (.op (some 19) (some (18, false)) (.load (.s 3) true 2)), (.call (some 20) (some (18, false)) n_ref3_May [(.s 19)]), (.op (some 21) (some (18, false)) (.un .not (.s 20))), (.op (some 22) none (.pick (.s 18) (.k (.bool true)) (.s 21)))]
abbrev Q0C : AC := .run [(.op (some 4) none (.mv (.k (.bool true))))]
abbrev Q0D : AC := .seq Q0C .ret
abbrev Q0E : AC := .cond (.s 22) Q0D .skip
abbrev Q0F : AC := .seq Q0B Q0E
abbrev Q0G : AC := .par [(.op (some 23) none (.load (.s 2) true 2)), (.call (some 24) none n_print_Text [(.s 23)]), (.op (some 25) none (.load (.s 3) true 2)), (.call (some 26) none n_print_Text [(.s 25)]), (.op (some 27) none (.bin .eql (.s 24) (.s 26))), (.op (some 28) none (.load (.s 2) true 2)), (.op (some 29) none (.load (.s 3) true 2)), (.call (some 30) none n_ref3_Eq [(.s 28), (.s 29)]), (.op (some 31) none (.eqb false (.s 27) (.s 30))), (.op (some 4) none (.mv (.s 31)))] [(0, 0), (1, 0), (2, 1), (3, 0), (5, 2), (6, 2), (7, 0), (4, 0), (8, 0), (9, 0)]
abbrev Q0H : AC := .seq Q0G .ret
abbrev Q0I : AC := .seq Q0F Q0H
abbrev Q0J : AC := .seq Q0A Q0I
abbrev Q0K : AC := .seq Q05 Q0J
abbrev Q0L : AC := .seq Q00 Q0K
abbrev Q0M : AC := .run [(.op (some 0) none (.mv (.k (.bool false))))]
abbrev Q0N : AC := .run [(.call (some 2) none n_ref3_Some []), (.op (some 1) none (.alloc [(.slice .full 0 []), (.slice .full 0 [])])), (.op none none (.store (.s 1) (.s 2) 2))]
abbrev Q0O : AC := .run [(.op (some 3) none (.load (.s 1) true 2)), (.call (some 4) none n_print_Text [(.s 3)]), (.call (some 5) none n_ref3_Source []), (.op (some 6) none (.bin .eql (.s 4) (.s 5))), (.op (some 7) none (.mv (.s 6))), (.op (some 8) (some (7, true)) (.faddr (.s 1) 1)), (.op (some 9) (some (7, true)) (.load (.s 8) false 1)), (.op (some 10) (some (7, true)) (.iaddr (.s 9) (.k (.int .i64 1)) 5)), (.op (some 11) (some (7, true)) (.faddr (.s 10) 3)), (.op (some 12) (some (7, true)) (.load (.s 11) false 1)), (.op (some 13) (some (7, true)) (.iaddr (.s 12) (.k (.int .i64 1)) 13)), (.op (some 14) (some (7, true)) (.faddr (.s 13) 5)), (.op (some 15) (some (7, true)) (.load (.s 14) true 4)), (.call (some 16) (some (7, true)) n_print_Expr [(.s 15)]), (.op (some 17) (some (7, true)) (.bin .eql (.s 16) (.k (.str [121, 32, 62, 32, 57])))), (.op (some 18) none (.pick (.s 7) (.s 17) (.k (.bool false)))), (.op (some 0) none (.mv (.s 18)))]
abbrev Q0P : AC := .seq Q0O .ret
abbrev Q0Q : AC := .seq Q0N Q0P
abbrev Q0R : AC := .seq Q0M Q0Q
abbrev Q0S : AC := .run [(.op (some 1) none (.box (.s 0))), (.op (some 2) none (.mv (.k (.bool false))))]
abbrev Q0T : AC := .run [(.op (some 7) none (.faddr (.s 1) 0)), (.op (some 8) none (.load (.s 7) false 1)), (.call (some 9) none n_ref3_weighTexts [(.s 8), (.k (.int .i64 0))]), (.op (some 3) none (.mv (.s 9)))]
abbrev Q0U : AC := .run [(.op (some 4) none (.mv (.k (.int .i64 0))))]
abbrev Q0V : AC := .run [(.op (some 10) none (.mv (.s 4))), (.op (some 11) none (.faddr (.s 1) 1)), (.op (some 12) none (.load (.s 11) false 1)), (.op (some 13) none (.len (.s 12))), (.op (some 14) none (.bin .lss (.s 10) (.s 13))), (.op (some 15) none (.mv (.s 14))), (.op (some 16) (some (15, true)) (.mv (.s 3))), (.op (some 17) (some (15, true)) (.bin .leq (.s 16) (.k (.int .i64 20000)))), (.op (some 18) none (.pick (.s 15) (.s 17) (.k (.bool false))))]
abbrev Q0W : AC := .cond (.s 18) .skip (.exit 0)
abbrev Q0X : AC := .seq Q0V Q0W
abbrev Q0Y : AC := .run [(.op (some 21) none (.faddr (.s 1) 1)), (.op (some 22) none (.load (.s 21) false 1)), (.op (some 23) none (.mv (.s 4))), (.op (some 24) none (.iaddr (.s 22) (.s 23) 5)), (.op (some 25) none (.load (.s 24) true 5)), (.op (some 5) none (.alloc [(.str []), (.slice .full 0 []), (.slice .full 0 []), (.slice .full 0 []), (.slice .full 0 [])])), (.op none none (.store (.s 5) (.s 25) 5))]
abbrev Q0Z : AC := .par [(.op (some 26) none (.faddr (.s 5) 4)), (.op (some 27) none (.load (.s 26) false 1)), (.op (some 28) none (.faddr (.s 5) 2)), (.op (some 29) none (.load (.s 28) false 1)), (.op (some 30) none (.faddr (.s 5) 0)), (.op (some 31) none (.load (.s 30) false 1)), (.op (some 32) none (.mv (.s 3))), (.call (some 33) none n_ref3_weighText [(.s 31), (.s 32)]), (.call (some 34) none n_ref3_weighTexts [(.s 29), (.s 33)]), (.call (some 35) none n_ref3_weighTexts [(.s 27), (.s 34)]), (.op (some 3) none (.mv (.s 35)))] [(4, 0), (5, 0), (6, 0), (7, 0), (2, 0), (3, 1), (8, 0), (0, 0), (1, 2), (9, 0), (10, 0)]
abbrev Q10 : AC := .run [(.op (some 6) none (.mv (.k (.int .i64 0))))]
abbrev Q11 : AC := .run [(.op (some 36) none (.mv (.s 6))), (.op (some 37) none (.faddr (.s 5) 1)), (.op (some 38) none (.load (.s 37) false 1)), (.op (some 39) none (.len (.s 38))), (.op (some 40) none (.bin .lss (.s 36) (.s 39))), (.op (some 41) none (.mv (.s 40))), (.op (some 42) (some (41, true)) (.mv (.s 3))), (.op (some 43) (some (41, true)) (.bin .leq (.s 42) (.k (.int .i64 20000)))), (.op (some 44) none (.pick (.s 41) (.s 43) (.k (.bool false))))]
abbrev Q12 : AC := .cond (.s 44) .skip (.exit 2)
abbrev Q13 : AC := .seq Q11 Q12
abbrev Q14 : AC := .run [(.op (some 47) none (.faddr (.s 5) 1)), (.op (some 48) none (.load (.s 47) false 1)), (.op (some 49) none (.mv (.s 6))), (.op (some 50) none (.iaddr (.s 48) (.s 49) 2)), (.op (some 51) none (.faddr (.s 50) 0)), (.op (some 52) none (.load (.s 51) false 1)), (.op (some 53) none (.mv (.s 3))), (.call (some 54) none n_ref3_weighText [(.s 52), (.s 53)]), (.op (some 3) none (.mv (.s 54)))]
abbrev Q15 : AC := .block 3 Q14
abbrev Q16 : AC := .run [(.op (some 45) none (.mv (.s 6))), (.op (some 46) none (.bin .add (.s 45) (.k (.int .i64 1)))), (.op (some 6) none (.mv (.s 46)))]
abbrev Q17 : AC := .seq Q15 Q16
abbrev Q18 : AC := .seq Q13 Q17
abbrev Q19 : AC := .loop Q18
abbrev Q1A : AC := .block 2 Q19
abbrev Q1B : AC := .seq Q10 Q1A
abbrev Q1C : AC := .run [(.op (some 55) none (.faddr (.s 5) 3)), (.op (some 56) none (.load (.s 55) false 1)), (.op (some 57) none (.mv (.s 3))), (.call (some 58) none n_ref3_weighStmts [(.s 56), (.s 57)]), (.op (some 3) none (.mv (.s 58)))]
abbrev Q1D : AC := .seq Q1B Q1C
abbrev Q1E : AC := .seq Q0Z Q1D
abbrev Q1F : AC := .seq Q0Y Q1E
abbrev Q1G : AC := .block 1 Q1F
abbrev Q1H : AC := .run [(.op (some 19) none (.mv (.s 4))), (.op (some 20) none (.bin .add (.s 19) (.k (.int .i64 1)))), (.op (some 4) none (.mv (.s 20)))]
abbrev Q1I : AC := .seq Q1G Q1H
abbrev Q1J : AC := .seq Q0X Q1I
abbrev Q1K : AC := .loop Q1J
abbrev Q1L : AC := .block 0 Q1K
abbrev Q1M : AC := .seq Q0U Q1L
abbrev Q1N : AC := .run [(.op (some 59) none (.mv (.s 3))), (.op (some 60) none (.bin .leq (.s 59) (.k (.int .i64 20000)))), (.op (some 2) none (.mv (.s 60)))]
abbrev Q1O : AC := .seq Q1N .ret
abbrev Q1P : AC := .seq Q1M Q1O
abbrev Q1Q : AC := .seq Q0T Q1P
abbrev Q1R : AC := .seq Q0S Q1Q
abbrev Q1S : AC := .run [(.op (some 1) none (.box (.s 0))), (.op (some 2) none (.mv (.k (.str []))))]
abbrev Q1T : AC := .run [(.op (some 9) none (.load (.s 1) true 2)), (.call (some 10) none n_tree_May [(.s 9)]), (.op (some 11) none (.un .not (.s 10)))]
abbrev Q1U : AC := .run [(.op (some 2) none (.mv (.k (.str []))))]
abbrev Q1V : AC := .seq Q1U .ret
abbrev Q1W : AC := .cond (.s 11) Q1V .skip
abbrev Q1X : AC := .seq Q1T Q1W
abbrev Q1Y : AC := .run [(.op (some 12) none (.build [.nilp, (.val (.slice none 0 0))] [])), (.op (some 13) none (.boxB (.s 12) 68)), (.op (some 3) none (.mv (.s 13)))]
abbrev Q1Z : AC := .run [(.op (some 14) none (.faddr (.s 1) 0)), (.op (some 15) none (.load (.s 14) false 1)), (.op (some 16) none (.len (.s 15))), (.op (some 17) none (.bin .gtr (.s 16) (.k (.int .i64 0))))]
abbrev Q20 : AC := .run [(.op (some 18) none (.mv (.s 3))), (.op (some 19) none (.faddr (.s 1) 0)), (.op (some 20) none (.load (.s 19) false 1)), (.call (some 21) none n_strings_Join [(.s 20), (.k (.str [44, 32]))]), (.op (some 22) none (.bin .add (.k (.str [103, 108, 111, 98, 97, 108, 32])) (.s 21))), (.op (some 23) none (.bin .add (.s 22) (.k (.str [59])))), (.call (some 24) none n_print_writer_line [(.s 18), (.k (.int .i64 0)), (.s 23)])]
abbrev Q21 : AC := .cond (.s 17) Q20 .skip
abbrev Q22 : AC := .seq Q1Z Q21
abbrev Q23 : AC := .run [(.op (some 25) none (.faddr (.s 1) 1)), (.op (some 26) none (.load (.s 25) false 1)), (.op (some 27) none (.len (.s 26))), (.op (some 28) none (.mv (.k (.int .i64 0))))]
abbrev Q24 : AC := .run [(.op (some 29) none (.bin .lss (.s 28) (.s 27)))]
abbrev Q25 : AC := .cond (.s 29) .skip (.exit 0)
abbrev Q26 : AC := .run [(.op (some 30) none (.iaddr (.s 26) (.s 28) 5)), (.op (some 31) none (.load (.s 30) true 5)), (.op (some 5) none (.alloc [(.str []), (.slice .full 0 []), (.slice .full 0 []), (.slice .full 0 []), (.slice .full 0 [])])), (.op none none (.store (.s 5) (.s 31) 5))]
abbrev Q27 : AC := .run [(.op (some 6) none (.mv (.k (.slice .full 0 []))))]
abbrev Q28 : AC := .run [(.op (some 32) none (.faddr (.s 5) 1)), (.op (some 33) none (.load (.s 32) false 1)), (.op (some 34) none (.len (.s 33))), (.op (some 35) none (.mv (.k (.int .i64 0))))]
abbrev Q29 : AC := .run [(.op (some 36) none (.bin .lss (.s 35) (.s 34)))]
abbrev Q2A : AC := .cond (.s 36) .skip (.exit 2)
abbrev Q2B : AC := .run [(.op (some 37) none (.iaddr (.s 33) (.s 35) 2)), (.op (some 38) none (.load (.s 37) true 2)), (.op (some 8) none (.alloc [(.str []), (.bool false)])), (.op none none (.store (.s 8) (.s 38) 2))]
abbrev Q2C : AC := .par [(.op (some 39) none (.mv (.s 6))), (.op (some 40) none (.faddr (.s 8) 1)), (.op (some 41) none (.load (.s 40) false 1)), (.call (some 42) none n_print_ref [(.s 41)]), (.op (some 43) none (.faddr (.s 8) 0)), (.op (some 44) none (.load (.s 43) false 1)), (.op (some 45) none (.bin .add (.s 42) (.s 44))), (.op (some 46) none (.bslice [(.str [])] 1 1 [(0, (.s 45))])), (.op (some 47) none (.app 1 16 (.s 39) (.s 46))), (.op (some 6) none (.mv (.s 47)))] [(1, 0), (2, 0), (3, 0), (0, 0), (4, 0), (5, 1), (6, 0), (7, 0), (8, 0), (9, 0)]
abbrev Q2D : AC := .seq Q2B Q2C
abbrev Q2E : AC := .block 3 Q2D
abbrev Q2F : AC := .run [(.op (some 48) none (.bin .add (.s 35) (.k (.int .i64 1)))), (.op (some 35) none (.mv (.s 48)))]
abbrev Q2G : AC := .seq Q2E Q2F
abbrev Q2H : AC := .seq Q2A Q2G
abbrev Q2I : AC := .seq Q29 Q2H
abbrev Q2J : AC := .loop Q2I
abbrev Q2K : AC := .block 2 Q2J
abbrev Q2L : AC := .seq Q28 Q2K
abbrev Q2M : AC := .par [(.op (some 49) none (.mv (.s 3))), (.op (some 50) none (.faddr (.s 5) 0)), (.op (some 51) none (.load (.s 50) false 1)), (.op (some 52) none (.bin .add (.k (.str [112, 114, 111, 99, 32])) (.s 51))), (.op (some 53) none (.bin .add (.s 52) (.k (.str [40])))), (.op (some 54) none (.mv (.s 6))), (.call (some 55) none n_strings_Join [(.s 54), (.k (.str [44, 32]))]), (.op (some 56) none (.bin .add (.s 53) (.s 55))), (.op (some 57) none (.bin .add (.s 56) (.k (.str [41, 32, 123])))), (.call (some 58) none n_print_writer_line [(.s 49), (.k (.int .i64 0)), (.s 57)])] [(5, 0), (6, 0), (0, 0), (1, 0), (2, 1), (3, 0), (4, 0), (7, 0), (8, 0), (9, 0)]
abbrev Q2N : AC := .run [(.op (some 59) none (.faddr (.s 5) 2)), (.op (some 60) none (.load (.s 59) false 1)), (.op (some 61) none (.len (.s 60))), (.op (some 62) none (.bin .gtr (.s 61) (.k (.int .i64 0))))]
abbrev Q2O : AC := .run [(.op (some 63) none (.mv (.s 3))), (.op (some 64) none (.faddr (.s 5) 2)), (.op (some 65) none (.load (.s 64) false 1)), (.call (some 66) none n_strings_Join [(.s 65), (.k (.str [44, 32]))]), (.op (some 67) none (.bin .add (.k (.str [118, 97, 114, 32])) (.s 66))), (.op (some 68) none (.bin .add (.s 67) (.k (.str [59])))), (.call (some 69) none n_print_writer_line [(.s 63), (.k (.int .i64 1)), (.s 68)])]
abbrev Q2P : AC := .cond (.s 62) Q2O .skip
abbrev Q2Q : AC := .seq Q2N Q2P
abbrev Q2R : AC := .run [(.op (some 70) none (.mv (.s 3))), (.op (some 71) none (.faddr (.s 5) 3)), (.op (some 72) none (.load (.s 71) false 1)), (.call (some 73) none n_print_writer_rows [(.s 70), (.s 72), (.k (.int .i64 1))])]
abbrev Q2S : AC := .run [(.op (some 74) none (.mv (.s 3))), (.op (some 75) none (.faddr (.s 5) 4)), (.op (some 76) none (.load (.s 75) false 1)), (.call (some 77) none n_print_marks [(.s 76)]), (.op (some 78) none (.bin .add (.s 77) (.k (.str [125])))), (.call (some 79) none n_print_writer_line [(.s 74), (.k (.int .i64 0)), (.s 78)])]
abbrev Q2T : AC := .seq Q2R Q2S
abbrev Q2U : AC := .seq Q2Q Q2T
abbrev Q2V : AC := .seq Q2M Q2U
abbrev Q2W : AC := .seq Q2L Q2V
abbrev Q2X : AC := .seq Q27 Q2W
abbrev Q2Y : AC := .seq Q26 Q2X
abbrev Q2Z : AC := .block 1 Q2Y
abbrev Q30 : AC := .run [(.op (some 80) none (.bin .add (.s 28) (.k (.int .i64 1)))), (.op (some 28) none (.mv (.s 80)))]
abbrev Q31 : AC := .seq Q2Z Q30
abbrev Q32 : AC := .seq Q25 Q31
abbrev Q33 : AC := .seq Q24 Q32
abbrev Q34 : AC := .loop Q33
abbrev Q35 : AC := .block 0 Q34
abbrev Q36 : AC := .seq Q23 Q35
abbrev Q37 : AC := .run [(.op (some 81) none (.mv (.s 3))), (.op (some 82) none (.nilck (.s 81))), (.op (some 83) none (.faddr (.s 82) 0)), (.call (some 84) none n_strings_Builder_String [(.s 83)]), (.op (some 2) none (.mv (.s 84)))]
abbrev Q38 : AC := .seq Q37 .ret
abbrev Q39 : AC := .seq Q36 Q38
abbrev Q3A : AC := .seq Q22 Q39
abbrev Q3B : AC := .seq Q1Y Q3A
abbrev Q3C : AC := .seq Q1X Q3B
abbrev Q3D : AC := .seq Q1S Q3C
abbrev Q3E : AC := .run [(.op (some 1) none (.box (.s 0))), (.op (some 2) none (.mv (.k (.str []))))]
abbrev Q3F : AC := .run [(.op (some 3) none (.load (.s 1) true 4)), (.call (some 4) none n_tree_MayExpr [(.s 3)]), (.op (some 5) none (.un .not (.s 4)))]
abbrev Q3G : AC := .run [(.op (some 2) none (.mv (.k (.str []))))]
abbrev Q3H : AC := .seq Q3G .ret
abbrev Q3I : AC := .cond (.s 5) Q3H .skip
abbrev Q3J : AC := .seq Q3F Q3I
abbrev Q3K : AC := .run [(.op (some 6) none (.load (.s 1) true 4)), (.call (some 7) none n_print_expr [(.s 6), (.k (.int .i64 0))]), (.op (some 2) none (.mv (.s 7)))]
abbrev Q3L : AC := .seq Q3K .ret
abbrev Q3M : AC := .seq Q3J Q3L
abbrev Q3N : AC := .seq Q3E Q3M
abbrev Q3O : AC := .run [(.op (some 1) none (.box (.s 0))), (.op (some 2) none (.mv (.k (.bool false))))]
abbrev Q3P : AC := .run [(.op (some 9) none (.faddr (.s 1) 0)), (.op (some 10) none (.load (.s 9) false 1)), (.op (some 11) none (.len (.s 10))), (.op (some 12) none (.bin .gtr (.s 11) (.k (.int .i64 16)))), (.op (some 13) none (.mv (.s 12))), (.op (some 14) (some (13, false)) (.faddr (.s 1) 1)), (.op (some 15) (some (13, false)) (.load (.s 14) false 1)), (.op (some 16) (some (13, false)) (.len (.s 15))), (.op (some 17) (some (13, false)) (.bin .gtr (.s 16) (.k (.int .i64 16)))), (.op (some 18) none (.pick (.s 13) (.k (.bool true)) (.s 17))), (.op (some 19) none (.mv (.s 18))), (.op (some 20) (some (19, false)) (.faddr (.s 1) 0)), (.op (some 21) (some (19, false)) (.load (.s 20) false 1)), (.call (some 22) (some (19, false)) n_ref3_names [(.s 21)]), (.op (some 23) (some (19, false)) (.un .not (.s 22))), (.op (some 24) none (.pick (.s 19) (.k (.bool true)) (.s 23)))]
abbrev Q3Q : AC := .run [(.op (some 2) none (.mv (.k (.bool false))))]
abbrev Q3R : AC := .seq Q3Q .ret
abbrev Q3S : AC := .cond (.s 24) Q3R .skip
abbrev Q3T : AC := .seq Q3P Q3S
abbrev Q3U : AC := .run [(.op (some 25) none (.faddr (.s 1) 1)), (.op (some 26) none (.load (.s 25) false 1)), (.op (some 27) none (.len (.s 26))), (.op (some 28) none (.mv (.k (.int .i64 0))))]
abbrev Q3V : AC := .run [(.op (some 29) none (.bin .lss (.s 28) (.s 27)))]
abbrev Q3W : AC := .cond (.s 29) .skip (.exit 0)
abbrev Q3X : AC := .run [(.op (some 30) none (.iaddr (.s 26) (.s 28) 5)), (.op (some 31) none (.load (.s 30) true 5)), (.op (some 4) none (.alloc [(.str []), (.slice .full 0 []), (.slice .full 0 []), (.slice .full 0 []), (.slice .full 0 [])])), (.op none none (.store (.s 4) (.s 31) 5))]
abbrev Q3Y : AC := .run [(.op (some 32) none (.faddr (.s 4) 0)), (.op (some 33) none (.load (.s 32) false 1)), (.call (some 34) none n_ref1_Name [(.s 33)]), (.op (some 35) none (.un .not (.s 34))), (.op (some 36) none (.mv (.s 35))), (.op (some 37) (some (36, false)) (.faddr (.s 4) 1)), (.op (some 38) (some (36, false)) (.load (.s 37) false 1)), (.op (some 39) (some (36, false)) (.len (.s 38))), (.op (some 40) (some (36, false)) (.bin .gtr (.s 39) (.k (.int .i64 8)))), (.op (some 41) none (.pick (.s 36) (.k (.bool true)) (.s 40))), (.op (some 42) none (.mv (.s 41))), (.op (some 43) (some (42, false)) (.faddr (.s 4) 2)), (.op (some 44) (some (42, false)) (.load (.s 43) false 1)), (.op (some 45) (some (42, false)) (.len (.s 44))), (.op (some 46) (some (42, false)) (.bin .gtr (.s 45) (.k (.int .i64 16)))), (.op (some 47) none (.pick (.s 42) (.k (.bool true)) (.s 46))), (.op (some 48) none (.mv (.s 47))), (.op (some 49) (some (48, false)) (.faddr (.s 4) 2)), (.op (some 50) (some (48, false)) (.load (.s 49) false 1)), (.call (some 51) (some (48, false)) n_ref3_names [(.s 50)]), (.op (some 52) (some (48, false)) (.un .not (.s 51))), (.op (some 53) none (.pick (.s 48) (.k (.bool true)) (.s 52))), (.op (some 54) none (.mv (.s 53))), (.op (some 55) (some (54, false)) (.faddr (.s 4) 4)), (.op (some 56) (some (54, false)) (.load (.s 55) false 1)), (.call (some 57) (some (54, false)) n_ref3_names [(.s 56)]), (.op (some 58) (some (54, false)) (.un .not (.s 57))), (.op (some 59) none (.pick (.s 54) (.k (.bool true)) (.s 58)))]
abbrev Q3Z : AC := .run [(.op (some 2) none (.mv (.k (.bool false))))]
abbrev Q40 : AC := .seq Q3Z .ret
abbrev Q41 : AC := .cond (.s 59) Q40 .skip
abbrev Q42 : AC := .seq Q3Y Q41
abbrev Q43 : AC := .run [(.op (some 60) none (.faddr (.s 4) 1)), (.op (some 61) none (.load (.s 60) false 1)), (.op (some 62) none (.len (.s 61))), (.op (some 63) none (.mv (.k (.int .i64 0))))]
abbrev Q44 : AC := .run [(.op (some 64) none (.bin .lss (.s 63) (.s 62)))]
abbrev Q45 : AC := .cond (.s 64) .skip (.exit 2)
abbrev Q46 : AC := .run [(.op (some 65) none (.iaddr (.s 61) (.s 63) 2)), (.op (some 66) none (.load (.s 65) true 2)), (.op (some 6) none (.alloc [(.str []), (.bool false)])), (.op none none (.store (.s 6) (.s 66) 2))]
abbrev Q47 : AC := .run [(.op (some 67) none (.faddr (.s 6) 0)), (.op (some 68) none (.load (.s 67) false 1)), (.call (some 69) none n_ref1_Name [(.s 68)]), (.op (some 70) none (.un .not (.s 69)))]
abbrev Q48 : AC := .run [(.op (some 2) none (.mv (.k (.bool false))))]
abbrev Q49 : AC := .seq Q48 .ret
abbrev Q4A : AC := .cond (.s 70) Q49 .skip
abbrev Q4B : AC := .seq Q47 Q4A
abbrev Q4C : AC := .seq Q46 Q4B
abbrev Q4D : AC := .block 3 Q4C
abbrev Q4E : AC := .run [(.op (some 71) none (.bin .add (.s 63) (.k (.int .i64 1)))), (.op (some 63) none (.mv (.s 71)))]
abbrev Q4F : AC := .seq Q4D Q4E
abbrev Q4G : AC := .seq Q45 Q4F
abbrev Q4H : AC := .seq Q44 Q4G
abbrev Q4I : AC := .loop Q4H
abbrev Q4J : AC := .block 2 Q4I
abbrev Q4K : AC := .seq Q43 Q4J
abbrev Q4L : AC := .seq Q42 Q4K
abbrev Q4M : AC := .seq Q3X Q4L
abbrev Q4N : AC := .block 1 Q4M
abbrev Q4O : AC := .run [(.op (some 72) none (.bin .add (.s 28) (.k (.int .i64 1)))), (.op (some 28) none (.mv (.s 72)))]
abbrev Q4P : AC := .seq Q4N Q4O
abbrev Q4Q : AC := .seq Q3W Q4P
abbrev Q4R : AC := .seq Q3V Q4Q
abbrev Q4S : AC := .loop Q4R
abbrev Q4T : AC := .block 0 Q4S
abbrev Q4U : AC := .seq Q3U Q4T
abbrev Q4V : AC := .run [(.op (some 73) none (.load (.s 1) true 2)), (.call (some 74) none n_ref3_All [(.s 73)]), (.op (some 7) none (.mv (.s 74)))]
abbrev Q4W : AC := .run [(.op (some 75) none (.mv (.s 7))), (.op (some 76) none (.len (.s 75))), (.op (some 77) none (.bin .gtr (.s 76) (.k (.int .i64 200))))]
abbrev Q4X : AC := .run [(.op (some 2) none (.mv (.k (.bool false))))]
abbrev Q4Y : AC := .seq Q4X .ret
abbrev Q4Z : AC := .cond (.s 77) Q4Y .skip
abbrev Q50 : AC := .seq Q4W Q4Z
abbrev Q51 : AC := .run [(.op (some 78) none (.mv (.s 7))), (.op (some 79) none (.len (.s 78))), (.op (some 80) none (.mv (.k (.int .i64 0))))]
abbrev Q52 : AC := .run [(.op (some 81) none (.bin .lss (.s 80) (.s 79)))]
abbrev Q53 : AC := .cond (.s 81) .skip (.exit 4)
abbrev Q54 : AC := .run [(.op (some 82) none (.mv (.s 80))), (.op (some 8) none (.mv (.s 82)))]
abbrev Q55 : AC := .run [(.op (some 83) none (.mv (.s 7))), (.op (some 84) none (.mv (.s 8))), (.op (some 85) none (.iaddr (.s 83) (.s 84) 16)), (.op (some 86) none (.faddr (.s 85) 0)), (.op (some 87) none (.faddr (.s 86) 0)), (.op (some 88) none (.load (.s 87) false 1)), (.op (some 89) none (.mv (.s 8))), (.op (some 90) none (.bin .add (.s 89) (.k (.int .i64 1)))), (.op (some 91) none (.bin .neq (.s 88) (.s 90))), (.op (some 92) none (.mv (.s 91))), (.op (some 93) (some (92, false)) (.mv (.s 7))), (.op (some 94) (some (92, false)) (.mv (.s 8))), (.op (some 95) (some (92, false)) (.iaddr (.s 93) (.s 94) 16)), (.op (some 96) (some (92, false)) (.faddr (.s 95) 13)), (.op (some 97) (some (92, false)) (.load (.s 96) false 1)), (.op (some 98) (some (92, false)) (.bin .gtr (.s 97) (.k (.int .i64 12)))), (.op (some 99) none (.pick (.s 92) (.k (.bool true)) (.s 98))), (.op (some 100) none (.mv (.s 99))), (.op (some 101) (some (100, false)) (.mv (.s 7))), (.op (some 102) (some (100, false)) (.mv (.s 8))), (.op (some 103) (some (100, false)) (.iaddr (.s 101) (.s 102) 16)), (.op (some 104) (some (100, false)) (.faddr (.s 103) 0)), (.op (some 105) (some (100, false)) (.load (.s 104) true 13)), (.call (some 106) (some (100, false)) n_ref3_one [(.s 105)]), (.op (some 107) (some (100, false)) (.un .not (.s 106))), (.op (some 108) none (.pick (.s 100) (.k (.bool true)) (.s 107)))]
abbrev Q56 : AC := .run [(.op (some 2) none (.mv (.k (.bool false))))]
abbrev Q57 : AC := .seq Q56 .ret
abbrev Q58 : AC := .cond (.s 108) Q57 .skip
abbrev Q59 : AC := .seq Q55 Q58
abbrev Q5A : AC := .seq Q54 Q59
abbrev Q5B : AC := .block 5 Q5A
abbrev Q5C : AC := .run [(.op (some 109) none (.bin .add (.s 80) (.k (.int .i64 1)))), (.op (some 80) none (.mv (.s 109)))]
abbrev Q5D : AC := .seq Q5B Q5C
abbrev Q5E : AC := .seq Q53 Q5D
abbrev Q5F : AC := .seq Q52 Q5E
abbrev Q5G : AC := .loop Q5F
abbrev Q5H : AC := .block 4 Q5G
abbrev Q5I : AC := .seq Q51 Q5H
abbrev Q5J : AC := .run [(.op (some 2) none (.mv (.k (.bool true))))]
abbrev Q5K : AC := .seq Q5J .ret
abbrev Q5L : AC := .seq Q5I Q5K
abbrev Q5M : AC := .seq Q50 Q5L
abbrev Q5N : AC := .seq Q4V Q5M
abbrev Q5O : AC := .seq Q4U Q5N
abbrev Q5P : AC := .seq Q3T Q5O
abbrev Q5Q : AC := .seq Q3O Q5P
abbrev Q5R : AC := .run [(.op (some 2) none (.box (.s 0))), (.op (some 3) none (.box (.s 1))), (.op (some 4) none (.mv (.k (.bool false))))]
abbrev Q5S : AC := .run [(.op (some 9) none (.faddr (.s 2) 0)), (.op (some 10) none (.load (.s 9) false 1)), (.op (some 11) none (.faddr (.s 3) 0)), (.op (some 12) none (.load (.s 11) false 1)), (.call (some 13) none n_ref3_EqTexts [(.s 10), (.s 12)]), (.op (some 14) none (.un .not (.s 13))), (.op (some 15) none (.mv (.s 14))), (.op (some 16) (some (15, false)) (.faddr (.s 2) 1)), (.op (some 17) (some (15, false)) (.load (.s 16) false 1)), (.op (some 18) (some (15, false)) (.len (.s 17))), (.op (some 19) (some (15, false)) (.faddr (.s 3) 1)), (.op (some 20) (some (15, false)) (.load (.s 19) false 1)), (.op (some 21) (some (15, false)) (.len (.s 20))), (.op (some 22) (some (15, false)) (.bin .neq (.s 18) (.s 21))), (.op (some 23) none (.pick (.s 15) (.k (.bool true)) (.s 22)))]
abbrev Q5T : AC := .run [(.op (some 4) none (.mv (.k (.bool false))))]
abbrev Q5U : AC := .seq Q5T .ret
abbrev Q5V : AC := .cond (.s 23) Q5U .skip
abbrev Q5W : AC := .seq Q5S Q5V
abbrev Q5X : AC := .run [(.op (some 24) none (.faddr (.s 2) 1)), (.op (some 25) none (.load (.s 24) false 1)), (.op (some 26) none (.len (.s 25))), (.op (some 27) none (.mv (.k (.int .i64 0))))]
abbrev Q5Y : AC := .run [(.op (some 28) none (.bin .lss (.s 27) (.s 26)))]
abbrev Q5Z : AC := .cond (.s 28) .skip (.exit 0)
abbrev Q60 : AC := .run [(.op (some 29) none (.mv (.s 27))), (.op (some 5) none (.mv (.s 29)))]
abbrev Q61 : AC := .par [(.op (some 30) none (.faddr (.s 2) 1)), (.op (some 31) none (.load (.s 30) false 1)), (.op (some 32) none (.mv (.s 5))), (.op (some 33) none (.iaddr (.s 31) (.s 32) 5)), (.op (some 34) none (.load (.s 33) true 5)), (.op (some 35) none (.faddr (.s 3) 1)), (.op (some 36) none (.load (.s 35) false 1)), (.op (some 37) none (.mv (.s 5))), (.op (some 38) none (.iaddr (.s 36) (.s 37) 5)), (.op (some 39) none (.load (.s 38) true 5)), (.op (some 6) none (.alloc [(.str []), (.slice .full 0 []), (.slice .full 0 []), (.slice .full 0 []), (.slice .full 0 [])])), (.op (some 7) none (.alloc [(.str []), (.slice .full 0 []), (.slice .full 0 []), (.slice .full 0 []), (.slice .full 0 [])])), (.op none none (.store (.s 6) (.s 34) 5)), (.op none none (.store (.s 7) (.s 39) 5))] [(10, 0), (11, 0), (0, 0), (1, 2), (2, 0), (3, 0), (4, 2), (12, 0), (5, 0), (6, 3), (7, 0), (8, 0), (9, 3), (13, 0)]
abbrev Q62 : AC := .run [(.op (some 40) none (.faddr (.s 6) 0)), (.op (some 41) none (.load (.s 40) false 1)), (.op (some 42) none (.faddr (.s 7) 0)), (.op (some 43) none (.load (.s 42) false 1)), (.op (some 44) none (.bin .neq (.s 41) (.s 43))), (.op (some 45) none (.mv (.s 44))), (.op (some 46) (some (45, false)) (.faddr (.s 6) 1)), (.op (some 47) (some (45, false)) (.load (.s 46) false 1)), (.op (some 48) (some (45, false)) (.len (.s 47))), (.op (some 49) (some (45, false)) (.faddr (.s 7) 1)), (.op (some 50) (some (45, false)) (.load (.s 49) false 1)), (.op (some 51) (some (45, false)) (.len (.s 50))), (.op (some 52) (some (45, false)) (.bin .neq (.s 48) (.s 51))), (.op (some 53) none (.pick (.s 45) (.k (.bool true)) (.s 52))), (.op (some 54) none (.mv (.s 53))), (.op (some 55) (some (54, false)) (.faddr (.s 6) 2)), (.op (some 56) (some (54, false)) (.load (.s 55) false 1)), (.op (some 57) (some (54, false)) (.faddr (.s 7) 2)), (.op (some 58) (some (54, false)) (.load (.s 57) false 1)), (.call (some 59) (some (54, false)) n_ref3_EqTexts [(.s 56), (.s 58)]), (.op (some 60) (some (54, false)) (.un .not (.s 59))), (.op (some 61) none (.pick (.s 54) (.k (.bool true)) (.s 60))), (.op (some 62) none (.mv (.s 61))), (.op (some 63) (some (62, false)) (.faddr (.s 6) 4)), (.op (some 64) (some (62, false)) (.load (.s 63) false 1)), (.op (some 65) (some (62, false)) (.faddr (.s 7) 4)), (.op (some 66) (some (62, false)) (.load (.s 65) false 1)), (.call (some 67) (some (62, false)) n_ref3_EqTexts [(.s 64), (.s 66)]), (.op (some 68) (some (62, false)) (.un .not (.s 67))), (.op (some 69) none (.pick (.s 62) (.k (.bool true)) (.s 68))), (.op (some 70) none (.mv (.s 69))), (.op (some 71) (some (70, false)) (.faddr (.s 6) 3)), (.op (some 72) (some (70, false)) (.load (.s 71) false 1)), (.op (some 73) (some (70, false)) (.faddr (.s 7) 3)), (.op (some 74) (some (70, false)) (.load (.s 73) false 1)), (.call (some 75) (some (70, false)) n_ref3_EqStmts [(.s 72), (.s 74)]), (.op (some 76) (some (70, false)) (.un .not (.s 75))), (.op (some 77) none (.pick (.s 70) (.k (.bool true)) (.s 76)))]
abbrev Q63 : AC := .run [(.op (some 4) none (.mv (.k (.bool false))))]
abbrev Q64 : AC := .seq Q63 .ret
abbrev Q65 : AC := .cond (.s 77) Q64 .skip
abbrev Q66 : AC := .seq Q62 Q65
abbrev Q67 : AC := .run [(.op (some 78) none (.faddr (.s 6) 1)), (.op (some 79) none (.load (.s 78) false 1)), (.op (some 80) none (.len (.s 79))), (.op (some 81) none (.mv (.k (.int .i64 0))))]
abbrev Q68 : AC := .run [(.op (some 82) none (.bin .lss (.s 81) (.s 80)))]
abbrev Q69 : AC := .cond (.s 82) .skip (.exit 2)
abbrev Q6A : AC := .run [(.op (some 83) none (.mv (.s 81))), (.op (some 8) none (.mv (.s 83)))]
abbrev Q6B : AC := .par [(.op (some 84) none (.faddr (.s 6) 1)), (.op (some 85) none (.load (.s 84) false 1)), (.op (some 86) none (.mv (.s 8))), (.op (some 87) none (.iaddr (.s 85) (.s 86) 2)), (.op (some 88) none (.load (.s 87) true 2)), (.op (some 89) none (.faddr (.s 7) 1)), (.op (some 90) none (.load (.s 89) false 1)), (.op (some 91) none (.mv (.s 8))), (.op (some 92) none (.iaddr (.s 90) (.s 91) 2)), (.op (some 93) none (.load (.s 92) true 2)), (.op (some 94) none (.eqs true [2, 1] (.s 88) (.s 93)))] [(0, 0), (1, 0), (2, 0), (3, 0), (4, 0), (5, 0), (6, 0), (7, 0), (8, 0), (9, 0), (10, 0)]
abbrev Q6C : AC := .run [(.op (some 4) none (.mv (.k (.bool false))))]
abbrev Q6D : AC := .seq Q6C .ret
abbrev Q6E : AC := .cond (.s 94) Q6D .skip
abbrev Q6F : AC := .seq Q6B Q6E
abbrev Q6G : AC := .seq Q6A Q6F
abbrev Q6H : AC := .block 3 Q6G
abbrev Q6I : AC := .run [(.op (some 95) none (.bin .add (.s 81) (.k (.int .i64 1)))), (.op (some 81) none (.mv (.s 95)))]
abbrev Q6J : AC := .seq Q6H Q6I
abbrev Q6K : AC := .seq Q69 Q6J
abbrev Q6L : AC := .seq Q68 Q6K
abbrev Q6M : AC := .loop Q6L
abbrev Q6N : AC := .block 2 Q6M
abbrev Q6O : AC := .seq Q67 Q6N
abbrev Q6P : AC := .seq Q66 Q6O
abbrev Q6Q : AC := .seq Q61 Q6P
abbrev Q6R : AC := .seq Q60 Q6Q
abbrev Q6S : AC := .block 1 Q6R
abbrev Q6T : AC := .run [(.op (some 96) none (.bin .add (.s 27) (.k (.int .i64 1)))), (.op (some 27) none (.mv (.s 96)))]
abbrev Q6U : AC := .seq Q6S Q6T
abbrev Q6V : AC := .seq Q5Z Q6U
abbrev Q6W : AC := .seq Q5Y Q6V
abbrev Q6X : AC := .loop Q6W
abbrev Q6Y : AC := .block 0 Q6X
abbrev Q6Z : AC := .seq Q5X Q6Y
abbrev Q70 : AC := .run [(.op (some 4) none (.mv (.k (.bool true))))]
abbrev Q71 : AC := .seq Q70 .ret
abbrev Q72 : AC := .seq Q6Z Q71
abbrev Q73 : AC := .seq Q5W Q72
abbrev Q74 : AC := .seq Q5R Q73
abbrev Q75 : AC := .run [(.op (some 1) none (.box (.s 0))), (.op (some 2) none (.mv (.k (.bool false))))]
abbrev Q76 : AC := .run [(.op (some 3) none (.load (.s 1) true 4)), (.call (some 4) none n_ref3_deep [(.s 3), (.k (.int .i64 20))]), (.op (some 5) none (.bin .leq (.s 4) (.k (.int .i64 20)))), (.op (some 6) none (.mv (.s 5))), (.op (some 7) (some (6, true)) (.load (.s 1) true 4)), (.call (some 8) (some (6, true)) n_ref3_form [(.s 7)]), (.op (some 9) none (.pick (.s 6) (.s 8) (.k (.bool false)))), (.op (some 2) none (.mv (.s 9)))]
abbrev Q77 : AC := .seq Q76 .ret
abbrev Q78 : AC := .seq Q75 Q77
abbrev Q79 : AC := .run [(.op (some 2) none (.box (.s 0))), (.op (some 3) none (.box (.s 1))), (.op (some 4) none (.mv (.k (.bool false))))]
abbrev Q7A : AC := .run [(.op (some 6) none (.faddr (.s 2) 0)), (.op (some 7) none (.load (.s 6) false 1)), (.op (some 8) none (.faddr (.s 3) 0)), (.op (some 9) none (.load (.s 8) false 1)), (.op (some 10) none (.bin .neq (.s 7) (.s 9))), (.op (some 11) none (.mv (.s 10))), (.op (some 12) (some (11, false)) (.faddr (.s 2) 1)), (.op (some 13) (some (11, false)) (.load (.s 12) false 1)), (.op (some 14) (some (11, false)) (.faddr (.s 3) 1)), (.op (some 15) (some (11, false)) (.load (.s 14) false 1)), (.op (some 16) (some (11, false)) (.bin .neq (.s 13) (.s 15))), (.op (some 17) none (.pick (.s 11) (.k (.bool true)) (.s 16))), (.op (some 18) none (.mv (.s 17))), (.op (some 19) (some (18, false)) (.faddr (.s 2) 2)), (.op (some 20) (some (18, false)) (.load (.s 19) false 1)), (.op (some 21) (some (18, false)) (.faddr (.s 3) 2)), (.op (some 22) (some (18, false)) (.load (.s 21) false 1)), (.op (some 23) (some (18, false)) (.bin .neq (.s 20) (.s 22))), (.op (some 24) none (.pick (.s 18) (.k (.bool true)) (.s 23))), (.op (some 25) none (.mv (.s 24))), (.op (some 26) (some (25, false)) (.faddr (.s 2) 3)), (.op (some 27) (some (25, false)) (.load (.s 26) false 1)), (.op (some 28) (some (25, false)) (.len (.s 27))), (.op (some 29) (some (25, false)) (.faddr (.s 3) 3)), (.op (some 30) (some (25, false)) (.load (.s 29) false 1)), (.op (some 31) (some (25, false)) (.len (.s 30))), (.op (some 32) (some (25, false)) (.bin .neq (.s 28) (.s 31))), (.op (some 33) none (.pick (.s 25) (.k (.bool true)) (.s 32)))]
abbrev Q7B : AC := .run [(.op (some 4) none (.mv (.k (.bool false))))]
abbrev Q7C : AC := .seq Q7B .ret
abbrev Q7D : AC := .cond (.s 33) Q7C .skip
abbrev Q7E : AC := .seq Q7A Q7D
abbrev Q7F : AC := .run [(.op (some 34) none (.faddr (.s 2) 3)), (.op (some 35) none (.load (.s 34) false 1)), (.op (some 36) none (.len (.s 35))), (.op (some 37) none (.mv (.k (.int .i64 0))))]
abbrev Q7G : AC := .run [(.op (some 38) none (.bin .lss (.s 37) (.s 36)))]
abbrev Q7H : AC := .cond (.s 38) .skip (.exit 0)
abbrev Q7I : AC := .run [(.op (some 39) none (.mv (.s 37))), (.op (some 5) none (.mv (.s 39)))]
abbrev Q7J : AC := .par [(.op (some 40) none (.faddr (.s 2) 3)), (.op (some 41) none (.load (.s 40) false 1)), (.op (some 42) none (.mv (.s 5))), (.op (some 43) none (.iaddr (.s 41) (.s 42) 4)), (.op (some 44) none (.load (.s 43) true 4)), (.op (some 45) none (.faddr (.s 3) 3)), (.op (some 46) none (.load (.s 45) false 1)), (.op (some 47) none (.mv (.s 5))), (.op (some 48) none (.iaddr (.s 46) (.s 47) 4)), (.op (some 49) none (.load (.s 48) true 4)), (.call (some 50) none n_ref3_EqExpr [(.s 44), (.s 49)]), (.op (some 51) none (.un .not (.s 50)))] [(0, 0), (1, 0), (2, 0), (3, 0), (4, 0), (5, 0), (6, 0), (7, 0), (8, 0), (9, 0), (10, 0), (11, 0)]
abbrev Q7K : AC := .run [(.op (some 4) none (.mv (.k (.bool false))))]
abbrev Q7L : AC := .seq Q7K .ret
abbrev Q7M : AC := .cond (.s 51) Q7L .skip
abbrev Q7N : AC := .seq Q7J Q7M
abbrev Q7O : AC := .seq Q7I Q7N
abbrev Q7P : AC := .block 1 Q7O
abbrev Q7Q : AC := .run [(.op (some 52) none (.bin .add (.s 37) (.k (.int .i64 1)))), (.op (some 37) none (.mv (.s 52)))]
abbrev Q7R : AC := .seq Q7P Q7Q
abbrev Q7S : AC := .seq Q7H Q7R
abbrev Q7T : AC := .seq Q7G Q7S
abbrev Q7U : AC := .loop Q7T
abbrev Q7V : AC := .block 0 Q7U
abbrev Q7W : AC := .seq Q7F Q7V
abbrev Q7X : AC := .run [(.op (some 4) none (.mv (.k (.bool true))))]
abbrev Q7Y : AC := .seq Q7X .ret
abbrev Q7Z : AC := .seq Q7W Q7Y
abbrev Q80 : AC := .seq Q7E Q7Z
abbrev Q81 : AC := .seq Q79 Q80
abbrev Q82 : AC := .run [(.op (some 0) none (.alloc [(.slice .full 0 []), (.slice .full 0 [])]))]
abbrev Q83 : AC := .run [(.op (some 3) none (.bslice [(.str [])] 1 1 [(0, (.k (.str [118])))])), (.call (some 4) none n_ref3_num [(.k (.int .i64 2))]), (.op (some 5) none (.build [(.int .i64 0), (.int .i64 0), (.slice .full 0 []), (.str []), (.str []), (.int .i64 0), (.int .i64 0), (.str []), (.slice .full 0 []), (.bool false), (.slice .full 0 []), (.slice .full 0 []), (.slice .full 0 [])] [(0, (1, (.k (.int .i64 1)))), (1, (1, (.k (.int .i64 1)))), (3, (1, (.k (.str [118])))), (5, (4, (.s 4)))])), (.call (some 6) none n_ref3_num [(.k (.int .i64 3))]), (.op (some 7) none (.build [(.bool false), (.str []), (.int .i64 0), (.int .i64 0), (.str []), (.slice .full 0 [])] [(2, (4, (.s 6)))])), (.op (some 8) none (.build [(.bool false), (.str []), (.int .i64 0), (.int .i64 0), (.str []), (.slice .full 0 [])] [(0, (1, (.k (.bool true)))), (1, (1, (.k (.str [118]))))])), (.op (some 9) none (.bslice [(.bool false), (.str []), (.int .i64 0), (.int .i64 0), (.str []), (.slice .full 0 [])] 6 2 [(0, (.s 7)), (1, (.s 8))])), (.op (some 10) none (.build [(.int .i64 0), (.int .i64 0), (.slice .full 0 []), (.str []), (.str []), (.int .i64 0), (.int .i64 0), (.str []), (.slice .full 0 []), (.bool false), (.slice .full 0 []), (.slice .full 0 []), (.slice .full 0 [])] [(0, (1, (.k (.int .i64 2)))), (1, (1, (.k (.int .i64 4)))), (3, (1, (.k (.str [103])))), (4, (1, (.k (.str [112])))), (10, (1, (.s 9)))])), (.call (some 11) none n_ref3_name [(.k (.str [118]))]), (.op (some 12) none (.build [(.int .i64 0), (.int .i64 0), (.slice .full 0 []), (.str []), (.str []), (.int .i64 0), (.int .i64 0), (.str []), (.slice .full 0 []), (.bool false), (.slice .full 0 []), (.slice .full 0 []), (.slice .full 0 [])] [(0, (1, (.k (.int .i64 3)))), (1, (1, (.k (.int .i64 3)))), (5, (4, (.s 11)))])), (.call (some 13) none n_ref3_name [(.k (.str [103]))]), (.op (some 14) none (.build [(.int .i64 0), (.int .i64 0), (.slice .full 0 []), (.str []), (.str []), (.int .i64 0), (.int .i64 0), (.str []), (.slice .full 0 []), (.bool false), (.slice .full 0 []), (.slice .full 0 []), (.slice .full 0 [])] [(0, (1, (.k (.int .i64 4)))), (1, (1, (.k (.int .i64 3)))), (5, (4, (.s 13)))])), (.op (some 15) none (.bslice [(.int .i64 0), (.int .i64 0), (.slice .full 0 []), (.str []), (.str []), (.int .i64 0), (.int .i64 0), (.str []), (.slice .full 0 []), (.bool false), (.slice .full 0 []), (.slice .full 0 []), (.slice .full 0 [])] 13 4 [(0, (.s 5)), (1, (.s 10)), (2, (.s 12)), (3, (.s 14))])), (.op (some 16) none (.build [(.str []), (.slice .full 0 []), (.slice .full 0 []), (.slice .full 0 []), (.slice .full 0 [])] [(0, (1, (.k (.str [109, 97, 105, 110])))), (2, (1, (.s 3))), (3, (1, (.s 15)))])), (.op (some 1) none (.alloc [(.str []), (.slice .full 0 []), (.slice .full 0 []), (.slice .full 0 []), (.slice .full 0 [])])), (.op none none (.store (.s 1) (.s 16) 5))]
abbrev Q84 : AC := .run [(.op (some 17) none (.build [(.str []), (.bool false)] [(0, (1, (.k (.str [120]))))])), (.op (some 18) none (.build [(.str []), (.bool false)] [(0, (1, (.k (.str [121])))), (1, (1, (.k (.bool true))))])), (.op (some 19) none (.bslice [(.str []), (.bool false)] 2 2 [(0, (.s 17)), (1, (.s 18))])), (.op (some 20) none (.bslice [(.str [])] 1 1 [(0, (.k (.str [101])))])), (.call (some 21) none n_ref3_name [(.k (.str [121]))]), (.call (some 22) none n_ref3_name [(.k (.str [120]))]), (.call (some 23) none n_ref3_two [(.k (.int .i64 8)), (.s 21), (.s 22)]), (.op (some 24) none (.build [(.int .i64 0), (.int .i64 0), (.slice .full 0 []), (.str []), (.str []), (.int .i64 0), (.int .i64 0), (.str []), (.slice .full 0 []), (.bool false), (.slice .full 0 []), (.slice .full 0 []), (.slice .full 0 [])] [(0, (1, (.k (.int .i64 5)))), (1, (1, (.k (.int .i64 1)))), (3, (1, (.k (.str [121])))), (5, (4, (.s 23)))])), (.call (some 25) none n_ref3_name [(.k (.str [121]))]), (.call (some 26) none n_ref3_num [(.k (.int .i64 9))]), (.call (some 27) none n_ref3_two [(.k (.int .i64 12)), (.s 25), (.s 26)]), (.op (some 28) none (.build [(.int .i64 0), (.int .i64 0), (.slice .full 0 []), (.str []), (.str []), (.int .i64 0), (.int .i64 0), (.str []), (.slice .full 0 []), (.bool false), (.slice .full 0 []), (.slice .full 0 []), (.slice .full 0 [])] [(0, (1, (.k (.int .i64 7)))), (1, (1, (.k (.int .i64 10)))), (3, (1, (.k (.str [101]))))])), (.op (some 29) none (.bslice [(.int .i64 0), (.int .i64 0), (.slice .full 0 []), (.str []), (.str []), (.int .i64 0), (.int .i64 0), (.str []), (.slice .full 0 []), (.bool false), (.slice .full 0 []), (.slice .full 0 []), (.slice .full 0 [])] 13 1 [(0, (.s 28))])), (.op (some 30) none (.build [(.int .i64 0), (.int .i64 0), (.slice .full 0 []), (.str []), (.str []), (.int .i64 0), (.int .i64 0), (.str []), (.slice .full 0 []), (.bool false), (.slice .full 0 []), (.slice .full 0 []), (.slice .full 0 [])] [(0, (1, (.k (.int .i64 6)))), (1, (1, (.k (.int .i64 5)))), (5, (4, (.s 27))), (11, (1, (.s 29)))])), (.call (some 31) none n_ref3_name [(.k (.str [121]))]), (.op (some 32) none (.build [(.int .i64 0), (.int .i64 0), (.slice .full 0 []), (.str []), (.str []), (.int .i64 0), (.int .i64 0), (.str []), (.slice .full 0 []), (.bool false), (.slice .full 0 []), (.slice .full 0 []), (.slice .full 0 [])] [(0, (1, (.k (.int .i64 8)))), (1, (1, (.k (.int .i64 9)))), (9, (1, (.k (.bool true)))), (5, (4, (.s 31)))])), (.op (some 33) none (.bslice [(.int .i64 0), (.int .i64 0), (.slice .full 0 []), (.str []), (.str []), (.int .i64 0), (.int .i64 0), (.str []), (.slice .full 0 []), (.bool false), (.slice .full 0 []), (.slice .full 0 []), (.slice .full 0 [])] 13 3 [(0, (.s 24)), (1, (.s 30)), (2, (.s 32))])), (.op (some 34) none (.build [(.str []), (.slice .full 0 []), (.slice .full 0 []), (.slice .full 0 []), (.slice .full 0 [])] [(0, (1, (.k (.str [112])))), (1, (1, (.s 19))), (4, (1, (.s 20))), (3, (1, (.s 33)))])), (.op (some 2) none (.alloc [(.str []), (.slice .full 0 []), (.slice .full 0 []), (.slice .full 0 []), (.slice .full 0 [])])), (.op none none (.store (.s 2) (.s 34) 5))]
abbrev Q85 : AC := .run [(.op (some 35) none (.bslice [(.str [])] 1 1 [(0, (.k (.str [103])))])), (.op (some 36) none (.load (.s 1) true 5)), (.op (some 37) none (.load (.s 2) true 5)), (.op (some 38) none (.bslice [(.str []), (.slice .full 0 []), (.slice .full 0 []), (.slice .full 0 []), (.slice .full 0 [])] 5 2 [(0, (.s 36)), (1, (.s 37))])), (.op (some 39) none (.build [(.slice .full 0 []), (.slice .full 0 [])] [(0, (1, (.s 35))), (1, (1, (.s 38)))])), (.op none none (.store (.s 0) (.s 39) 2))]
abbrev Q86 : AC := .seq Q85 .ret
abbrev Q87 : AC := .seq Q84 Q86
abbrev Q88 : AC := .seq Q83 Q87
abbrev Q89 : AC := .seq Q82 Q88
abbrev Q8A : AC := .run [(.op (some 0) none (.mv (.k (.str []))))]
abbrev Q8B : AC := .run [(.op (some 0) none (.mv (.k (.str [103, 108, 111, 98, 97, 108, 32, 103, 59, 10, 112, 114, 111, 99, 32, 109, 97, 105, 110, 40, 41, 32, 123, 10, 32, 118, 97, 114, 32, 118, 59, 10, 32, 118, 32, 61, 32, 50, 59, 10, 32, 103, 32, 61, 32, 112, 40, 51, 44, 32, 114, 101, 102, 32, 118, 41, 59, 10, 32, 112, 114, 105, 110, 116, 32, 118, 59, 10, 32, 112, 114, 105, 110, 116, 32, 103, 59, 10, 125, 10, 112, 114, 111, 99, 32, 112, 40, 120, 44, 32, 114, 101, 102, 32, 121, 41, 32, 123, 10, 32, 121, 32, 61, 32, 121, 32, 43, 32, 120, 59, 10, 32, 105, 102, 32, 40, 121, 32, 62, 32, 57, 41, 32, 123, 10, 32, 32, 103, 111, 116, 111, 32, 101, 59, 10, 32, 125, 10, 32, 114, 101, 116, 117, 114, 110, 32, 121, 59, 10, 101, 58, 32, 125, 10]))))]
abbrev Q8C : AC := .seq Q8B .ret
abbrev Q8D : AC := .seq Q8A Q8C
abbrev Q8E : AC := .run [(.op (some 4) none (.mv (.k (.int .i64 0))))]
abbrev Q8F : AC := .run [(.op (some 5) none (.mv (.k (.int .i64 0))))]
abbrev Q8G : AC := .run [(.op (some 6) none (.mv (.s 5))), (.op (some 7) none (.mv (.s 0))), (.op (some 8) none (.len (.s 7))), (.op (some 9) none (.bin .lss (.s 6) (.s 8))), (.op (some 10) none (.mv (.s 9))), (.op (some 11) (some (10, true)) (.mv (.s 1))), (.op (some 12) (some (10, true)) (.bin .leq (.s 11) (.k (.int .i64 20000)))), (.op (some 13) none (.pick (.s 10) (.s 12) (.k (.bool false))))]
abbrev Q8H : AC := .cond (.s 13) .skip (.exit 0)
abbrev Q8I : AC := .seq Q8G Q8H
abbrev Q8J : AC := .run [(.op (some 16) none (.mv (.s 0))), (.op (some 17) none (.mv (.s 5))), (.op (some 18) none (.iaddr (.s 16) (.s 17) 1)), (.op (some 19) none (.load (.s 18) false 1)), (.op (some 20) none (.mv (.s 1))), (.call (some 21) none n_ref3_weighText [(.s 19), (.s 20)]), (.op (some 1) none (.mv (.s 21)))]
abbrev Q8K : AC := .block 1 Q8J
abbrev Q8L : AC := .run [(.op (some 14) none (.mv (.s 5))), (.op (some 15) none (.bin .add (.s 14) (.k (.int .i64 1)))), (.op (some 5) none (.mv (.s 15)))]
abbrev Q8M : AC := .seq Q8K Q8L
abbrev Q8N : AC := .seq Q8I Q8M
abbrev Q8O : AC := .loop Q8N
abbrev Q8P : AC := .block 0 Q8O
abbrev Q8Q : AC := .seq Q8F Q8P
abbrev Q8R : AC := .run [(.op (some 22) none (.mv (.s 1))), (.op (some 4) none (.mv (.s 22)))]
abbrev Q8S : AC := .seq Q8R .ret
abbrev Q8T : AC := .seq Q8Q Q8S
abbrev Q8U : AC := .seq Q8E Q8T
abbrev Q8V : AC := .run [(.op (some 4) none (.mv (.k (.int .i64 0))))]
abbrev Q8W : AC := .run [(.op (some 5) none (.mv (.s 1))), (.op (some 6) none (.bin .gtr (.s 5) (.k (.int .i64 20000)))), (.op (some 7) none (.mv (.s 6))), (.op (some 8) (some (7, false)) (.mv (.s 0))), (.op (some 9) (some (7, false)) (.slen (.s 8))), (.op (some 10) (some (7, false)) (.mv (.s 1))), (.op (some 11) (some (7, false)) (.bin .sub (.k (.int .i64 20000)) (.s 10))), (.op (some 12) (some (7, false)) (.bin .geq (.s 9) (.s 11))), (.op (some 13) none (.pick (.s 7) (.k (.bool true)) (.s 12)))]
abbrev Q8X : AC := .run [(.op (some 4) none (.mv (.k (.int .i64 20001))))]
abbrev Q8Y : AC := .seq Q8X .ret
abbrev Q8Z : AC := .cond (.s 13) Q8Y .skip
abbrev Q90 : AC := .seq Q8W Q8Z
abbrev Q91 : AC := .run [(.op (some 14) none (.mv (.s 1))), (.op (some 15) none (.bin .add (.s 14) (.k (.int .i64 1)))), (.op (some 16) none (.mv (.s 0))), (.op (some 17) none (.slen (.s 16))), (.op (some 18) none (.bin .add (.s 15) (.s 17))), (.op (some 4) none (.mv (.s 18)))]
abbrev Q92 : AC := .seq Q91 .ret
abbrev Q93 : AC := .seq Q90 Q92
abbrev Q94 : AC := .seq Q8V Q93
abbrev Q95 : AC := .run [(.op (some 4) none (.mv (.k (.int .i64 0))))]
abbrev Q96 : AC := .run [(.op (some 5) none (.mv (.k (.int .i64 0))))]
abbrev Q97 : AC := .run [(.op (some 8) none (.mv (.s 5))), (.op (some 9) none (.mv (.s 0))), (.op (some 10) none (.len (.s 9))), (.op (some 11) none (.bin .lss (.s 8) (.s 10))), (.op (some 12) none (.mv (.s 11))), (.op (some 13) (some (12, true)) (.mv (.s 1))), (.op (some 14) (some (12, true)) (.bin .leq (.s 13) (.k (.int .i64 20000)))), (.op (some 15) none (.pick (.s 12) (.s 14) (.k (.bool false))))]
abbrev Q98 : AC := .cond (.s 15) .skip (.exit 0)
abbrev Q99 : AC := .seq Q97 Q98
abbrev Q9A : AC := .run [(.op (some 18) none (.mv (.s 0))), (.op (some 19) none (.mv (.s 5))), (.op (some 20) none (.iaddr (.s 18) (.s 19) 13)), (.op (some 21) none (.load (.s 20) true 13)), (.op (some 6) none (.alloc [(.int .i64 0), (.int .i64 0), (.slice .full 0 []), (.str []), (.str []), (.int .i64 0), (.int .i64 0), (.str []), (.slice .full 0 []), (.bool false), (.slice .full 0 []), (.slice .full 0 []), (.slice .full 0 [])])), (.op none none (.store (.s 6) (.s 21) 13))]
abbrev Q9B : AC := .par [(.op (some 22) none (.faddr (.s 6) 4)), (.op (some 23) none (.load (.s 22) false 1)), (.op (some 24) none (.faddr (.s 6) 3)), (.op (some 25) none (.load (.s 24) false 1)), (.op (some 26) none (.faddr (.s 6) 2)), (.op (some 27) none (.load (.s 26) false 1)), (.op (some 28) none (.faddr (.s 6) 5)), (.op (some 29) none (.load (.s 28) true 4)), (.op (some 30) none (.mv (.s 1))), (.call (some 31) none n_ref3_weighExpr [(.s 29), (.s 30)]), (.call (some 32) none n_ref3_weighTexts [(.s 27), (.s 31)]), (.call (some 33) none n_ref3_weighText [(.s 25), (.s 32)]), (.call (some 34) none n_ref3_weighText [(.s 23), (.s 33)]), (.op (some 1) none (.mv (.s 34)))] [(6, 0), (7, 0), (8, 0), (9, 0), (4, 0), (5, 1), (10, 0), (2, 0), (3, 2), (11, 0), (0, 0), (1, 3), (12, 0), (13, 0)]
abbrev Q9C : AC := .run [(.op (some 7) none (.mv (.k (.int .i64 0))))]
abbrev Q9D : AC := .run [(.op (some 35) none (.mv (.s 7))), (.op (some 36) none (.faddr (.s 6) 10)), (.op (some 37) none (.load (.s 36) false 1)), (.op (some 38) none (.len (.s 37))), (.op (some 39) none (.bin .lss (.s 35) (.s 38))), (.op (some 40) none (.mv (.s 39))), (.op (some 41) (some (40, true)) (.mv (.s 1))), (.op (some 42) (some (40, true)) (.bin .leq (.s 41) (.k (.int .i64 20000)))), (.op (some 43) none (.pick (.s 40) (.s 42) (.k (.bool false))))]
abbrev Q9E : AC := .cond (.s 43) .skip (.exit 2)
abbrev Q9F : AC := .seq Q9D Q9E
abbrev Q9G : AC := .par [(.op (some 46) none (.faddr (.s 6) 10)), (.op (some 47) none (.load (.s 46) false 1)), (.op (some 48) none (.mv (.s 7))), (.op (some 49) none (.iaddr (.s 47) (.s 48) 6)), (.op (some 50) none (.faddr (.s 49) 1)), (.op (some 51) none (.load (.s 50) false 1)), (.op (some 52) none (.faddr (.s 6) 10)), (.op (some 53) none (.load (.s 52) false 1)), (.op (some 54) none (.mv (.s 7))), (.op (some 55) none (.iaddr (.s 53) (.s 54) 6)), (.op (some 56) none (.faddr (.s 55) 2)), (.op (some 57) none (.load (.s 56) true 4)), (.op (some 58) none (.mv (.s 1))), (.call (some 59) none n_ref3_weighExpr [(.s 57), (.s 58)]), (.call (some 60) none n_ref3_weighText [(.s 51), (.s 59)]), (.op (some 1) none (.mv (.s 60)))] [(6, 0), (7, 0), (8, 0), (9, 0), (10, 0), (11, 0), (12, 0), (13, 0), (0, 0), (1, 1), (2, 0), (3, 0), (4, 0), (5, 1), (14, 0), (15, 0)]
abbrev Q9H : AC := .block 3 Q9G
abbrev Q9I : AC := .run [(.op (some 44) none (.mv (.s 7))), (.op (some 45) none (.bin .add (.s 44) (.k (.int .i64 1)))), (.op (some 7) none (.mv (.s 45)))]
abbrev Q9J : AC := .seq Q9H Q9I
abbrev Q9K : AC := .seq Q9F Q9J
abbrev Q9L : AC := .loop Q9K
abbrev Q9M : AC := .block 2 Q9L
abbrev Q9N : AC := .seq Q9C Q9M
abbrev Q9O : AC := .par [(.op (some 61) none (.faddr (.s 6) 12)), (.op (some 62) none (.load (.s 61) false 1)), (.op (some 63) none (.faddr (.s 6) 11)), (.op (some 64) none (.load (.s 63) false 1)), (.op (some 65) none (.mv (.s 1))), (.call (some 66) none n_ref3_weighStmts [(.s 64), (.s 65)]), (.call (some 67) none n_ref3_weighStmts [(.s 62), (.s 66)]), (.op (some 1) none (.mv (.s 67)))] [(2, 0), (3, 0), (4, 0), (5, 0), (0, 0), (1, 1), (6, 0), (7, 0)]
abbrev Q9P : AC := .seq Q9N Q9O
abbrev Q9Q : AC := .seq Q9B Q9P
abbrev Q9R : AC := .seq Q9A Q9Q
abbrev Q9S : AC := .block 1 Q9R
abbrev Q9T : AC := .run [(.op (some 16) none (.mv (.s 5))), (.op (some 17) none (.bin .add (.s 16) (.k (.int .i64 1)))), (.op (some 5) none (.mv (.s 17)))]
abbrev Q9U : AC := .seq Q9S Q9T
abbrev Q9V : AC := .seq Q99 Q9U
abbrev Q9W : AC := .loop Q9V
abbrev Q9X : AC := .block 0 Q9W
abbrev Q9Y : AC := .seq Q96 Q9X
abbrev Q9Z : AC := .run [(.op (some 68) none (.mv (.s 1))), (.op (some 4) none (.mv (.s 68)))]
abbrev QA0 : AC := .seq Q9Z .ret
abbrev QA1 : AC := .seq Q9Y QA0
abbrev QA2 : AC := .seq Q95 QA1
abbrev QA3 : AC := .run [(.op (some 1) none (.box (.s 0))), (.op (some 2) none (.mv (.k (.bool false))))]
abbrev QA4 : AC := .run [(.op (some 8) none (.faddr (.s 1) 0)), (.op (some 9) none (.load (.s 8) false 1)), (.op (some 10) none (.len (.s 9))), (.op (some 11) none (.bin .gtr (.s 10) (.k (.int .i64 16)))), (.op (some 12) none (.mv (.s 11))), (.op (some 13) (some (12, false)) (.faddr (.s 1) 1)), (.op (some 14) (some (12, false)) (.load (.s 13) false 1)), (.op (some 15) (some (12, false)) (.len (.s 14))), (.op (some 16) (some (12, false)) (.bin .gtr (.s 15) (.k (.int .i64 16)))), (.op (some 17) none (.pick (.s 12) (.k (.bool true)) (.s 16))), (.op (some 18) none (.mv (.s 17))), (.op (some 19) (some (18, false)) (.faddr (.s 1) 0)), (.op (some 20) (some (18, false)) (.load (.s 19) false 1)), (.call (some 21) (some (18, false)) n_tree_names [(.s 20)]), (.op (some 22) (some (18, false)) (.un .not (.s 21))), (.op (some 23) none (.pick (.s 18) (.k (.bool true)) (.s 22)))]
abbrev QA5 : AC := .run [(.op (some 2) none (.mv (.k (.bool false))))]
abbrev QA6 : AC := .seq QA5 .ret
abbrev QA7 : AC := .cond (.s 23) QA6 .skip
abbrev QA8 : AC := .seq QA4 QA7
abbrev QA9 : AC := .run [(.op (some 24) none (.build [(.int .i64 0)] [])), (.op (some 25) none (.box (.s 24))), (.op (some 3) none (.mv (.s 25)))]
abbrev QAA : AC := .run [(.op (some 26) none (.faddr (.s 1) 1)), (.op (some 27) none (.load (.s 26) false 1)), (.op (some 28) none (.len (.s 27))), (.op (some 29) none (.mv (.k (.int .i64 0))))]
abbrev QAB : AC := .run [(.op (some 30) none (.bin .lss (.s 29) (.s 28)))]
abbrev QAC : AC := .cond (.s 30) .skip (.exit 0)
abbrev QAD : AC := .run [(.op (some 31) none (.iaddr (.s 27) (.s 29) 5)), (.op (some 32) none (.load (.s 31) true 5)), (.op (some 5) none (.alloc [(.str []), (.slice .full 0 []), (.slice .full 0 []), (.slice .full 0 []), (.slice .full 0 [])])), (.op none none (.store (.s 5) (.s 32) 5))]
abbrev QAE : AC := .run [(.op (some 33) none (.faddr (.s 5) 1)), (.op (some 34) none (.load (.s 33) false 1)), (.op (some 35) none (.len (.s 34))), (.op (some 36) none (.bin .gtr (.s 35) (.k (.int .i64 8)))), (.op (some 37) none (.mv (.s 36))), (.op (some 38) (some (37, false)) (.faddr (.s 5) 2)), (.op (some 39) (some (37, false)) (.load (.s 38) false 1)), (.op (some 40) (some (37, false)) (.len (.s 39))), (.op (some 41) (some (37, false)) (.bin .gtr (.s 40) (.k (.int .i64 16)))), (.op (some 42) none (.pick (.s 37) (.k (.bool true)) (.s 41))), (.op (some 43) none (.mv (.s 42))), (.op (some 44) (some (43, false)) (.faddr (.s 5) 0)), (.op (some 45) (some (43, false)) (.load (.s 44) false 1)), (.call (some 46) (some (43, false)) n_lex_Name [(.s 45)]), (.op (some 47) (some (43, false)) (.un .not (.s 46))), (.op (some 48) none (.pick (.s 43) (.k (.bool true)) (.s 47))), (.op (some 49) none (.mv (.s 48))), (.op (some 50) (some (49, false)) (.faddr (.s 5) 2)), (.op (some 51) (some (49, false)) (.load (.s 50) false 1)), (.call (some 52) (some (49, false)) n_tree_names [(.s 51)]), (.op (some 53) (some (49, false)) (.un .not (.s 52))), (.op (some 54) none (.pick (.s 49) (.k (.bool true)) (.s 53))), (.op (some 55) none (.mv (.s 54))), (.op (some 56) (some (55, false)) (.faddr (.s 5) 4)), (.op (some 57) (some (55, false)) (.load (.s 56) false 1)), (.call (some 58) (some (55, false)) n_tree_names [(.s 57)]), (.op (some 59) (some (55, false)) (.un .not (.s 58))), (.op (some 60) none (.pick (.s 55) (.k (.bool true)) (.s 59)))]
abbrev QAF : AC := .run [(.op (some 2) none (.mv (.k (.bool false))))]
abbrev QAG : AC := .seq QAF .ret
abbrev QAH : AC := .cond (.s 60) QAG .skip
abbrev QAI : AC := .seq QAE QAH
abbrev QAJ : AC := .run [(.op (some 61) none (.faddr (.s 5) 1)), (.op (some 62) none (.load (.s 61) false 1)), (.op (some 63) none (.len (.s 62))), (.op (some 64) none (.mv (.k (.int .i64 0))))]
abbrev QAK : AC := .run [(.op (some 65) none (.bin .lss (.s 64) (.s 63)))]
abbrev QAL : AC := .cond (.s 65) .skip (.exit 2)
abbrev QAM : AC := .run [(.op (some 66) none (.iaddr (.s 62) (.s 64) 2)), (.op (some 67) none (.load (.s 66) true 2)), (.op (some 7) none (.alloc [(.str []), (.bool false)])), (.op none none (.store (.s 7) (.s 67) 2))]
abbrev QAN : AC := .run [(.op (some 68) none (.faddr (.s 7) 0)), (.op (some 69) none (.load (.s 68) false 1)), (.call (some 70) none n_lex_Name [(.s 69)]), (.op (some 71) none (.un .not (.s 70)))]
abbrev QAO : AC := .run [(.op (some 2) none (.mv (.k (.bool false))))]
abbrev QAP : AC := .seq QAO .ret
abbrev QAQ : AC := .cond (.s 71) QAP .skip
abbrev QAR : AC := .seq QAN QAQ
abbrev QAS : AC := .seq QAM QAR
abbrev QAT : AC := .block 3 QAS
abbrev QAU : AC := .run [(.op (some 72) none (.bin .add (.s 64) (.k (.int .i64 1)))), (.op (some 64) none (.mv (.s 72)))]
abbrev QAV : AC := .seq QAT QAU
abbrev QAW : AC := .seq QAL QAV
abbrev QAX : AC := .seq QAK QAW
abbrev QAY : AC := .loop QAX
abbrev QAZ : AC := .block 2 QAY
abbrev QB0 : AC := .seq QAJ QAZ
abbrev QB1 : AC := .run [(.op (some 73) none (.mv (.s 3))), (.op (some 74) none (.faddr (.s 5) 3)), (.op (some 75) none (.load (.s 74) false 1)), (.call (some 76) none n_tree_looker_rows [(.s 73), (.s 75), (.k (.int .i64 1))]), (.op (some 77) none (.un .not (.s 76)))]
abbrev QB2 : AC := .run [(.op (some 2) none (.mv (.k (.bool false))))]
abbrev QB3 : AC := .seq QB2 .ret
abbrev QB4 : AC := .cond (.s 77) QB3 .skip
abbrev QB5 : AC := .seq QB1 QB4
abbrev QB6 : AC := .seq QB0 QB5
abbrev QB7 : AC := .seq QAI QB6
abbrev QB8 : AC := .seq QAD QB7
abbrev QB9 : AC := .block 1 QB8
abbrev QBA : AC := .run [(.op (some 78) none (.bin .add (.s 29) (.k (.int .i64 1)))), (.op (some 29) none (.mv (.s 78)))]
abbrev QBB : AC := .seq QB9 QBA
abbrev QBC : AC := .seq QAC QBB
abbrev QBD : AC := .seq QAB QBC
abbrev QBE : AC := .loop QBD
abbrev QBF : AC := .block 0 QBE
abbrev QBG : AC := .seq QAA QBF
abbrev QBH : AC := .run [(.op (some 2) none (.mv (.k (.bool true))))]
abbrev QBI : AC := .seq QBH .ret
abbrev QBJ : AC := .seq QBG QBI
abbrev QBK : AC := .seq QA9 QBJ
abbrev QBL : AC := .seq QA8 QBK
abbrev QBM : AC := .seq QA3 QBL

end Go.Abs

/-! Have0 -/

namespace Go.Abs
open Go.Proofs

theorem has_law5_PrintSame : Has Tryd.prog n_law5_PrintSame 32 [(4, none)] Q0L := ⟨Tryd.f5, by kernel_rfl, by kernel_rfl⟩
theorem has_law5_printed : Has Tryd.prog n_law5_printed 19 [(0, none)] Q0R := ⟨Tryd.f10, by kernel_rfl, by kernel_rfl⟩
theorem has_ref3_Fits : Has Tryd.prog n_ref3_Fits 61 [(2, none)] Q1R := ⟨Tryd.f11, by kernel_rfl, by kernel_rfl⟩
theorem has_print_Text : Has Tryd.prog n_print_Text 85 [(2, none)] Q3D := ⟨Tryd.f12, by kernel_rfl, by kernel_rfl⟩
theorem has_print_Expr : Has Tryd.prog n_print_Expr 8 [(2, none)] Q3N := ⟨Tryd.f15, by kernel_rfl, by kernel_rfl⟩
theorem has_ref3_May : Has Tryd.prog n_ref3_May 110 [(2, none)] Q5Q := ⟨Tryd.f17, by kernel_rfl, by kernel_rfl⟩
theorem has_ref3_Eq : Has Tryd.prog n_ref3_Eq 97 [(4, none)] Q74 := ⟨Tryd.f18, by kernel_rfl, by kernel_rfl⟩
theorem has_ref3_MayExpr : Has Tryd.prog n_ref3_MayExpr 10 [(2, none)] Q78 := ⟨Tryd.f20, by kernel_rfl, by kernel_rfl⟩
theorem has_ref3_EqExpr : Has Tryd.prog n_ref3_EqExpr 53 [(4, none)] Q81 := ⟨Tryd.f23, by kernel_rfl, by kernel_rfl⟩
theorem has_ref3_Some : Has Tryd.prog n_ref3_Some 40 [(0, (some (true, 2)))] Q89 := ⟨Tryd.f28, by kernel_rfl, by kernel_rfl⟩
theorem has_ref3_Source : Has Tryd.prog n_ref3_Source 1 [(0, none)] Q8D := ⟨Tryd.f29, by kernel_rfl, by kernel_rfl⟩
theorem has_ref3_weighTexts : Has Tryd.prog n_ref3_weighTexts 23 [(4, none)] Q8U := ⟨Tryd.f30, by kernel_rfl, by kernel_rfl⟩
theorem has_ref3_weighText : Has Tryd.prog n_ref3_weighText 19 [(4, none)] Q94 := ⟨Tryd.f31, by kernel_rfl, by kernel_rfl⟩
theorem has_ref3_weighStmts : Has Tryd.prog n_ref3_weighStmts 69 [(4, none)] QA2 := ⟨Tryd.f32, by kernel_rfl, by kernel_rfl⟩
theorem has_tree_May : Has Tryd.prog n_tree_May 79 [(2, none)] QBM := ⟨Tryd.f33, by kernel_rfl, by kernel_rfl⟩

end Go.Abs

/-! Codes1 -/

namespace Go.Abs

abbrev QBN : AC := .run [(.op (some 6) none (.mv (.s 1))), (.op (some 7) none (.bin .gtr (.s 6) (.k (.int .i64 0))))]
abbrev QBO : AC := .cond (.s 7) .skip (.exit 0)
abbrev QBP : AC := .seq QBN QBO
abbrev QBQ : AC := .run [(.op (some 10) none (.mv (.s 0))), (.op (some 11) none (.nilck (.s 10))), (.op (some 12) none (.faddr (.s 11) 0)), (.call (some 13) none n_strings_Builder_WriteByte [(.s 12), (.k (.int .u8 32))])]
abbrev QBR : AC := .block 1 QBQ
abbrev QBS : AC := .run [(.op (some 8) none (.mv (.s 1))), (.op (some 9) none (.bin .sub (.s 8) (.k (.int .i64 1)))), (.op (some 1) none (.mv (.s 9)))]
abbrev QBT : AC := .seq QBR QBS
abbrev QBU : AC := .seq QBP QBT
abbrev QBV : AC := .loop QBU
abbrev QBW : AC := .block 0 QBV
abbrev QBX : AC := .run [(.op (some 14) none (.mv (.s 0))), (.op (some 15) none (.nilck (.s 14))), (.op (some 16) none (.faddr (.s 15) 0)), (.op (some 17) none (.mv (.s 2))), (.call (some 18) none n_strings_Builder_WriteString [(.s 16), (.s 17)])]
abbrev QBY : AC := .run [(.op (some 19) none (.mv (.s 0))), (.op (some 20) none (.nilck (.s 19))), (.op (some 21) none (.faddr (.s 20) 0)), (.call (some 22) none n_strings_Builder_WriteByte [(.s 21), (.k (.int .u8 10))])]
abbrev QBZ : AC := .seq QBX QBY
abbrev QC0 : AC := .seq QBW QBZ
abbrev QC1 : AC := .run [(.op (some 2) none (.mv (.k (.str []))))]
abbrev QC2 : AC := .run [(.op (some 3) none (.mv (.s 0)))]
abbrev QC3 : AC := .run [(.op (some 2) none (.mv (.k (.str [114, 101, 102, 32]))))]
abbrev QC4 : AC := .seq QC3 .ret
abbrev QC5 : AC := .cond (.s 3) QC4 .skip
abbrev QC6 : AC := .seq QC2 QC5
abbrev QC7 : AC := .run [(.op (some 2) none (.mv (.k (.str []))))]
abbrev QC8 : AC := .seq QC7 .ret
abbrev QC9 : AC := .seq QC6 QC8
abbrev QCA : AC := .seq QC1 QC9
abbrev QCB : AC := .run [(.op (some 9) none (.mv (.s 1))), (.op (some 10) none (.len (.s 9))), (.op (some 11) none (.mv (.k (.int .i64 0))))]
abbrev QCC : AC := .run [(.op (some 12) none (.bin .lss (.s 11) (.s 10)))]
abbrev QCD : AC := .cond (.s 12) .skip (.exit 0)
abbrev QCE : AC := .run [(.op (some 13) none (.iaddr (.s 9) (.s 11) 13)), (.op (some 14) none (.load (.s 13) true 13)), (.op (some 7) none (.alloc [(.int .i64 0), (.int .i64 0), (.slice .full 0 []), (.str []), (.str []), (.int .i64 0), (.int .i64 0), (.str []), (.slice .full 0 []), (.bool false), (.slice .full 0 []), (.slice .full 0 []), (.slice .full 0 [])])), (.op none none (.store (.s 7) (.s 14) 13))]
abbrev QCF : AC := .run [(.op (some 15) none (.faddr (.s 7) 2)), (.op (some 16) none (.load (.s 15) false 1)), (.call (some 17) none n_print_marks [(.s 16)]), (.op (some 8) none (.mv (.s 17)))]
abbrev QCG : AC := .run [(.op (some 18) none (.faddr (.s 7) 1)), (.op (some 19) none (.load (.s 18) false 1))]
abbrev QCH : AC := .run [(.op (some 29) none (.bin .eql (.s 19) (.k (.int .i64 6)))), (.op (some 28) none (.mv (.s 29)))]
abbrev QCI : AC := .run [(.op (some 30) none (.mv (.s 0))), (.op (some 31) none (.mv (.s 2))), (.op (some 32) none (.mv (.s 8))), (.op (some 33) none (.bin .add (.s 32) (.k (.str [119, 104, 105, 108, 101, 32, 40])))), (.op (some 34) none (.faddr (.s 7) 5)), (.op (some 35) none (.load (.s 34) true 4)), (.call (some 36) none n_print_expr [(.s 35), (.k (.int .i64 0))]), (.op (some 37) none (.bin .add (.s 33) (.s 36))), (.op (some 38) none (.bin .add (.s 37) (.k (.str [41, 32, 123])))), (.call (some 39) none n_print_writer_line [(.s 30), (.s 31), (.s 38)])]
abbrev QCJ : AC := .run [(.op (some 40) none (.mv (.s 0))), (.op (some 41) none (.faddr (.s 7) 11)), (.op (some 42) none (.load (.s 41) false 1)), (.op (some 43) none (.mv (.s 2))), (.op (some 44) none (.bin .add (.s 43) (.k (.int .i64 1)))), (.call (some 45) none n_print_writer_rows [(.s 40), (.s 42), (.s 44)])]
abbrev QCK : AC := .run [(.op (some 46) none (.mv (.s 0))), (.op (some 47) none (.mv (.s 2))), (.call (some 48) none n_print_writer_line [(.s 46), (.s 47), (.k (.str [125]))])]
abbrev QCL : AC := .seq QCJ QCK
abbrev QCM : AC := .seq QCI QCL
abbrev QCN : AC := .run [(.op (some 50) none (.bin .eql (.s 19) (.k (.int .i64 5)))), (.op (some 49) none (.mv (.s 50)))]
abbrev QCO : AC := .run [(.op (some 51) none (.mv (.s 0))), (.op (some 52) none (.mv (.s 2))), (.op (some 53) none (.mv (.s 8))), (.op (some 54) none (.bin .add (.s 53) (.k (.str [105, 102, 32, 40])))), (.op (some 55) none (.faddr (.s 7) 5)), (.op (some 56) none (.load (.s 55) true 4)), (.call (some 57) none n_print_expr [(.s 56), (.k (.int .i64 0))]), (.op (some 58) none (.bin .add (.s 54) (.s 57))), (.op (some 59) none (.bin .add (.s 58) (.k (.str [41, 32, 123])))), (.call (some 60) none n_print_writer_line [(.s 51), (.s 52), (.s 59)])]
abbrev QCP : AC := .run [(.op (some 61) none (.mv (.s 0))), (.op (some 62) none (.faddr (.s 7) 11)), (.op (some 63) none (.load (.s 62) false 1)), (.op (some 64) none (.mv (.s 2))), (.op (some 65) none (.bin .add (.s 64) (.k (.int .i64 1)))), (.call (some 66) none n_print_writer_rows [(.s 61), (.s 63), (.s 65)])]
abbrev QCQ : AC := .run [(.op (some 67) none (.faddr (.s 7) 12)), (.op (some 68) none (.load (.s 67) false 1)), (.op (some 69) none (.len (.s 68))), (.op (some 70) none (.bin .gtr (.s 69) (.k (.int .i64 0))))]
abbrev QCR : AC := .run [(.op (some 71) none (.mv (.s 0))), (.op (some 72) none (.mv (.s 2))), (.call (some 73) none n_print_writer_line [(.s 71), (.s 72), (.k (.str [125, 32, 101, 108, 115, 101, 32, 123]))])]
abbrev QCS : AC := .run [(.op (some 74) none (.mv (.s 0))), (.op (some 75) none (.faddr (.s 7) 12)), (.op (some 76) none (.load (.s 75) false 1)), (.op (some 77) none (.mv (.s 2))), (.op (some 78) none (.bin .add (.s 77) (.k (.int .i64 1)))), (.call (some 79) none n_print_writer_rows [(.s 74), (.s 76), (.s 78)])]
abbrev QCT : AC := .seq QCR QCS
abbrev QCU : AC := .cond (.s 70) QCT .skip
abbrev QCV : AC := .seq QCQ QCU
abbrev QCW : AC := .run [(.op (some 80) none (.mv (.s 0))), (.op (some 81) none (.mv (.s 2))), (.call (some 82) none n_print_writer_line [(.s 80), (.s 81), (.k (.str [125]))])]
abbrev QCX : AC := .seq QCV QCW
abbrev QCY : AC := .seq QCP QCX
abbrev QCZ : AC := .seq QCO QCY
abbrev QD0 : AC := .run [(.op (some 20) none (.mv (.s 0))), (.op (some 21) none (.mv (.s 2))), (.op (some 22) none (.mv (.s 8))), (.op (some 23) none (.load (.s 7) true 13)), (.call (some 24) none n_print_plain [(.s 23)]), (.op (some 25) none (.bin .add (.s 22) (.s 24))), (.op (some 26) none (.bin .add (.s 25) (.k (.str [59])))), (.call (some 27) none n_print_writer_line [(.s 20), (.s 21), (.s 26)])]
abbrev QD1 : AC := .cond (.s 49) QCZ QD0
abbrev QD2 : AC := .seq QCN QD1
abbrev QD3 : AC := .cond (.s 28) QCM QD2
abbrev QD4 : AC := .seq QCH QD3
abbrev QD5 : AC := .block 2 QD4
abbrev QD6 : AC := .seq QCG QD5
abbrev QD7 : AC := .seq QCF QD6
abbrev QD8 : AC := .seq QCE QD7
abbrev QD9 : AC := .block 1 QD8
abbrev QDA : AC := .run [(.op (some 83) none (.bin .add (.s 11) (.k (.int .i64 1)))), (.op (some 11) none (.mv (.s 83)))]
abbrev QDB : AC := .seq QD9 QDA
abbrev QDC : AC := .seq QCD QDB
abbrev QDD : AC := .seq QCC QDC
abbrev QDE : AC := .loop QDD
abbrev QDF : AC := .block 0 QDE
abbrev QDG : AC := .seq QCB QDF
abbrev QDH : AC := .run [(.op (some 2) none (.mv (.k (.str []))))]
abbrev QDI : AC := .run [(.op (some 3) none (.mv (.k (.str []))))]
abbrev QDJ : AC := .run [(.op (some 6) none (.mv (.s 0))), (.op (some 7) none (.len (.s 6))), (.op (some 8) none (.mv (.k (.int .i64 0))))]
abbrev QDK : AC := .run [(.op (some 9) none (.bin .lss (.s 8) (.s 7)))]
abbrev QDL : AC := .cond (.s 9) .skip (.exit 0)
abbrev QDM : AC := .run [(.op (some 10) none (.iaddr (.s 6) (.s 8) 1)), (.op (some 11) none (.load (.s 10) false 1)), (.op (some 5) none (.mv (.s 11)))]
abbrev QDN : AC := .run [(.op (some 12) none (.mv (.s 3))), (.op (some 13) none (.mv (.s 5))), (.op (some 14) none (.bin .add (.s 13) (.k (.str [58, 32])))), (.op (some 15) none (.bin .add (.s 12) (.s 14))), (.op (some 3) none (.mv (.s 15)))]
abbrev QDO : AC := .seq QDM QDN
abbrev QDP : AC := .block 1 QDO
abbrev QDQ : AC := .run [(.op (some 16) none (.bin .add (.s 8) (.k (.int .i64 1)))), (.op (some 8) none (.mv (.s 16)))]
abbrev QDR : AC := .seq QDP QDQ
abbrev QDS : AC := .seq QDL QDR
abbrev QDT : AC := .seq QDK QDS
abbrev QDU : AC := .loop QDT
abbrev QDV : AC := .block 0 QDU
abbrev QDW : AC := .seq QDJ QDV
abbrev QDX : AC := .run [(.op (some 17) none (.mv (.s 3))), (.op (some 2) none (.mv (.s 17)))]
abbrev QDY : AC := .seq QDX .ret
abbrev QDZ : AC := .seq QDW QDY
abbrev QE0 : AC := .seq QDI QDZ
abbrev QE1 : AC := .seq QDH QE0
abbrev QE2 : AC := .run [(.op (some 2) none (.box (.s 0))), (.op (some 4) none (.mv (.k (.int .i64 0))))]
abbrev QE3 : AC := .run [(.op (some 6) none (.faddr (.s 2) 2)), (.op (some 7) none (.load (.s 6) false 1)), (.op (some 8) none (.mv (.s 1))), (.call (some 9) none n_ref3_weighText [(.s 7), (.s 8)]), (.op (some 1) none (.mv (.s 9)))]
abbrev QE4 : AC := .run [(.op (some 5) none (.mv (.k (.int .i64 0))))]
abbrev QE5 : AC := .run [(.op (some 10) none (.mv (.s 5))), (.op (some 11) none (.faddr (.s 2) 3)), (.op (some 12) none (.load (.s 11) false 1)), (.op (some 13) none (.len (.s 12))), (.op (some 14) none (.bin .lss (.s 10) (.s 13))), (.op (some 15) none (.mv (.s 14))), (.op (some 16) (some (15, true)) (.mv (.s 1))), (.op (some 17) (some (15, true)) (.bin .leq (.s 16) (.k (.int .i64 20000)))), (.op (some 18) none (.pick (.s 15) (.s 17) (.k (.bool false))))]
abbrev QE6 : AC := .cond (.s 18) .skip (.exit 0)
abbrev QE7 : AC := .seq QE5 QE6
abbrev QE8 : AC := .run [(.op (some 21) none (.faddr (.s 2) 3)), (.op (some 22) none (.load (.s 21) false 1)), (.op (some 23) none (.mv (.s 5))), (.op (some 24) none (.iaddr (.s 22) (.s 23) 4)), (.op (some 25) none (.load (.s 24) true 4)), (.op (some 26) none (.mv (.s 1))), (.call (some 27) none n_ref3_weighExpr [(.s 25), (.s 26)]), (.op (some 1) none (.mv (.s 27)))]
abbrev QE9 : AC := .block 1 QE8
abbrev QEA : AC := .run [(.op (some 19) none (.mv (.s 5))), (.op (some 20) none (.bin .add (.s 19) (.k (.int .i64 1)))), (.op (some 5) none (.mv (.s 20)))]
abbrev QEB : AC := .seq QE9 QEA
abbrev QEC : AC := .seq QE7 QEB
abbrev QED : AC := .loop QEC
abbrev QEE : AC := .block 0 QED
abbrev QEF : AC := .seq QE4 QEE
abbrev QEG : AC := .run [(.op (some 28) none (.mv (.s 1))), (.op (some 4) none (.mv (.s 28)))]
abbrev QEH : AC := .seq QEG .ret
abbrev QEI : AC := .seq QEF QEH
abbrev QEJ : AC := .seq QE3 QEI
abbrev QEK : AC := .seq QE2 QEJ
abbrev QEL : AC := .run [(.op (some 1) none (.box (.s 0))), (.op (some 2) none (.mv (.k (.bool false))))]
abbrev QEM : AC := .run [(.op (some 3) none (.load (.s 1) true 4)), (.call (some 4) none n_tree_deep [(.s 3), (.k (.int .i64 20))]), (.op (some 2) none (.mv (.s 4)))]
abbrev QEN : AC := .seq QEM .ret
abbrev QEO : AC := .seq QEL QEN
abbrev QEP : AC := .run [(.op (some 2) none (.box (.s 0))), (.op (some 4) none (.mv (.k (.str []))))]
abbrev QEQ : AC := .run [(.op (some 8) none (.faddr (.s 2) 0)), (.op (some 9) none (.load (.s 8) false 1))]
abbrev QER : AC := .run [(.op (some 11) none (.bin .eql (.s 9) (.k (.int .i64 1)))), (.op (some 10) none (.mv (.s 11)))]
abbrev QES : AC := .run [(.op (some 12) none (.faddr (.s 2) 1)), (.op (some 13) none (.load (.s 12) false 1)), (.call (some 14) none n_strconv_FormatInt [(.s 13), (.k (.int .i64 10))]), (.op (some 4) none (.mv (.s 14)))]
abbrev QET : AC := .seq QES .ret
abbrev QEU : AC := .run [(.op (some 16) none (.bin .eql (.s 9) (.k (.int .i64 2)))), (.op (some 15) none (.mv (.s 16)))]
abbrev QEV : AC := .run [(.op (some 17) none (.faddr (.s 2) 2)), (.op (some 18) none (.load (.s 17) false 1)), (.op (some 4) none (.mv (.s 18)))]
abbrev QEW : AC := .seq QEV .ret
abbrev QEX : AC := .run [(.op (some 20) none (.bin .eql (.s 9) (.k (.int .i64 3)))), (.op (some 19) none (.mv (.s 20)))]
abbrev QEY : AC := .run [(.op (some 21) none (.faddr (.s 2) 3)), (.op (some 22) none (.load (.s 21) false 1)), (.op (some 23) none (.iaddr (.s 22) (.k (.int .i64 0)) 4)), (.op (some 24) none (.load (.s 23) true 4)), (.call (some 25) none n_print_expr [(.s 24), (.k (.int .i64 7))]), (.op (some 26) none (.bin .add (.k (.str [45])) (.s 25))), (.op (some 4) none (.mv (.s 26)))]
abbrev QEZ : AC := .seq QEY .ret
abbrev QF0 : AC := .run [(.op (some 28) none (.bin .eql (.s 9) (.k (.int .i64 4)))), (.op (some 27) none (.mv (.s 28)))]
abbrev QF1 : AC := .run [(.op (some 29) none (.faddr (.s 2) 3)), (.op (some 30) none (.load (.s 29) false 1)), (.op (some 31) none (.iaddr (.s 30) (.k (.int .i64 0)) 4)), (.op (some 32) none (.load (.s 31) true 4)), (.call (some 33) none n_print_expr [(.s 32), (.k (.int .i64 7))]), (.op (some 34) none (.bin .add (.k (.str [33])) (.s 33))), (.op (some 4) none (.mv (.s 34)))]
abbrev QF2 : AC := .seq QF1 .ret
abbrev QF3 : AC := .cond (.s 27) QF2 .skip
abbrev QF4 : AC := .seq QF0 QF3
abbrev QF5 : AC := .cond (.s 19) QEZ QF4
abbrev QF6 : AC := .seq QEX QF5
abbrev QF7 : AC := .cond (.s 15) QEW QF6
abbrev QF8 : AC := .seq QEU QF7
abbrev QF9 : AC := .cond (.s 10) QET QF8
abbrev QFA : AC := .seq QER QF9
abbrev QFB : AC := .block 0 QFA
abbrev QFC : AC := .seq QEQ QFB
abbrev QFD : AC := .run [(.op (some 36) none (.faddr (.s 2) 0)), (.op (some 37) none (.load (.s 36) false 1)), (.call (some 38) none n_print_sign [(.s 37)]), (.op (some 35) none (.mv (.s 38))), (.op (some 39) none (.ext (.s 35) 0)), (.op (some 40) none (.ext (.s 35) 1)), (.op (some 5) none (.mv (.s 39))), (.op (some 6) none (.mv (.s 40)))]
abbrev QFE : AC := .par [(.op (some 41) none (.faddr (.s 2) 3)), (.op (some 42) none (.load (.s 41) false 1)), (.op (some 43) none (.iaddr (.s 42) (.k (.int .i64 0)) 4)), (.op (some 44) none (.load (.s 43) true 4)), (.op (some 45) none (.mv (.s 6))), (.call (some 46) none n_print_expr [(.s 44), (.s 45)]), (.op (some 47) none (.bin .add (.s 46) (.k (.str [32])))), (.op (some 48) none (.mv (.s 5))), (.op (some 49) none (.bin .add (.s 47) (.s 48))), (.op (some 50) none (.bin .add (.s 49) (.k (.str [32])))), (.op (some 51) none (.faddr (.s 2) 3)), (.op (some 52) none (.load (.s 51) false 1)), (.op (some 53) none (.iaddr (.s 52) (.k (.int .i64 1)) 4)), (.op (some 54) none (.load (.s 53) true 4)), (.op (some 55) none (.mv (.s 6))), (.op (some 56) none (.bin .add (.s 55) (.k (.int .i64 1)))), (.call (some 57) none n_print_expr [(.s 54), (.s 56)]), (.op (some 58) none (.bin .add (.s 50) (.s 57))), (.op (some 7) none (.mv (.s 58)))] [(0, 0), (1, 0), (2, 0), (3, 0), (4, 0), (5, 0), (10, 0), (11, 1), (12, 0), (13, 1), (14, 0), (15, 0), (16, 0), (6, 0), (7, 0), (8, 0), (9, 0), (17, 0), (18, 0)]
abbrev QFF : AC := .run [(.op (some 59) none (.mv (.s 6))), (.op (some 60) none (.mv (.s 1))), (.op (some 61) none (.bin .lss (.s 59) (.s 60)))]
abbrev QFG : AC := .run [(.op (some 62) none (.mv (.s 7))), (.op (some 63) none (.bin .add (.k (.str [40])) (.s 62))), (.op (some 64) none (.bin .add (.s 63) (.k (.str [41])))), (.op (some 4) none (.mv (.s 64)))]
abbrev QFH : AC := .seq QFG .ret
abbrev QFI : AC := .cond (.s 61) QFH .skip
abbrev QFJ : AC := .seq QFF QFI
abbrev QFK : AC := .run [(.op (some 65) none (.mv (.s 7))), (.op (some 4) none (.mv (.s 65)))]
abbrev QFL : AC := .seq QFK .ret
abbrev QFM : AC := .seq QFJ QFL
abbrev QFN : AC := .seq QFE QFM
abbrev QFO : AC := .seq QFD QFN
abbrev QFP : AC := .seq QFC QFO
abbrev QFQ : AC := .seq QEP QFP
abbrev QFR : AC := .run [(.op (some 2) none (.mv (.k (.bool false))))]
abbrev QFS : AC := .run [(.op (some 5) none (.mv (.s 0))), (.op (some 6) none (.len (.s 5))), (.op (some 7) none (.mv (.k (.int .i64 0))))]
abbrev QFT : AC := .run [(.op (some 8) none (.bin .lss (.s 7) (.s 6)))]
abbrev QFU : AC := .cond (.s 8) .skip (.exit 0)
abbrev QFV : AC := .run [(.op (some 9) none (.iaddr (.s 5) (.s 7) 1)), (.op (some 10) none (.load (.s 9) false 1)), (.op (some 4) none (.mv (.s 10)))]
abbrev QFW : AC := .run [(.op (some 11) none (.mv (.s 4))), (.call (some 12) none n_ref1_Name [(.s 11)]), (.op (some 13) none (.un .not (.s 12)))]
abbrev QFX : AC := .run [(.op (some 2) none (.mv (.k (.bool false))))]
abbrev QFY : AC := .seq QFX .ret
abbrev QFZ : AC := .cond (.s 13) QFY .skip
abbrev QG0 : AC := .seq QFW QFZ
abbrev QG1 : AC := .seq QFV QG0
abbrev QG2 : AC := .block 1 QG1
abbrev QG3 : AC := .run [(.op (some 14) none (.bin .add (.s 7) (.k (.int .i64 1)))), (.op (some 7) none (.mv (.s 14)))]
abbrev QG4 : AC := .seq QG2 QG3
abbrev QG5 : AC := .seq QFU QG4
abbrev QG6 : AC := .seq QFT QG5
abbrev QG7 : AC := .loop QG6
abbrev QG8 : AC := .block 0 QG7
abbrev QG9 : AC := .seq QFS QG8
abbrev QGA : AC := .run [(.op (some 2) none (.mv (.k (.bool true))))]
abbrev QGB : AC := .seq QGA .ret
abbrev QGC : AC := .seq QG9 QGB
abbrev QGD : AC := .seq QFR QGC
abbrev QGE : AC := .run [(.op (some 2) none (.mv (.k (.bool false))))]
abbrev QGF : AC := .run [(.op (some 4) none (.mv (.s 0))), (.op (some 5) none (.bin .eql (.s 4) (.k (.str [])))), (.op (some 6) none (.mv (.s 5))), (.op (some 7) (some (6, false)) (.mv (.s 0))), (.op (some 8) (some (6, false)) (.slen (.s 7))), (.op (some 9) (some (6, false)) (.bin .gtr (.s 8) (.k (.int .i64 8)))), (.op (some 10) none (.pick (.s 6) (.k (.bool true)) (.s 9))), (.op (some 11) none (.mv (.s 10))), (.op (some 12) (some (11, false)) (.mv (.s 0))), (.op (some 13) (some (11, false)) (.sidx (.s 12) (.k (.int .i64 0)))), (.call (some 14) (some (11, false)) n_ref1_small [(.s 13)]), (.op (some 15) (some (11, false)) (.un .not (.s 14))), (.op (some 16) none (.pick (.s 11) (.k (.bool true)) (.s 15)))]
abbrev QGG : AC := .run [(.op (some 2) none (.mv (.k (.bool false))))]
abbrev QGH : AC := .seq QGG .ret
abbrev QGI : AC := .cond (.s 16) QGH .skip
abbrev QGJ : AC := .seq QGF QGI
abbrev QGK : AC := .run [(.op (some 3) none (.mv (.k (.int .i64 1))))]
abbrev QGL : AC := .run [(.op (some 17) none (.mv (.s 3))), (.op (some 18) none (.mv (.s 0))), (.op (some 19) none (.slen (.s 18))), (.op (some 20) none (.bin .lss (.s 17) (.s 19)))]
abbrev QGM : AC := .cond (.s 20) .skip (.exit 0)
abbrev QGN : AC := .seq QGL QGM
abbrev QGO : AC := .run [(.op (some 23) none (.mv (.s 0))), (.op (some 24) none (.mv (.s 3))), (.op (some 25) none (.sidx (.s 23) (.s 24))), (.call (some 26) none n_ref1_small [(.s 25)]), (.op (some 27) none (.un .not (.s 26))), (.op (some 28) none (.mv (.s 27))), (.op (some 29) (some (28, true)) (.mv (.s 0))), (.op (some 30) (some (28, true)) (.mv (.s 3))), (.op (some 31) (some (28, true)) (.sidx (.s 29) (.s 30))), (.call (some 32) (some (28, true)) n_ref1_digit [(.s 31)]), (.op (some 33) (some (28, true)) (.un .not (.s 32))), (.op (some 34) none (.pick (.s 28) (.s 33) (.k (.bool false))))]
abbrev QGP : AC := .run [(.op (some 2) none (.mv (.k (.bool false))))]
abbrev QGQ : AC := .seq QGP .ret
abbrev QGR : AC := .cond (.s 34) QGQ .skip
abbrev QGS : AC := .seq QGO QGR
abbrev QGT : AC := .block 1 QGS
abbrev QGU : AC := .run [(.op (some 21) none (.mv (.s 3))), (.op (some 22) none (.bin .add (.s 21) (.k (.int .i64 1)))), (.op (some 3) none (.mv (.s 22)))]
abbrev QGV : AC := .seq QGT QGU
abbrev QGW : AC := .seq QGN QGV
abbrev QGX : AC := .loop QGW
abbrev QGY : AC := .block 0 QGX
abbrev QGZ : AC := .seq QGK QGY
abbrev QH0 : AC := .run [(.op (some 35) none (.mv (.s 0))), (.call (some 36) none n_ref1_Word [(.s 35)]), (.op (some 37) none (.un .not (.s 36))), (.op (some 2) none (.mv (.s 37)))]
abbrev QH1 : AC := .seq QH0 .ret
abbrev QH2 : AC := .seq QGZ QH1
abbrev QH3 : AC := .seq QGJ QH2
abbrev QH4 : AC := .seq QGE QH3
abbrev QH5 : AC := .run [(.op (some 1) none (.box (.s 0))), (.op (some 2) none (.mv (.k (.slice .full 0 []))))]
abbrev QH6 : AC := .run [(.op (some 3) none (.mv (.k (.slice .full 0 []))))]
abbrev QH7 : AC := .run [(.op (some 6) none (.faddr (.s 1) 1)), (.op (some 7) none (.load (.s 6) false 1)), (.op (some 8) none (.len (.s 7))), (.op (some 9) none (.mv (.k (.int .i64 0))))]
abbrev QH8 : AC := .run [(.op (some 10) none (.bin .lss (.s 9) (.s 8)))]
abbrev QH9 : AC := .cond (.s 10) .skip (.exit 0)
abbrev QHA : AC := .run [(.op (some 11) none (.iaddr (.s 7) (.s 9) 5)), (.op (some 12) none (.load (.s 11) true 5)), (.op (some 5) none (.alloc [(.str []), (.slice .full 0 []), (.slice .full 0 []), (.slice .full 0 []), (.slice .full 0 [])])), (.op none none (.store (.s 5) (.s 12) 5))]
abbrev QHB : AC := .run [(.op (some 13) none (.mv (.s 3))), (.op (some 14) none (.load (.s 5) true 5)), (.call (some 15) none n_ref3_Flat [(.s 14)]), (.op (some 16) none (.app 16 232 (.s 13) (.s 15))), (.op (some 3) none (.mv (.s 16)))]
abbrev QHC : AC := .run [(.op (some 17) none (.mv (.s 3))), (.op (some 18) none (.len (.s 17))), (.op (some 19) none (.bin .gtr (.s 18) (.k (.int .i64 200))))]
abbrev QHD : AC := .run [(.op (some 20) none (.mv (.s 3))), (.op (some 2) none (.mv (.s 20)))]
abbrev QHE : AC := .seq QHD .ret
abbrev QHF : AC := .cond (.s 19) QHE .skip
abbrev QHG : AC := .seq QHC QHF
abbrev QHH : AC := .seq QHB QHG
abbrev QHI : AC := .seq QHA QHH
abbrev QHJ : AC := .block 1 QHI
abbrev QHK : AC := .run [(.op (some 21) none (.bin .add (.s 9) (.k (.int .i64 1)))), (.op (some 9) none (.mv (.s 21)))]
abbrev QHL : AC := .seq QHJ QHK
abbrev QHM : AC := .seq QH9 QHL
abbrev QHN : AC := .seq QH8 QHM
abbrev QHO : AC := .loop QHN
abbrev QHP : AC := .block 0 QHO
abbrev QHQ : AC := .seq QH7 QHP
abbrev QHR : AC := .run [(.op (some 22) none (.mv (.s 3))), (.op (some 2) none (.mv (.s 22)))]
abbrev QHS : AC := .seq QHR .ret
abbrev QHT : AC := .seq QHQ QHS
abbrev QHU : AC := .seq QH6 QHT
abbrev QHV : AC := .seq QH5 QHU
abbrev QHW : AC := .run [(.op (some 1) none (.box (.s 0))), (.op (some 2) none (.mv (.k (.bool false))))]
abbrev QHX : AC := .run [(.op (some 8) none (.faddr (.s 1) 1)), (.op (some 9) none (.load (.s 8) false 1)), (.op (some 10) none (.bin .eql (.s 9) (.k (.int .i64 1)))), (.op (some 11) none (.mv (.s 10))), (.op (some 12) (some (11, false)) (.faddr (.s 1) 1)), (.op (some 13) (some (11, false)) (.load (.s 12) false 1)), (.op (some 14) (some (11, false)) (.bin .eql (.s 13) (.k (.int .i64 3)))), (.op (some 15) none (.pick (.s 11) (.k (.bool true)) (.s 14))), (.op (some 16) none (.mv (.s 15))), (.op (some 17) (some (16, false)) (.faddr (.s 1) 1)), (.op (some 18) (some (16, false)) (.load (.s 17) false 1)), (.op (some 19) (some (16, false)) (.bin .eql (.s 18) (.k (.int .i64 5)))), (.op (some 20) none (.pick (.s 16) (.k (.bool true)) (.s 19))), (.op (some 21) none (.mv (.s 20))), (.op (some 22) (some (21, false)) (.faddr (.s 1) 1)), (.op (some 23) (some (21, false)) (.load (.s 22) false 1)), (.op (some 24) (some (21, false)) (.bin .eql (.s 23) (.k (.int .i64 6)))), (.op (some 25) none (.pick (.s 21) (.k (.bool true)) (.s 24))), (.op (some 26) none (.mv (.s 25))), (.op (some 27) (some (26, false)) (.faddr (.s 1) 1)), (.op (some 28) (some (26, false)) (.load (.s 27) false 1)), (.op (some 29) (some (26, false)) (.bin .eql (.s 28) (.k (.int .i64 9)))), (.op (some 30) (some (26, false)) (.mv (.s 29))), (.op (some 31) (some (30, true)) (.faddr (.s 1) 9)), (.op (some 32) (some (30, true)) (.load (.s 31) false 1)), (.op (some 33) (some (26, false)) (.pick (.s 30) (.s 32) (.k (.bool false)))), (.op (some 34) none (.pick (.s 26) (.k (.bool true)) (.s 33))), (.op (some 3) none (.mv (.s 34)))]
abbrev QHY : AC := .run [(.op (some 35) none (.faddr (.s 1) 1)), (.op (some 36) none (.load (.s 35) false 1)), (.op (some 37) none (.bin .eql (.s 36) (.k (.int .i64 1)))), (.op (some 38) none (.mv (.s 37))), (.op (some 39) (some (38, false)) (.faddr (.s 1) 1)), (.op (some 40) (some (38, false)) (.load (.s 39) false 1)), (.op (some 41) (some (38, false)) (.bin .eql (.s 40) (.k (.int .i64 2)))), (.op (some 42) none (.pick (.s 38) (.k (.bool true)) (.s 41))), (.op (some 43) none (.mv (.s 42))), (.op (some 44) (some (43, false)) (.faddr (.s 1) 1)), (.op (some 45) (some (43, false)) (.load (.s 44) false 1)), (.op (some 46) (some (43, false)) (.bin .eql (.s 45) (.k (.int .i64 10)))), (.op (some 47) none (.pick (.s 43) (.k (.bool true)) (.s 46))), (.op (some 4) none (.mv (.s 47)))]
abbrev QHZ : AC := .run [(.op (some 48) none (.faddr (.s 1) 1)), (.op (some 49) none (.load (.s 48) false 1)), (.op (some 50) none (.bin .eql (.s 49) (.k (.int .i64 4)))), (.op (some 5) none (.mv (.s 50)))]
abbrev QI0 : AC := .run [(.op (some 51) none (.faddr (.s 1) 1)), (.op (some 52) none (.load (.s 51) false 1)), (.op (some 53) none (.bin .lss (.s 52) (.k (.int .i64 1)))), (.op (some 54) none (.mv (.s 53))), (.op (some 55) (some (54, false)) (.faddr (.s 1) 1)), (.op (some 56) (some (54, false)) (.load (.s 55) false 1)), (.op (some 57) (some (54, false)) (.bin .gtr (.s 56) (.k (.int .i64 10)))), (.op (some 58) none (.pick (.s 54) (.k (.bool true)) (.s 57))), (.op (some 59) none (.mv (.s 58))), (.op (some 60) (some (59, false)) (.faddr (.s 1) 2)), (.op (some 61) (some (59, false)) (.load (.s 60) false 1)), (.call (some 62) (some (59, false)) n_ref3_names [(.s 61)]), (.op (some 63) (some (59, false)) (.un .not (.s 62))), (.op (some 64) none (.pick (.s 59) (.k (.bool true)) (.s 63))), (.op (some 65) none (.mv (.s 64))), (.op (some 66) (some (65, false)) (.mv (.s 3))), (.op (some 67) (some (65, false)) (.mv (.s 66))), (.op (some 68) (some (67, true)) (.faddr (.s 1) 5)), (.op (some 69) (some (67, true)) (.load (.s 68) true 4)), (.call (some 70) (some (67, true)) n_ref3_MayExpr [(.s 69)]), (.op (some 71) (some (67, true)) (.un .not (.s 70))), (.op (some 72) (some (65, false)) (.pick (.s 67) (.s 71) (.k (.bool false)))), (.op (some 73) none (.pick (.s 65) (.k (.bool true)) (.s 72))), (.op (some 74) none (.mv (.s 73))), (.op (some 75) (some (74, false)) (.mv (.s 3))), (.op (some 76) (some (74, false)) (.un .not (.s 75))), (.op (some 77) (some (74, false)) (.mv (.s 76))), (.op (some 78) (some (77, true)) (.faddr (.s 1) 5)), (.op (some 79) (some (77, true)) (.load (.s 78) true 4)), (.call (some 80) (some (77, true)) n_ref3_none [(.s 79)]), (.op (some 81) (some (77, true)) (.un .not (.s 80))), (.op (some 82) (some (74, false)) (.pick (.s 77) (.s 81) (.k (.bool false)))), (.op (some 83) none (.pick (.s 74) (.k (.bool true)) (.s 82))), (.op (some 84) none (.mv (.s 83))), (.op (some 85) (some (84, false)) (.faddr (.s 1) 9)), (.op (some 86) (some (84, false)) (.load (.s 85) false 1)), (.op (some 87) (some (84, false)) (.mv (.s 86))), (.op (some 88) (some (87, true)) (.faddr (.s 1) 1)), (.op (some 89) (some (87, true)) (.load (.s 88) false 1)), (.op (some 90) (some (87, true)) (.bin .neq (.s 89) (.k (.int .i64 9)))), (.op (some 91) (some (84, false)) (.pick (.s 87) (.s 90) (.k (.bool false)))), (.op (some 92) none (.pick (.s 84) (.k (.bool true)) (.s 91)))]
abbrev QI1 : AC := .run [(.op (some 2) none (.mv (.k (.bool false))))]
abbrev QI2 : AC := .seq QI1 .ret
abbrev QI3 : AC := .cond (.s 92) QI2 .skip
abbrev QI4 : AC := .seq QI0 QI3
abbrev QI5 : AC := .run [(.op (some 93) none (.mv (.s 4))), (.op (some 94) none (.mv (.s 93))), (.op (some 95) (some (94, true)) (.faddr (.s 1) 3)), (.op (some 96) (some (94, true)) (.load (.s 95) false 1)), (.call (some 97) (some (94, true)) n_ref1_Name [(.s 96)]), (.op (some 98) (some (94, true)) (.un .not (.s 97))), (.op (some 99) none (.pick (.s 94) (.s 98) (.k (.bool false)))), (.op (some 100) none (.mv (.s 99))), (.op (some 101) (some (100, false)) (.mv (.s 4))), (.op (some 102) (some (100, false)) (.un .not (.s 101))), (.op (some 103) (some (100, false)) (.mv (.s 102))), (.op (some 104) (some (103, true)) (.faddr (.s 1) 3)), (.op (some 105) (some (103, true)) (.load (.s 104) false 1)), (.op (some 106) (some (103, true)) (.bin .neq (.s 105) (.k (.str [])))), (.op (some 107) (some (100, false)) (.pick (.s 103) (.s 106) (.k (.bool false)))), (.op (some 108) (some (100, false)) (.mv (.s 107))), (.op (some 109) (some (108, true)) (.mv (.s 5))), (.op (some 110) (some (108, true)) (.mv (.s 109))), (.op (some 111) (some (110, true)) (.faddr (.s 1) 3)), (.op (some 112) (some (110, true)) (.load (.s 111) false 1)), (.call (some 113) (some (110, true)) n_ref1_Name [(.s 112)]), (.op (some 114) (some (108, true)) (.pick (.s 110) (.s 113) (.k (.bool false)))), (.op (some 115) (some (108, true)) (.un .not (.s 114))), (.op (some 116) (some (100, false)) (.pick (.s 108) (.s 115) (.k (.bool false)))), (.op (some 117) none (.pick (.s 100) (.k (.bool true)) (.s 116)))]
abbrev QI6 : AC := .run [(.op (some 2) none (.mv (.k (.bool false))))]
abbrev QI7 : AC := .seq QI6 .ret
abbrev QI8 : AC := .cond (.s 117) QI7 .skip
abbrev QI9 : AC := .seq QI5 QI8
abbrev QIA : AC := .run [(.op (some 118) none (.mv (.s 5))), (.op (some 119) none (.faddr (.s 1) 4)), (.op (some 120) none (.load (.s 119) false 1)), (.op (some 121) none (.bin .neq (.s 120) (.k (.str [])))), (.op (some 122) none (.eqb true (.s 118) (.s 121))), (.op (some 123) none (.mv (.s 122))), (.op (some 124) (some (123, false)) (.mv (.s 5))), (.op (some 125) (some (123, false)) (.mv (.s 124))), (.op (some 126) (some (125, true)) (.faddr (.s 1) 4)), (.op (some 127) (some (125, true)) (.load (.s 126) false 1)), (.call (some 128) (some (125, true)) n_ref1_Name [(.s 127)]), (.op (some 129) (some (125, true)) (.un .not (.s 128))), (.op (some 130) (some (123, false)) (.pick (.s 125) (.s 129) (.k (.bool false)))), (.op (some 131) none (.pick (.s 123) (.k (.bool true)) (.s 130))), (.op (some 132) none (.mv (.s 131))), (.op (some 133) (some (132, false)) (.mv (.s 5))), (.op (some 134) (some (132, false)) (.un .not (.s 133))), (.op (some 135) (some (132, false)) (.mv (.s 134))), (.op (some 136) (some (135, true)) (.faddr (.s 1) 10)), (.op (some 137) (some (135, true)) (.load (.s 136) false 1)), (.op (some 138) (some (135, true)) (.len (.s 137))), (.op (some 139) (some (135, true)) (.bin .gtr (.s 138) (.k (.int .i64 0)))), (.op (some 140) (some (132, false)) (.pick (.s 135) (.s 139) (.k (.bool false)))), (.op (some 141) none (.pick (.s 132) (.k (.bool true)) (.s 140)))]
abbrev QIB : AC := .run [(.op (some 2) none (.mv (.k (.bool false))))]
abbrev QIC : AC := .seq QIB .ret
abbrev QID : AC := .cond (.s 141) QIC .skip
abbrev QIE : AC := .seq QIA QID
abbrev QIF : AC := .run [(.op (some 142) none (.faddr (.s 1) 10)), (.op (some 143) none (.load (.s 142) false 1)), (.op (some 144) none (.len (.s 143))), (.op (some 145) none (.mv (.k (.int .i64 0))))]
abbrev QIG : AC := .run [(.op (some 146) none (.bin .lss (.s 145) (.s 144)))]
abbrev QIH : AC := .cond (.s 146) .skip (.exit 0)
abbrev QII : AC := .run [(.op (some 147) none (.iaddr (.s 143) (.s 145) 6)), (.op (some 148) none (.load (.s 147) true 6)), (.op (some 7) none (.alloc [(.bool false), (.str []), (.int .i64 0), (.int .i64 0), (.str []), (.slice .full 0 [])])), (.op none none (.store (.s 7) (.s 148) 6))]
abbrev QIJ : AC := .run [(.op (some 149) none (.load (.s 7) true 6)), (.call (some 150) none n_ref3_arg [(.s 149)]), (.op (some 151) none (.un .not (.s 150)))]
abbrev QIK : AC := .run [(.op (some 2) none (.mv (.k (.bool false))))]
abbrev QIL : AC := .seq QIK .ret
abbrev QIM : AC := .cond (.s 151) QIL .skip
abbrev QIN : AC := .seq QIJ QIM
abbrev QIO : AC := .seq QII QIN
abbrev QIP : AC := .block 1 QIO
abbrev QIQ : AC := .run [(.op (some 152) none (.bin .add (.s 145) (.k (.int .i64 1)))), (.op (some 145) none (.mv (.s 152)))]
abbrev QIR : AC := .seq QIP QIQ
abbrev QIS : AC := .seq QIH QIR
abbrev QIT : AC := .seq QIG QIS
abbrev QIU : AC := .loop QIT
abbrev QIV : AC := .block 0 QIU
abbrev QIW : AC := .seq QIF QIV
abbrev QIX : AC := .run [(.op (some 153) none (.faddr (.s 1) 11)), (.op (some 154) none (.load (.s 153) false 1)), (.op (some 155) none (.len (.s 154))), (.op (some 156) none (.bin .eql (.s 155) (.k (.int .i64 0)))), (.op (some 157) none (.mv (.s 156))), (.op (some 158) (some (157, false)) (.faddr (.s 1) 1)), (.op (some 159) (some (157, false)) (.load (.s 158) false 1)), (.op (some 160) (some (157, false)) (.bin .eql (.s 159) (.k (.int .i64 5)))), (.op (some 161) none (.pick (.s 157) (.k (.bool true)) (.s 160))), (.op (some 162) none (.mv (.s 161))), (.op (some 163) (some (162, false)) (.faddr (.s 1) 1)), (.op (some 164) (some (162, false)) (.load (.s 163) false 1)), (.op (some 165) (some (162, false)) (.bin .eql (.s 164) (.k (.int .i64 6)))), (.op (some 166) none (.pick (.s 162) (.k (.bool true)) (.s 165))), (.op (some 167) none (.mv (.s 166))), (.op (some 168) (some (167, true)) (.faddr (.s 1) 12)), (.op (some 169) (some (167, true)) (.load (.s 168) false 1)), (.op (some 170) (some (167, true)) (.len (.s 169))), (.op (some 171) (some (167, true)) (.bin .eql (.s 170) (.k (.int .i64 0)))), (.op (some 172) (some (167, true)) (.mv (.s 171))), (.op (some 173) (some (172, false)) (.faddr (.s 1) 1)), (.op (some 174) (some (172, false)) (.load (.s 173) false 1)), (.op (some 175) (some (172, false)) (.bin .eql (.s 174) (.k (.int .i64 5)))), (.op (some 176) (some (167, true)) (.pick (.s 172) (.k (.bool true)) (.s 175))), (.op (some 177) none (.pick (.s 167) (.s 176) (.k (.bool false)))), (.op (some 2) none (.mv (.s 177)))]
abbrev QIY : AC := .seq QIX .ret
abbrev QIZ : AC := .seq QIW QIY
abbrev QJ0 : AC := .seq QIE QIZ
abbrev QJ1 : AC := .seq QI9 QJ0
abbrev QJ2 : AC := .seq QI4 QJ1
abbrev QJ3 : AC := .seq QHZ QJ2
abbrev QJ4 : AC := .seq QHY QJ3
abbrev QJ5 : AC := .seq QHX QJ4
abbrev QJ6 : AC := .seq QHW QJ5
abbrev QJ7 : AC := .run [(.op (some 4) none (.mv (.k (.bool false))))]
abbrev QJ8 : AC := .run [(.op (some 6) none (.mv (.s 0))), (.op (some 7) none (.len (.s 6))), (.op (some 8) none (.mv (.s 1))), (.op (some 9) none (.len (.s 8))), (.op (some 10) none (.bin .neq (.s 7) (.s 9)))]
abbrev QJ9 : AC := .run [(.op (some 4) none (.mv (.k (.bool false))))]
abbrev QJA : AC := .seq QJ9 .ret
abbrev QJB : AC := .cond (.s 10) QJA .skip
abbrev QJC : AC := .seq QJ8 QJB
abbrev QJD : AC := .run [(.op (some 11) none (.mv (.s 0))), (.op (some 12) none (.len (.s 11))), (.op (some 13) none (.mv (.k (.int .i64 0))))]
abbrev QJE : AC := .run [(.op (some 14) none (.bin .lss (.s 13) (.s 12)))]
abbrev QJF : AC := .cond (.s 14) .skip (.exit 0)
abbrev QJG : AC := .run [(.op (some 15) none (.mv (.s 13))), (.op (some 5) none (.mv (.s 15)))]
abbrev QJH : AC := .par [(.op (some 16) none (.mv (.s 0))), (.op (some 17) none (.mv (.s 5))), (.op (some 18) none (.iaddr (.s 16) (.s 17) 1)), (.op (some 19) none (.load (.s 18) false 1)), (.op (some 20) none (.mv (.s 1))), (.op (some 21) none (.mv (.s 5))), (.op (some 22) none (.iaddr (.s 20) (.s 21) 1)), (.op (some 23) none (.load (.s 22) false 1)), (.op (some 24) none (.bin .neq (.s 19) (.s 23)))] [(0, 0), (1, 0), (2, 0), (3, 0), (4, 0), (5, 0), (6, 0), (7, 0), (8, 0)]
abbrev QJI : AC := .run [(.op (some 4) none (.mv (.k (.bool false))))]
abbrev QJJ : AC := .seq QJI .ret
abbrev QJK : AC := .cond (.s 24) QJJ .skip
abbrev QJL : AC := .seq QJH QJK
abbrev QJM : AC := .seq QJG QJL
abbrev QJN : AC := .block 1 QJM
abbrev QJO : AC := .run [(.op (some 25) none (.bin .add (.s 13) (.k (.int .i64 1)))), (.op (some 13) none (.mv (.s 25)))]
abbrev QJP : AC := .seq QJN QJO
abbrev QJQ : AC := .seq QJF QJP
abbrev QJR : AC := .seq QJE QJQ
abbrev QJS : AC := .loop QJR
abbrev QJT : AC := .block 0 QJS
abbrev QJU : AC := .seq QJD QJT
abbrev QJV : AC := .run [(.op (some 4) none (.mv (.k (.bool true))))]
abbrev QJW : AC := .seq QJV .ret
abbrev QJX : AC := .seq QJU QJW
abbrev QJY : AC := .seq QJC QJX
abbrev QJZ : AC := .seq QJ7 QJY
abbrev QK0 : AC := .run [(.op (some 4) none (.mv (.k (.bool false))))]
abbrev QK1 : AC := .run [(.op (some 6) none (.mv (.s 0))), (.op (some 7) none (.len (.s 6))), (.op (some 8) none (.mv (.s 1))), (.op (some 9) none (.len (.s 8))), (.op (some 10) none (.bin .neq (.s 7) (.s 9)))]
abbrev QK2 : AC := .run [(.op (some 4) none (.mv (.k (.bool false))))]
abbrev QK3 : AC := .seq QK2 .ret
abbrev QK4 : AC := .cond (.s 10) QK3 .skip
abbrev QK5 : AC := .seq QK1 QK4
abbrev QK6 : AC := .run [(.op (some 11) none (.mv (.s 0))), (.op (some 12) none (.len (.s 11))), (.op (some 13) none (.mv (.k (.int .i64 0))))]
abbrev QK7 : AC := .run [(.op (some 14) none (.bin .lss (.s 13) (.s 12)))]
abbrev QK8 : AC := .cond (.s 14) .skip (.exit 0)
abbrev QK9 : AC := .run [(.op (some 15) none (.mv (.s 13))), (.op (some 5) none (.mv (.s 15)))]
abbrev QKA : AC := .par [(.op (some 16) none (.mv (.s 0))), (.op (some 17) none (.mv (.s 5))), (.op (some 18) none (.iaddr (.s 16) (.s 17) 13)), (.op (some 19) none (.load (.s 18) true 13)), (.op (some 20) none (.mv (.s 1))), (.op (some 21) none (.mv (.s 5))), (.op (some 22) none (.iaddr (.s 20) (.s 21) 13)), (.op (some 23) none (.load (.s 22) true 13)), (.call (some 24) none n_ref3_eqOne [(.s 19), (.s 23)]), (.op (some 25) none (.un .not (.s 24)))] [(0, 0), (1, 0), (2, 0), (3, 0), (4, 0), (5, 0), (6, 0), (7, 0), (8, 0), (9, 0)]
abbrev QKB : AC := .run [(.op (some 4) none (.mv (.k (.bool false))))]
abbrev QKC : AC := .seq QKB .ret
abbrev QKD : AC := .cond (.s 25) QKC .skip
abbrev QKE : AC := .seq QKA QKD
abbrev QKF : AC := .seq QK9 QKE
abbrev QKG : AC := .block 1 QKF
abbrev QKH : AC := .run [(.op (some 26) none (.bin .add (.s 13) (.k (.int .i64 1)))), (.op (some 13) none (.mv (.s 26)))]
abbrev QKI : AC := .seq QKG QKH
abbrev QKJ : AC := .seq QK8 QKI
abbrev QKK : AC := .seq QK7 QKJ
abbrev QKL : AC := .loop QKK
abbrev QKM : AC := .block 0 QKL
abbrev QKN : AC := .seq QK6 QKM
abbrev QKO : AC := .run [(.op (some 4) none (.mv (.k (.bool true))))]
abbrev QKP : AC := .seq QKO .ret
abbrev QKQ : AC := .seq QKN QKP
abbrev QKR : AC := .seq QK5 QKQ
abbrev QKS : AC := .seq QK0 QKR
abbrev QKT : AC := .run [(.op (some 2) none (.box (.s 0))), (.op (some 4) none (.mv (.k (.int .i64 0))))]
abbrev QKU : AC := .run [(.op (some 8) none (.mv (.s 1))), (.op (some 9) none (.bin .eql (.s 8) (.k (.int .i64 0))))]
abbrev QKV : AC := .run [(.op (some 4) none (.mv (.k (.int .i64 1))))]
abbrev QKW : AC := .seq QKV .ret
abbrev QKX : AC := .cond (.s 9) QKW .skip
abbrev QKY : AC := .seq QKU QKX
abbrev QKZ : AC := .run [(.op (some 5) none (.mv (.k (.int .i64 0))))]
abbrev QL0 : AC := .run [(.op (some 6) none (.mv (.k (.int .i64 0))))]
abbrev QL1 : AC := .run [(.op (some 10) none (.mv (.s 6))), (.op (some 11) none (.faddr (.s 2) 3)), (.op (some 12) none (.load (.s 11) false 1)), (.op (some 13) none (.len (.s 12))), (.op (some 14) none (.bin .lss (.s 10) (.s 13))), (.op (some 15) none (.mv (.s 14))), (.op (some 16) (some (15, true)) (.mv (.s 5))), (.op (some 17) (some (15, true)) (.mv (.s 1))), (.op (some 18) (some (15, true)) (.bin .lss (.s 16) (.s 17))), (.op (some 19) none (.pick (.s 15) (.s 18) (.k (.bool false))))]
abbrev QL2 : AC := .cond (.s 19) .skip (.exit 0)
abbrev QL3 : AC := .seq QL1 QL2
abbrev QL4 : AC := .run [(.op (some 22) none (.faddr (.s 2) 3)), (.op (some 23) none (.load (.s 22) false 1)), (.op (some 24) none (.mv (.s 6))), (.op (some 25) none (.iaddr (.s 23) (.s 24) 4)), (.op (some 26) none (.load (.s 25) true 4)), (.op (some 27) none (.mv (.s 1))), (.op (some 28) none (.bin .sub (.s 27) (.k (.int .i64 1)))), (.call (some 29) none n_ref3_deep [(.s 26), (.s 28)]), (.op (some 7) none (.mv (.s 29)))]
abbrev QL5 : AC := .run [(.op (some 30) none (.mv (.s 7))), (.op (some 31) none (.mv (.s 5))), (.op (some 32) none (.bin .gtr (.s 30) (.s 31)))]
abbrev QL6 : AC := .run [(.op (some 33) none (.mv (.s 7))), (.op (some 5) none (.mv (.s 33)))]
abbrev QL7 : AC := .cond (.s 32) QL6 .skip
abbrev QL8 : AC := .seq QL5 QL7
abbrev QL9 : AC := .seq QL4 QL8
abbrev QLA : AC := .block 1 QL9
abbrev QLB : AC := .run [(.op (some 20) none (.mv (.s 6))), (.op (some 21) none (.bin .add (.s 20) (.k (.int .i64 1)))), (.op (some 6) none (.mv (.s 21)))]
abbrev QLC : AC := .seq QLA QLB
abbrev QLD : AC := .seq QL3 QLC
abbrev QLE : AC := .loop QLD
abbrev QLF : AC := .block 0 QLE
abbrev QLG : AC := .seq QL0 QLF
abbrev QLH : AC := .run [(.op (some 34) none (.mv (.s 5))), (.op (some 35) none (.bin .add (.s 34) (.k (.int .i64 1)))), (.op (some 4) none (.mv (.s 35)))]
abbrev QLI : AC := .seq QLH .ret
abbrev QLJ : AC := .seq QLG QLI
abbrev QLK : AC := .seq QKZ QLJ
abbrev QLL : AC := .seq QKY QLK
abbrev QLM : AC := .seq QKT QLL
abbrev QLN : AC := .run [(.op (some 1) none (.box (.s 0))), (.op (some 2) none (.mv (.k (.bool false))))]
abbrev QLO : AC := .par [(.op (some 4) none (.faddr (.s 1) 0)), (.op (some 5) none (.load (.s 4) false 1)), (.call (some 6) none n_ref3_Arity [(.s 5)]), (.op (some 7) none (.faddr (.s 1) 3)), (.op (some 8) none (.load (.s 7) false 1)), (.op (some 9) none (.len (.s 8))), (.op (some 10) none (.bin .neq (.s 6) (.s 9))), (.op (some 11) none (.mv (.s 10))), (.op (some 12) (some (11, false)) (.faddr (.s 1) 0)), (.op (some 13) (some (11, false)) (.load (.s 12) false 1)), (.op (some 14) (some (11, false)) (.bin .neq (.s 13) (.k (.int .i64 1)))), (.op (some 15) (some (11, false)) (.mv (.s 14))), (.op (some 16) (some (15, true)) (.faddr (.s 1) 1)), (.op (some 17) (some (15, true)) (.load (.s 16) false 1)), (.op (some 18) (some (15, true)) (.bin .neq (.s 17) (.k (.int .i64 0)))), (.op (some 19) (some (11, false)) (.pick (.s 15) (.s 18) (.k (.bool false)))), (.op (some 20) none (.pick (.s 11) (.k (.bool true)) (.s 19))), (.op (some 21) none (.mv (.s 20))), (.op (some 22) (some (21, false)) (.faddr (.s 1) 1)), (.op (some 23) (some (21, false)) (.load (.s 22) false 1)), (.op (some 24) (some (21, false)) (.bin .lss (.s 23) (.k (.int .i64 0)))), (.op (some 25) none (.pick (.s 21) (.k (.bool true)) (.s 24))), (.op (some 26) none (.mv (.s 25))), (.op (some 27) (some (26, false)) (.faddr (.s 1) 0)), (.op (some 28) (some (26, false)) (.load (.s 27) false 1)), (.op (some 29) (some (26, false)) (.bin .eql (.s 28) (.k (.int .i64 2)))), (.op (some 30) (some (26, false)) (.faddr (.s 1) 2)), (.op (some 31) (some (26, false)) (.load (.s 30) false 1)), (.op (some 32) (some (26, false)) (.bin .neq (.s 31) (.k (.str [])))), (.op (some 33) (some (26, false)) (.eqb true (.s 29) (.s 32))), (.op (some 34) none (.pick (.s 26) (.k (.bool true)) (.s 33))), (.op (some 35) none (.mv (.s 34))), (.op (some 36) (some (35, false)) (.faddr (.s 1) 2)), (.op (some 37) (some (35, false)) (.load (.s 36) false 1)), (.op (some 38) (some (35, false)) (.bin .neq (.s 37) (.k (.str [])))), (.op (some 39) (some (35, false)) (.mv (.s 38))), (.op (some 40) (some (39, true)) (.faddr (.s 1) 2)), (.op (some 41) (some (39, true)) (.load (.s 40) false 1)), (.call (some 42) (some (39, true)) n_ref1_Name [(.s 41)]), (.op (some 43) (some (39, true)) (.un .not (.s 42))), (.op (some 44) (some (35, false)) (.pick (.s 39) (.s 43) (.k (.bool false)))), (.op (some 45) none (.pick (.s 35) (.k (.bool true)) (.s 44)))] [(0, 0), (1, 0), (2, 0), (3, 0), (4, 1), (5, 0), (6, 0), (7, 0), (8, 0), (9, 0), (10, 0), (11, 0), (12, 0), (13, 0), (14, 0), (15, 0), (16, 0), (17, 0), (18, 0), (19, 0), (20, 0), (21, 0), (22, 0), (23, 0), (24, 0), (25, 0), (26, 0), (27, 0), (28, 0), (29, 0), (30, 0), (31, 0), (32, 0), (33, 0), (34, 0), (35, 0), (36, 0), (37, 0), (38, 0), (39, 0), (40, 0), (41, 0)]
abbrev QLP : AC := .run [(.op (some 2) none (.mv (.k (.bool false))))]
abbrev QLQ : AC := .seq QLP .ret
abbrev QLR : AC := .cond (.s 45) QLQ .skip
abbrev QLS : AC := .seq QLO QLR
abbrev QLT : AC := .run [(.op (some 46) none (.faddr (.s 1) 3)), (.op (some 47) none (.load (.s 46) false 1)), (.op (some 48) none (.len (.s 47))), (.op (some 49) none (.mv (.k (.int .i64 0))))]
abbrev QLU : AC := .run [(.op (some 50) none (.bin .lss (.s 49) (.s 48)))]
abbrev QLV : AC := .cond (.s 50) .skip (.exit 0)
abbrev QLW : AC := .run [(.op (some 51) none (.mv (.s 49))), (.op (some 3) none (.mv (.s 51)))]
abbrev QLX : AC := .run [(.op (some 52) none (.faddr (.s 1) 3)), (.op (some 53) none (.load (.s 52) false 1)), (.op (some 54) none (.mv (.s 3))), (.op (some 55) none (.iaddr (.s 53) (.s 54) 4)), (.op (some 56) none (.load (.s 55) true 4)), (.call (some 57) none n_ref3_form [(.s 56)]), (.op (some 58) none (.un .not (.s 57)))]
abbrev QLY : AC := .run [(.op (some 2) none (.mv (.k (.bool false))))]
abbrev QLZ : AC := .seq QLY .ret
abbrev QM0 : AC := .cond (.s 58) QLZ .skip
abbrev QM1 : AC := .seq QLX QM0
abbrev QM2 : AC := .seq QLW QM1
abbrev QM3 : AC := .block 1 QM2
abbrev QM4 : AC := .run [(.op (some 59) none (.bin .add (.s 49) (.k (.int .i64 1)))), (.op (some 49) none (.mv (.s 59)))]
abbrev QM5 : AC := .seq QM3 QM4
abbrev QM6 : AC := .seq QLV QM5
abbrev QM7 : AC := .seq QLU QM6
abbrev QM8 : AC := .loop QM7
abbrev QM9 : AC := .block 0 QM8
abbrev QMA : AC := .seq QLT QM9
abbrev QMB : AC := .run [(.op (some 2) none (.mv (.k (.bool true))))]
abbrev QMC : AC := .seq QMB .ret
abbrev QMD : AC := .seq QMA QMC
abbrev QME : AC := .seq QLS QMD
abbrev QMF : AC := .seq QLN QME
abbrev QMG : AC := .run [(.op (some 2) none (.mv (.k (.slice .full 0 [])))), (.op (some 3) none (.alloc [(.int .i64 0), (.int .i64 0)]))]
abbrev QMH : AC := .run [(.op (some 4) none (.mv (.k (.slice .full 0 []))))]
abbrev QMI : AC := .run [(.op (some 5) none (.alloc [(.int .i64 0), (.str []), (.int .i64 0), (.int .i64 0)]))]
abbrev QMJ : AC := .run [(.op (some 6) none (.mv (.k (.int .i64 0)))), (.op (some 7) none (.mv (.k (.int .i64 0)))), (.op (some 8) none (.mv (.k (.bool true))))]
abbrev QMK : AC := .run [(.op (some 10) none (.mv (.s 0))), (.op (some 11) none (.slen (.s 10))), (.op (some 12) none (.bin .gtr (.s 11) (.k (.int .i64 100000))))]
abbrev QML : AC := .run [(.op (some 13) none (.build [(.int .i64 0), (.int .i64 0)] [(0, (1, (.k (.int .i64 4))))])), (.op (some 2) none (.mv (.k (.slice .full 0 [])))), (.op none none (.store (.s 3) (.s 13) 2))]
abbrev QMM : AC := .seq QML .ret
abbrev QMN : AC := .cond (.s 12) QMM .skip
abbrev QMO : AC := .seq QMK QMN
abbrev QMP : AC := .run [(.op (some 14) none (.mv (.s 6))), (.op (some 15) none (.mv (.s 0))), (.op (some 16) none (.slen (.s 15))), (.op (some 17) none (.bin .geq (.s 14) (.s 16)))]
abbrev QMQ : AC := .run [(.op (some 18) none (.mv (.s 4))), (.op (some 19) none (.mv (.s 0))), (.op (some 20) none (.slen (.s 19))), (.op (some 21) none (.build [(.int .i64 0), (.str []), (.int .i64 0), (.int .i64 0)] [(3, (1, (.s 20)))])), (.op (some 22) none (.bslice [(.int .i64 0), (.str []), (.int .i64 0), (.int .i64 0)] 4 1 [(0, (.s 21))])), (.op (some 23) none (.app 4 40 (.s 18) (.s 22))), (.op (some 24) none (.build [(.int .i64 0), (.int .i64 0)] [])), (.op (some 2) none (.mv (.s 23))), (.op none none (.store (.s 3) (.s 24) 2))]
abbrev QMR : AC := .seq QMQ .ret
abbrev QMS : AC := .cond (.s 17) QMR .skip
abbrev QMT : AC := .seq QMP QMS
abbrev QMU : AC := .run [(.op (some 25) none (.mv (.s 6))), (.op (some 26) none (.build [(.int .i64 0), (.str []), (.int .i64 0), (.int .i64 0)] [(3, (1, (.s 25)))])), (.op none none (.store (.s 5) (.s 26) 4))]
abbrev QMV : AC := .run [(.op (some 27) none (.mv (.s 0))), (.op (some 28) none (.mv (.s 6))), (.op (some 29) none (.sidx (.s 27) (.s 28))), (.op (some 9) none (.mv (.s 29)))]
abbrev QMW : AC := .run [(.op (some 31) none (.mv (.s 9))), (.op (some 32) none (.bin .eql (.s 31) (.k (.int .u8 32)))), (.op (some 33) none (.mv (.s 32))), (.op (some 34) (some (33, false)) (.mv (.s 9))), (.op (some 35) (some (33, false)) (.bin .eql (.s 34) (.k (.int .u8 9)))), (.op (some 36) none (.pick (.s 33) (.k (.bool true)) (.s 35))), (.op (some 37) none (.mv (.s 36))), (.op (some 38) (some (37, false)) (.mv (.s 9))), (.op (some 39) (some (37, false)) (.bin .eql (.s 38) (.k (.int .u8 10)))), (.op (some 40) none (.pick (.s 37) (.k (.bool true)) (.s 39))), (.op (some 41) none (.mv (.s 40))), (.op (some 42) (some (41, false)) (.mv (.s 9))), (.op (some 43) (some (41, false)) (.bin .eql (.s 42) (.k (.int .u8 13)))), (.op (some 44) none (.pick (.s 41) (.k (.bool true)) (.s 43))), (.op (some 30) none (.mv (.s 44)))]
abbrev QMX : AC := .run [(.op (some 45) none (.mv (.s 6))), (.op (some 46) none (.bin .add (.s 45) (.k (.int .i64 1)))), (.op (some 6) none (.mv (.s 46)))]
abbrev QMY : AC := .seq QMX (.goto 0)
abbrev QMZ : AC := .run [(.op (some 48) none (.mv (.s 9))), (.op (some 49) none (.bin .eql (.s 48) (.k (.int .u8 35)))), (.op (some 47) none (.mv (.s 49)))]
abbrev QN0 : AC := .run [(.op (some 51) none (.mv (.s 9))), (.call (some 52) none n_lex_letter [(.s 51)]), (.op (some 50) none (.mv (.s 52)))]
abbrev QN1 : AC := .run [(.op (some 54) none (.mv (.s 9))), (.call (some 55) none n_lex_digit [(.s 54)]), (.op (some 53) none (.mv (.s 55)))]
abbrev QN2 : AC := .cond (.s 53) (.goto 3) .skip
abbrev QN3 : AC := .seq QN1 QN2
abbrev QN4 : AC := .cond (.s 50) (.goto 2) QN3
abbrev QN5 : AC := .seq QN0 QN4
abbrev QN6 : AC := .cond (.s 47) (.goto 1) QN5
abbrev QN7 : AC := .seq QMZ QN6
abbrev QN8 : AC := .cond (.s 30) QMY QN7
abbrev QN9 : AC := .seq QMW QN8
abbrev QNA : AC := .block 0 QN9
abbrev QNB : AC := .seq QMV QNA
abbrev QNC : AC := .run [(.op (some 56) none (.faddr (.s 5) 0)), (.op none none (.store (.s 56) (.k (.int .i64 4)) 1))]
abbrev QND : AC := .run [(.op (some 57) none (.mv (.s 6))), (.op (some 58) none (.mv (.s 0))), (.op (some 59) none (.mv (.s 6))), (.call (some 60) none n_lex_sign [(.s 58), (.s 59)]), (.op (some 61) none (.bin .add (.s 57) (.s 60))), (.op (some 6) none (.mv (.s 61)))]
abbrev QNE : AC := .run [(.op (some 62) none (.mv (.s 0))), (.op (some 63) none (.faddr (.s 5) 3)), (.op (some 64) none (.load (.s 63) false 1)), (.op (some 65) none (.mv (.s 6))), (.op (some 66) none (.sslc (.s 62) (some (.s 64)) (some (.s 65)))), (.op (some 67) none (.faddr (.s 5) 1)), (.op none none (.store (.s 67) (.s 66) 1))]
abbrev QNF : AC := .run [(.op (some 7) none (.mv (.k (.int .i64 2))))]
abbrev QNG : AC := .run [(.op (some 68) none (.mv (.s 6))), (.op (some 69) none (.faddr (.s 5) 3)), (.op (some 70) none (.load (.s 69) false 1)), (.op (some 71) none (.bin .gtr (.s 68) (.s 70)))]
abbrev QNH : AC := .cond (.s 71) (.goto 4) .skip
abbrev QNI : AC := .seq QNG QNH
abbrev QNJ : AC := .run [(.op (some 72) none (.mv (.s 6))), (.op (some 73) none (.mv (.s 0))), (.op (some 74) none (.slen (.s 73))), (.op (some 75) none (.bin .lss (.s 72) (.s 74))), (.op (some 76) none (.mv (.s 75))), (.op (some 77) (some (76, true)) (.mv (.s 0))), (.op (some 78) (some (76, true)) (.mv (.s 6))), (.op (some 79) (some (76, true)) (.sidx (.s 77) (.s 78))), (.op (some 80) (some (76, true)) (.bin .neq (.s 79) (.k (.int .u8 10)))), (.op (some 81) none (.pick (.s 76) (.s 80) (.k (.bool false))))]
abbrev QNK : AC := .cond (.s 81) .skip (.exit 1)
abbrev QNL : AC := .seq QNJ QNK
abbrev QNM : AC := .run [(.op (some 82) none (.mv (.s 6))), (.op (some 83) none (.bin .add (.s 82) (.k (.int .i64 1)))), (.op (some 6) none (.mv (.s 83)))]
abbrev QNN : AC := .block 2 QNM
abbrev QNO : AC := .seq QNL QNN
abbrev QNP : AC := .loop QNO
abbrev QNQ : AC := .block 1 QNP
abbrev QNR : AC := .run [(.op (some 84) none (.mv (.s 0))), (.op (some 85) none (.mv (.s 6))), (.call (some 86) none n_lex_run [(.s 84), (.s 85)]), (.op (some 6) none (.mv (.s 86)))]
abbrev QNS : AC := .par [(.op (some 87) none (.mv (.s 0))), (.op (some 88) none (.faddr (.s 5) 3)), (.op (some 89) none (.load (.s 88) false 1)), (.op (some 90) none (.mv (.s 6))), (.op (some 91) none (.sslc (.s 87) (some (.s 89)) (some (.s 90)))), (.op (some 92) none (.faddr (.s 5) 0)), (.op none none (.store (.s 92) (.k (.int .i64 1)) 1)), (.op (some 93) none (.faddr (.s 5) 1)), (.op none none (.store (.s 93) (.s 91) 1))] [(1, 0), (2, 0), (5, 0), (6, 0), (0, 0), (3, 0), (4, 0), (7, 0), (8, 0)]
abbrev QNT : AC := .run [(.op (some 94) none (.faddr (.s 5) 1)), (.op (some 95) none (.load (.s 94) false 1)), (.call (some 96) none n_lex_Word [(.s 95)])]
abbrev QNU : AC := .run [(.op (some 97) none (.faddr (.s 5) 0)), (.op none none (.store (.s 97) (.k (.int .i64 3)) 1))]
abbrev QNV : AC := .cond (.s 96) QNU .skip
abbrev QNW : AC := .seq QNT QNV
abbrev QNX : AC := .run [(.op (some 7) none (.mv (.k (.int .i64 4))))]
abbrev QNY : AC := .run [(.op (some 98) none (.mv (.s 6))), (.op (some 99) none (.faddr (.s 5) 3)), (.op (some 100) none (.load (.s 99) false 1)), (.op (some 101) none (.bin .sub (.s 98) (.s 100))), (.op (some 102) none (.bin .gtr (.s 101) (.k (.int .i64 8))))]
abbrev QNZ : AC := .cond (.s 102) (.goto 5) .skip
abbrev QO0 : AC := .seq QNY QNZ
abbrev QO1 : AC := .run [(.op (some 103) none (.mv (.s 6))), (.op (some 104) none (.mv (.s 0))), (.op (some 105) none (.slen (.s 104))), (.op (some 106) none (.bin .lss (.s 103) (.s 105))), (.op (some 107) none (.mv (.s 106))), (.op (some 108) (some (107, true)) (.mv (.s 0))), (.op (some 109) (some (107, true)) (.mv (.s 6))), (.op (some 110) (some (107, true)) (.sidx (.s 108) (.s 109))), (.call (some 111) (some (107, true)) n_lex_digit [(.s 110)]), (.op (some 112) none (.pick (.s 107) (.s 111) (.k (.bool false))))]
abbrev QO2 : AC := .cond (.s 112) .skip (.exit 3)
abbrev QO3 : AC := .seq QO1 QO2
abbrev QO4 : AC := .run [(.op (some 113) none (.mv (.s 6))), (.op (some 114) none (.bin .add (.s 113) (.k (.int .i64 1)))), (.op (some 6) none (.mv (.s 114)))]
abbrev QO5 : AC := .block 4 QO4
abbrev QO6 : AC := .seq QO3 QO5
abbrev QO7 : AC := .loop QO6
abbrev QO8 : AC := .block 3 QO7
abbrev QO9 : AC := .par [(.op (some 115) none (.mv (.s 0))), (.op (some 116) none (.faddr (.s 5) 3)), (.op (some 117) none (.load (.s 116) false 1)), (.op (some 118) none (.mv (.s 6))), (.op (some 119) none (.sslc (.s 115) (some (.s 117)) (some (.s 118)))), (.op (some 120) none (.faddr (.s 5) 0)), (.op none none (.store (.s 120) (.k (.int .i64 2)) 1)), (.op (some 121) none (.faddr (.s 5) 1)), (.op none none (.store (.s 121) (.s 119) 1)), (.op (some 7) none (.mv (.k (.int .i64 2))))] [(1, 0), (2, 0), (5, 0), (6, 0), (0, 0), (3, 0), (4, 0), (7, 0), (8, 0), (9, 0)]
abbrev QOA : AC := .run [(.op (some 122) none (.faddr (.s 5) 1)), (.op (some 123) none (.load (.s 122) false 1)), (.op (some 124) none (.slen (.s 123))), (.op (some 125) none (.bin .gtr (.s 124) (.k (.int .i64 1)))), (.op (some 126) none (.mv (.s 125))), (.op (some 127) (some (126, true)) (.faddr (.s 5) 1)), (.op (some 128) (some (126, true)) (.load (.s 127) false 1)), (.op (some 129) (some (126, true)) (.sidx (.s 128) (.k (.int .i64 0)))), (.op (some 130) (some (126, true)) (.bin .eql (.s 129) (.k (.int .u8 48)))), (.op (some 131) none (.pick (.s 126) (.s 130) (.k (.bool false))))]
abbrev QOB : AC := .cond (.s 131) (.goto 5) .skip
abbrev QOC : AC := .seq QOA QOB
abbrev QOD : AC := .run [(.op (some 133) none (.faddr (.s 5) 1)), (.op (some 134) none (.load (.s 133) false 1)), (.call (some 135) none n_lex_number [(.s 134)]), (.op (some 132) none (.mv (.s 135))), (.op (some 136) none (.ext (.s 132) 0)), (.op (some 137) none (.ext (.s 132) 1)), (.op (some 138) none (.faddr (.s 5) 2)), (.op none none (.store (.s 138) (.s 136) 1)), (.op (some 8) none (.mv (.s 137)))]
abbrev QOE : AC := .run [(.op (some 7) none (.mv (.k (.int .i64 4))))]
abbrev QOF : AC := .run [(.op (some 139) none (.mv (.s 8))), (.op (some 140) none (.un .not (.s 139)))]
abbrev QOG : AC := .cond (.s 140) (.goto 5) .skip
abbrev QOH : AC := .seq QOF QOG
abbrev QOI : AC := .run [(.op (some 7) none (.mv (.k (.int .i64 4))))]
abbrev QOJ : AC := .run [(.op (some 141) none (.mv (.s 4))), (.op (some 142) none (.len (.s 141))), (.op (some 143) none (.bin .eql (.s 142) (.k (.int .i64 2000))))]
abbrev QOK : AC := .cond (.s 143) (.goto 5) .skip
abbrev QOL : AC := .seq QOJ QOK
abbrev QOM : AC := .run [(.op (some 144) none (.mv (.s 4))), (.op (some 145) none (.load (.s 5) true 4)), (.op (some 146) none (.bslice [(.int .i64 0), (.str []), (.int .i64 0), (.int .i64 0)] 4 1 [(0, (.s 145))])), (.op (some 147) none (.app 4 40 (.s 144) (.s 146))), (.op (some 4) none (.mv (.s 147)))]
abbrev QON : AC := .par [(.op (some 148) none (.mv (.s 7))), (.op (some 149) none (.faddr (.s 5) 3)), (.op (some 150) none (.load (.s 149) false 1)), (.op (some 151) none (.build [(.int .i64 0), (.int .i64 0)] [(0, (1, (.s 148))), (1, (1, (.s 150)))])), (.op (some 2) none (.mv (.k (.slice .full 0 [])))), (.op none none (.store (.s 3) (.s 151) 2))] [(0, 0), (1, 0), (2, 0), (3, 0), (4, 0), (5, 0)]
abbrev QOO : AC := .seq QON .ret
abbrev QOP : AC := .seq (.label 5) QOO
abbrev QOQ : AC := .seq (.goto 0) QOP
abbrev QOR : AC := .seq QOM QOQ
abbrev QOS : AC := .seq QOL QOR
abbrev QOT : AC := .seq QOI QOS
abbrev QOU : AC := .seq (.label 4) QOT
abbrev QOV : AC := .seq QOH QOU
abbrev QOW : AC := .seq QOE QOV
abbrev QOX : AC := .seq QOD QOW
abbrev QOY : AC := .seq QOC QOX
abbrev QOZ : AC := .seq QO9 QOY
abbrev QP0 : AC := .seq QO8 QOZ
abbrev QP1 : AC := .seq (.label 3) QP0
abbrev QP2 : AC := .seq (.goto 4) QP1
abbrev QP3 : AC := .seq QO0 QP2
abbrev QP4 : AC := .seq QNX QP3
abbrev QP5 : AC := .seq QNW QP4
abbrev QP6 : AC := .seq QNS QP5
abbrev QP7 : AC := .seq QNR QP6
abbrev QP8 : AC := .seq (.label 2) QP7
abbrev QP9 : AC := .seq (.goto 0) QP8
abbrev QPA : AC := .seq QNQ QP9
abbrev QPB : AC := .seq (.label 1) QPA
abbrev QPC : AC := .seq (.goto 5) QPB
abbrev QPD : AC := .seq QNI QPC
abbrev QPE : AC := .seq QNF QPD
abbrev QPF : AC := .seq QNE QPE
abbrev QPG : AC := .seq QND QPF
abbrev QPH : AC := .seq QNC QPG
abbrev QPI : AC := .seq QNB QPH
abbrev QPJ : AC := .seq QMU QPI
abbrev QPK : AC := .seq QMT QPJ
abbrev QPL : AC := .seq (.label 0) QPK
abbrev QPM : AC := .seq QMO QPL
abbrev QPN : AC := .seq QMJ QPM
abbrev QPO : AC := .seq QMI QPN
abbrev QPP : AC := .seq QMH QPO
abbrev QPQ : AC := .scope QPP
abbrev QPR : AC := .seq QMG QPQ
abbrev QPS : AC := .run [(.op (some 2) none (.alloc [(.int .i64 0), (.int .i64 0), (.str []), (.slice .full 0 [])]))]
abbrev QPT : AC := .run [(.op (some 3) none (.mv (.s 0))), (.op (some 4) none (.build [(.int .i64 0), (.int .i64 0), (.str []), (.slice .full 0 [])] [(0, (1, (.k (.int .i64 1)))), (1, (1, (.s 3)))])), (.op none none (.store (.s 2) (.s 4) 4))]
abbrev QPU : AC := .seq QPT .ret
abbrev QPV : AC := .seq QPS QPU
abbrev QPW : AC := .run [(.op (some 2) none (.alloc [(.int .i64 0), (.int .i64 0), (.str []), (.slice .full 0 [])]))]
abbrev QPX : AC := .run [(.op (some 3) none (.mv (.s 0))), (.op (some 4) none (.build [(.int .i64 0), (.int .i64 0), (.str []), (.slice .full 0 [])] [(0, (1, (.k (.int .i64 2)))), (2, (1, (.s 3)))])), (.op none none (.store (.s 2) (.s 4) 4))]
abbrev QPY : AC := .seq QPX .ret
abbrev QPZ : AC := .seq QPW QPY
abbrev QQ0 : AC := .run [(.op (some 4) none (.box (.s 1))), (.op (some 5) none (.box (.s 2))), (.op (some 6) none (.alloc [(.int .i64 0), (.int .i64 0), (.str []), (.slice .full 0 [])]))]
abbrev QQ1 : AC := .run [(.op (some 7) none (.mv (.s 0))), (.op (some 8) none (.load (.s 4) true 4)), (.op (some 9) none (.load (.s 5) true 4)), (.op (some 10) none (.bslice [(.int .i64 0), (.int .i64 0), (.str []), (.slice .full 0 [])] 4 2 [(0, (.s 8)), (1, (.s 9))])), (.op (some 11) none (.build [(.int .i64 0), (.int .i64 0), (.str []), (.slice .full 0 [])] [(0, (1, (.s 7))), (3, (1, (.s 10)))])), (.op none none (.store (.s 6) (.s 11) 4))]
abbrev QQ2 : AC := .seq QQ1 .ret
abbrev QQ3 : AC := .seq QQ0 QQ2
abbrev QQ4 : AC := .run [(.op (some 2) none (.mv (.k (.bool false))))]
abbrev QQ5 : AC := .run [(.op (some 5) none (.mv (.s 0))), (.op (some 6) none (.len (.s 5))), (.op (some 7) none (.mv (.k (.int .i64 0))))]
abbrev QQ6 : AC := .run [(.op (some 8) none (.bin .lss (.s 7) (.s 6)))]
abbrev QQ7 : AC := .cond (.s 8) .skip (.exit 0)
abbrev QQ8 : AC := .run [(.op (some 9) none (.iaddr (.s 5) (.s 7) 1)), (.op (some 10) none (.load (.s 9) false 1)), (.op (some 4) none (.mv (.s 10)))]
abbrev QQ9 : AC := .run [(.op (some 11) none (.mv (.s 4))), (.call (some 12) none n_lex_Name [(.s 11)]), (.op (some 13) none (.un .not (.s 12)))]
abbrev QQA : AC := .run [(.op (some 2) none (.mv (.k (.bool false))))]
abbrev QQB : AC := .seq QQA .ret
abbrev QQC : AC := .cond (.s 13) QQB .skip
abbrev QQD : AC := .seq QQ9 QQC
abbrev QQE : AC := .seq QQ8 QQD
abbrev QQF : AC := .block 1 QQE
abbrev QQG : AC := .run [(.op (some 14) none (.bin .add (.s 7) (.k (.int .i64 1)))), (.op (some 7) none (.mv (.s 14)))]
abbrev QQH : AC := .seq QQF QQG
abbrev QQI : AC := .seq QQ7 QQH
abbrev QQJ : AC := .seq QQ6 QQI
abbrev QQK : AC := .loop QQJ
abbrev QQL : AC := .block 0 QQK
abbrev QQM : AC := .seq QQ5 QQL
abbrev QQN : AC := .run [(.op (some 2) none (.mv (.k (.bool true))))]
abbrev QQO : AC := .seq QQN .ret
abbrev QQP : AC := .seq QQM QQO
abbrev QQQ : AC := .seq QQ4 QQP
abbrev QQR : AC := .run [(.op (some 2) none (.mv (.k (.bool false))))]
abbrev QQS : AC := .run [(.op (some 3) none (.mv (.s 0))), (.op (some 4) none (.slen (.s 3))), (.op (some 5) none (.bin .lss (.s 4) (.k (.int .i64 1)))), (.op (some 6) none (.mv (.s 5))), (.op (some 7) (some (6, false)) (.mv (.s 0))), (.op (some 8) (some (6, false)) (.slen (.s 7))), (.op (some 9) (some (6, false)) (.bin .gtr (.s 8) (.k (.int .i64 8)))), (.op (some 10) none (.pick (.s 6) (.k (.bool true)) (.s 9))), (.op (some 11) none (.mv (.s 10))), (.op (some 12) (some (11, false)) (.mv (.s 0))), (.op (some 13) (some (11, false)) (.sidx (.s 12) (.k (.int .i64 0)))), (.call (some 14) (some (11, false)) n_lex_letter [(.s 13)]), (.op (some 15) (some (11, false)) (.un .not (.s 14))), (.op (some 16) none (.pick (.s 11) (.k (.bool true)) (.s 15)))]
abbrev QQT : AC := .run [(.op (some 2) none (.mv (.k (.bool false))))]
abbrev QQU : AC := .seq QQT .ret
abbrev QQV : AC := .cond (.s 16) QQU .skip
abbrev QQW : AC := .seq QQS QQV
abbrev QQX : AC := .run [(.op (some 17) none (.mv (.s 0))), (.call (some 18) none n_lex_run [(.s 17), (.k (.int .i64 0))]), (.op (some 19) none (.mv (.s 0))), (.op (some 20) none (.slen (.s 19))), (.op (some 21) none (.bin .eql (.s 18) (.s 20))), (.op (some 22) none (.mv (.s 21))), (.op (some 23) (some (22, true)) (.mv (.s 0))), (.call (some 24) (some (22, true)) n_lex_Word [(.s 23)]), (.op (some 25) (some (22, true)) (.un .not (.s 24))), (.op (some 26) none (.pick (.s 22) (.s 25) (.k (.bool false)))), (.op (some 2) none (.mv (.s 26)))]
abbrev QQY : AC := .seq QQX .ret
abbrev QQZ : AC := .seq QQW QQY
abbrev QR0 : AC := .seq QQR QQZ
abbrev QR1 : AC := .run [(.op (some 6) none (.mv (.k (.bool false))))]
abbrev QR2 : AC := .run [(.op (some 9) none (.mv (.s 2))), (.op (some 10) none (.bin .gtr (.s 9) (.k (.int .i64 12)))), (.op (some 11) none (.mv (.s 10))), (.op (some 12) (some (11, true)) (.mv (.s 1))), (.op (some 13) (some (11, true)) (.len (.s 12))), (.op (some 14) (some (11, true)) (.bin .gtr (.s 13) (.k (.int .i64 0)))), (.op (some 15) none (.pick (.s 11) (.s 14) (.k (.bool false))))]
abbrev QR3 : AC := .run [(.op (some 6) none (.mv (.k (.bool false))))]
abbrev QR4 : AC := .seq QR3 .ret
abbrev QR5 : AC := .cond (.s 15) QR4 .skip
abbrev QR6 : AC := .seq QR2 QR5
abbrev QR7 : AC := .run [(.op (some 16) none (.mv (.s 1))), (.op (some 17) none (.len (.s 16))), (.op (some 18) none (.mv (.k (.int .i64 0))))]
abbrev QR8 : AC := .run [(.op (some 19) none (.bin .lss (.s 18) (.s 17)))]
abbrev QR9 : AC := .cond (.s 19) .skip (.exit 0)
abbrev QRA : AC := .run [(.op (some 20) none (.iaddr (.s 16) (.s 18) 13)), (.op (some 21) none (.load (.s 20) true 13)), (.op (some 8) none (.alloc [(.int .i64 0), (.int .i64 0), (.slice .full 0 []), (.str []), (.str []), (.int .i64 0), (.int .i64 0), (.str []), (.slice .full 0 []), (.bool false), (.slice .full 0 []), (.slice .full 0 []), (.slice .full 0 [])])), (.op none none (.store (.s 8) (.s 21) 13))]
abbrev QRB : AC := .run [(.op (some 22) none (.mv (.s 0))), (.op (some 23) none (.nilck (.s 22))), (.op (some 24) none (.faddr (.s 23) 0)), (.op (some 25) none (.load (.s 24) false 1)), (.op (some 26) none (.bin .add (.s 25) (.k (.int .i64 1)))), (.op (some 27) none (.nilck (.s 22))), (.op (some 28) none (.faddr (.s 27) 0)), (.op none none (.store (.s 28) (.s 26) 1))]
abbrev QRC : AC := .par [(.op (some 29) none (.mv (.s 0))), (.op (some 30) none (.nilck (.s 29))), (.op (some 31) none (.faddr (.s 30) 0)), (.op (some 32) none (.load (.s 31) false 1)), (.op (some 33) none (.bin .gtr (.s 32) (.k (.int .i64 200)))), (.op (some 34) none (.mv (.s 33))), (.op (some 35) (some (34, false)) (.faddr (.s 8) 0)), (.op (some 36) (some (34, false)) (.load (.s 35) false 1)), (.op (some 37) (some (34, false)) (.mv (.s 0))), (.op (some 38) (some (34, false)) (.nilck (.s 37))), (.op (some 39) (some (34, false)) (.faddr (.s 38) 0)), (.op (some 40) (some (34, false)) (.load (.s 39) false 1)), (.op (some 41) (some (34, false)) (.bin .neq (.s 36) (.s 40))), (.op (some 42) none (.pick (.s 34) (.k (.bool true)) (.s 41))), (.op (some 43) none (.mv (.s 42))), (.op (some 44) (some (43, false)) (.faddr (.s 8) 2)), (.op (some 45) (some (43, false)) (.load (.s 44) false 1)), (.call (some 46) (some (43, false)) n_tree_names [(.s 45)]), (.op (some 47) (some (43, false)) (.un .not (.s 46))), (.op (some 48) none (.pick (.s 43) (.k (.bool true)) (.s 47))), (.op (some 49) none (.mv (.s 48))), (.op (some 50) (some (49, false)) (.load (.s 8) true 13)), (.call (some 51) (some (49, false)) n_tree_fields [(.s 50)]), (.op (some 52) (some (49, false)) (.un .not (.s 51))), (.op (some 53) none (.pick (.s 49) (.k (.bool true)) (.s 52)))] [(0, 0), (1, 0), (2, 0), (3, 0), (4, 0), (5, 0), (6, 0), (7, 0), (8, 0), (9, 0), (10, 0), (11, 0), (12, 0), (13, 0), (14, 0), (15, 0), (16, 0), (17, 0), (18, 0), (19, 0), (20, 0), (21, 0), (22, 0), (23, 0), (24, 0)]
abbrev QRD : AC := .run [(.op (some 6) none (.mv (.k (.bool false))))]
abbrev QRE : AC := .seq QRD .ret
abbrev QRF : AC := .cond (.s 53) QRE .skip
abbrev QRG : AC := .seq QRC QRF
abbrev QRH : AC := .run [(.op (some 54) none (.mv (.s 0))), (.op (some 55) none (.faddr (.s 8) 11)), (.op (some 56) none (.load (.s 55) false 1)), (.op (some 57) none (.mv (.s 2))), (.op (some 58) none (.bin .add (.s 57) (.k (.int .i64 1)))), (.call (some 59) none n_tree_looker_rows [(.s 54), (.s 56), (.s 58)]), (.op (some 60) none (.un .not (.s 59))), (.op (some 61) none (.mv (.s 60))), (.op (some 62) (some (61, false)) (.mv (.s 0))), (.op (some 63) (some (61, false)) (.faddr (.s 8) 12)), (.op (some 64) (some (61, false)) (.load (.s 63) false 1)), (.op (some 65) (some (61, false)) (.mv (.s 2))), (.op (some 66) (some (61, false)) (.bin .add (.s 65) (.k (.int .i64 1)))), (.call (some 67) (some (61, false)) n_tree_looker_rows [(.s 62), (.s 64), (.s 66)]), (.op (some 68) (some (61, false)) (.un .not (.s 67))), (.op (some 69) none (.pick (.s 61) (.k (.bool true)) (.s 68)))]
abbrev QRI : AC := .run [(.op (some 6) none (.mv (.k (.bool false))))]
abbrev QRJ : AC := .seq QRI .ret
abbrev QRK : AC := .cond (.s 69) QRJ .skip
abbrev QRL : AC := .seq QRH QRK
abbrev QRM : AC := .seq QRG QRL
abbrev QRN : AC := .seq QRB QRM
abbrev QRO : AC := .seq QRA QRN
abbrev QRP : AC := .block 1 QRO
abbrev QRQ : AC := .run [(.op (some 70) none (.bin .add (.s 18) (.k (.int .i64 1)))), (.op (some 18) none (.mv (.s 70)))]
abbrev QRR : AC := .seq QRP QRQ
abbrev QRS : AC := .seq QR9 QRR
abbrev QRT : AC := .seq QR8 QRS
abbrev QRU : AC := .loop QRT
abbrev QRV : AC := .block 0 QRU
abbrev QRW : AC := .seq QR7 QRV
abbrev QRX : AC := .run [(.op (some 6) none (.mv (.k (.bool true))))]
abbrev QRY : AC := .seq QRX .ret
abbrev QRZ : AC := .seq QRW QRY
abbrev QS0 : AC := .seq QR6 QRZ
abbrev QS1 : AC := .seq QR1 QS0

end Go.Abs

/-! Have1 -/

namespace Go.Abs
open Go.Proofs

theorem has_print_writer_line : Has Tryd.prog n_print_writer_line 23 [] QC0 := ⟨Tryd.f34, by kernel_rfl, by kernel_rfl⟩
theorem has_print_ref : Has Tryd.prog n_print_ref 4 [(2, none)] QCA := ⟨Tryd.f36, by kernel_rfl, by kernel_rfl⟩
theorem has_print_writer_rows : Has Tryd.prog n_print_writer_rows 84 [] QDG := ⟨Tryd.f37, by kernel_rfl, by kernel_rfl⟩
theorem has_print_marks : Has Tryd.prog n_print_marks 18 [(2, none)] QE1 := ⟨Tryd.f38, by kernel_rfl, by kernel_rfl⟩
theorem has_ref3_weighExpr : Has Tryd.prog n_ref3_weighExpr 29 [(4, none)] QEK := ⟨Tryd.f43, by kernel_rfl, by kernel_rfl⟩
theorem has_tree_MayExpr : Has Tryd.prog n_tree_MayExpr 5 [(2, none)] QEO := ⟨Tryd.f44, by kernel_rfl, by kernel_rfl⟩
theorem has_print_expr : Has Tryd.prog n_print_expr 66 [(4, none)] QFQ := ⟨Tryd.f45, by kernel_rfl, by kernel_rfl⟩
theorem has_ref3_names : Has Tryd.prog n_ref3_names 15 [(2, none)] QGD := ⟨Tryd.f47, by kernel_rfl, by kernel_rfl⟩
theorem has_ref1_Name : Has Tryd.prog n_ref1_Name 38 [(2, none)] QH4 := ⟨Tryd.f48, by kernel_rfl, by kernel_rfl⟩
theorem has_ref3_All : Has Tryd.prog n_ref3_All 23 [(2, none)] QHV := ⟨Tryd.f49, by kernel_rfl, by kernel_rfl⟩
theorem has_ref3_one : Has Tryd.prog n_ref3_one 178 [(2, none)] QJ6 := ⟨Tryd.f50, by kernel_rfl, by kernel_rfl⟩
theorem has_ref3_EqTexts : Has Tryd.prog n_ref3_EqTexts 26 [(4, none)] QJZ := ⟨Tryd.f51, by kernel_rfl, by kernel_rfl⟩
theorem has_ref3_EqStmts : Has Tryd.prog n_ref3_EqStmts 27 [(4, none)] QKS := ⟨Tryd.f52, by kernel_rfl, by kernel_rfl⟩
theorem has_ref3_deep : Has Tryd.prog n_ref3_deep 36 [(4, none)] QLM := ⟨Tryd.f53, by kernel_rfl, by kernel_rfl⟩
theorem has_ref3_form : Has Tryd.prog n_ref3_form 60 [(2, none)] QMF := ⟨Tryd.f54, by kernel_rfl, by kernel_rfl⟩
theorem has_ref3_num : Has Tryd.prog n_ref3_num 5 [(2, (some (true, 4)))] QPV := ⟨Tryd.f62, by kernel_rfl, by kernel_rfl⟩
theorem has_ref3_name : Has Tryd.prog n_ref3_name 5 [(2, (some (true, 4)))] QPZ := ⟨Tryd.f63, by kernel_rfl, by kernel_rfl⟩
theorem has_ref3_two : Has Tryd.prog n_ref3_two 12 [(6, (some (true, 4)))] QQ3 := ⟨Tryd.f64, by kernel_rfl, by kernel_rfl⟩
theorem has_tree_names : Has Tryd.prog n_tree_names 15 [(2, none)] QQQ := ⟨Tryd.f65, by kernel_rfl, by kernel_rfl⟩
theorem has_lex_Name : Has Tryd.prog n_lex_Name 27 [(2, none)] QR0 := ⟨Tryd.f66, by kernel_rfl, by kernel_rfl⟩
theorem has_tree_looker_rows : Has Tryd.prog n_tree_looker_rows 71 [(6, none)] QS1 := ⟨Tryd.f67, by kernel_rfl, by kernel_rfl⟩

end Go.Abs

/-! Codes2 -/

namespace Go.Abs

abbrev QS2 : AC := .run [(.op (some 4) none (.mv (.k (.val .nilIface))))]
abbrev QS3 : AC := .run [(.op (some 5) none (.mv (.s 0))), (.call (some 6) none n_strings_Builder_copyCheck [(.s 5)])]
abbrev QS4 : AC := .run [(.op (some 7) none (.mv (.s 0))), (.op (some 8) none (.mv (.s 0))), (.op (some 9) none (.nilck (.s 8))), (.op (some 10) none (.faddr (.s 9) 1)), (.op (some 11) none (.load (.s 10) false 1)), (.op (some 12) none (.mv (.s 1))), (.op (some 13) none (.bslice [(.int .u8 0)] 1 1 [(0, (.s 12))])), (.op (some 14) none (.appb (.s 11) (.s 13))), (.op (some 15) none (.nilck (.s 7))), (.op (some 16) none (.faddr (.s 15) 1)), (.op none none (.store (.s 16) (.s 14) 1))]
abbrev QS5 : AC := .run [(.op (some 4) none (.mv (.k (.val .nilIface))))]
abbrev QS6 : AC := .seq QS5 .ret
abbrev QS7 : AC := .seq QS4 QS6
abbrev QS8 : AC := .seq QS3 QS7
abbrev QS9 : AC := .seq QS2 QS8
abbrev QSA : AC := .run [(.op (some 4) none (.mv (.k (.int .i64 0)))), (.op (some 5) none (.mv (.k (.val .nilIface))))]
abbrev QSB : AC := .run [(.op (some 6) none (.mv (.s 0))), (.call (some 7) none n_strings_Builder_copyCheck [(.s 6)])]
abbrev QSC : AC := .run [(.op (some 8) none (.mv (.s 0))), (.op (some 9) none (.mv (.s 0))), (.op (some 10) none (.nilck (.s 9))), (.op (some 11) none (.faddr (.s 10) 1)), (.op (some 12) none (.load (.s 11) false 1)), (.op (some 13) none (.mv (.s 1))), (.op (some 14) none (.apps (.s 12) (.s 13))), (.op (some 15) none (.nilck (.s 8))), (.op (some 16) none (.faddr (.s 15) 1)), (.op none none (.store (.s 16) (.s 14) 1))]
abbrev QSD : AC := .run [(.op (some 17) none (.mv (.s 1))), (.op (some 18) none (.slen (.s 17))), (.op (some 4) none (.mv (.s 18))), (.op (some 5) none (.mv (.k (.val .nilIface))))]
abbrev QSE : AC := .seq QSD .ret
abbrev QSF : AC := .seq QSC QSE
abbrev QSG : AC := .seq QSB QSF
abbrev QSH : AC := .seq QSA QSG
abbrev QSI : AC := .run [(.op (some 1) none (.box (.s 0))), (.op (some 2) none (.mv (.k (.str []))))]
abbrev QSJ : AC := .run [(.op (some 7) none (.faddr (.s 1) 1)), (.op (some 8) none (.load (.s 7) false 1))]
abbrev QSK : AC := .run [(.op (some 10) none (.bin .eql (.s 8) (.k (.int .i64 1)))), (.op (some 9) none (.mv (.s 10)))]
abbrev QSL : AC := .par [(.op (some 11) none (.faddr (.s 1) 3)), (.op (some 12) none (.load (.s 11) false 1)), (.op (some 13) none (.bin .add (.s 12) (.k (.str [32, 61, 32])))), (.op (some 14) none (.faddr (.s 1) 5)), (.op (some 15) none (.load (.s 14) true 4)), (.call (some 16) none n_print_expr [(.s 15), (.k (.int .i64 0))]), (.op (some 17) none (.bin .add (.s 13) (.s 16))), (.op (some 2) none (.mv (.s 17)))] [(3, 0), (4, 0), (5, 0), (0, 0), (1, 1), (2, 0), (6, 0), (7, 0)]
abbrev QSM : AC := .seq QSL .ret
abbrev QSN : AC := .run [(.op (some 19) none (.bin .eql (.s 8) (.k (.int .i64 2)))), (.op (some 18) none (.mv (.s 19)))]
abbrev QSO : AC := .run [(.op (some 20) none (.faddr (.s 1) 3)), (.op (some 21) none (.load (.s 20) false 1)), (.op (some 22) none (.bin .add (.k (.str [114, 101, 97, 100, 32])) (.s 21))), (.op (some 2) none (.mv (.s 22)))]
abbrev QSP : AC := .seq QSO .ret
abbrev QSQ : AC := .run [(.op (some 24) none (.bin .eql (.s 8) (.k (.int .i64 3)))), (.op (some 23) none (.mv (.s 24)))]
abbrev QSR : AC := .run [(.op (some 25) none (.faddr (.s 1) 5)), (.op (some 26) none (.load (.s 25) true 4)), (.call (some 27) none n_print_expr [(.s 26), (.k (.int .i64 0))]), (.op (some 28) none (.bin .add (.k (.str [112, 114, 105, 110, 116, 32])) (.s 27))), (.op (some 2) none (.mv (.s 28)))]
abbrev QSS : AC := .seq QSR .ret
abbrev QST : AC := .run [(.op (some 30) none (.bin .eql (.s 8) (.k (.int .i64 7)))), (.op (some 29) none (.mv (.s 30)))]
abbrev QSU : AC := .run [(.op (some 2) none (.mv (.k (.str [98, 114, 101, 97, 107]))))]
abbrev QSV : AC := .seq QSU .ret
abbrev QSW : AC := .run [(.op (some 32) none (.bin .eql (.s 8) (.k (.int .i64 8)))), (.op (some 31) none (.mv (.s 32)))]
abbrev QSX : AC := .run [(.op (some 2) none (.mv (.k (.str [99, 111, 110, 116, 105, 110, 117, 101]))))]
abbrev QSY : AC := .seq QSX .ret
abbrev QSZ : AC := .run [(.op (some 34) none (.bin .eql (.s 8) (.k (.int .i64 10)))), (.op (some 33) none (.mv (.s 34)))]
abbrev QT0 : AC := .run [(.op (some 35) none (.faddr (.s 1) 3)), (.op (some 36) none (.load (.s 35) false 1)), (.op (some 37) none (.bin .add (.k (.str [103, 111, 116, 111, 32])) (.s 36))), (.op (some 2) none (.mv (.s 37)))]
abbrev QT1 : AC := .seq QT0 .ret
abbrev QT2 : AC := .run [(.op (some 39) none (.bin .eql (.s 8) (.k (.int .i64 9)))), (.op (some 38) none (.mv (.s 39)))]
abbrev QT3 : AC := .run [(.op (some 40) none (.faddr (.s 1) 9)), (.op (some 41) none (.load (.s 40) false 1))]
abbrev QT4 : AC := .run [(.op (some 42) none (.faddr (.s 1) 5)), (.op (some 43) none (.load (.s 42) true 4)), (.call (some 44) none n_print_expr [(.s 43), (.k (.int .i64 0))]), (.op (some 45) none (.bin .add (.k (.str [114, 101, 116, 117, 114, 110, 32])) (.s 44))), (.op (some 2) none (.mv (.s 45)))]
abbrev QT5 : AC := .seq QT4 .ret
abbrev QT6 : AC := .cond (.s 41) QT5 .skip
abbrev QT7 : AC := .seq QT3 QT6
abbrev QT8 : AC := .run [(.op (some 2) none (.mv (.k (.str [114, 101, 116, 117, 114, 110]))))]
abbrev QT9 : AC := .seq QT8 .ret
abbrev QTA : AC := .seq QT7 QT9
abbrev QTB : AC := .cond (.s 38) QTA .skip
abbrev QTC : AC := .seq QT2 QTB
abbrev QTD : AC := .cond (.s 33) QT1 QTC
abbrev QTE : AC := .seq QSZ QTD
abbrev QTF : AC := .cond (.s 31) QSY QTE
abbrev QTG : AC := .seq QSW QTF
abbrev QTH : AC := .cond (.s 29) QSV QTG
abbrev QTI : AC := .seq QST QTH
abbrev QTJ : AC := .cond (.s 23) QSS QTI
abbrev QTK : AC := .seq QSQ QTJ
abbrev QTL : AC := .cond (.s 18) QSP QTK
abbrev QTM : AC := .seq QSN QTL
abbrev QTN : AC := .cond (.s 9) QSM QTM
abbrev QTO : AC := .seq QSK QTN
abbrev QTP : AC := .block 0 QTO
abbrev QTQ : AC := .seq QSJ QTP
abbrev QTR : AC := .run [(.op (some 3) none (.mv (.k (.slice .full 0 []))))]
abbrev QTS : AC := .run [(.op (some 46) none (.faddr (.s 1) 10)), (.op (some 47) none (.load (.s 46) false 1)), (.op (some 48) none (.len (.s 47))), (.op (some 49) none (.mv (.k (.int .i64 0))))]
abbrev QTT : AC := .run [(.op (some 50) none (.bin .lss (.s 49) (.s 48)))]
abbrev QTU : AC := .cond (.s 50) .skip (.exit 1)
abbrev QTV : AC := .run [(.op (some 51) none (.iaddr (.s 47) (.s 49) 6)), (.op (some 52) none (.load (.s 51) true 6)), (.op (some 5) none (.alloc [(.bool false), (.str []), (.int .i64 0), (.int .i64 0), (.str []), (.slice .full 0 [])])), (.op none none (.store (.s 5) (.s 52) 6))]
abbrev QTW : AC := .run [(.op (some 53) none (.faddr (.s 5) 0)), (.op (some 54) none (.load (.s 53) false 1))]
abbrev QTX : AC := .par [(.op (some 55) none (.mv (.s 3))), (.call (some 56) none n_print_ref [(.k (.bool true))]), (.op (some 57) none (.faddr (.s 5) 1)), (.op (some 58) none (.load (.s 57) false 1)), (.op (some 59) none (.bin .add (.s 56) (.s 58))), (.op (some 60) none (.bslice [(.str [])] 1 1 [(0, (.s 59))])), (.op (some 61) none (.app 1 16 (.s 55) (.s 60))), (.op (some 3) none (.mv (.s 61)))] [(1, 0), (0, 0), (2, 0), (3, 1), (4, 0), (5, 0), (6, 0), (7, 0)]
abbrev QTY : AC := .run [(.op (some 62) none (.mv (.s 3))), (.op (some 63) none (.faddr (.s 5) 2)), (.op (some 64) none (.load (.s 63) true 4)), (.call (some 65) none n_print_expr [(.s 64), (.k (.int .i64 0))]), (.op (some 66) none (.bslice [(.str [])] 1 1 [(0, (.s 65))])), (.op (some 67) none (.app 1 16 (.s 62) (.s 66))), (.op (some 3) none (.mv (.s 67)))]
abbrev QTZ : AC := .cond (.s 54) QTX QTY
abbrev QU0 : AC := .seq QTW QTZ
abbrev QU1 : AC := .seq QTV QU0
abbrev QU2 : AC := .block 2 QU1
abbrev QU3 : AC := .run [(.op (some 68) none (.bin .add (.s 49) (.k (.int .i64 1)))), (.op (some 49) none (.mv (.s 68)))]
abbrev QU4 : AC := .seq QU2 QU3
abbrev QU5 : AC := .seq QTU QU4
abbrev QU6 : AC := .seq QTT QU5
abbrev QU7 : AC := .loop QU6
abbrev QU8 : AC := .block 1 QU7
abbrev QU9 : AC := .seq QTS QU8
abbrev QUA : AC := .par [(.op (some 69) none (.faddr (.s 1) 4)), (.op (some 70) none (.load (.s 69) false 1)), (.op (some 71) none (.bin .add (.s 70) (.k (.str [40])))), (.op (some 72) none (.mv (.s 3))), (.call (some 73) none n_strings_Join [(.s 72), (.k (.str [44, 32]))]), (.op (some 74) none (.bin .add (.s 71) (.s 73))), (.op (some 75) none (.bin .add (.s 74) (.k (.str [41])))), (.op (some 6) none (.mv (.s 75)))] [(3, 0), (4, 0), (0, 0), (1, 1), (2, 0), (5, 0), (6, 0), (7, 0)]
abbrev QUB : AC := .run [(.op (some 76) none (.faddr (.s 1) 3)), (.op (some 77) none (.load (.s 76) false 1)), (.op (some 78) none (.bin .neq (.s 77) (.k (.str []))))]
abbrev QUC : AC := .run [(.op (some 79) none (.faddr (.s 1) 3)), (.op (some 80) none (.load (.s 79) false 1)), (.op (some 81) none (.bin .add (.s 80) (.k (.str [32, 61, 32])))), (.op (some 82) none (.mv (.s 6))), (.op (some 83) none (.bin .add (.s 81) (.s 82))), (.op (some 2) none (.mv (.s 83)))]
abbrev QUD : AC := .seq QUC .ret
abbrev QUE : AC := .cond (.s 78) QUD .skip
abbrev QUF : AC := .seq QUB QUE
abbrev QUG : AC := .run [(.op (some 84) none (.mv (.s 6))), (.op (some 2) none (.mv (.s 84)))]
abbrev QUH : AC := .seq QUG .ret
abbrev QUI : AC := .seq QUF QUH
abbrev QUJ : AC := .seq QUA QUI
abbrev QUK : AC := .seq QU9 QUJ
abbrev QUL : AC := .seq QTR QUK
abbrev QUM : AC := .seq QTQ QUL
abbrev QUN : AC := .seq QSI QUM
abbrev QUO : AC := .run [(.op (some 2) none (.box (.s 0))), (.op (some 4) none (.mv (.k (.bool false))))]
abbrev QUP : AC := .par [(.op (some 7) none (.mv (.s 1))), (.op (some 8) none (.bin .lss (.s 7) (.k (.int .i64 1)))), (.op (some 9) none (.mv (.s 8))), (.op (some 10) (some (9, false)) (.faddr (.s 2) 3)), (.op (some 11) (some (9, false)) (.load (.s 10) false 1)), (.op (some 12) (some (9, false)) (.len (.s 11))), (.op (some 13) (some (9, false)) (.faddr (.s 2) 0)), (.op (some 14) (some (9, false)) (.load (.s 13) false 1)), (.call (some 15) (some (9, false)) n_tree_kids [(.s 14)]), (.op (some 16) (some (9, false)) (.bin .neq (.s 12) (.s 15))), (.op (some 17) none (.pick (.s 9) (.k (.bool true)) (.s 16)))] [(0, 0), (1, 0), (2, 0), (6, 0), (7, 0), (8, 0), (3, 0), (4, 1), (5, 0), (9, 0), (10, 0)]
abbrev QUQ : AC := .run [(.op (some 4) none (.mv (.k (.bool false))))]
abbrev QUR : AC := .seq QUQ .ret
abbrev QUS : AC := .cond (.s 17) QUR .skip
abbrev QUT : AC := .seq QUP QUS
abbrev QUU : AC := .run [(.op (some 18) none (.faddr (.s 2) 0)), (.op (some 19) none (.load (.s 18) false 1))]
abbrev QUV : AC := .run [(.op (some 21) none (.bin .eql (.s 19) (.k (.int .i64 1)))), (.op (some 20) none (.mv (.s 21)))]
abbrev QUW : AC := .run [(.op (some 22) none (.faddr (.s 2) 1)), (.op (some 23) none (.load (.s 22) false 1)), (.op (some 24) none (.bin .geq (.s 23) (.k (.int .i64 0)))), (.op (some 25) none (.mv (.s 24))), (.op (some 26) (some (25, true)) (.faddr (.s 2) 2)), (.op (some 27) (some (25, true)) (.load (.s 26) false 1)), (.op (some 28) (some (25, true)) (.bin .eql (.s 27) (.k (.str [])))), (.op (some 29) none (.pick (.s 25) (.s 28) (.k (.bool false)))), (.op (some 4) none (.mv (.s 29)))]
abbrev QUX : AC := .seq QUW .ret
abbrev QUY : AC := .run [(.op (some 31) none (.bin .eql (.s 19) (.k (.int .i64 2)))), (.op (some 30) none (.mv (.s 31)))]
abbrev QUZ : AC := .run [(.op (some 32) none (.faddr (.s 2) 1)), (.op (some 33) none (.load (.s 32) false 1)), (.op (some 34) none (.bin .eql (.s 33) (.k (.int .i64 0)))), (.op (some 35) none (.mv (.s 34))), (.op (some 36) (some (35, true)) (.faddr (.s 2) 2)), (.op (some 37) (some (35, true)) (.load (.s 36) false 1)), (.call (some 38) (some (35, true)) n_lex_Name [(.s 37)]), (.op (some 39) none (.pick (.s 35) (.s 38) (.k (.bool false)))), (.op (some 4) none (.mv (.s 39)))]
abbrev QV0 : AC := .seq QUZ .ret
abbrev QV1 : AC := .cond (.s 30) QV0 .skip
abbrev QV2 : AC := .seq QUY QV1
abbrev QV3 : AC := .cond (.s 20) QUX QV2
abbrev QV4 : AC := .seq QUV QV3
abbrev QV5 : AC := .block 0 QV4
abbrev QV6 : AC := .seq QUU QV5
abbrev QV7 : AC := .run [(.op (some 40) none (.faddr (.s 2) 1)), (.op (some 41) none (.load (.s 40) false 1)), (.op (some 42) none (.bin .neq (.s 41) (.k (.int .i64 0)))), (.op (some 43) none (.mv (.s 42))), (.op (some 44) (some (43, false)) (.faddr (.s 2) 2)), (.op (some 45) (some (43, false)) (.load (.s 44) false 1)), (.op (some 46) (some (43, false)) (.bin .neq (.s 45) (.k (.str [])))), (.op (some 47) none (.pick (.s 43) (.k (.bool true)) (.s 46)))]
abbrev QV8 : AC := .run [(.op (some 4) none (.mv (.k (.bool false))))]
abbrev QV9 : AC := .seq QV8 .ret
abbrev QVA : AC := .cond (.s 47) QV9 .skip
abbrev QVB : AC := .seq QV7 QVA
abbrev QVC : AC := .run [(.op (some 48) none (.faddr (.s 2) 3)), (.op (some 49) none (.load (.s 48) false 1)), (.op (some 50) none (.len (.s 49))), (.op (some 51) none (.mv (.k (.int .i64 0))))]
abbrev QVD : AC := .run [(.op (some 52) none (.bin .lss (.s 51) (.s 50)))]
abbrev QVE : AC := .cond (.s 52) .skip (.exit 1)
abbrev QVF : AC := .run [(.op (some 53) none (.iaddr (.s 49) (.s 51) 4)), (.op (some 54) none (.load (.s 53) true 4)), (.op (some 6) none (.alloc [(.int .i64 0), (.int .i64 0), (.str []), (.slice .full 0 [])])), (.op none none (.store (.s 6) (.s 54) 4))]
abbrev QVG : AC := .run [(.op (some 55) none (.load (.s 6) true 4)), (.op (some 56) none (.mv (.s 1))), (.op (some 57) none (.bin .sub (.s 56) (.k (.int .i64 1)))), (.call (some 58) none n_tree_deep [(.s 55), (.s 57)]), (.op (some 59) none (.un .not (.s 58)))]
abbrev QVH : AC := .run [(.op (some 4) none (.mv (.k (.bool false))))]
abbrev QVI : AC := .seq QVH .ret
abbrev QVJ : AC := .cond (.s 59) QVI .skip
abbrev QVK : AC := .seq QVG QVJ
abbrev QVL : AC := .seq QVF QVK
abbrev QVM : AC := .block 2 QVL
abbrev QVN : AC := .run [(.op (some 60) none (.bin .add (.s 51) (.k (.int .i64 1)))), (.op (some 51) none (.mv (.s 60)))]
abbrev QVO : AC := .seq QVM QVN
abbrev QVP : AC := .seq QVE QVO
abbrev QVQ : AC := .seq QVD QVP
abbrev QVR : AC := .loop QVQ
abbrev QVS : AC := .block 1 QVR
abbrev QVT : AC := .seq QVC QVS
abbrev QVU : AC := .run [(.op (some 4) none (.mv (.k (.bool true))))]
abbrev QVV : AC := .seq QVU .ret
abbrev QVW : AC := .seq QVT QVV
abbrev QVX : AC := .seq QVB QVW
abbrev QVY : AC := .seq QV6 QVX
abbrev QVZ : AC := .seq QUT QVY
abbrev QW0 : AC := .seq QUO QVZ
abbrev QW1 : AC := .run [(.op (some 2) none (.mv (.k (.str [])))), (.op (some 3) none (.mv (.k (.int .i64 0))))]
abbrev QW2 : AC := .run [(.op (some 4) none (.mv (.s 0)))]
abbrev QW3 : AC := .run [(.op (some 6) none (.bin .eql (.s 4) (.k (.int .i64 17)))), (.op (some 5) none (.mv (.s 6)))]
abbrev QW4 : AC := .run [(.op (some 2) none (.mv (.k (.str [124, 124])))), (.op (some 3) none (.mv (.k (.int .i64 1))))]
abbrev QW5 : AC := .seq QW4 .ret
abbrev QW6 : AC := .run [(.op (some 8) none (.bin .eql (.s 4) (.k (.int .i64 16)))), (.op (some 7) none (.mv (.s 8)))]
abbrev QW7 : AC := .run [(.op (some 2) none (.mv (.k (.str [38, 38])))), (.op (some 3) none (.mv (.k (.int .i64 2))))]
abbrev QW8 : AC := .seq QW7 .ret
abbrev QW9 : AC := .run [(.op (some 10) none (.bin .eql (.s 4) (.k (.int .i64 14)))), (.op (some 9) none (.mv (.s 10)))]
abbrev QWA : AC := .run [(.op (some 2) none (.mv (.k (.str [61, 61])))), (.op (some 3) none (.mv (.k (.int .i64 3))))]
abbrev QWB : AC := .seq QWA .ret
abbrev QWC : AC := .run [(.op (some 12) none (.bin .eql (.s 4) (.k (.int .i64 15)))), (.op (some 11) none (.mv (.s 12)))]
abbrev QWD : AC := .run [(.op (some 2) none (.mv (.k (.str [33, 61])))), (.op (some 3) none (.mv (.k (.int .i64 3))))]
abbrev QWE : AC := .seq QWD .ret
abbrev QWF : AC := .run [(.op (some 14) none (.bin .eql (.s 4) (.k (.int .i64 10)))), (.op (some 13) none (.mv (.s 14)))]
abbrev QWG : AC := .run [(.op (some 2) none (.mv (.k (.str [60])))), (.op (some 3) none (.mv (.k (.int .i64 4))))]
abbrev QWH : AC := .seq QWG .ret
abbrev QWI : AC := .run [(.op (some 16) none (.bin .eql (.s 4) (.k (.int .i64 11)))), (.op (some 15) none (.mv (.s 16)))]
abbrev QWJ : AC := .run [(.op (some 2) none (.mv (.k (.str [60, 61])))), (.op (some 3) none (.mv (.k (.int .i64 4))))]
abbrev QWK : AC := .seq QWJ .ret
abbrev QWL : AC := .run [(.op (some 18) none (.bin .eql (.s 4) (.k (.int .i64 12)))), (.op (some 17) none (.mv (.s 18)))]
abbrev QWM : AC := .run [(.op (some 2) none (.mv (.k (.str [62])))), (.op (some 3) none (.mv (.k (.int .i64 4))))]
abbrev QWN : AC := .seq QWM .ret
abbrev QWO : AC := .run [(.op (some 20) none (.bin .eql (.s 4) (.k (.int .i64 13)))), (.op (some 19) none (.mv (.s 20)))]
abbrev QWP : AC := .run [(.op (some 2) none (.mv (.k (.str [62, 61])))), (.op (some 3) none (.mv (.k (.int .i64 4))))]
abbrev QWQ : AC := .seq QWP .ret
abbrev QWR : AC := .run [(.op (some 22) none (.bin .eql (.s 4) (.k (.int .i64 8)))), (.op (some 21) none (.mv (.s 22)))]
abbrev QWS : AC := .run [(.op (some 2) none (.mv (.k (.str [43])))), (.op (some 3) none (.mv (.k (.int .i64 5))))]
abbrev QWT : AC := .seq QWS .ret
abbrev QWU : AC := .run [(.op (some 24) none (.bin .eql (.s 4) (.k (.int .i64 9)))), (.op (some 23) none (.mv (.s 24)))]
abbrev QWV : AC := .run [(.op (some 2) none (.mv (.k (.str [45])))), (.op (some 3) none (.mv (.k (.int .i64 5))))]
abbrev QWW : AC := .seq QWV .ret
abbrev QWX : AC := .run [(.op (some 26) none (.bin .eql (.s 4) (.k (.int .i64 5)))), (.op (some 25) none (.mv (.s 26)))]
abbrev QWY : AC := .run [(.op (some 2) none (.mv (.k (.str [42])))), (.op (some 3) none (.mv (.k (.int .i64 6))))]
abbrev QWZ : AC := .seq QWY .ret
abbrev QX0 : AC := .run [(.op (some 28) none (.bin .eql (.s 4) (.k (.int .i64 6)))), (.op (some 27) none (.mv (.s 28)))]
abbrev QX1 : AC := .run [(.op (some 2) none (.mv (.k (.str [47])))), (.op (some 3) none (.mv (.k (.int .i64 6))))]
abbrev QX2 : AC := .seq QX1 .ret
abbrev QX3 : AC := .run [(.op (some 30) none (.bin .eql (.s 4) (.k (.int .i64 7)))), (.op (some 29) none (.mv (.s 30)))]
abbrev QX4 : AC := .run [(.op (some 2) none (.mv (.k (.str [37])))), (.op (some 3) none (.mv (.k (.int .i64 6))))]
abbrev QX5 : AC := .seq QX4 .ret
abbrev QX6 : AC := .cond (.s 29) QX5 .skip
abbrev QX7 : AC := .seq QX3 QX6
abbrev QX8 : AC := .cond (.s 27) QX2 QX7
abbrev QX9 : AC := .seq QX0 QX8
abbrev QXA : AC := .cond (.s 25) QWZ QX9
abbrev QXB : AC := .seq QWX QXA
abbrev QXC : AC := .cond (.s 23) QWW QXB
abbrev QXD : AC := .seq QWU QXC
abbrev QXE : AC := .cond (.s 21) QWT QXD
abbrev QXF : AC := .seq QWR QXE
abbrev QXG : AC := .cond (.s 19) QWQ QXF
abbrev QXH : AC := .seq QWO QXG
abbrev QXI : AC := .cond (.s 17) QWN QXH
abbrev QXJ : AC := .seq QWL QXI
abbrev QXK : AC := .cond (.s 15) QWK QXJ
abbrev QXL : AC := .seq QWI QXK
abbrev QXM : AC := .cond (.s 13) QWH QXL
abbrev QXN : AC := .seq QWF QXM
abbrev QXO : AC := .cond (.s 11) QWE QXN
abbrev QXP : AC := .seq QWC QXO
abbrev QXQ : AC := .cond (.s 9) QWB QXP
abbrev QXR : AC := .seq QW9 QXQ
abbrev QXS : AC := .cond (.s 7) QW8 QXR
abbrev QXT : AC := .seq QW6 QXS
abbrev QXU : AC := .cond (.s 5) QW5 QXT
abbrev QXV : AC := .seq QW3 QXU
abbrev QXW : AC := .block 0 QXV
abbrev QXX : AC := .seq QW2 QXW
abbrev QXY : AC := .run [(.op (some 2) none (.mv (.k (.str [])))), (.op (some 3) none (.mv (.k (.int .i64 7))))]
abbrev QXZ : AC := .seq QXY .ret
abbrev QY0 : AC := .seq QXX QXZ
abbrev QY1 : AC := .seq QW1 QY0
abbrev QY2 : AC := .run [(.op (some 2) none (.mv (.k (.int .i64 0))))]
abbrev QY3 : AC := .run [(.op (some 4) none (.mv (.s 0))), (.op (some 5) none (.bin .eql (.s 4) (.k (.int .i64 1)))), (.op (some 6) none (.mv (.s 5))), (.op (some 7) (some (6, false)) (.mv (.s 0))), (.op (some 8) (some (6, false)) (.bin .eql (.s 7) (.k (.int .i64 2)))), (.op (some 9) none (.pick (.s 6) (.k (.bool true)) (.s 8))), (.op (some 3) none (.mv (.s 9)))]
abbrev QY4 : AC := .run [(.op (some 2) none (.mv (.k (.int .i64 0))))]
abbrev QY5 : AC := .seq QY4 .ret
abbrev QY6 : AC := .run [(.op (some 11) none (.mv (.s 0))), (.op (some 12) none (.bin .eql (.s 11) (.k (.int .i64 3)))), (.op (some 13) none (.mv (.s 12))), (.op (some 14) (some (13, false)) (.mv (.s 0))), (.op (some 15) (some (13, false)) (.bin .eql (.s 14) (.k (.int .i64 4)))), (.op (some 16) none (.pick (.s 13) (.k (.bool true)) (.s 15))), (.op (some 10) none (.mv (.s 16)))]
abbrev QY7 : AC := .run [(.op (some 2) none (.mv (.k (.int .i64 1))))]
abbrev QY8 : AC := .seq QY7 .ret
abbrev QY9 : AC := .run [(.op (some 18) none (.mv (.s 0))), (.op (some 19) none (.bin .geq (.s 18) (.k (.int .i64 5)))), (.op (some 20) none (.mv (.s 19))), (.op (some 21) (some (20, true)) (.mv (.s 0))), (.op (some 22) (some (20, true)) (.bin .leq (.s 21) (.k (.int .i64 17)))), (.op (some 23) none (.pick (.s 20) (.s 22) (.k (.bool false)))), (.op (some 17) none (.mv (.s 23)))]
abbrev QYA : AC := .run [(.op (some 2) none (.mv (.k (.int .i64 2))))]
abbrev QYB : AC := .seq QYA .ret
abbrev QYC : AC := .cond (.s 17) QYB .skip
abbrev QYD : AC := .seq QY9 QYC
abbrev QYE : AC := .cond (.s 10) QY8 QYD
abbrev QYF : AC := .seq QY6 QYE
abbrev QYG : AC := .cond (.s 3) QY5 QYF
abbrev QYH : AC := .seq QY3 QYG
abbrev QYI : AC := .block 0 QYH
abbrev QYJ : AC := .run [(.op (some 2) none (.mv (.k (.int .i64 (-1)))))]
abbrev QYK : AC := .seq QYJ .ret
abbrev QYL : AC := .seq QYI QYK
abbrev QYM : AC := .seq QY2 QYL
abbrev QYN : AC := .run [(.op (some 2) none (.mv (.k (.bool false))))]
abbrev QYO : AC := .run [(.op (some 3) none (.mv (.s 0))), (.op (some 4) none (.bin .geq (.s 3) (.k (.int .u8 97)))), (.op (some 5) none (.mv (.s 4))), (.op (some 6) (some (5, true)) (.mv (.s 0))), (.op (some 7) (some (5, true)) (.bin .leq (.s 6) (.k (.int .u8 122)))), (.op (some 8) none (.pick (.s 5) (.s 7) (.k (.bool false)))), (.op (some 2) none (.mv (.s 8)))]
abbrev QYP : AC := .seq QYO .ret
abbrev QYQ : AC := .seq QYN QYP
abbrev QYR : AC := .run [(.op (some 2) none (.mv (.k (.bool false))))]
abbrev QYS : AC := .run [(.op (some 3) none (.mv (.s 0))), (.op (some 4) none (.bin .geq (.s 3) (.k (.int .u8 48)))), (.op (some 5) none (.mv (.s 4))), (.op (some 6) (some (5, true)) (.mv (.s 0))), (.op (some 7) (some (5, true)) (.bin .leq (.s 6) (.k (.int .u8 57)))), (.op (some 8) none (.pick (.s 5) (.s 7) (.k (.bool false)))), (.op (some 2) none (.mv (.s 8)))]
abbrev QYT : AC := .seq QYS .ret
abbrev QYU : AC := .seq QYR QYT
abbrev QYV : AC := .run [(.op (some 2) none (.mv (.k (.bool false))))]
abbrev QYW : AC := .run [(.call (some 5) none n_ref1_Words []), (.op (some 6) none (.len (.s 5))), (.op (some 7) none (.mv (.k (.int .i64 0))))]
abbrev QYX : AC := .run [(.op (some 8) none (.bin .lss (.s 7) (.s 6)))]
abbrev QYY : AC := .cond (.s 8) .skip (.exit 0)
abbrev QYZ : AC := .run [(.op (some 9) none (.iaddr (.s 5) (.s 7) 1)), (.op (some 10) none (.load (.s 9) false 1)), (.op (some 4) none (.mv (.s 10)))]
abbrev QZ0 : AC := .run [(.op (some 11) none (.mv (.s 4))), (.op (some 12) none (.mv (.s 0))), (.op (some 13) none (.bin .eql (.s 11) (.s 12)))]
abbrev QZ1 : AC := .run [(.op (some 2) none (.mv (.k (.bool true))))]
abbrev QZ2 : AC := .seq QZ1 .ret
abbrev QZ3 : AC := .cond (.s 13) QZ2 .skip
abbrev QZ4 : AC := .seq QZ0 QZ3
abbrev QZ5 : AC := .seq QYZ QZ4
abbrev QZ6 : AC := .block 1 QZ5
abbrev QZ7 : AC := .run [(.op (some 14) none (.bin .add (.s 7) (.k (.int .i64 1)))), (.op (some 7) none (.mv (.s 14)))]
abbrev QZ8 : AC := .seq QZ6 QZ7
abbrev QZ9 : AC := .seq QYY QZ8
abbrev QZA : AC := .seq QYX QZ9
abbrev QZB : AC := .loop QZA
abbrev QZC : AC := .block 0 QZB
abbrev QZD : AC := .seq QYW QZC
abbrev QZE : AC := .run [(.op (some 2) none (.mv (.k (.bool false))))]
abbrev QZF : AC := .seq QZE .ret
abbrev QZG : AC := .seq QZD QZF
abbrev QZH : AC := .seq QYV QZG
abbrev QZI : AC := .run [(.op (some 1) none (.box (.s 0))), (.op (some 2) none (.mv (.k (.slice .full 0 []))))]
abbrev QZJ : AC := .run [(.op (some 3) none (.faddr (.s 1) 3)), (.op (some 4) none (.load (.s 3) false 1)), (.call (some 5) none n_ref3_flat [(.s 4), (.k (.int .i64 1)), (.k (.int .i64 0)), (.k (.bool false)), (.k (.slice .full 0 []))]), (.op (some 2) none (.mv (.s 5)))]
abbrev QZK : AC := .seq QZJ .ret
abbrev QZL : AC := .seq QZI QZK
abbrev QZM : AC := .run [(.op (some 1) none (.box (.s 0))), (.op (some 2) none (.mv (.k (.bool false))))]
abbrev QZN : AC := .run [(.op (some 3) none (.faddr (.s 1) 0)), (.op (some 4) none (.load (.s 3) false 1)), (.op (some 5) none (.bin .eql (.s 4) (.k (.int .i64 0)))), (.op (some 6) none (.mv (.s 5))), (.op (some 7) (some (6, true)) (.faddr (.s 1) 1)), (.op (some 8) (some (6, true)) (.load (.s 7) false 1)), (.op (some 9) (some (6, true)) (.bin .eql (.s 8) (.k (.int .i64 0)))), (.op (some 10) none (.pick (.s 6) (.s 9) (.k (.bool false)))), (.op (some 11) none (.mv (.s 10))), (.op (some 12) (some (11, true)) (.faddr (.s 1) 2)), (.op (some 13) (some (11, true)) (.load (.s 12) false 1)), (.op (some 14) (some (11, true)) (.bin .eql (.s 13) (.k (.str [])))), (.op (some 15) none (.pick (.s 11) (.s 14) (.k (.bool false)))), (.op (some 16) none (.mv (.s 15))), (.op (some 17) (some (16, true)) (.faddr (.s 1) 3)), (.op (some 18) (some (16, true)) (.load (.s 17) false 1)), (.op (some 19) (some (16, true)) (.len (.s 18))), (.op (some 20) (some (16, true)) (.bin .eql (.s 19) (.k (.int .i64 0)))), (.op (some 21) none (.pick (.s 16) (.s 20) (.k (.bool false)))), (.op (some 2) none (.mv (.s 21)))]
abbrev QZO : AC := .seq QZN .ret
abbrev QZP : AC := .seq QZM QZO
abbrev QZQ : AC := .run [(.op (some 1) none (.box (.s 0))), (.op (some 2) none (.mv (.k (.bool false))))]
abbrev QZR : AC := .run [(.op (some 3) none (.faddr (.s 1) 0)), (.op (some 4) none (.load (.s 3) false 1))]
abbrev QZS : AC := .run [(.op (some 5) none (.faddr (.s 1) 1)), (.op (some 6) none (.load (.s 5) false 1)), (.call (some 7) none n_ref1_Name [(.s 6)]), (.op (some 8) none (.mv (.s 7))), (.op (some 9) (some (8, true)) (.faddr (.s 1) 2)), (.op (some 10) (some (8, true)) (.load (.s 9) true 4)), (.call (some 11) (some (8, true)) n_ref3_none [(.s 10)]), (.op (some 12) none (.pick (.s 8) (.s 11) (.k (.bool false)))), (.op (some 2) none (.mv (.s 12)))]
abbrev QZT : AC := .seq QZS .ret
abbrev QZU : AC := .cond (.s 4) QZT .skip
abbrev QZV : AC := .seq QZR QZU
abbrev QZW : AC := .run [(.op (some 13) none (.faddr (.s 1) 1)), (.op (some 14) none (.load (.s 13) false 1)), (.op (some 15) none (.bin .eql (.s 14) (.k (.str [])))), (.op (some 16) none (.mv (.s 15))), (.op (some 17) (some (16, true)) (.faddr (.s 1) 2)), (.op (some 18) (some (16, true)) (.load (.s 17) true 4)), (.call (some 19) (some (16, true)) n_ref3_MayExpr [(.s 18)]), (.op (some 20) none (.pick (.s 16) (.s 19) (.k (.bool false)))), (.op (some 2) none (.mv (.s 20)))]
abbrev QZX : AC := .seq QZW .ret
abbrev QZY : AC := .seq QZV QZX
abbrev QZZ : AC := .seq QZQ QZY
abbrev Q100 : AC := .run [(.op (some 2) none (.box (.s 0))), (.op (some 3) none (.box (.s 1))), (.op (some 4) none (.mv (.k (.bool false))))]
abbrev Q101 : AC := .run [(.op (some 6) none (.faddr (.s 2) 0)), (.op (some 7) none (.load (.s 6) false 1)), (.op (some 8) none (.faddr (.s 3) 0)), (.op (some 9) none (.load (.s 8) false 1)), (.op (some 10) none (.bin .neq (.s 7) (.s 9))), (.op (some 11) none (.mv (.s 10))), (.op (some 12) (some (11, false)) (.faddr (.s 2) 1)), (.op (some 13) (some (11, false)) (.load (.s 12) false 1)), (.op (some 14) (some (11, false)) (.faddr (.s 3) 1)), (.op (some 15) (some (11, false)) (.load (.s 14) false 1)), (.op (some 16) (some (11, false)) (.bin .neq (.s 13) (.s 15))), (.op (some 17) none (.pick (.s 11) (.k (.bool true)) (.s 16))), (.op (some 18) none (.mv (.s 17))), (.op (some 19) (some (18, false)) (.faddr (.s 2) 3)), (.op (some 20) (some (18, false)) (.load (.s 19) false 1)), (.op (some 21) (some (18, false)) (.faddr (.s 3) 3)), (.op (some 22) (some (18, false)) (.load (.s 21) false 1)), (.op (some 23) (some (18, false)) (.bin .neq (.s 20) (.s 22))), (.op (some 24) none (.pick (.s 18) (.k (.bool true)) (.s 23))), (.op (some 25) none (.mv (.s 24))), (.op (some 26) (some (25, false)) (.faddr (.s 2) 4)), (.op (some 27) (some (25, false)) (.load (.s 26) false 1)), (.op (some 28) (some (25, false)) (.faddr (.s 3) 4)), (.op (some 29) (some (25, false)) (.load (.s 28) false 1)), (.op (some 30) (some (25, false)) (.bin .neq (.s 27) (.s 29))), (.op (some 31) none (.pick (.s 25) (.k (.bool true)) (.s 30))), (.op (some 32) none (.mv (.s 31))), (.op (some 33) (some (32, false)) (.faddr (.s 2) 9)), (.op (some 34) (some (32, false)) (.load (.s 33) false 1)), (.op (some 35) (some (32, false)) (.faddr (.s 3) 9)), (.op (some 36) (some (32, false)) (.load (.s 35) false 1)), (.op (some 37) (some (32, false)) (.eqb true (.s 34) (.s 36))), (.op (some 38) none (.pick (.s 32) (.k (.bool true)) (.s 37))), (.op (some 39) none (.mv (.s 38))), (.op (some 40) (some (39, false)) (.faddr (.s 2) 2)), (.op (some 41) (some (39, false)) (.load (.s 40) false 1)), (.op (some 42) (some (39, false)) (.faddr (.s 3) 2)), (.op (some 43) (some (39, false)) (.load (.s 42) false 1)), (.call (some 44) (some (39, false)) n_ref3_EqTexts [(.s 41), (.s 43)]), (.op (some 45) (some (39, false)) (.un .not (.s 44))), (.op (some 46) none (.pick (.s 39) (.k (.bool true)) (.s 45))), (.op (some 47) none (.mv (.s 46))), (.op (some 48) (some (47, false)) (.faddr (.s 2) 5)), (.op (some 49) (some (47, false)) (.load (.s 48) true 4)), (.op (some 50) (some (47, false)) (.faddr (.s 3) 5)), (.op (some 51) (some (47, false)) (.load (.s 50) true 4)), (.call (some 52) (some (47, false)) n_ref3_EqExpr [(.s 49), (.s 51)]), (.op (some 53) (some (47, false)) (.un .not (.s 52))), (.op (some 54) none (.pick (.s 47) (.k (.bool true)) (.s 53))), (.op (some 55) none (.mv (.s 54))), (.op (some 56) (some (55, false)) (.faddr (.s 2) 10)), (.op (some 57) (some (55, false)) (.load (.s 56) false 1)), (.op (some 58) (some (55, false)) (.len (.s 57))), (.op (some 59) (some (55, false)) (.faddr (.s 3) 10)), (.op (some 60) (some (55, false)) (.load (.s 59) false 1)), (.op (some 61) (some (55, false)) (.len (.s 60))), (.op (some 62) (some (55, false)) (.bin .neq (.s 58) (.s 61))), (.op (some 63) none (.pick (.s 55) (.k (.bool true)) (.s 62)))]
abbrev Q102 : AC := .run [(.op (some 4) none (.mv (.k (.bool false))))]
abbrev Q103 : AC := .seq Q102 .ret
abbrev Q104 : AC := .cond (.s 63) Q103 .skip
abbrev Q105 : AC := .seq Q101 Q104
abbrev Q106 : AC := .run [(.op (some 64) none (.faddr (.s 2) 10)), (.op (some 65) none (.load (.s 64) false 1)), (.op (some 66) none (.len (.s 65))), (.op (some 67) none (.mv (.k (.int .i64 0))))]
abbrev Q107 : AC := .run [(.op (some 68) none (.bin .lss (.s 67) (.s 66)))]
abbrev Q108 : AC := .cond (.s 68) .skip (.exit 0)
abbrev Q109 : AC := .run [(.op (some 69) none (.mv (.s 67))), (.op (some 5) none (.mv (.s 69)))]
abbrev Q10A : AC := .par [(.op (some 70) none (.faddr (.s 2) 10)), (.op (some 71) none (.load (.s 70) false 1)), (.op (some 72) none (.mv (.s 5))), (.op (some 73) none (.iaddr (.s 71) (.s 72) 6)), (.op (some 74) none (.faddr (.s 73) 0)), (.op (some 75) none (.load (.s 74) false 1)), (.op (some 76) none (.faddr (.s 3) 10)), (.op (some 77) none (.load (.s 76) false 1)), (.op (some 78) none (.mv (.s 5))), (.op (some 79) none (.iaddr (.s 77) (.s 78) 6)), (.op (some 80) none (.faddr (.s 79) 0)), (.op (some 81) none (.load (.s 80) false 1)), (.op (some 82) none (.eqb true (.s 75) (.s 81))), (.op (some 83) none (.mv (.s 82))), (.op (some 84) (some (83, false)) (.faddr (.s 2) 10)), (.op (some 85) (some (83, false)) (.load (.s 84) false 1)), (.op (some 86) (some (83, false)) (.mv (.s 5))), (.op (some 87) (some (83, false)) (.iaddr (.s 85) (.s 86) 6)), (.op (some 88) (some (83, false)) (.faddr (.s 87) 1)), (.op (some 89) (some (83, false)) (.load (.s 88) false 1)), (.op (some 90) (some (83, false)) (.faddr (.s 3) 10)), (.op (some 91) (some (83, false)) (.load (.s 90) false 1)), (.op (some 92) (some (83, false)) (.mv (.s 5))), (.op (some 93) (some (83, false)) (.iaddr (.s 91) (.s 92) 6)), (.op (some 94) (some (83, false)) (.faddr (.s 93) 1)), (.op (some 95) (some (83, false)) (.load (.s 94) false 1)), (.op (some 96) (some (83, false)) (.bin .neq (.s 89) (.s 95))), (.op (some 97) none (.pick (.s 83) (.k (.bool true)) (.s 96))), (.op (some 98) none (.mv (.s 97))), (.op (some 99) (some (98, false)) (.faddr (.s 2) 10)), (.op (some 100) (some (98, false)) (.load (.s 99) false 1)), (.op (some 101) (some (98, false)) (.mv (.s 5))), (.op (some 102) (some (98, false)) (.iaddr (.s 100) (.s 101) 6)), (.op (some 103) (some (98, false)) (.faddr (.s 102) 2)), (.op (some 104) (some (98, false)) (.load (.s 103) true 4)), (.op (some 105) (some (98, false)) (.faddr (.s 3) 10)), (.op (some 106) (some (98, false)) (.load (.s 105) false 1)), (.op (some 107) (some (98, false)) (.mv (.s 5))), (.op (some 108) (some (98, false)) (.iaddr (.s 106) (.s 107) 6)), (.op (some 109) (some (98, false)) (.faddr (.s 108) 2)), (.op (some 110) (some (98, false)) (.load (.s 109) true 4)), (.call (some 111) (some (98, false)) n_ref3_EqExpr [(.s 104), (.s 110)]), (.op (some 112) (some (98, false)) (.un .not (.s 111))), (.op (some 113) none (.pick (.s 98) (.k (.bool true)) (.s 112)))] [(0, 0), (1, 0), (2, 0), (3, 0), (4, 0), (5, 0), (6, 0), (7, 0), (8, 0), (9, 0), (10, 0), (11, 0), (12, 0), (13, 0), (14, 0), (15, 0), (16, 0), (17, 0), (18, 0), (19, 0), (20, 0), (21, 0), (22, 0), (23, 0), (24, 0), (25, 0), (26, 0), (27, 0), (28, 0), (29, 0), (30, 0), (31, 0), (32, 0), (33, 0), (34, 0), (35, 0), (36, 0), (37, 0), (38, 0), (39, 0), (40, 0), (41, 0), (42, 0), (43, 0)]
abbrev Q10B : AC := .run [(.op (some 4) none (.mv (.k (.bool false))))]
abbrev Q10C : AC := .seq Q10B .ret
abbrev Q10D : AC := .cond (.s 113) Q10C .skip
abbrev Q10E : AC := .seq Q10A Q10D
abbrev Q10F : AC := .seq Q109 Q10E
abbrev Q10G : AC := .block 1 Q10F
abbrev Q10H : AC := .run [(.op (some 114) none (.bin .add (.s 67) (.k (.int .i64 1)))), (.op (some 67) none (.mv (.s 114)))]
abbrev Q10I : AC := .seq Q10G Q10H
abbrev Q10J : AC := .seq Q108 Q10I
abbrev Q10K : AC := .seq Q107 Q10J
abbrev Q10L : AC := .loop Q10K
abbrev Q10M : AC := .block 0 Q10L
abbrev Q10N : AC := .seq Q106 Q10M
abbrev Q10O : AC := .run [(.op (some 115) none (.faddr (.s 2) 11)), (.op (some 116) none (.load (.s 115) false 1)), (.op (some 117) none (.faddr (.s 3) 11)), (.op (some 118) none (.load (.s 117) false 1)), (.call (some 119) none n_ref3_EqStmts [(.s 116), (.s 118)]), (.op (some 120) none (.mv (.s 119))), (.op (some 121) (some (120, true)) (.faddr (.s 2) 12)), (.op (some 122) (some (120, true)) (.load (.s 121) false 1)), (.op (some 123) (some (120, true)) (.faddr (.s 3) 12)), (.op (some 124) (some (120, true)) (.load (.s 123) false 1)), (.call (some 125) (some (120, true)) n_ref3_EqStmts [(.s 122), (.s 124)]), (.op (some 126) none (.pick (.s 120) (.s 125) (.k (.bool false)))), (.op (some 4) none (.mv (.s 126)))]
abbrev Q10P : AC := .seq Q10O .ret
abbrev Q10Q : AC := .seq Q10N Q10P
abbrev Q10R : AC := .seq Q105 Q10Q
abbrev Q10S : AC := .seq Q100 Q10R
abbrev Q10T : AC := .run [(.op (some 2) none (.mv (.k (.bool false))))]
abbrev Q10U : AC := .run [(.op (some 3) none (.mv (.s 0))), (.op (some 4) none (.bin .geq (.s 3) (.k (.int .u8 97)))), (.op (some 5) none (.mv (.s 4))), (.op (some 6) (some (5, true)) (.mv (.s 0))), (.op (some 7) (some (5, true)) (.bin .leq (.s 6) (.k (.int .u8 122)))), (.op (some 8) none (.pick (.s 5) (.s 7) (.k (.bool false)))), (.op (some 2) none (.mv (.s 8)))]
abbrev Q10V : AC := .seq Q10U .ret
abbrev Q10W : AC := .seq Q10T Q10V
abbrev Q10X : AC := .run [(.op (some 2) none (.mv (.k (.bool false))))]
abbrev Q10Y : AC := .run [(.op (some 3) none (.mv (.s 0))), (.op (some 4) none (.bin .geq (.s 3) (.k (.int .u8 48)))), (.op (some 5) none (.mv (.s 4))), (.op (some 6) (some (5, true)) (.mv (.s 0))), (.op (some 7) (some (5, true)) (.bin .leq (.s 6) (.k (.int .u8 57)))), (.op (some 8) none (.pick (.s 5) (.s 7) (.k (.bool false)))), (.op (some 2) none (.mv (.s 8)))]
abbrev Q10Z : AC := .seq Q10Y .ret
abbrev Q110 : AC := .seq Q10X Q10Z
abbrev Q111 : AC := .run [(.op (some 4) none (.mv (.k (.int .i64 0))))]
abbrev Q112 : AC := .run [(.op (some 5) none (.mv (.s 1))), (.op (some 6) none (.mv (.s 0))), (.op (some 7) none (.slen (.s 6))), (.op (some 8) none (.bin .lss (.s 5) (.s 7))), (.op (some 9) none (.mv (.s 8))), (.op (some 10) (some (9, true)) (.mv (.s 0))), (.op (some 11) (some (9, true)) (.mv (.s 1))), (.op (some 12) (some (9, true)) (.sidx (.s 10) (.s 11))), (.call (some 13) (some (9, true)) n_lex_letter [(.s 12)]), (.op (some 14) (some (9, true)) (.mv (.s 13))), (.op (some 15) (some (14, false)) (.mv (.s 0))), (.op (some 16) (some (14, false)) (.mv (.s 1))), (.op (some 17) (some (14, false)) (.sidx (.s 15) (.s 16))), (.call (some 18) (some (14, false)) n_lex_digit [(.s 17)]), (.op (some 19) (some (9, true)) (.pick (.s 14) (.k (.bool true)) (.s 18))), (.op (some 20) none (.pick (.s 9) (.s 19) (.k (.bool false))))]
abbrev Q113 : AC := .cond (.s 20) .skip (.exit 0)
abbrev Q114 : AC := .seq Q112 Q113
abbrev Q115 : AC := .run [(.op (some 21) none (.mv (.s 1))), (.op (some 22) none (.bin .add (.s 21) (.k (.int .i64 1)))), (.op (some 1) none (.mv (.s 22)))]
abbrev Q116 : AC := .block 1 Q115
abbrev Q117 : AC := .seq Q114 Q116
abbrev Q118 : AC := .loop Q117
abbrev Q119 : AC := .block 0 Q118
abbrev Q11A : AC := .run [(.op (some 23) none (.mv (.s 1))), (.op (some 4) none (.mv (.s 23)))]
abbrev Q11B : AC := .seq Q11A .ret
abbrev Q11C : AC := .seq Q119 Q11B
abbrev Q11D : AC := .seq Q111 Q11C
abbrev Q11E : AC := .run [(.op (some 2) none (.mv (.k (.bool false))))]
abbrev Q11F : AC := .run [(.op (some 3) none (.mv (.s 0)))]
abbrev Q11G : AC := .run [(.op (some 5) none (.bin .eql (.s 3) (.k (.str [103, 108, 111, 98, 97, 108])))), (.op (some 4) none (.mv (.s 5)))]
abbrev Q11H : AC := .run [(.op (some 6) none (.bin .eql (.s 3) (.k (.str [112, 114, 111, 99])))), (.op (some 4) none (.mv (.s 6)))]
abbrev Q11I : AC := .run [(.op (some 7) none (.bin .eql (.s 3) (.k (.str [118, 97, 114])))), (.op (some 4) none (.mv (.s 7)))]
abbrev Q11J : AC := .run [(.op (some 8) none (.bin .eql (.s 3) (.k (.str [114, 101, 102])))), (.op (some 4) none (.mv (.s 8)))]
abbrev Q11K : AC := .run [(.op (some 9) none (.bin .eql (.s 3) (.k (.str [105, 102])))), (.op (some 4) none (.mv (.s 9)))]
abbrev Q11L : AC := .run [(.op (some 10) none (.bin .eql (.s 3) (.k (.str [101, 108, 115, 101])))), (.op (some 4) none (.mv (.s 10)))]
abbrev Q11M : AC := .run [(.op (some 11) none (.bin .eql (.s 3) (.k (.str [119, 104, 105, 108, 101])))), (.op (some 4) none (.mv (.s 11)))]
abbrev Q11N : AC := .run [(.op (some 12) none (.bin .eql (.s 3) (.k (.str [98, 114, 101, 97, 107])))), (.op (some 4) none (.mv (.s 12)))]
abbrev Q11O : AC := .run [(.op (some 13) none (.bin .eql (.s 3) (.k (.str [99, 111, 110, 116, 105, 110, 117, 101])))), (.op (some 4) none (.mv (.s 13)))]
abbrev Q11P : AC := .run [(.op (some 14) none (.bin .eql (.s 3) (.k (.str [114, 101, 116, 117, 114, 110])))), (.op (some 4) none (.mv (.s 14)))]
abbrev Q11Q : AC := .run [(.op (some 15) none (.bin .eql (.s 3) (.k (.str [103, 111, 116, 111])))), (.op (some 4) none (.mv (.s 15)))]
abbrev Q11R : AC := .run [(.op (some 16) none (.bin .eql (.s 3) (.k (.str [114, 101, 97, 100])))), (.op (some 4) none (.mv (.s 16)))]
abbrev Q11S : AC := .run [(.op (some 17) none (.bin .eql (.s 3) (.k (.str [112, 114, 105, 110, 116])))), (.op (some 4) none (.mv (.s 17)))]
abbrev Q11T : AC := .cond (.s 4) .skip Q11S
abbrev Q11U : AC := .seq Q11R Q11T
abbrev Q11V : AC := .cond (.s 4) .skip Q11U
abbrev Q11W : AC := .seq Q11Q Q11V
abbrev Q11X : AC := .cond (.s 4) .skip Q11W
abbrev Q11Y : AC := .seq Q11P Q11X
abbrev Q11Z : AC := .cond (.s 4) .skip Q11Y
abbrev Q120 : AC := .seq Q11O Q11Z
abbrev Q121 : AC := .cond (.s 4) .skip Q120
abbrev Q122 : AC := .seq Q11N Q121
abbrev Q123 : AC := .cond (.s 4) .skip Q122
abbrev Q124 : AC := .seq Q11M Q123
abbrev Q125 : AC := .cond (.s 4) .skip Q124
abbrev Q126 : AC := .seq Q11L Q125
abbrev Q127 : AC := .cond (.s 4) .skip Q126
abbrev Q128 : AC := .seq Q11K Q127
abbrev Q129 : AC := .cond (.s 4) .skip Q128
abbrev Q12A : AC := .seq Q11J Q129
abbrev Q12B : AC := .cond (.s 4) .skip Q12A
abbrev Q12C : AC := .seq Q11I Q12B
abbrev Q12D : AC := .cond (.s 4) .skip Q12C
abbrev Q12E : AC := .seq Q11H Q12D
abbrev Q12F : AC := .cond (.s 4) .skip Q12E
abbrev Q12G : AC := .seq Q11G Q12F
abbrev Q12H : AC := .run [(.op (some 2) none (.mv (.k (.bool true))))]
abbrev Q12I : AC := .seq Q12H .ret
abbrev Q12J : AC := .cond (.s 4) Q12I .skip
abbrev Q12K : AC := .seq Q12G Q12J
abbrev Q12L : AC := .block 0 Q12K
abbrev Q12M : AC := .seq Q11F Q12L
abbrev Q12N : AC := .run [(.op (some 2) none (.mv (.k (.bool false))))]
abbrev Q12O : AC := .seq Q12N .ret
abbrev Q12P : AC := .seq Q12M Q12O
abbrev Q12Q : AC := .seq Q11E Q12P
abbrev Q12R : AC := .run [(.op (some 1) none (.box (.s 0))), (.op (some 2) none (.mv (.k (.bool false))))]
abbrev Q12S : AC := .par [(.op (some 10) none (.faddr (.s 1) 9)), (.op (some 11) none (.load (.s 10) false 1)), (.op (some 3) none (.mv (.k (.bool false)))), (.op (some 4) none (.mv (.k (.bool false)))), (.op (some 5) none (.mv (.k (.bool false)))), (.op (some 6) none (.mv (.s 11))), (.op (some 7) none (.mv (.k (.bool false)))), (.op (some 8) none (.mv (.k (.bool false))))] [(0, 0), (1, 0), (2, 0), (3, 0), (4, 0), (5, 0), (6, 0), (7, 0)]
abbrev Q12T : AC := .run [(.op (some 12) none (.faddr (.s 1) 1)), (.op (some 13) none (.load (.s 12) false 1)), (.op (some 14) none (.bin .eql (.s 13) (.k (.int .i64 4)))), (.op (some 9) none (.mv (.s 14)))]
abbrev Q12U : AC := .run [(.op (some 15) none (.faddr (.s 1) 1)), (.op (some 16) none (.load (.s 15) false 1))]
abbrev Q12V : AC := .run [(.op (some 18) none (.bin .eql (.s 16) (.k (.int .i64 1)))), (.op (some 17) none (.mv (.s 18)))]
abbrev Q12W : AC := .run [(.op (some 3) none (.mv (.k (.bool true)))), (.op (some 5) none (.mv (.k (.bool true))))]
abbrev Q12X : AC := .run [(.op (some 20) none (.bin .eql (.s 16) (.k (.int .i64 2)))), (.op (some 19) none (.mv (.s 20)))]
abbrev Q12Y : AC := .run [(.op (some 21) none (.bin .eql (.s 16) (.k (.int .i64 10)))), (.op (some 19) none (.mv (.s 21)))]
abbrev Q12Z : AC := .cond (.s 19) .skip Q12Y
abbrev Q130 : AC := .seq Q12X Q12Z
abbrev Q131 : AC := .run [(.op (some 3) none (.mv (.k (.bool true))))]
abbrev Q132 : AC := .run [(.op (some 23) none (.bin .eql (.s 16) (.k (.int .i64 3)))), (.op (some 22) none (.mv (.s 23)))]
abbrev Q133 : AC := .run [(.op (some 5) none (.mv (.k (.bool true))))]
abbrev Q134 : AC := .run [(.op (some 25) none (.bin .eql (.s 16) (.k (.int .i64 4)))), (.op (some 24) none (.mv (.s 25)))]
abbrev Q135 : AC := .run [(.op (some 26) none (.faddr (.s 1) 3)), (.op (some 27) none (.load (.s 26) false 1)), (.op (some 28) none (.bin .neq (.s 27) (.k (.str [])))), (.op (some 3) none (.mv (.s 28))), (.op (some 4) none (.mv (.k (.bool true))))]
abbrev Q136 : AC := .run [(.op (some 30) none (.bin .eql (.s 16) (.k (.int .i64 5)))), (.op (some 29) none (.mv (.s 30)))]
abbrev Q137 : AC := .run [(.op (some 5) none (.mv (.k (.bool true)))), (.op (some 7) none (.mv (.k (.bool true)))), (.op (some 8) none (.mv (.k (.bool true))))]
abbrev Q138 : AC := .run [(.op (some 32) none (.bin .eql (.s 16) (.k (.int .i64 6)))), (.op (some 31) none (.mv (.s 32)))]
abbrev Q139 : AC := .run [(.op (some 5) none (.mv (.k (.bool true)))), (.op (some 7) none (.mv (.k (.bool true))))]
abbrev Q13A : AC := .run [(.op (some 34) none (.bin .eql (.s 16) (.k (.int .i64 9)))), (.op (some 33) none (.mv (.s 34)))]
abbrev Q13B : AC := .run [(.op (some 35) none (.faddr (.s 1) 9)), (.op (some 36) none (.load (.s 35) false 1)), (.op (some 5) none (.mv (.s 36))), (.op (some 6) none (.mv (.k (.bool false))))]
abbrev Q13C : AC := .run [(.op (some 38) none (.bin .eql (.s 16) (.k (.int .i64 7)))), (.op (some 37) none (.mv (.s 38)))]
abbrev Q13D : AC := .run [(.op (some 39) none (.bin .eql (.s 16) (.k (.int .i64 8)))), (.op (some 37) none (.mv (.s 39)))]
abbrev Q13E : AC := .cond (.s 37) .skip Q13D
abbrev Q13F : AC := .seq Q13C Q13E
abbrev Q13G : AC := .run [(.op (some 2) none (.mv (.k (.bool false))))]
abbrev Q13H : AC := .seq Q13G .ret
abbrev Q13I : AC := .cond (.s 37) .skip Q13H
abbrev Q13J : AC := .seq Q13F Q13I
abbrev Q13K : AC := .cond (.s 33) Q13B Q13J
abbrev Q13L : AC := .seq Q13A Q13K
abbrev Q13M : AC := .cond (.s 31) Q139 Q13L
abbrev Q13N : AC := .seq Q138 Q13M
abbrev Q13O : AC := .cond (.s 29) Q137 Q13N
abbrev Q13P : AC := .seq Q136 Q13O
abbrev Q13Q : AC := .cond (.s 24) Q135 Q13P
abbrev Q13R : AC := .seq Q134 Q13Q
abbrev Q13S : AC := .cond (.s 22) Q133 Q13R
abbrev Q13T : AC := .seq Q132 Q13S
abbrev Q13U : AC := .cond (.s 19) Q131 Q13T
abbrev Q13V : AC := .seq Q130 Q13U
abbrev Q13W : AC := .cond (.s 17) Q12W Q13V
abbrev Q13X : AC := .seq Q12V Q13W
abbrev Q13Y : AC := .block 0 Q13X
abbrev Q13Z : AC := .seq Q12U Q13Y
abbrev Q140 : AC := .run [(.op (some 40) none (.mv (.s 6))), (.op (some 41) none (.mv (.s 40))), (.op (some 42) (some (41, false)) (.mv (.s 7))), (.op (some 43) (some (41, false)) (.un .not (.s 42))), (.op (some 44) (some (41, false)) (.mv (.s 43))), (.op (some 45) (some (44, true)) (.faddr (.s 1) 11)), (.op (some 46) (some (44, true)) (.load (.s 45) false 1)), (.op (some 47) (some (44, true)) (.len (.s 46))), (.op (some 48) (some (44, true)) (.bin .gtr (.s 47) (.k (.int .i64 0)))), (.op (some 49) (some (41, false)) (.pick (.s 44) (.s 48) (.k (.bool false)))), (.op (some 50) none (.pick (.s 41) (.k (.bool true)) (.s 49))), (.op (some 51) none (.mv (.s 50))), (.op (some 52) (some (51, false)) (.mv (.s 8))), (.op (some 53) (some (51, false)) (.un .not (.s 52))), (.op (some 54) (some (51, false)) (.mv (.s 53))), (.op (some 55) (some (54, true)) (.faddr (.s 1) 12)), (.op (some 56) (some (54, true)) (.load (.s 55) false 1)), (.op (some 57) (some (54, true)) (.len (.s 56))), (.op (some 58) (some (54, true)) (.bin .gtr (.s 57) (.k (.int .i64 0)))), (.op (some 59) (some (51, false)) (.pick (.s 54) (.s 58) (.k (.bool false)))), (.op (some 60) none (.pick (.s 51) (.k (.bool true)) (.s 59))), (.op (some 61) none (.mv (.s 60))), (.op (some 62) (some (61, false)) (.mv (.s 9))), (.op (some 63) (some (61, false)) (.un .not (.s 62))), (.op (some 64) (some (61, false)) (.mv (.s 63))), (.op (some 65) (some (64, true)) (.faddr (.s 1) 10)), (.op (some 66) (some (64, true)) (.load (.s 65) false 1)), (.op (some 67) (some (64, true)) (.len (.s 66))), (.op (some 68) (some (64, true)) (.bin .gtr (.s 67) (.k (.int .i64 0)))), (.op (some 69) (some (61, false)) (.pick (.s 64) (.s 68) (.k (.bool false)))), (.op (some 70) none (.pick (.s 61) (.k (.bool true)) (.s 69)))]
abbrev Q141 : AC := .run [(.op (some 2) none (.mv (.k (.bool false))))]
abbrev Q142 : AC := .seq Q141 .ret
abbrev Q143 : AC := .cond (.s 70) Q142 .skip
abbrev Q144 : AC := .seq Q140 Q143
abbrev Q145 : AC := .run [(.op (some 71) none (.faddr (.s 1) 3)), (.op (some 72) none (.load (.s 71) false 1)), (.op (some 73) none (.mv (.s 3))), (.call (some 74) none n_tree_named [(.s 72), (.s 73)]), (.op (some 75) none (.un .not (.s 74))), (.op (some 76) none (.mv (.s 75))), (.op (some 77) (some (76, false)) (.faddr (.s 1) 4)), (.op (some 78) (some (76, false)) (.load (.s 77) false 1)), (.op (some 79) (some (76, false)) (.mv (.s 4))), (.call (some 80) (some (76, false)) n_tree_named [(.s 78), (.s 79)]), (.op (some 81) (some (76, false)) (.un .not (.s 80))), (.op (some 82) none (.pick (.s 76) (.k (.bool true)) (.s 81))), (.op (some 83) none (.mv (.s 82))), (.op (some 84) (some (83, false)) (.faddr (.s 1) 5)), (.op (some 85) (some (83, false)) (.load (.s 84) true 4)), (.op (some 86) (some (83, false)) (.mv (.s 5))), (.call (some 87) (some (83, false)) n_tree_worth [(.s 85), (.s 86)]), (.op (some 88) (some (83, false)) (.un .not (.s 87))), (.op (some 89) none (.pick (.s 83) (.k (.bool true)) (.s 88)))]
abbrev Q146 : AC := .run [(.op (some 2) none (.mv (.k (.bool false))))]
abbrev Q147 : AC := .seq Q146 .ret
abbrev Q148 : AC := .cond (.s 89) Q147 .skip
abbrev Q149 : AC := .seq Q145 Q148
abbrev Q14A : AC := .run [(.op (some 90) none (.faddr (.s 1) 10)), (.op (some 91) none (.load (.s 90) false 1)), (.call (some 92) none n_tree_handed [(.s 91)]), (.op (some 2) none (.mv (.s 92)))]
abbrev Q14B : AC := .seq Q14A .ret
abbrev Q14C : AC := .seq Q149 Q14B
abbrev Q14D : AC := .seq Q144 Q14C
abbrev Q14E : AC := .seq Q13Z Q14D
abbrev Q14F : AC := .seq Q12T Q14E
abbrev Q14G : AC := .seq Q12S Q14F
abbrev Q14H : AC := .seq Q12R Q14G
abbrev Q14I : AC := .run [(.op (some 2) none (.mv (.k (.int .i64 0))))]
abbrev Q14J : AC := .run [(.op (some 4) none (.mv (.s 0))), (.op (some 5) none (.bin .eql (.s 4) (.k (.int .i64 1)))), (.op (some 6) none (.mv (.s 5))), (.op (some 7) (some (6, false)) (.mv (.s 0))), (.op (some 8) (some (6, false)) (.bin .eql (.s 7) (.k (.int .i64 2)))), (.op (some 9) none (.pick (.s 6) (.k (.bool true)) (.s 8))), (.op (some 3) none (.mv (.s 9)))]
abbrev Q14K : AC := .run [(.op (some 2) none (.mv (.k (.int .i64 0))))]
abbrev Q14L : AC := .seq Q14K .ret
abbrev Q14M : AC := .run [(.op (some 11) none (.mv (.s 0))), (.op (some 12) none (.bin .eql (.s 11) (.k (.int .i64 3)))), (.op (some 13) none (.mv (.s 12))), (.op (some 14) (some (13, false)) (.mv (.s 0))), (.op (some 15) (some (13, false)) (.bin .eql (.s 14) (.k (.int .i64 4)))), (.op (some 16) none (.pick (.s 13) (.k (.bool true)) (.s 15))), (.op (some 10) none (.mv (.s 16)))]
abbrev Q14N : AC := .run [(.op (some 2) none (.mv (.k (.int .i64 1))))]
abbrev Q14O : AC := .seq Q14N .ret
abbrev Q14P : AC := .run [(.op (some 18) none (.mv (.s 0))), (.op (some 19) none (.bin .geq (.s 18) (.k (.int .i64 5)))), (.op (some 20) none (.mv (.s 19))), (.op (some 21) (some (20, true)) (.mv (.s 0))), (.op (some 22) (some (20, true)) (.bin .leq (.s 21) (.k (.int .i64 17)))), (.op (some 23) none (.pick (.s 20) (.s 22) (.k (.bool false)))), (.op (some 17) none (.mv (.s 23)))]
abbrev Q14Q : AC := .run [(.op (some 2) none (.mv (.k (.int .i64 2))))]
abbrev Q14R : AC := .seq Q14Q .ret
abbrev Q14S : AC := .cond (.s 17) Q14R .skip
abbrev Q14T : AC := .seq Q14P Q14S
abbrev Q14U : AC := .cond (.s 10) Q14O Q14T
abbrev Q14V : AC := .seq Q14M Q14U
abbrev Q14W : AC := .cond (.s 3) Q14L Q14V
abbrev Q14X : AC := .seq Q14J Q14W
abbrev Q14Y : AC := .block 0 Q14X
abbrev Q14Z : AC := .run [(.op (some 2) none (.mv (.k (.int .i64 (-1)))))]
abbrev Q150 : AC := .seq Q14Z .ret
abbrev Q151 : AC := .seq Q14Y Q150
abbrev Q152 : AC := .seq Q14I Q151

end Go.Abs

/-! Have2 -/

namespace Go.Abs
open Go.Proofs

theorem has_strings_Builder_WriteByte : Has Tryd.prog n_strings_Builder_WriteByte 17 [(4, none)] QS9 := ⟨Tryd.f68, by kernel_rfl, by kernel_rfl⟩
theorem has_strings_Builder_WriteString : Has Tryd.prog n_strings_Builder_WriteString 19 [(4, none), (5, none)] QSH := ⟨Tryd.f69, by kernel_rfl, by kernel_rfl⟩
theorem has_print_plain : Has Tryd.prog n_print_plain 85 [(2, none)] QUN := ⟨Tryd.f71, by kernel_rfl, by kernel_rfl⟩
theorem has_tree_deep : Has Tryd.prog n_tree_deep 61 [(4, none)] QW0 := ⟨Tryd.f73, by kernel_rfl, by kernel_rfl⟩
theorem has_print_sign : Has Tryd.prog n_print_sign 31 [(2, none), (3, none)] QY1 := ⟨Tryd.f75, by kernel_rfl, by kernel_rfl⟩
theorem has_ref3_Arity : Has Tryd.prog n_ref3_Arity 24 [(2, none)] QYM := ⟨Tryd.f76, by kernel_rfl, by kernel_rfl⟩
theorem has_ref1_small : Has Tryd.prog n_ref1_small 9 [(2, none)] QYQ := ⟨Tryd.f81, by kernel_rfl, by kernel_rfl⟩
theorem has_ref1_digit : Has Tryd.prog n_ref1_digit 9 [(2, none)] QYU := ⟨Tryd.f82, by kernel_rfl, by kernel_rfl⟩
theorem has_ref1_Word : Has Tryd.prog n_ref1_Word 15 [(2, none)] QZH := ⟨Tryd.f83, by kernel_rfl, by kernel_rfl⟩
theorem has_ref3_Flat : Has Tryd.prog n_ref3_Flat 6 [(2, none)] QZL := ⟨Tryd.f84, by kernel_rfl, by kernel_rfl⟩
theorem has_ref3_none : Has Tryd.prog n_ref3_none 22 [(2, none)] QZP := ⟨Tryd.f85, by kernel_rfl, by kernel_rfl⟩
theorem has_ref3_arg : Has Tryd.prog n_ref3_arg 21 [(2, none)] QZZ := ⟨Tryd.f86, by kernel_rfl, by kernel_rfl⟩
theorem has_ref3_eqOne : Has Tryd.prog n_ref3_eqOne 127 [(4, none)] Q10S := ⟨Tryd.f87, by kernel_rfl, by kernel_rfl⟩
theorem has_lex_letter : Has Tryd.prog n_lex_letter 9 [(2, none)] Q10W := ⟨Tryd.f88, by kernel_rfl, by kernel_rfl⟩
theorem has_lex_digit : Has Tryd.prog n_lex_digit 9 [(2, none)] Q110 := ⟨Tryd.f89, by kernel_rfl, by kernel_rfl⟩
theorem has_lex_run : Has Tryd.prog n_lex_run 24 [(4, none)] Q11D := ⟨Tryd.f91, by kernel_rfl, by kernel_rfl⟩
theorem has_lex_Word : Has Tryd.prog n_lex_Word 18 [(2, none)] Q12Q := ⟨Tryd.f92, by kernel_rfl, by kernel_rfl⟩
theorem has_tree_fields : Has Tryd.prog n_tree_fields 93 [(2, none)] Q14H := ⟨Tryd.f103, by kernel_rfl, by kernel_rfl⟩
theorem has_tree_kids : Has Tryd.prog n_tree_kids 24 [(2, none)] Q152 := ⟨Tryd.f107, by kernel_rfl, by kernel_rfl⟩
end Go.Abs

/-! Codes3 -/

namespace Go.Abs

abbrev Q153 : AC := .run [(.op (some 0) none (.mv (.k (.slice .full 0 []))))]
abbrev Q154 : AC := .run [(.op (some 1) none (.bslice [(.str [])] 1 13 [(0, (.k (.str [103, 108, 111, 98, 97, 108]))), (1, (.k (.str [112, 114, 111, 99]))), (2, (.k (.str [118, 97, 114]))), (3, (.k (.str [114, 101, 102]))), (4, (.k (.str [105, 102]))), (5, (.k (.str [101, 108, 115, 101]))), (6, (.k (.str [119, 104, 105, 108, 101]))), (7, (.k (.str [98, 114, 101, 97, 107]))), (8, (.k (.str [99, 111, 110, 116, 105, 110, 117, 101]))), (9, (.k (.str [114, 101, 116, 117, 114, 110]))), (10, (.k (.str [103, 111, 116, 111]))), (11, (.k (.str [114, 101, 97, 100]))), (12, (.k (.str [112, 114, 105, 110, 116])))])), (.op (some 0) none (.mv (.s 1)))]
abbrev Q155 : AC := .seq Q154 .ret
abbrev Q156 : AC := .seq Q153 Q155
abbrev Q157 : AC := .run [(.op (some 10) none (.mv (.k (.slice .full 0 []))))]
abbrev Q158 : AC := .run [(.op (some 11) none (.mv (.k (.int .i64 0))))]
abbrev Q159 : AC := .run [(.op (some 12) none (.mv (.s 11))), (.op (some 13) none (.mv (.s 0))), (.op (some 14) none (.len (.s 13))), (.op (some 15) none (.bin .lss (.s 12) (.s 14))), (.op (some 16) none (.mv (.s 15))), (.op (some 17) (some (16, true)) (.mv (.s 4))), (.op (some 18) (some (16, true)) (.len (.s 17))), (.op (some 19) (some (16, true)) (.bin .leq (.s 18) (.k (.int .i64 200)))), (.op (some 20) none (.pick (.s 16) (.s 19) (.k (.bool false))))]
abbrev Q15A : AC := .cond (.s 20) .skip (.exit 0)
abbrev Q15B : AC := .seq Q159 Q15A
abbrev Q15C : AC := .run [(.op (some 23) none (.mv (.s 4))), (.op (some 24) none (.mv (.s 0))), (.op (some 25) none (.mv (.s 11))), (.op (some 26) none (.iaddr (.s 24) (.s 25) 13)), (.op (some 27) none (.load (.s 26) true 13)), (.op (some 28) none (.mv (.s 1))), (.op (some 29) none (.mv (.s 2))), (.op (some 30) none (.mv (.s 3))), (.op (some 31) none (.build [(.int .i64 0), (.int .i64 0), (.slice .full 0 []), (.str []), (.str []), (.int .i64 0), (.int .i64 0), (.str []), (.slice .full 0 []), (.bool false), (.slice .full 0 []), (.slice .full 0 []), (.slice .full 0 []), (.int .i64 0), (.int .i64 0), (.bool false)] [(0, (13, (.s 27))), (13, (1, (.s 28))), (14, (1, (.s 29))), (15, (1, (.s 30)))])), (.op (some 32) none (.bslice [(.int .i64 0), (.int .i64 0), (.slice .full 0 []), (.str []), (.str []), (.int .i64 0), (.int .i64 0), (.str []), (.slice .full 0 []), (.bool false), (.slice .full 0 []), (.slice .full 0 []), (.slice .full 0 []), (.int .i64 0), (.int .i64 0), (.bool false)] 16 1 [(0, (.s 31))])), (.op (some 33) none (.app 16 232 (.s 23) (.s 32))), (.op (some 4) none (.mv (.s 33)))]
abbrev Q15D : AC := .run [(.op (some 34) none (.mv (.s 1))), (.op (some 35) none (.bin .leq (.s 34) (.k (.int .i64 12))))]
abbrev Q15E : AC := .par [(.op (some 36) none (.mv (.s 0))), (.op (some 37) none (.mv (.s 11))), (.op (some 38) none (.iaddr (.s 36) (.s 37) 13)), (.op (some 39) none (.faddr (.s 38) 11)), (.op (some 40) none (.load (.s 39) false 1)), (.op (some 41) none (.mv (.s 1))), (.op (some 42) none (.bin .add (.s 41) (.k (.int .i64 1)))), (.op (some 43) none (.mv (.s 0))), (.op (some 44) none (.mv (.s 11))), (.op (some 45) none (.iaddr (.s 43) (.s 44) 13)), (.op (some 46) none (.faddr (.s 45) 0)), (.op (some 47) none (.load (.s 46) false 1)), (.op (some 48) none (.mv (.s 4))), (.call (some 49) none n_ref3_flat [(.s 40), (.s 42), (.s 47), (.k (.bool false)), (.s 48)]), (.op (some 4) none (.mv (.s 49)))] [(0, 0), (1, 0), (2, 0), (3, 0), (4, 0), (5, 0), (6, 0), (7, 0), (8, 0), (9, 0), (10, 0), (11, 0), (12, 0), (13, 0), (14, 0)]
abbrev Q15F : AC := .par [(.op (some 50) none (.mv (.s 0))), (.op (some 51) none (.mv (.s 11))), (.op (some 52) none (.iaddr (.s 50) (.s 51) 13)), (.op (some 53) none (.faddr (.s 52) 12)), (.op (some 54) none (.load (.s 53) false 1)), (.op (some 55) none (.mv (.s 1))), (.op (some 56) none (.bin .add (.s 55) (.k (.int .i64 1)))), (.op (some 57) none (.mv (.s 0))), (.op (some 58) none (.mv (.s 11))), (.op (some 59) none (.iaddr (.s 57) (.s 58) 13)), (.op (some 60) none (.faddr (.s 59) 0)), (.op (some 61) none (.load (.s 60) false 1)), (.op (some 62) none (.mv (.s 4))), (.call (some 63) none n_ref3_flat [(.s 54), (.s 56), (.s 61), (.k (.bool true)), (.s 62)]), (.op (some 4) none (.mv (.s 63)))] [(0, 0), (1, 0), (2, 0), (3, 0), (4, 0), (5, 0), (6, 0), (7, 0), (8, 0), (9, 0), (10, 0), (11, 0), (12, 0), (13, 0), (14, 0)]
abbrev Q15G : AC := .seq Q15E Q15F
abbrev Q15H : AC := .cond (.s 35) Q15G .skip
abbrev Q15I : AC := .seq Q15D Q15H
abbrev Q15J : AC := .seq Q15C Q15I
abbrev Q15K : AC := .block 1 Q15J
abbrev Q15L : AC := .run [(.op (some 21) none (.mv (.s 11))), (.op (some 22) none (.bin .add (.s 21) (.k (.int .i64 1)))), (.op (some 11) none (.mv (.s 22)))]
abbrev Q15M : AC := .seq Q15K Q15L
abbrev Q15N : AC := .seq Q15B Q15M
abbrev Q15O : AC := .loop Q15N
abbrev Q15P : AC := .block 0 Q15O
abbrev Q15Q : AC := .seq Q158 Q15P
abbrev Q15R : AC := .run [(.op (some 64) none (.mv (.s 4))), (.op (some 10) none (.mv (.s 64)))]
abbrev Q15S : AC := .seq Q15R .ret
abbrev Q15T : AC := .seq Q15Q Q15S
abbrev Q15U : AC := .seq Q157 Q15T
abbrev Q15V : AC := .run [(.op (some 4) none (.mv (.k (.bool false))))]
abbrev Q15W : AC := .run [(.op (some 5) none (.mv (.s 1))), (.op (some 6) none (.mv (.s 5))), (.op (some 7) (some (6, true)) (.mv (.s 0))), (.call (some 8) (some (6, true)) n_lex_Name [(.s 7)]), (.op (some 9) none (.pick (.s 6) (.s 8) (.k (.bool false)))), (.op (some 10) none (.mv (.s 9))), (.op (some 11) (some (10, false)) (.mv (.s 1))), (.op (some 12) (some (10, false)) (.un .not (.s 11))), (.op (some 13) (some (10, false)) (.mv (.s 12))), (.op (some 14) (some (13, true)) (.mv (.s 0))), (.op (some 15) (some (13, true)) (.bin .eql (.s 14) (.k (.str [])))), (.op (some 16) (some (10, false)) (.pick (.s 13) (.s 15) (.k (.bool false)))), (.op (some 17) none (.pick (.s 10) (.k (.bool true)) (.s 16))), (.op (some 4) none (.mv (.s 17)))]
abbrev Q15X : AC := .seq Q15W .ret
abbrev Q15Y : AC := .seq Q15V Q15X
abbrev Q15Z : AC := .run [(.op (some 2) none (.box (.s 0))), (.op (some 4) none (.mv (.k (.bool false))))]
abbrev Q160 : AC := .run [(.op (some 5) none (.mv (.s 1))), (.op (some 6) none (.mv (.s 5))), (.op (some 7) (some (6, true)) (.load (.s 2) true 4)), (.call (some 8) (some (6, true)) n_tree_MayExpr [(.s 7)]), (.op (some 9) none (.pick (.s 6) (.s 8) (.k (.bool false)))), (.op (some 10) none (.mv (.s 9))), (.op (some 11) (some (10, false)) (.mv (.s 1))), (.op (some 12) (some (10, false)) (.un .not (.s 11))), (.op (some 13) (some (10, false)) (.mv (.s 12))), (.op (some 14) (some (13, true)) (.load (.s 2) true 4)), (.call (some 15) (some (13, true)) n_tree_none [(.s 14)]), (.op (some 16) (some (10, false)) (.pick (.s 13) (.s 15) (.k (.bool false)))), (.op (some 17) none (.pick (.s 10) (.k (.bool true)) (.s 16))), (.op (some 4) none (.mv (.s 17)))]
abbrev Q161 : AC := .seq Q160 .ret
abbrev Q162 : AC := .seq Q15Z Q161
abbrev Q163 : AC := .run [(.op (some 2) none (.mv (.k (.bool false))))]
abbrev Q164 : AC := .run [(.op (some 5) none (.mv (.s 0))), (.op (some 6) none (.len (.s 5))), (.op (some 7) none (.mv (.k (.int .i64 0))))]
abbrev Q165 : AC := .run [(.op (some 8) none (.bin .lss (.s 7) (.s 6)))]
abbrev Q166 : AC := .cond (.s 8) .skip (.exit 0)
abbrev Q167 : AC := .run [(.op (some 9) none (.iaddr (.s 5) (.s 7) 6)), (.op (some 10) none (.load (.s 9) true 6)), (.op (some 4) none (.alloc [(.bool false), (.str []), (.int .i64 0), (.int .i64 0), (.str []), (.slice .full 0 [])])), (.op none none (.store (.s 4) (.s 10) 6))]
abbrev Q168 : AC := .run [(.op (some 11) none (.faddr (.s 4) 1)), (.op (some 12) none (.load (.s 11) false 1)), (.op (some 13) none (.faddr (.s 4) 0)), (.op (some 14) none (.load (.s 13) false 1)), (.call (some 15) none n_tree_named [(.s 12), (.s 14)]), (.op (some 16) none (.un .not (.s 15))), (.op (some 17) none (.mv (.s 16))), (.op (some 18) (some (17, false)) (.faddr (.s 4) 2)), (.op (some 19) (some (17, false)) (.load (.s 18) true 4)), (.op (some 20) (some (17, false)) (.faddr (.s 4) 0)), (.op (some 21) (some (17, false)) (.load (.s 20) false 1)), (.op (some 22) (some (17, false)) (.un .not (.s 21))), (.call (some 23) (some (17, false)) n_tree_worth [(.s 19), (.s 22)]), (.op (some 24) (some (17, false)) (.un .not (.s 23))), (.op (some 25) none (.pick (.s 17) (.k (.bool true)) (.s 24)))]
abbrev Q169 : AC := .run [(.op (some 2) none (.mv (.k (.bool false))))]
abbrev Q16A : AC := .seq Q169 .ret
abbrev Q16B : AC := .cond (.s 25) Q16A .skip
abbrev Q16C : AC := .seq Q168 Q16B
abbrev Q16D : AC := .seq Q167 Q16C
abbrev Q16E : AC := .block 1 Q16D
abbrev Q16F : AC := .run [(.op (some 26) none (.bin .add (.s 7) (.k (.int .i64 1)))), (.op (some 7) none (.mv (.s 26)))]
abbrev Q16G : AC := .seq Q16E Q16F
abbrev Q16H : AC := .seq Q166 Q16G
abbrev Q16I : AC := .seq Q165 Q16H
abbrev Q16J : AC := .loop Q16I
abbrev Q16K : AC := .block 0 Q16J
abbrev Q16L : AC := .seq Q164 Q16K
abbrev Q16M : AC := .run [(.op (some 2) none (.mv (.k (.bool true))))]
abbrev Q16N : AC := .seq Q16M .ret
abbrev Q16O : AC := .seq Q16L Q16N
abbrev Q16P : AC := .seq Q163 Q16O
abbrev Q16Q : AC := .run [(.op (some 1) none (.box (.s 0))), (.op (some 2) none (.mv (.k (.bool false))))]
abbrev Q16R : AC := .run [(.op (some 3) none (.faddr (.s 1) 0)), (.op (some 4) none (.load (.s 3) false 1)), (.op (some 5) none (.bin .eql (.s 4) (.k (.int .i64 0)))), (.op (some 6) none (.mv (.s 5))), (.op (some 7) (some (6, true)) (.faddr (.s 1) 1)), (.op (some 8) (some (6, true)) (.load (.s 7) false 1)), (.op (some 9) (some (6, true)) (.bin .eql (.s 8) (.k (.int .i64 0)))), (.op (some 10) none (.pick (.s 6) (.s 9) (.k (.bool false)))), (.op (some 11) none (.mv (.s 10))), (.op (some 12) (some (11, true)) (.faddr (.s 1) 2)), (.op (some 13) (some (11, true)) (.load (.s 12) false 1)), (.op (some 14) (some (11, true)) (.bin .eql (.s 13) (.k (.str [])))), (.op (some 15) none (.pick (.s 11) (.s 14) (.k (.bool false)))), (.op (some 16) none (.mv (.s 15))), (.op (some 17) (some (16, true)) (.faddr (.s 1) 3)), (.op (some 18) (some (16, true)) (.load (.s 17) false 1)), (.op (some 19) (some (16, true)) (.len (.s 18))), (.op (some 20) (some (16, true)) (.bin .eql (.s 19) (.k (.int .i64 0)))), (.op (some 21) none (.pick (.s 16) (.s 20) (.k (.bool false)))), (.op (some 2) none (.mv (.s 21)))]
abbrev Q16S : AC := .seq Q16R .ret
abbrev Q16T : AC := .seq Q16Q Q16S

end Go.Abs

/-! Have3 -/

namespace Go.Abs
open Go.Proofs

theorem has_ref1_Words : Has Tryd.prog n_ref1_Words 2 [(0, none)] Q156 := ⟨Tryd.f111, by kernel_rfl, by kernel_rfl⟩
theorem has_ref3_flat : Has Tryd.prog n_ref3_flat 65 [(10, none)] Q15U := ⟨Tryd.f112, by kernel_rfl, by kernel_rfl⟩
theorem has_tree_named : Has Tryd.prog n_tree_named 18 [(4, none)] Q15Y := ⟨Tryd.f119, by kernel_rfl, by kernel_rfl⟩
theorem has_tree_worth : Has Tryd.prog n_tree_worth 18 [(4, none)] Q162 := ⟨Tryd.f120, by kernel_rfl, by kernel_rfl⟩
theorem has_tree_handed : Has Tryd.prog n_tree_handed 27 [(2, none)] Q16P := ⟨Tryd.f121, by kernel_rfl, by kernel_rfl⟩
theorem has_tree_none : Has Tryd.prog n_tree_none 22 [(2, none)] Q16T := ⟨Tryd.f130, by kernel_rfl, by kernel_rfl⟩
end Go.Abs

/-! Prs -/

namespace Go.Abs

set_option maxRecDepth 8000
set_option linter.unusedSimpArgs false
set_option linter.unusedVariables false
open Go.Proofs

@[go_sem] def encRd (r : Rd) : List D := [.slice .shared 4 (r.l.map encTok), .int .i64 r.i, .int .i64 r.code, .int .i64 r.fat, .int .i64 r.n]
end Go.Abs

/-! Lex1 -/

namespace Go.Abs

set_option maxRecDepth 8000
set_option linter.unusedSimpArgs false
set_option linter.unusedVariables false
open Go.Proofs

theorem letter_s (c : UInt8) (s : St) : Fun Tryd.prog n_lex_letter [.int .u8 (c.toNat : Int)] s (.bool (isL c)) s := by
  refine Fun.pure ?_ rfl rfl s
  generalize h : isL c = b
  unfold isL at h
  unfold S0
  refine Fun.go has_lex_letter rfl fun B Q hB hQ => ?_
  have hlt : 0 < 1 := Nat.zero_lt_one
  have hget : 0 < 1 := Nat.zero_lt_one
  have hpu : 0 < 1 := Nat.zero_lt_one
  have hinc : 0 < 1 := Nat.zero_lt_one
  repeat' (first
 | simp only [go_sem, hlt, hget, hpu, hinc, Int.reduceLE, ↓reduceIte, reduceCtorEq, Nat.reduceEqDiff, Nat.reduceLeDiff, Nat.reduceAdd, Nat.reduceMul, Nat.reduceSub, Nat.reduceLT]
 | (with_reducible first | refine CB_ofT (by assumption) fun hc => ?_ | refine CB_ofF (by assumption) fun hc => ?_ | refine CB_split (fun hc => ?_) fun hc => ?_) <;> (try simp only [hc, bs, ↓reduceIte] at h) <;> (try simp only [hc])
 | ((with_reducible first | refine leafR hQ ?_ | refine leafN hQ ?_); (try cases h); simp only [resL, oneD, Option.some.injEq, exists_eq_left', go_sem, hlt, hget, hpu, hinc, Int.reduceLE, ↓reduceIte, reduceCtorEq, Nat.reduceEqDiff, Nat.reduceLeDiff, Nat.reduceAdd, Nat.reduceMul, Nat.reduceSub, Nat.reduceLT]; repeat' (first | exact Ok.out | with_reducible refine And.intro ?_ ?_ | (simp; done)))
 | (cases h; replace h := hr; clear hr; (try simp only [bs, ↓reduceIte] at h))
 | (cases h; done))

theorem digit_s (c : UInt8) (s : St) : Fun Tryd.prog n_lex_digit [.int .u8 (c.toNat : Int)] s (.bool (isD c)) s := by
  refine Fun.pure ?_ rfl rfl s
  generalize h : isD c = b
  unfold isD at h
  unfold S0
  refine Fun.go has_lex_digit rfl fun B Q hB hQ => ?_
  have hlt : 0 < 1 := Nat.zero_lt_one
  have hget : 0 < 1 := Nat.zero_lt_one
  have hpu : 0 < 1 := Nat.zero_lt_one
  have hinc : 0 < 1 := Nat.zero_lt_one
  repeat' (first
 | simp only [go_sem, hlt, hget, hpu, hinc, Int.reduceLE, ↓reduceIte, reduceCtorEq, Nat.reduceEqDiff, Nat.reduceLeDiff, Nat.reduceAdd, Nat.reduceMul, Nat.reduceSub, Nat.reduceLT]
 | (with_reducible first | refine CB_ofT (by assumption) fun hc => ?_ | refine CB_ofF (by assumption) fun hc => ?_ | refine CB_split (fun hc => ?_) fun hc => ?_) <;> (try simp only [hc, bs, ↓reduceIte] at h) <;> (try simp only [hc])
 | ((with_reducible first | refine leafR hQ ?_ | refine leafN hQ ?_); (try cases h); simp only [resL, oneD, Option.some.injEq, exists_eq_left', go_sem, hlt, hget, hpu, hinc, Int.reduceLE, ↓reduceIte, reduceCtorEq, Nat.reduceEqDiff, Nat.reduceLeDiff, Nat.reduceAdd, Nat.reduceMul, Nat.reduceSub, Nat.reduceLT]; repeat' (first | exact Ok.out | with_reducible refine And.intro ?_ ?_ | (simp; done)))
 | (cases h; replace h := hr; clear hr; (try simp only [bs, ↓reduceIte] at h))
 | (cases h; done))

theorem word_s (t : Str) (s : St) : Fun Tryd.prog n_lex_Word [.str t] s (.bool (isWord t)) s := by
  refine Fun.pure ?_ rfl rfl s
  generalize h : isWord t = b
  unfold isWord at h
  unfold S0
  refine Fun.go has_lex_Word rfl fun B Q hB hQ => ?_
  have hlt : 0 < 1 := Nat.zero_lt_one
  have hget : 0 < 1 := Nat.zero_lt_one
  have hpu : 0 < 1 := Nat.zero_lt_one
  have hinc : 0 < 1 := Nat.zero_lt_one
  repeat' (first
 | simp only [go_sem, hlt, hget, hpu, hinc, Int.reduceLE, ↓reduceIte, reduceCtorEq, Nat.reduceEqDiff, Nat.reduceLeDiff, Nat.reduceAdd, Nat.reduceMul, Nat.reduceSub, Nat.reduceLT]
 | (with_reducible first | refine CB_ofT (by assumption) fun hc => ?_ | refine CB_ofF (by assumption) fun hc => ?_ | refine CB_split (fun hc => ?_) fun hc => ?_) <;> (try simp only [hc, bs, ↓reduceIte] at h) <;> (try simp only [hc])
 | ((with_reducible first | refine leafR hQ ?_ | refine leafN hQ ?_); (try cases h); simp only [resL, oneD, Option.some.injEq, exists_eq_left', go_sem, hlt, hget, hpu, hinc, Int.reduceLE, ↓reduceIte, reduceCtorEq, Nat.reduceEqDiff, Nat.reduceLeDiff, Nat.reduceAdd, Nat.reduceMul, Nat.reduceSub, Nat.reduceLT]; repeat' (first | exact Ok.out | with_reducible refine And.intro ?_ ?_ | (simp; done)))
 | (cases h; replace h := hr; clear hr; (try simp only [bs, ↓reduceIte] at h))
 | (cases h; done))

theorem run_s {text : Str} {pos : Nat} (hl : text.length < 4611686018427387904) (s : St) : Fun Tryd.prog n_lex_run [.str text, .int .i64 (pos : Int)] s (.int .i64 ((pos + runL (text.drop pos) : Nat) : Int)) s := by
  refine Fun.pure ?_ rfl rfl s
  unfold S0
  refine Fun.go has_lex_run rfl fun B Q hB hQ => ?_
  have hlt : 0 < 1 := Nat.zero_lt_one
  have hget : 0 < 1 := Nat.zero_lt_one
  have hpu : 0 < 1 := Nat.zero_lt_one
  have hinc : 0 < 1 := Nat.zero_lt_one
  repeat' (first
 | simp only [go_sem, hlt, hget, hpu, hinc, Int.reduceLE, ↓reduceIte, reduceCtorEq, Nat.reduceEqDiff, Nat.reduceLeDiff, Nat.reduceAdd, Nat.reduceMul, Nat.reduceSub, Nat.reduceLT]
 | (with_reducible first | refine CB_ofT (by assumption) fun hc => ?_ | refine CB_ofF (by assumption) fun hc => ?_ | refine CB_split (fun hc => ?_) fun hc => ?_) <;> (try simp only [hc, bs, ↓reduceIte] at h) <;> (try simp only [hc])
 | ((with_reducible first | refine leafR hQ ?_ | refine leafN hQ ?_); (try cases h); simp only [resL, oneD, Option.some.injEq, exists_eq_left', go_sem, hlt, hget, hpu, hinc, Int.reduceLE, ↓reduceIte, reduceCtorEq, Nat.reduceEqDiff, Nat.reduceLeDiff, Nat.reduceAdd, Nat.reduceMul, Nat.reduceSub, Nat.reduceLT]; repeat' (first | exact Ok.out | with_reducible refine And.intro ?_ ?_ | (simp; done)))
 | (cases h; replace h := hr; clear hr; (try simp only [bs, ↓reduceIte] at h))
 | (cases h; done))
  refine SemL.re _ _ 0 0 (by rw [hB]; exact Nat.le_of_ble_eq_true rfl) (by rw [hB]; exact Nat.le_of_ble_eq_true rfl) ?_ ?_ (SemL.ind (ι := Str × Nat) (fun i => text.drop i.2 = i.1 ∧ i.2 + runL i.1 = pos + runL (text.drop pos)) (fun i => i.1.length)
    (fun i => [(0, .str text), (1, .int .i64 (i.2 : Int))]) (fun i => ⟨[], []⟩) ?_ (text.drop pos, pos) ⟨rfl, rfl⟩)
  · (simp only [go_sem, hlt, hget, hpu, hinc, Int.reduceLE, ↓reduceIte, reduceCtorEq, Nat.reduceEqDiff, Nat.reduceLeDiff, Nat.reduceAdd, Nat.reduceMul, Nat.reduceSub, Nat.reduceLT]; repeat' (first | exact Ok.out | with_reducible refine And.intro ?_ ?_))
  · (simp only [go_sem, hlt, hget, hpu, hinc, Int.reduceLE, ↓reduceIte, reduceCtorEq, Nat.reduceEqDiff, Nat.reduceLeDiff, Nat.reduceAdd, Nat.reduceMul, Nat.reduceSub, Nat.reduceLT]; repeat' (first | exact Ok.out | with_reducible refine And.intro ?_ ?_))
  rintro ⟨rest, k⟩ ⟨h1, h2⟩ IH
  dsimp only at h1 h2
  cases rest with
  | nil =>
    have hlt := drop_nil h1
    simp only [runL, Nat.add_zero] at h2
    rw [← h2] at hQ
    repeat' (first
 | simp only [go_sem, hlt, hget, hpu, hinc, Int.reduceLE, ↓reduceIte, reduceCtorEq, Nat.reduceEqDiff, Nat.reduceLeDiff, Nat.reduceAdd, Nat.reduceMul, Nat.reduceSub, Nat.reduceLT]
 | (with_reducible first | refine CB_ofT (by assumption) fun hc => ?_ | refine CB_ofF (by assumption) fun hc => ?_ | refine CB_split (fun hc => ?_) fun hc => ?_) <;> (try simp only [hc, bs, ↓reduceIte] at h) <;> (try simp only [hc])
 | ((with_reducible first | refine leafR hQ ?_ | refine leafN hQ ?_); (try cases h); simp only [resL, oneD, Option.some.injEq, exists_eq_left', go_sem, hlt, hget, hpu, hinc, Int.reduceLE, ↓reduceIte, reduceCtorEq, Nat.reduceEqDiff, Nat.reduceLeDiff, Nat.reduceAdd, Nat.reduceMul, Nat.reduceSub, Nat.reduceLT]; repeat' (first | exact Ok.out | with_reducible refine And.intro ?_ ?_ | (simp; done)))
 | (cases h; replace h := hr; clear hr; (try simp only [bs, ↓reduceIte] at h))
 | (cases h; done))
  | cons c rest =>
    obtain ⟨hget, g2, hlt, g4⟩ := drop_cons h1
    have hpu : k < 4611686018427387904 := by omega
    cases hb : (isL c || isD c)
    · simp only [runL, hb, Bool.false_eq_true, ↓reduceIte, Nat.add_zero] at h2
      rw [← h2] at hQ
      simp only [Bool.or_eq_false_iff] at hb
      repeat' (first
 | simp only [go_sem, hlt, hget, hpu, hinc, Int.reduceLE, ↓reduceIte, reduceCtorEq, Nat.reduceEqDiff, Nat.reduceLeDiff, Nat.reduceAdd, Nat.reduceMul, Nat.reduceSub, Nat.reduceLT, hb.1, hb.2]
 | (with_reducible refine CU (letter_s _ _) ?_)
 | (with_reducible refine CU (digit_s _ _) ?_)
 | (with_reducible first | refine CB_ofT (by assumption) fun hc => ?_ | refine CB_ofF (by assumption) fun hc => ?_ | refine CB_split (fun hc => ?_) fun hc => ?_) <;> (try simp only [hc, bs, ↓reduceIte] at h) <;> (try simp only [hc])
 | ((with_reducible first | refine leafR hQ ?_ | refine leafN hQ ?_); (try cases h); simp only [resL, oneD, Option.some.injEq, exists_eq_left', go_sem, hlt, hget, hpu, hinc, Int.reduceLE, ↓reduceIte, reduceCtorEq, Nat.reduceEqDiff, Nat.reduceLeDiff, Nat.reduceAdd, Nat.reduceMul, Nat.reduceSub, Nat.reduceLT, hb.1, hb.2]; repeat' (first | exact Ok.out | with_reducible refine And.intro ?_ ?_ | (simp; done)))
 | (cases h; replace h := hr; clear hr; (try simp only [bs, ↓reduceIte] at h))
 | (cases h; done))
    · simp only [runL, hb, ↓reduceIte] at h2
      cases hb1 : isL c
      · rw [hb1, Bool.false_or] at hb
        repeat' (first
 | simp only [go_sem, hlt, hget, hpu, hinc, Int.reduceLE, ↓reduceIte, reduceCtorEq, Nat.reduceEqDiff, Nat.reduceLeDiff, Nat.reduceAdd, Nat.reduceMul, Nat.reduceSub, Nat.reduceLT, hb, hb1]
 | (with_reducible refine CU (letter_s _ _) ?_)
 | (with_reducible refine CU (digit_s _ _) ?_)
 | (with_reducible first | refine CB_ofT (by assumption) fun hc => ?_ | refine CB_ofF (by assumption) fun hc => ?_ | refine CB_split (fun hc => ?_) fun hc => ?_) <;> (try simp only [hc, bs, ↓reduceIte] at h) <;> (try simp only [hc])
 | ((with_reducible first | refine leafR hQ ?_ | refine leafN hQ ?_); (try cases h); simp only [resL, oneD, Option.some.injEq, exists_eq_left', go_sem, hlt, hget, hpu, hinc, Int.reduceLE, ↓reduceIte, reduceCtorEq, Nat.reduceEqDiff, Nat.reduceLeDiff, Nat.reduceAdd, Nat.reduceMul, Nat.reduceSub, Nat.reduceLT, hb, hb1]; repeat' (first | exact Ok.out | with_reducible refine And.intro ?_ ?_ | (simp; done)))
 | (cases h; replace h := hr; clear hr; (try simp only [bs, ↓reduceIte] at h))
 | (cases h; done))
        refine SemL.re _ _ 0 0 (by rw [hB]; exact Nat.le_of_ble_eq_true rfl) (by rw [hB]; exact Nat.le_of_ble_eq_true rfl) ?_ ?_ (IH (rest, k + 1) ⟨g2, by dsimp only; omega⟩ (Nat.lt_succ_self _))
        · (simp only [go_sem, hlt, hget, hpu, hinc, Int.reduceLE, ↓reduceIte, reduceCtorEq, Nat.reduceEqDiff, Nat.reduceLeDiff, Nat.reduceAdd, Nat.reduceMul, Nat.reduceSub, Nat.reduceLT]; repeat' (first | exact Ok.out | with_reducible refine And.intro ?_ ?_))
        · (simp only [go_sem, hlt, hget, hpu, hinc, Int.reduceLE, ↓reduceIte, reduceCtorEq, Nat.reduceEqDiff, Nat.reduceLeDiff, Nat.reduceAdd, Nat.reduceMul, Nat.reduceSub, Nat.reduceLT]; repeat' (first | exact Ok.out | with_reducible refine And.intro ?_ ?_))
      · repeat' (first
 | simp only [go_sem, hlt, hget, hpu, hinc, Int.reduceLE, ↓reduceIte, reduceCtorEq, Nat.reduceEqDiff, Nat.reduceLeDiff, Nat.reduceAdd, Nat.reduceMul, Nat.reduceSub, Nat.reduceLT, hb1]
 | (with_reducible refine CU (letter_s _ _) ?_)
 | (with_reducible refine CU (digit_s _ _) ?_)
 | (with_reducible first | refine CB_ofT (by assumption) fun hc => ?_ | refine CB_ofF (by assumption) fun hc => ?_ | refine CB_split (fun hc => ?_) fun hc => ?_) <;> (try simp only [hc, bs, ↓reduceIte] at h) <;> (try simp only [hc])
 | ((with_reducible first | refine leafR hQ ?_ | refine leafN hQ ?_); (try cases h); simp only [resL, oneD, Option.some.injEq, exists_eq_left', go_sem, hlt, hget, hpu, hinc, Int.reduceLE, ↓reduceIte, reduceCtorEq, Nat.reduceEqDiff, Nat.reduceLeDiff, Nat.reduceAdd, Nat.reduceMul, Nat.reduceSub, Nat.reduceLT, hb1]; repeat' (first | exact Ok.out | with_reducible refine And.intro ?_ ?_ | (simp; done)))
 | (cases h; replace h := hr; clear hr; (try simp only [bs, ↓reduceIte] at h))
 | (cases h; done))
        refine SemL.re _ _ 0 0 (by rw [hB]; exact Nat.le_of_ble_eq_true rfl) (by rw [hB]; exact Nat.le_of_ble_eq_true rfl) ?_ ?_ (IH (rest, k + 1) ⟨g2, by dsimp only; omega⟩ (Nat.lt_succ_self _))
        · (simp only [go_sem, hlt, hget, hpu, hinc, Int.reduceLE, ↓reduceIte, reduceCtorEq, Nat.reduceEqDiff, Nat.reduceLeDiff, Nat.reduceAdd, Nat.reduceMul, Nat.reduceSub, Nat.reduceLT]; repeat' (first | exact Ok.out | with_reducible refine And.intro ?_ ?_))
        · (simp only [go_sem, hlt, hget, hpu, hinc, Int.reduceLE, ↓reduceIte, reduceCtorEq, Nat.reduceEqDiff, Nat.reduceLeDiff, Nat.reduceAdd, Nat.reduceMul, Nat.reduceSub, Nat.reduceLT]; repeat' (first | exact Ok.out | with_reducible refine And.intro ?_ ?_))

/-- What a text of digits is worth. -/
def worthP (s : Str) : Int × Bool := match worth 0 s with | some n => (n, true) | none => (0, false)

end Go.Abs

/-! Lex2 -/

namespace Go.Abs

set_option maxRecDepth 8000
set_option linter.unusedSimpArgs false
set_option linter.unusedVariables false
open Go.Proofs

def encF (f : Int × Int) : List D := [.int .i64 f.1, .int .i64 f.2]

/-- At the label ahead of the next token. -/
def lexTM (text : Str) (out : List Tok) (pos : Nat) : Tm := [(0, .str text), (3, .ptr 0 0), (4, .slice (.tok 0) 4 (out.map encTok)), (5, .ptr 1 0), (6, .int .i64 (pos : Int))]
def lexST (out : List Tok) : St := ⟨[[.int .i64 0, .int .i64 0], [.junk, .junk, .junk, .junk]], [some out.length]⟩

/-- On to the next token. -/
def LexGo (text : Str) (B : Base) (Q : Exit → Tm → St → Prop) (p : List Tok × Int × Int) (N : Nat) : Prop :=
  ∀ (n pos : Nat) (rest : Str) (out : List Tok), text.drop pos = rest → lexF n pos rest out = p → rest.length < n → out.length ≤ 2000 → pos ≤ text.length → n < N →
    SemS Tryd.prog B 152 QPP (.seq .skip QPK) Q (lexTM text out pos) (lexST out)

attribute [go_sem] lexTM lexST encF
end Go.Abs

/-! RefLex1 -/

namespace Go.Abs

set_option maxRecDepth 8000
set_option linter.unusedSimpArgs false
set_option linter.unusedVariables false
open Go.Proofs

theorem Rsmall_s (c : UInt8) (s : St) : Fun Tryd.prog n_ref1_small [.int .u8 (c.toNat : Int)] s (.bool (isL c)) s := by
  refine Fun.pure ?_ rfl rfl s
  generalize h : isL c = b
  unfold isL at h
  unfold S0
  refine Fun.go has_ref1_small rfl fun B Q hB hQ => ?_
  have hlt : 0 < 1 := Nat.zero_lt_one
  have hget : 0 < 1 := Nat.zero_lt_one
  have hpu : 0 < 1 := Nat.zero_lt_one
  have hinc : 0 < 1 := Nat.zero_lt_one
  repeat' (first
 | simp only [go_sem, hlt, hget, hpu, hinc, Int.reduceLE, ↓reduceIte, reduceCtorEq, Nat.reduceEqDiff, Nat.reduceLeDiff, Nat.reduceAdd, Nat.reduceMul, Nat.reduceSub, Nat.reduceLT]
 | (with_reducible first | refine CB_ofT (by assumption) fun hc => ?_ | refine CB_ofF (by assumption) fun hc => ?_ | refine CB_split (fun hc => ?_) fun hc => ?_) <;> (try simp only [hc, bs, ↓reduceIte] at h) <;> (try simp only [hc])
 | ((with_reducible first | refine leafR hQ ?_ | refine leafN hQ ?_); (try cases h); simp only [resL, oneD, Option.some.injEq, exists_eq_left', go_sem, hlt, hget, hpu, hinc, Int.reduceLE, ↓reduceIte, reduceCtorEq, Nat.reduceEqDiff, Nat.reduceLeDiff, Nat.reduceAdd, Nat.reduceMul, Nat.reduceSub, Nat.reduceLT]; repeat' (first | exact Ok.out | with_reducible refine And.intro ?_ ?_ | (simp; done)))
 | (cases h; replace h := hr; clear hr; (try simp only [bs, ↓reduceIte] at h))
 | (cases h; done))

theorem Rdigit_s (c : UInt8) (s : St) : Fun Tryd.prog n_ref1_digit [.int .u8 (c.toNat : Int)] s (.bool (isD c)) s := by
  refine Fun.pure ?_ rfl rfl s
  generalize h : isD c = b
  unfold isD at h
  unfold S0
  refine Fun.go has_ref1_digit rfl fun B Q hB hQ => ?_
  have hlt : 0 < 1 := Nat.zero_lt_one
  have hget : 0 < 1 := Nat.zero_lt_one
  have hpu : 0 < 1 := Nat.zero_lt_one
  have hinc : 0 < 1 := Nat.zero_lt_one
  repeat' (first
 | simp only [go_sem, hlt, hget, hpu, hinc, Int.reduceLE, ↓reduceIte, reduceCtorEq, Nat.reduceEqDiff, Nat.reduceLeDiff, Nat.reduceAdd, Nat.reduceMul, Nat.reduceSub, Nat.reduceLT]
 | (with_reducible first | refine CB_ofT (by assumption) fun hc => ?_ | refine CB_ofF (by assumption) fun hc => ?_ | refine CB_split (fun hc => ?_) fun hc => ?_) <;> (try simp only [hc, bs, ↓reduceIte] at h) <;> (try simp only [hc])
 | ((with_reducible first | refine leafR hQ ?_ | refine leafN hQ ?_); (try cases h); simp only [resL, oneD, Option.some.injEq, exists_eq_left', go_sem, hlt, hget, hpu, hinc, Int.reduceLE, ↓reduceIte, reduceCtorEq, Nat.reduceEqDiff, Nat.reduceLeDiff, Nat.reduceAdd, Nat.reduceMul, Nat.reduceSub, Nat.reduceLT]; repeat' (first | exact Ok.out | with_reducible refine And.intro ?_ ?_ | (simp; done)))
 | (cases h; replace h := hr; clear hr; (try simp only [bs, ↓reduceIte] at h))
 | (cases h; done))

theorem Words_s (s : St) : Fun Tryd.prog n_ref1_Words [] s (.slice .shared 1 [[.str [103, 108, 111, 98, 97, 108]], [.str [112, 114, 111, 99]], [.str [118, 97, 114]], [.str [114, 101, 102]], [.str [105, 102]], [.str [101, 108, 115, 101]], [.str [119, 104, 105, 108, 101]], [.str [98, 114, 101, 97, 107]], [.str [99, 111, 110, 116, 105, 110, 117, 101]], [.str [114, 101, 116, 117, 114, 110]], [.str [103, 111, 116, 111]], [.str [114, 101, 97, 100]], [.str [112, 114, 105, 110, 116]]]) s := by
  refine Fun.pure ?_ rfl rfl s
  unfold S0
  refine Fun.go has_ref1_Words rfl fun B Q hB hQ => ?_
  have hlt : 0 < 1 := Nat.zero_lt_one
  have hget : 0 < 1 := Nat.zero_lt_one
  have hpu : 0 < 1 := Nat.zero_lt_one
  have hinc : 0 < 1 := Nat.zero_lt_one
  repeat' (first
 | simp only [go_sem, hlt, hget, hpu, hinc, Int.reduceLE, ↓reduceIte, reduceCtorEq, Nat.reduceEqDiff, Nat.reduceLeDiff, Nat.reduceAdd, Nat.reduceMul, Nat.reduceSub, Nat.reduceLT]
 | (with_reducible first | refine CB_ofT (by assumption) fun hc => ?_ | refine CB_ofF (by assumption) fun hc => ?_ | refine CB_split (fun hc => ?_) fun hc => ?_) <;> (try simp only [hc, bs, ↓reduceIte] at h) <;> (try simp only [hc])
 | ((with_reducible first | refine leafR hQ ?_ | refine leafN hQ ?_); (try cases h); simp only [resL, oneD, Option.some.injEq, exists_eq_left', go_sem, hlt, hget, hpu, hinc, Int.reduceLE, ↓reduceIte, reduceCtorEq, Nat.reduceEqDiff, Nat.reduceLeDiff, Nat.reduceAdd, Nat.reduceMul, Nat.reduceSub, Nat.reduceLT]; repeat' (first | exact Ok.out | with_reducible refine And.intro ?_ ?_ | (simp; done)))
 | (cases h; replace h := hr; clear hr; (try simp only [bs, ↓reduceIte] at h))
 | (cases h; done))

def isWordR (s : Str) : Bool :=
  [103, 108, 111, 98, 97, 108] == s || [112, 114, 111, 99] == s || [118, 97, 114] == s || [114, 101, 102] == s || [105, 102] == s || [101, 108, 115, 101] == s || [119, 104, 105, 108, 101] == s || [98, 114, 101, 97, 107] == s || [99, 111, 110, 116, 105, 110, 117, 101] == s || [114, 101, 116, 117, 114, 110] == s || [103, 111, 116, 111] == s || [114, 101, 97, 100] == s || [112, 114, 105, 110, 116] == s
theorem isWordR_eq (s : Str) : isWordR s = isWord s := by
  have e : ∀ a : Str, (a == s) = (s == a) := fun a => BEq.comm
  simp only [isWordR, isWord, e]

theorem RWord_s (text : Str) (s : St) : Fun Tryd.prog n_ref1_Word [.str text] s (.bool (isWord text)) s := by
  refine Fun.pure ?_ rfl rfl s
  rw [← isWordR_eq]
  generalize h : isWordR text = p
  unfold isWordR at h
  unfold S0
  refine Fun.go has_ref1_Word rfl fun B Q hB hQ => ?_
  have hlt : 0 < 1 := Nat.zero_lt_one
  have hget : 0 < 1 := Nat.zero_lt_one
  have hpu : 0 < 1 := Nat.zero_lt_one
  have hinc : 0 < 1 := Nat.zero_lt_one
  repeat' (first
 | simp only [go_sem, hlt, hget, hpu, hinc, Int.reduceLE, ↓reduceIte, reduceCtorEq, Nat.reduceEqDiff, Nat.reduceLeDiff, Nat.reduceAdd, Nat.reduceMul, Nat.reduceSub, Nat.reduceLT, Int.cast_ofNat_Int, wrap_ok, Int.reduceAdd, Int.reduceLT, Int.reduceNeg, decide_true, decide_false, Int.reduceToNat]
 | (with_reducible refine CU (Words_s _) ?_)
 | (with_reducible refine SemL.onceW ?_)
 | (with_reducible first | refine CB_ofT (by assumption) fun hc => ?_ | refine CB_ofF (by assumption) fun hc => ?_ | refine CB_split (fun hc => ?_) fun hc => ?_) <;> (try simp only [hc, bs, ↓reduceIte] at h) <;> (try simp only [hc])
 | ((with_reducible first | refine leafR hQ ?_ | refine leafN hQ ?_); (try cases h); simp only [resL, oneD, Option.some.injEq, exists_eq_left', go_sem, hlt, hget, hpu, hinc, Int.reduceLE, ↓reduceIte, reduceCtorEq, Nat.reduceEqDiff, Nat.reduceLeDiff, Nat.reduceAdd, Nat.reduceMul, Nat.reduceSub, Nat.reduceLT, Int.cast_ofNat_Int, wrap_ok, Int.reduceAdd, Int.reduceLT, Int.reduceNeg, decide_true, decide_false, Int.reduceToNat]; repeat' (first | exact Ok.out | with_reducible refine And.intro ?_ ?_ | (simp; done)))
 | (cases h; replace h := hr; clear hr; (try simp only [bs, ↓reduceIte] at h))
 | (cases h; done))

end Go.Abs

/-! Prs2 -/

namespace Go.Abs

set_option maxRecDepth 8000
set_option linter.unusedSimpArgs false
set_option linter.unusedVariables false
open Go.Proofs

def OpR (p : Int × Int) : Prop := 0 ≤ p.2 ∧ p.2 ≤ 6
abbrev C_one (m : Nat) : Prop := ∀ {r : Rd} {p : Ex × Rd}, Rd.one m r = some p → ∀ {s : St} {o : Nat}, s.objs[o]? = some (encRd r) → Fun Tryd.prog n_parse_reader_one [.ptr o 0] s (.agg (encEx p.1)) ⟨s.objs.set o (encRd p.2), s.toks⟩
abbrev C_two (m : Nat) : Prop := ∀ {k : Int} {r : Rd} {p : Ex × Rd}, Rd.two m k r = some p → ∀ {s : St} {o : Nat}, s.objs[o]? = some (encRd r) → Fun Tryd.prog n_parse_reader_two [.ptr o 0, .int .i64 k] s (.agg (encEx p.1)) ⟨s.objs.set o (encRd p.2), s.toks⟩

end Go.Abs

/-! Ref1 -/

namespace Go.Abs
set_option linter.unusedSimpArgs false
set_option linter.unusedVariables false
open Go.Proofs

/-- The reader's cells; what the last one holds is left open. -/
@[go_sem] def encRc (z : D) (r : Rd) : List D := [.slice .shared 4 (r.l.map encTok), .int .i64 r.i, .int .i64 r.code, .int .i64 r.fat, z]
/-- A plain cell. -/
class Cell (z : D) : Prop where
  ok : D.ok 0 0 z = true
  fg : ∀ n m, D.fg n m z = z
instance (n : Int) : Cell (.int .i64 n) := ⟨rfl, fun _ _ => rfl⟩
instance : Cell .junk := ⟨rfl, fun _ _ => rfl⟩
theorem Cell_fg (z : D) [h : Cell z] (n m : Nat) : D.fg n m z = z := h.fg n m
attribute [go_sem] Cell_fg
/-- Does a word or a sign come, and has there been no fault? -/
def Rd.isO (text : Str) (r : Rd) : Option Bool := if r.good then r.is text else some false

end Go.Abs

/-! Ref2 -/

namespace Go.Abs

set_option maxRecDepth 8000
set_option linter.unusedSimpArgs false
set_option linter.unusedVariables false
open Go.Proofs

def bindsR (s : Str) : Int × Int :=
  if [42] == s then (6, 5) else if [47] == s then (6, 6) else if [37] == s then (6, 7) else if [43] == s then (5, 8) else if [45] == s then (5, 9)
  else if [60] == s then (4, 10) else if [60, 61] == s then (4, 11) else if [62] == s then (4, 12) else if [62, 61] == s then (4, 13)
  else if [61, 61] == s then (3, 14) else if [33, 61] == s then (3, 15) else if [38, 38] == s then (2, 16) else if [124, 124] == s then (1, 17) else (0, 0)

/-- The same signs in the program's order. -/
theorem binds_op (t : Tok) (hk : t.kind = 4) : opOf t = ((bindsR t.text).2, (bindsR t.text).1) := by
  obtain ⟨kind, text, n, pos⟩ := t
  dsimp only at hk
  subst hk
  simp only [opOf]
  by_cases h1 : text = [42]
  · subst h1; rfl
  by_cases h2 : text = [47]
  · subst h2; rfl
  by_cases h3 : text = [37]
  · subst h3; rfl
  by_cases h4 : text = [43]
  · subst h4; rfl
  by_cases h5 : text = [45]
  · subst h5; rfl
  by_cases h6 : text = [60]
  · subst h6; rfl
  by_cases h7 : text = [60, 61]
  · subst h7; rfl
  by_cases h8 : text = [62]
  · subst h8; rfl
  by_cases h9 : text = [62, 61]
  · subst h9; rfl
  by_cases h10 : text = [61, 61]
  · subst h10; rfl
  by_cases h11 : text = [33, 61]
  · subst h11; rfl
  by_cases h12 : text = [38, 38]
  · subst h12; rfl
  by_cases h13 : text = [124, 124]
  · subst h13; rfl
  have e : ∀ c : Str, ¬ text = c → (text == c) = false := fun c h => by simpa using h
  have e' : ∀ c : Str, ¬ text = c → (c == text) = false := fun c h => by simpa using fun h' => h h'.symm
  simp only [bindsR, e _ h1, e _ h2, e _ h3, e _ h4, e _ h5, e _ h6, e _ h7, e _ h8, e _ h9, e _ h10, e _ h11, e _ h12, e _ h13, e' _ h1, e' _ h2, e' _ h3, e' _ h4, e' _ h5, e' _ h6, e' _ h7, e' _ h8, e' _ h9, e' _ h10, e' _ h11, e' _ h12, e' _ h13,
    Bool.false_eq_true, ↓reduceIte]
  rfl
def BZ (p : Int × Int) : Prop := (p.2 == 0) = (p.1 == 0)
end Go.Abs

/-! Ref3 -/

namespace Go.Abs

set_option maxRecDepth 8000
set_option linter.unusedSimpArgs false
set_option linter.unusedVariables false
open Go.Proofs

theorem deep_n : ∀ (most : Nat), most < 1000000 → ∀ x : Ex, x.size < 4611686018427387904 → ∀ s : St, Fun Tryd.prog n_ref3_deep [.agg (encEx x), .int .i64 (most : Int)] s (.int .i64 ((min x.depth (most + 1) : Nat) : Int)) s := by
  intro most
  induction most with
  | zero =>
    rintro _ ⟨op, m, name, kids⟩ hx s
    refine Fun.pure ?_ (by simp [D.oks, D.ok, okEx]) rfl s
    have hz : ((0 : Int) == 0) = true := rfl
    have e : min (Ex.depth ⟨op, m, name, kids⟩) (0 + 1) = 1 := by simp only [Ex.depth]; omega
    rw [e]
    unfold S0
    refine Fun.go has_ref3_deep rfl fun B Q hB hQ => ?_
    have hlt : 0 < 1 := Nat.zero_lt_one
    have hget : 0 < 1 := Nat.zero_lt_one
    have hpu : 0 < 1 := Nat.zero_lt_one
    have hinc : 0 < 1 := Nat.zero_lt_one
    repeat' (first
 | simp only [go_sem, hlt, hget, hpu, hinc, Int.reduceLE, ↓reduceIte, reduceCtorEq, Nat.reduceEqDiff, Nat.reduceLeDiff, Nat.reduceAdd, Nat.reduceMul, Nat.reduceSub, Nat.reduceLT, hz]
 | (with_reducible first | refine CB_ofT (by assumption) fun hc => ?_ | refine CB_ofF (by assumption) fun hc => ?_ | refine CB_split (fun hc => ?_) fun hc => ?_) <;> (try simp only [hc, bs, ↓reduceIte] at h) <;> (try simp only [hc])
 | ((with_reducible first | refine leafR hQ ?_ | refine leafN hQ ?_); (try cases h); simp only [resL, oneD, Option.some.injEq, exists_eq_left', go_sem, hlt, hget, hpu, hinc, Int.reduceLE, ↓reduceIte, reduceCtorEq, Nat.reduceEqDiff, Nat.reduceLeDiff, Nat.reduceAdd, Nat.reduceMul, Nat.reduceSub, Nat.reduceLT, hz]; repeat' (first | exact Ok.out | with_reducible refine And.intro ?_ ?_ | (simp; done)))
 | (cases h; replace h := hr; clear hr; (try simp only [bs, ↓reduceIte] at h))
 | (cases h; done))
  | succ most ih =>
    rintro hmost ⟨op, m, name, kids⟩ hx s
    refine Fun.pure ?_ (by simp [D.oks, D.ok, okEx]) rfl s
    have hlen : kids.length < 4611686018427387904 := by simp only [Ex.size] at hx; have := Ex.sizes_len kids; omega
    have hk : ∀ y ∈ kids, ∀ s, Fun Tryd.prog n_ref3_deep [.agg (encEx y), .int .i64 (most : Int)] s (.int .i64 ((min y.depth (most + 1) : Nat) : Int)) s := fun y hy s =>
      ih (by omega) y (by simp only [Ex.size] at hx; have := Ex.sizes_mem hy; omega) s
    have hz : (((most + 1 : Nat) : Int) == 0) = false := by simp; omega
    have w1 : IntKind.wrap .i64 (((most + 1 : Nat) : Int) - 1) = (most : Int) := by rw [wrap_ok] <;> omega
    unfold S0
    refine Fun.go has_ref3_deep rfl fun B Q hB hQ => ?_
    have hlt : 0 < 1 := Nat.zero_lt_one
    have hget : 0 < 1 := Nat.zero_lt_one
    have hpu : 0 < 1 := Nat.zero_lt_one
    have hinc : 0 < 1 := Nat.zero_lt_one
    repeat' (first
 | simp only [go_sem, hlt, hget, hpu, hinc, Int.reduceLE, ↓reduceIte, reduceCtorEq, Nat.reduceEqDiff, Nat.reduceLeDiff, Nat.reduceAdd, Nat.reduceMul, Nat.reduceSub, Nat.reduceLT, hz]
 | (with_reducible first | refine CB_ofT (by assumption) fun hc => ?_ | refine CB_ofF (by assumption) fun hc => ?_ | refine CB_split (fun hc => ?_) fun hc => ?_) <;> (try simp only [hc, bs, ↓reduceIte] at h) <;> (try simp only [hc])
 | ((with_reducible first | refine leafR hQ ?_ | refine leafN hQ ?_); (try cases h); simp only [resL, oneD, Option.some.injEq, exists_eq_left', go_sem, hlt, hget, hpu, hinc, Int.reduceLE, ↓reduceIte, reduceCtorEq, Nat.reduceEqDiff, Nat.reduceLeDiff, Nat.reduceAdd, Nat.reduceMul, Nat.reduceSub, Nat.reduceLT, hz]; repeat' (first | exact Ok.out | with_reducible refine And.intro ?_ ?_ | (simp; done)))
 | (cases h; replace h := hr; clear hr; (try simp only [bs, ↓reduceIte] at h))
 | (cases h; done))
    refine SemL.re _ _ 1 0 (by rw [hB]; exact Nat.le_of_ble_eq_true rfl) (by rw [hB]; exact Nat.le_of_ble_eq_true rfl) ?_ ?_ (SemL.ind (ι := List Ex × Nat × Nat) (fun i => kids.drop i.2.1 = i.1 ∧ i.2.2 ≤ most + 1 ∧ min (max i.2.2 (Ex.depths i.1)) (most + 1) = min (Ex.depths kids) (most + 1)) (fun i => i.1.length)
      (fun i => [(1, .int .i64 ((most + 1 : Nat) : Int)), (2, .ptr 0 0), (5, .int .i64 (i.2.2 : Int)), (6, .int .i64 (i.2.1 : Int))]) (fun i => ⟨[encEx ⟨op, m, name, kids⟩], []⟩) ?_ (kids, 0, 0) ⟨rfl, Nat.zero_le _, by simp⟩)
    · (simp only [go_sem, hlt, hget, hpu, hinc, Int.reduceLE, ↓reduceIte, reduceCtorEq, Nat.reduceEqDiff, Nat.reduceLeDiff, Nat.reduceAdd, Nat.reduceMul, Nat.reduceSub, Nat.reduceLT]; repeat' (first | exact Ok.out | with_reducible refine And.intro ?_ ?_))
    · (simp only [go_sem, hlt, hget, hpu, hinc, Int.reduceLE, ↓reduceIte, reduceCtorEq, Nat.reduceEqDiff, Nat.reduceLeDiff, Nat.reduceAdd, Nat.reduceMul, Nat.reduceSub, Nat.reduceLT]; repeat' (first | exact Ok.out | with_reducible refine And.intro ?_ ?_))
    rintro ⟨rest, k, d⟩ ⟨h1, h2, h3⟩ IH
    dsimp only at h1 h2 h3
    have hd : min (Ex.depth ⟨op, m, name, kids⟩) (most + 1 + 1) = min (Ex.depths kids) (most + 1) + 1 := by simp only [Ex.depth]; omega
    rw [hd, ← h3] at hQ
    have w2 : IntKind.wrap .i64 ((d : Int) + 1) = ((d + 1 : Nat) : Int) := by rw [wrap_ok] <;> omega
    by_cases hmax : d < most + 1
    · have c2 : decide ((d : Int) < ((most + 1 : Nat) : Int)) = true := by simp; omega
      cases rest with
      | nil =>
        have hlt := drop_nil h1
        simp only [Ex.depths, Nat.max_zero] at hQ
        have e : min d (most + 1) = d := by omega
        rw [e] at hQ
        repeat' (first
 | simp only [go_sem, hlt, hget, hpu, hinc, Int.reduceLE, ↓reduceIte, reduceCtorEq, Nat.reduceEqDiff, Nat.reduceLeDiff, Nat.reduceAdd, Nat.reduceMul, Nat.reduceSub, Nat.reduceLT, c2, w2]
 | (with_reducible first | refine CB_ofT (by assumption) fun hc => ?_ | refine CB_ofF (by assumption) fun hc => ?_ | refine CB_split (fun hc => ?_) fun hc => ?_) <;> (try simp only [hc, bs, ↓reduceIte] at h) <;> (try simp only [hc])
 | ((with_reducible first | refine leafR hQ ?_ | refine leafN hQ ?_); (try cases h); simp only [resL, oneD, Option.some.injEq, exists_eq_left', go_sem, hlt, hget, hpu, hinc, Int.reduceLE, ↓reduceIte, reduceCtorEq, Nat.reduceEqDiff, Nat.reduceLeDiff, Nat.reduceAdd, Nat.reduceMul, Nat.reduceSub, Nat.reduceLT, c2, w2]; repeat' (first | exact Ok.out | with_reducible refine And.intro ?_ ?_ | (simp; done)))
 | (cases h; replace h := hr; clear hr; (try simp only [bs, ↓reduceIte] at h))
 | (cases h; done))
      | cons y rest =>
        obtain ⟨hget, g2, hlt, g4⟩ := drop_cons h1
        have hy := hk y (List.mem_of_getElem? hget)
        simp only [Ex.depths] at h3
        have hk2 : k < 4611686018427387904 := by omega
        by_cases hgt : min y.depth (most + 1) > d
        · have c3 : decide (((min y.depth (most + 1) : Nat) : Int) > (d : Int)) = true := by simp only [decide_eq_true_eq]; omega
          repeat' (first
 | simp only [go_sem, hlt, hget, hpu, hinc, Int.reduceLE, ↓reduceIte, reduceCtorEq, Nat.reduceEqDiff, Nat.reduceLeDiff, Nat.reduceAdd, Nat.reduceMul, Nat.reduceSub, Nat.reduceLT, c2, w1, c3]
 | (with_reducible refine CU (hy _) ?_)
 | (with_reducible first | refine CB_ofT (by assumption) fun hc => ?_ | refine CB_ofF (by assumption) fun hc => ?_ | refine CB_split (fun hc => ?_) fun hc => ?_) <;> (try simp only [hc, bs, ↓reduceIte] at h) <;> (try simp only [hc])
 | ((with_reducible first | refine leafR hQ ?_ | refine leafN hQ ?_); (try cases h); simp only [resL, oneD, Option.some.injEq, exists_eq_left', go_sem, hlt, hget, hpu, hinc, Int.reduceLE, ↓reduceIte, reduceCtorEq, Nat.reduceEqDiff, Nat.reduceLeDiff, Nat.reduceAdd, Nat.reduceMul, Nat.reduceSub, Nat.reduceLT, c2, w1, c3]; repeat' (first | exact Ok.out | with_reducible refine And.intro ?_ ?_ | (simp; done)))
 | (cases h; replace h := hr; clear hr; (try simp only [bs, ↓reduceIte] at h))
 | (cases h; done))
          refine SemL.re _ _ 1 0 (by rw [hB]; exact Nat.le_of_ble_eq_true rfl) (by rw [hB]; exact Nat.le_of_ble_eq_true rfl) ?_ ?_ (IH (rest, k + 1, min y.depth (most + 1)) ⟨g2, by dsimp only; omega, by dsimp only; omega⟩ (Nat.lt_succ_self _))
          · (simp only [go_sem, hlt, hget, hpu, hinc, Int.reduceLE, ↓reduceIte, reduceCtorEq, Nat.reduceEqDiff, Nat.reduceLeDiff, Nat.reduceAdd, Nat.reduceMul, Nat.reduceSub, Nat.reduceLT, wrap_inc hk2]; repeat' (first | exact Ok.out | with_reducible refine And.intro ?_ ?_))
          · (simp only [go_sem, hlt, hget, hpu, hinc, Int.reduceLE, ↓reduceIte, reduceCtorEq, Nat.reduceEqDiff, Nat.reduceLeDiff, Nat.reduceAdd, Nat.reduceMul, Nat.reduceSub, Nat.reduceLT, wrap_inc hk2]; repeat' (first | exact Ok.out | with_reducible refine And.intro ?_ ?_))
        · have c3 : decide (((min y.depth (most + 1) : Nat) : Int) > (d : Int)) = false := by simp only [decide_eq_false_iff_not]; omega
          repeat' (first
 | simp only [go_sem, hlt, hget, hpu, hinc, Int.reduceLE, ↓reduceIte, reduceCtorEq, Nat.reduceEqDiff, Nat.reduceLeDiff, Nat.reduceAdd, Nat.reduceMul, Nat.reduceSub, Nat.reduceLT, c2, w1, c3]
 | (with_reducible refine CU (hy _) ?_)
 | (with_reducible first | refine CB_ofT (by assumption) fun hc => ?_ | refine CB_ofF (by assumption) fun hc => ?_ | refine CB_split (fun hc => ?_) fun hc => ?_) <;> (try simp only [hc, bs, ↓reduceIte] at h) <;> (try simp only [hc])
 | ((with_reducible first | refine leafR hQ ?_ | refine leafN hQ ?_); (try cases h); simp only [resL, oneD, Option.some.injEq, exists_eq_left', go_sem, hlt, hget, hpu, hinc, Int.reduceLE, ↓reduceIte, reduceCtorEq, Nat.reduceEqDiff, Nat.reduceLeDiff, Nat.reduceAdd, Nat.reduceMul, Nat.reduceSub, Nat.reduceLT, c2, w1, c3]; repeat' (first | exact Ok.out | with_reducible refine And.intro ?_ ?_ | (simp; done)))
 | (cases h; replace h := hr; clear hr; (try simp only [bs, ↓reduceIte] at h))
 | (cases h; done))
          refine SemL.re _ _ 1 0 (by rw [hB]; exact Nat.le_of_ble_eq_true rfl) (by rw [hB]; exact Nat.le_of_ble_eq_true rfl) ?_ ?_ (IH (rest, k + 1, d) ⟨g2, h2, by dsimp only; omega⟩ (Nat.lt_succ_self _))
          · (simp only [go_sem, hlt, hget, hpu, hinc, Int.reduceLE, ↓reduceIte, reduceCtorEq, Nat.reduceEqDiff, Nat.reduceLeDiff, Nat.reduceAdd, Nat.reduceMul, Nat.reduceSub, Nat.reduceLT, wrap_inc hk2]; repeat' (first | exact Ok.out | with_reducible refine And.intro ?_ ?_))
          · (simp only [go_sem, hlt, hget, hpu, hinc, Int.reduceLE, ↓reduceIte, reduceCtorEq, Nat.reduceEqDiff, Nat.reduceLeDiff, Nat.reduceAdd, Nat.reduceMul, Nat.reduceSub, Nat.reduceLT, wrap_inc hk2]; repeat' (first | exact Ok.out | with_reducible refine And.intro ?_ ?_))
    · have c2 : decide ((d : Int) < ((most + 1 : Nat) : Int)) = false := by simp; omega
      have e : min (max d (Ex.depths rest)) (most + 1) = d := by omega
      rw [e] at hQ
      cases rest with
      | nil =>
        have hlt := drop_nil h1
        repeat' (first
 | simp only [go_sem, hlt, hget, hpu, hinc, Int.reduceLE, ↓reduceIte, reduceCtorEq, Nat.reduceEqDiff, Nat.reduceLeDiff, Nat.reduceAdd, Nat.reduceMul, Nat.reduceSub, Nat.reduceLT, c2, w2]
 | (with_reducible first | refine CB_ofT (by assumption) fun hc => ?_ | refine CB_ofF (by assumption) fun hc => ?_ | refine CB_split (fun hc => ?_) fun hc => ?_) <;> (try simp only [hc, bs, ↓reduceIte] at h) <;> (try simp only [hc])
 | ((with_reducible first | refine leafR hQ ?_ | refine leafN hQ ?_); (try cases h); simp only [resL, oneD, Option.some.injEq, exists_eq_left', go_sem, hlt, hget, hpu, hinc, Int.reduceLE, ↓reduceIte, reduceCtorEq, Nat.reduceEqDiff, Nat.reduceLeDiff, Nat.reduceAdd, Nat.reduceMul, Nat.reduceSub, Nat.reduceLT, c2, w2]; repeat' (first | exact Ok.out | with_reducible refine And.intro ?_ ?_ | (simp; done)))
 | (cases h; replace h := hr; clear hr; (try simp only [bs, ↓reduceIte] at h))
 | (cases h; done))
      | cons y rest =>
        obtain ⟨hget, g2, hlt, g4⟩ := drop_cons h1
        repeat' (first
 | simp only [go_sem, hlt, hget, hpu, hinc, Int.reduceLE, ↓reduceIte, reduceCtorEq, Nat.reduceEqDiff, Nat.reduceLeDiff, Nat.reduceAdd, Nat.reduceMul, Nat.reduceSub, Nat.reduceLT, c2, w2]
 | (with_reducible first | refine CB_ofT (by assumption) fun hc => ?_ | refine CB_ofF (by assumption) fun hc => ?_ | refine CB_split (fun hc => ?_) fun hc => ?_) <;> (try simp only [hc, bs, ↓reduceIte] at h) <;> (try simp only [hc])
 | ((with_reducible first | refine leafR hQ ?_ | refine leafN hQ ?_); (try cases h); simp only [resL, oneD, Option.some.injEq, exists_eq_left', go_sem, hlt, hget, hpu, hinc, Int.reduceLE, ↓reduceIte, reduceCtorEq, Nat.reduceEqDiff, Nat.reduceLeDiff, Nat.reduceAdd, Nat.reduceMul, Nat.reduceSub, Nat.reduceLT, c2, w2]; repeat' (first | exact Ok.out | with_reducible refine And.intro ?_ ?_ | (simp; done)))
 | (cases h; replace h := hr; clear hr; (try simp only [bs, ↓reduceIte] at h))
 | (cases h; done))

theorem EqExpr_n : ∀ N, N < 4611686018427387904 → ∀ x y : Ex, x.size ≤ N → ∀ s : St, Fun Tryd.prog n_ref3_EqExpr [.agg (encEx x), .agg (encEx y)] s (.bool (Ex.beq x y)) s := by
  intro N
  induction N with
  | zero => rintro _ ⟨op, m, name, kids⟩ y h; simp only [Ex.size] at h; omega
  | succ N ih =>
  rintro hN ⟨op, m, name, kids⟩ ⟨op', m', name', kids'⟩ hx s
  refine Fun.pure ?_ (by simp [D.oks, D.ok, okEx]) rfl s
  have hk : ∀ a ∈ kids, ∀ b s, Fun Tryd.prog n_ref3_EqExpr [.agg (encEx a), .agg (encEx b)] s (.bool (Ex.beq a b)) s := fun a ha b s =>
    ih (by omega) a b (by simp only [Ex.size] at hx; have := Ex.sizes_mem ha; omega) s
  have hlen : kids.length < 4611686018427387904 := by simp only [Ex.size] at hx; have := Ex.sizes_len kids; omega
  generalize h : Ex.beq ⟨op, m, name, kids⟩ ⟨op', m', name', kids'⟩ = p
  simp only [Ex.beq] at h
  unfold S0
  refine Fun.go has_ref3_EqExpr rfl fun B Q hB hQ => ?_
  have hlt : 0 < 1 := Nat.zero_lt_one
  have hget : 0 < 1 := Nat.zero_lt_one
  have hpu : 0 < 1 := Nat.zero_lt_one
  have hinc : 0 < 1 := Nat.zero_lt_one
  repeat' (first
 | simp only [go_sem, hlt, hget, hpu, hinc, Int.reduceLE, ↓reduceIte, reduceCtorEq, Nat.reduceEqDiff, Nat.reduceLeDiff, Nat.reduceAdd, Nat.reduceMul, Nat.reduceSub, Nat.reduceLT]
 | (with_reducible first | refine CB_ofT (by assumption) fun hc => ?_ | refine CB_ofF (by assumption) fun hc => ?_ | refine CB_split (fun hc => ?_) fun hc => ?_) <;> (try simp only [hc, bs, ↓reduceIte] at h) <;> (try simp only [hc])
 | ((with_reducible first | refine leafR hQ ?_ | refine leafN hQ ?_); (try cases h); simp only [resL, oneD, Option.some.injEq, exists_eq_left', go_sem, hlt, hget, hpu, hinc, Int.reduceLE, ↓reduceIte, reduceCtorEq, Nat.reduceEqDiff, Nat.reduceLeDiff, Nat.reduceAdd, Nat.reduceMul, Nat.reduceSub, Nat.reduceLT]; repeat' (first | exact Ok.out | with_reducible refine And.intro ?_ ?_ | (simp; done)))
 | (cases h; replace h := hr; clear hr; (try simp only [bs, ↓reduceIte] at h))
 | (cases h; done))
  rename_i hl4
  have hl5 : kids.length = kids'.length := by
    have : ((kids.length : Int) != (kids'.length : Int)) = false := by assumption
    simp only [bne_eq_false_iff_eq] at this
    omega
  refine SemL.re _ _ 2 0 (by rw [hB]; exact Nat.le_of_ble_eq_true rfl) (by rw [hB]; exact Nat.le_of_ble_eq_true rfl) ?_ ?_ (SemL.ind (ι := List Ex × List Ex × Nat) (fun i => kids.drop i.2.2 = i.1 ∧ kids'.drop i.2.2 = i.2.1 ∧ Ex.beqs i.1 i.2.1 = p) (fun i => i.1.length)
    (fun i => [(2, .ptr 0 0), (3, .ptr 1 0), (36, .int .i64 (kids.length : Int)), (37, .int .i64 (i.2.2 : Int))]) (fun i => ⟨[encEx ⟨op, m, name, kids⟩, encEx ⟨op', m', name', kids'⟩], []⟩) ?_ (kids, kids', 0) ⟨rfl, rfl, h⟩)
  · (simp only [go_sem, hlt, hget, hpu, hinc, Int.reduceLE, ↓reduceIte, reduceCtorEq, Nat.reduceEqDiff, Nat.reduceLeDiff, Nat.reduceAdd, Nat.reduceMul, Nat.reduceSub, Nat.reduceLT]; repeat' (first | exact Ok.out | with_reducible refine And.intro ?_ ?_))
  · (simp only [go_sem, hlt, hget, hpu, hinc, Int.reduceLE, ↓reduceIte, reduceCtorEq, Nat.reduceEqDiff, Nat.reduceLeDiff, Nat.reduceAdd, Nat.reduceMul, Nat.reduceSub, Nat.reduceLT]; repeat' (first | exact Ok.out | with_reducible refine And.intro ?_ ?_))
  rintro ⟨r1, r2, k⟩ ⟨h1, h2, h⟩ IH
  dsimp only at h1 h2 h
  cases r1 with
  | nil =>
    have hlt := drop_nil h1
    simp only [Ex.beqs] at h
    repeat' (first
 | simp only [go_sem, hlt, hget, hpu, hinc, Int.reduceLE, ↓reduceIte, reduceCtorEq, Nat.reduceEqDiff, Nat.reduceLeDiff, Nat.reduceAdd, Nat.reduceMul, Nat.reduceSub, Nat.reduceLT]
 | (with_reducible first | refine CB_ofT (by assumption) fun hc => ?_ | refine CB_ofF (by assumption) fun hc => ?_ | refine CB_split (fun hc => ?_) fun hc => ?_) <;> (try simp only [hc, bs, ↓reduceIte] at h) <;> (try simp only [hc])
 | ((with_reducible first | refine leafR hQ ?_ | refine leafN hQ ?_); (try cases h); simp only [resL, oneD, Option.some.injEq, exists_eq_left', go_sem, hlt, hget, hpu, hinc, Int.reduceLE, ↓reduceIte, reduceCtorEq, Nat.reduceEqDiff, Nat.reduceLeDiff, Nat.reduceAdd, Nat.reduceMul, Nat.reduceSub, Nat.reduceLT]; repeat' (first | exact Ok.out | with_reducible refine And.intro ?_ ?_ | (simp; done)))
 | (cases h; replace h := hr; clear hr; (try simp only [bs, ↓reduceIte] at h))
 | (cases h; done))
  | cons a r1 =>
    obtain ⟨hget, g2, hlt, g4⟩ := drop_cons h1
    cases r2 with
    | nil => have := List.drop_eq_nil_iff.1 h2; omega
    | cons b r2 =>
      obtain ⟨hgb, b2, _, _⟩ := drop_cons h2
      have hk2 : k < 4611686018427387904 := by omega
      have hab := hk a (List.mem_of_getElem? hget)
      simp only [Ex.beqs] at h
      repeat' (first
 | simp only [go_sem, hlt, hget, hpu, hinc, Int.reduceLE, ↓reduceIte, reduceCtorEq, Nat.reduceEqDiff, Nat.reduceLeDiff, Nat.reduceAdd, Nat.reduceMul, Nat.reduceSub, Nat.reduceLT, hgb]
 | (with_reducible refine CU (hab _ _) ?_)
 | (with_reducible first | refine CB_ofT (by assumption) fun hc => ?_ | refine CB_ofF (by assumption) fun hc => ?_ | refine CB_split (fun hc => ?_) fun hc => ?_) <;> (try simp only [hc, bs, ↓reduceIte] at h) <;> (try simp only [hc])
 | ((with_reducible first | refine leafR hQ ?_ | refine leafN hQ ?_); (try cases h); simp only [resL, oneD, Option.some.injEq, exists_eq_left', go_sem, hlt, hget, hpu, hinc, Int.reduceLE, ↓reduceIte, reduceCtorEq, Nat.reduceEqDiff, Nat.reduceLeDiff, Nat.reduceAdd, Nat.reduceMul, Nat.reduceSub, Nat.reduceLT, hgb]; repeat' (first | exact Ok.out | with_reducible refine And.intro ?_ ?_ | (simp; done)))
 | (cases h; replace h := hr; clear hr; (try simp only [bs, ↓reduceIte] at h))
 | (cases h; done))
      refine SemL.re _ _ 2 0 (by rw [hB]; exact Nat.le_of_ble_eq_true rfl) (by rw [hB]; exact Nat.le_of_ble_eq_true rfl) ?_ ?_ (IH (r1, r2, k + 1) ⟨g2, b2, h⟩ (Nat.lt_succ_self _))
      · (simp only [go_sem, hlt, hget, hpu, hinc, Int.reduceLE, ↓reduceIte, reduceCtorEq, Nat.reduceEqDiff, Nat.reduceLeDiff, Nat.reduceAdd, Nat.reduceMul, Nat.reduceSub, Nat.reduceLT, wrap_inc hk2]; repeat' (first | exact Ok.out | with_reducible refine And.intro ?_ ?_))
      · (simp only [go_sem, hlt, hget, hpu, hinc, Int.reduceLE, ↓reduceIte, reduceCtorEq, Nat.reduceEqDiff, Nat.reduceLeDiff, Nat.reduceAdd, Nat.reduceMul, Nat.reduceSub, Nat.reduceLT, wrap_inc hk2]; repeat' (first | exact Ok.out | with_reducible refine And.intro ?_ ?_))

theorem EqExpr_s {x y : Ex} (hx : x.size < 4611686018427387904) (s : St) : Fun Tryd.prog n_ref3_EqExpr [.agg (encEx x), .agg (encEx y)] s (.bool (Ex.beq x y)) s := EqExpr_n _ hx x y (Nat.le_refl _) s

end Go.Abs

/-! RefMay1 -/

namespace Go.Abs

set_option maxRecDepth 8000
set_option linter.unusedSimpArgs false
set_option linter.unusedVariables false
open Go.Proofs

theorem RName_s (text : Str) (hl : text.length < 4611686018427387904) (s : St) : Fun Tryd.prog n_ref1_Name [.str text] s (.bool (isName text)) s := by
  refine Fun.pure ?_ rfl rfl s
  unfold S0
  cases text with
  | nil =>
    have e : (([] : Str) == []) = true := rfl
    refine Fun.go has_ref1_Name rfl fun B Q hB hQ => ?_
    have hlt : 0 < 1 := Nat.zero_lt_one
    have hget : 0 < 1 := Nat.zero_lt_one
    have hpu : 0 < 1 := Nat.zero_lt_one
    have hinc : 0 < 1 := Nat.zero_lt_one
    repeat' (first
 | simp only [go_sem, hlt, hget, hpu, hinc, Int.reduceLE, ↓reduceIte, reduceCtorEq, Nat.reduceEqDiff, Nat.reduceLeDiff, Nat.reduceAdd, Nat.reduceMul, Nat.reduceSub, Nat.reduceLT, e, isName]
 | (with_reducible first | refine CB_ofT (by assumption) fun hc => ?_ | refine CB_ofF (by assumption) fun hc => ?_ | refine CB_split (fun hc => ?_) fun hc => ?_) <;> (try simp only [hc, bs, ↓reduceIte] at h) <;> (try simp only [hc])
 | ((with_reducible first | refine leafR hQ ?_ | refine leafN hQ ?_); (try cases h); simp only [resL, oneD, Option.some.injEq, exists_eq_left', go_sem, hlt, hget, hpu, hinc, Int.reduceLE, ↓reduceIte, reduceCtorEq, Nat.reduceEqDiff, Nat.reduceLeDiff, Nat.reduceAdd, Nat.reduceMul, Nat.reduceSub, Nat.reduceLT, e, isName]; repeat' (first | exact Ok.out | with_reducible refine And.intro ?_ ?_ | (simp; done)))
 | (cases h; replace h := hr; clear hr; (try simp only [bs, ↓reduceIte] at h))
 | (cases h; done))
  | cons c r =>
    have e : ((c :: r) == []) = false := rfl
    generalize h : isName (c :: r) = p
    simp only [isName] at h
    refine Fun.go has_ref1_Name rfl fun B Q hB hQ => ?_
    have hlt : 0 < 1 := Nat.zero_lt_one
    have hget : 0 < 1 := Nat.zero_lt_one
    have hpu : 0 < 1 := Nat.zero_lt_one
    have hinc : 0 < 1 := Nat.zero_lt_one
    repeat' (first
 | simp only [go_sem, hlt, hget, hpu, hinc, Int.reduceLE, ↓reduceIte, reduceCtorEq, Nat.reduceEqDiff, Nat.reduceLeDiff, Nat.reduceAdd, Nat.reduceMul, Nat.reduceSub, Nat.reduceLT, e]
 | (with_reducible refine CU (Rsmall_s _ _) ?_)
 | (with_reducible first | refine CB_ofT (by assumption) fun hc => ?_ | refine CB_ofF (by assumption) fun hc => ?_ | refine CB_split (fun hc => ?_) fun hc => ?_) <;> (try simp only [hc, bs, ↓reduceIte] at h) <;> (try simp only [hc])
 | ((with_reducible first | refine leafR hQ ?_ | refine leafN hQ ?_); (try cases h); simp only [resL, oneD, Option.some.injEq, exists_eq_left', go_sem, hlt, hget, hpu, hinc, Int.reduceLE, ↓reduceIte, reduceCtorEq, Nat.reduceEqDiff, Nat.reduceLeDiff, Nat.reduceAdd, Nat.reduceMul, Nat.reduceSub, Nat.reduceLT, e]; repeat' (first | exact Ok.out | with_reducible refine And.intro ?_ ?_ | (simp; done)))
 | (cases h; replace h := hr; clear hr; (try simp only [bs, ↓reduceIte] at h))
 | (cases h; done))
    refine SemL.re _ _ 0 0 (by rw [hB]; exact Nat.le_of_ble_eq_true rfl) (by rw [hB]; exact Nat.le_of_ble_eq_true rfl) ?_ ?_ (SemL.ind (ι := Str × Nat) (fun i => (c :: r).drop i.2 = i.1 ∧ (if nameT i.1 then !(isWord (c :: r)) else false) = p) (fun i => i.1.length)
      (fun i => [(0, .str (c :: r)), (3, .int .i64 (i.2 : Int))]) (fun i => ⟨[], []⟩) ?_ (r, 1) ⟨rfl, h⟩)
    · (simp only [go_sem, hlt, hget, hpu, hinc, Int.reduceLE, ↓reduceIte, reduceCtorEq, Nat.reduceEqDiff, Nat.reduceLeDiff, Nat.reduceAdd, Nat.reduceMul, Nat.reduceSub, Nat.reduceLT]; repeat' (first | exact Ok.out | with_reducible refine And.intro ?_ ?_))
    · (simp only [go_sem, hlt, hget, hpu, hinc, Int.reduceLE, ↓reduceIte, reduceCtorEq, Nat.reduceEqDiff, Nat.reduceLeDiff, Nat.reduceAdd, Nat.reduceMul, Nat.reduceSub, Nat.reduceLT]; repeat' (first | exact Ok.out | with_reducible refine And.intro ?_ ?_))
    rintro ⟨rest, k⟩ ⟨h1, h⟩ IH
    dsimp only at h1 h
    cases rest with
    | nil =>
      have hlt := drop_nil h1
      simp only [List.length_cons] at hlt
      simp only [nameT, ↓reduceIte] at h
      repeat' (first
 | simp only [go_sem, hlt, hget, hpu, hinc, Int.reduceLE, ↓reduceIte, reduceCtorEq, Nat.reduceEqDiff, Nat.reduceLeDiff, Nat.reduceAdd, Nat.reduceMul, Nat.reduceSub, Nat.reduceLT]
 | (with_reducible refine CU (RWord_s _ _) ?_)
 | (with_reducible first | refine CB_ofT (by assumption) fun hc => ?_ | refine CB_ofF (by assumption) fun hc => ?_ | refine CB_split (fun hc => ?_) fun hc => ?_) <;> (try simp only [hc, bs, ↓reduceIte] at h) <;> (try simp only [hc])
 | ((with_reducible first | refine leafR hQ ?_ | refine leafN hQ ?_); (try cases h); simp only [resL, oneD, Option.some.injEq, exists_eq_left', go_sem, hlt, hget, hpu, hinc, Int.reduceLE, ↓reduceIte, reduceCtorEq, Nat.reduceEqDiff, Nat.reduceLeDiff, Nat.reduceAdd, Nat.reduceMul, Nat.reduceSub, Nat.reduceLT]; repeat' (first | exact Ok.out | with_reducible refine And.intro ?_ ?_ | (simp; done)))
 | (cases h; replace h := hr; clear hr; (try simp only [bs, ↓reduceIte] at h))
 | (cases h; done))
    | cons d rest =>
      obtain ⟨hget, g2, hlt, g4⟩ := drop_cons h1
      simp only [List.length_cons] at hlt
      have hpu : k < 4611686018427387904 := by omega
      simp only [nameT] at h
      repeat' (first
 | simp only [go_sem, hlt, hget, hpu, hinc, Int.reduceLE, ↓reduceIte, reduceCtorEq, Nat.reduceEqDiff, Nat.reduceLeDiff, Nat.reduceAdd, Nat.reduceMul, Nat.reduceSub, Nat.reduceLT]
 | (with_reducible refine CU (Rsmall_s _ _) ?_)
 | (with_reducible refine CU (Rdigit_s _ _) ?_)
 | (with_reducible first | refine CB_ofT (by assumption) fun hc => ?_ | refine CB_ofF (by assumption) fun hc => ?_ | refine CB_split (fun hc => ?_) fun hc => ?_) <;> (try simp only [hc, bs, ↓reduceIte] at h) <;> (try simp only [hc])
 | ((with_reducible first | refine leafR hQ ?_ | refine leafN hQ ?_); (try cases h); simp only [resL, oneD, Option.some.injEq, exists_eq_left', go_sem, hlt, hget, hpu, hinc, Int.reduceLE, ↓reduceIte, reduceCtorEq, Nat.reduceEqDiff, Nat.reduceLeDiff, Nat.reduceAdd, Nat.reduceMul, Nat.reduceSub, Nat.reduceLT]; repeat' (first | exact Ok.out | with_reducible refine And.intro ?_ ?_ | (simp; done)))
 | (cases h; replace h := hr; clear hr; (try simp only [bs, ↓reduceIte] at h))
 | (cases h; done))
      all_goals
        refine SemL.re _ _ 0 0 (by rw [hB]; exact Nat.le_of_ble_eq_true rfl) (by rw [hB]; exact Nat.le_of_ble_eq_true rfl) ?_ ?_ (IH (rest, k + 1) ⟨g2, h⟩ (Nat.lt_succ_self _))
        · (simp only [go_sem, hlt, hget, hpu, hinc, Int.reduceLE, ↓reduceIte, reduceCtorEq, Nat.reduceEqDiff, Nat.reduceLeDiff, Nat.reduceAdd, Nat.reduceMul, Nat.reduceSub, Nat.reduceLT]; repeat' (first | exact Ok.out | with_reducible refine And.intro ?_ ?_))
        · (simp only [go_sem, hlt, hget, hpu, hinc, Int.reduceLE, ↓reduceIte, reduceCtorEq, Nat.reduceEqDiff, Nat.reduceLeDiff, Nat.reduceAdd, Nat.reduceMul, Nat.reduceSub, Nat.reduceLT]; repeat' (first | exact Ok.out | with_reducible refine And.intro ?_ ?_))

theorem Arity_s (op : Int) (s : St) : Fun Tryd.prog n_ref3_Arity [.int .i64 op] s (.int .i64 (arityI op)) s := by
  refine Fun.pure ?_ rfl rfl s
  unfold S0
  generalize h : arityI op = p
  unfold arityI at h
  refine Fun.go has_ref3_Arity rfl fun B Q hB hQ => ?_
  have hlt : 0 < 1 := Nat.zero_lt_one
  have hget : 0 < 1 := Nat.zero_lt_one
  have hpu : 0 < 1 := Nat.zero_lt_one
  have hinc : 0 < 1 := Nat.zero_lt_one
  repeat' (first
 | simp only [go_sem, hlt, hget, hpu, hinc, Int.reduceLE, ↓reduceIte, reduceCtorEq, Nat.reduceEqDiff, Nat.reduceLeDiff, Nat.reduceAdd, Nat.reduceMul, Nat.reduceSub, Nat.reduceLT]
 | (with_reducible first | refine CB_ofT (by assumption) fun hc => ?_ | refine CB_ofF (by assumption) fun hc => ?_ | refine CB_split (fun hc => ?_) fun hc => ?_) <;> (try simp only [hc, bs, ↓reduceIte] at h) <;> (try simp only [hc])
 | ((with_reducible first | refine leafR hQ ?_ | refine leafN hQ ?_); (try cases h); simp only [resL, oneD, Option.some.injEq, exists_eq_left', go_sem, hlt, hget, hpu, hinc, Int.reduceLE, ↓reduceIte, reduceCtorEq, Nat.reduceEqDiff, Nat.reduceLeDiff, Nat.reduceAdd, Nat.reduceMul, Nat.reduceSub, Nat.reduceLT]; repeat' (first | exact Ok.out | with_reducible refine And.intro ?_ ?_ | (simp; done)))
 | (cases h; replace h := hr; clear hr; (try simp only [bs, ↓reduceIte] at h))
 | (cases h; done))

theorem names_s' {l : List Str} (hl : l.length < 4611686018427387904) (hs : ∀ t ∈ l, t.length < 4611686018427387904) (s : St) : Fun Tryd.prog n_ref3_names [.slice .shared 1 (l.map encStr)] s (.bool (mayNames l)) s := by
  refine Fun.pure ?_ (by simp [D.oks, D.ok, okrStr, Tag.ok]) rfl s
  unfold S0
  generalize h : mayNames l = p
  refine Fun.go has_ref3_names rfl fun B Q hB hQ => ?_
  have hlt : 0 < 1 := Nat.zero_lt_one
  have hget : 0 < 1 := Nat.zero_lt_one
  have hpu : 0 < 1 := Nat.zero_lt_one
  have hinc : 0 < 1 := Nat.zero_lt_one
  repeat' (first
 | simp only [go_sem, hlt, hget, hpu, hinc, Int.reduceLE, ↓reduceIte, reduceCtorEq, Nat.reduceEqDiff, Nat.reduceLeDiff, Nat.reduceAdd, Nat.reduceMul, Nat.reduceSub, Nat.reduceLT]
 | (with_reducible first | refine CB_ofT (by assumption) fun hc => ?_ | refine CB_ofF (by assumption) fun hc => ?_ | refine CB_split (fun hc => ?_) fun hc => ?_) <;> (try simp only [hc, bs, ↓reduceIte] at h) <;> (try simp only [hc])
 | ((with_reducible first | refine leafR hQ ?_ | refine leafN hQ ?_); (try cases h); simp only [resL, oneD, Option.some.injEq, exists_eq_left', go_sem, hlt, hget, hpu, hinc, Int.reduceLE, ↓reduceIte, reduceCtorEq, Nat.reduceEqDiff, Nat.reduceLeDiff, Nat.reduceAdd, Nat.reduceMul, Nat.reduceSub, Nat.reduceLT]; repeat' (first | exact Ok.out | with_reducible refine And.intro ?_ ?_ | (simp; done)))
 | (cases h; replace h := hr; clear hr; (try simp only [bs, ↓reduceIte] at h))
 | (cases h; done))
  refine SemL.re _ _ 0 0 (by rw [hB]; exact Nat.le_of_ble_eq_true rfl) (by rw [hB]; exact Nat.le_of_ble_eq_true rfl) ?_ ?_ (SemL.ind (ι := List Str × Nat) (fun i => l.drop i.2 = i.1 ∧ mayNames i.1 = p) (fun i => i.1.length)
    (fun i => [(5, .slice .shared 1 (l.map encStr)), (6, .int .i64 (l.length : Int)), (7, .int .i64 (i.2 : Int))]) (fun i => ⟨[], []⟩) ?_ (l, 0) ⟨rfl, h⟩)
  · (simp only [go_sem, hlt, hget, hpu, hinc, Int.reduceLE, ↓reduceIte, reduceCtorEq, Nat.reduceEqDiff, Nat.reduceLeDiff, Nat.reduceAdd, Nat.reduceMul, Nat.reduceSub, Nat.reduceLT]; repeat' (first | exact Ok.out | with_reducible refine And.intro ?_ ?_))
  · (simp only [go_sem, hlt, hget, hpu, hinc, Int.reduceLE, ↓reduceIte, reduceCtorEq, Nat.reduceEqDiff, Nat.reduceLeDiff, Nat.reduceAdd, Nat.reduceMul, Nat.reduceSub, Nat.reduceLT]; repeat' (first | exact Ok.out | with_reducible refine And.intro ?_ ?_))
  rintro ⟨rest, k⟩ ⟨h1, h⟩ IH
  dsimp only at h1 h
  cases rest with
  | nil =>
    have hlt := drop_nil h1
    simp only [mayNames] at h
    repeat' (first
 | simp only [go_sem, hlt, hget, hpu, hinc, Int.reduceLE, ↓reduceIte, reduceCtorEq, Nat.reduceEqDiff, Nat.reduceLeDiff, Nat.reduceAdd, Nat.reduceMul, Nat.reduceSub, Nat.reduceLT]
 | (with_reducible first | refine CB_ofT (by assumption) fun hc => ?_ | refine CB_ofF (by assumption) fun hc => ?_ | refine CB_split (fun hc => ?_) fun hc => ?_) <;> (try simp only [hc, bs, ↓reduceIte] at h) <;> (try simp only [hc])
 | ((with_reducible first | refine leafR hQ ?_ | refine leafN hQ ?_); (try cases h); simp only [resL, oneD, Option.some.injEq, exists_eq_left', go_sem, hlt, hget, hpu, hinc, Int.reduceLE, ↓reduceIte, reduceCtorEq, Nat.reduceEqDiff, Nat.reduceLeDiff, Nat.reduceAdd, Nat.reduceMul, Nat.reduceSub, Nat.reduceLT]; repeat' (first | exact Ok.out | with_reducible refine And.intro ?_ ?_ | (simp; done)))
 | (cases h; replace h := hr; clear hr; (try simp only [bs, ↓reduceIte] at h))
 | (cases h; done))
  | cons t rest =>
    obtain ⟨hget, g2, hlt, g4⟩ := drop_cons h1
    have hpu : k < 4611686018427387904 := by omega
    have hn := RName_s t (hs t (List.mem_of_getElem? hget))
    simp only [mayNames] at h
    repeat' (first
 | simp only [go_sem, hlt, hget, hpu, hinc, Int.reduceLE, ↓reduceIte, reduceCtorEq, Nat.reduceEqDiff, Nat.reduceLeDiff, Nat.reduceAdd, Nat.reduceMul, Nat.reduceSub, Nat.reduceLT]
 | (with_reducible refine CU (hn _) ?_)
 | (with_reducible first | refine CB_ofT (by assumption) fun hc => ?_ | refine CB_ofF (by assumption) fun hc => ?_ | refine CB_split (fun hc => ?_) fun hc => ?_) <;> (try simp only [hc, bs, ↓reduceIte] at h) <;> (try simp only [hc])
 | ((with_reducible first | refine leafR hQ ?_ | refine leafN hQ ?_); (try cases h); simp only [resL, oneD, Option.some.injEq, exists_eq_left', go_sem, hlt, hget, hpu, hinc, Int.reduceLE, ↓reduceIte, reduceCtorEq, Nat.reduceEqDiff, Nat.reduceLeDiff, Nat.reduceAdd, Nat.reduceMul, Nat.reduceSub, Nat.reduceLT]; repeat' (first | exact Ok.out | with_reducible refine And.intro ?_ ?_ | (simp; done)))
 | (cases h; replace h := hr; clear hr; (try simp only [bs, ↓reduceIte] at h))
 | (cases h; done))
    refine SemL.re _ _ 0 0 (by rw [hB]; exact Nat.le_of_ble_eq_true rfl) (by rw [hB]; exact Nat.le_of_ble_eq_true rfl) ?_ ?_ (IH (rest, k + 1) ⟨g2, h⟩ (Nat.lt_succ_self _))
    · (simp only [go_sem, hlt, hget, hpu, hinc, Int.reduceLE, ↓reduceIte, reduceCtorEq, Nat.reduceEqDiff, Nat.reduceLeDiff, Nat.reduceAdd, Nat.reduceMul, Nat.reduceSub, Nat.reduceLT]; repeat' (first | exact Ok.out | with_reducible refine And.intro ?_ ?_))
    · (simp only [go_sem, hlt, hget, hpu, hinc, Int.reduceLE, ↓reduceIte, reduceCtorEq, Nat.reduceEqDiff, Nat.reduceLeDiff, Nat.reduceAdd, Nat.reduceMul, Nat.reduceSub, Nat.reduceLT]; repeat' (first | exact Ok.out | with_reducible refine And.intro ?_ ?_))

theorem form_n : ∀ (n : Nat) (x : Ex), x.size ≤ n → x.size < 4611686018427387904 → x.texts → ∀ s : St, Fun Tryd.prog n_ref3_form [.agg (encEx x)] s (.bool x.form) s := by
  intro n
  induction n with
  | zero => rintro ⟨op, m, name, kids⟩ h; simp only [Ex.size] at h; omega
  | succ n ih =>
    rintro ⟨op, m, name, kids⟩ h hx ht s
    refine Fun.pure ?_ (by simp [D.oks, D.ok, okEx]) rfl s
    have hlen : kids.length < 4611686018427387904 := by simp only [Ex.size] at hx; have := Ex.sizes_len kids; omega
    have hk : ∀ y ∈ kids, ∀ s, Fun Tryd.prog n_ref3_form [.agg (encEx y)] s (.bool y.form) s := fun y hy s =>
      ih y (by simp only [Ex.size] at h; have := Ex.sizes_mem hy; omega) (by simp only [Ex.size] at hx; have := Ex.sizes_mem hy; omega) (Ex.texts_mem ht hy) s
    have hn := RName_s name ht.1
    unfold S0
    generalize h : Ex.form ⟨op, m, name, kids⟩ = p
    simp only [Ex.form] at h
    refine Fun.go has_ref3_form rfl fun B Q hB hQ => ?_
    have hlt : 0 < 1 := Nat.zero_lt_one
    have hget : 0 < 1 := Nat.zero_lt_one
    have hpu : 0 < 1 := Nat.zero_lt_one
    have hinc : 0 < 1 := Nat.zero_lt_one
    repeat' (first
 | simp only [go_sem, hlt, hget, hpu, hinc, Int.reduceLE, ↓reduceIte, reduceCtorEq, Nat.reduceEqDiff, Nat.reduceLeDiff, Nat.reduceAdd, Nat.reduceMul, Nat.reduceSub, Nat.reduceLT]
 | (with_reducible refine CU (Arity_s _ _) ?_)
 | (with_reducible refine CU (hn _) ?_)
 | (with_reducible first | refine CB_ofT (by assumption) fun hc => ?_ | refine CB_ofF (by assumption) fun hc => ?_ | refine CB_split (fun hc => ?_) fun hc => ?_) <;> (try simp only [hc, bs, ↓reduceIte] at h) <;> (try simp only [hc])
 | ((with_reducible first | refine leafR hQ ?_ | refine leafN hQ ?_); (try cases h); simp only [resL, oneD, Option.some.injEq, exists_eq_left', go_sem, hlt, hget, hpu, hinc, Int.reduceLE, ↓reduceIte, reduceCtorEq, Nat.reduceEqDiff, Nat.reduceLeDiff, Nat.reduceAdd, Nat.reduceMul, Nat.reduceSub, Nat.reduceLT]; repeat' (first | exact Ok.out | with_reducible refine And.intro ?_ ?_ | (simp; done)))
 | (cases h; replace h := hr; clear hr; (try simp only [bs, ↓reduceIte] at h))
 | (cases h; done))
    all_goals
      refine SemL.re _ _ 1 0 (by rw [hB]; exact Nat.le_of_ble_eq_true rfl) (by rw [hB]; exact Nat.le_of_ble_eq_true rfl) ?_ ?_ (SemL.ind (ι := List Ex × Nat) (fun i => kids.drop i.2 = i.1 ∧ Ex.forms i.1 = p) (fun i => i.1.length)
        (fun i => [(1, .ptr 0 0), (48, .int .i64 (kids.length : Int)), (49, .int .i64 (i.2 : Int))]) (fun i => ⟨[encEx ⟨op, m, name, kids⟩], []⟩) ?_ (kids, 0) ⟨rfl, h⟩)
      · (simp only [go_sem, hlt, hget, hpu, hinc, Int.reduceLE, ↓reduceIte, reduceCtorEq, Nat.reduceEqDiff, Nat.reduceLeDiff, Nat.reduceAdd, Nat.reduceMul, Nat.reduceSub, Nat.reduceLT]; repeat' (first | exact Ok.out | with_reducible refine And.intro ?_ ?_))
      · (simp only [go_sem, hlt, hget, hpu, hinc, Int.reduceLE, ↓reduceIte, reduceCtorEq, Nat.reduceEqDiff, Nat.reduceLeDiff, Nat.reduceAdd, Nat.reduceMul, Nat.reduceSub, Nat.reduceLT]; repeat' (first | exact Ok.out | with_reducible refine And.intro ?_ ?_))
      rintro ⟨rest, k⟩ ⟨h1, h⟩ IH
      dsimp only at h1 h
      cases rest with
      | nil =>
        have hlt := drop_nil h1
        simp only [Ex.forms] at h
        repeat' (first
 | simp only [go_sem, hlt, hget, hpu, hinc, Int.reduceLE, ↓reduceIte, reduceCtorEq, Nat.reduceEqDiff, Nat.reduceLeDiff, Nat.reduceAdd, Nat.reduceMul, Nat.reduceSub, Nat.reduceLT]
 | (with_reducible first | refine CB_ofT (by assumption) fun hc => ?_ | refine CB_ofF (by assumption) fun hc => ?_ | refine CB_split (fun hc => ?_) fun hc => ?_) <;> (try simp only [hc, bs, ↓reduceIte] at h) <;> (try simp only [hc])
 | ((with_reducible first | refine leafR hQ ?_ | refine leafN hQ ?_); (try cases h); simp only [resL, oneD, Option.some.injEq, exists_eq_left', go_sem, hlt, hget, hpu, hinc, Int.reduceLE, ↓reduceIte, reduceCtorEq, Nat.reduceEqDiff, Nat.reduceLeDiff, Nat.reduceAdd, Nat.reduceMul, Nat.reduceSub, Nat.reduceLT]; repeat' (first | exact Ok.out | with_reducible refine And.intro ?_ ?_ | (simp; done)))
 | (cases h; replace h := hr; clear hr; (try simp only [bs, ↓reduceIte] at h))
 | (cases h; done))
      | cons y rest =>
        obtain ⟨hget, g2, hlt, g4⟩ := drop_cons h1
        have hy := hk y (List.mem_of_getElem? hget)
        have hpu : k < 4611686018427387904 := by omega
        simp only [Ex.forms] at h
        repeat' (first
 | simp only [go_sem, hlt, hget, hpu, hinc, Int.reduceLE, ↓reduceIte, reduceCtorEq, Nat.reduceEqDiff, Nat.reduceLeDiff, Nat.reduceAdd, Nat.reduceMul, Nat.reduceSub, Nat.reduceLT]
 | (with_reducible refine CU (hy _) ?_)
 | (with_reducible first | refine CB_ofT (by assumption) fun hc => ?_ | refine CB_ofF (by assumption) fun hc => ?_ | refine CB_split (fun hc => ?_) fun hc => ?_) <;> (try simp only [hc, bs, ↓reduceIte] at h) <;> (try simp only [hc])
 | ((with_reducible first | refine leafR hQ ?_ | refine leafN hQ ?_); (try cases h); simp only [resL, oneD, Option.some.injEq, exists_eq_left', go_sem, hlt, hget, hpu, hinc, Int.reduceLE, ↓reduceIte, reduceCtorEq, Nat.reduceEqDiff, Nat.reduceLeDiff, Nat.reduceAdd, Nat.reduceMul, Nat.reduceSub, Nat.reduceLT]; repeat' (first | exact Ok.out | with_reducible refine And.intro ?_ ?_ | (simp; done)))
 | (cases h; replace h := hr; clear hr; (try simp only [bs, ↓reduceIte] at h))
 | (cases h; done))
        refine SemL.re _ _ 1 0 (by rw [hB]; exact Nat.le_of_ble_eq_true rfl) (by rw [hB]; exact Nat.le_of_ble_eq_true rfl) ?_ ?_ (IH (rest, k + 1) ⟨g2, h⟩ (Nat.lt_succ_self _))
        · (simp only [go_sem, hlt, hget, hpu, hinc, Int.reduceLE, ↓reduceIte, reduceCtorEq, Nat.reduceEqDiff, Nat.reduceLeDiff, Nat.reduceAdd, Nat.reduceMul, Nat.reduceSub, Nat.reduceLT]; repeat' (first | exact Ok.out | with_reducible refine And.intro ?_ ?_))
        · (simp only [go_sem, hlt, hget, hpu, hinc, Int.reduceLE, ↓reduceIte, reduceCtorEq, Nat.reduceEqDiff, Nat.reduceLeDiff, Nat.reduceAdd, Nat.reduceMul, Nat.reduceSub, Nat.reduceLT]; repeat' (first | exact Ok.out | with_reducible refine And.intro ?_ ?_))

theorem MayExpr_s {x : Ex} (hx : x.size < 4611686018427387904) (ht : x.texts) (s : St) : Fun Tryd.prog n_ref3_MayExpr [.agg (encEx x)] s (.bool x.may) s := by
  refine Fun.pure ?_ (by simp [D.oks, D.ok, okEx]) rfl s
  have hd := fun s => deep_n 20 (by decide) x hx s
  have c20 : ((20 : Nat) : Int) = 20 := rfl
  rw [c20] at hd
  have hf := form_n _ x (Nat.le_refl _) hx ht
  unfold S0
  generalize h : Ex.may x = p
  unfold Ex.may at h
  refine Fun.go has_ref3_MayExpr rfl fun B Q hB hQ => ?_
  have hlt : 0 < 1 := Nat.zero_lt_one
  have hget : 0 < 1 := Nat.zero_lt_one
  have hpu : 0 < 1 := Nat.zero_lt_one
  have hinc : 0 < 1 := Nat.zero_lt_one
  repeat' (first
 | simp only [go_sem, hlt, hget, hpu, hinc, Int.reduceLE, ↓reduceIte, reduceCtorEq, Nat.reduceEqDiff, Nat.reduceLeDiff, Nat.reduceAdd, Nat.reduceMul, Nat.reduceSub, Nat.reduceLT]
 | (with_reducible refine CU (hd _) ?_)
 | (with_reducible refine CU (hf _) ?_)
 | (with_reducible first | refine CB_ofT (by assumption) fun hc => ?_ | refine CB_ofF (by assumption) fun hc => ?_ | refine CB_split (fun hc => ?_) fun hc => ?_) <;> (try simp only [hc, bs, ↓reduceIte] at h) <;> (try simp only [hc])
 | ((with_reducible first | refine leafR hQ ?_ | refine leafN hQ ?_); (try cases h); simp only [resL, oneD, Option.some.injEq, exists_eq_left', go_sem, hlt, hget, hpu, hinc, Int.reduceLE, ↓reduceIte, reduceCtorEq, Nat.reduceEqDiff, Nat.reduceLeDiff, Nat.reduceAdd, Nat.reduceMul, Nat.reduceSub, Nat.reduceLT]; repeat' (first | exact Ok.out | with_reducible refine And.intro ?_ ?_ | (simp; done)))
 | (cases h; replace h := hr; clear hr; (try simp only [bs, ↓reduceIte] at h))
 | (cases h; done))

theorem none_s (x : Ex) (s : St) : Fun Tryd.prog n_ref3_none [.agg (encEx x)] s (.bool x.none) s := by
  refine Fun.pure ?_ (by simp [D.oks, D.ok, okEx]) rfl s
  unfold S0
  generalize h : Ex.none x = p
  unfold Ex.none at h
  refine Fun.go has_ref3_none rfl fun B Q hB hQ => ?_
  have hlt : 0 < 1 := Nat.zero_lt_one
  have hget : 0 < 1 := Nat.zero_lt_one
  have hpu : 0 < 1 := Nat.zero_lt_one
  have hinc : 0 < 1 := Nat.zero_lt_one
  repeat' (first
 | simp only [go_sem, hlt, hget, hpu, hinc, Int.reduceLE, ↓reduceIte, reduceCtorEq, Nat.reduceEqDiff, Nat.reduceLeDiff, Nat.reduceAdd, Nat.reduceMul, Nat.reduceSub, Nat.reduceLT]
 | (with_reducible first | refine CB_ofT (by assumption) fun hc => ?_ | refine CB_ofF (by assumption) fun hc => ?_ | refine CB_split (fun hc => ?_) fun hc => ?_) <;> (try simp only [hc, bs, ↓reduceIte] at h) <;> (try simp only [hc])
 | ((with_reducible first | refine leafR hQ ?_ | refine leafN hQ ?_); (try cases h); simp only [resL, oneD, Option.some.injEq, exists_eq_left', go_sem, hlt, hget, hpu, hinc, Int.reduceLE, ↓reduceIte, reduceCtorEq, Nat.reduceEqDiff, Nat.reduceLeDiff, Nat.reduceAdd, Nat.reduceMul, Nat.reduceSub, Nat.reduceLT]; repeat' (first | exact Ok.out | with_reducible refine And.intro ?_ ?_ | (simp; done)))
 | (cases h; replace h := hr; clear hr; (try simp only [bs, ↓reduceIte] at h))
 | (cases h; done))

theorem arg_s {a : Ar} (hx : a.x.size < 4611686018427387904) (ht : a.x.texts) (hn : a.name.length < 4611686018427387904) (s : St) : Fun Tryd.prog n_ref3_arg [.agg (encAr a)] s (.bool a.may) s := by
  refine Fun.pure ?_ (by simp [D.oks, D.ok, okAr]) rfl s
  have hm := MayExpr_s hx ht
  have h1 := RName_s a.name hn
  unfold S0
  generalize h : Ar.may a = p
  simp only [Ar.may] at h
  refine Fun.go has_ref3_arg rfl fun B Q hB hQ => ?_
  have hlt : 0 < 1 := Nat.zero_lt_one
  have hget : 0 < 1 := Nat.zero_lt_one
  have hpu : 0 < 1 := Nat.zero_lt_one
  have hinc : 0 < 1 := Nat.zero_lt_one
  repeat' (first
 | simp only [go_sem, hlt, hget, hpu, hinc, Int.reduceLE, ↓reduceIte, reduceCtorEq, Nat.reduceEqDiff, Nat.reduceLeDiff, Nat.reduceAdd, Nat.reduceMul, Nat.reduceSub, Nat.reduceLT]
 | (with_reducible refine CU (hm _) ?_)
 | (with_reducible refine CU (h1 _) ?_)
 | (with_reducible refine CU (none_s _ _) ?_)
 | (with_reducible first | refine CB_ofT (by assumption) fun hc => ?_ | refine CB_ofF (by assumption) fun hc => ?_ | refine CB_split (fun hc => ?_) fun hc => ?_) <;> (try simp only [hc, bs, ↓reduceIte] at h) <;> (try simp only [hc])
 | ((with_reducible first | refine leafR hQ ?_ | refine leafN hQ ?_); (try cases h); simp only [resL, oneD, Option.some.injEq, exists_eq_left', go_sem, hlt, hget, hpu, hinc, Int.reduceLE, ↓reduceIte, reduceCtorEq, Nat.reduceEqDiff, Nat.reduceLeDiff, Nat.reduceAdd, Nat.reduceMul, Nat.reduceSub, Nat.reduceLT]; repeat' (first | exact Ok.out | with_reducible refine And.intro ?_ ?_ | (simp; done)))
 | (cases h; replace h := hr; clear hr; (try simp only [bs, ↓reduceIte] at h))
 | (cases h; done))

end Go.Abs

/-! Full1 -/

namespace Go.Abs

set_option maxRecDepth 8000
set_option linter.unusedSimpArgs false
set_option linter.unusedVariables false
open Go.Proofs

def weighT (t : Str) (n : Int) : Int := if n > 20000 then 20001 else if (t.length : Int) ≥ 20000 - n then 20001 else n + 1 + t.length
mutual
def weighE : Ex → Int → Int
  | ⟨_, _, name, kids⟩, n => weighEs kids (weighT name n)
def weighEs : List Ex → Int → Int
  | [], n => n
  | x :: l, n => if n ≤ 20000 then weighEs l (weighE x n) else n
end

theorem weighT_in {t : Str} {n : Int} (h0 : 0 ≤ n) : weighT t n ≤ 20001 ∧ (n ≤ 20000 → n + 1 ≤ weighT t n) ∧ 0 ≤ weighT t n ∧ (weighT t n ≤ 20000 → n + 1 + t.length = weighT t n) := by
  unfold weighT; split
  · omega
  · split <;> omega

theorem weigh_in : ∀ (m : Nat) (x : Ex), x.size ≤ m → ∀ n : Int, 0 ≤ n → weighE x n ≤ 20001 ∧ (n ≤ 20000 → n + 1 ≤ weighE x n) ∧ 0 ≤ weighE x n ∧ (weighE x n ≤ 20000 → (x.size : Int) + 1 ≤ 2 * (weighE x n - n) ∧ x.texts) := by
  intro m
  induction m with
  | zero => rintro ⟨op, v, name, kids⟩ h; simp only [Ex.size] at h; omega
  | succ m ih =>
    rintro ⟨op, v, name, kids⟩ h n h0
    simp only [Ex.size] at h
    obtain ⟨t1, t2, t3, t4⟩ := weighT_in (t := name) h0
    have go : ∀ (l : List Ex), Ex.sizes l ≤ m → ∀ c : Int, 0 ≤ c → c ≤ 20001 → weighEs l c ≤ 20001 ∧ c ≤ weighEs l c ∧ (weighEs l c ≤ 20000 → (Ex.sizes l : Int) ≤ 2 * (weighEs l c - c) ∧ Ex.textss l) := by
      intro l
      induction l with
      | nil => intro _ c h0 h1; simp only [weighEs, Ex.sizes]; exact ⟨h1, Int.le_refl _, fun _ => ⟨by omega, trivial⟩⟩
      | cons y l ihl =>
        intro hs c h0 h1
        simp only [Ex.sizes] at hs ⊢
        simp only [weighEs]
        split
        · rename_i hc
          obtain ⟨a1, a2, a3, a4⟩ := ih y (by omega) c h0
          obtain ⟨b1, b2, b3⟩ := ihl (by omega) (weighE y c) a3 a1
          have := a2 hc
          refine ⟨b1, by omega, fun hw => ?_⟩
          obtain ⟨c1, c2⟩ := b3 hw
          obtain ⟨d1, d2⟩ := a4 (by omega)
          exact ⟨by omega, d2, c2⟩
        · exact ⟨h1, Int.le_refl _, fun hw => by omega⟩
    obtain ⟨g1, g2, g3⟩ := go kids (by omega) (weighT name n) t3 t1
    simp only [weighE, Ex.size]
    refine ⟨g1, fun hn => by have := t2 hn; omega, by omega, fun hw => ?_⟩
    obtain ⟨k1, k2⟩ := g3 hw
    have := t4 (by omega)
    exact ⟨by omega, by omega, k2⟩

theorem weighT_s (t : Str) {n : Int} (h0 : 0 ≤ n) (h1 : n ≤ 20001) (s : St) : Fun Tryd.prog n_ref3_weighText [.str t, .int .i64 n] s (.int .i64 (weighT t n)) s := by
  refine Fun.pure ?_ rfl rfl s
  unfold S0
  have w1 : IntKind.wrap .i64 (20000 - n) = 20000 - n := wrap_ok (by omega) (by omega)
  have w2 : IntKind.wrap .i64 (n + 1) = n + 1 := wrap_ok (by omega) (by omega)
  by_cases c : n > 20000
  · have c1 : decide (n > 20000) = true := by simp; omega
    have e : weighT t n = 20001 := by simp [weighT, c]
    rw [e]
    refine Fun.go has_ref3_weighText rfl fun B Q hB hQ => ?_
    have hlt : 0 < 1 := Nat.zero_lt_one
    have hget : 0 < 1 := Nat.zero_lt_one
    have hpu : 0 < 1 := Nat.zero_lt_one
    have hinc : 0 < 1 := Nat.zero_lt_one
    repeat' (first
 | simp only [go_sem, hlt, hget, hpu, hinc, Int.reduceLE, ↓reduceIte, reduceCtorEq, Nat.reduceEqDiff, Nat.reduceLeDiff, Nat.reduceAdd, Nat.reduceMul, Nat.reduceSub, Nat.reduceLT, c1, w1, w2]
 | (with_reducible first | refine CB_ofT (by assumption) fun hc => ?_ | refine CB_ofF (by assumption) fun hc => ?_ | refine CB_split (fun hc => ?_) fun hc => ?_) <;> (try simp only [hc, bs, ↓reduceIte] at h) <;> (try simp only [hc])
 | ((with_reducible first | refine leafR hQ ?_ | refine leafN hQ ?_); (try cases h); simp only [resL, oneD, Option.some.injEq, exists_eq_left', go_sem, hlt, hget, hpu, hinc, Int.reduceLE, ↓reduceIte, reduceCtorEq, Nat.reduceEqDiff, Nat.reduceLeDiff, Nat.reduceAdd, Nat.reduceMul, Nat.reduceSub, Nat.reduceLT, c1, w1, w2]; repeat' (first | exact Ok.out | with_reducible refine And.intro ?_ ?_ | (simp; done)))
 | (cases h; replace h := hr; clear hr; (try simp only [bs, ↓reduceIte] at h))
 | (cases h; done))
  · have c1 : decide (n > 20000) = false := by simp; omega
    by_cases d : (t.length : Int) ≥ 20000 - n
    · have d1 : decide ((t.length : Int) ≥ 20000 - n) = true := by simp; omega
      have e : weighT t n = 20001 := by unfold weighT; rw [if_neg c, if_pos d]
      rw [e]
      refine Fun.go has_ref3_weighText rfl fun B Q hB hQ => ?_
      have hlt : 0 < 1 := Nat.zero_lt_one
      have hget : 0 < 1 := Nat.zero_lt_one
      have hpu : 0 < 1 := Nat.zero_lt_one
      have hinc : 0 < 1 := Nat.zero_lt_one
      repeat' (first
 | simp only [go_sem, hlt, hget, hpu, hinc, Int.reduceLE, ↓reduceIte, reduceCtorEq, Nat.reduceEqDiff, Nat.reduceLeDiff, Nat.reduceAdd, Nat.reduceMul, Nat.reduceSub, Nat.reduceLT, c1, d1, w1, w2]
 | (with_reducible first | refine CB_ofT (by assumption) fun hc => ?_ | refine CB_ofF (by assumption) fun hc => ?_ | refine CB_split (fun hc => ?_) fun hc => ?_) <;> (try simp only [hc, bs, ↓reduceIte] at h) <;> (try simp only [hc])
 | ((with_reducible first | refine leafR hQ ?_ | refine leafN hQ ?_); (try cases h); simp only [resL, oneD, Option.some.injEq, exists_eq_left', go_sem, hlt, hget, hpu, hinc, Int.reduceLE, ↓reduceIte, reduceCtorEq, Nat.reduceEqDiff, Nat.reduceLeDiff, Nat.reduceAdd, Nat.reduceMul, Nat.reduceSub, Nat.reduceLT, c1, d1, w1, w2]; repeat' (first | exact Ok.out | with_reducible refine And.intro ?_ ?_ | (simp; done)))
 | (cases h; replace h := hr; clear hr; (try simp only [bs, ↓reduceIte] at h))
 | (cases h; done))
    · have d1 : decide ((t.length : Int) ≥ 20000 - n) = false := by simp; omega
      have e : weighT t n = n + 1 + t.length := by unfold weighT; rw [if_neg c, if_neg d]
      have w3 : IntKind.wrap .i64 (n + 1 + t.length) = n + 1 + t.length := wrap_ok (by omega) (by omega)
      rw [e]
      refine Fun.go has_ref3_weighText rfl fun B Q hB hQ => ?_
      have hlt : 0 < 1 := Nat.zero_lt_one
      have hget : 0 < 1 := Nat.zero_lt_one
      have hpu : 0 < 1 := Nat.zero_lt_one
      have hinc : 0 < 1 := Nat.zero_lt_one
      repeat' (first
 | simp only [go_sem, hlt, hget, hpu, hinc, Int.reduceLE, ↓reduceIte, reduceCtorEq, Nat.reduceEqDiff, Nat.reduceLeDiff, Nat.reduceAdd, Nat.reduceMul, Nat.reduceSub, Nat.reduceLT, c1, d1, w1, w2, w3]
 | (with_reducible first | refine CB_ofT (by assumption) fun hc => ?_ | refine CB_ofF (by assumption) fun hc => ?_ | refine CB_split (fun hc => ?_) fun hc => ?_) <;> (try simp only [hc, bs, ↓reduceIte] at h) <;> (try simp only [hc])
 | ((with_reducible first | refine leafR hQ ?_ | refine leafN hQ ?_); (try cases h); simp only [resL, oneD, Option.some.injEq, exists_eq_left', go_sem, hlt, hget, hpu, hinc, Int.reduceLE, ↓reduceIte, reduceCtorEq, Nat.reduceEqDiff, Nat.reduceLeDiff, Nat.reduceAdd, Nat.reduceMul, Nat.reduceSub, Nat.reduceLT, c1, d1, w1, w2, w3]; repeat' (first | exact Ok.out | with_reducible refine And.intro ?_ ?_ | (simp; done)))
 | (cases h; replace h := hr; clear hr; (try simp only [bs, ↓reduceIte] at h))
 | (cases h; done))

theorem weighE_s : ∀ (m : Nat) (x : Ex), x.size ≤ m → ∀ {n : Int}, 0 ≤ n → n ≤ 20000 → ∀ s : St, Fun Tryd.prog n_ref3_weighExpr [.agg (encEx x), .int .i64 n] s (.int .i64 (weighE x n)) s := by
  intro m
  induction m with
  | zero => rintro ⟨op, v, name, kids⟩ h; simp only [Ex.size] at h; omega
  | succ m ih =>
    rintro ⟨op, v, name, kids⟩ hsz n h0 h1 s
    refine Fun.pure ?_ (by simp [D.oks, D.ok, okEx]) rfl s
    simp only [Ex.size] at hsz
    have hk : ∀ y ∈ kids, ∀ {n : Int}, 0 ≤ n → n ≤ 20000 → ∀ s : St, Fun Tryd.prog n_ref3_weighExpr [.agg (encEx y), .int .i64 n] s (.int .i64 (weighE y n)) s := fun y hy => ih y (by have := Ex.sizes_mem hy; omega)
    have ht := fun s => weighT_s name h0 (by omega) s
    obtain ⟨t1, t2, t3, t4⟩ := weighT_in (t := name) h0
    unfold S0
    generalize h : weighE ⟨op, v, name, kids⟩ n = p
    simp only [weighE] at h
    refine Fun.go has_ref3_weighExpr rfl fun B Q hB hQ => ?_
    have hlt : 0 < 1 := Nat.zero_lt_one
    have hget : 0 < 1 := Nat.zero_lt_one
    have hpu : 0 < 1 := Nat.zero_lt_one
    have hinc : 0 < 1 := Nat.zero_lt_one
    repeat' (first
 | simp only [go_sem, hlt, hget, hpu, hinc, Int.reduceLE, ↓reduceIte, reduceCtorEq, Nat.reduceEqDiff, Nat.reduceLeDiff, Nat.reduceAdd, Nat.reduceMul, Nat.reduceSub, Nat.reduceLT]
 | (with_reducible refine CU (ht _) ?_)
 | (with_reducible first | refine CB_ofT (by assumption) fun hc => ?_ | refine CB_ofF (by assumption) fun hc => ?_ | refine CB_split (fun hc => ?_) fun hc => ?_) <;> (try simp only [hc, bs, ↓reduceIte] at h) <;> (try simp only [hc])
 | ((with_reducible first | refine leafR hQ ?_ | refine leafN hQ ?_); (try cases h); simp only [resL, oneD, Option.some.injEq, exists_eq_left', go_sem, hlt, hget, hpu, hinc, Int.reduceLE, ↓reduceIte, reduceCtorEq, Nat.reduceEqDiff, Nat.reduceLeDiff, Nat.reduceAdd, Nat.reduceMul, Nat.reduceSub, Nat.reduceLT]; repeat' (first | exact Ok.out | with_reducible refine And.intro ?_ ?_ | (simp; done)))
 | (cases h; replace h := hr; clear hr; (try simp only [bs, ↓reduceIte] at h))
 | (cases h; done))
    refine SemL.re _ _ 1 0 (by rw [hB]; exact Nat.le_of_ble_eq_true rfl) (by rw [hB]; exact Nat.le_of_ble_eq_true rfl) ?_ ?_ (SemL.ind (ι := List Ex × Nat × Int) (fun i => kids.drop i.2.1 = i.1 ∧ weighEs i.1 i.2.2 = p ∧ (i.2.1 : Int) ≤ i.2.2 ∧ i.2.2 ≤ 20001) (fun i => i.1.length)
      (fun i => [(1, .int .i64 i.2.2), (2, .ptr 0 0), (5, .int .i64 (i.2.1 : Int))]) (fun i => ⟨[encEx ⟨op, v, name, kids⟩], []⟩) ?_ (kids, 0, weighT name n) ⟨rfl, h, t3, t1⟩)
    · (simp only [go_sem, hlt, hget, hpu, hinc, Int.reduceLE, ↓reduceIte, reduceCtorEq, Nat.reduceEqDiff, Nat.reduceLeDiff, Nat.reduceAdd, Nat.reduceMul, Nat.reduceSub, Nat.reduceLT]; repeat' (first | exact Ok.out | with_reducible refine And.intro ?_ ?_))
    · (simp only [go_sem, hlt, hget, hpu, hinc, Int.reduceLE, ↓reduceIte, reduceCtorEq, Nat.reduceEqDiff, Nat.reduceLeDiff, Nat.reduceAdd, Nat.reduceMul, Nat.reduceSub, Nat.reduceLT]; repeat' (first | exact Ok.out | with_reducible refine And.intro ?_ ?_))
    rintro ⟨rest, k, c⟩ ⟨g1, h, g3, g4⟩ IH
    dsimp only at g1 h g3 g4
    cases rest with
    | nil =>
      have hlt := drop_nil g1
      simp only [weighEs] at h
      repeat' (first
 | simp only [go_sem, hlt, hget, hpu, hinc, Int.reduceLE, ↓reduceIte, reduceCtorEq, Nat.reduceEqDiff, Nat.reduceLeDiff, Nat.reduceAdd, Nat.reduceMul, Nat.reduceSub, Nat.reduceLT]
 | (with_reducible first | refine CB_ofT (by assumption) fun hc => ?_ | refine CB_ofF (by assumption) fun hc => ?_ | refine CB_split (fun hc => ?_) fun hc => ?_) <;> (try simp only [hc, bs, ↓reduceIte] at h) <;> (try simp only [hc])
 | ((with_reducible first | refine leafR hQ ?_ | refine leafN hQ ?_); (try cases h); simp only [resL, oneD, Option.some.injEq, exists_eq_left', go_sem, hlt, hget, hpu, hinc, Int.reduceLE, ↓reduceIte, reduceCtorEq, Nat.reduceEqDiff, Nat.reduceLeDiff, Nat.reduceAdd, Nat.reduceMul, Nat.reduceSub, Nat.reduceLT]; repeat' (first | exact Ok.out | with_reducible refine And.intro ?_ ?_ | (simp; done)))
 | (cases h; replace h := hr; clear hr; (try simp only [bs, ↓reduceIte] at h))
 | (cases h; done))
    | cons y rest =>
      obtain ⟨hget, g2, hlt, g5⟩ := drop_cons g1
      simp only [weighEs] at h
      by_cases hc : c ≤ 20000
      · have c1 : decide (c ≤ 20000) = true := by simp; omega
        have hy := fun s => hk y (List.mem_of_getElem? hget) (n := c) (by omega) hc s
        obtain ⟨a1, a2, a3, a4⟩ := weigh_in _ y (Nat.le_refl _) c (by omega)
        have := a2 hc
        have w3 : IntKind.wrap .i64 ((k : Int) + 1) = ((k + 1 : Nat) : Int) := by rw [wrap_ok] <;> omega
        rw [if_pos hc] at h
        repeat' (first
 | simp only [go_sem, hlt, hget, hpu, hinc, Int.reduceLE, ↓reduceIte, reduceCtorEq, Nat.reduceEqDiff, Nat.reduceLeDiff, Nat.reduceAdd, Nat.reduceMul, Nat.reduceSub, Nat.reduceLT, c1, w3]
 | (with_reducible refine CU (hy _) ?_)
 | (with_reducible first | refine CB_ofT (by assumption) fun hc => ?_ | refine CB_ofF (by assumption) fun hc => ?_ | refine CB_split (fun hc => ?_) fun hc => ?_) <;> (try simp only [hc, bs, ↓reduceIte] at h) <;> (try simp only [hc])
 | ((with_reducible first | refine leafR hQ ?_ | refine leafN hQ ?_); (try cases h); simp only [resL, oneD, Option.some.injEq, exists_eq_left', go_sem, hlt, hget, hpu, hinc, Int.reduceLE, ↓reduceIte, reduceCtorEq, Nat.reduceEqDiff, Nat.reduceLeDiff, Nat.reduceAdd, Nat.reduceMul, Nat.reduceSub, Nat.reduceLT, c1, w3]; repeat' (first | exact Ok.out | with_reducible refine And.intro ?_ ?_ | (simp; done)))
 | (cases h; replace h := hr; clear hr; (try simp only [bs, ↓reduceIte] at h))
 | (cases h; done))
        refine SemL.re _ _ 1 0 (by rw [hB]; exact Nat.le_of_ble_eq_true rfl) (by rw [hB]; exact Nat.le_of_ble_eq_true rfl) ?_ ?_ (IH (rest, k + 1, weighE y c) ⟨g2, h, by dsimp only; omega, a1⟩ (Nat.lt_succ_self _))
        · (simp only [go_sem, hlt, hget, hpu, hinc, Int.reduceLE, ↓reduceIte, reduceCtorEq, Nat.reduceEqDiff, Nat.reduceLeDiff, Nat.reduceAdd, Nat.reduceMul, Nat.reduceSub, Nat.reduceLT]; repeat' (first | exact Ok.out | with_reducible refine And.intro ?_ ?_))
        · (simp only [go_sem, hlt, hget, hpu, hinc, Int.reduceLE, ↓reduceIte, reduceCtorEq, Nat.reduceEqDiff, Nat.reduceLeDiff, Nat.reduceAdd, Nat.reduceMul, Nat.reduceSub, Nat.reduceLT]; repeat' (first | exact Ok.out | with_reducible refine And.intro ?_ ?_))
      · have c1 : decide (c ≤ 20000) = false := by simp; omega
        rw [if_neg hc] at h
        repeat' (first
 | simp only [go_sem, hlt, hget, hpu, hinc, Int.reduceLE, ↓reduceIte, reduceCtorEq, Nat.reduceEqDiff, Nat.reduceLeDiff, Nat.reduceAdd, Nat.reduceMul, Nat.reduceSub, Nat.reduceLT, c1]
 | (with_reducible first | refine CB_ofT (by assumption) fun hc => ?_ | refine CB_ofF (by assumption) fun hc => ?_ | refine CB_split (fun hc => ?_) fun hc => ?_) <;> (try simp only [hc, bs, ↓reduceIte] at h) <;> (try simp only [hc])
 | ((with_reducible first | refine leafR hQ ?_ | refine leafN hQ ?_); (try cases h); simp only [resL, oneD, Option.some.injEq, exists_eq_left', go_sem, hlt, hget, hpu, hinc, Int.reduceLE, ↓reduceIte, reduceCtorEq, Nat.reduceEqDiff, Nat.reduceLeDiff, Nat.reduceAdd, Nat.reduceMul, Nat.reduceSub, Nat.reduceLT, c1]; repeat' (first | exact Ok.out | with_reducible refine And.intro ?_ ?_ | (simp; done)))
 | (cases h; replace h := hr; clear hr; (try simp only [bs, ↓reduceIte] at h))
 | (cases h; done))

end Go.Abs

/-! Full2 -/

namespace Go.Abs

set_option maxRecDepth 8000
set_option linter.unusedSimpArgs false
set_option linter.unusedVariables false
open Go.Proofs

mutual
def Ex.nodes : Ex → Nat
  | ⟨_, _, _, kids⟩ => 1 + Ex.nodess kids
def Ex.nodess : List Ex → Nat
  | [] => 0
  | x :: l => x.nodes + Ex.nodess l
end
mutual
def sizeM : Ex → Int → Int
  | ⟨_, _, _, kids⟩, most => sizeL kids most 1
def sizeL : List Ex → Int → Int → Int
  | [], _, n => n
  | x :: l, most, n => if n ≤ most then sizeL l most (n + sizeM x (most - n)) else n
end

end Go.Abs

/-! MirEq -/

namespace Go.Abs

def eqTs : List Str → List Str → Bool
  | [], _ => true
  | _ :: _, [] => true
  | x :: l, y :: l' => if !(x == y) then false else eqTs l l'
def eqT (l l' : List Str) : Bool := if (l.length : Int) != (l'.length : Int) then false else eqTs l l'

def Ar.beqs : List Ar → List Ar → Bool
  | [], _ => true
  | _ :: _, [] => true
  | a :: l, b :: l' => if !(a.ref == b.ref) || !(a.name == b.name) || !(Ex.beq a.x b.x) then false else Ar.beqs l l'

mutual
def Sm.beq : Sm → Sm → Bool
  | ⟨id, kind, labels, name, proc, x, has, args, thn, els⟩, ⟨id', kind', labels', name', proc', x', has', args', thn', els'⟩ =>
    if id != id' || kind != kind' || !(name == name') || !(proc == proc') || !(has == has') || !(eqT labels labels') || !(Ex.beq x x') || (args.length : Int) != (args'.length : Int) then false
    else if !(Ar.beqs args args') then false
    else if (if (thn.length : Int) != (thn'.length : Int) then false else Sm.beqs thn thn') then (if (els.length : Int) != (els'.length : Int) then false else Sm.beqs els els') else false
def Sm.beqs : List Sm → List Sm → Bool
  | [], _ => true
  | _ :: _, [] => true
  | s :: l, t :: l' => if !(Sm.beq s t) then false else Sm.beqs l l'
end
def Sm.beqL (l l' : List Sm) : Bool := if (l.length : Int) != (l'.length : Int) then false else Sm.beqs l l'

def Pm.beqs : List Pm → List Pm → Bool
  | [], _ => true
  | _ :: _, [] => true
  | a :: l, b :: l' => if !((a.name == b.name) && (a.ref == b.ref)) then false else Pm.beqs l l'

def Pc.beqs : List Pc → List Pc → Bool
  | [], _ => true
  | _ :: _, [] => true
  | f :: l, g :: l' =>
    if !(f.name == g.name) || (f.params.length : Int) != (g.params.length : Int) || !(eqT f.vars g.vars) || !(eqT f.fin g.fin) || !(Sm.beqL f.body g.body) then false
    else if !(Pm.beqs f.params g.params) then false else Pc.beqs l l'

def Pg.beq (p q : Pg) : Bool := if !(eqT p.globals q.globals) || (p.procs.length : Int) != (q.procs.length : Int) then false else Pc.beqs p.procs q.procs

/-! ### What is the same is the same -/

theorem eqTs_refl : ∀ l, eqTs l l = true
  | [] => rfl
  | x :: l => by simp [eqTs, eqTs_refl l]
theorem eqT_refl (l : List Str) : eqT l l = true := by simp [eqT, eqTs_refl]
theorem Ar.beqs_refl : ∀ l, Ar.beqs l l = true
  | [] => rfl
  | x :: l => by simp [Ar.beqs, Ar.beqs_refl l, Ex.beq_refl]
mutual
theorem Sm.beq_refl : ∀ s, Sm.beq s s = true
  | ⟨id, kind, labels, name, proc, x, has, args, thn, els⟩ => by simp [Sm.beq, eqT_refl, Ex.beq_refl, Ar.beqs_refl, Sm.beqs_refl thn, Sm.beqs_refl els]
theorem Sm.beqs_refl : ∀ l, Sm.beqs l l = true
  | [] => rfl
  | x :: l => by simp [Sm.beqs, Sm.beq_refl x, Sm.beqs_refl l]
end
theorem Sm.beqL_refl (l : List Sm) : Sm.beqL l l = true := by simp [Sm.beqL, Sm.beqs_refl]
theorem Pm.beqs_refl : ∀ l, Pm.beqs l l = true
  | [] => rfl
  | x :: l => by simp [Pm.beqs, Pm.beqs_refl l]
theorem Pc.beqs_refl : ∀ l, Pc.beqs l l = true
  | [] => rfl
  | x :: l => by simp [Pc.beqs, Pc.beqs_refl l, eqT_refl, Sm.beqL_refl, Pm.beqs_refl]
theorem Pg.beq_refl (p : Pg) : Pg.beq p p = true := by simp [Pg.beq, eqT_refl, Pc.beqs_refl]

end Go.Abs
