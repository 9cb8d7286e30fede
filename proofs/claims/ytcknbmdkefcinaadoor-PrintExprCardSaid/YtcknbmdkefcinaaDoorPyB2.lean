/-
  What is proved here: part 2 of the road to the claim (Codes1, Have1, Codes2, Have2, Codes3, Have3, Prs, Lex1, Lex2, RefLex1, Prs2, Ref1, Ref2, Ref3, RefMay1, Full1, Full2, MirEq, RefEq, RefEq2, Prs3, Prs4, Prs5, Prs6, Lex3, Tree1, Tree2, MirParse, Prs7, Room1, Binds1, Full3, Rng, RefMay2, RefMay3, RefMay4, MayFine, Full4, Shelf, Prim, Prim2).
  No conditions.
-/
import Derived.Test.YtcknbmdkefcinaaDoorPyB1
import Derived.Test.YtcknbmdkefcinaaDoorProg
import Derived.KernelRfl
import Derived.Shelf.Strings.Builder1
import Derived.Shelf.Strings.Builder2
import Derived.Shelf.Strings.OnBuilder
import Derived.Shelf.Strconv.Itoa0
import Derived.Shelf.Strconv.Itoa1
import Derived.Shelf.LaysM
import Derived.Shelf.Strconv.Itoa2
import Derived.Shelf.Strconv.Itoa3
import Derived.Shelf.Strconv.Itoa4
import Derived.Lib.ItoaMem

set_option linter.unusedSimpArgs false
set_option linter.unusedVariables false

/-! Codes1 -/

namespace Go.Abs

abbrev Q56 : AC := .run [(.op (some 6) none (.mv (.s 1))), (.op (some 7) none (.bin .gtr (.s 6) (.k (.int .i64 0))))]
abbrev Q57 : AC := .cond (.s 7) .skip (.exit 0)
abbrev Q58 : AC := .seq Q56 Q57
abbrev Q59 : AC := .run [(.op (some 10) none (.mv (.s 0))), (.op (some 11) none (.nilck (.s 10))), (.op (some 12) none (.faddr (.s 11) 0)), (.call (some 13) none n_strings_Builder_WriteByte [(.s 12), (.k (.int .u8 32))])]
abbrev Q5A : AC := .block 1 Q59
abbrev Q5B : AC := .run [(.op (some 8) none (.mv (.s 1))), (.op (some 9) none (.bin .sub (.s 8) (.k (.int .i64 1)))), (.op (some 1) none (.mv (.s 9)))]
abbrev Q5C : AC := .seq Q5A Q5B
abbrev Q5D : AC := .seq Q58 Q5C
abbrev Q5E : AC := .loop Q5D
abbrev Q5F : AC := .block 0 Q5E
abbrev Q5G : AC := .run [(.op (some 14) none (.mv (.s 0))), (.op (some 15) none (.nilck (.s 14))), (.op (some 16) none (.faddr (.s 15) 0)), (.op (some 17) none (.mv (.s 2))), (.call (some 18) none n_strings_Builder_WriteString [(.s 16), (.s 17)])]
abbrev Q5H : AC := .run [(.op (some 19) none (.mv (.s 0))), (.op (some 20) none (.nilck (.s 19))), (.op (some 21) none (.faddr (.s 20) 0)), (.call (some 22) none n_strings_Builder_WriteByte [(.s 21), (.k (.int .u8 10))])]
abbrev Q5I : AC := .seq Q5G Q5H
abbrev Q5J : AC := .seq Q5F Q5I
abbrev Q5K : AC := .run [(.op (some 2) none (.mv (.k (.str []))))]
abbrev Q5L : AC := .run [(.op (some 3) none (.mv (.s 0)))]
abbrev Q5M : AC := .run [(.op (some 2) none (.mv (.k (.str [114, 101, 102, 32]))))]
abbrev Q5N : AC := .seq Q5M .ret
abbrev Q5O : AC := .cond (.s 3) Q5N .skip
abbrev Q5P : AC := .seq Q5L Q5O
abbrev Q5Q : AC := .run [(.op (some 2) none (.mv (.k (.str []))))]
abbrev Q5R : AC := .seq Q5Q .ret
abbrev Q5S : AC := .seq Q5P Q5R
abbrev Q5T : AC := .seq Q5K Q5S
abbrev Q5U : AC := .run [(.op (some 9) none (.mv (.s 1))), (.op (some 10) none (.len (.s 9))), (.op (some 11) none (.mv (.k (.int .i64 0))))]
abbrev Q5V : AC := .run [(.op (some 12) none (.bin .lss (.s 11) (.s 10)))]
abbrev Q5W : AC := .cond (.s 12) .skip (.exit 0)
abbrev Q5X : AC := .run [(.op (some 13) none (.iaddr (.s 9) (.s 11) 13)), (.op (some 14) none (.load (.s 13) true 13)), (.op (some 7) none (.alloc [(.int .i64 0), (.int .i64 0), (.slice .full 0 []), (.str []), (.str []), (.int .i64 0), (.int .i64 0), (.str []), (.slice .full 0 []), (.bool false), (.slice .full 0 []), (.slice .full 0 []), (.slice .full 0 [])])), (.op none none (.store (.s 7) (.s 14) 13))]
abbrev Q5Y : AC := .run [(.op (some 15) none (.faddr (.s 7) 2)), (.op (some 16) none (.load (.s 15) false 1)), (.call (some 17) none n_print_marks [(.s 16)]), (.op (some 8) none (.mv (.s 17)))]
abbrev Q5Z : AC := .run [(.op (some 18) none (.faddr (.s 7) 1)), (.op (some 19) none (.load (.s 18) false 1))]
abbrev Q60 : AC := .run [(.op (some 29) none (.bin .eql (.s 19) (.k (.int .i64 6)))), (.op (some 28) none (.mv (.s 29)))]
abbrev Q61 : AC := .run [(.op (some 30) none (.mv (.s 0))), (.op (some 31) none (.mv (.s 2))), (.op (some 32) none (.mv (.s 8))), (.op (some 33) none (.bin .add (.s 32) (.k (.str [119, 104, 105, 108, 101, 32, 40])))), (.op (some 34) none (.faddr (.s 7) 5)), (.op (some 35) none (.load (.s 34) true 4)), (.call (some 36) none n_print_expr [(.s 35), (.k (.int .i64 0))]), (.op (some 37) none (.bin .add (.s 33) (.s 36))), (.op (some 38) none (.bin .add (.s 37) (.k (.str [41, 32, 123])))), (.call (some 39) none n_print_writer_line [(.s 30), (.s 31), (.s 38)])]
abbrev Q62 : AC := .run [(.op (some 40) none (.mv (.s 0))), (.op (some 41) none (.faddr (.s 7) 11)), (.op (some 42) none (.load (.s 41) false 1)), (.op (some 43) none (.mv (.s 2))), (.op (some 44) none (.bin .add (.s 43) (.k (.int .i64 1)))), (.call (some 45) none n_print_writer_rows [(.s 40), (.s 42), (.s 44)])]
abbrev Q63 : AC := .run [(.op (some 46) none (.mv (.s 0))), (.op (some 47) none (.mv (.s 2))), (.call (some 48) none n_print_writer_line [(.s 46), (.s 47), (.k (.str [125]))])]
abbrev Q64 : AC := .seq Q62 Q63
abbrev Q65 : AC := .seq Q61 Q64
abbrev Q66 : AC := .run [(.op (some 50) none (.bin .eql (.s 19) (.k (.int .i64 5)))), (.op (some 49) none (.mv (.s 50)))]
abbrev Q67 : AC := .run [(.op (some 51) none (.mv (.s 0))), (.op (some 52) none (.mv (.s 2))), (.op (some 53) none (.mv (.s 8))), (.op (some 54) none (.bin .add (.s 53) (.k (.str [105, 102, 32, 40])))), (.op (some 55) none (.faddr (.s 7) 5)), (.op (some 56) none (.load (.s 55) true 4)), (.call (some 57) none n_print_expr [(.s 56), (.k (.int .i64 0))]), (.op (some 58) none (.bin .add (.s 54) (.s 57))), (.op (some 59) none (.bin .add (.s 58) (.k (.str [41, 32, 123])))), (.call (some 60) none n_print_writer_line [(.s 51), (.s 52), (.s 59)])]
abbrev Q68 : AC := .run [(.op (some 61) none (.mv (.s 0))), (.op (some 62) none (.faddr (.s 7) 11)), (.op (some 63) none (.load (.s 62) false 1)), (.op (some 64) none (.mv (.s 2))), (.op (some 65) none (.bin .add (.s 64) (.k (.int .i64 1)))), (.call (some 66) none n_print_writer_rows [(.s 61), (.s 63), (.s 65)])]
abbrev Q69 : AC := .run [(.op (some 67) none (.faddr (.s 7) 12)), (.op (some 68) none (.load (.s 67) false 1)), (.op (some 69) none (.len (.s 68))), (.op (some 70) none (.bin .gtr (.s 69) (.k (.int .i64 0))))]
abbrev Q6A : AC := .run [(.op (some 71) none (.mv (.s 0))), (.op (some 72) none (.mv (.s 2))), (.call (some 73) none n_print_writer_line [(.s 71), (.s 72), (.k (.str [125, 32, 101, 108, 115, 101, 32, 123]))])]
abbrev Q6B : AC := .run [(.op (some 74) none (.mv (.s 0))), (.op (some 75) none (.faddr (.s 7) 12)), (.op (some 76) none (.load (.s 75) false 1)), (.op (some 77) none (.mv (.s 2))), (.op (some 78) none (.bin .add (.s 77) (.k (.int .i64 1)))), (.call (some 79) none n_print_writer_rows [(.s 74), (.s 76), (.s 78)])]
abbrev Q6C : AC := .seq Q6A Q6B
abbrev Q6D : AC := .cond (.s 70) Q6C .skip
abbrev Q6E : AC := .seq Q69 Q6D
abbrev Q6F : AC := .run [(.op (some 80) none (.mv (.s 0))), (.op (some 81) none (.mv (.s 2))), (.call (some 82) none n_print_writer_line [(.s 80), (.s 81), (.k (.str [125]))])]
abbrev Q6G : AC := .seq Q6E Q6F
abbrev Q6H : AC := .seq Q68 Q6G
abbrev Q6I : AC := .seq Q67 Q6H
abbrev Q6J : AC := .run [(.op (some 20) none (.mv (.s 0))), (.op (some 21) none (.mv (.s 2))), (.op (some 22) none (.mv (.s 8))), (.op (some 23) none (.load (.s 7) true 13)), (.call (some 24) none n_print_plain [(.s 23)]), (.op (some 25) none (.bin .add (.s 22) (.s 24))), (.op (some 26) none (.bin .add (.s 25) (.k (.str [59])))), (.call (some 27) none n_print_writer_line [(.s 20), (.s 21), (.s 26)])]
abbrev Q6K : AC := .cond (.s 49) Q6I Q6J
abbrev Q6L : AC := .seq Q66 Q6K
abbrev Q6M : AC := .cond (.s 28) Q65 Q6L
abbrev Q6N : AC := .seq Q60 Q6M
abbrev Q6O : AC := .block 2 Q6N
abbrev Q6P : AC := .seq Q5Z Q6O
abbrev Q6Q : AC := .seq Q5Y Q6P
abbrev Q6R : AC := .seq Q5X Q6Q
abbrev Q6S : AC := .block 1 Q6R
abbrev Q6T : AC := .run [(.op (some 83) none (.bin .add (.s 11) (.k (.int .i64 1)))), (.op (some 11) none (.mv (.s 83)))]
abbrev Q6U : AC := .seq Q6S Q6T
abbrev Q6V : AC := .seq Q5W Q6U
abbrev Q6W : AC := .seq Q5V Q6V
abbrev Q6X : AC := .loop Q6W
abbrev Q6Y : AC := .block 0 Q6X
abbrev Q6Z : AC := .seq Q5U Q6Y
abbrev Q70 : AC := .run [(.op (some 2) none (.mv (.k (.str []))))]
abbrev Q71 : AC := .run [(.op (some 3) none (.mv (.k (.str []))))]
abbrev Q72 : AC := .run [(.op (some 6) none (.mv (.s 0))), (.op (some 7) none (.len (.s 6))), (.op (some 8) none (.mv (.k (.int .i64 0))))]
abbrev Q73 : AC := .run [(.op (some 9) none (.bin .lss (.s 8) (.s 7)))]
abbrev Q74 : AC := .cond (.s 9) .skip (.exit 0)
abbrev Q75 : AC := .run [(.op (some 10) none (.iaddr (.s 6) (.s 8) 1)), (.op (some 11) none (.load (.s 10) false 1)), (.op (some 5) none (.mv (.s 11)))]
abbrev Q76 : AC := .run [(.op (some 12) none (.mv (.s 3))), (.op (some 13) none (.mv (.s 5))), (.op (some 14) none (.bin .add (.s 13) (.k (.str [58, 32])))), (.op (some 15) none (.bin .add (.s 12) (.s 14))), (.op (some 3) none (.mv (.s 15)))]
abbrev Q77 : AC := .seq Q75 Q76
abbrev Q78 : AC := .block 1 Q77
abbrev Q79 : AC := .run [(.op (some 16) none (.bin .add (.s 8) (.k (.int .i64 1)))), (.op (some 8) none (.mv (.s 16)))]
abbrev Q7A : AC := .seq Q78 Q79
abbrev Q7B : AC := .seq Q74 Q7A
abbrev Q7C : AC := .seq Q73 Q7B
abbrev Q7D : AC := .loop Q7C
abbrev Q7E : AC := .block 0 Q7D
abbrev Q7F : AC := .seq Q72 Q7E
abbrev Q7G : AC := .run [(.op (some 17) none (.mv (.s 3))), (.op (some 2) none (.mv (.s 17)))]
abbrev Q7H : AC := .seq Q7G .ret
abbrev Q7I : AC := .seq Q7F Q7H
abbrev Q7J : AC := .seq Q71 Q7I
abbrev Q7K : AC := .seq Q70 Q7J
abbrev Q7L : AC := .run [(.op (some 2) none (.box (.s 0))), (.op (some 4) none (.mv (.k (.int .i64 0))))]
abbrev Q7M : AC := .run [(.op (some 6) none (.faddr (.s 2) 2)), (.op (some 7) none (.load (.s 6) false 1)), (.op (some 8) none (.mv (.s 1))), (.call (some 9) none n_ref3_weighText [(.s 7), (.s 8)]), (.op (some 1) none (.mv (.s 9)))]
abbrev Q7N : AC := .run [(.op (some 5) none (.mv (.k (.int .i64 0))))]
abbrev Q7O : AC := .run [(.op (some 10) none (.mv (.s 5))), (.op (some 11) none (.faddr (.s 2) 3)), (.op (some 12) none (.load (.s 11) false 1)), (.op (some 13) none (.len (.s 12))), (.op (some 14) none (.bin .lss (.s 10) (.s 13))), (.op (some 15) none (.mv (.s 14))), (.op (some 16) (some (15, true)) (.mv (.s 1))), (.op (some 17) (some (15, true)) (.bin .leq (.s 16) (.k (.int .i64 20000)))), (.op (some 18) none (.pick (.s 15) (.s 17) (.k (.bool false))))]
abbrev Q7P : AC := .cond (.s 18) .skip (.exit 0)
abbrev Q7Q : AC := .seq Q7O Q7P
abbrev Q7R : AC := .run [(.op (some 21) none (.faddr (.s 2) 3)), (.op (some 22) none (.load (.s 21) false 1)), (.op (some 23) none (.mv (.s 5))), (.op (some 24) none (.iaddr (.s 22) (.s 23) 4)), (.op (some 25) none (.load (.s 24) true 4)), (.op (some 26) none (.mv (.s 1))), (.call (some 27) none n_ref3_weighExpr [(.s 25), (.s 26)]), (.op (some 1) none (.mv (.s 27)))]
abbrev Q7S : AC := .block 1 Q7R
abbrev Q7T : AC := .run [(.op (some 19) none (.mv (.s 5))), (.op (some 20) none (.bin .add (.s 19) (.k (.int .i64 1)))), (.op (some 5) none (.mv (.s 20)))]
abbrev Q7U : AC := .seq Q7S Q7T
abbrev Q7V : AC := .seq Q7Q Q7U
abbrev Q7W : AC := .loop Q7V
abbrev Q7X : AC := .block 0 Q7W
abbrev Q7Y : AC := .seq Q7N Q7X
abbrev Q7Z : AC := .run [(.op (some 28) none (.mv (.s 1))), (.op (some 4) none (.mv (.s 28)))]
abbrev Q80 : AC := .seq Q7Z .ret
abbrev Q81 : AC := .seq Q7Y Q80
abbrev Q82 : AC := .seq Q7M Q81
abbrev Q83 : AC := .seq Q7L Q82
abbrev Q84 : AC := .run [(.op (some 1) none (.box (.s 0))), (.op (some 2) none (.mv (.k (.bool false))))]
abbrev Q85 : AC := .run [(.op (some 3) none (.load (.s 1) true 4)), (.call (some 4) none n_tree_deep [(.s 3), (.k (.int .i64 20))]), (.op (some 2) none (.mv (.s 4)))]
abbrev Q86 : AC := .seq Q85 .ret
abbrev Q87 : AC := .seq Q84 Q86
abbrev Q88 : AC := .run [(.op (some 2) none (.box (.s 0))), (.op (some 4) none (.mv (.k (.str []))))]
abbrev Q89 : AC := .run [(.op (some 8) none (.faddr (.s 2) 0)), (.op (some 9) none (.load (.s 8) false 1))]
abbrev Q8A : AC := .run [(.op (some 11) none (.bin .eql (.s 9) (.k (.int .i64 1)))), (.op (some 10) none (.mv (.s 11)))]
abbrev Q8B : AC := .run [(.op (some 12) none (.faddr (.s 2) 1)), (.op (some 13) none (.load (.s 12) false 1)), (.call (some 14) none n_strconv_FormatInt [(.s 13), (.k (.int .i64 10))]), (.op (some 4) none (.mv (.s 14)))]
abbrev Q8C : AC := .seq Q8B .ret
abbrev Q8D : AC := .run [(.op (some 16) none (.bin .eql (.s 9) (.k (.int .i64 2)))), (.op (some 15) none (.mv (.s 16)))]
abbrev Q8E : AC := .run [(.op (some 17) none (.faddr (.s 2) 2)), (.op (some 18) none (.load (.s 17) false 1)), (.op (some 4) none (.mv (.s 18)))]
abbrev Q8F : AC := .seq Q8E .ret
abbrev Q8G : AC := .run [(.op (some 20) none (.bin .eql (.s 9) (.k (.int .i64 3)))), (.op (some 19) none (.mv (.s 20)))]
abbrev Q8H : AC := .run [(.op (some 21) none (.faddr (.s 2) 3)), (.op (some 22) none (.load (.s 21) false 1)), (.op (some 23) none (.iaddr (.s 22) (.k (.int .i64 0)) 4)), (.op (some 24) none (.load (.s 23) true 4)), (.call (some 25) none n_print_expr [(.s 24), (.k (.int .i64 7))]), (.op (some 26) none (.bin .add (.k (.str [45])) (.s 25))), (.op (some 4) none (.mv (.s 26)))]
abbrev Q8I : AC := .seq Q8H .ret
abbrev Q8J : AC := .run [(.op (some 28) none (.bin .eql (.s 9) (.k (.int .i64 4)))), (.op (some 27) none (.mv (.s 28)))]
abbrev Q8K : AC := .run [(.op (some 29) none (.faddr (.s 2) 3)), (.op (some 30) none (.load (.s 29) false 1)), (.op (some 31) none (.iaddr (.s 30) (.k (.int .i64 0)) 4)), (.op (some 32) none (.load (.s 31) true 4)), (.call (some 33) none n_print_expr [(.s 32), (.k (.int .i64 7))]), (.op (some 34) none (.bin .add (.k (.str [33])) (.s 33))), (.op (some 4) none (.mv (.s 34)))]
abbrev Q8L : AC := .seq Q8K .ret
abbrev Q8M : AC := .cond (.s 27) Q8L .skip
abbrev Q8N : AC := .seq Q8J Q8M
abbrev Q8O : AC := .cond (.s 19) Q8I Q8N
abbrev Q8P : AC := .seq Q8G Q8O
abbrev Q8Q : AC := .cond (.s 15) Q8F Q8P
abbrev Q8R : AC := .seq Q8D Q8Q
abbrev Q8S : AC := .cond (.s 10) Q8C Q8R
abbrev Q8T : AC := .seq Q8A Q8S
abbrev Q8U : AC := .block 0 Q8T
abbrev Q8V : AC := .seq Q89 Q8U
abbrev Q8W : AC := .run [(.op (some 36) none (.faddr (.s 2) 0)), (.op (some 37) none (.load (.s 36) false 1)), (.call (some 38) none n_print_sign [(.s 37)]), (.op (some 35) none (.mv (.s 38))), (.op (some 39) none (.ext (.s 35) 0)), (.op (some 40) none (.ext (.s 35) 1)), (.op (some 5) none (.mv (.s 39))), (.op (some 6) none (.mv (.s 40)))]
abbrev Q8X : AC := .par [(.op (some 41) none (.faddr (.s 2) 3)), (.op (some 42) none (.load (.s 41) false 1)), (.op (some 43) none (.iaddr (.s 42) (.k (.int .i64 0)) 4)), (.op (some 44) none (.load (.s 43) true 4)), (.op (some 45) none (.mv (.s 6))), (.call (some 46) none n_print_expr [(.s 44), (.s 45)]), (.op (some 47) none (.bin .add (.s 46) (.k (.str [32])))), (.op (some 48) none (.mv (.s 5))), (.op (some 49) none (.bin .add (.s 47) (.s 48))), (.op (some 50) none (.bin .add (.s 49) (.k (.str [32])))), (.op (some 51) none (.faddr (.s 2) 3)), (.op (some 52) none (.load (.s 51) false 1)), (.op (some 53) none (.iaddr (.s 52) (.k (.int .i64 1)) 4)), (.op (some 54) none (.load (.s 53) true 4)), (.op (some 55) none (.mv (.s 6))), (.op (some 56) none (.bin .add (.s 55) (.k (.int .i64 1)))), (.call (some 57) none n_print_expr [(.s 54), (.s 56)]), (.op (some 58) none (.bin .add (.s 50) (.s 57))), (.op (some 7) none (.mv (.s 58)))] [(0, 0), (1, 0), (2, 0), (3, 0), (4, 0), (5, 0), (10, 0), (11, 1), (12, 0), (13, 1), (14, 0), (15, 0), (16, 0), (6, 0), (7, 0), (8, 0), (9, 0), (17, 0), (18, 0)]
abbrev Q8Y : AC := .run [(.op (some 59) none (.mv (.s 6))), (.op (some 60) none (.mv (.s 1))), (.op (some 61) none (.bin .lss (.s 59) (.s 60)))]
abbrev Q8Z : AC := .run [(.op (some 62) none (.mv (.s 7))), (.op (some 63) none (.bin .add (.k (.str [40])) (.s 62))), (.op (some 64) none (.bin .add (.s 63) (.k (.str [41])))), (.op (some 4) none (.mv (.s 64)))]
abbrev Q90 : AC := .seq Q8Z .ret
abbrev Q91 : AC := .cond (.s 61) Q90 .skip
abbrev Q92 : AC := .seq Q8Y Q91
abbrev Q93 : AC := .run [(.op (some 65) none (.mv (.s 7))), (.op (some 4) none (.mv (.s 65)))]
abbrev Q94 : AC := .seq Q93 .ret
abbrev Q95 : AC := .seq Q92 Q94
abbrev Q96 : AC := .seq Q8X Q95
abbrev Q97 : AC := .seq Q8W Q96
abbrev Q98 : AC := .seq Q8V Q97
abbrev Q99 : AC := .seq Q88 Q98
abbrev Q9A : AC := .run [(.op (some 1) none (.box (.s 0))), (.op (some 2) none (.mv (.k (.str []))))]
abbrev Q9B : AC := .run [(.op (some 4) none (.faddr (.s 1) 0)), (.op (some 5) none (.load (.s 4) false 1)), (.call (some 6) none n_ref3_Arity [(.s 5)])]
abbrev Q9C : AC := .run [(.op (some 8) none (.bin .eql (.s 6) (.k (.int .i64 0)))), (.op (some 7) none (.mv (.s 8)))]
abbrev Q9D : AC := .run [(.op (some 9) none (.faddr (.s 1) 0)), (.op (some 10) none (.load (.s 9) false 1)), (.op (some 11) none (.bin .eql (.s 10) (.k (.int .i64 2))))]
abbrev Q9E : AC := .run [(.op (some 12) none (.faddr (.s 1) 2)), (.op (some 13) none (.load (.s 12) false 1)), (.op (some 2) none (.mv (.s 13)))]
abbrev Q9F : AC := .seq Q9E .ret
abbrev Q9G : AC := .cond (.s 11) Q9F .skip
abbrev Q9H : AC := .seq Q9D Q9G
abbrev Q9I : AC := .run [(.op (some 14) none (.faddr (.s 1) 1)), (.op (some 15) none (.load (.s 14) false 1)), (.call (some 16) none n_ref3_Dec [(.s 15)]), (.op (some 2) none (.mv (.s 16)))]
abbrev Q9J : AC := .seq Q9I .ret
abbrev Q9K : AC := .seq Q9H Q9J
abbrev Q9L : AC := .run [(.op (some 18) none (.bin .eql (.s 6) (.k (.int .i64 1)))), (.op (some 17) none (.mv (.s 18)))]
abbrev Q9M : AC := .run [(.op (some 19) none (.faddr (.s 1) 0)), (.op (some 20) none (.load (.s 19) false 1)), (.op (some 21) none (.bin .eql (.s 20) (.k (.int .i64 3))))]
abbrev Q9N : AC := .run [(.op (some 22) none (.faddr (.s 1) 3)), (.op (some 23) none (.load (.s 22) false 1)), (.op (some 24) none (.iaddr (.s 23) (.k (.int .i64 0)) 4)), (.op (some 25) none (.load (.s 24) true 4)), (.call (some 26) none n_ref3_kid [(.s 25), (.k (.int .i64 7))]), (.op (some 27) none (.bin .add (.k (.str [45])) (.s 26))), (.op (some 2) none (.mv (.s 27)))]
abbrev Q9O : AC := .seq Q9N .ret
abbrev Q9P : AC := .cond (.s 21) Q9O .skip
abbrev Q9Q : AC := .seq Q9M Q9P
abbrev Q9R : AC := .run [(.op (some 28) none (.faddr (.s 1) 3)), (.op (some 29) none (.load (.s 28) false 1)), (.op (some 30) none (.iaddr (.s 29) (.k (.int .i64 0)) 4)), (.op (some 31) none (.load (.s 30) true 4)), (.call (some 32) none n_ref3_kid [(.s 31), (.k (.int .i64 7))]), (.op (some 33) none (.bin .add (.k (.str [33])) (.s 32))), (.op (some 2) none (.mv (.s 33)))]
abbrev Q9S : AC := .seq Q9R .ret
abbrev Q9T : AC := .seq Q9Q Q9S
abbrev Q9U : AC := .cond (.s 17) Q9T .skip
abbrev Q9V : AC := .seq Q9L Q9U
abbrev Q9W : AC := .cond (.s 7) Q9K Q9V
abbrev Q9X : AC := .seq Q9C Q9W
abbrev Q9Y : AC := .block 0 Q9X
abbrev Q9Z : AC := .seq Q9B Q9Y
abbrev QA0 : AC := .run [(.op (some 34) none (.load (.s 1) true 4)), (.call (some 35) none n_ref3_much [(.s 34)]), (.op (some 3) none (.mv (.s 35)))]
abbrev QA1 : AC := .par [(.op (some 36) none (.faddr (.s 1) 3)), (.op (some 37) none (.load (.s 36) false 1)), (.op (some 38) none (.iaddr (.s 37) (.k (.int .i64 0)) 4)), (.op (some 39) none (.load (.s 38) true 4)), (.op (some 40) none (.mv (.s 3))), (.call (some 41) none n_ref3_kid [(.s 39), (.s 40)]), (.op (some 42) none (.bin .add (.s 41) (.k (.str [32])))), (.op (some 43) none (.faddr (.s 1) 0)), (.op (some 44) none (.load (.s 43) false 1)), (.call (some 45) none n_ref3_sign [(.s 44)]), (.op (some 46) none (.bin .add (.s 42) (.s 45))), (.op (some 47) none (.bin .add (.s 46) (.k (.str [32])))), (.op (some 48) none (.faddr (.s 1) 3)), (.op (some 49) none (.load (.s 48) false 1)), (.op (some 50) none (.iaddr (.s 49) (.k (.int .i64 1)) 4)), (.op (some 51) none (.load (.s 50) true 4)), (.op (some 52) none (.mv (.s 3))), (.op (some 53) none (.bin .add (.s 52) (.k (.int .i64 1)))), (.call (some 54) none n_ref3_kid [(.s 51), (.s 53)]), (.op (some 55) none (.bin .add (.s 47) (.s 54))), (.op (some 2) none (.mv (.s 55)))] [(0, 0), (1, 0), (2, 0), (3, 0), (4, 0), (5, 0), (7, 0), (8, 1), (9, 0), (12, 0), (13, 2), (14, 0), (15, 2), (16, 0), (17, 0), (18, 0), (6, 0), (10, 0), (11, 0), (19, 0), (20, 0)]
abbrev QA2 : AC := .seq QA1 .ret
abbrev QA3 : AC := .seq QA0 QA2
abbrev QA4 : AC := .seq Q9Z QA3
abbrev QA5 : AC := .seq Q9A QA4
abbrev QA6 : AC := .run [(.op (some 2) none (.mv (.k (.bool false))))]
abbrev QA7 : AC := .run [(.op (some 4) none (.mv (.s 0))), (.op (some 5) none (.bin .eql (.s 4) (.k (.str [])))), (.op (some 6) none (.mv (.s 5))), (.op (some 7) (some (6, false)) (.mv (.s 0))), (.op (some 8) (some (6, false)) (.slen (.s 7))), (.op (some 9) (some (6, false)) (.bin .gtr (.s 8) (.k (.int .i64 8)))), (.op (some 10) none (.pick (.s 6) (.k (.bool true)) (.s 9))), (.op (some 11) none (.mv (.s 10))), (.op (some 12) (some (11, false)) (.mv (.s 0))), (.op (some 13) (some (11, false)) (.sidx (.s 12) (.k (.int .i64 0)))), (.call (some 14) (some (11, false)) n_ref1_small [(.s 13)]), (.op (some 15) (some (11, false)) (.un .not (.s 14))), (.op (some 16) none (.pick (.s 11) (.k (.bool true)) (.s 15)))]
abbrev QA8 : AC := .run [(.op (some 2) none (.mv (.k (.bool false))))]
abbrev QA9 : AC := .seq QA8 .ret
abbrev QAA : AC := .cond (.s 16) QA9 .skip
abbrev QAB : AC := .seq QA7 QAA
abbrev QAC : AC := .run [(.op (some 3) none (.mv (.k (.int .i64 1))))]
abbrev QAD : AC := .run [(.op (some 17) none (.mv (.s 3))), (.op (some 18) none (.mv (.s 0))), (.op (some 19) none (.slen (.s 18))), (.op (some 20) none (.bin .lss (.s 17) (.s 19)))]
abbrev QAE : AC := .cond (.s 20) .skip (.exit 0)
abbrev QAF : AC := .seq QAD QAE
abbrev QAG : AC := .run [(.op (some 23) none (.mv (.s 0))), (.op (some 24) none (.mv (.s 3))), (.op (some 25) none (.sidx (.s 23) (.s 24))), (.call (some 26) none n_ref1_small [(.s 25)]), (.op (some 27) none (.un .not (.s 26))), (.op (some 28) none (.mv (.s 27))), (.op (some 29) (some (28, true)) (.mv (.s 0))), (.op (some 30) (some (28, true)) (.mv (.s 3))), (.op (some 31) (some (28, true)) (.sidx (.s 29) (.s 30))), (.call (some 32) (some (28, true)) n_ref1_digit [(.s 31)]), (.op (some 33) (some (28, true)) (.un .not (.s 32))), (.op (some 34) none (.pick (.s 28) (.s 33) (.k (.bool false))))]
abbrev QAH : AC := .run [(.op (some 2) none (.mv (.k (.bool false))))]
abbrev QAI : AC := .seq QAH .ret
abbrev QAJ : AC := .cond (.s 34) QAI .skip
abbrev QAK : AC := .seq QAG QAJ
abbrev QAL : AC := .block 1 QAK
abbrev QAM : AC := .run [(.op (some 21) none (.mv (.s 3))), (.op (some 22) none (.bin .add (.s 21) (.k (.int .i64 1)))), (.op (some 3) none (.mv (.s 22)))]
abbrev QAN : AC := .seq QAL QAM
abbrev QAO : AC := .seq QAF QAN
abbrev QAP : AC := .loop QAO
abbrev QAQ : AC := .block 0 QAP
abbrev QAR : AC := .seq QAC QAQ
abbrev QAS : AC := .run [(.op (some 35) none (.mv (.s 0))), (.call (some 36) none n_ref1_Word [(.s 35)]), (.op (some 37) none (.un .not (.s 36))), (.op (some 2) none (.mv (.s 37)))]
abbrev QAT : AC := .seq QAS .ret
abbrev QAU : AC := .seq QAR QAT
abbrev QAV : AC := .seq QAB QAU
abbrev QAW : AC := .seq QA6 QAV
abbrev QAX : AC := .run [(.op (some 2) none (.box (.s 0))), (.op (some 4) none (.mv (.k (.int .i64 0))))]
abbrev QAY : AC := .run [(.op (some 8) none (.mv (.s 1))), (.op (some 9) none (.bin .eql (.s 8) (.k (.int .i64 0))))]
abbrev QAZ : AC := .run [(.op (some 4) none (.mv (.k (.int .i64 1))))]
abbrev QB0 : AC := .seq QAZ .ret
abbrev QB1 : AC := .cond (.s 9) QB0 .skip
abbrev QB2 : AC := .seq QAY QB1
abbrev QB3 : AC := .run [(.op (some 5) none (.mv (.k (.int .i64 0))))]
abbrev QB4 : AC := .run [(.op (some 6) none (.mv (.k (.int .i64 0))))]
abbrev QB5 : AC := .run [(.op (some 10) none (.mv (.s 6))), (.op (some 11) none (.faddr (.s 2) 3)), (.op (some 12) none (.load (.s 11) false 1)), (.op (some 13) none (.len (.s 12))), (.op (some 14) none (.bin .lss (.s 10) (.s 13))), (.op (some 15) none (.mv (.s 14))), (.op (some 16) (some (15, true)) (.mv (.s 5))), (.op (some 17) (some (15, true)) (.mv (.s 1))), (.op (some 18) (some (15, true)) (.bin .lss (.s 16) (.s 17))), (.op (some 19) none (.pick (.s 15) (.s 18) (.k (.bool false))))]
abbrev QB6 : AC := .cond (.s 19) .skip (.exit 0)
abbrev QB7 : AC := .seq QB5 QB6
abbrev QB8 : AC := .run [(.op (some 22) none (.faddr (.s 2) 3)), (.op (some 23) none (.load (.s 22) false 1)), (.op (some 24) none (.mv (.s 6))), (.op (some 25) none (.iaddr (.s 23) (.s 24) 4)), (.op (some 26) none (.load (.s 25) true 4)), (.op (some 27) none (.mv (.s 1))), (.op (some 28) none (.bin .sub (.s 27) (.k (.int .i64 1)))), (.call (some 29) none n_ref3_deep [(.s 26), (.s 28)]), (.op (some 7) none (.mv (.s 29)))]
abbrev QB9 : AC := .run [(.op (some 30) none (.mv (.s 7))), (.op (some 31) none (.mv (.s 5))), (.op (some 32) none (.bin .gtr (.s 30) (.s 31)))]
abbrev QBA : AC := .run [(.op (some 33) none (.mv (.s 7))), (.op (some 5) none (.mv (.s 33)))]
abbrev QBB : AC := .cond (.s 32) QBA .skip
abbrev QBC : AC := .seq QB9 QBB
abbrev QBD : AC := .seq QB8 QBC
abbrev QBE : AC := .block 1 QBD
abbrev QBF : AC := .run [(.op (some 20) none (.mv (.s 6))), (.op (some 21) none (.bin .add (.s 20) (.k (.int .i64 1)))), (.op (some 6) none (.mv (.s 21)))]
abbrev QBG : AC := .seq QBE QBF
abbrev QBH : AC := .seq QB7 QBG
abbrev QBI : AC := .loop QBH
abbrev QBJ : AC := .block 0 QBI
abbrev QBK : AC := .seq QB4 QBJ
abbrev QBL : AC := .run [(.op (some 34) none (.mv (.s 5))), (.op (some 35) none (.bin .add (.s 34) (.k (.int .i64 1)))), (.op (some 4) none (.mv (.s 35)))]
abbrev QBM : AC := .seq QBL .ret
abbrev QBN : AC := .seq QBK QBM
abbrev QBO : AC := .seq QB3 QBN
abbrev QBP : AC := .seq QB2 QBO
abbrev QBQ : AC := .seq QAX QBP
abbrev QBR : AC := .run [(.op (some 1) none (.box (.s 0))), (.op (some 2) none (.mv (.k (.bool false))))]
abbrev QBS : AC := .par [(.op (some 4) none (.faddr (.s 1) 0)), (.op (some 5) none (.load (.s 4) false 1)), (.call (some 6) none n_ref3_Arity [(.s 5)]), (.op (some 7) none (.faddr (.s 1) 3)), (.op (some 8) none (.load (.s 7) false 1)), (.op (some 9) none (.len (.s 8))), (.op (some 10) none (.bin .neq (.s 6) (.s 9))), (.op (some 11) none (.mv (.s 10))), (.op (some 12) (some (11, false)) (.faddr (.s 1) 0)), (.op (some 13) (some (11, false)) (.load (.s 12) false 1)), (.op (some 14) (some (11, false)) (.bin .neq (.s 13) (.k (.int .i64 1)))), (.op (some 15) (some (11, false)) (.mv (.s 14))), (.op (some 16) (some (15, true)) (.faddr (.s 1) 1)), (.op (some 17) (some (15, true)) (.load (.s 16) false 1)), (.op (some 18) (some (15, true)) (.bin .neq (.s 17) (.k (.int .i64 0)))), (.op (some 19) (some (11, false)) (.pick (.s 15) (.s 18) (.k (.bool false)))), (.op (some 20) none (.pick (.s 11) (.k (.bool true)) (.s 19))), (.op (some 21) none (.mv (.s 20))), (.op (some 22) (some (21, false)) (.faddr (.s 1) 1)), (.op (some 23) (some (21, false)) (.load (.s 22) false 1)), (.op (some 24) (some (21, false)) (.bin .lss (.s 23) (.k (.int .i64 0)))), (.op (some 25) none (.pick (.s 21) (.k (.bool true)) (.s 24))), (.op (some 26) none (.mv (.s 25))), (.op (some 27) (some (26, false)) (.faddr (.s 1) 0)), (.op (some 28) (some (26, false)) (.load (.s 27) false 1)), (.op (some 29) (some (26, false)) (.bin .eql (.s 28) (.k (.int .i64 2)))), (.op (some 30) (some (26, false)) (.faddr (.s 1) 2)), (.op (some 31) (some (26, false)) (.load (.s 30) false 1)), (.op (some 32) (some (26, false)) (.bin .neq (.s 31) (.k (.str [])))), (.op (some 33) (some (26, false)) (.eqb true (.s 29) (.s 32))), (.op (some 34) none (.pick (.s 26) (.k (.bool true)) (.s 33))), (.op (some 35) none (.mv (.s 34))), (.op (some 36) (some (35, false)) (.faddr (.s 1) 2)), (.op (some 37) (some (35, false)) (.load (.s 36) false 1)), (.op (some 38) (some (35, false)) (.bin .neq (.s 37) (.k (.str [])))), (.op (some 39) (some (35, false)) (.mv (.s 38))), (.op (some 40) (some (39, true)) (.faddr (.s 1) 2)), (.op (some 41) (some (39, true)) (.load (.s 40) false 1)), (.call (some 42) (some (39, true)) n_ref1_Name [(.s 41)]), (.op (some 43) (some (39, true)) (.un .not (.s 42))), (.op (some 44) (some (35, false)) (.pick (.s 39) (.s 43) (.k (.bool false)))), (.op (some 45) none (.pick (.s 35) (.k (.bool true)) (.s 44)))] [(0, 0), (1, 0), (2, 0), (3, 0), (4, 1), (5, 0), (6, 0), (7, 0), (8, 0), (9, 0), (10, 0), (11, 0), (12, 0), (13, 0), (14, 0), (15, 0), (16, 0), (17, 0), (18, 0), (19, 0), (20, 0), (21, 0), (22, 0), (23, 0), (24, 0), (25, 0), (26, 0), (27, 0), (28, 0), (29, 0), (30, 0), (31, 0), (32, 0), (33, 0), (34, 0), (35, 0), (36, 0), (37, 0), (38, 0), (39, 0), (40, 0), (41, 0)]
abbrev QBT : AC := .run [(.op (some 2) none (.mv (.k (.bool false))))]
abbrev QBU : AC := .seq QBT .ret
abbrev QBV : AC := .cond (.s 45) QBU .skip
abbrev QBW : AC := .seq QBS QBV
abbrev QBX : AC := .run [(.op (some 46) none (.faddr (.s 1) 3)), (.op (some 47) none (.load (.s 46) false 1)), (.op (some 48) none (.len (.s 47))), (.op (some 49) none (.mv (.k (.int .i64 0))))]
abbrev QBY : AC := .run [(.op (some 50) none (.bin .lss (.s 49) (.s 48)))]
abbrev QBZ : AC := .cond (.s 50) .skip (.exit 0)
abbrev QC0 : AC := .run [(.op (some 51) none (.mv (.s 49))), (.op (some 3) none (.mv (.s 51)))]
abbrev QC1 : AC := .run [(.op (some 52) none (.faddr (.s 1) 3)), (.op (some 53) none (.load (.s 52) false 1)), (.op (some 54) none (.mv (.s 3))), (.op (some 55) none (.iaddr (.s 53) (.s 54) 4)), (.op (some 56) none (.load (.s 55) true 4)), (.call (some 57) none n_ref3_form [(.s 56)]), (.op (some 58) none (.un .not (.s 57)))]
abbrev QC2 : AC := .run [(.op (some 2) none (.mv (.k (.bool false))))]
abbrev QC3 : AC := .seq QC2 .ret
abbrev QC4 : AC := .cond (.s 58) QC3 .skip
abbrev QC5 : AC := .seq QC1 QC4
abbrev QC6 : AC := .seq QC0 QC5
abbrev QC7 : AC := .block 1 QC6
abbrev QC8 : AC := .run [(.op (some 59) none (.bin .add (.s 49) (.k (.int .i64 1)))), (.op (some 49) none (.mv (.s 59)))]
abbrev QC9 : AC := .seq QC7 QC8
abbrev QCA : AC := .seq QBZ QC9
abbrev QCB : AC := .seq QBY QCA
abbrev QCC : AC := .loop QCB
abbrev QCD : AC := .block 0 QCC
abbrev QCE : AC := .seq QBX QCD
abbrev QCF : AC := .run [(.op (some 2) none (.mv (.k (.bool true))))]
abbrev QCG : AC := .seq QCF .ret
abbrev QCH : AC := .seq QCE QCG
abbrev QCI : AC := .seq QBW QCH
abbrev QCJ : AC := .seq QBR QCI
abbrev QCK : AC := .run [(.op (some 2) none (.mv (.k (.slice .full 0 [])))), (.op (some 3) none (.alloc [(.int .i64 0), (.int .i64 0)]))]
abbrev QCL : AC := .run [(.op (some 4) none (.mv (.k (.slice .full 0 []))))]
abbrev QCM : AC := .run [(.op (some 5) none (.alloc [(.int .i64 0), (.str []), (.int .i64 0), (.int .i64 0)]))]
abbrev QCN : AC := .run [(.op (some 6) none (.mv (.k (.int .i64 0)))), (.op (some 7) none (.mv (.k (.int .i64 0)))), (.op (some 8) none (.mv (.k (.bool true))))]
abbrev QCO : AC := .run [(.op (some 10) none (.mv (.s 0))), (.op (some 11) none (.slen (.s 10))), (.op (some 12) none (.bin .gtr (.s 11) (.k (.int .i64 100000))))]
abbrev QCP : AC := .run [(.op (some 13) none (.build [(.int .i64 0), (.int .i64 0)] [(0, (1, (.k (.int .i64 4))))])), (.op (some 2) none (.mv (.k (.slice .full 0 [])))), (.op none none (.store (.s 3) (.s 13) 2))]
abbrev QCQ : AC := .seq QCP .ret
abbrev QCR : AC := .cond (.s 12) QCQ .skip
abbrev QCS : AC := .seq QCO QCR
abbrev QCT : AC := .run [(.op (some 14) none (.mv (.s 6))), (.op (some 15) none (.mv (.s 0))), (.op (some 16) none (.slen (.s 15))), (.op (some 17) none (.bin .geq (.s 14) (.s 16)))]
abbrev QCU : AC := .run [(.op (some 18) none (.mv (.s 4))), (.op (some 19) none (.mv (.s 0))), (.op (some 20) none (.slen (.s 19))), (.op (some 21) none (.build [(.int .i64 0), (.str []), (.int .i64 0), (.int .i64 0)] [(3, (1, (.s 20)))])), (.op (some 22) none (.bslice [(.int .i64 0), (.str []), (.int .i64 0), (.int .i64 0)] 4 1 [(0, (.s 21))])), (.op (some 23) none (.app 4 40 (.s 18) (.s 22))), (.op (some 24) none (.build [(.int .i64 0), (.int .i64 0)] [])), (.op (some 2) none (.mv (.s 23))), (.op none none (.store (.s 3) (.s 24) 2))]
abbrev QCV : AC := .seq QCU .ret
abbrev QCW : AC := .cond (.s 17) QCV .skip
abbrev QCX : AC := .seq QCT QCW
abbrev QCY : AC := .run [(.op (some 25) none (.mv (.s 6))), (.op (some 26) none (.build [(.int .i64 0), (.str []), (.int .i64 0), (.int .i64 0)] [(3, (1, (.s 25)))])), (.op none none (.store (.s 5) (.s 26) 4))]
abbrev QCZ : AC := .run [(.op (some 27) none (.mv (.s 0))), (.op (some 28) none (.mv (.s 6))), (.op (some 29) none (.sidx (.s 27) (.s 28))), (.op (some 9) none (.mv (.s 29)))]
abbrev QD0 : AC := .run [(.op (some 31) none (.mv (.s 9))), (.op (some 32) none (.bin .eql (.s 31) (.k (.int .u8 32)))), (.op (some 33) none (.mv (.s 32))), (.op (some 34) (some (33, false)) (.mv (.s 9))), (.op (some 35) (some (33, false)) (.bin .eql (.s 34) (.k (.int .u8 9)))), (.op (some 36) none (.pick (.s 33) (.k (.bool true)) (.s 35))), (.op (some 37) none (.mv (.s 36))), (.op (some 38) (some (37, false)) (.mv (.s 9))), (.op (some 39) (some (37, false)) (.bin .eql (.s 38) (.k (.int .u8 10)))), (.op (some 40) none (.pick (.s 37) (.k (.bool true)) (.s 39))), (.op (some 41) none (.mv (.s 40))), (.op (some 42) (some (41, false)) (.mv (.s 9))), (.op (some 43) (some (41, false)) (.bin .eql (.s 42) (.k (.int .u8 13)))), (.op (some 44) none (.pick (.s 41) (.k (.bool true)) (.s 43))), (.op (some 30) none (.mv (.s 44)))]
abbrev QD1 : AC := .run [(.op (some 45) none (.mv (.s 6))), (.op (some 46) none (.bin .add (.s 45) (.k (.int .i64 1)))), (.op (some 6) none (.mv (.s 46)))]
abbrev QD2 : AC := .seq QD1 (.goto 0)
abbrev QD3 : AC := .run [(.op (some 48) none (.mv (.s 9))), (.op (some 49) none (.bin .eql (.s 48) (.k (.int .u8 35)))), (.op (some 47) none (.mv (.s 49)))]
abbrev QD4 : AC := .run [(.op (some 51) none (.mv (.s 9))), (.call (some 52) none n_lex_letter [(.s 51)]), (.op (some 50) none (.mv (.s 52)))]
abbrev QD5 : AC := .run [(.op (some 54) none (.mv (.s 9))), (.call (some 55) none n_lex_digit [(.s 54)]), (.op (some 53) none (.mv (.s 55)))]
abbrev QD6 : AC := .cond (.s 53) (.goto 3) .skip
abbrev QD7 : AC := .seq QD5 QD6
abbrev QD8 : AC := .cond (.s 50) (.goto 2) QD7
abbrev QD9 : AC := .seq QD4 QD8
abbrev QDA : AC := .cond (.s 47) (.goto 1) QD9
abbrev QDB : AC := .seq QD3 QDA
abbrev QDC : AC := .cond (.s 30) QD2 QDB
abbrev QDD : AC := .seq QD0 QDC
abbrev QDE : AC := .block 0 QDD
abbrev QDF : AC := .seq QCZ QDE
abbrev QDG : AC := .run [(.op (some 56) none (.faddr (.s 5) 0)), (.op none none (.store (.s 56) (.k (.int .i64 4)) 1))]
abbrev QDH : AC := .run [(.op (some 57) none (.mv (.s 6))), (.op (some 58) none (.mv (.s 0))), (.op (some 59) none (.mv (.s 6))), (.call (some 60) none n_lex_sign [(.s 58), (.s 59)]), (.op (some 61) none (.bin .add (.s 57) (.s 60))), (.op (some 6) none (.mv (.s 61)))]
abbrev QDI : AC := .run [(.op (some 62) none (.mv (.s 0))), (.op (some 63) none (.faddr (.s 5) 3)), (.op (some 64) none (.load (.s 63) false 1)), (.op (some 65) none (.mv (.s 6))), (.op (some 66) none (.sslc (.s 62) (some (.s 64)) (some (.s 65)))), (.op (some 67) none (.faddr (.s 5) 1)), (.op none none (.store (.s 67) (.s 66) 1))]
abbrev QDJ : AC := .run [(.op (some 7) none (.mv (.k (.int .i64 2))))]
abbrev QDK : AC := .run [(.op (some 68) none (.mv (.s 6))), (.op (some 69) none (.faddr (.s 5) 3)), (.op (some 70) none (.load (.s 69) false 1)), (.op (some 71) none (.bin .gtr (.s 68) (.s 70)))]
abbrev QDL : AC := .cond (.s 71) (.goto 4) .skip
abbrev QDM : AC := .seq QDK QDL
abbrev QDN : AC := .run [(.op (some 72) none (.mv (.s 6))), (.op (some 73) none (.mv (.s 0))), (.op (some 74) none (.slen (.s 73))), (.op (some 75) none (.bin .lss (.s 72) (.s 74))), (.op (some 76) none (.mv (.s 75))), (.op (some 77) (some (76, true)) (.mv (.s 0))), (.op (some 78) (some (76, true)) (.mv (.s 6))), (.op (some 79) (some (76, true)) (.sidx (.s 77) (.s 78))), (.op (some 80) (some (76, true)) (.bin .neq (.s 79) (.k (.int .u8 10)))), (.op (some 81) none (.pick (.s 76) (.s 80) (.k (.bool false))))]
abbrev QDO : AC := .cond (.s 81) .skip (.exit 1)
abbrev QDP : AC := .seq QDN QDO
abbrev QDQ : AC := .run [(.op (some 82) none (.mv (.s 6))), (.op (some 83) none (.bin .add (.s 82) (.k (.int .i64 1)))), (.op (some 6) none (.mv (.s 83)))]
abbrev QDR : AC := .block 2 QDQ
abbrev QDS : AC := .seq QDP QDR
abbrev QDT : AC := .loop QDS
abbrev QDU : AC := .block 1 QDT
abbrev QDV : AC := .run [(.op (some 84) none (.mv (.s 0))), (.op (some 85) none (.mv (.s 6))), (.call (some 86) none n_lex_run [(.s 84), (.s 85)]), (.op (some 6) none (.mv (.s 86)))]
abbrev QDW : AC := .par [(.op (some 87) none (.mv (.s 0))), (.op (some 88) none (.faddr (.s 5) 3)), (.op (some 89) none (.load (.s 88) false 1)), (.op (some 90) none (.mv (.s 6))), (.op (some 91) none (.sslc (.s 87) (some (.s 89)) (some (.s 90)))), (.op (some 92) none (.faddr (.s 5) 0)), (.op none none (.store (.s 92) (.k (.int .i64 1)) 1)), (.op (some 93) none (.faddr (.s 5) 1)), (.op none none (.store (.s 93) (.s 91) 1))] [(1, 0), (2, 0), (5, 0), (6, 0), (0, 0), (3, 0), (4, 0), (7, 0), (8, 0)]
abbrev QDX : AC := .run [(.op (some 94) none (.faddr (.s 5) 1)), (.op (some 95) none (.load (.s 94) false 1)), (.call (some 96) none n_lex_Word [(.s 95)])]
abbrev QDY : AC := .run [(.op (some 97) none (.faddr (.s 5) 0)), (.op none none (.store (.s 97) (.k (.int .i64 3)) 1))]
abbrev QDZ : AC := .cond (.s 96) QDY .skip
abbrev QE0 : AC := .seq QDX QDZ
abbrev QE1 : AC := .run [(.op (some 7) none (.mv (.k (.int .i64 4))))]
abbrev QE2 : AC := .run [(.op (some 98) none (.mv (.s 6))), (.op (some 99) none (.faddr (.s 5) 3)), (.op (some 100) none (.load (.s 99) false 1)), (.op (some 101) none (.bin .sub (.s 98) (.s 100))), (.op (some 102) none (.bin .gtr (.s 101) (.k (.int .i64 8))))]
abbrev QE3 : AC := .cond (.s 102) (.goto 5) .skip
abbrev QE4 : AC := .seq QE2 QE3
abbrev QE5 : AC := .run [(.op (some 103) none (.mv (.s 6))), (.op (some 104) none (.mv (.s 0))), (.op (some 105) none (.slen (.s 104))), (.op (some 106) none (.bin .lss (.s 103) (.s 105))), (.op (some 107) none (.mv (.s 106))), (.op (some 108) (some (107, true)) (.mv (.s 0))), (.op (some 109) (some (107, true)) (.mv (.s 6))), (.op (some 110) (some (107, true)) (.sidx (.s 108) (.s 109))), (.call (some 111) (some (107, true)) n_lex_digit [(.s 110)]), (.op (some 112) none (.pick (.s 107) (.s 111) (.k (.bool false))))]
abbrev QE6 : AC := .cond (.s 112) .skip (.exit 3)
abbrev QE7 : AC := .seq QE5 QE6
abbrev QE8 : AC := .run [(.op (some 113) none (.mv (.s 6))), (.op (some 114) none (.bin .add (.s 113) (.k (.int .i64 1)))), (.op (some 6) none (.mv (.s 114)))]
abbrev QE9 : AC := .block 4 QE8
abbrev QEA : AC := .seq QE7 QE9
abbrev QEB : AC := .loop QEA
abbrev QEC : AC := .block 3 QEB
abbrev QED : AC := .par [(.op (some 115) none (.mv (.s 0))), (.op (some 116) none (.faddr (.s 5) 3)), (.op (some 117) none (.load (.s 116) false 1)), (.op (some 118) none (.mv (.s 6))), (.op (some 119) none (.sslc (.s 115) (some (.s 117)) (some (.s 118)))), (.op (some 120) none (.faddr (.s 5) 0)), (.op none none (.store (.s 120) (.k (.int .i64 2)) 1)), (.op (some 121) none (.faddr (.s 5) 1)), (.op none none (.store (.s 121) (.s 119) 1)), (.op (some 7) none (.mv (.k (.int .i64 2))))] [(1, 0), (2, 0), (5, 0), (6, 0), (0, 0), (3, 0), (4, 0), (7, 0), (8, 0), (9, 0)]
abbrev QEE : AC := .run [(.op (some 122) none (.faddr (.s 5) 1)), (.op (some 123) none (.load (.s 122) false 1)), (.op (some 124) none (.slen (.s 123))), (.op (some 125) none (.bin .gtr (.s 124) (.k (.int .i64 1)))), (.op (some 126) none (.mv (.s 125))), (.op (some 127) (some (126, true)) (.faddr (.s 5) 1)), (.op (some 128) (some (126, true)) (.load (.s 127) false 1)), (.op (some 129) (some (126, true)) (.sidx (.s 128) (.k (.int .i64 0)))), (.op (some 130) (some (126, true)) (.bin .eql (.s 129) (.k (.int .u8 48)))), (.op (some 131) none (.pick (.s 126) (.s 130) (.k (.bool false))))]
abbrev QEF : AC := .cond (.s 131) (.goto 5) .skip
abbrev QEG : AC := .seq QEE QEF
abbrev QEH : AC := .run [(.op (some 133) none (.faddr (.s 5) 1)), (.op (some 134) none (.load (.s 133) false 1)), (.call (some 135) none n_lex_number [(.s 134)]), (.op (some 132) none (.mv (.s 135))), (.op (some 136) none (.ext (.s 132) 0)), (.op (some 137) none (.ext (.s 132) 1)), (.op (some 138) none (.faddr (.s 5) 2)), (.op none none (.store (.s 138) (.s 136) 1)), (.op (some 8) none (.mv (.s 137)))]
abbrev QEI : AC := .run [(.op (some 7) none (.mv (.k (.int .i64 4))))]
abbrev QEJ : AC := .run [(.op (some 139) none (.mv (.s 8))), (.op (some 140) none (.un .not (.s 139)))]
abbrev QEK : AC := .cond (.s 140) (.goto 5) .skip
abbrev QEL : AC := .seq QEJ QEK
abbrev QEM : AC := .run [(.op (some 7) none (.mv (.k (.int .i64 4))))]
abbrev QEN : AC := .run [(.op (some 141) none (.mv (.s 4))), (.op (some 142) none (.len (.s 141))), (.op (some 143) none (.bin .eql (.s 142) (.k (.int .i64 2000))))]
abbrev QEO : AC := .cond (.s 143) (.goto 5) .skip
abbrev QEP : AC := .seq QEN QEO
abbrev QEQ : AC := .run [(.op (some 144) none (.mv (.s 4))), (.op (some 145) none (.load (.s 5) true 4)), (.op (some 146) none (.bslice [(.int .i64 0), (.str []), (.int .i64 0), (.int .i64 0)] 4 1 [(0, (.s 145))])), (.op (some 147) none (.app 4 40 (.s 144) (.s 146))), (.op (some 4) none (.mv (.s 147)))]
abbrev QER : AC := .par [(.op (some 148) none (.mv (.s 7))), (.op (some 149) none (.faddr (.s 5) 3)), (.op (some 150) none (.load (.s 149) false 1)), (.op (some 151) none (.build [(.int .i64 0), (.int .i64 0)] [(0, (1, (.s 148))), (1, (1, (.s 150)))])), (.op (some 2) none (.mv (.k (.slice .full 0 [])))), (.op none none (.store (.s 3) (.s 151) 2))] [(0, 0), (1, 0), (2, 0), (3, 0), (4, 0), (5, 0)]
abbrev QES : AC := .seq QER .ret
abbrev QET : AC := .seq (.label 5) QES
abbrev QEU : AC := .seq (.goto 0) QET
abbrev QEV : AC := .seq QEQ QEU
abbrev QEW : AC := .seq QEP QEV
abbrev QEX : AC := .seq QEM QEW
abbrev QEY : AC := .seq (.label 4) QEX
abbrev QEZ : AC := .seq QEL QEY
abbrev QF0 : AC := .seq QEI QEZ
abbrev QF1 : AC := .seq QEH QF0
abbrev QF2 : AC := .seq QEG QF1
abbrev QF3 : AC := .seq QED QF2
abbrev QF4 : AC := .seq QEC QF3
abbrev QF5 : AC := .seq (.label 3) QF4
abbrev QF6 : AC := .seq (.goto 4) QF5
abbrev QF7 : AC := .seq QE4 QF6
abbrev QF8 : AC := .seq QE1 QF7
abbrev QF9 : AC := .seq QE0 QF8
abbrev QFA : AC := .seq QDW QF9
abbrev QFB : AC := .seq QDV QFA
abbrev QFC : AC := .seq (.label 2) QFB
abbrev QFD : AC := .seq (.goto 0) QFC
abbrev QFE : AC := .seq QDU QFD
abbrev QFF : AC := .seq (.label 1) QFE
abbrev QFG : AC := .seq (.goto 5) QFF
abbrev QFH : AC := .seq QDM QFG
abbrev QFI : AC := .seq QDJ QFH
abbrev QFJ : AC := .seq QDI QFI
abbrev QFK : AC := .seq QDH QFJ
abbrev QFL : AC := .seq QDG QFK
abbrev QFM : AC := .seq QDF QFL
abbrev QFN : AC := .seq QCY QFM
abbrev QFO : AC := .seq QCX QFN
abbrev QFP : AC := .seq (.label 0) QFO
abbrev QFQ : AC := .seq QCS QFP
abbrev QFR : AC := .seq QCN QFQ
abbrev QFS : AC := .seq QCM QFR
abbrev QFT : AC := .seq QCL QFS
abbrev QFU : AC := .scope QFT
abbrev QFV : AC := .seq QCK QFU
abbrev QFW : AC := .run [(.op (some 2) none (.alloc [(.int .i64 0), (.int .i64 0), (.str []), (.slice .full 0 [])]))]
abbrev QFX : AC := .run [(.op (some 3) none (.mv (.s 0))), (.op (some 4) none (.build [(.int .i64 0), (.int .i64 0), (.str []), (.slice .full 0 [])] [(0, (1, (.k (.int .i64 1)))), (1, (1, (.s 3)))])), (.op none none (.store (.s 2) (.s 4) 4))]
abbrev QFY : AC := .seq QFX .ret
abbrev QFZ : AC := .seq QFW QFY
abbrev QG0 : AC := .run [(.op (some 2) none (.alloc [(.int .i64 0), (.int .i64 0), (.str []), (.slice .full 0 [])]))]
abbrev QG1 : AC := .run [(.op (some 3) none (.mv (.s 0))), (.op (some 4) none (.build [(.int .i64 0), (.int .i64 0), (.str []), (.slice .full 0 [])] [(0, (1, (.k (.int .i64 2)))), (2, (1, (.s 3)))])), (.op none none (.store (.s 2) (.s 4) 4))]
abbrev QG2 : AC := .seq QG1 .ret
abbrev QG3 : AC := .seq QG0 QG2
abbrev QG4 : AC := .run [(.op (some 4) none (.box (.s 1))), (.op (some 5) none (.box (.s 2))), (.op (some 6) none (.alloc [(.int .i64 0), (.int .i64 0), (.str []), (.slice .full 0 [])]))]
abbrev QG5 : AC := .run [(.op (some 7) none (.mv (.s 0))), (.op (some 8) none (.load (.s 4) true 4)), (.op (some 9) none (.load (.s 5) true 4)), (.op (some 10) none (.bslice [(.int .i64 0), (.int .i64 0), (.str []), (.slice .full 0 [])] 4 2 [(0, (.s 8)), (1, (.s 9))])), (.op (some 11) none (.build [(.int .i64 0), (.int .i64 0), (.str []), (.slice .full 0 [])] [(0, (1, (.s 7))), (3, (1, (.s 10)))])), (.op none none (.store (.s 6) (.s 11) 4))]
abbrev QG6 : AC := .seq QG5 .ret
abbrev QG7 : AC := .seq QG4 QG6
abbrev QG8 : AC := .run [(.op (some 2) none (.mv (.k (.bool false))))]
abbrev QG9 : AC := .run [(.op (some 5) none (.mv (.s 0))), (.op (some 6) none (.len (.s 5))), (.op (some 7) none (.mv (.k (.int .i64 0))))]
abbrev QGA : AC := .run [(.op (some 8) none (.bin .lss (.s 7) (.s 6)))]
abbrev QGB : AC := .cond (.s 8) .skip (.exit 0)
abbrev QGC : AC := .run [(.op (some 9) none (.iaddr (.s 5) (.s 7) 1)), (.op (some 10) none (.load (.s 9) false 1)), (.op (some 4) none (.mv (.s 10)))]
abbrev QGD : AC := .run [(.op (some 11) none (.mv (.s 4))), (.call (some 12) none n_lex_Name [(.s 11)]), (.op (some 13) none (.un .not (.s 12)))]
abbrev QGE : AC := .run [(.op (some 2) none (.mv (.k (.bool false))))]
abbrev QGF : AC := .seq QGE .ret
abbrev QGG : AC := .cond (.s 13) QGF .skip
abbrev QGH : AC := .seq QGD QGG
abbrev QGI : AC := .seq QGC QGH
abbrev QGJ : AC := .block 1 QGI
abbrev QGK : AC := .run [(.op (some 14) none (.bin .add (.s 7) (.k (.int .i64 1)))), (.op (some 7) none (.mv (.s 14)))]
abbrev QGL : AC := .seq QGJ QGK
abbrev QGM : AC := .seq QGB QGL
abbrev QGN : AC := .seq QGA QGM
abbrev QGO : AC := .loop QGN
abbrev QGP : AC := .block 0 QGO
abbrev QGQ : AC := .seq QG9 QGP
abbrev QGR : AC := .run [(.op (some 2) none (.mv (.k (.bool true))))]
abbrev QGS : AC := .seq QGR .ret
abbrev QGT : AC := .seq QGQ QGS
abbrev QGU : AC := .seq QG8 QGT
abbrev QGV : AC := .run [(.op (some 2) none (.mv (.k (.bool false))))]
abbrev QGW : AC := .run [(.op (some 3) none (.mv (.s 0))), (.op (some 4) none (.slen (.s 3))), (.op (some 5) none (.bin .lss (.s 4) (.k (.int .i64 1)))), (.op (some 6) none (.mv (.s 5))), (.op (some 7) (some (6, false)) (.mv (.s 0))), (.op (some 8) (some (6, false)) (.slen (.s 7))), (.op (some 9) (some (6, false)) (.bin .gtr (.s 8) (.k (.int .i64 8)))), (.op (some 10) none (.pick (.s 6) (.k (.bool true)) (.s 9))), (.op (some 11) none (.mv (.s 10))), (.op (some 12) (some (11, false)) (.mv (.s 0))), (.op (some 13) (some (11, false)) (.sidx (.s 12) (.k (.int .i64 0)))), (.call (some 14) (some (11, false)) n_lex_letter [(.s 13)]), (.op (some 15) (some (11, false)) (.un .not (.s 14))), (.op (some 16) none (.pick (.s 11) (.k (.bool true)) (.s 15)))]
abbrev QGX : AC := .run [(.op (some 2) none (.mv (.k (.bool false))))]
abbrev QGY : AC := .seq QGX .ret
abbrev QGZ : AC := .cond (.s 16) QGY .skip
abbrev QH0 : AC := .seq QGW QGZ
abbrev QH1 : AC := .run [(.op (some 17) none (.mv (.s 0))), (.call (some 18) none n_lex_run [(.s 17), (.k (.int .i64 0))]), (.op (some 19) none (.mv (.s 0))), (.op (some 20) none (.slen (.s 19))), (.op (some 21) none (.bin .eql (.s 18) (.s 20))), (.op (some 22) none (.mv (.s 21))), (.op (some 23) (some (22, true)) (.mv (.s 0))), (.call (some 24) (some (22, true)) n_lex_Word [(.s 23)]), (.op (some 25) (some (22, true)) (.un .not (.s 24))), (.op (some 26) none (.pick (.s 22) (.s 25) (.k (.bool false)))), (.op (some 2) none (.mv (.s 26)))]
abbrev QH2 : AC := .seq QH1 .ret
abbrev QH3 : AC := .seq QH0 QH2
abbrev QH4 : AC := .seq QGV QH3
abbrev QH5 : AC := .run [(.op (some 6) none (.mv (.k (.bool false))))]
abbrev QH6 : AC := .run [(.op (some 9) none (.mv (.s 2))), (.op (some 10) none (.bin .gtr (.s 9) (.k (.int .i64 12)))), (.op (some 11) none (.mv (.s 10))), (.op (some 12) (some (11, true)) (.mv (.s 1))), (.op (some 13) (some (11, true)) (.len (.s 12))), (.op (some 14) (some (11, true)) (.bin .gtr (.s 13) (.k (.int .i64 0)))), (.op (some 15) none (.pick (.s 11) (.s 14) (.k (.bool false))))]
abbrev QH7 : AC := .run [(.op (some 6) none (.mv (.k (.bool false))))]
abbrev QH8 : AC := .seq QH7 .ret
abbrev QH9 : AC := .cond (.s 15) QH8 .skip
abbrev QHA : AC := .seq QH6 QH9
abbrev QHB : AC := .run [(.op (some 16) none (.mv (.s 1))), (.op (some 17) none (.len (.s 16))), (.op (some 18) none (.mv (.k (.int .i64 0))))]
abbrev QHC : AC := .run [(.op (some 19) none (.bin .lss (.s 18) (.s 17)))]
abbrev QHD : AC := .cond (.s 19) .skip (.exit 0)
abbrev QHE : AC := .run [(.op (some 20) none (.iaddr (.s 16) (.s 18) 13)), (.op (some 21) none (.load (.s 20) true 13)), (.op (some 8) none (.alloc [(.int .i64 0), (.int .i64 0), (.slice .full 0 []), (.str []), (.str []), (.int .i64 0), (.int .i64 0), (.str []), (.slice .full 0 []), (.bool false), (.slice .full 0 []), (.slice .full 0 []), (.slice .full 0 [])])), (.op none none (.store (.s 8) (.s 21) 13))]
abbrev QHF : AC := .run [(.op (some 22) none (.mv (.s 0))), (.op (some 23) none (.nilck (.s 22))), (.op (some 24) none (.faddr (.s 23) 0)), (.op (some 25) none (.load (.s 24) false 1)), (.op (some 26) none (.bin .add (.s 25) (.k (.int .i64 1)))), (.op (some 27) none (.nilck (.s 22))), (.op (some 28) none (.faddr (.s 27) 0)), (.op none none (.store (.s 28) (.s 26) 1))]
abbrev QHG : AC := .par [(.op (some 29) none (.mv (.s 0))), (.op (some 30) none (.nilck (.s 29))), (.op (some 31) none (.faddr (.s 30) 0)), (.op (some 32) none (.load (.s 31) false 1)), (.op (some 33) none (.bin .gtr (.s 32) (.k (.int .i64 200)))), (.op (some 34) none (.mv (.s 33))), (.op (some 35) (some (34, false)) (.faddr (.s 8) 0)), (.op (some 36) (some (34, false)) (.load (.s 35) false 1)), (.op (some 37) (some (34, false)) (.mv (.s 0))), (.op (some 38) (some (34, false)) (.nilck (.s 37))), (.op (some 39) (some (34, false)) (.faddr (.s 38) 0)), (.op (some 40) (some (34, false)) (.load (.s 39) false 1)), (.op (some 41) (some (34, false)) (.bin .neq (.s 36) (.s 40))), (.op (some 42) none (.pick (.s 34) (.k (.bool true)) (.s 41))), (.op (some 43) none (.mv (.s 42))), (.op (some 44) (some (43, false)) (.faddr (.s 8) 2)), (.op (some 45) (some (43, false)) (.load (.s 44) false 1)), (.call (some 46) (some (43, false)) n_tree_names [(.s 45)]), (.op (some 47) (some (43, false)) (.un .not (.s 46))), (.op (some 48) none (.pick (.s 43) (.k (.bool true)) (.s 47))), (.op (some 49) none (.mv (.s 48))), (.op (some 50) (some (49, false)) (.load (.s 8) true 13)), (.call (some 51) (some (49, false)) n_tree_fields [(.s 50)]), (.op (some 52) (some (49, false)) (.un .not (.s 51))), (.op (some 53) none (.pick (.s 49) (.k (.bool true)) (.s 52)))] [(0, 0), (1, 0), (2, 0), (3, 0), (4, 0), (5, 0), (6, 0), (7, 0), (8, 0), (9, 0), (10, 0), (11, 0), (12, 0), (13, 0), (14, 0), (15, 0), (16, 0), (17, 0), (18, 0), (19, 0), (20, 0), (21, 0), (22, 0), (23, 0), (24, 0)]
abbrev QHH : AC := .run [(.op (some 6) none (.mv (.k (.bool false))))]
abbrev QHI : AC := .seq QHH .ret
abbrev QHJ : AC := .cond (.s 53) QHI .skip
abbrev QHK : AC := .seq QHG QHJ
abbrev QHL : AC := .run [(.op (some 54) none (.mv (.s 0))), (.op (some 55) none (.faddr (.s 8) 11)), (.op (some 56) none (.load (.s 55) false 1)), (.op (some 57) none (.mv (.s 2))), (.op (some 58) none (.bin .add (.s 57) (.k (.int .i64 1)))), (.call (some 59) none n_tree_looker_rows [(.s 54), (.s 56), (.s 58)]), (.op (some 60) none (.un .not (.s 59))), (.op (some 61) none (.mv (.s 60))), (.op (some 62) (some (61, false)) (.mv (.s 0))), (.op (some 63) (some (61, false)) (.faddr (.s 8) 12)), (.op (some 64) (some (61, false)) (.load (.s 63) false 1)), (.op (some 65) (some (61, false)) (.mv (.s 2))), (.op (some 66) (some (61, false)) (.bin .add (.s 65) (.k (.int .i64 1)))), (.call (some 67) (some (61, false)) n_tree_looker_rows [(.s 62), (.s 64), (.s 66)]), (.op (some 68) (some (61, false)) (.un .not (.s 67))), (.op (some 69) none (.pick (.s 61) (.k (.bool true)) (.s 68)))]
abbrev QHM : AC := .run [(.op (some 6) none (.mv (.k (.bool false))))]
abbrev QHN : AC := .seq QHM .ret
abbrev QHO : AC := .cond (.s 69) QHN .skip
abbrev QHP : AC := .seq QHL QHO
abbrev QHQ : AC := .seq QHK QHP
abbrev QHR : AC := .seq QHF QHQ
abbrev QHS : AC := .seq QHE QHR
abbrev QHT : AC := .block 1 QHS
abbrev QHU : AC := .run [(.op (some 70) none (.bin .add (.s 18) (.k (.int .i64 1)))), (.op (some 18) none (.mv (.s 70)))]
abbrev QHV : AC := .seq QHT QHU
abbrev QHW : AC := .seq QHD QHV
abbrev QHX : AC := .seq QHC QHW
abbrev QHY : AC := .loop QHX
abbrev QHZ : AC := .block 0 QHY
abbrev QI0 : AC := .seq QHB QHZ
abbrev QI1 : AC := .run [(.op (some 6) none (.mv (.k (.bool true))))]
abbrev QI2 : AC := .seq QI1 .ret
abbrev QI3 : AC := .seq QI0 QI2
abbrev QI4 : AC := .seq QHA QI3
abbrev QI5 : AC := .seq QH5 QI4

end Go.Abs

/-! Have1 -/

namespace Go.Abs
open Go.Proofs

theorem has_print_writer_line : Has Tryd.prog n_print_writer_line 23 [] Q5J := ⟨Tryd.f34, by kernel_rfl, by kernel_rfl⟩
theorem has_print_ref : Has Tryd.prog n_print_ref 4 [(2, none)] Q5T := ⟨Tryd.f36, by kernel_rfl, by kernel_rfl⟩
theorem has_print_writer_rows : Has Tryd.prog n_print_writer_rows 84 [] Q6Z := ⟨Tryd.f37, by kernel_rfl, by kernel_rfl⟩
theorem has_print_marks : Has Tryd.prog n_print_marks 18 [(2, none)] Q7K := ⟨Tryd.f38, by kernel_rfl, by kernel_rfl⟩
theorem has_ref3_weighExpr : Has Tryd.prog n_ref3_weighExpr 29 [(4, none)] Q83 := ⟨Tryd.f43, by kernel_rfl, by kernel_rfl⟩
theorem has_tree_MayExpr : Has Tryd.prog n_tree_MayExpr 5 [(2, none)] Q87 := ⟨Tryd.f44, by kernel_rfl, by kernel_rfl⟩
theorem has_print_expr : Has Tryd.prog n_print_expr 66 [(4, none)] Q99 := ⟨Tryd.f45, by kernel_rfl, by kernel_rfl⟩
theorem has_ref3_expr : Has Tryd.prog n_ref3_expr 56 [(2, none)] QA5 := ⟨Tryd.f46, by kernel_rfl, by kernel_rfl⟩
theorem has_ref1_Name : Has Tryd.prog n_ref1_Name 38 [(2, none)] QAW := ⟨Tryd.f48, by kernel_rfl, by kernel_rfl⟩
theorem has_ref3_deep : Has Tryd.prog n_ref3_deep 36 [(4, none)] QBQ := ⟨Tryd.f53, by kernel_rfl, by kernel_rfl⟩
theorem has_ref3_form : Has Tryd.prog n_ref3_form 60 [(2, none)] QCJ := ⟨Tryd.f54, by kernel_rfl, by kernel_rfl⟩
theorem has_ref3_num : Has Tryd.prog n_ref3_num 5 [(2, (some (true, 4)))] QFZ := ⟨Tryd.f62, by kernel_rfl, by kernel_rfl⟩
theorem has_ref3_name : Has Tryd.prog n_ref3_name 5 [(2, (some (true, 4)))] QG3 := ⟨Tryd.f63, by kernel_rfl, by kernel_rfl⟩
theorem has_ref3_two : Has Tryd.prog n_ref3_two 12 [(6, (some (true, 4)))] QG7 := ⟨Tryd.f64, by kernel_rfl, by kernel_rfl⟩
theorem has_tree_names : Has Tryd.prog n_tree_names 15 [(2, none)] QGU := ⟨Tryd.f65, by kernel_rfl, by kernel_rfl⟩
theorem has_lex_Name : Has Tryd.prog n_lex_Name 27 [(2, none)] QH4 := ⟨Tryd.f66, by kernel_rfl, by kernel_rfl⟩
theorem has_tree_looker_rows : Has Tryd.prog n_tree_looker_rows 71 [(6, none)] QI5 := ⟨Tryd.f67, by kernel_rfl, by kernel_rfl⟩

end Go.Abs

/-! Codes2 -/

namespace Go.Abs

abbrev QI6 : AC := .run [(.op (some 4) none (.mv (.k (.val .nilIface))))]
abbrev QI7 : AC := .run [(.op (some 5) none (.mv (.s 0))), (.call (some 6) none n_strings_Builder_copyCheck [(.s 5)])]
abbrev QI8 : AC := .run [(.op (some 7) none (.mv (.s 0))), (.op (some 8) none (.mv (.s 0))), (.op (some 9) none (.nilck (.s 8))), (.op (some 10) none (.faddr (.s 9) 1)), (.op (some 11) none (.load (.s 10) false 1)), (.op (some 12) none (.mv (.s 1))), (.op (some 13) none (.bslice [(.int .u8 0)] 1 1 [(0, (.s 12))])), (.op (some 14) none (.appb (.s 11) (.s 13))), (.op (some 15) none (.nilck (.s 7))), (.op (some 16) none (.faddr (.s 15) 1)), (.op none none (.store (.s 16) (.s 14) 1))]
abbrev QI9 : AC := .run [(.op (some 4) none (.mv (.k (.val .nilIface))))]
abbrev QIA : AC := .seq QI9 .ret
abbrev QIB : AC := .seq QI8 QIA
abbrev QIC : AC := .seq QI7 QIB
abbrev QID : AC := .seq QI6 QIC
abbrev QIE : AC := .run [(.op (some 4) none (.mv (.k (.int .i64 0)))), (.op (some 5) none (.mv (.k (.val .nilIface))))]
abbrev QIF : AC := .run [(.op (some 6) none (.mv (.s 0))), (.call (some 7) none n_strings_Builder_copyCheck [(.s 6)])]
abbrev QIG : AC := .run [(.op (some 8) none (.mv (.s 0))), (.op (some 9) none (.mv (.s 0))), (.op (some 10) none (.nilck (.s 9))), (.op (some 11) none (.faddr (.s 10) 1)), (.op (some 12) none (.load (.s 11) false 1)), (.op (some 13) none (.mv (.s 1))), (.op (some 14) none (.apps (.s 12) (.s 13))), (.op (some 15) none (.nilck (.s 8))), (.op (some 16) none (.faddr (.s 15) 1)), (.op none none (.store (.s 16) (.s 14) 1))]
abbrev QIH : AC := .run [(.op (some 17) none (.mv (.s 1))), (.op (some 18) none (.slen (.s 17))), (.op (some 4) none (.mv (.s 18))), (.op (some 5) none (.mv (.k (.val .nilIface))))]
abbrev QII : AC := .seq QIH .ret
abbrev QIJ : AC := .seq QIG QII
abbrev QIK : AC := .seq QIF QIJ
abbrev QIL : AC := .seq QIE QIK
abbrev QIM : AC := .run [(.op (some 1) none (.box (.s 0))), (.op (some 2) none (.mv (.k (.str []))))]
abbrev QIN : AC := .run [(.op (some 7) none (.faddr (.s 1) 1)), (.op (some 8) none (.load (.s 7) false 1))]
abbrev QIO : AC := .run [(.op (some 10) none (.bin .eql (.s 8) (.k (.int .i64 1)))), (.op (some 9) none (.mv (.s 10)))]
abbrev QIP : AC := .par [(.op (some 11) none (.faddr (.s 1) 3)), (.op (some 12) none (.load (.s 11) false 1)), (.op (some 13) none (.bin .add (.s 12) (.k (.str [32, 61, 32])))), (.op (some 14) none (.faddr (.s 1) 5)), (.op (some 15) none (.load (.s 14) true 4)), (.call (some 16) none n_print_expr [(.s 15), (.k (.int .i64 0))]), (.op (some 17) none (.bin .add (.s 13) (.s 16))), (.op (some 2) none (.mv (.s 17)))] [(3, 0), (4, 0), (5, 0), (0, 0), (1, 1), (2, 0), (6, 0), (7, 0)]
abbrev QIQ : AC := .seq QIP .ret
abbrev QIR : AC := .run [(.op (some 19) none (.bin .eql (.s 8) (.k (.int .i64 2)))), (.op (some 18) none (.mv (.s 19)))]
abbrev QIS : AC := .run [(.op (some 20) none (.faddr (.s 1) 3)), (.op (some 21) none (.load (.s 20) false 1)), (.op (some 22) none (.bin .add (.k (.str [114, 101, 97, 100, 32])) (.s 21))), (.op (some 2) none (.mv (.s 22)))]
abbrev QIT : AC := .seq QIS .ret
abbrev QIU : AC := .run [(.op (some 24) none (.bin .eql (.s 8) (.k (.int .i64 3)))), (.op (some 23) none (.mv (.s 24)))]
abbrev QIV : AC := .run [(.op (some 25) none (.faddr (.s 1) 5)), (.op (some 26) none (.load (.s 25) true 4)), (.call (some 27) none n_print_expr [(.s 26), (.k (.int .i64 0))]), (.op (some 28) none (.bin .add (.k (.str [112, 114, 105, 110, 116, 32])) (.s 27))), (.op (some 2) none (.mv (.s 28)))]
abbrev QIW : AC := .seq QIV .ret
abbrev QIX : AC := .run [(.op (some 30) none (.bin .eql (.s 8) (.k (.int .i64 7)))), (.op (some 29) none (.mv (.s 30)))]
abbrev QIY : AC := .run [(.op (some 2) none (.mv (.k (.str [98, 114, 101, 97, 107]))))]
abbrev QIZ : AC := .seq QIY .ret
abbrev QJ0 : AC := .run [(.op (some 32) none (.bin .eql (.s 8) (.k (.int .i64 8)))), (.op (some 31) none (.mv (.s 32)))]
abbrev QJ1 : AC := .run [(.op (some 2) none (.mv (.k (.str [99, 111, 110, 116, 105, 110, 117, 101]))))]
abbrev QJ2 : AC := .seq QJ1 .ret
abbrev QJ3 : AC := .run [(.op (some 34) none (.bin .eql (.s 8) (.k (.int .i64 10)))), (.op (some 33) none (.mv (.s 34)))]
abbrev QJ4 : AC := .run [(.op (some 35) none (.faddr (.s 1) 3)), (.op (some 36) none (.load (.s 35) false 1)), (.op (some 37) none (.bin .add (.k (.str [103, 111, 116, 111, 32])) (.s 36))), (.op (some 2) none (.mv (.s 37)))]
abbrev QJ5 : AC := .seq QJ4 .ret
abbrev QJ6 : AC := .run [(.op (some 39) none (.bin .eql (.s 8) (.k (.int .i64 9)))), (.op (some 38) none (.mv (.s 39)))]
abbrev QJ7 : AC := .run [(.op (some 40) none (.faddr (.s 1) 9)), (.op (some 41) none (.load (.s 40) false 1))]
abbrev QJ8 : AC := .run [(.op (some 42) none (.faddr (.s 1) 5)), (.op (some 43) none (.load (.s 42) true 4)), (.call (some 44) none n_print_expr [(.s 43), (.k (.int .i64 0))]), (.op (some 45) none (.bin .add (.k (.str [114, 101, 116, 117, 114, 110, 32])) (.s 44))), (.op (some 2) none (.mv (.s 45)))]
abbrev QJ9 : AC := .seq QJ8 .ret
abbrev QJA : AC := .cond (.s 41) QJ9 .skip
abbrev QJB : AC := .seq QJ7 QJA
abbrev QJC : AC := .run [(.op (some 2) none (.mv (.k (.str [114, 101, 116, 117, 114, 110]))))]
abbrev QJD : AC := .seq QJC .ret
abbrev QJE : AC := .seq QJB QJD
abbrev QJF : AC := .cond (.s 38) QJE .skip
abbrev QJG : AC := .seq QJ6 QJF
abbrev QJH : AC := .cond (.s 33) QJ5 QJG
abbrev QJI : AC := .seq QJ3 QJH
abbrev QJJ : AC := .cond (.s 31) QJ2 QJI
abbrev QJK : AC := .seq QJ0 QJJ
abbrev QJL : AC := .cond (.s 29) QIZ QJK
abbrev QJM : AC := .seq QIX QJL
abbrev QJN : AC := .cond (.s 23) QIW QJM
abbrev QJO : AC := .seq QIU QJN
abbrev QJP : AC := .cond (.s 18) QIT QJO
abbrev QJQ : AC := .seq QIR QJP
abbrev QJR : AC := .cond (.s 9) QIQ QJQ
abbrev QJS : AC := .seq QIO QJR
abbrev QJT : AC := .block 0 QJS
abbrev QJU : AC := .seq QIN QJT
abbrev QJV : AC := .run [(.op (some 3) none (.mv (.k (.slice .full 0 []))))]
abbrev QJW : AC := .run [(.op (some 46) none (.faddr (.s 1) 10)), (.op (some 47) none (.load (.s 46) false 1)), (.op (some 48) none (.len (.s 47))), (.op (some 49) none (.mv (.k (.int .i64 0))))]
abbrev QJX : AC := .run [(.op (some 50) none (.bin .lss (.s 49) (.s 48)))]
abbrev QJY : AC := .cond (.s 50) .skip (.exit 1)
abbrev QJZ : AC := .run [(.op (some 51) none (.iaddr (.s 47) (.s 49) 6)), (.op (some 52) none (.load (.s 51) true 6)), (.op (some 5) none (.alloc [(.bool false), (.str []), (.int .i64 0), (.int .i64 0), (.str []), (.slice .full 0 [])])), (.op none none (.store (.s 5) (.s 52) 6))]
abbrev QK0 : AC := .run [(.op (some 53) none (.faddr (.s 5) 0)), (.op (some 54) none (.load (.s 53) false 1))]
abbrev QK1 : AC := .par [(.op (some 55) none (.mv (.s 3))), (.call (some 56) none n_print_ref [(.k (.bool true))]), (.op (some 57) none (.faddr (.s 5) 1)), (.op (some 58) none (.load (.s 57) false 1)), (.op (some 59) none (.bin .add (.s 56) (.s 58))), (.op (some 60) none (.bslice [(.str [])] 1 1 [(0, (.s 59))])), (.op (some 61) none (.app 1 16 (.s 55) (.s 60))), (.op (some 3) none (.mv (.s 61)))] [(1, 0), (0, 0), (2, 0), (3, 1), (4, 0), (5, 0), (6, 0), (7, 0)]
abbrev QK2 : AC := .run [(.op (some 62) none (.mv (.s 3))), (.op (some 63) none (.faddr (.s 5) 2)), (.op (some 64) none (.load (.s 63) true 4)), (.call (some 65) none n_print_expr [(.s 64), (.k (.int .i64 0))]), (.op (some 66) none (.bslice [(.str [])] 1 1 [(0, (.s 65))])), (.op (some 67) none (.app 1 16 (.s 62) (.s 66))), (.op (some 3) none (.mv (.s 67)))]
abbrev QK3 : AC := .cond (.s 54) QK1 QK2
abbrev QK4 : AC := .seq QK0 QK3
abbrev QK5 : AC := .seq QJZ QK4
abbrev QK6 : AC := .block 2 QK5
abbrev QK7 : AC := .run [(.op (some 68) none (.bin .add (.s 49) (.k (.int .i64 1)))), (.op (some 49) none (.mv (.s 68)))]
abbrev QK8 : AC := .seq QK6 QK7
abbrev QK9 : AC := .seq QJY QK8
abbrev QKA : AC := .seq QJX QK9
abbrev QKB : AC := .loop QKA
abbrev QKC : AC := .block 1 QKB
abbrev QKD : AC := .seq QJW QKC
abbrev QKE : AC := .par [(.op (some 69) none (.faddr (.s 1) 4)), (.op (some 70) none (.load (.s 69) false 1)), (.op (some 71) none (.bin .add (.s 70) (.k (.str [40])))), (.op (some 72) none (.mv (.s 3))), (.call (some 73) none n_strings_Join [(.s 72), (.k (.str [44, 32]))]), (.op (some 74) none (.bin .add (.s 71) (.s 73))), (.op (some 75) none (.bin .add (.s 74) (.k (.str [41])))), (.op (some 6) none (.mv (.s 75)))] [(3, 0), (4, 0), (0, 0), (1, 1), (2, 0), (5, 0), (6, 0), (7, 0)]
abbrev QKF : AC := .run [(.op (some 76) none (.faddr (.s 1) 3)), (.op (some 77) none (.load (.s 76) false 1)), (.op (some 78) none (.bin .neq (.s 77) (.k (.str []))))]
abbrev QKG : AC := .run [(.op (some 79) none (.faddr (.s 1) 3)), (.op (some 80) none (.load (.s 79) false 1)), (.op (some 81) none (.bin .add (.s 80) (.k (.str [32, 61, 32])))), (.op (some 82) none (.mv (.s 6))), (.op (some 83) none (.bin .add (.s 81) (.s 82))), (.op (some 2) none (.mv (.s 83)))]
abbrev QKH : AC := .seq QKG .ret
abbrev QKI : AC := .cond (.s 78) QKH .skip
abbrev QKJ : AC := .seq QKF QKI
abbrev QKK : AC := .run [(.op (some 84) none (.mv (.s 6))), (.op (some 2) none (.mv (.s 84)))]
abbrev QKL : AC := .seq QKK .ret
abbrev QKM : AC := .seq QKJ QKL
abbrev QKN : AC := .seq QKE QKM
abbrev QKO : AC := .seq QKD QKN
abbrev QKP : AC := .seq QJV QKO
abbrev QKQ : AC := .seq QJU QKP
abbrev QKR : AC := .seq QIM QKQ
abbrev QKS : AC := .run [(.op (some 2) none (.box (.s 0))), (.op (some 4) none (.mv (.k (.bool false))))]
abbrev QKT : AC := .par [(.op (some 7) none (.mv (.s 1))), (.op (some 8) none (.bin .lss (.s 7) (.k (.int .i64 1)))), (.op (some 9) none (.mv (.s 8))), (.op (some 10) (some (9, false)) (.faddr (.s 2) 3)), (.op (some 11) (some (9, false)) (.load (.s 10) false 1)), (.op (some 12) (some (9, false)) (.len (.s 11))), (.op (some 13) (some (9, false)) (.faddr (.s 2) 0)), (.op (some 14) (some (9, false)) (.load (.s 13) false 1)), (.call (some 15) (some (9, false)) n_tree_kids [(.s 14)]), (.op (some 16) (some (9, false)) (.bin .neq (.s 12) (.s 15))), (.op (some 17) none (.pick (.s 9) (.k (.bool true)) (.s 16)))] [(0, 0), (1, 0), (2, 0), (6, 0), (7, 0), (8, 0), (3, 0), (4, 1), (5, 0), (9, 0), (10, 0)]
abbrev QKU : AC := .run [(.op (some 4) none (.mv (.k (.bool false))))]
abbrev QKV : AC := .seq QKU .ret
abbrev QKW : AC := .cond (.s 17) QKV .skip
abbrev QKX : AC := .seq QKT QKW
abbrev QKY : AC := .run [(.op (some 18) none (.faddr (.s 2) 0)), (.op (some 19) none (.load (.s 18) false 1))]
abbrev QKZ : AC := .run [(.op (some 21) none (.bin .eql (.s 19) (.k (.int .i64 1)))), (.op (some 20) none (.mv (.s 21)))]
abbrev QL0 : AC := .run [(.op (some 22) none (.faddr (.s 2) 1)), (.op (some 23) none (.load (.s 22) false 1)), (.op (some 24) none (.bin .geq (.s 23) (.k (.int .i64 0)))), (.op (some 25) none (.mv (.s 24))), (.op (some 26) (some (25, true)) (.faddr (.s 2) 2)), (.op (some 27) (some (25, true)) (.load (.s 26) false 1)), (.op (some 28) (some (25, true)) (.bin .eql (.s 27) (.k (.str [])))), (.op (some 29) none (.pick (.s 25) (.s 28) (.k (.bool false)))), (.op (some 4) none (.mv (.s 29)))]
abbrev QL1 : AC := .seq QL0 .ret
abbrev QL2 : AC := .run [(.op (some 31) none (.bin .eql (.s 19) (.k (.int .i64 2)))), (.op (some 30) none (.mv (.s 31)))]
abbrev QL3 : AC := .run [(.op (some 32) none (.faddr (.s 2) 1)), (.op (some 33) none (.load (.s 32) false 1)), (.op (some 34) none (.bin .eql (.s 33) (.k (.int .i64 0)))), (.op (some 35) none (.mv (.s 34))), (.op (some 36) (some (35, true)) (.faddr (.s 2) 2)), (.op (some 37) (some (35, true)) (.load (.s 36) false 1)), (.call (some 38) (some (35, true)) n_lex_Name [(.s 37)]), (.op (some 39) none (.pick (.s 35) (.s 38) (.k (.bool false)))), (.op (some 4) none (.mv (.s 39)))]
abbrev QL4 : AC := .seq QL3 .ret
abbrev QL5 : AC := .cond (.s 30) QL4 .skip
abbrev QL6 : AC := .seq QL2 QL5
abbrev QL7 : AC := .cond (.s 20) QL1 QL6
abbrev QL8 : AC := .seq QKZ QL7
abbrev QL9 : AC := .block 0 QL8
abbrev QLA : AC := .seq QKY QL9
abbrev QLB : AC := .run [(.op (some 40) none (.faddr (.s 2) 1)), (.op (some 41) none (.load (.s 40) false 1)), (.op (some 42) none (.bin .neq (.s 41) (.k (.int .i64 0)))), (.op (some 43) none (.mv (.s 42))), (.op (some 44) (some (43, false)) (.faddr (.s 2) 2)), (.op (some 45) (some (43, false)) (.load (.s 44) false 1)), (.op (some 46) (some (43, false)) (.bin .neq (.s 45) (.k (.str [])))), (.op (some 47) none (.pick (.s 43) (.k (.bool true)) (.s 46)))]
abbrev QLC : AC := .run [(.op (some 4) none (.mv (.k (.bool false))))]
abbrev QLD : AC := .seq QLC .ret
abbrev QLE : AC := .cond (.s 47) QLD .skip
abbrev QLF : AC := .seq QLB QLE
abbrev QLG : AC := .run [(.op (some 48) none (.faddr (.s 2) 3)), (.op (some 49) none (.load (.s 48) false 1)), (.op (some 50) none (.len (.s 49))), (.op (some 51) none (.mv (.k (.int .i64 0))))]
abbrev QLH : AC := .run [(.op (some 52) none (.bin .lss (.s 51) (.s 50)))]
abbrev QLI : AC := .cond (.s 52) .skip (.exit 1)
abbrev QLJ : AC := .run [(.op (some 53) none (.iaddr (.s 49) (.s 51) 4)), (.op (some 54) none (.load (.s 53) true 4)), (.op (some 6) none (.alloc [(.int .i64 0), (.int .i64 0), (.str []), (.slice .full 0 [])])), (.op none none (.store (.s 6) (.s 54) 4))]
abbrev QLK : AC := .run [(.op (some 55) none (.load (.s 6) true 4)), (.op (some 56) none (.mv (.s 1))), (.op (some 57) none (.bin .sub (.s 56) (.k (.int .i64 1)))), (.call (some 58) none n_tree_deep [(.s 55), (.s 57)]), (.op (some 59) none (.un .not (.s 58)))]
abbrev QLL : AC := .run [(.op (some 4) none (.mv (.k (.bool false))))]
abbrev QLM : AC := .seq QLL .ret
abbrev QLN : AC := .cond (.s 59) QLM .skip
abbrev QLO : AC := .seq QLK QLN
abbrev QLP : AC := .seq QLJ QLO
abbrev QLQ : AC := .block 2 QLP
abbrev QLR : AC := .run [(.op (some 60) none (.bin .add (.s 51) (.k (.int .i64 1)))), (.op (some 51) none (.mv (.s 60)))]
abbrev QLS : AC := .seq QLQ QLR
abbrev QLT : AC := .seq QLI QLS
abbrev QLU : AC := .seq QLH QLT
abbrev QLV : AC := .loop QLU
abbrev QLW : AC := .block 1 QLV
abbrev QLX : AC := .seq QLG QLW
abbrev QLY : AC := .run [(.op (some 4) none (.mv (.k (.bool true))))]
abbrev QLZ : AC := .seq QLY .ret
abbrev QM0 : AC := .seq QLX QLZ
abbrev QM1 : AC := .seq QLF QM0
abbrev QM2 : AC := .seq QLA QM1
abbrev QM3 : AC := .seq QKX QM2
abbrev QM4 : AC := .seq QKS QM3
abbrev QM5 : AC := .run [(.op (some 2) none (.mv (.k (.str [])))), (.op (some 3) none (.mv (.k (.int .i64 0))))]
abbrev QM6 : AC := .run [(.op (some 4) none (.mv (.s 0)))]
abbrev QM7 : AC := .run [(.op (some 6) none (.bin .eql (.s 4) (.k (.int .i64 17)))), (.op (some 5) none (.mv (.s 6)))]
abbrev QM8 : AC := .run [(.op (some 2) none (.mv (.k (.str [124, 124])))), (.op (some 3) none (.mv (.k (.int .i64 1))))]
abbrev QM9 : AC := .seq QM8 .ret
abbrev QMA : AC := .run [(.op (some 8) none (.bin .eql (.s 4) (.k (.int .i64 16)))), (.op (some 7) none (.mv (.s 8)))]
abbrev QMB : AC := .run [(.op (some 2) none (.mv (.k (.str [38, 38])))), (.op (some 3) none (.mv (.k (.int .i64 2))))]
abbrev QMC : AC := .seq QMB .ret
abbrev QMD : AC := .run [(.op (some 10) none (.bin .eql (.s 4) (.k (.int .i64 14)))), (.op (some 9) none (.mv (.s 10)))]
abbrev QME : AC := .run [(.op (some 2) none (.mv (.k (.str [61, 61])))), (.op (some 3) none (.mv (.k (.int .i64 3))))]
abbrev QMF : AC := .seq QME .ret
abbrev QMG : AC := .run [(.op (some 12) none (.bin .eql (.s 4) (.k (.int .i64 15)))), (.op (some 11) none (.mv (.s 12)))]
abbrev QMH : AC := .run [(.op (some 2) none (.mv (.k (.str [33, 61])))), (.op (some 3) none (.mv (.k (.int .i64 3))))]
abbrev QMI : AC := .seq QMH .ret
abbrev QMJ : AC := .run [(.op (some 14) none (.bin .eql (.s 4) (.k (.int .i64 10)))), (.op (some 13) none (.mv (.s 14)))]
abbrev QMK : AC := .run [(.op (some 2) none (.mv (.k (.str [60])))), (.op (some 3) none (.mv (.k (.int .i64 4))))]
abbrev QML : AC := .seq QMK .ret
abbrev QMM : AC := .run [(.op (some 16) none (.bin .eql (.s 4) (.k (.int .i64 11)))), (.op (some 15) none (.mv (.s 16)))]
abbrev QMN : AC := .run [(.op (some 2) none (.mv (.k (.str [60, 61])))), (.op (some 3) none (.mv (.k (.int .i64 4))))]
abbrev QMO : AC := .seq QMN .ret
abbrev QMP : AC := .run [(.op (some 18) none (.bin .eql (.s 4) (.k (.int .i64 12)))), (.op (some 17) none (.mv (.s 18)))]
abbrev QMQ : AC := .run [(.op (some 2) none (.mv (.k (.str [62])))), (.op (some 3) none (.mv (.k (.int .i64 4))))]
abbrev QMR : AC := .seq QMQ .ret
abbrev QMS : AC := .run [(.op (some 20) none (.bin .eql (.s 4) (.k (.int .i64 13)))), (.op (some 19) none (.mv (.s 20)))]
abbrev QMT : AC := .run [(.op (some 2) none (.mv (.k (.str [62, 61])))), (.op (some 3) none (.mv (.k (.int .i64 4))))]
abbrev QMU : AC := .seq QMT .ret
abbrev QMV : AC := .run [(.op (some 22) none (.bin .eql (.s 4) (.k (.int .i64 8)))), (.op (some 21) none (.mv (.s 22)))]
abbrev QMW : AC := .run [(.op (some 2) none (.mv (.k (.str [43])))), (.op (some 3) none (.mv (.k (.int .i64 5))))]
abbrev QMX : AC := .seq QMW .ret
abbrev QMY : AC := .run [(.op (some 24) none (.bin .eql (.s 4) (.k (.int .i64 9)))), (.op (some 23) none (.mv (.s 24)))]
abbrev QMZ : AC := .run [(.op (some 2) none (.mv (.k (.str [45])))), (.op (some 3) none (.mv (.k (.int .i64 5))))]
abbrev QN0 : AC := .seq QMZ .ret
abbrev QN1 : AC := .run [(.op (some 26) none (.bin .eql (.s 4) (.k (.int .i64 5)))), (.op (some 25) none (.mv (.s 26)))]
abbrev QN2 : AC := .run [(.op (some 2) none (.mv (.k (.str [42])))), (.op (some 3) none (.mv (.k (.int .i64 6))))]
abbrev QN3 : AC := .seq QN2 .ret
abbrev QN4 : AC := .run [(.op (some 28) none (.bin .eql (.s 4) (.k (.int .i64 6)))), (.op (some 27) none (.mv (.s 28)))]
abbrev QN5 : AC := .run [(.op (some 2) none (.mv (.k (.str [47])))), (.op (some 3) none (.mv (.k (.int .i64 6))))]
abbrev QN6 : AC := .seq QN5 .ret
abbrev QN7 : AC := .run [(.op (some 30) none (.bin .eql (.s 4) (.k (.int .i64 7)))), (.op (some 29) none (.mv (.s 30)))]
abbrev QN8 : AC := .run [(.op (some 2) none (.mv (.k (.str [37])))), (.op (some 3) none (.mv (.k (.int .i64 6))))]
abbrev QN9 : AC := .seq QN8 .ret
abbrev QNA : AC := .cond (.s 29) QN9 .skip
abbrev QNB : AC := .seq QN7 QNA
abbrev QNC : AC := .cond (.s 27) QN6 QNB
abbrev QND : AC := .seq QN4 QNC
abbrev QNE : AC := .cond (.s 25) QN3 QND
abbrev QNF : AC := .seq QN1 QNE
abbrev QNG : AC := .cond (.s 23) QN0 QNF
abbrev QNH : AC := .seq QMY QNG
abbrev QNI : AC := .cond (.s 21) QMX QNH
abbrev QNJ : AC := .seq QMV QNI
abbrev QNK : AC := .cond (.s 19) QMU QNJ
abbrev QNL : AC := .seq QMS QNK
abbrev QNM : AC := .cond (.s 17) QMR QNL
abbrev QNN : AC := .seq QMP QNM
abbrev QNO : AC := .cond (.s 15) QMO QNN
abbrev QNP : AC := .seq QMM QNO
abbrev QNQ : AC := .cond (.s 13) QML QNP
abbrev QNR : AC := .seq QMJ QNQ
abbrev QNS : AC := .cond (.s 11) QMI QNR
abbrev QNT : AC := .seq QMG QNS
abbrev QNU : AC := .cond (.s 9) QMF QNT
abbrev QNV : AC := .seq QMD QNU
abbrev QNW : AC := .cond (.s 7) QMC QNV
abbrev QNX : AC := .seq QMA QNW
abbrev QNY : AC := .cond (.s 5) QM9 QNX
abbrev QNZ : AC := .seq QM7 QNY
abbrev QO0 : AC := .block 0 QNZ
abbrev QO1 : AC := .seq QM6 QO0
abbrev QO2 : AC := .run [(.op (some 2) none (.mv (.k (.str [])))), (.op (some 3) none (.mv (.k (.int .i64 7))))]
abbrev QO3 : AC := .seq QO2 .ret
abbrev QO4 : AC := .seq QO1 QO3
abbrev QO5 : AC := .seq QM5 QO4
abbrev QO6 : AC := .run [(.op (some 2) none (.mv (.k (.int .i64 0))))]
abbrev QO7 : AC := .run [(.op (some 4) none (.mv (.s 0))), (.op (some 5) none (.bin .eql (.s 4) (.k (.int .i64 1)))), (.op (some 6) none (.mv (.s 5))), (.op (some 7) (some (6, false)) (.mv (.s 0))), (.op (some 8) (some (6, false)) (.bin .eql (.s 7) (.k (.int .i64 2)))), (.op (some 9) none (.pick (.s 6) (.k (.bool true)) (.s 8))), (.op (some 3) none (.mv (.s 9)))]
abbrev QO8 : AC := .run [(.op (some 2) none (.mv (.k (.int .i64 0))))]
abbrev QO9 : AC := .seq QO8 .ret
abbrev QOA : AC := .run [(.op (some 11) none (.mv (.s 0))), (.op (some 12) none (.bin .eql (.s 11) (.k (.int .i64 3)))), (.op (some 13) none (.mv (.s 12))), (.op (some 14) (some (13, false)) (.mv (.s 0))), (.op (some 15) (some (13, false)) (.bin .eql (.s 14) (.k (.int .i64 4)))), (.op (some 16) none (.pick (.s 13) (.k (.bool true)) (.s 15))), (.op (some 10) none (.mv (.s 16)))]
abbrev QOB : AC := .run [(.op (some 2) none (.mv (.k (.int .i64 1))))]
abbrev QOC : AC := .seq QOB .ret
abbrev QOD : AC := .run [(.op (some 18) none (.mv (.s 0))), (.op (some 19) none (.bin .geq (.s 18) (.k (.int .i64 5)))), (.op (some 20) none (.mv (.s 19))), (.op (some 21) (some (20, true)) (.mv (.s 0))), (.op (some 22) (some (20, true)) (.bin .leq (.s 21) (.k (.int .i64 17)))), (.op (some 23) none (.pick (.s 20) (.s 22) (.k (.bool false)))), (.op (some 17) none (.mv (.s 23)))]
abbrev QOE : AC := .run [(.op (some 2) none (.mv (.k (.int .i64 2))))]
abbrev QOF : AC := .seq QOE .ret
abbrev QOG : AC := .cond (.s 17) QOF .skip
abbrev QOH : AC := .seq QOD QOG
abbrev QOI : AC := .cond (.s 10) QOC QOH
abbrev QOJ : AC := .seq QOA QOI
abbrev QOK : AC := .cond (.s 3) QO9 QOJ
abbrev QOL : AC := .seq QO7 QOK
abbrev QOM : AC := .block 0 QOL
abbrev QON : AC := .run [(.op (some 2) none (.mv (.k (.int .i64 (-1)))))]
abbrev QOO : AC := .seq QON .ret
abbrev QOP : AC := .seq QOM QOO
abbrev QOQ : AC := .seq QO6 QOP
abbrev QOR : AC := .run [(.op (some 2) none (.mv (.k (.str []))))]
abbrev QOS : AC := .run [(.op (some 3) none (.mv (.s 0))), (.op (some 4) none (.bin .lss (.s 3) (.k (.int .i64 0))))]
abbrev QOT : AC := .run [(.op (some 5) none (.mv (.s 0))), (.op (some 6) none (.bin .add (.s 5) (.k (.int .i64 1)))), (.op (some 7) none (.un .neg (.s 6))), (.op (some 8) none (.conv .u64 (.s 7))), (.op (some 9) none (.bin .add (.s 8) (.k (.int .u64 1)))), (.call (some 10) none n_ref3_digits [(.s 9)]), (.op (some 11) none (.bin .add (.k (.str [45])) (.s 10))), (.op (some 2) none (.mv (.s 11)))]
abbrev QOU : AC := .seq QOT .ret
abbrev QOV : AC := .cond (.s 4) QOU .skip
abbrev QOW : AC := .seq QOS QOV
abbrev QOX : AC := .run [(.op (some 12) none (.mv (.s 0))), (.op (some 13) none (.conv .u64 (.s 12))), (.call (some 14) none n_ref3_digits [(.s 13)]), (.op (some 2) none (.mv (.s 14)))]
abbrev QOY : AC := .seq QOX .ret
abbrev QOZ : AC := .seq QOW QOY
abbrev QP0 : AC := .seq QOR QOZ
abbrev QP1 : AC := .run [(.op (some 2) none (.box (.s 0))), (.op (some 4) none (.mv (.k (.str []))))]
abbrev QP2 : AC := .run [(.op (some 5) none (.load (.s 2) true 4)), (.call (some 6) none n_ref3_much [(.s 5)]), (.op (some 7) none (.mv (.s 1))), (.op (some 8) none (.bin .lss (.s 6) (.s 7)))]
abbrev QP3 : AC := .run [(.op (some 9) none (.load (.s 2) true 4)), (.call (some 10) none n_ref3_expr [(.s 9)]), (.op (some 11) none (.bin .add (.k (.str [40])) (.s 10))), (.op (some 12) none (.bin .add (.s 11) (.k (.str [41])))), (.op (some 4) none (.mv (.s 12)))]
abbrev QP4 : AC := .seq QP3 .ret
abbrev QP5 : AC := .cond (.s 8) QP4 .skip
abbrev QP6 : AC := .seq QP2 QP5
abbrev QP7 : AC := .run [(.op (some 13) none (.load (.s 2) true 4)), (.call (some 14) none n_ref3_expr [(.s 13)]), (.op (some 4) none (.mv (.s 14)))]
abbrev QP8 : AC := .seq QP7 .ret
abbrev QP9 : AC := .seq QP6 QP8
abbrev QPA : AC := .seq QP1 QP9
abbrev QPB : AC := .run [(.op (some 1) none (.box (.s 0))), (.op (some 2) none (.mv (.k (.int .i64 0))))]
abbrev QPC : AC := .run [(.op (some 5) none (.faddr (.s 1) 0)), (.op (some 6) none (.load (.s 5) false 1)), (.call (some 7) none n_ref3_Arity [(.s 6)]), (.op (some 8) none (.bin .lss (.s 7) (.k (.int .i64 2))))]
abbrev QPD : AC := .run [(.op (some 2) none (.mv (.k (.int .i64 7))))]
abbrev QPE : AC := .seq QPD .ret
abbrev QPF : AC := .cond (.s 8) QPE .skip
abbrev QPG : AC := .seq QPC QPF
abbrev QPH : AC := .run [(.op (some 10) none (.faddr (.s 1) 0)), (.op (some 11) none (.load (.s 10) false 1)), (.call (some 12) none n_ref3_sign [(.s 11)]), (.call (some 13) none n_ref3_Binds [(.s 12)]), (.op (some 9) none (.mv (.s 13))), (.op (some 14) none (.ext (.s 9) 0)), (.op (some 15) none (.ext (.s 9) 1)), (.op (some 3) none (.mv (.s 14))), (.op (some 4) none (.mv (.s 15)))]
abbrev QPI : AC := .run [(.op (some 16) none (.mv (.s 3))), (.op (some 2) none (.mv (.s 16)))]
abbrev QPJ : AC := .seq QPI .ret
abbrev QPK : AC := .seq QPH QPJ
abbrev QPL : AC := .seq QPG QPK
abbrev QPM : AC := .seq QPB QPL
abbrev QPN : AC := .run [(.op (some 2) none (.mv (.k (.str []))))]
abbrev QPO : AC := .run [(.op (some 3) none (.bslice [(.str [])] 1 13 [(0, (.k (.str [42]))), (1, (.k (.str [47]))), (2, (.k (.str [37]))), (3, (.k (.str [43]))), (4, (.k (.str [45]))), (5, (.k (.str [60]))), (6, (.k (.str [60, 61]))), (7, (.k (.str [62]))), (8, (.k (.str [62, 61]))), (9, (.k (.str [61, 61]))), (10, (.k (.str [33, 61]))), (11, (.k (.str [38, 38]))), (12, (.k (.str [124, 124])))])), (.op (some 4) none (.mv (.s 0))), (.op (some 5) none (.bin .sub (.s 4) (.k (.int .i64 5)))), (.op (some 6) none (.iaddr (.s 3) (.s 5) 1)), (.op (some 7) none (.load (.s 6) false 1)), (.op (some 2) none (.mv (.s 7)))]
abbrev QPP : AC := .seq QPO .ret
abbrev QPQ : AC := .seq QPN QPP
abbrev QPR : AC := .run [(.op (some 2) none (.mv (.k (.bool false))))]
abbrev QPS : AC := .run [(.op (some 3) none (.mv (.s 0))), (.op (some 4) none (.bin .geq (.s 3) (.k (.int .u8 97)))), (.op (some 5) none (.mv (.s 4))), (.op (some 6) (some (5, true)) (.mv (.s 0))), (.op (some 7) (some (5, true)) (.bin .leq (.s 6) (.k (.int .u8 122)))), (.op (some 8) none (.pick (.s 5) (.s 7) (.k (.bool false)))), (.op (some 2) none (.mv (.s 8)))]
abbrev QPT : AC := .seq QPS .ret
abbrev QPU : AC := .seq QPR QPT
abbrev QPV : AC := .run [(.op (some 2) none (.mv (.k (.bool false))))]
abbrev QPW : AC := .run [(.op (some 3) none (.mv (.s 0))), (.op (some 4) none (.bin .geq (.s 3) (.k (.int .u8 48)))), (.op (some 5) none (.mv (.s 4))), (.op (some 6) (some (5, true)) (.mv (.s 0))), (.op (some 7) (some (5, true)) (.bin .leq (.s 6) (.k (.int .u8 57)))), (.op (some 8) none (.pick (.s 5) (.s 7) (.k (.bool false)))), (.op (some 2) none (.mv (.s 8)))]
abbrev QPX : AC := .seq QPW .ret
abbrev QPY : AC := .seq QPV QPX
abbrev QPZ : AC := .run [(.op (some 2) none (.mv (.k (.bool false))))]
abbrev QQ0 : AC := .run [(.call (some 5) none n_ref1_Words []), (.op (some 6) none (.len (.s 5))), (.op (some 7) none (.mv (.k (.int .i64 0))))]
abbrev QQ1 : AC := .run [(.op (some 8) none (.bin .lss (.s 7) (.s 6)))]
abbrev QQ2 : AC := .cond (.s 8) .skip (.exit 0)
abbrev QQ3 : AC := .run [(.op (some 9) none (.iaddr (.s 5) (.s 7) 1)), (.op (some 10) none (.load (.s 9) false 1)), (.op (some 4) none (.mv (.s 10)))]
abbrev QQ4 : AC := .run [(.op (some 11) none (.mv (.s 4))), (.op (some 12) none (.mv (.s 0))), (.op (some 13) none (.bin .eql (.s 11) (.s 12)))]
abbrev QQ5 : AC := .run [(.op (some 2) none (.mv (.k (.bool true))))]
abbrev QQ6 : AC := .seq QQ5 .ret
abbrev QQ7 : AC := .cond (.s 13) QQ6 .skip
abbrev QQ8 : AC := .seq QQ4 QQ7
abbrev QQ9 : AC := .seq QQ3 QQ8
abbrev QQA : AC := .block 1 QQ9
abbrev QQB : AC := .run [(.op (some 14) none (.bin .add (.s 7) (.k (.int .i64 1)))), (.op (some 7) none (.mv (.s 14)))]
abbrev QQC : AC := .seq QQA QQB
abbrev QQD : AC := .seq QQ2 QQC
abbrev QQE : AC := .seq QQ1 QQD
abbrev QQF : AC := .loop QQE
abbrev QQG : AC := .block 0 QQF
abbrev QQH : AC := .seq QQ0 QQG
abbrev QQI : AC := .run [(.op (some 2) none (.mv (.k (.bool false))))]
abbrev QQJ : AC := .seq QQI .ret
abbrev QQK : AC := .seq QQH QQJ
abbrev QQL : AC := .seq QPZ QQK
abbrev QQM : AC := .run [(.op (some 2) none (.mv (.k (.bool false))))]
abbrev QQN : AC := .run [(.op (some 3) none (.mv (.s 0))), (.op (some 4) none (.bin .geq (.s 3) (.k (.int .u8 97)))), (.op (some 5) none (.mv (.s 4))), (.op (some 6) (some (5, true)) (.mv (.s 0))), (.op (some 7) (some (5, true)) (.bin .leq (.s 6) (.k (.int .u8 122)))), (.op (some 8) none (.pick (.s 5) (.s 7) (.k (.bool false)))), (.op (some 2) none (.mv (.s 8)))]
abbrev QQO : AC := .seq QQN .ret
abbrev QQP : AC := .seq QQM QQO
abbrev QQQ : AC := .run [(.op (some 2) none (.mv (.k (.bool false))))]
abbrev QQR : AC := .run [(.op (some 3) none (.mv (.s 0))), (.op (some 4) none (.bin .geq (.s 3) (.k (.int .u8 48)))), (.op (some 5) none (.mv (.s 4))), (.op (some 6) (some (5, true)) (.mv (.s 0))), (.op (some 7) (some (5, true)) (.bin .leq (.s 6) (.k (.int .u8 57)))), (.op (some 8) none (.pick (.s 5) (.s 7) (.k (.bool false)))), (.op (some 2) none (.mv (.s 8)))]
abbrev QQS : AC := .seq QQR .ret
abbrev QQT : AC := .seq QQQ QQS
abbrev QQU : AC := .run [(.op (some 4) none (.mv (.k (.int .i64 0))))]
abbrev QQV : AC := .run [(.op (some 5) none (.mv (.s 1))), (.op (some 6) none (.mv (.s 0))), (.op (some 7) none (.slen (.s 6))), (.op (some 8) none (.bin .lss (.s 5) (.s 7))), (.op (some 9) none (.mv (.s 8))), (.op (some 10) (some (9, true)) (.mv (.s 0))), (.op (some 11) (some (9, true)) (.mv (.s 1))), (.op (some 12) (some (9, true)) (.sidx (.s 10) (.s 11))), (.call (some 13) (some (9, true)) n_lex_letter [(.s 12)]), (.op (some 14) (some (9, true)) (.mv (.s 13))), (.op (some 15) (some (14, false)) (.mv (.s 0))), (.op (some 16) (some (14, false)) (.mv (.s 1))), (.op (some 17) (some (14, false)) (.sidx (.s 15) (.s 16))), (.call (some 18) (some (14, false)) n_lex_digit [(.s 17)]), (.op (some 19) (some (9, true)) (.pick (.s 14) (.k (.bool true)) (.s 18))), (.op (some 20) none (.pick (.s 9) (.s 19) (.k (.bool false))))]
abbrev QQW : AC := .cond (.s 20) .skip (.exit 0)
abbrev QQX : AC := .seq QQV QQW
abbrev QQY : AC := .run [(.op (some 21) none (.mv (.s 1))), (.op (some 22) none (.bin .add (.s 21) (.k (.int .i64 1)))), (.op (some 1) none (.mv (.s 22)))]
abbrev QQZ : AC := .block 1 QQY
abbrev QR0 : AC := .seq QQX QQZ
abbrev QR1 : AC := .loop QR0
abbrev QR2 : AC := .block 0 QR1
abbrev QR3 : AC := .run [(.op (some 23) none (.mv (.s 1))), (.op (some 4) none (.mv (.s 23)))]
abbrev QR4 : AC := .seq QR3 .ret
abbrev QR5 : AC := .seq QR2 QR4
abbrev QR6 : AC := .seq QQU QR5
abbrev QR7 : AC := .run [(.op (some 2) none (.mv (.k (.bool false))))]
abbrev QR8 : AC := .run [(.op (some 3) none (.mv (.s 0)))]
abbrev QR9 : AC := .run [(.op (some 5) none (.bin .eql (.s 3) (.k (.str [103, 108, 111, 98, 97, 108])))), (.op (some 4) none (.mv (.s 5)))]
abbrev QRA : AC := .run [(.op (some 6) none (.bin .eql (.s 3) (.k (.str [112, 114, 111, 99])))), (.op (some 4) none (.mv (.s 6)))]
abbrev QRB : AC := .run [(.op (some 7) none (.bin .eql (.s 3) (.k (.str [118, 97, 114])))), (.op (some 4) none (.mv (.s 7)))]
abbrev QRC : AC := .run [(.op (some 8) none (.bin .eql (.s 3) (.k (.str [114, 101, 102])))), (.op (some 4) none (.mv (.s 8)))]
abbrev QRD : AC := .run [(.op (some 9) none (.bin .eql (.s 3) (.k (.str [105, 102])))), (.op (some 4) none (.mv (.s 9)))]
abbrev QRE : AC := .run [(.op (some 10) none (.bin .eql (.s 3) (.k (.str [101, 108, 115, 101])))), (.op (some 4) none (.mv (.s 10)))]
abbrev QRF : AC := .run [(.op (some 11) none (.bin .eql (.s 3) (.k (.str [119, 104, 105, 108, 101])))), (.op (some 4) none (.mv (.s 11)))]
abbrev QRG : AC := .run [(.op (some 12) none (.bin .eql (.s 3) (.k (.str [98, 114, 101, 97, 107])))), (.op (some 4) none (.mv (.s 12)))]
abbrev QRH : AC := .run [(.op (some 13) none (.bin .eql (.s 3) (.k (.str [99, 111, 110, 116, 105, 110, 117, 101])))), (.op (some 4) none (.mv (.s 13)))]
abbrev QRI : AC := .run [(.op (some 14) none (.bin .eql (.s 3) (.k (.str [114, 101, 116, 117, 114, 110])))), (.op (some 4) none (.mv (.s 14)))]
abbrev QRJ : AC := .run [(.op (some 15) none (.bin .eql (.s 3) (.k (.str [103, 111, 116, 111])))), (.op (some 4) none (.mv (.s 15)))]
abbrev QRK : AC := .run [(.op (some 16) none (.bin .eql (.s 3) (.k (.str [114, 101, 97, 100])))), (.op (some 4) none (.mv (.s 16)))]
abbrev QRL : AC := .run [(.op (some 17) none (.bin .eql (.s 3) (.k (.str [112, 114, 105, 110, 116])))), (.op (some 4) none (.mv (.s 17)))]
abbrev QRM : AC := .cond (.s 4) .skip QRL
abbrev QRN : AC := .seq QRK QRM
abbrev QRO : AC := .cond (.s 4) .skip QRN
abbrev QRP : AC := .seq QRJ QRO
abbrev QRQ : AC := .cond (.s 4) .skip QRP
abbrev QRR : AC := .seq QRI QRQ
abbrev QRS : AC := .cond (.s 4) .skip QRR
abbrev QRT : AC := .seq QRH QRS
abbrev QRU : AC := .cond (.s 4) .skip QRT
abbrev QRV : AC := .seq QRG QRU
abbrev QRW : AC := .cond (.s 4) .skip QRV
abbrev QRX : AC := .seq QRF QRW
abbrev QRY : AC := .cond (.s 4) .skip QRX
abbrev QRZ : AC := .seq QRE QRY
abbrev QS0 : AC := .cond (.s 4) .skip QRZ
abbrev QS1 : AC := .seq QRD QS0
abbrev QS2 : AC := .cond (.s 4) .skip QS1
abbrev QS3 : AC := .seq QRC QS2
abbrev QS4 : AC := .cond (.s 4) .skip QS3
abbrev QS5 : AC := .seq QRB QS4
abbrev QS6 : AC := .cond (.s 4) .skip QS5
abbrev QS7 : AC := .seq QRA QS6
abbrev QS8 : AC := .cond (.s 4) .skip QS7
abbrev QS9 : AC := .seq QR9 QS8
abbrev QSA : AC := .run [(.op (some 2) none (.mv (.k (.bool true))))]
abbrev QSB : AC := .seq QSA .ret
abbrev QSC : AC := .cond (.s 4) QSB .skip
abbrev QSD : AC := .seq QS9 QSC
abbrev QSE : AC := .block 0 QSD
abbrev QSF : AC := .seq QR8 QSE
abbrev QSG : AC := .run [(.op (some 2) none (.mv (.k (.bool false))))]
abbrev QSH : AC := .seq QSG .ret
abbrev QSI : AC := .seq QSF QSH
abbrev QSJ : AC := .seq QR7 QSI
abbrev QSK : AC := .run [(.op (some 1) none (.box (.s 0))), (.op (some 2) none (.mv (.k (.bool false))))]
abbrev QSL : AC := .par [(.op (some 10) none (.faddr (.s 1) 9)), (.op (some 11) none (.load (.s 10) false 1)), (.op (some 3) none (.mv (.k (.bool false)))), (.op (some 4) none (.mv (.k (.bool false)))), (.op (some 5) none (.mv (.k (.bool false)))), (.op (some 6) none (.mv (.s 11))), (.op (some 7) none (.mv (.k (.bool false)))), (.op (some 8) none (.mv (.k (.bool false))))] [(0, 0), (1, 0), (2, 0), (3, 0), (4, 0), (5, 0), (6, 0), (7, 0)]
abbrev QSM : AC := .run [(.op (some 12) none (.faddr (.s 1) 1)), (.op (some 13) none (.load (.s 12) false 1)), (.op (some 14) none (.bin .eql (.s 13) (.k (.int .i64 4)))), (.op (some 9) none (.mv (.s 14)))]
abbrev QSN : AC := .run [(.op (some 15) none (.faddr (.s 1) 1)), (.op (some 16) none (.load (.s 15) false 1))]
abbrev QSO : AC := .run [(.op (some 18) none (.bin .eql (.s 16) (.k (.int .i64 1)))), (.op (some 17) none (.mv (.s 18)))]
abbrev QSP : AC := .run [(.op (some 3) none (.mv (.k (.bool true)))), (.op (some 5) none (.mv (.k (.bool true))))]
abbrev QSQ : AC := .run [(.op (some 20) none (.bin .eql (.s 16) (.k (.int .i64 2)))), (.op (some 19) none (.mv (.s 20)))]
abbrev QSR : AC := .run [(.op (some 21) none (.bin .eql (.s 16) (.k (.int .i64 10)))), (.op (some 19) none (.mv (.s 21)))]
abbrev QSS : AC := .cond (.s 19) .skip QSR
abbrev QST : AC := .seq QSQ QSS
abbrev QSU : AC := .run [(.op (some 3) none (.mv (.k (.bool true))))]
abbrev QSV : AC := .run [(.op (some 23) none (.bin .eql (.s 16) (.k (.int .i64 3)))), (.op (some 22) none (.mv (.s 23)))]
abbrev QSW : AC := .run [(.op (some 5) none (.mv (.k (.bool true))))]
abbrev QSX : AC := .run [(.op (some 25) none (.bin .eql (.s 16) (.k (.int .i64 4)))), (.op (some 24) none (.mv (.s 25)))]
abbrev QSY : AC := .run [(.op (some 26) none (.faddr (.s 1) 3)), (.op (some 27) none (.load (.s 26) false 1)), (.op (some 28) none (.bin .neq (.s 27) (.k (.str [])))), (.op (some 3) none (.mv (.s 28))), (.op (some 4) none (.mv (.k (.bool true))))]
abbrev QSZ : AC := .run [(.op (some 30) none (.bin .eql (.s 16) (.k (.int .i64 5)))), (.op (some 29) none (.mv (.s 30)))]
abbrev QT0 : AC := .run [(.op (some 5) none (.mv (.k (.bool true)))), (.op (some 7) none (.mv (.k (.bool true)))), (.op (some 8) none (.mv (.k (.bool true))))]
abbrev QT1 : AC := .run [(.op (some 32) none (.bin .eql (.s 16) (.k (.int .i64 6)))), (.op (some 31) none (.mv (.s 32)))]
abbrev QT2 : AC := .run [(.op (some 5) none (.mv (.k (.bool true)))), (.op (some 7) none (.mv (.k (.bool true))))]
abbrev QT3 : AC := .run [(.op (some 34) none (.bin .eql (.s 16) (.k (.int .i64 9)))), (.op (some 33) none (.mv (.s 34)))]
abbrev QT4 : AC := .run [(.op (some 35) none (.faddr (.s 1) 9)), (.op (some 36) none (.load (.s 35) false 1)), (.op (some 5) none (.mv (.s 36))), (.op (some 6) none (.mv (.k (.bool false))))]
abbrev QT5 : AC := .run [(.op (some 38) none (.bin .eql (.s 16) (.k (.int .i64 7)))), (.op (some 37) none (.mv (.s 38)))]
abbrev QT6 : AC := .run [(.op (some 39) none (.bin .eql (.s 16) (.k (.int .i64 8)))), (.op (some 37) none (.mv (.s 39)))]
abbrev QT7 : AC := .cond (.s 37) .skip QT6
abbrev QT8 : AC := .seq QT5 QT7
abbrev QT9 : AC := .run [(.op (some 2) none (.mv (.k (.bool false))))]
abbrev QTA : AC := .seq QT9 .ret
abbrev QTB : AC := .cond (.s 37) .skip QTA
abbrev QTC : AC := .seq QT8 QTB
abbrev QTD : AC := .cond (.s 33) QT4 QTC
abbrev QTE : AC := .seq QT3 QTD
abbrev QTF : AC := .cond (.s 31) QT2 QTE
abbrev QTG : AC := .seq QT1 QTF
abbrev QTH : AC := .cond (.s 29) QT0 QTG
abbrev QTI : AC := .seq QSZ QTH
abbrev QTJ : AC := .cond (.s 24) QSY QTI
abbrev QTK : AC := .seq QSX QTJ
abbrev QTL : AC := .cond (.s 22) QSW QTK
abbrev QTM : AC := .seq QSV QTL
abbrev QTN : AC := .cond (.s 19) QSU QTM
abbrev QTO : AC := .seq QST QTN
abbrev QTP : AC := .cond (.s 17) QSP QTO
abbrev QTQ : AC := .seq QSO QTP
abbrev QTR : AC := .block 0 QTQ
abbrev QTS : AC := .seq QSN QTR
abbrev QTT : AC := .run [(.op (some 40) none (.mv (.s 6))), (.op (some 41) none (.mv (.s 40))), (.op (some 42) (some (41, false)) (.mv (.s 7))), (.op (some 43) (some (41, false)) (.un .not (.s 42))), (.op (some 44) (some (41, false)) (.mv (.s 43))), (.op (some 45) (some (44, true)) (.faddr (.s 1) 11)), (.op (some 46) (some (44, true)) (.load (.s 45) false 1)), (.op (some 47) (some (44, true)) (.len (.s 46))), (.op (some 48) (some (44, true)) (.bin .gtr (.s 47) (.k (.int .i64 0)))), (.op (some 49) (some (41, false)) (.pick (.s 44) (.s 48) (.k (.bool false)))), (.op (some 50) none (.pick (.s 41) (.k (.bool true)) (.s 49))), (.op (some 51) none (.mv (.s 50))), (.op (some 52) (some (51, false)) (.mv (.s 8))), (.op (some 53) (some (51, false)) (.un .not (.s 52))), (.op (some 54) (some (51, false)) (.mv (.s 53))), (.op (some 55) (some (54, true)) (.faddr (.s 1) 12)), (.op (some 56) (some (54, true)) (.load (.s 55) false 1)), (.op (some 57) (some (54, true)) (.len (.s 56))), (.op (some 58) (some (54, true)) (.bin .gtr (.s 57) (.k (.int .i64 0)))), (.op (some 59) (some (51, false)) (.pick (.s 54) (.s 58) (.k (.bool false)))), (.op (some 60) none (.pick (.s 51) (.k (.bool true)) (.s 59))), (.op (some 61) none (.mv (.s 60))), (.op (some 62) (some (61, false)) (.mv (.s 9))), (.op (some 63) (some (61, false)) (.un .not (.s 62))), (.op (some 64) (some (61, false)) (.mv (.s 63))), (.op (some 65) (some (64, true)) (.faddr (.s 1) 10)), (.op (some 66) (some (64, true)) (.load (.s 65) false 1)), (.op (some 67) (some (64, true)) (.len (.s 66))), (.op (some 68) (some (64, true)) (.bin .gtr (.s 67) (.k (.int .i64 0)))), (.op (some 69) (some (61, false)) (.pick (.s 64) (.s 68) (.k (.bool false)))), (.op (some 70) none (.pick (.s 61) (.k (.bool true)) (.s 69)))]
abbrev QTU : AC := .run [(.op (some 2) none (.mv (.k (.bool false))))]
abbrev QTV : AC := .seq QTU .ret
abbrev QTW : AC := .cond (.s 70) QTV .skip
abbrev QTX : AC := .seq QTT QTW
abbrev QTY : AC := .run [(.op (some 71) none (.faddr (.s 1) 3)), (.op (some 72) none (.load (.s 71) false 1)), (.op (some 73) none (.mv (.s 3))), (.call (some 74) none n_tree_named [(.s 72), (.s 73)]), (.op (some 75) none (.un .not (.s 74))), (.op (some 76) none (.mv (.s 75))), (.op (some 77) (some (76, false)) (.faddr (.s 1) 4)), (.op (some 78) (some (76, false)) (.load (.s 77) false 1)), (.op (some 79) (some (76, false)) (.mv (.s 4))), (.call (some 80) (some (76, false)) n_tree_named [(.s 78), (.s 79)]), (.op (some 81) (some (76, false)) (.un .not (.s 80))), (.op (some 82) none (.pick (.s 76) (.k (.bool true)) (.s 81))), (.op (some 83) none (.mv (.s 82))), (.op (some 84) (some (83, false)) (.faddr (.s 1) 5)), (.op (some 85) (some (83, false)) (.load (.s 84) true 4)), (.op (some 86) (some (83, false)) (.mv (.s 5))), (.call (some 87) (some (83, false)) n_tree_worth [(.s 85), (.s 86)]), (.op (some 88) (some (83, false)) (.un .not (.s 87))), (.op (some 89) none (.pick (.s 83) (.k (.bool true)) (.s 88)))]
abbrev QTZ : AC := .run [(.op (some 2) none (.mv (.k (.bool false))))]
abbrev QU0 : AC := .seq QTZ .ret
abbrev QU1 : AC := .cond (.s 89) QU0 .skip
abbrev QU2 : AC := .seq QTY QU1
abbrev QU3 : AC := .run [(.op (some 90) none (.faddr (.s 1) 10)), (.op (some 91) none (.load (.s 90) false 1)), (.call (some 92) none n_tree_handed [(.s 91)]), (.op (some 2) none (.mv (.s 92)))]
abbrev QU4 : AC := .seq QU3 .ret
abbrev QU5 : AC := .seq QU2 QU4
abbrev QU6 : AC := .seq QTX QU5
abbrev QU7 : AC := .seq QTS QU6
abbrev QU8 : AC := .seq QSM QU7
abbrev QU9 : AC := .seq QSL QU8
abbrev QUA : AC := .seq QSK QU9
abbrev QUB : AC := .run [(.op (some 2) none (.mv (.k (.int .i64 0))))]
abbrev QUC : AC := .run [(.op (some 4) none (.mv (.s 0))), (.op (some 5) none (.bin .eql (.s 4) (.k (.int .i64 1)))), (.op (some 6) none (.mv (.s 5))), (.op (some 7) (some (6, false)) (.mv (.s 0))), (.op (some 8) (some (6, false)) (.bin .eql (.s 7) (.k (.int .i64 2)))), (.op (some 9) none (.pick (.s 6) (.k (.bool true)) (.s 8))), (.op (some 3) none (.mv (.s 9)))]
abbrev QUD : AC := .run [(.op (some 2) none (.mv (.k (.int .i64 0))))]
abbrev QUE : AC := .seq QUD .ret
abbrev QUF : AC := .run [(.op (some 11) none (.mv (.s 0))), (.op (some 12) none (.bin .eql (.s 11) (.k (.int .i64 3)))), (.op (some 13) none (.mv (.s 12))), (.op (some 14) (some (13, false)) (.mv (.s 0))), (.op (some 15) (some (13, false)) (.bin .eql (.s 14) (.k (.int .i64 4)))), (.op (some 16) none (.pick (.s 13) (.k (.bool true)) (.s 15))), (.op (some 10) none (.mv (.s 16)))]
abbrev QUG : AC := .run [(.op (some 2) none (.mv (.k (.int .i64 1))))]
abbrev QUH : AC := .seq QUG .ret
abbrev QUI : AC := .run [(.op (some 18) none (.mv (.s 0))), (.op (some 19) none (.bin .geq (.s 18) (.k (.int .i64 5)))), (.op (some 20) none (.mv (.s 19))), (.op (some 21) (some (20, true)) (.mv (.s 0))), (.op (some 22) (some (20, true)) (.bin .leq (.s 21) (.k (.int .i64 17)))), (.op (some 23) none (.pick (.s 20) (.s 22) (.k (.bool false)))), (.op (some 17) none (.mv (.s 23)))]
abbrev QUJ : AC := .run [(.op (some 2) none (.mv (.k (.int .i64 2))))]
abbrev QUK : AC := .seq QUJ .ret
abbrev QUL : AC := .cond (.s 17) QUK .skip
abbrev QUM : AC := .seq QUI QUL
abbrev QUN : AC := .cond (.s 10) QUH QUM
abbrev QUO : AC := .seq QUF QUN
abbrev QUP : AC := .cond (.s 3) QUE QUO
abbrev QUQ : AC := .seq QUC QUP
abbrev QUR : AC := .block 0 QUQ
abbrev QUS : AC := .run [(.op (some 2) none (.mv (.k (.int .i64 (-1)))))]
abbrev QUT : AC := .seq QUS .ret
abbrev QUU : AC := .seq QUR QUT
abbrev QUV : AC := .seq QUB QUU
abbrev QUW : AC := .run [(.op (some 2) none (.mv (.k (.str []))))]
abbrev QUX : AC := .run [(.op (some 3) none (.mv (.s 0))), (.op (some 4) none (.bin .lss (.s 3) (.k (.int .u64 10))))]
abbrev QUY : AC := .run [(.op (some 5) none (.mv (.s 0))), (.op (some 6) none (.bin .add (.k (.int .u64 48)) (.s 5))), (.op (some 7) none (.conv .u8 (.s 6))), (.op (some 8) none (.bslice [(.int .u8 0)] 1 1 [(0, (.s 7))])), (.op (some 9) none (.tostr (.s 8))), (.op (some 2) none (.mv (.s 9)))]
abbrev QUZ : AC := .seq QUY .ret
abbrev QV0 : AC := .cond (.s 4) QUZ .skip
abbrev QV1 : AC := .seq QUX QV0
abbrev QV2 : AC := .par [(.op (some 10) none (.mv (.s 0))), (.op (some 11) none (.bin .quo (.s 10) (.k (.int .u64 10)))), (.call (some 12) none n_ref3_digits [(.s 11)]), (.op (some 13) none (.mv (.s 0))), (.op (some 14) none (.bin .rem (.s 13) (.k (.int .u64 10)))), (.op (some 15) none (.bin .add (.k (.int .u64 48)) (.s 14))), (.op (some 16) none (.conv .u8 (.s 15))), (.op (some 17) none (.bslice [(.int .u8 0)] 1 1 [(0, (.s 16))])), (.op (some 18) none (.tostr (.s 17))), (.op (some 19) none (.bin .add (.s 12) (.s 18))), (.op (some 2) none (.mv (.s 19)))] [(0, 0), (1, 0), (2, 0), (3, 0), (4, 0), (5, 0), (6, 0), (7, 0), (8, 0), (9, 0), (10, 0)]
abbrev QV3 : AC := .seq QV2 .ret
abbrev QV4 : AC := .seq QV1 QV3
abbrev QV5 : AC := .seq QUW QV4
abbrev QV6 : AC := .run [(.op (some 2) none (.mv (.k (.int .i64 0)))), (.op (some 3) none (.mv (.k (.int .i64 0))))]
abbrev QV7 : AC := .run [(.op (some 8) none (.bslice [(.str [])] 1 13 [(0, (.k (.str [42]))), (1, (.k (.str [47]))), (2, (.k (.str [37]))), (3, (.k (.str [43]))), (4, (.k (.str [45]))), (5, (.k (.str [60]))), (6, (.k (.str [60, 61]))), (7, (.k (.str [62]))), (8, (.k (.str [62, 61]))), (9, (.k (.str [61, 61]))), (10, (.k (.str [33, 61]))), (11, (.k (.str [38, 38]))), (12, (.k (.str [124, 124])))])), (.op (some 4) none (.mv (.s 8)))]
abbrev QV8 : AC := .run [(.op (some 9) none (.bslice [(.int .i64 0)] 1 13 [(0, (.k (.int .i64 6))), (1, (.k (.int .i64 6))), (2, (.k (.int .i64 6))), (3, (.k (.int .i64 5))), (4, (.k (.int .i64 5))), (5, (.k (.int .i64 4))), (6, (.k (.int .i64 4))), (7, (.k (.int .i64 4))), (8, (.k (.int .i64 4))), (9, (.k (.int .i64 3))), (10, (.k (.int .i64 3))), (11, (.k (.int .i64 2))), (12, (.k (.int .i64 1)))])), (.op (some 5) none (.mv (.s 9)))]
abbrev QV9 : AC := .run [(.op (some 10) none (.mv (.s 4))), (.op (some 11) none (.len (.s 10))), (.op (some 12) none (.mv (.k (.int .i64 0))))]
abbrev QVA : AC := .run [(.op (some 13) none (.bin .lss (.s 12) (.s 11)))]
abbrev QVB : AC := .cond (.s 13) .skip (.exit 0)
abbrev QVC : AC := .run [(.op (some 14) none (.mv (.s 12))), (.op (some 15) none (.iaddr (.s 10) (.s 12) 1)), (.op (some 16) none (.load (.s 15) false 1)), (.op (some 6) none (.mv (.s 14))), (.op (some 7) none (.mv (.s 16)))]
abbrev QVD : AC := .run [(.op (some 17) none (.mv (.s 7))), (.op (some 18) none (.mv (.s 0))), (.op (some 19) none (.bin .eql (.s 17) (.s 18)))]
abbrev QVE : AC := .run [(.op (some 20) none (.mv (.s 5))), (.op (some 21) none (.mv (.s 6))), (.op (some 22) none (.iaddr (.s 20) (.s 21) 1)), (.op (some 23) none (.load (.s 22) false 1)), (.op (some 24) none (.mv (.s 6))), (.op (some 25) none (.bin .add (.k (.int .i64 5)) (.s 24))), (.op (some 2) none (.mv (.s 23))), (.op (some 3) none (.mv (.s 25)))]
abbrev QVF : AC := .seq QVE .ret
abbrev QVG : AC := .cond (.s 19) QVF .skip
abbrev QVH : AC := .seq QVD QVG
abbrev QVI : AC := .seq QVC QVH
abbrev QVJ : AC := .block 1 QVI
abbrev QVK : AC := .run [(.op (some 26) none (.bin .add (.s 12) (.k (.int .i64 1)))), (.op (some 12) none (.mv (.s 26)))]
abbrev QVL : AC := .seq QVJ QVK
abbrev QVM : AC := .seq QVB QVL
abbrev QVN : AC := .seq QVA QVM
abbrev QVO : AC := .loop QVN
abbrev QVP : AC := .block 0 QVO
abbrev QVQ : AC := .seq QV9 QVP
abbrev QVR : AC := .run [(.op (some 2) none (.mv (.k (.int .i64 0)))), (.op (some 3) none (.mv (.k (.int .i64 0))))]
abbrev QVS : AC := .seq QVR .ret
abbrev QVT : AC := .seq QVQ QVS
abbrev QVU : AC := .seq QV8 QVT
abbrev QVV : AC := .seq QV7 QVU
abbrev QVW : AC := .seq QV6 QVV

end Go.Abs

/-! Have2 -/

namespace Go.Abs
open Go.Proofs

theorem has_strings_Builder_WriteByte : Has Tryd.prog n_strings_Builder_WriteByte 17 [(4, none)] QID := ⟨Tryd.f68, by kernel_rfl, by kernel_rfl⟩
theorem has_strings_Builder_WriteString : Has Tryd.prog n_strings_Builder_WriteString 19 [(4, none), (5, none)] QIL := ⟨Tryd.f69, by kernel_rfl, by kernel_rfl⟩
theorem has_print_plain : Has Tryd.prog n_print_plain 85 [(2, none)] QKR := ⟨Tryd.f71, by kernel_rfl, by kernel_rfl⟩
theorem has_tree_deep : Has Tryd.prog n_tree_deep 61 [(4, none)] QM4 := ⟨Tryd.f73, by kernel_rfl, by kernel_rfl⟩
theorem has_print_sign : Has Tryd.prog n_print_sign 31 [(2, none), (3, none)] QO5 := ⟨Tryd.f75, by kernel_rfl, by kernel_rfl⟩
theorem has_ref3_Arity : Has Tryd.prog n_ref3_Arity 24 [(2, none)] QOQ := ⟨Tryd.f76, by kernel_rfl, by kernel_rfl⟩
theorem has_ref3_Dec : Has Tryd.prog n_ref3_Dec 15 [(2, none)] QP0 := ⟨Tryd.f77, by kernel_rfl, by kernel_rfl⟩
theorem has_ref3_kid : Has Tryd.prog n_ref3_kid 15 [(4, none)] QPA := ⟨Tryd.f78, by kernel_rfl, by kernel_rfl⟩
theorem has_ref3_much : Has Tryd.prog n_ref3_much 17 [(2, none)] QPM := ⟨Tryd.f79, by kernel_rfl, by kernel_rfl⟩
theorem has_ref3_sign : Has Tryd.prog n_ref3_sign 8 [(2, none)] QPQ := ⟨Tryd.f80, by kernel_rfl, by kernel_rfl⟩
theorem has_ref1_small : Has Tryd.prog n_ref1_small 9 [(2, none)] QPU := ⟨Tryd.f81, by kernel_rfl, by kernel_rfl⟩
theorem has_ref1_digit : Has Tryd.prog n_ref1_digit 9 [(2, none)] QPY := ⟨Tryd.f82, by kernel_rfl, by kernel_rfl⟩
theorem has_ref1_Word : Has Tryd.prog n_ref1_Word 15 [(2, none)] QQL := ⟨Tryd.f83, by kernel_rfl, by kernel_rfl⟩
theorem has_lex_letter : Has Tryd.prog n_lex_letter 9 [(2, none)] QQP := ⟨Tryd.f88, by kernel_rfl, by kernel_rfl⟩
theorem has_lex_digit : Has Tryd.prog n_lex_digit 9 [(2, none)] QQT := ⟨Tryd.f89, by kernel_rfl, by kernel_rfl⟩
theorem has_lex_run : Has Tryd.prog n_lex_run 24 [(4, none)] QR6 := ⟨Tryd.f91, by kernel_rfl, by kernel_rfl⟩
theorem has_lex_Word : Has Tryd.prog n_lex_Word 18 [(2, none)] QSJ := ⟨Tryd.f92, by kernel_rfl, by kernel_rfl⟩
theorem has_tree_fields : Has Tryd.prog n_tree_fields 93 [(2, none)] QUA := ⟨Tryd.f103, by kernel_rfl, by kernel_rfl⟩
theorem has_tree_kids : Has Tryd.prog n_tree_kids 24 [(2, none)] QUV := ⟨Tryd.f107, by kernel_rfl, by kernel_rfl⟩
theorem has_ref3_digits : Has Tryd.prog n_ref3_digits 20 [(2, none)] QV5 := ⟨Tryd.f109, by kernel_rfl, by kernel_rfl⟩
theorem has_ref3_Binds : Has Tryd.prog n_ref3_Binds 27 [(2, none), (3, none)] QVW := ⟨Tryd.f110, by kernel_rfl, by kernel_rfl⟩

end Go.Abs

/-! Codes3 -/

namespace Go.Abs

abbrev QVX : AC := .run [(.op (some 0) none (.mv (.k (.slice .full 0 []))))]
abbrev QVY : AC := .run [(.op (some 1) none (.bslice [(.str [])] 1 13 [(0, (.k (.str [103, 108, 111, 98, 97, 108]))), (1, (.k (.str [112, 114, 111, 99]))), (2, (.k (.str [118, 97, 114]))), (3, (.k (.str [114, 101, 102]))), (4, (.k (.str [105, 102]))), (5, (.k (.str [101, 108, 115, 101]))), (6, (.k (.str [119, 104, 105, 108, 101]))), (7, (.k (.str [98, 114, 101, 97, 107]))), (8, (.k (.str [99, 111, 110, 116, 105, 110, 117, 101]))), (9, (.k (.str [114, 101, 116, 117, 114, 110]))), (10, (.k (.str [103, 111, 116, 111]))), (11, (.k (.str [114, 101, 97, 100]))), (12, (.k (.str [112, 114, 105, 110, 116])))])), (.op (some 0) none (.mv (.s 1)))]
abbrev QVZ : AC := .seq QVY .ret
abbrev QW0 : AC := .seq QVX QVZ
abbrev QW1 : AC := .run [(.op (some 4) none (.mv (.k (.bool false))))]
abbrev QW2 : AC := .run [(.op (some 5) none (.mv (.s 1))), (.op (some 6) none (.mv (.s 5))), (.op (some 7) (some (6, true)) (.mv (.s 0))), (.call (some 8) (some (6, true)) n_lex_Name [(.s 7)]), (.op (some 9) none (.pick (.s 6) (.s 8) (.k (.bool false)))), (.op (some 10) none (.mv (.s 9))), (.op (some 11) (some (10, false)) (.mv (.s 1))), (.op (some 12) (some (10, false)) (.un .not (.s 11))), (.op (some 13) (some (10, false)) (.mv (.s 12))), (.op (some 14) (some (13, true)) (.mv (.s 0))), (.op (some 15) (some (13, true)) (.bin .eql (.s 14) (.k (.str [])))), (.op (some 16) (some (10, false)) (.pick (.s 13) (.s 15) (.k (.bool false)))), (.op (some 17) none (.pick (.s 10) (.k (.bool true)) (.s 16))), (.op (some 4) none (.mv (.s 17)))]
abbrev QW3 : AC := .seq QW2 .ret
abbrev QW4 : AC := .seq QW1 QW3
abbrev QW5 : AC := .run [(.op (some 2) none (.box (.s 0))), (.op (some 4) none (.mv (.k (.bool false))))]
abbrev QW6 : AC := .run [(.op (some 5) none (.mv (.s 1))), (.op (some 6) none (.mv (.s 5))), (.op (some 7) (some (6, true)) (.load (.s 2) true 4)), (.call (some 8) (some (6, true)) n_tree_MayExpr [(.s 7)]), (.op (some 9) none (.pick (.s 6) (.s 8) (.k (.bool false)))), (.op (some 10) none (.mv (.s 9))), (.op (some 11) (some (10, false)) (.mv (.s 1))), (.op (some 12) (some (10, false)) (.un .not (.s 11))), (.op (some 13) (some (10, false)) (.mv (.s 12))), (.op (some 14) (some (13, true)) (.load (.s 2) true 4)), (.call (some 15) (some (13, true)) n_tree_none [(.s 14)]), (.op (some 16) (some (10, false)) (.pick (.s 13) (.s 15) (.k (.bool false)))), (.op (some 17) none (.pick (.s 10) (.k (.bool true)) (.s 16))), (.op (some 4) none (.mv (.s 17)))]
abbrev QW7 : AC := .seq QW6 .ret
abbrev QW8 : AC := .seq QW5 QW7
abbrev QW9 : AC := .run [(.op (some 2) none (.mv (.k (.bool false))))]
abbrev QWA : AC := .run [(.op (some 5) none (.mv (.s 0))), (.op (some 6) none (.len (.s 5))), (.op (some 7) none (.mv (.k (.int .i64 0))))]
abbrev QWB : AC := .run [(.op (some 8) none (.bin .lss (.s 7) (.s 6)))]
abbrev QWC : AC := .cond (.s 8) .skip (.exit 0)
abbrev QWD : AC := .run [(.op (some 9) none (.iaddr (.s 5) (.s 7) 6)), (.op (some 10) none (.load (.s 9) true 6)), (.op (some 4) none (.alloc [(.bool false), (.str []), (.int .i64 0), (.int .i64 0), (.str []), (.slice .full 0 [])])), (.op none none (.store (.s 4) (.s 10) 6))]
abbrev QWE : AC := .run [(.op (some 11) none (.faddr (.s 4) 1)), (.op (some 12) none (.load (.s 11) false 1)), (.op (some 13) none (.faddr (.s 4) 0)), (.op (some 14) none (.load (.s 13) false 1)), (.call (some 15) none n_tree_named [(.s 12), (.s 14)]), (.op (some 16) none (.un .not (.s 15))), (.op (some 17) none (.mv (.s 16))), (.op (some 18) (some (17, false)) (.faddr (.s 4) 2)), (.op (some 19) (some (17, false)) (.load (.s 18) true 4)), (.op (some 20) (some (17, false)) (.faddr (.s 4) 0)), (.op (some 21) (some (17, false)) (.load (.s 20) false 1)), (.op (some 22) (some (17, false)) (.un .not (.s 21))), (.call (some 23) (some (17, false)) n_tree_worth [(.s 19), (.s 22)]), (.op (some 24) (some (17, false)) (.un .not (.s 23))), (.op (some 25) none (.pick (.s 17) (.k (.bool true)) (.s 24)))]
abbrev QWF : AC := .run [(.op (some 2) none (.mv (.k (.bool false))))]
abbrev QWG : AC := .seq QWF .ret
abbrev QWH : AC := .cond (.s 25) QWG .skip
abbrev QWI : AC := .seq QWE QWH
abbrev QWJ : AC := .seq QWD QWI
abbrev QWK : AC := .block 1 QWJ
abbrev QWL : AC := .run [(.op (some 26) none (.bin .add (.s 7) (.k (.int .i64 1)))), (.op (some 7) none (.mv (.s 26)))]
abbrev QWM : AC := .seq QWK QWL
abbrev QWN : AC := .seq QWC QWM
abbrev QWO : AC := .seq QWB QWN
abbrev QWP : AC := .loop QWO
abbrev QWQ : AC := .block 0 QWP
abbrev QWR : AC := .seq QWA QWQ
abbrev QWS : AC := .run [(.op (some 2) none (.mv (.k (.bool true))))]
abbrev QWT : AC := .seq QWS .ret
abbrev QWU : AC := .seq QWR QWT
abbrev QWV : AC := .seq QW9 QWU
abbrev QWW : AC := .run [(.op (some 1) none (.box (.s 0))), (.op (some 2) none (.mv (.k (.bool false))))]
abbrev QWX : AC := .run [(.op (some 3) none (.faddr (.s 1) 0)), (.op (some 4) none (.load (.s 3) false 1)), (.op (some 5) none (.bin .eql (.s 4) (.k (.int .i64 0)))), (.op (some 6) none (.mv (.s 5))), (.op (some 7) (some (6, true)) (.faddr (.s 1) 1)), (.op (some 8) (some (6, true)) (.load (.s 7) false 1)), (.op (some 9) (some (6, true)) (.bin .eql (.s 8) (.k (.int .i64 0)))), (.op (some 10) none (.pick (.s 6) (.s 9) (.k (.bool false)))), (.op (some 11) none (.mv (.s 10))), (.op (some 12) (some (11, true)) (.faddr (.s 1) 2)), (.op (some 13) (some (11, true)) (.load (.s 12) false 1)), (.op (some 14) (some (11, true)) (.bin .eql (.s 13) (.k (.str [])))), (.op (some 15) none (.pick (.s 11) (.s 14) (.k (.bool false)))), (.op (some 16) none (.mv (.s 15))), (.op (some 17) (some (16, true)) (.faddr (.s 1) 3)), (.op (some 18) (some (16, true)) (.load (.s 17) false 1)), (.op (some 19) (some (16, true)) (.len (.s 18))), (.op (some 20) (some (16, true)) (.bin .eql (.s 19) (.k (.int .i64 0)))), (.op (some 21) none (.pick (.s 16) (.s 20) (.k (.bool false)))), (.op (some 2) none (.mv (.s 21)))]
abbrev QWY : AC := .seq QWX .ret
abbrev QWZ : AC := .seq QWW QWY

end Go.Abs

/-! Have3 -/

namespace Go.Abs
open Go.Proofs

theorem has_ref1_Words : Has Tryd.prog n_ref1_Words 2 [(0, none)] QW0 := ⟨Tryd.f111, by kernel_rfl, by kernel_rfl⟩
theorem has_tree_named : Has Tryd.prog n_tree_named 18 [(4, none)] QW4 := ⟨Tryd.f119, by kernel_rfl, by kernel_rfl⟩
theorem has_tree_worth : Has Tryd.prog n_tree_worth 18 [(4, none)] QW8 := ⟨Tryd.f120, by kernel_rfl, by kernel_rfl⟩
theorem has_tree_handed : Has Tryd.prog n_tree_handed 27 [(2, none)] QWV := ⟨Tryd.f121, by kernel_rfl, by kernel_rfl⟩
theorem has_tree_none : Has Tryd.prog n_tree_none 22 [(2, none)] QWZ := ⟨Tryd.f130, by kernel_rfl, by kernel_rfl⟩
end Go.Abs

/-! Prs -/

namespace Go.Abs

set_option maxRecDepth 8000
set_option linter.unusedSimpArgs false
set_option linter.unusedVariables false
open Go.Proofs

@[go_sem] def encRd (r : Rd) : List D := [.slice .shared 4 (r.l.map encTok), .int .i64 r.i, .int .i64 r.code, .int .i64 r.fat, .int .i64 r.n]
end Go.Abs

/-! Lex1 -/

namespace Go.Abs

set_option maxRecDepth 8000
set_option linter.unusedSimpArgs false
set_option linter.unusedVariables false
open Go.Proofs

theorem letter_s (c : UInt8) (s : St) : Fun Tryd.prog n_lex_letter [.int .u8 (c.toNat : Int)] s (.bool (isL c)) s := by
  refine Fun.pure ?_ rfl rfl s
  generalize h : isL c = b
  unfold isL at h
  unfold S0
  refine Fun.go has_lex_letter rfl fun B Q hB hQ => ?_
  have hlt : 0 < 1 := Nat.zero_lt_one
  have hget : 0 < 1 := Nat.zero_lt_one
  have hpu : 0 < 1 := Nat.zero_lt_one
  have hinc : 0 < 1 := Nat.zero_lt_one
  repeat' (first
 | simp only [go_sem, hlt, hget, hpu, hinc, Int.reduceLE, ↓reduceIte, reduceCtorEq, Nat.reduceEqDiff, Nat.reduceLeDiff, Nat.reduceAdd, Nat.reduceMul, Nat.reduceSub, Nat.reduceLT]
 | (with_reducible first | refine CB_ofT (by assumption) fun hc => ?_ | refine CB_ofF (by assumption) fun hc => ?_ | refine CB_split (fun hc => ?_) fun hc => ?_) <;> (try simp only [hc, bs, ↓reduceIte] at h) <;> (try simp only [hc])
 | ((with_reducible first | refine leafR hQ ?_ | refine leafN hQ ?_); (try cases h); simp only [resL, oneD, Option.some.injEq, exists_eq_left', go_sem, hlt, hget, hpu, hinc, Int.reduceLE, ↓reduceIte, reduceCtorEq, Nat.reduceEqDiff, Nat.reduceLeDiff, Nat.reduceAdd, Nat.reduceMul, Nat.reduceSub, Nat.reduceLT]; repeat' (first | exact Ok.out | with_reducible refine And.intro ?_ ?_ | (simp; done)))
 | (cases h; replace h := hr; clear hr; (try simp only [bs, ↓reduceIte] at h))
 | (cases h; done))

theorem digit_s (c : UInt8) (s : St) : Fun Tryd.prog n_lex_digit [.int .u8 (c.toNat : Int)] s (.bool (isD c)) s := by
  refine Fun.pure ?_ rfl rfl s
  generalize h : isD c = b
  unfold isD at h
  unfold S0
  refine Fun.go has_lex_digit rfl fun B Q hB hQ => ?_
  have hlt : 0 < 1 := Nat.zero_lt_one
  have hget : 0 < 1 := Nat.zero_lt_one
  have hpu : 0 < 1 := Nat.zero_lt_one
  have hinc : 0 < 1 := Nat.zero_lt_one
  repeat' (first
 | simp only [go_sem, hlt, hget, hpu, hinc, Int.reduceLE, ↓reduceIte, reduceCtorEq, Nat.reduceEqDiff, Nat.reduceLeDiff, Nat.reduceAdd, Nat.reduceMul, Nat.reduceSub, Nat.reduceLT]
 | (with_reducible first | refine CB_ofT (by assumption) fun hc => ?_ | refine CB_ofF (by assumption) fun hc => ?_ | refine CB_split (fun hc => ?_) fun hc => ?_) <;> (try simp only [hc, bs, ↓reduceIte] at h) <;> (try simp only [hc])
 | ((with_reducible first | refine leafR hQ ?_ | refine leafN hQ ?_); (try cases h); simp only [resL, oneD, Option.some.injEq, exists_eq_left', go_sem, hlt, hget, hpu, hinc, Int.reduceLE, ↓reduceIte, reduceCtorEq, Nat.reduceEqDiff, Nat.reduceLeDiff, Nat.reduceAdd, Nat.reduceMul, Nat.reduceSub, Nat.reduceLT]; repeat' (first | exact Ok.out | with_reducible refine And.intro ?_ ?_ | (simp; done)))
 | (cases h; replace h := hr; clear hr; (try simp only [bs, ↓reduceIte] at h))
 | (cases h; done))

theorem word_s (t : Str) (s : St) : Fun Tryd.prog n_lex_Word [.str t] s (.bool (isWord t)) s := by
  refine Fun.pure ?_ rfl rfl s
  generalize h : isWord t = b
  unfold isWord at h
  unfold S0
  refine Fun.go has_lex_Word rfl fun B Q hB hQ => ?_
  have hlt : 0 < 1 := Nat.zero_lt_one
  have hget : 0 < 1 := Nat.zero_lt_one
  have hpu : 0 < 1 := Nat.zero_lt_one
  have hinc : 0 < 1 := Nat.zero_lt_one
  repeat' (first
 | simp only [go_sem, hlt, hget, hpu, hinc, Int.reduceLE, ↓reduceIte, reduceCtorEq, Nat.reduceEqDiff, Nat.reduceLeDiff, Nat.reduceAdd, Nat.reduceMul, Nat.reduceSub, Nat.reduceLT]
 | (with_reducible first | refine CB_ofT (by assumption) fun hc => ?_ | refine CB_ofF (by assumption) fun hc => ?_ | refine CB_split (fun hc => ?_) fun hc => ?_) <;> (try simp only [hc, bs, ↓reduceIte] at h) <;> (try simp only [hc])
 | ((with_reducible first | refine leafR hQ ?_ | refine leafN hQ ?_); (try cases h); simp only [resL, oneD, Option.some.injEq, exists_eq_left', go_sem, hlt, hget, hpu, hinc, Int.reduceLE, ↓reduceIte, reduceCtorEq, Nat.reduceEqDiff, Nat.reduceLeDiff, Nat.reduceAdd, Nat.reduceMul, Nat.reduceSub, Nat.reduceLT]; repeat' (first | exact Ok.out | with_reducible refine And.intro ?_ ?_ | (simp; done)))
 | (cases h; replace h := hr; clear hr; (try simp only [bs, ↓reduceIte] at h))
 | (cases h; done))

theorem run_s {text : Str} {pos : Nat} (hl : text.length < 4611686018427387904) (s : St) : Fun Tryd.prog n_lex_run [.str text, .int .i64 (pos : Int)] s (.int .i64 ((pos + runL (text.drop pos) : Nat) : Int)) s := by
  refine Fun.pure ?_ rfl rfl s
  unfold S0
  refine Fun.go has_lex_run rfl fun B Q hB hQ => ?_
  have hlt : 0 < 1 := Nat.zero_lt_one
  have hget : 0 < 1 := Nat.zero_lt_one
  have hpu : 0 < 1 := Nat.zero_lt_one
  have hinc : 0 < 1 := Nat.zero_lt_one
  repeat' (first
 | simp only [go_sem, hlt, hget, hpu, hinc, Int.reduceLE, ↓reduceIte, reduceCtorEq, Nat.reduceEqDiff, Nat.reduceLeDiff, Nat.reduceAdd, Nat.reduceMul, Nat.reduceSub, Nat.reduceLT]
 | (with_reducible first | refine CB_ofT (by assumption) fun hc => ?_ | refine CB_ofF (by assumption) fun hc => ?_ | refine CB_split (fun hc => ?_) fun hc => ?_) <;> (try simp only [hc, bs, ↓reduceIte] at h) <;> (try simp only [hc])
 | ((with_reducible first | refine leafR hQ ?_ | refine leafN hQ ?_); (try cases h); simp only [resL, oneD, Option.some.injEq, exists_eq_left', go_sem, hlt, hget, hpu, hinc, Int.reduceLE, ↓reduceIte, reduceCtorEq, Nat.reduceEqDiff, Nat.reduceLeDiff, Nat.reduceAdd, Nat.reduceMul, Nat.reduceSub, Nat.reduceLT]; repeat' (first | exact Ok.out | with_reducible refine And.intro ?_ ?_ | (simp; done)))
 | (cases h; replace h := hr; clear hr; (try simp only [bs, ↓reduceIte] at h))
 | (cases h; done))
  refine SemL.re _ _ 0 0 (by rw [hB]; exact Nat.le_of_ble_eq_true rfl) (by rw [hB]; exact Nat.le_of_ble_eq_true rfl) ?_ ?_ (SemL.ind (ι := Str × Nat) (fun i => text.drop i.2 = i.1 ∧ i.2 + runL i.1 = pos + runL (text.drop pos)) (fun i => i.1.length)
    (fun i => [(0, .str text), (1, .int .i64 (i.2 : Int))]) (fun i => ⟨[], []⟩) ?_ (text.drop pos, pos) ⟨rfl, rfl⟩)
  · (simp only [go_sem, hlt, hget, hpu, hinc, Int.reduceLE, ↓reduceIte, reduceCtorEq, Nat.reduceEqDiff, Nat.reduceLeDiff, Nat.reduceAdd, Nat.reduceMul, Nat.reduceSub, Nat.reduceLT]; repeat' (first | exact Ok.out | with_reducible refine And.intro ?_ ?_))
  · (simp only [go_sem, hlt, hget, hpu, hinc, Int.reduceLE, ↓reduceIte, reduceCtorEq, Nat.reduceEqDiff, Nat.reduceLeDiff, Nat.reduceAdd, Nat.reduceMul, Nat.reduceSub, Nat.reduceLT]; repeat' (first | exact Ok.out | with_reducible refine And.intro ?_ ?_))
  rintro ⟨rest, k⟩ ⟨h1, h2⟩ IH
  dsimp only at h1 h2
  cases rest with
  | nil =>
    have hlt := drop_nil h1
    simp only [runL, Nat.add_zero] at h2
    rw [← h2] at hQ
    repeat' (first
 | simp only [go_sem, hlt, hget, hpu, hinc, Int.reduceLE, ↓reduceIte, reduceCtorEq, Nat.reduceEqDiff, Nat.reduceLeDiff, Nat.reduceAdd, Nat.reduceMul, Nat.reduceSub, Nat.reduceLT]
 | (with_reducible first | refine CB_ofT (by assumption) fun hc => ?_ | refine CB_ofF (by assumption) fun hc => ?_ | refine CB_split (fun hc => ?_) fun hc => ?_) <;> (try simp only [hc, bs, ↓reduceIte] at h) <;> (try simp only [hc])
 | ((with_reducible first | refine leafR hQ ?_ | refine leafN hQ ?_); (try cases h); simp only [resL, oneD, Option.some.injEq, exists_eq_left', go_sem, hlt, hget, hpu, hinc, Int.reduceLE, ↓reduceIte, reduceCtorEq, Nat.reduceEqDiff, Nat.reduceLeDiff, Nat.reduceAdd, Nat.reduceMul, Nat.reduceSub, Nat.reduceLT]; repeat' (first | exact Ok.out | with_reducible refine And.intro ?_ ?_ | (simp; done)))
 | (cases h; replace h := hr; clear hr; (try simp only [bs, ↓reduceIte] at h))
 | (cases h; done))
  | cons c rest =>
    obtain ⟨hget, g2, hlt, g4⟩ := drop_cons h1
    have hpu : k < 4611686018427387904 := by omega
    cases hb : (isL c || isD c)
    · simp only [runL, hb, Bool.false_eq_true, ↓reduceIte, Nat.add_zero] at h2
      rw [← h2] at hQ
      simp only [Bool.or_eq_false_iff] at hb
      repeat' (first
 | simp only [go_sem, hlt, hget, hpu, hinc, Int.reduceLE, ↓reduceIte, reduceCtorEq, Nat.reduceEqDiff, Nat.reduceLeDiff, Nat.reduceAdd, Nat.reduceMul, Nat.reduceSub, Nat.reduceLT, hb.1, hb.2]
 | (with_reducible refine CU (letter_s _ _) ?_)
 | (with_reducible refine CU (digit_s _ _) ?_)
 | (with_reducible first | refine CB_ofT (by assumption) fun hc => ?_ | refine CB_ofF (by assumption) fun hc => ?_ | refine CB_split (fun hc => ?_) fun hc => ?_) <;> (try simp only [hc, bs, ↓reduceIte] at h) <;> (try simp only [hc])
 | ((with_reducible first | refine leafR hQ ?_ | refine leafN hQ ?_); (try cases h); simp only [resL, oneD, Option.some.injEq, exists_eq_left', go_sem, hlt, hget, hpu, hinc, Int.reduceLE, ↓reduceIte, reduceCtorEq, Nat.reduceEqDiff, Nat.reduceLeDiff, Nat.reduceAdd, Nat.reduceMul, Nat.reduceSub, Nat.reduceLT, hb.1, hb.2]; repeat' (first | exact Ok.out | with_reducible refine And.intro ?_ ?_ | (simp; done)))
 | (cases h; replace h := hr; clear hr; (try simp only [bs, ↓reduceIte] at h))
 | (cases h; done))
    · simp only [runL, hb, ↓reduceIte] at h2
      cases hb1 : isL c
      · rw [hb1, Bool.false_or] at hb
        repeat' (first
 | simp only [go_sem, hlt, hget, hpu, hinc, Int.reduceLE, ↓reduceIte, reduceCtorEq, Nat.reduceEqDiff, Nat.reduceLeDiff, Nat.reduceAdd, Nat.reduceMul, Nat.reduceSub, Nat.reduceLT, hb, hb1]
 | (with_reducible refine CU (letter_s _ _) ?_)
 | (with_reducible refine CU (digit_s _ _) ?_)
 | (with_reducible first | refine CB_ofT (by assumption) fun hc => ?_ | refine CB_ofF (by assumption) fun hc => ?_ | refine CB_split (fun hc => ?_) fun hc => ?_) <;> (try simp only [hc, bs, ↓reduceIte] at h) <;> (try simp only [hc])
 | ((with_reducible first | refine leafR hQ ?_ | refine leafN hQ ?_); (try cases h); simp only [resL, oneD, Option.some.injEq, exists_eq_left', go_sem, hlt, hget, hpu, hinc, Int.reduceLE, ↓reduceIte, reduceCtorEq, Nat.reduceEqDiff, Nat.reduceLeDiff, Nat.reduceAdd, Nat.reduceMul, Nat.reduceSub, Nat.reduceLT, hb, hb1]; repeat' (first | exact Ok.out | with_reducible refine And.intro ?_ ?_ | (simp; done)))
 | (cases h; replace h := hr; clear hr; (try simp only [bs, ↓reduceIte] at h))
 | (cases h; done))
        refine SemL.re _ _ 0 0 (by rw [hB]; exact Nat.le_of_ble_eq_true rfl) (by rw [hB]; exact Nat.le_of_ble_eq_true rfl) ?_ ?_ (IH (rest, k + 1) ⟨g2, by dsimp only; omega⟩ (Nat.lt_succ_self _))
        · (simp only [go_sem, hlt, hget, hpu, hinc, Int.reduceLE, ↓reduceIte, reduceCtorEq, Nat.reduceEqDiff, Nat.reduceLeDiff, Nat.reduceAdd, Nat.reduceMul, Nat.reduceSub, Nat.reduceLT]; repeat' (first | exact Ok.out | with_reducible refine And.intro ?_ ?_))
        · (simp only [go_sem, hlt, hget, hpu, hinc, Int.reduceLE, ↓reduceIte, reduceCtorEq, Nat.reduceEqDiff, Nat.reduceLeDiff, Nat.reduceAdd, Nat.reduceMul, Nat.reduceSub, Nat.reduceLT]; repeat' (first | exact Ok.out | with_reducible refine And.intro ?_ ?_))
      · repeat' (first
 | simp only [go_sem, hlt, hget, hpu, hinc, Int.reduceLE, ↓reduceIte, reduceCtorEq, Nat.reduceEqDiff, Nat.reduceLeDiff, Nat.reduceAdd, Nat.reduceMul, Nat.reduceSub, Nat.reduceLT, hb1]
 | (with_reducible refine CU (letter_s _ _) ?_)
 | (with_reducible refine CU (digit_s _ _) ?_)
 | (with_reducible first | refine CB_ofT (by assumption) fun hc => ?_ | refine CB_ofF (by assumption) fun hc => ?_ | refine CB_split (fun hc => ?_) fun hc => ?_) <;> (try simp only [hc, bs, ↓reduceIte] at h) <;> (try simp only [hc])
 | ((with_reducible first | refine leafR hQ ?_ | refine leafN hQ ?_); (try cases h); simp only [resL, oneD, Option.some.injEq, exists_eq_left', go_sem, hlt, hget, hpu, hinc, Int.reduceLE, ↓reduceIte, reduceCtorEq, Nat.reduceEqDiff, Nat.reduceLeDiff, Nat.reduceAdd, Nat.reduceMul, Nat.reduceSub, Nat.reduceLT, hb1]; repeat' (first | exact Ok.out | with_reducible refine And.intro ?_ ?_ | (simp; done)))
 | (cases h; replace h := hr; clear hr; (try simp only [bs, ↓reduceIte] at h))
 | (cases h; done))
        refine SemL.re _ _ 0 0 (by rw [hB]; exact Nat.le_of_ble_eq_true rfl) (by rw [hB]; exact Nat.le_of_ble_eq_true rfl) ?_ ?_ (IH (rest, k + 1) ⟨g2, by dsimp only; omega⟩ (Nat.lt_succ_self _))
        · (simp only [go_sem, hlt, hget, hpu, hinc, Int.reduceLE, ↓reduceIte, reduceCtorEq, Nat.reduceEqDiff, Nat.reduceLeDiff, Nat.reduceAdd, Nat.reduceMul, Nat.reduceSub, Nat.reduceLT]; repeat' (first | exact Ok.out | with_reducible refine And.intro ?_ ?_))
        · (simp only [go_sem, hlt, hget, hpu, hinc, Int.reduceLE, ↓reduceIte, reduceCtorEq, Nat.reduceEqDiff, Nat.reduceLeDiff, Nat.reduceAdd, Nat.reduceMul, Nat.reduceSub, Nat.reduceLT]; repeat' (first | exact Ok.out | with_reducible refine And.intro ?_ ?_))

/-- What a text of digits is worth. -/
def worthP (s : Str) : Int × Bool := match worth 0 s with | some n => (n, true) | none => (0, false)

end Go.Abs

/-! Lex2 -/

namespace Go.Abs

set_option maxRecDepth 8000
set_option linter.unusedSimpArgs false
set_option linter.unusedVariables false
open Go.Proofs

def encF (f : Int × Int) : List D := [.int .i64 f.1, .int .i64 f.2]

/-- At the label ahead of the next token. -/
def lexTM (text : Str) (out : List Tok) (pos : Nat) : Tm := [(0, .str text), (3, .ptr 0 0), (4, .slice (.tok 0) 4 (out.map encTok)), (5, .ptr 1 0), (6, .int .i64 (pos : Int))]
def lexST (out : List Tok) : St := ⟨[[.int .i64 0, .int .i64 0], [.junk, .junk, .junk, .junk]], [some out.length]⟩

/-- On to the next token. -/
def LexGo (text : Str) (B : Base) (Q : Exit → Tm → St → Prop) (p : List Tok × Int × Int) (N : Nat) : Prop :=
  ∀ (n pos : Nat) (rest : Str) (out : List Tok), text.drop pos = rest → lexF n pos rest out = p → rest.length < n → out.length ≤ 2000 → pos ≤ text.length → n < N →
    SemS Tryd.prog B 152 QFT (.seq .skip QFO) Q (lexTM text out pos) (lexST out)

attribute [go_sem] lexTM lexST encF
end Go.Abs

/-! RefLex1 -/

namespace Go.Abs

set_option maxRecDepth 8000
set_option linter.unusedSimpArgs false
set_option linter.unusedVariables false
open Go.Proofs

theorem Rsmall_s (c : UInt8) (s : St) : Fun Tryd.prog n_ref1_small [.int .u8 (c.toNat : Int)] s (.bool (isL c)) s := by
  refine Fun.pure ?_ rfl rfl s
  generalize h : isL c = b
  unfold isL at h
  unfold S0
  refine Fun.go has_ref1_small rfl fun B Q hB hQ => ?_
  have hlt : 0 < 1 := Nat.zero_lt_one
  have hget : 0 < 1 := Nat.zero_lt_one
  have hpu : 0 < 1 := Nat.zero_lt_one
  have hinc : 0 < 1 := Nat.zero_lt_one
  repeat' (first
 | simp only [go_sem, hlt, hget, hpu, hinc, Int.reduceLE, ↓reduceIte, reduceCtorEq, Nat.reduceEqDiff, Nat.reduceLeDiff, Nat.reduceAdd, Nat.reduceMul, Nat.reduceSub, Nat.reduceLT]
 | (with_reducible first | refine CB_ofT (by assumption) fun hc => ?_ | refine CB_ofF (by assumption) fun hc => ?_ | refine CB_split (fun hc => ?_) fun hc => ?_) <;> (try simp only [hc, bs, ↓reduceIte] at h) <;> (try simp only [hc])
 | ((with_reducible first | refine leafR hQ ?_ | refine leafN hQ ?_); (try cases h); simp only [resL, oneD, Option.some.injEq, exists_eq_left', go_sem, hlt, hget, hpu, hinc, Int.reduceLE, ↓reduceIte, reduceCtorEq, Nat.reduceEqDiff, Nat.reduceLeDiff, Nat.reduceAdd, Nat.reduceMul, Nat.reduceSub, Nat.reduceLT]; repeat' (first | exact Ok.out | with_reducible refine And.intro ?_ ?_ | (simp; done)))
 | (cases h; replace h := hr; clear hr; (try simp only [bs, ↓reduceIte] at h))
 | (cases h; done))

theorem Rdigit_s (c : UInt8) (s : St) : Fun Tryd.prog n_ref1_digit [.int .u8 (c.toNat : Int)] s (.bool (isD c)) s := by
  refine Fun.pure ?_ rfl rfl s
  generalize h : isD c = b
  unfold isD at h
  unfold S0
  refine Fun.go has_ref1_digit rfl fun B Q hB hQ => ?_
  have hlt : 0 < 1 := Nat.zero_lt_one
  have hget : 0 < 1 := Nat.zero_lt_one
  have hpu : 0 < 1 := Nat.zero_lt_one
  have hinc : 0 < 1 := Nat.zero_lt_one
  repeat' (first
 | simp only [go_sem, hlt, hget, hpu, hinc, Int.reduceLE, ↓reduceIte, reduceCtorEq, Nat.reduceEqDiff, Nat.reduceLeDiff, Nat.reduceAdd, Nat.reduceMul, Nat.reduceSub, Nat.reduceLT]
 | (with_reducible first | refine CB_ofT (by assumption) fun hc => ?_ | refine CB_ofF (by assumption) fun hc => ?_ | refine CB_split (fun hc => ?_) fun hc => ?_) <;> (try simp only [hc, bs, ↓reduceIte] at h) <;> (try simp only [hc])
 | ((with_reducible first | refine leafR hQ ?_ | refine leafN hQ ?_); (try cases h); simp only [resL, oneD, Option.some.injEq, exists_eq_left', go_sem, hlt, hget, hpu, hinc, Int.reduceLE, ↓reduceIte, reduceCtorEq, Nat.reduceEqDiff, Nat.reduceLeDiff, Nat.reduceAdd, Nat.reduceMul, Nat.reduceSub, Nat.reduceLT]; repeat' (first | exact Ok.out | with_reducible refine And.intro ?_ ?_ | (simp; done)))
 | (cases h; replace h := hr; clear hr; (try simp only [bs, ↓reduceIte] at h))
 | (cases h; done))

theorem Words_s (s : St) : Fun Tryd.prog n_ref1_Words [] s (.slice .shared 1 [[.str [103, 108, 111, 98, 97, 108]], [.str [112, 114, 111, 99]], [.str [118, 97, 114]], [.str [114, 101, 102]], [.str [105, 102]], [.str [101, 108, 115, 101]], [.str [119, 104, 105, 108, 101]], [.str [98, 114, 101, 97, 107]], [.str [99, 111, 110, 116, 105, 110, 117, 101]], [.str [114, 101, 116, 117, 114, 110]], [.str [103, 111, 116, 111]], [.str [114, 101, 97, 100]], [.str [112, 114, 105, 110, 116]]]) s := by
  refine Fun.pure ?_ rfl rfl s
  unfold S0
  refine Fun.go has_ref1_Words rfl fun B Q hB hQ => ?_
  have hlt : 0 < 1 := Nat.zero_lt_one
  have hget : 0 < 1 := Nat.zero_lt_one
  have hpu : 0 < 1 := Nat.zero_lt_one
  have hinc : 0 < 1 := Nat.zero_lt_one
  repeat' (first
 | simp only [go_sem, hlt, hget, hpu, hinc, Int.reduceLE, ↓reduceIte, reduceCtorEq, Nat.reduceEqDiff, Nat.reduceLeDiff, Nat.reduceAdd, Nat.reduceMul, Nat.reduceSub, Nat.reduceLT]
 | (with_reducible first | refine CB_ofT (by assumption) fun hc => ?_ | refine CB_ofF (by assumption) fun hc => ?_ | refine CB_split (fun hc => ?_) fun hc => ?_) <;> (try simp only [hc, bs, ↓reduceIte] at h) <;> (try simp only [hc])
 | ((with_reducible first | refine leafR hQ ?_ | refine leafN hQ ?_); (try cases h); simp only [resL, oneD, Option.some.injEq, exists_eq_left', go_sem, hlt, hget, hpu, hinc, Int.reduceLE, ↓reduceIte, reduceCtorEq, Nat.reduceEqDiff, Nat.reduceLeDiff, Nat.reduceAdd, Nat.reduceMul, Nat.reduceSub, Nat.reduceLT]; repeat' (first | exact Ok.out | with_reducible refine And.intro ?_ ?_ | (simp; done)))
 | (cases h; replace h := hr; clear hr; (try simp only [bs, ↓reduceIte] at h))
 | (cases h; done))

def isWordR (s : Str) : Bool :=
  [103, 108, 111, 98, 97, 108] == s || [112, 114, 111, 99] == s || [118, 97, 114] == s || [114, 101, 102] == s || [105, 102] == s || [101, 108, 115, 101] == s || [119, 104, 105, 108, 101] == s || [98, 114, 101, 97, 107] == s || [99, 111, 110, 116, 105, 110, 117, 101] == s || [114, 101, 116, 117, 114, 110] == s || [103, 111, 116, 111] == s || [114, 101, 97, 100] == s || [112, 114, 105, 110, 116] == s
theorem isWordR_eq (s : Str) : isWordR s = isWord s := by
  have e : ∀ a : Str, (a == s) = (s == a) := fun a => BEq.comm
  simp only [isWordR, isWord, e]

theorem RWord_s (text : Str) (s : St) : Fun Tryd.prog n_ref1_Word [.str text] s (.bool (isWord text)) s := by
  refine Fun.pure ?_ rfl rfl s
  rw [← isWordR_eq]
  generalize h : isWordR text = p
  unfold isWordR at h
  unfold S0
  refine Fun.go has_ref1_Word rfl fun B Q hB hQ => ?_
  have hlt : 0 < 1 := Nat.zero_lt_one
  have hget : 0 < 1 := Nat.zero_lt_one
  have hpu : 0 < 1 := Nat.zero_lt_one
  have hinc : 0 < 1 := Nat.zero_lt_one
  repeat' (first
 | simp only [go_sem, hlt, hget, hpu, hinc, Int.reduceLE, ↓reduceIte, reduceCtorEq, Nat.reduceEqDiff, Nat.reduceLeDiff, Nat.reduceAdd, Nat.reduceMul, Nat.reduceSub, Nat.reduceLT, Int.cast_ofNat_Int, wrap_ok, Int.reduceAdd, Int.reduceLT, Int.reduceNeg, decide_true, decide_false, Int.reduceToNat]
 | (with_reducible refine CU (Words_s _) ?_)
 | (with_reducible refine SemL.onceW ?_)
 | (with_reducible first | refine CB_ofT (by assumption) fun hc => ?_ | refine CB_ofF (by assumption) fun hc => ?_ | refine CB_split (fun hc => ?_) fun hc => ?_) <;> (try simp only [hc, bs, ↓reduceIte] at h) <;> (try simp only [hc])
 | ((with_reducible first | refine leafR hQ ?_ | refine leafN hQ ?_); (try cases h); simp only [resL, oneD, Option.some.injEq, exists_eq_left', go_sem, hlt, hget, hpu, hinc, Int.reduceLE, ↓reduceIte, reduceCtorEq, Nat.reduceEqDiff, Nat.reduceLeDiff, Nat.reduceAdd, Nat.reduceMul, Nat.reduceSub, Nat.reduceLT, Int.cast_ofNat_Int, wrap_ok, Int.reduceAdd, Int.reduceLT, Int.reduceNeg, decide_true, decide_false, Int.reduceToNat]; repeat' (first | exact Ok.out | with_reducible refine And.intro ?_ ?_ | (simp; done)))
 | (cases h; replace h := hr; clear hr; (try simp only [bs, ↓reduceIte] at h))
 | (cases h; done))

end Go.Abs

/-! Prs2 -/

namespace Go.Abs

set_option maxRecDepth 8000
set_option linter.unusedSimpArgs false
set_option linter.unusedVariables false
open Go.Proofs

def OpR (p : Int × Int) : Prop := 0 ≤ p.2 ∧ p.2 ≤ 6
abbrev C_one (m : Nat) : Prop := ∀ {r : Rd} {p : Ex × Rd}, Rd.one m r = some p → ∀ {s : St} {o : Nat}, s.objs[o]? = some (encRd r) → Fun Tryd.prog n_parse_reader_one [.ptr o 0] s (.agg (encEx p.1)) ⟨s.objs.set o (encRd p.2), s.toks⟩
abbrev C_two (m : Nat) : Prop := ∀ {k : Int} {r : Rd} {p : Ex × Rd}, Rd.two m k r = some p → ∀ {s : St} {o : Nat}, s.objs[o]? = some (encRd r) → Fun Tryd.prog n_parse_reader_two [.ptr o 0, .int .i64 k] s (.agg (encEx p.1)) ⟨s.objs.set o (encRd p.2), s.toks⟩

end Go.Abs

/-! Ref1 -/

namespace Go.Abs
set_option linter.unusedSimpArgs false
set_option linter.unusedVariables false
open Go.Proofs

/-- The reader's cells; what the last one holds is left open. -/
@[go_sem] def encRc (z : D) (r : Rd) : List D := [.slice .shared 4 (r.l.map encTok), .int .i64 r.i, .int .i64 r.code, .int .i64 r.fat, z]
/-- A plain cell. -/
class Cell (z : D) : Prop where
  ok : D.ok 0 0 z = true
  fg : ∀ n m, D.fg n m z = z
instance (n : Int) : Cell (.int .i64 n) := ⟨rfl, fun _ _ => rfl⟩
instance : Cell .junk := ⟨rfl, fun _ _ => rfl⟩
theorem Cell_fg (z : D) [h : Cell z] (n m : Nat) : D.fg n m z = z := h.fg n m
attribute [go_sem] Cell_fg
/-- Does a word or a sign come, and has there been no fault? -/
def Rd.isO (text : Str) (r : Rd) : Option Bool := if r.good then r.is text else some false

end Go.Abs

/-! Ref2 -/

namespace Go.Abs

set_option maxRecDepth 8000
set_option linter.unusedSimpArgs false
set_option linter.unusedVariables false
open Go.Proofs

def bindsR (s : Str) : Int × Int :=
  if [42] == s then (6, 5) else if [47] == s then (6, 6) else if [37] == s then (6, 7) else if [43] == s then (5, 8) else if [45] == s then (5, 9)
  else if [60] == s then (4, 10) else if [60, 61] == s then (4, 11) else if [62] == s then (4, 12) else if [62, 61] == s then (4, 13)
  else if [61, 61] == s then (3, 14) else if [33, 61] == s then (3, 15) else if [38, 38] == s then (2, 16) else if [124, 124] == s then (1, 17) else (0, 0)

theorem Binds_s (text : Str) (s : St) : Fun Tryd.prog n_ref3_Binds [.str text] s (.tuple [.int .i64 (bindsR text).1, .int .i64 (bindsR text).2]) s := by
  refine Fun.pure ?_ rfl rfl s
  generalize h : bindsR text = p
  unfold bindsR at h
  unfold S0
  refine Fun.go has_ref3_Binds rfl fun B Q hB hQ => ?_
  have hlt : 0 < 1 := Nat.zero_lt_one
  have hget : 0 < 1 := Nat.zero_lt_one
  have hpu : 0 < 1 := Nat.zero_lt_one
  have hinc : 0 < 1 := Nat.zero_lt_one
  repeat' (first
 | simp only [go_sem, hlt, hget, hpu, hinc, Int.reduceLE, ↓reduceIte, reduceCtorEq, Nat.reduceEqDiff, Nat.reduceLeDiff, Nat.reduceAdd, Nat.reduceMul, Nat.reduceSub, Nat.reduceLT, Int.cast_ofNat_Int, wrap_ok, Int.reduceAdd, Int.reduceLT, Int.reduceNeg, decide_true, decide_false, Int.reduceToNat]
 | (with_reducible refine SemL.onceW ?_)
 | (with_reducible first | refine CB_ofT (by assumption) fun hc => ?_ | refine CB_ofF (by assumption) fun hc => ?_ | refine CB_split (fun hc => ?_) fun hc => ?_) <;> (try simp only [hc, bs, ↓reduceIte] at h) <;> (try simp only [hc])
 | ((with_reducible first | refine leafR hQ ?_ | refine leafN hQ ?_); (try cases h); simp only [resL, oneD, Option.some.injEq, exists_eq_left', go_sem, hlt, hget, hpu, hinc, Int.reduceLE, ↓reduceIte, reduceCtorEq, Nat.reduceEqDiff, Nat.reduceLeDiff, Nat.reduceAdd, Nat.reduceMul, Nat.reduceSub, Nat.reduceLT, Int.cast_ofNat_Int, wrap_ok, Int.reduceAdd, Int.reduceLT, Int.reduceNeg, decide_true, decide_false, Int.reduceToNat]; repeat' (first | exact Ok.out | with_reducible refine And.intro ?_ ?_ | (simp; done)))
 | (cases h; replace h := hr; clear hr; (try simp only [bs, ↓reduceIte] at h))
 | (cases h; done))

def BZ (p : Int × Int) : Prop := (p.2 == 0) = (p.1 == 0)
end Go.Abs

/-! Ref3 -/

namespace Go.Abs

set_option maxRecDepth 8000
set_option linter.unusedSimpArgs false
set_option linter.unusedVariables false
open Go.Proofs

theorem deep_n : ∀ (most : Nat), most < 1000000 → ∀ x : Ex, x.size < 4611686018427387904 → ∀ s : St, Fun Tryd.prog n_ref3_deep [.agg (encEx x), .int .i64 (most : Int)] s (.int .i64 ((min x.depth (most + 1) : Nat) : Int)) s := by
  intro most
  induction most with
  | zero =>
    rintro _ ⟨op, m, name, kids⟩ hx s
    refine Fun.pure ?_ (by simp [D.oks, D.ok, okEx]) rfl s
    have hz : ((0 : Int) == 0) = true := rfl
    have e : min (Ex.depth ⟨op, m, name, kids⟩) (0 + 1) = 1 := by simp only [Ex.depth]; omega
    rw [e]
    unfold S0
    refine Fun.go has_ref3_deep rfl fun B Q hB hQ => ?_
    have hlt : 0 < 1 := Nat.zero_lt_one
    have hget : 0 < 1 := Nat.zero_lt_one
    have hpu : 0 < 1 := Nat.zero_lt_one
    have hinc : 0 < 1 := Nat.zero_lt_one
    repeat' (first
 | simp only [go_sem, hlt, hget, hpu, hinc, Int.reduceLE, ↓reduceIte, reduceCtorEq, Nat.reduceEqDiff, Nat.reduceLeDiff, Nat.reduceAdd, Nat.reduceMul, Nat.reduceSub, Nat.reduceLT, hz]
 | (with_reducible first | refine CB_ofT (by assumption) fun hc => ?_ | refine CB_ofF (by assumption) fun hc => ?_ | refine CB_split (fun hc => ?_) fun hc => ?_) <;> (try simp only [hc, bs, ↓reduceIte] at h) <;> (try simp only [hc])
 | ((with_reducible first | refine leafR hQ ?_ | refine leafN hQ ?_); (try cases h); simp only [resL, oneD, Option.some.injEq, exists_eq_left', go_sem, hlt, hget, hpu, hinc, Int.reduceLE, ↓reduceIte, reduceCtorEq, Nat.reduceEqDiff, Nat.reduceLeDiff, Nat.reduceAdd, Nat.reduceMul, Nat.reduceSub, Nat.reduceLT, hz]; repeat' (first | exact Ok.out | with_reducible refine And.intro ?_ ?_ | (simp; done)))
 | (cases h; replace h := hr; clear hr; (try simp only [bs, ↓reduceIte] at h))
 | (cases h; done))
  | succ most ih =>
    rintro hmost ⟨op, m, name, kids⟩ hx s
    refine Fun.pure ?_ (by simp [D.oks, D.ok, okEx]) rfl s
    have hlen : kids.length < 4611686018427387904 := by simp only [Ex.size] at hx; have := Ex.sizes_len kids; omega
    have hk : ∀ y ∈ kids, ∀ s, Fun Tryd.prog n_ref3_deep [.agg (encEx y), .int .i64 (most : Int)] s (.int .i64 ((min y.depth (most + 1) : Nat) : Int)) s := fun y hy s =>
      ih (by omega) y (by simp only [Ex.size] at hx; have := Ex.sizes_mem hy; omega) s
    have hz : (((most + 1 : Nat) : Int) == 0) = false := by simp; omega
    have w1 : IntKind.wrap .i64 (((most + 1 : Nat) : Int) - 1) = (most : Int) := by rw [wrap_ok] <;> omega
    unfold S0
    refine Fun.go has_ref3_deep rfl fun B Q hB hQ => ?_
    have hlt : 0 < 1 := Nat.zero_lt_one
    have hget : 0 < 1 := Nat.zero_lt_one
    have hpu : 0 < 1 := Nat.zero_lt_one
    have hinc : 0 < 1 := Nat.zero_lt_one
    repeat' (first
 | simp only [go_sem, hlt, hget, hpu, hinc, Int.reduceLE, ↓reduceIte, reduceCtorEq, Nat.reduceEqDiff, Nat.reduceLeDiff, Nat.reduceAdd, Nat.reduceMul, Nat.reduceSub, Nat.reduceLT, hz]
 | (with_reducible first | refine CB_ofT (by assumption) fun hc => ?_ | refine CB_ofF (by assumption) fun hc => ?_ | refine CB_split (fun hc => ?_) fun hc => ?_) <;> (try simp only [hc, bs, ↓reduceIte] at h) <;> (try simp only [hc])
 | ((with_reducible first | refine leafR hQ ?_ | refine leafN hQ ?_); (try cases h); simp only [resL, oneD, Option.some.injEq, exists_eq_left', go_sem, hlt, hget, hpu, hinc, Int.reduceLE, ↓reduceIte, reduceCtorEq, Nat.reduceEqDiff, Nat.reduceLeDiff, Nat.reduceAdd, Nat.reduceMul, Nat.reduceSub, Nat.reduceLT, hz]; repeat' (first | exact Ok.out | with_reducible refine And.intro ?_ ?_ | (simp; done)))
 | (cases h; replace h := hr; clear hr; (try simp only [bs, ↓reduceIte] at h))
 | (cases h; done))
    refine SemL.re _ _ 1 0 (by rw [hB]; exact Nat.le_of_ble_eq_true rfl) (by rw [hB]; exact Nat.le_of_ble_eq_true rfl) ?_ ?_ (SemL.ind (ι := List Ex × Nat × Nat) (fun i => kids.drop i.2.1 = i.1 ∧ i.2.2 ≤ most + 1 ∧ min (max i.2.2 (Ex.depths i.1)) (most + 1) = min (Ex.depths kids) (most + 1)) (fun i => i.1.length)
      (fun i => [(1, .int .i64 ((most + 1 : Nat) : Int)), (2, .ptr 0 0), (5, .int .i64 (i.2.2 : Int)), (6, .int .i64 (i.2.1 : Int))]) (fun i => ⟨[encEx ⟨op, m, name, kids⟩], []⟩) ?_ (kids, 0, 0) ⟨rfl, Nat.zero_le _, by simp⟩)
    · (simp only [go_sem, hlt, hget, hpu, hinc, Int.reduceLE, ↓reduceIte, reduceCtorEq, Nat.reduceEqDiff, Nat.reduceLeDiff, Nat.reduceAdd, Nat.reduceMul, Nat.reduceSub, Nat.reduceLT]; repeat' (first | exact Ok.out | with_reducible refine And.intro ?_ ?_))
    · (simp only [go_sem, hlt, hget, hpu, hinc, Int.reduceLE, ↓reduceIte, reduceCtorEq, Nat.reduceEqDiff, Nat.reduceLeDiff, Nat.reduceAdd, Nat.reduceMul, Nat.reduceSub, Nat.reduceLT]; repeat' (first | exact Ok.out | with_reducible refine And.intro ?_ ?_))
    rintro ⟨rest, k, d⟩ ⟨h1, h2, h3⟩ IH
    dsimp only at h1 h2 h3
    have hd : min (Ex.depth ⟨op, m, name, kids⟩) (most + 1 + 1) = min (Ex.depths kids) (most + 1) + 1 := by simp only [Ex.depth]; omega
    rw [hd, ← h3] at hQ
    have w2 : IntKind.wrap .i64 ((d : Int) + 1) = ((d + 1 : Nat) : Int) := by rw [wrap_ok] <;> omega
    by_cases hmax : d < most + 1
    · have c2 : decide ((d : Int) < ((most + 1 : Nat) : Int)) = true := by simp; omega
      cases rest with
      | nil =>
        have hlt := drop_nil h1
        simp only [Ex.depths, Nat.max_zero] at hQ
        have e : min d (most + 1) = d := by omega
        rw [e] at hQ
        repeat' (first
 | simp only [go_sem, hlt, hget, hpu, hinc, Int.reduceLE, ↓reduceIte, reduceCtorEq, Nat.reduceEqDiff, Nat.reduceLeDiff, Nat.reduceAdd, Nat.reduceMul, Nat.reduceSub, Nat.reduceLT, c2, w2]
 | (with_reducible first | refine CB_ofT (by assumption) fun hc => ?_ | refine CB_ofF (by assumption) fun hc => ?_ | refine CB_split (fun hc => ?_) fun hc => ?_) <;> (try simp only [hc, bs, ↓reduceIte] at h) <;> (try simp only [hc])
 | ((with_reducible first | refine leafR hQ ?_ | refine leafN hQ ?_); (try cases h); simp only [resL, oneD, Option.some.injEq, exists_eq_left', go_sem, hlt, hget, hpu, hinc, Int.reduceLE, ↓reduceIte, reduceCtorEq, Nat.reduceEqDiff, Nat.reduceLeDiff, Nat.reduceAdd, Nat.reduceMul, Nat.reduceSub, Nat.reduceLT, c2, w2]; repeat' (first | exact Ok.out | with_reducible refine And.intro ?_ ?_ | (simp; done)))
 | (cases h; replace h := hr; clear hr; (try simp only [bs, ↓reduceIte] at h))
 | (cases h; done))
      | cons y rest =>
        obtain ⟨hget, g2, hlt, g4⟩ := drop_cons h1
        have hy := hk y (List.mem_of_getElem? hget)
        simp only [Ex.depths] at h3
        have hk2 : k < 4611686018427387904 := by omega
        by_cases hgt : min y.depth (most + 1) > d
        · have c3 : decide (((min y.depth (most + 1) : Nat) : Int) > (d : Int)) = true := by simp only [decide_eq_true_eq]; omega
          repeat' (first
 | simp only [go_sem, hlt, hget, hpu, hinc, Int.reduceLE, ↓reduceIte, reduceCtorEq, Nat.reduceEqDiff, Nat.reduceLeDiff, Nat.reduceAdd, Nat.reduceMul, Nat.reduceSub, Nat.reduceLT, c2, w1, c3]
 | (with_reducible refine CU (hy _) ?_)
 | (with_reducible first | refine CB_ofT (by assumption) fun hc => ?_ | refine CB_ofF (by assumption) fun hc => ?_ | refine CB_split (fun hc => ?_) fun hc => ?_) <;> (try simp only [hc, bs, ↓reduceIte] at h) <;> (try simp only [hc])
 | ((with_reducible first | refine leafR hQ ?_ | refine leafN hQ ?_); (try cases h); simp only [resL, oneD, Option.some.injEq, exists_eq_left', go_sem, hlt, hget, hpu, hinc, Int.reduceLE, ↓reduceIte, reduceCtorEq, Nat.reduceEqDiff, Nat.reduceLeDiff, Nat.reduceAdd, Nat.reduceMul, Nat.reduceSub, Nat.reduceLT, c2, w1, c3]; repeat' (first | exact Ok.out | with_reducible refine And.intro ?_ ?_ | (simp; done)))
 | (cases h; replace h := hr; clear hr; (try simp only [bs, ↓reduceIte] at h))
 | (cases h; done))
          refine SemL.re _ _ 1 0 (by rw [hB]; exact Nat.le_of_ble_eq_true rfl) (by rw [hB]; exact Nat.le_of_ble_eq_true rfl) ?_ ?_ (IH (rest, k + 1, min y.depth (most + 1)) ⟨g2, by dsimp only; omega, by dsimp only; omega⟩ (Nat.lt_succ_self _))
          · (simp only [go_sem, hlt, hget, hpu, hinc, Int.reduceLE, ↓reduceIte, reduceCtorEq, Nat.reduceEqDiff, Nat.reduceLeDiff, Nat.reduceAdd, Nat.reduceMul, Nat.reduceSub, Nat.reduceLT, wrap_inc hk2]; repeat' (first | exact Ok.out | with_reducible refine And.intro ?_ ?_))
          · (simp only [go_sem, hlt, hget, hpu, hinc, Int.reduceLE, ↓reduceIte, reduceCtorEq, Nat.reduceEqDiff, Nat.reduceLeDiff, Nat.reduceAdd, Nat.reduceMul, Nat.reduceSub, Nat.reduceLT, wrap_inc hk2]; repeat' (first | exact Ok.out | with_reducible refine And.intro ?_ ?_))
        · have c3 : decide (((min y.depth (most + 1) : Nat) : Int) > (d : Int)) = false := by simp only [decide_eq_false_iff_not]; omega
          repeat' (first
 | simp only [go_sem, hlt, hget, hpu, hinc, Int.reduceLE, ↓reduceIte, reduceCtorEq, Nat.reduceEqDiff, Nat.reduceLeDiff, Nat.reduceAdd, Nat.reduceMul, Nat.reduceSub, Nat.reduceLT, c2, w1, c3]
 | (with_reducible refine CU (hy _) ?_)
 | (with_reducible first | refine CB_ofT (by assumption) fun hc => ?_ | refine CB_ofF (by assumption) fun hc => ?_ | refine CB_split (fun hc => ?_) fun hc => ?_) <;> (try simp only [hc, bs, ↓reduceIte] at h) <;> (try simp only [hc])
 | ((with_reducible first | refine leafR hQ ?_ | refine leafN hQ ?_); (try cases h); simp only [resL, oneD, Option.some.injEq, exists_eq_left', go_sem, hlt, hget, hpu, hinc, Int.reduceLE, ↓reduceIte, reduceCtorEq, Nat.reduceEqDiff, Nat.reduceLeDiff, Nat.reduceAdd, Nat.reduceMul, Nat.reduceSub, Nat.reduceLT, c2, w1, c3]; repeat' (first | exact Ok.out | with_reducible refine And.intro ?_ ?_ | (simp; done)))
 | (cases h; replace h := hr; clear hr; (try simp only [bs, ↓reduceIte] at h))
 | (cases h; done))
          refine SemL.re _ _ 1 0 (by rw [hB]; exact Nat.le_of_ble_eq_true rfl) (by rw [hB]; exact Nat.le_of_ble_eq_true rfl) ?_ ?_ (IH (rest, k + 1, d) ⟨g2, h2, by dsimp only; omega⟩ (Nat.lt_succ_self _))
          · (simp only [go_sem, hlt, hget, hpu, hinc, Int.reduceLE, ↓reduceIte, reduceCtorEq, Nat.reduceEqDiff, Nat.reduceLeDiff, Nat.reduceAdd, Nat.reduceMul, Nat.reduceSub, Nat.reduceLT, wrap_inc hk2]; repeat' (first | exact Ok.out | with_reducible refine And.intro ?_ ?_))
          · (simp only [go_sem, hlt, hget, hpu, hinc, Int.reduceLE, ↓reduceIte, reduceCtorEq, Nat.reduceEqDiff, Nat.reduceLeDiff, Nat.reduceAdd, Nat.reduceMul, Nat.reduceSub, Nat.reduceLT, wrap_inc hk2]; repeat' (first | exact Ok.out | with_reducible refine And.intro ?_ ?_))
    · have c2 : decide ((d : Int) < ((most + 1 : Nat) : Int)) = false := by simp; omega
      have e : min (max d (Ex.depths rest)) (most + 1) = d := by omega
      rw [e] at hQ
      cases rest with
      | nil =>
        have hlt := drop_nil h1
        repeat' (first
 | simp only [go_sem, hlt, hget, hpu, hinc, Int.reduceLE, ↓reduceIte, reduceCtorEq, Nat.reduceEqDiff, Nat.reduceLeDiff, Nat.reduceAdd, Nat.reduceMul, Nat.reduceSub, Nat.reduceLT, c2, w2]
 | (with_reducible first | refine CB_ofT (by assumption) fun hc => ?_ | refine CB_ofF (by assumption) fun hc => ?_ | refine CB_split (fun hc => ?_) fun hc => ?_) <;> (try simp only [hc, bs, ↓reduceIte] at h) <;> (try simp only [hc])
 | ((with_reducible first | refine leafR hQ ?_ | refine leafN hQ ?_); (try cases h); simp only [resL, oneD, Option.some.injEq, exists_eq_left', go_sem, hlt, hget, hpu, hinc, Int.reduceLE, ↓reduceIte, reduceCtorEq, Nat.reduceEqDiff, Nat.reduceLeDiff, Nat.reduceAdd, Nat.reduceMul, Nat.reduceSub, Nat.reduceLT, c2, w2]; repeat' (first | exact Ok.out | with_reducible refine And.intro ?_ ?_ | (simp; done)))
 | (cases h; replace h := hr; clear hr; (try simp only [bs, ↓reduceIte] at h))
 | (cases h; done))
      | cons y rest =>
        obtain ⟨hget, g2, hlt, g4⟩ := drop_cons h1
        repeat' (first
 | simp only [go_sem, hlt, hget, hpu, hinc, Int.reduceLE, ↓reduceIte, reduceCtorEq, Nat.reduceEqDiff, Nat.reduceLeDiff, Nat.reduceAdd, Nat.reduceMul, Nat.reduceSub, Nat.reduceLT, c2, w2]
 | (with_reducible first | refine CB_ofT (by assumption) fun hc => ?_ | refine CB_ofF (by assumption) fun hc => ?_ | refine CB_split (fun hc => ?_) fun hc => ?_) <;> (try simp only [hc, bs, ↓reduceIte] at h) <;> (try simp only [hc])
 | ((with_reducible first | refine leafR hQ ?_ | refine leafN hQ ?_); (try cases h); simp only [resL, oneD, Option.some.injEq, exists_eq_left', go_sem, hlt, hget, hpu, hinc, Int.reduceLE, ↓reduceIte, reduceCtorEq, Nat.reduceEqDiff, Nat.reduceLeDiff, Nat.reduceAdd, Nat.reduceMul, Nat.reduceSub, Nat.reduceLT, c2, w2]; repeat' (first | exact Ok.out | with_reducible refine And.intro ?_ ?_ | (simp; done)))
 | (cases h; replace h := hr; clear hr; (try simp only [bs, ↓reduceIte] at h))
 | (cases h; done))

end Go.Abs

/-! RefMay1 -/

namespace Go.Abs

set_option maxRecDepth 8000
set_option linter.unusedSimpArgs false
set_option linter.unusedVariables false
open Go.Proofs

theorem RName_s (text : Str) (hl : text.length < 4611686018427387904) (s : St) : Fun Tryd.prog n_ref1_Name [.str text] s (.bool (isName text)) s := by
  refine Fun.pure ?_ rfl rfl s
  unfold S0
  cases text with
  | nil =>
    have e : (([] : Str) == []) = true := rfl
    refine Fun.go has_ref1_Name rfl fun B Q hB hQ => ?_
    have hlt : 0 < 1 := Nat.zero_lt_one
    have hget : 0 < 1 := Nat.zero_lt_one
    have hpu : 0 < 1 := Nat.zero_lt_one
    have hinc : 0 < 1 := Nat.zero_lt_one
    repeat' (first
 | simp only [go_sem, hlt, hget, hpu, hinc, Int.reduceLE, ↓reduceIte, reduceCtorEq, Nat.reduceEqDiff, Nat.reduceLeDiff, Nat.reduceAdd, Nat.reduceMul, Nat.reduceSub, Nat.reduceLT, e, isName]
 | (with_reducible first | refine CB_ofT (by assumption) fun hc => ?_ | refine CB_ofF (by assumption) fun hc => ?_ | refine CB_split (fun hc => ?_) fun hc => ?_) <;> (try simp only [hc, bs, ↓reduceIte] at h) <;> (try simp only [hc])
 | ((with_reducible first | refine leafR hQ ?_ | refine leafN hQ ?_); (try cases h); simp only [resL, oneD, Option.some.injEq, exists_eq_left', go_sem, hlt, hget, hpu, hinc, Int.reduceLE, ↓reduceIte, reduceCtorEq, Nat.reduceEqDiff, Nat.reduceLeDiff, Nat.reduceAdd, Nat.reduceMul, Nat.reduceSub, Nat.reduceLT, e, isName]; repeat' (first | exact Ok.out | with_reducible refine And.intro ?_ ?_ | (simp; done)))
 | (cases h; replace h := hr; clear hr; (try simp only [bs, ↓reduceIte] at h))
 | (cases h; done))
  | cons c r =>
    have e : ((c :: r) == []) = false := rfl
    generalize h : isName (c :: r) = p
    simp only [isName] at h
    refine Fun.go has_ref1_Name rfl fun B Q hB hQ => ?_
    have hlt : 0 < 1 := Nat.zero_lt_one
    have hget : 0 < 1 := Nat.zero_lt_one
    have hpu : 0 < 1 := Nat.zero_lt_one
    have hinc : 0 < 1 := Nat.zero_lt_one
    repeat' (first
 | simp only [go_sem, hlt, hget, hpu, hinc, Int.reduceLE, ↓reduceIte, reduceCtorEq, Nat.reduceEqDiff, Nat.reduceLeDiff, Nat.reduceAdd, Nat.reduceMul, Nat.reduceSub, Nat.reduceLT, e]
 | (with_reducible refine CU (Rsmall_s _ _) ?_)
 | (with_reducible first | refine CB_ofT (by assumption) fun hc => ?_ | refine CB_ofF (by assumption) fun hc => ?_ | refine CB_split (fun hc => ?_) fun hc => ?_) <;> (try simp only [hc, bs, ↓reduceIte] at h) <;> (try simp only [hc])
 | ((with_reducible first | refine leafR hQ ?_ | refine leafN hQ ?_); (try cases h); simp only [resL, oneD, Option.some.injEq, exists_eq_left', go_sem, hlt, hget, hpu, hinc, Int.reduceLE, ↓reduceIte, reduceCtorEq, Nat.reduceEqDiff, Nat.reduceLeDiff, Nat.reduceAdd, Nat.reduceMul, Nat.reduceSub, Nat.reduceLT, e]; repeat' (first | exact Ok.out | with_reducible refine And.intro ?_ ?_ | (simp; done)))
 | (cases h; replace h := hr; clear hr; (try simp only [bs, ↓reduceIte] at h))
 | (cases h; done))
    refine SemL.re _ _ 0 0 (by rw [hB]; exact Nat.le_of_ble_eq_true rfl) (by rw [hB]; exact Nat.le_of_ble_eq_true rfl) ?_ ?_ (SemL.ind (ι := Str × Nat) (fun i => (c :: r).drop i.2 = i.1 ∧ (if nameT i.1 then !(isWord (c :: r)) else false) = p) (fun i => i.1.length)
      (fun i => [(0, .str (c :: r)), (3, .int .i64 (i.2 : Int))]) (fun i => ⟨[], []⟩) ?_ (r, 1) ⟨rfl, h⟩)
    · (simp only [go_sem, hlt, hget, hpu, hinc, Int.reduceLE, ↓reduceIte, reduceCtorEq, Nat.reduceEqDiff, Nat.reduceLeDiff, Nat.reduceAdd, Nat.reduceMul, Nat.reduceSub, Nat.reduceLT]; repeat' (first | exact Ok.out | with_reducible refine And.intro ?_ ?_))
    · (simp only [go_sem, hlt, hget, hpu, hinc, Int.reduceLE, ↓reduceIte, reduceCtorEq, Nat.reduceEqDiff, Nat.reduceLeDiff, Nat.reduceAdd, Nat.reduceMul, Nat.reduceSub, Nat.reduceLT]; repeat' (first | exact Ok.out | with_reducible refine And.intro ?_ ?_))
    rintro ⟨rest, k⟩ ⟨h1, h⟩ IH
    dsimp only at h1 h
    cases rest with
    | nil =>
      have hlt := drop_nil h1
      simp only [List.length_cons] at hlt
      simp only [nameT, ↓reduceIte] at h
      repeat' (first
 | simp only [go_sem, hlt, hget, hpu, hinc, Int.reduceLE, ↓reduceIte, reduceCtorEq, Nat.reduceEqDiff, Nat.reduceLeDiff, Nat.reduceAdd, Nat.reduceMul, Nat.reduceSub, Nat.reduceLT]
 | (with_reducible refine CU (RWord_s _ _) ?_)
 | (with_reducible first | refine CB_ofT (by assumption) fun hc => ?_ | refine CB_ofF (by assumption) fun hc => ?_ | refine CB_split (fun hc => ?_) fun hc => ?_) <;> (try simp only [hc, bs, ↓reduceIte] at h) <;> (try simp only [hc])
 | ((with_reducible first | refine leafR hQ ?_ | refine leafN hQ ?_); (try cases h); simp only [resL, oneD, Option.some.injEq, exists_eq_left', go_sem, hlt, hget, hpu, hinc, Int.reduceLE, ↓reduceIte, reduceCtorEq, Nat.reduceEqDiff, Nat.reduceLeDiff, Nat.reduceAdd, Nat.reduceMul, Nat.reduceSub, Nat.reduceLT]; repeat' (first | exact Ok.out | with_reducible refine And.intro ?_ ?_ | (simp; done)))
 | (cases h; replace h := hr; clear hr; (try simp only [bs, ↓reduceIte] at h))
 | (cases h; done))
    | cons d rest =>
      obtain ⟨hget, g2, hlt, g4⟩ := drop_cons h1
      simp only [List.length_cons] at hlt
      have hpu : k < 4611686018427387904 := by omega
      simp only [nameT] at h
      repeat' (first
 | simp only [go_sem, hlt, hget, hpu, hinc, Int.reduceLE, ↓reduceIte, reduceCtorEq, Nat.reduceEqDiff, Nat.reduceLeDiff, Nat.reduceAdd, Nat.reduceMul, Nat.reduceSub, Nat.reduceLT]
 | (with_reducible refine CU (Rsmall_s _ _) ?_)
 | (with_reducible refine CU (Rdigit_s _ _) ?_)
 | (with_reducible first | refine CB_ofT (by assumption) fun hc => ?_ | refine CB_ofF (by assumption) fun hc => ?_ | refine CB_split (fun hc => ?_) fun hc => ?_) <;> (try simp only [hc, bs, ↓reduceIte] at h) <;> (try simp only [hc])
 | ((with_reducible first | refine leafR hQ ?_ | refine leafN hQ ?_); (try cases h); simp only [resL, oneD, Option.some.injEq, exists_eq_left', go_sem, hlt, hget, hpu, hinc, Int.reduceLE, ↓reduceIte, reduceCtorEq, Nat.reduceEqDiff, Nat.reduceLeDiff, Nat.reduceAdd, Nat.reduceMul, Nat.reduceSub, Nat.reduceLT]; repeat' (first | exact Ok.out | with_reducible refine And.intro ?_ ?_ | (simp; done)))
 | (cases h; replace h := hr; clear hr; (try simp only [bs, ↓reduceIte] at h))
 | (cases h; done))
      all_goals
        refine SemL.re _ _ 0 0 (by rw [hB]; exact Nat.le_of_ble_eq_true rfl) (by rw [hB]; exact Nat.le_of_ble_eq_true rfl) ?_ ?_ (IH (rest, k + 1) ⟨g2, h⟩ (Nat.lt_succ_self _))
        · (simp only [go_sem, hlt, hget, hpu, hinc, Int.reduceLE, ↓reduceIte, reduceCtorEq, Nat.reduceEqDiff, Nat.reduceLeDiff, Nat.reduceAdd, Nat.reduceMul, Nat.reduceSub, Nat.reduceLT]; repeat' (first | exact Ok.out | with_reducible refine And.intro ?_ ?_))
        · (simp only [go_sem, hlt, hget, hpu, hinc, Int.reduceLE, ↓reduceIte, reduceCtorEq, Nat.reduceEqDiff, Nat.reduceLeDiff, Nat.reduceAdd, Nat.reduceMul, Nat.reduceSub, Nat.reduceLT]; repeat' (first | exact Ok.out | with_reducible refine And.intro ?_ ?_))

theorem Arity_s (op : Int) (s : St) : Fun Tryd.prog n_ref3_Arity [.int .i64 op] s (.int .i64 (arityI op)) s := by
  refine Fun.pure ?_ rfl rfl s
  unfold S0
  generalize h : arityI op = p
  unfold arityI at h
  refine Fun.go has_ref3_Arity rfl fun B Q hB hQ => ?_
  have hlt : 0 < 1 := Nat.zero_lt_one
  have hget : 0 < 1 := Nat.zero_lt_one
  have hpu : 0 < 1 := Nat.zero_lt_one
  have hinc : 0 < 1 := Nat.zero_lt_one
  repeat' (first
 | simp only [go_sem, hlt, hget, hpu, hinc, Int.reduceLE, ↓reduceIte, reduceCtorEq, Nat.reduceEqDiff, Nat.reduceLeDiff, Nat.reduceAdd, Nat.reduceMul, Nat.reduceSub, Nat.reduceLT]
 | (with_reducible first | refine CB_ofT (by assumption) fun hc => ?_ | refine CB_ofF (by assumption) fun hc => ?_ | refine CB_split (fun hc => ?_) fun hc => ?_) <;> (try simp only [hc, bs, ↓reduceIte] at h) <;> (try simp only [hc])
 | ((with_reducible first | refine leafR hQ ?_ | refine leafN hQ ?_); (try cases h); simp only [resL, oneD, Option.some.injEq, exists_eq_left', go_sem, hlt, hget, hpu, hinc, Int.reduceLE, ↓reduceIte, reduceCtorEq, Nat.reduceEqDiff, Nat.reduceLeDiff, Nat.reduceAdd, Nat.reduceMul, Nat.reduceSub, Nat.reduceLT]; repeat' (first | exact Ok.out | with_reducible refine And.intro ?_ ?_ | (simp; done)))
 | (cases h; replace h := hr; clear hr; (try simp only [bs, ↓reduceIte] at h))
 | (cases h; done))

theorem form_n : ∀ (n : Nat) (x : Ex), x.size ≤ n → x.size < 4611686018427387904 → x.texts → ∀ s : St, Fun Tryd.prog n_ref3_form [.agg (encEx x)] s (.bool x.form) s := by
  intro n
  induction n with
  | zero => rintro ⟨op, m, name, kids⟩ h; simp only [Ex.size] at h; omega
  | succ n ih =>
    rintro ⟨op, m, name, kids⟩ h hx ht s
    refine Fun.pure ?_ (by simp [D.oks, D.ok, okEx]) rfl s
    have hlen : kids.length < 4611686018427387904 := by simp only [Ex.size] at hx; have := Ex.sizes_len kids; omega
    have hk : ∀ y ∈ kids, ∀ s, Fun Tryd.prog n_ref3_form [.agg (encEx y)] s (.bool y.form) s := fun y hy s =>
      ih y (by simp only [Ex.size] at h; have := Ex.sizes_mem hy; omega) (by simp only [Ex.size] at hx; have := Ex.sizes_mem hy; omega) (Ex.texts_mem ht hy) s
    have hn := RName_s name ht.1
    unfold S0
    generalize h : Ex.form ⟨op, m, name, kids⟩ = p
    simp only [Ex.form] at h
    refine Fun.go has_ref3_form rfl fun B Q hB hQ => ?_
    have hlt : 0 < 1 := Nat.zero_lt_one
    have hget : 0 < 1 := Nat.zero_lt_one
    have hpu : 0 < 1 := Nat.zero_lt_one
    have hinc : 0 < 1 := Nat.zero_lt_one
    repeat' (first
 | simp only [go_sem, hlt, hget, hpu, hinc, Int.reduceLE, ↓reduceIte, reduceCtorEq, Nat.reduceEqDiff, Nat.reduceLeDiff, Nat.reduceAdd, Nat.reduceMul, Nat.reduceSub, Nat.reduceLT]
 | (with_reducible refine CU (Arity_s _ _) ?_)
 | (with_reducible refine CU (hn _) ?_)
 | (with_reducible first | refine CB_ofT (by assumption) fun hc => ?_ | refine CB_ofF (by assumption) fun hc => ?_ | refine CB_split (fun hc => ?_) fun hc => ?_) <;> (try simp only [hc, bs, ↓reduceIte] at h) <;> (try simp only [hc])
 | ((with_reducible first | refine leafR hQ ?_ | refine leafN hQ ?_); (try cases h); simp only [resL, oneD, Option.some.injEq, exists_eq_left', go_sem, hlt, hget, hpu, hinc, Int.reduceLE, ↓reduceIte, reduceCtorEq, Nat.reduceEqDiff, Nat.reduceLeDiff, Nat.reduceAdd, Nat.reduceMul, Nat.reduceSub, Nat.reduceLT]; repeat' (first | exact Ok.out | with_reducible refine And.intro ?_ ?_ | (simp; done)))
 | (cases h; replace h := hr; clear hr; (try simp only [bs, ↓reduceIte] at h))
 | (cases h; done))
    all_goals
      refine SemL.re _ _ 1 0 (by rw [hB]; exact Nat.le_of_ble_eq_true rfl) (by rw [hB]; exact Nat.le_of_ble_eq_true rfl) ?_ ?_ (SemL.ind (ι := List Ex × Nat) (fun i => kids.drop i.2 = i.1 ∧ Ex.forms i.1 = p) (fun i => i.1.length)
        (fun i => [(1, .ptr 0 0), (48, .int .i64 (kids.length : Int)), (49, .int .i64 (i.2 : Int))]) (fun i => ⟨[encEx ⟨op, m, name, kids⟩], []⟩) ?_ (kids, 0) ⟨rfl, h⟩)
      · (simp only [go_sem, hlt, hget, hpu, hinc, Int.reduceLE, ↓reduceIte, reduceCtorEq, Nat.reduceEqDiff, Nat.reduceLeDiff, Nat.reduceAdd, Nat.reduceMul, Nat.reduceSub, Nat.reduceLT]; repeat' (first | exact Ok.out | with_reducible refine And.intro ?_ ?_))
      · (simp only [go_sem, hlt, hget, hpu, hinc, Int.reduceLE, ↓reduceIte, reduceCtorEq, Nat.reduceEqDiff, Nat.reduceLeDiff, Nat.reduceAdd, Nat.reduceMul, Nat.reduceSub, Nat.reduceLT]; repeat' (first | exact Ok.out | with_reducible refine And.intro ?_ ?_))
      rintro ⟨rest, k⟩ ⟨h1, h⟩ IH
      dsimp only at h1 h
      cases rest with
      | nil =>
        have hlt := drop_nil h1
        simp only [Ex.forms] at h
        repeat' (first
 | simp only [go_sem, hlt, hget, hpu, hinc, Int.reduceLE, ↓reduceIte, reduceCtorEq, Nat.reduceEqDiff, Nat.reduceLeDiff, Nat.reduceAdd, Nat.reduceMul, Nat.reduceSub, Nat.reduceLT]
 | (with_reducible first | refine CB_ofT (by assumption) fun hc => ?_ | refine CB_ofF (by assumption) fun hc => ?_ | refine CB_split (fun hc => ?_) fun hc => ?_) <;> (try simp only [hc, bs, ↓reduceIte] at h) <;> (try simp only [hc])
 | ((with_reducible first | refine leafR hQ ?_ | refine leafN hQ ?_); (try cases h); simp only [resL, oneD, Option.some.injEq, exists_eq_left', go_sem, hlt, hget, hpu, hinc, Int.reduceLE, ↓reduceIte, reduceCtorEq, Nat.reduceEqDiff, Nat.reduceLeDiff, Nat.reduceAdd, Nat.reduceMul, Nat.reduceSub, Nat.reduceLT]; repeat' (first | exact Ok.out | with_reducible refine And.intro ?_ ?_ | (simp; done)))
 | (cases h; replace h := hr; clear hr; (try simp only [bs, ↓reduceIte] at h))
 | (cases h; done))
      | cons y rest =>
        obtain ⟨hget, g2, hlt, g4⟩ := drop_cons h1
        have hy := hk y (List.mem_of_getElem? hget)
        have hpu : k < 4611686018427387904 := by omega
        simp only [Ex.forms] at h
        repeat' (first
 | simp only [go_sem, hlt, hget, hpu, hinc, Int.reduceLE, ↓reduceIte, reduceCtorEq, Nat.reduceEqDiff, Nat.reduceLeDiff, Nat.reduceAdd, Nat.reduceMul, Nat.reduceSub, Nat.reduceLT]
 | (with_reducible refine CU (hy _) ?_)
 | (with_reducible first | refine CB_ofT (by assumption) fun hc => ?_ | refine CB_ofF (by assumption) fun hc => ?_ | refine CB_split (fun hc => ?_) fun hc => ?_) <;> (try simp only [hc, bs, ↓reduceIte] at h) <;> (try simp only [hc])
 | ((with_reducible first | refine leafR hQ ?_ | refine leafN hQ ?_); (try cases h); simp only [resL, oneD, Option.some.injEq, exists_eq_left', go_sem, hlt, hget, hpu, hinc, Int.reduceLE, ↓reduceIte, reduceCtorEq, Nat.reduceEqDiff, Nat.reduceLeDiff, Nat.reduceAdd, Nat.reduceMul, Nat.reduceSub, Nat.reduceLT]; repeat' (first | exact Ok.out | with_reducible refine And.intro ?_ ?_ | (simp; done)))
 | (cases h; replace h := hr; clear hr; (try simp only [bs, ↓reduceIte] at h))
 | (cases h; done))
        refine SemL.re _ _ 1 0 (by rw [hB]; exact Nat.le_of_ble_eq_true rfl) (by rw [hB]; exact Nat.le_of_ble_eq_true rfl) ?_ ?_ (IH (rest, k + 1) ⟨g2, h⟩ (Nat.lt_succ_self _))
        · (simp only [go_sem, hlt, hget, hpu, hinc, Int.reduceLE, ↓reduceIte, reduceCtorEq, Nat.reduceEqDiff, Nat.reduceLeDiff, Nat.reduceAdd, Nat.reduceMul, Nat.reduceSub, Nat.reduceLT]; repeat' (first | exact Ok.out | with_reducible refine And.intro ?_ ?_))
        · (simp only [go_sem, hlt, hget, hpu, hinc, Int.reduceLE, ↓reduceIte, reduceCtorEq, Nat.reduceEqDiff, Nat.reduceLeDiff, Nat.reduceAdd, Nat.reduceMul, Nat.reduceSub, Nat.reduceLT]; repeat' (first | exact Ok.out | with_reducible refine And.intro ?_ ?_))

theorem MayExpr_s {x : Ex} (hx : x.size < 4611686018427387904) (ht : x.texts) (s : St) : Fun Tryd.prog n_ref3_MayExpr [.agg (encEx x)] s (.bool x.may) s := by
  refine Fun.pure ?_ (by simp [D.oks, D.ok, okEx]) rfl s
  have hd := fun s => deep_n 20 (by decide) x hx s
  have c20 : ((20 : Nat) : Int) = 20 := rfl
  rw [c20] at hd
  have hf := form_n _ x (Nat.le_refl _) hx ht
  unfold S0
  generalize h : Ex.may x = p
  unfold Ex.may at h
  refine Fun.go has_ref3_MayExpr rfl fun B Q hB hQ => ?_
  have hlt : 0 < 1 := Nat.zero_lt_one
  have hget : 0 < 1 := Nat.zero_lt_one
  have hpu : 0 < 1 := Nat.zero_lt_one
  have hinc : 0 < 1 := Nat.zero_lt_one
  repeat' (first
 | simp only [go_sem, hlt, hget, hpu, hinc, Int.reduceLE, ↓reduceIte, reduceCtorEq, Nat.reduceEqDiff, Nat.reduceLeDiff, Nat.reduceAdd, Nat.reduceMul, Nat.reduceSub, Nat.reduceLT]
 | (with_reducible refine CU (hd _) ?_)
 | (with_reducible refine CU (hf _) ?_)
 | (with_reducible first | refine CB_ofT (by assumption) fun hc => ?_ | refine CB_ofF (by assumption) fun hc => ?_ | refine CB_split (fun hc => ?_) fun hc => ?_) <;> (try simp only [hc, bs, ↓reduceIte] at h) <;> (try simp only [hc])
 | ((with_reducible first | refine leafR hQ ?_ | refine leafN hQ ?_); (try cases h); simp only [resL, oneD, Option.some.injEq, exists_eq_left', go_sem, hlt, hget, hpu, hinc, Int.reduceLE, ↓reduceIte, reduceCtorEq, Nat.reduceEqDiff, Nat.reduceLeDiff, Nat.reduceAdd, Nat.reduceMul, Nat.reduceSub, Nat.reduceLT]; repeat' (first | exact Ok.out | with_reducible refine And.intro ?_ ?_ | (simp; done)))
 | (cases h; replace h := hr; clear hr; (try simp only [bs, ↓reduceIte] at h))
 | (cases h; done))

end Go.Abs

/-! Full1 -/

namespace Go.Abs

set_option maxRecDepth 8000
set_option linter.unusedSimpArgs false
set_option linter.unusedVariables false
open Go.Proofs

def weighT (t : Str) (n : Int) : Int := if n > 20000 then 20001 else if (t.length : Int) ≥ 20000 - n then 20001 else n + 1 + t.length
mutual
def weighE : Ex → Int → Int
  | ⟨_, _, name, kids⟩, n => weighEs kids (weighT name n)
def weighEs : List Ex → Int → Int
  | [], n => n
  | x :: l, n => if n ≤ 20000 then weighEs l (weighE x n) else n
end

theorem weighT_in {t : Str} {n : Int} (h0 : 0 ≤ n) : weighT t n ≤ 20001 ∧ (n ≤ 20000 → n + 1 ≤ weighT t n) ∧ 0 ≤ weighT t n ∧ (weighT t n ≤ 20000 → n + 1 + t.length = weighT t n) := by
  unfold weighT; split
  · omega
  · split <;> omega

theorem weigh_in : ∀ (m : Nat) (x : Ex), x.size ≤ m → ∀ n : Int, 0 ≤ n → weighE x n ≤ 20001 ∧ (n ≤ 20000 → n + 1 ≤ weighE x n) ∧ 0 ≤ weighE x n ∧ (weighE x n ≤ 20000 → (x.size : Int) + 1 ≤ 2 * (weighE x n - n) ∧ x.texts) := by
  intro m
  induction m with
  | zero => rintro ⟨op, v, name, kids⟩ h; simp only [Ex.size] at h; omega
  | succ m ih =>
    rintro ⟨op, v, name, kids⟩ h n h0
    simp only [Ex.size] at h
    obtain ⟨t1, t2, t3, t4⟩ := weighT_in (t := name) h0
    have go : ∀ (l : List Ex), Ex.sizes l ≤ m → ∀ c : Int, 0 ≤ c → c ≤ 20001 → weighEs l c ≤ 20001 ∧ c ≤ weighEs l c ∧ (weighEs l c ≤ 20000 → (Ex.sizes l : Int) ≤ 2 * (weighEs l c - c) ∧ Ex.textss l) := by
      intro l
      induction l with
      | nil => intro _ c h0 h1; simp only [weighEs, Ex.sizes]; exact ⟨h1, Int.le_refl _, fun _ => ⟨by omega, trivial⟩⟩
      | cons y l ihl =>
        intro hs c h0 h1
        simp only [Ex.sizes] at hs ⊢
        simp only [weighEs]
        split
        · rename_i hc
          obtain ⟨a1, a2, a3, a4⟩ := ih y (by omega) c h0
          obtain ⟨b1, b2, b3⟩ := ihl (by omega) (weighE y c) a3 a1
          have := a2 hc
          refine ⟨b1, by omega, fun hw => ?_⟩
          obtain ⟨c1, c2⟩ := b3 hw
          obtain ⟨d1, d2⟩ := a4 (by omega)
          exact ⟨by omega, d2, c2⟩
        · exact ⟨h1, Int.le_refl _, fun hw => by omega⟩
    obtain ⟨g1, g2, g3⟩ := go kids (by omega) (weighT name n) t3 t1
    simp only [weighE, Ex.size]
    refine ⟨g1, fun hn => by have := t2 hn; omega, by omega, fun hw => ?_⟩
    obtain ⟨k1, k2⟩ := g3 hw
    have := t4 (by omega)
    exact ⟨by omega, by omega, k2⟩

theorem weighT_s (t : Str) {n : Int} (h0 : 0 ≤ n) (h1 : n ≤ 20001) (s : St) : Fun Tryd.prog n_ref3_weighText [.str t, .int .i64 n] s (.int .i64 (weighT t n)) s := by
  refine Fun.pure ?_ rfl rfl s
  unfold S0
  have w1 : IntKind.wrap .i64 (20000 - n) = 20000 - n := wrap_ok (by omega) (by omega)
  have w2 : IntKind.wrap .i64 (n + 1) = n + 1 := wrap_ok (by omega) (by omega)
  by_cases c : n > 20000
  · have c1 : decide (n > 20000) = true := by simp; omega
    have e : weighT t n = 20001 := by simp [weighT, c]
    rw [e]
    refine Fun.go has_ref3_weighText rfl fun B Q hB hQ => ?_
    have hlt : 0 < 1 := Nat.zero_lt_one
    have hget : 0 < 1 := Nat.zero_lt_one
    have hpu : 0 < 1 := Nat.zero_lt_one
    have hinc : 0 < 1 := Nat.zero_lt_one
    repeat' (first
 | simp only [go_sem, hlt, hget, hpu, hinc, Int.reduceLE, ↓reduceIte, reduceCtorEq, Nat.reduceEqDiff, Nat.reduceLeDiff, Nat.reduceAdd, Nat.reduceMul, Nat.reduceSub, Nat.reduceLT, c1, w1, w2]
 | (with_reducible first | refine CB_ofT (by assumption) fun hc => ?_ | refine CB_ofF (by assumption) fun hc => ?_ | refine CB_split (fun hc => ?_) fun hc => ?_) <;> (try simp only [hc, bs, ↓reduceIte] at h) <;> (try simp only [hc])
 | ((with_reducible first | refine leafR hQ ?_ | refine leafN hQ ?_); (try cases h); simp only [resL, oneD, Option.some.injEq, exists_eq_left', go_sem, hlt, hget, hpu, hinc, Int.reduceLE, ↓reduceIte, reduceCtorEq, Nat.reduceEqDiff, Nat.reduceLeDiff, Nat.reduceAdd, Nat.reduceMul, Nat.reduceSub, Nat.reduceLT, c1, w1, w2]; repeat' (first | exact Ok.out | with_reducible refine And.intro ?_ ?_ | (simp; done)))
 | (cases h; replace h := hr; clear hr; (try simp only [bs, ↓reduceIte] at h))
 | (cases h; done))
  · have c1 : decide (n > 20000) = false := by simp; omega
    by_cases d : (t.length : Int) ≥ 20000 - n
    · have d1 : decide ((t.length : Int) ≥ 20000 - n) = true := by simp; omega
      have e : weighT t n = 20001 := by unfold weighT; rw [if_neg c, if_pos d]
      rw [e]
      refine Fun.go has_ref3_weighText rfl fun B Q hB hQ => ?_
      have hlt : 0 < 1 := Nat.zero_lt_one
      have hget : 0 < 1 := Nat.zero_lt_one
      have hpu : 0 < 1 := Nat.zero_lt_one
      have hinc : 0 < 1 := Nat.zero_lt_one
      repeat' (first
 | simp only [go_sem, hlt, hget, hpu, hinc, Int.reduceLE, ↓reduceIte, reduceCtorEq, Nat.reduceEqDiff, Nat.reduceLeDiff, Nat.reduceAdd, Nat.reduceMul, Nat.reduceSub, Nat.reduceLT, c1, d1, w1, w2]
 | (with_reducible first | refine CB_ofT (by assumption) fun hc => ?_ | refine CB_ofF (by assumption) fun hc => ?_ | refine CB_split (fun hc => ?_) fun hc => ?_) <;> (try simp only [hc, bs, ↓reduceIte] at h) <;> (try simp only [hc])
 | ((with_reducible first | refine leafR hQ ?_ | refine leafN hQ ?_); (try cases h); simp only [resL, oneD, Option.some.injEq, exists_eq_left', go_sem, hlt, hget, hpu, hinc, Int.reduceLE, ↓reduceIte, reduceCtorEq, Nat.reduceEqDiff, Nat.reduceLeDiff, Nat.reduceAdd, Nat.reduceMul, Nat.reduceSub, Nat.reduceLT, c1, d1, w1, w2]; repeat' (first | exact Ok.out | with_reducible refine And.intro ?_ ?_ | (simp; done)))
 | (cases h; replace h := hr; clear hr; (try simp only [bs, ↓reduceIte] at h))
 | (cases h; done))
    · have d1 : decide ((t.length : Int) ≥ 20000 - n) = false := by simp; omega
      have e : weighT t n = n + 1 + t.length := by unfold weighT; rw [if_neg c, if_neg d]
      have w3 : IntKind.wrap .i64 (n + 1 + t.length) = n + 1 + t.length := wrap_ok (by omega) (by omega)
      rw [e]
      refine Fun.go has_ref3_weighText rfl fun B Q hB hQ => ?_
      have hlt : 0 < 1 := Nat.zero_lt_one
      have hget : 0 < 1 := Nat.zero_lt_one
      have hpu : 0 < 1 := Nat.zero_lt_one
      have hinc : 0 < 1 := Nat.zero_lt_one
      repeat' (first
 | simp only [go_sem, hlt, hget, hpu, hinc, Int.reduceLE, ↓reduceIte, reduceCtorEq, Nat.reduceEqDiff, Nat.reduceLeDiff, Nat.reduceAdd, Nat.reduceMul, Nat.reduceSub, Nat.reduceLT, c1, d1, w1, w2, w3]
 | (with_reducible first | refine CB_ofT (by assumption) fun hc => ?_ | refine CB_ofF (by assumption) fun hc => ?_ | refine CB_split (fun hc => ?_) fun hc => ?_) <;> (try simp only [hc, bs, ↓reduceIte] at h) <;> (try simp only [hc])
 | ((with_reducible first | refine leafR hQ ?_ | refine leafN hQ ?_); (try cases h); simp only [resL, oneD, Option.some.injEq, exists_eq_left', go_sem, hlt, hget, hpu, hinc, Int.reduceLE, ↓reduceIte, reduceCtorEq, Nat.reduceEqDiff, Nat.reduceLeDiff, Nat.reduceAdd, Nat.reduceMul, Nat.reduceSub, Nat.reduceLT, c1, d1, w1, w2, w3]; repeat' (first | exact Ok.out | with_reducible refine And.intro ?_ ?_ | (simp; done)))
 | (cases h; replace h := hr; clear hr; (try simp only [bs, ↓reduceIte] at h))
 | (cases h; done))

theorem weighE_s : ∀ (m : Nat) (x : Ex), x.size ≤ m → ∀ {n : Int}, 0 ≤ n → n ≤ 20000 → ∀ s : St, Fun Tryd.prog n_ref3_weighExpr [.agg (encEx x), .int .i64 n] s (.int .i64 (weighE x n)) s := by
  intro m
  induction m with
  | zero => rintro ⟨op, v, name, kids⟩ h; simp only [Ex.size] at h; omega
  | succ m ih =>
    rintro ⟨op, v, name, kids⟩ hsz n h0 h1 s
    refine Fun.pure ?_ (by simp [D.oks, D.ok, okEx]) rfl s
    simp only [Ex.size] at hsz
    have hk : ∀ y ∈ kids, ∀ {n : Int}, 0 ≤ n → n ≤ 20000 → ∀ s : St, Fun Tryd.prog n_ref3_weighExpr [.agg (encEx y), .int .i64 n] s (.int .i64 (weighE y n)) s := fun y hy => ih y (by have := Ex.sizes_mem hy; omega)
    have ht := fun s => weighT_s name h0 (by omega) s
    obtain ⟨t1, t2, t3, t4⟩ := weighT_in (t := name) h0
    unfold S0
    generalize h : weighE ⟨op, v, name, kids⟩ n = p
    simp only [weighE] at h
    refine Fun.go has_ref3_weighExpr rfl fun B Q hB hQ => ?_
    have hlt : 0 < 1 := Nat.zero_lt_one
    have hget : 0 < 1 := Nat.zero_lt_one
    have hpu : 0 < 1 := Nat.zero_lt_one
    have hinc : 0 < 1 := Nat.zero_lt_one
    repeat' (first
 | simp only [go_sem, hlt, hget, hpu, hinc, Int.reduceLE, ↓reduceIte, reduceCtorEq, Nat.reduceEqDiff, Nat.reduceLeDiff, Nat.reduceAdd, Nat.reduceMul, Nat.reduceSub, Nat.reduceLT]
 | (with_reducible refine CU (ht _) ?_)
 | (with_reducible first | refine CB_ofT (by assumption) fun hc => ?_ | refine CB_ofF (by assumption) fun hc => ?_ | refine CB_split (fun hc => ?_) fun hc => ?_) <;> (try simp only [hc, bs, ↓reduceIte] at h) <;> (try simp only [hc])
 | ((with_reducible first | refine leafR hQ ?_ | refine leafN hQ ?_); (try cases h); simp only [resL, oneD, Option.some.injEq, exists_eq_left', go_sem, hlt, hget, hpu, hinc, Int.reduceLE, ↓reduceIte, reduceCtorEq, Nat.reduceEqDiff, Nat.reduceLeDiff, Nat.reduceAdd, Nat.reduceMul, Nat.reduceSub, Nat.reduceLT]; repeat' (first | exact Ok.out | with_reducible refine And.intro ?_ ?_ | (simp; done)))
 | (cases h; replace h := hr; clear hr; (try simp only [bs, ↓reduceIte] at h))
 | (cases h; done))
    refine SemL.re _ _ 1 0 (by rw [hB]; exact Nat.le_of_ble_eq_true rfl) (by rw [hB]; exact Nat.le_of_ble_eq_true rfl) ?_ ?_ (SemL.ind (ι := List Ex × Nat × Int) (fun i => kids.drop i.2.1 = i.1 ∧ weighEs i.1 i.2.2 = p ∧ (i.2.1 : Int) ≤ i.2.2 ∧ i.2.2 ≤ 20001) (fun i => i.1.length)
      (fun i => [(1, .int .i64 i.2.2), (2, .ptr 0 0), (5, .int .i64 (i.2.1 : Int))]) (fun i => ⟨[encEx ⟨op, v, name, kids⟩], []⟩) ?_ (kids, 0, weighT name n) ⟨rfl, h, t3, t1⟩)
    · (simp only [go_sem, hlt, hget, hpu, hinc, Int.reduceLE, ↓reduceIte, reduceCtorEq, Nat.reduceEqDiff, Nat.reduceLeDiff, Nat.reduceAdd, Nat.reduceMul, Nat.reduceSub, Nat.reduceLT]; repeat' (first | exact Ok.out | with_reducible refine And.intro ?_ ?_))
    · (simp only [go_sem, hlt, hget, hpu, hinc, Int.reduceLE, ↓reduceIte, reduceCtorEq, Nat.reduceEqDiff, Nat.reduceLeDiff, Nat.reduceAdd, Nat.reduceMul, Nat.reduceSub, Nat.reduceLT]; repeat' (first | exact Ok.out | with_reducible refine And.intro ?_ ?_))
    rintro ⟨rest, k, c⟩ ⟨g1, h, g3, g4⟩ IH
    dsimp only at g1 h g3 g4
    cases rest with
    | nil =>
      have hlt := drop_nil g1
      simp only [weighEs] at h
      repeat' (first
 | simp only [go_sem, hlt, hget, hpu, hinc, Int.reduceLE, ↓reduceIte, reduceCtorEq, Nat.reduceEqDiff, Nat.reduceLeDiff, Nat.reduceAdd, Nat.reduceMul, Nat.reduceSub, Nat.reduceLT]
 | (with_reducible first | refine CB_ofT (by assumption) fun hc => ?_ | refine CB_ofF (by assumption) fun hc => ?_ | refine CB_split (fun hc => ?_) fun hc => ?_) <;> (try simp only [hc, bs, ↓reduceIte] at h) <;> (try simp only [hc])
 | ((with_reducible first | refine leafR hQ ?_ | refine leafN hQ ?_); (try cases h); simp only [resL, oneD, Option.some.injEq, exists_eq_left', go_sem, hlt, hget, hpu, hinc, Int.reduceLE, ↓reduceIte, reduceCtorEq, Nat.reduceEqDiff, Nat.reduceLeDiff, Nat.reduceAdd, Nat.reduceMul, Nat.reduceSub, Nat.reduceLT]; repeat' (first | exact Ok.out | with_reducible refine And.intro ?_ ?_ | (simp; done)))
 | (cases h; replace h := hr; clear hr; (try simp only [bs, ↓reduceIte] at h))
 | (cases h; done))
    | cons y rest =>
      obtain ⟨hget, g2, hlt, g5⟩ := drop_cons g1
      simp only [weighEs] at h
      by_cases hc : c ≤ 20000
      · have c1 : decide (c ≤ 20000) = true := by simp; omega
        have hy := fun s => hk y (List.mem_of_getElem? hget) (n := c) (by omega) hc s
        obtain ⟨a1, a2, a3, a4⟩ := weigh_in _ y (Nat.le_refl _) c (by omega)
        have := a2 hc
        have w3 : IntKind.wrap .i64 ((k : Int) + 1) = ((k + 1 : Nat) : Int) := by rw [wrap_ok] <;> omega
        rw [if_pos hc] at h
        repeat' (first
 | simp only [go_sem, hlt, hget, hpu, hinc, Int.reduceLE, ↓reduceIte, reduceCtorEq, Nat.reduceEqDiff, Nat.reduceLeDiff, Nat.reduceAdd, Nat.reduceMul, Nat.reduceSub, Nat.reduceLT, c1, w3]
 | (with_reducible refine CU (hy _) ?_)
 | (with_reducible first | refine CB_ofT (by assumption) fun hc => ?_ | refine CB_ofF (by assumption) fun hc => ?_ | refine CB_split (fun hc => ?_) fun hc => ?_) <;> (try simp only [hc, bs, ↓reduceIte] at h) <;> (try simp only [hc])
 | ((with_reducible first | refine leafR hQ ?_ | refine leafN hQ ?_); (try cases h); simp only [resL, oneD, Option.some.injEq, exists_eq_left', go_sem, hlt, hget, hpu, hinc, Int.reduceLE, ↓reduceIte, reduceCtorEq, Nat.reduceEqDiff, Nat.reduceLeDiff, Nat.reduceAdd, Nat.reduceMul, Nat.reduceSub, Nat.reduceLT, c1, w3]; repeat' (first | exact Ok.out | with_reducible refine And.intro ?_ ?_ | (simp; done)))
 | (cases h; replace h := hr; clear hr; (try simp only [bs, ↓reduceIte] at h))
 | (cases h; done))
        refine SemL.re _ _ 1 0 (by rw [hB]; exact Nat.le_of_ble_eq_true rfl) (by rw [hB]; exact Nat.le_of_ble_eq_true rfl) ?_ ?_ (IH (rest, k + 1, weighE y c) ⟨g2, h, by dsimp only; omega, a1⟩ (Nat.lt_succ_self _))
        · (simp only [go_sem, hlt, hget, hpu, hinc, Int.reduceLE, ↓reduceIte, reduceCtorEq, Nat.reduceEqDiff, Nat.reduceLeDiff, Nat.reduceAdd, Nat.reduceMul, Nat.reduceSub, Nat.reduceLT]; repeat' (first | exact Ok.out | with_reducible refine And.intro ?_ ?_))
        · (simp only [go_sem, hlt, hget, hpu, hinc, Int.reduceLE, ↓reduceIte, reduceCtorEq, Nat.reduceEqDiff, Nat.reduceLeDiff, Nat.reduceAdd, Nat.reduceMul, Nat.reduceSub, Nat.reduceLT]; repeat' (first | exact Ok.out | with_reducible refine And.intro ?_ ?_))
      · have c1 : decide (c ≤ 20000) = false := by simp; omega
        rw [if_neg hc] at h
        repeat' (first
 | simp only [go_sem, hlt, hget, hpu, hinc, Int.reduceLE, ↓reduceIte, reduceCtorEq, Nat.reduceEqDiff, Nat.reduceLeDiff, Nat.reduceAdd, Nat.reduceMul, Nat.reduceSub, Nat.reduceLT, c1]
 | (with_reducible first | refine CB_ofT (by assumption) fun hc => ?_ | refine CB_ofF (by assumption) fun hc => ?_ | refine CB_split (fun hc => ?_) fun hc => ?_) <;> (try simp only [hc, bs, ↓reduceIte] at h) <;> (try simp only [hc])
 | ((with_reducible first | refine leafR hQ ?_ | refine leafN hQ ?_); (try cases h); simp only [resL, oneD, Option.some.injEq, exists_eq_left', go_sem, hlt, hget, hpu, hinc, Int.reduceLE, ↓reduceIte, reduceCtorEq, Nat.reduceEqDiff, Nat.reduceLeDiff, Nat.reduceAdd, Nat.reduceMul, Nat.reduceSub, Nat.reduceLT, c1]; repeat' (first | exact Ok.out | with_reducible refine And.intro ?_ ?_ | (simp; done)))
 | (cases h; replace h := hr; clear hr; (try simp only [bs, ↓reduceIte] at h))
 | (cases h; done))

theorem FitsExpr_s (x : Ex) (s : St) : Fun Tryd.prog n_ref3_FitsExpr [.agg (encEx x)] s (.bool (decide (weighE x 0 ≤ 20000))) s := by
  refine Fun.pure ?_ (by simp [D.oks, D.ok, okEx]) rfl s
  have hw := fun s => weighE_s _ x (Nat.le_refl _) (n := 0) (by omega) (by omega) s
  unfold S0
  refine Fun.go has_ref3_FitsExpr rfl fun B Q hB hQ => ?_
  have hlt : 0 < 1 := Nat.zero_lt_one
  have hget : 0 < 1 := Nat.zero_lt_one
  have hpu : 0 < 1 := Nat.zero_lt_one
  have hinc : 0 < 1 := Nat.zero_lt_one
  repeat' (first
 | simp only [go_sem, hlt, hget, hpu, hinc, Int.reduceLE, ↓reduceIte, reduceCtorEq, Nat.reduceEqDiff, Nat.reduceLeDiff, Nat.reduceAdd, Nat.reduceMul, Nat.reduceSub, Nat.reduceLT]
 | (with_reducible refine CU (hw _) ?_)
 | (with_reducible first | refine CB_ofT (by assumption) fun hc => ?_ | refine CB_ofF (by assumption) fun hc => ?_ | refine CB_split (fun hc => ?_) fun hc => ?_) <;> (try simp only [hc, bs, ↓reduceIte] at h) <;> (try simp only [hc])
 | ((with_reducible first | refine leafR hQ ?_ | refine leafN hQ ?_); (try cases h); simp only [resL, oneD, Option.some.injEq, exists_eq_left', go_sem, hlt, hget, hpu, hinc, Int.reduceLE, ↓reduceIte, reduceCtorEq, Nat.reduceEqDiff, Nat.reduceLeDiff, Nat.reduceAdd, Nat.reduceMul, Nat.reduceSub, Nat.reduceLT]; repeat' (first | exact Ok.out | with_reducible refine And.intro ?_ ?_ | (simp; done)))
 | (cases h; replace h := hr; clear hr; (try simp only [bs, ↓reduceIte] at h))
 | (cases h; done))

end Go.Abs

/-! Full2 -/

namespace Go.Abs

set_option maxRecDepth 8000
set_option linter.unusedSimpArgs false
set_option linter.unusedVariables false
open Go.Proofs

mutual
def Ex.nodes : Ex → Nat
  | ⟨_, _, _, kids⟩ => 1 + Ex.nodess kids
def Ex.nodess : List Ex → Nat
  | [] => 0
  | x :: l => x.nodes + Ex.nodess l
end
mutual
def sizeM : Ex → Int → Int
  | ⟨_, _, _, kids⟩, most => sizeL kids most 1
def sizeL : List Ex → Int → Int → Int
  | [], _, n => n
  | x :: l, most, n => if n ≤ most then sizeL l most (n + sizeM x (most - n)) else n
end

end Go.Abs

/-! MirEq -/

namespace Go.Abs

def eqTs : List Str → List Str → Bool
  | [], _ => true
  | _ :: _, [] => true
  | x :: l, y :: l' => if !(x == y) then false else eqTs l l'
def eqT (l l' : List Str) : Bool := if (l.length : Int) != (l'.length : Int) then false else eqTs l l'

def Ar.beqs : List Ar → List Ar → Bool
  | [], _ => true
  | _ :: _, [] => true
  | a :: l, b :: l' => if !(a.ref == b.ref) || !(a.name == b.name) || !(Ex.beq a.x b.x) then false else Ar.beqs l l'

mutual
def Sm.beq : Sm → Sm → Bool
  | ⟨id, kind, labels, name, proc, x, has, args, thn, els⟩, ⟨id', kind', labels', name', proc', x', has', args', thn', els'⟩ =>
    if id != id' || kind != kind' || !(name == name') || !(proc == proc') || !(has == has') || !(eqT labels labels') || !(Ex.beq x x') || (args.length : Int) != (args'.length : Int) then false
    else if !(Ar.beqs args args') then false
    else if (if (thn.length : Int) != (thn'.length : Int) then false else Sm.beqs thn thn') then (if (els.length : Int) != (els'.length : Int) then false else Sm.beqs els els') else false
def Sm.beqs : List Sm → List Sm → Bool
  | [], _ => true
  | _ :: _, [] => true
  | s :: l, t :: l' => if !(Sm.beq s t) then false else Sm.beqs l l'
end
def Sm.beqL (l l' : List Sm) : Bool := if (l.length : Int) != (l'.length : Int) then false else Sm.beqs l l'

def Pm.beqs : List Pm → List Pm → Bool
  | [], _ => true
  | _ :: _, [] => true
  | a :: l, b :: l' => if !((a.name == b.name) && (a.ref == b.ref)) then false else Pm.beqs l l'

def Pc.beqs : List Pc → List Pc → Bool
  | [], _ => true
  | _ :: _, [] => true
  | f :: l, g :: l' =>
    if !(f.name == g.name) || (f.params.length : Int) != (g.params.length : Int) || !(eqT f.vars g.vars) || !(eqT f.fin g.fin) || !(Sm.beqL f.body g.body) then false
    else if !(Pm.beqs f.params g.params) then false else Pc.beqs l l'

def Pg.beq (p q : Pg) : Bool := if !(eqT p.globals q.globals) || (p.procs.length : Int) != (q.procs.length : Int) then false else Pc.beqs p.procs q.procs

/-! ### What is the same is the same -/

end Go.Abs

/-! RefEq -/

namespace Go.Abs

set_option maxRecDepth 8000
set_option linter.unusedSimpArgs false
set_option linter.unusedVariables false
open Go.Proofs

abbrev C_eqOne (N : Nat) : Prop := ∀ s t : Sm, s.size < N → ∀ st : St, Fun Tryd.prog n_ref3_eqOne [.agg (encSm s), .agg (encSm t)] st (.bool (Sm.beq s t)) st
abbrev C_eqL (N : Nat) : Prop := ∀ l l' : List Sm, Sm.sizes l < N → ∀ st : St, Fun Tryd.prog n_ref3_EqStmts [.slice .shared 13 (l.map encSm), .slice .shared 13 (l'.map encSm)] st (.bool (Sm.beqL l l')) st

end Go.Abs

/-! RefEq2 -/

namespace Go.Abs

set_option maxRecDepth 8000
set_option linter.unusedSimpArgs false
set_option linter.unusedVariables false
open Go.Proofs

/-! ### The sample -/

def exNum (n : Int) : Ex := ⟨1, n, [], []⟩
def exName (s : Str) : Ex := ⟨2, 0, s, []⟩
def exTwo (op : Int) (a b : Ex) : Ex := ⟨op, 0, [], [a, b]⟩

theorem num_s (n : Int) (s : St) : Fun Tryd.prog n_ref3_num [.int .i64 n] s (.agg (encEx (exNum n))) s := by
  refine Fun.pure ?_ rfl (by simp [D.ok, okEx]) s
  unfold S0
  refine Fun.go has_ref3_num rfl fun B Q hB hQ => ?_
  have hlt : 0 < 1 := Nat.zero_lt_one
  have hget : 0 < 1 := Nat.zero_lt_one
  have hpu : 0 < 1 := Nat.zero_lt_one
  have hinc : 0 < 1 := Nat.zero_lt_one
  repeat' (first
 | simp only [go_sem, hlt, hget, hpu, hinc, Int.reduceLE, ↓reduceIte, reduceCtorEq, Nat.reduceEqDiff, Nat.reduceLeDiff, Nat.reduceAdd, Nat.reduceMul, Nat.reduceSub, Nat.reduceLT, exNum]
 | (with_reducible first | refine CB_ofT (by assumption) fun hc => ?_ | refine CB_ofF (by assumption) fun hc => ?_ | refine CB_split (fun hc => ?_) fun hc => ?_) <;> (try simp only [hc, bs, ↓reduceIte] at h) <;> (try simp only [hc])
 | ((with_reducible first | refine leafR hQ ?_ | refine leafN hQ ?_); (try cases h); simp only [resL, oneD, Option.some.injEq, exists_eq_left', go_sem, hlt, hget, hpu, hinc, Int.reduceLE, ↓reduceIte, reduceCtorEq, Nat.reduceEqDiff, Nat.reduceLeDiff, Nat.reduceAdd, Nat.reduceMul, Nat.reduceSub, Nat.reduceLT, exNum]; repeat' (first | exact Ok.out | with_reducible refine And.intro ?_ ?_ | (simp; done)))
 | (cases h; replace h := hr; clear hr; (try simp only [bs, ↓reduceIte] at h))
 | (cases h; done))
theorem name_ref_s (t : Str) (s : St) : Fun Tryd.prog n_ref3_name [.str t] s (.agg (encEx (exName t))) s := by
  refine Fun.pure ?_ rfl (by simp [D.ok, okEx]) s
  unfold S0
  refine Fun.go has_ref3_name rfl fun B Q hB hQ => ?_
  have hlt : 0 < 1 := Nat.zero_lt_one
  have hget : 0 < 1 := Nat.zero_lt_one
  have hpu : 0 < 1 := Nat.zero_lt_one
  have hinc : 0 < 1 := Nat.zero_lt_one
  repeat' (first
 | simp only [go_sem, hlt, hget, hpu, hinc, Int.reduceLE, ↓reduceIte, reduceCtorEq, Nat.reduceEqDiff, Nat.reduceLeDiff, Nat.reduceAdd, Nat.reduceMul, Nat.reduceSub, Nat.reduceLT, exName]
 | (with_reducible first | refine CB_ofT (by assumption) fun hc => ?_ | refine CB_ofF (by assumption) fun hc => ?_ | refine CB_split (fun hc => ?_) fun hc => ?_) <;> (try simp only [hc, bs, ↓reduceIte] at h) <;> (try simp only [hc])
 | ((with_reducible first | refine leafR hQ ?_ | refine leafN hQ ?_); (try cases h); simp only [resL, oneD, Option.some.injEq, exists_eq_left', go_sem, hlt, hget, hpu, hinc, Int.reduceLE, ↓reduceIte, reduceCtorEq, Nat.reduceEqDiff, Nat.reduceLeDiff, Nat.reduceAdd, Nat.reduceMul, Nat.reduceSub, Nat.reduceLT, exName]; repeat' (first | exact Ok.out | with_reducible refine And.intro ?_ ?_ | (simp; done)))
 | (cases h; replace h := hr; clear hr; (try simp only [bs, ↓reduceIte] at h))
 | (cases h; done))
theorem two_ref_s (op : Int) (a b : Ex) (s : St) : Fun Tryd.prog n_ref3_two [.int .i64 op, .agg (encEx a), .agg (encEx b)] s (.agg (encEx (exTwo op a b))) s := by
  refine Fun.pure ?_ (by simp [D.oks, D.ok, okEx]) (by simp [D.ok, okEx]) s
  unfold S0
  refine Fun.go has_ref3_two rfl fun B Q hB hQ => ?_
  have hlt : 0 < 1 := Nat.zero_lt_one
  have hget : 0 < 1 := Nat.zero_lt_one
  have hpu : 0 < 1 := Nat.zero_lt_one
  have hinc : 0 < 1 := Nat.zero_lt_one
  repeat' (first
 | simp only [go_sem, hlt, hget, hpu, hinc, Int.reduceLE, ↓reduceIte, reduceCtorEq, Nat.reduceEqDiff, Nat.reduceLeDiff, Nat.reduceAdd, Nat.reduceMul, Nat.reduceSub, Nat.reduceLT, exTwo]
 | (with_reducible first | refine CB_ofT (by assumption) fun hc => ?_ | refine CB_ofF (by assumption) fun hc => ?_ | refine CB_split (fun hc => ?_) fun hc => ?_) <;> (try simp only [hc, bs, ↓reduceIte] at h) <;> (try simp only [hc])
 | ((with_reducible first | refine leafR hQ ?_ | refine leafN hQ ?_); (try cases h); simp only [resL, oneD, Option.some.injEq, exists_eq_left', go_sem, hlt, hget, hpu, hinc, Int.reduceLE, ↓reduceIte, reduceCtorEq, Nat.reduceEqDiff, Nat.reduceLeDiff, Nat.reduceAdd, Nat.reduceMul, Nat.reduceSub, Nat.reduceLT, exTwo]; repeat' (first | exact Ok.out | with_reducible refine And.intro ?_ ?_ | (simp; done)))
 | (cases h; replace h := hr; clear hr; (try simp only [bs, ↓reduceIte] at h))
 | (cases h; done))

def source : Str := [103, 108, 111, 98, 97, 108, 32, 103, 59, 10, 112, 114, 111, 99, 32, 109, 97, 105, 110, 40, 41, 32, 123, 10, 32, 118, 97, 114, 32, 118, 59, 10, 32, 118, 32, 61, 32, 50, 59, 10, 32, 103, 32, 61, 32, 112, 40, 51, 44, 32, 114, 101, 102, 32, 118, 41, 59, 10, 32, 112, 114, 105, 110, 116, 32, 118, 59, 10, 32, 112, 114, 105, 110, 116, 32, 103, 59, 10, 125, 10, 112, 114, 111, 99, 32, 112, 40, 120, 44, 32, 114, 101, 102, 32, 121, 41, 32, 123, 10, 32, 121, 32, 61, 32, 121, 32, 43, 32, 120, 59, 10, 32, 105, 102, 32, 40, 121, 32, 62, 32, 57, 41, 32, 123, 10, 32, 32, 103, 111, 116, 111, 32, 101, 59, 10, 32, 125, 10, 32, 114, 101, 116, 117, 114, 110, 32, 121, 59, 10, 101, 58, 32, 125, 10]

theorem Source_s (s : St) : Fun Tryd.prog n_ref3_Source [] s (.str source) s := by
  refine Fun.pure ?_ rfl rfl s
  unfold S0
  refine Fun.go has_ref3_Source rfl fun B Q hB hQ => ?_
  have hlt : 0 < 1 := Nat.zero_lt_one
  have hget : 0 < 1 := Nat.zero_lt_one
  have hpu : 0 < 1 := Nat.zero_lt_one
  have hinc : 0 < 1 := Nat.zero_lt_one
  repeat' (first
 | simp only [go_sem, hlt, hget, hpu, hinc, Int.reduceLE, ↓reduceIte, reduceCtorEq, Nat.reduceEqDiff, Nat.reduceLeDiff, Nat.reduceAdd, Nat.reduceMul, Nat.reduceSub, Nat.reduceLT, source]
 | (with_reducible first | refine CB_ofT (by assumption) fun hc => ?_ | refine CB_ofF (by assumption) fun hc => ?_ | refine CB_split (fun hc => ?_) fun hc => ?_) <;> (try simp only [hc, bs, ↓reduceIte] at h) <;> (try simp only [hc])
 | ((with_reducible first | refine leafR hQ ?_ | refine leafN hQ ?_); (try cases h); simp only [resL, oneD, Option.some.injEq, exists_eq_left', go_sem, hlt, hget, hpu, hinc, Int.reduceLE, ↓reduceIte, reduceCtorEq, Nat.reduceEqDiff, Nat.reduceLeDiff, Nat.reduceAdd, Nat.reduceMul, Nat.reduceSub, Nat.reduceLT, source]; repeat' (first | exact Ok.out | with_reducible refine And.intro ?_ ?_ | (simp; done)))
 | (cases h; replace h := hr; clear hr; (try simp only [bs, ↓reduceIte] at h))
 | (cases h; done))

def some0 : Pg := ⟨[[103]], [
  ⟨[109, 97, 105, 110], [], [[118]], [
    ⟨1, 1, [], [118], [], exNum 2, false, [], [], []⟩,
    ⟨2, 4, [], [103], [112], ex0, false, [⟨false, [], exNum 3⟩, ⟨true, [118], ex0⟩], [], []⟩,
    ⟨3, 3, [], [], [], exName [118], false, [], [], []⟩,
    ⟨4, 3, [], [], [], exName [103], false, [], [], []⟩], []⟩,
  ⟨[112], [⟨[120], false⟩, ⟨[121], true⟩], [], [
    ⟨5, 1, [], [121], [], exTwo 8 (exName [121]) (exName [120]), false, [], [], []⟩,
    ⟨6, 5, [], [], [], exTwo 12 (exName [121]) (exNum 9), false, [], [⟨7, 10, [], [101], [], ex0, false, [], [], []⟩], []⟩,
    ⟨8, 9, [], [], [], exName [121], true, [], [], []⟩], [[101]]⟩]⟩

theorem Some_s (s : St) : Fun Tryd.prog n_ref3_Some [] s (.agg (encPg some0)) s := by
  refine Fun.pure ?_ rfl (by simp [D.ok, okPg]) s
  unfold S0
  refine Fun.go has_ref3_Some rfl fun B Q hB hQ => ?_
  have hlt : 0 < 1 := Nat.zero_lt_one
  have hget : 0 < 1 := Nat.zero_lt_one
  have hpu : 0 < 1 := Nat.zero_lt_one
  have hinc : 0 < 1 := Nat.zero_lt_one
  repeat' (first
 | simp only [go_sem, hlt, hget, hpu, hinc, Int.reduceLE, ↓reduceIte, reduceCtorEq, Nat.reduceEqDiff, Nat.reduceLeDiff, Nat.reduceAdd, Nat.reduceMul, Nat.reduceSub, Nat.reduceLT, some0]
 | (with_reducible refine CU (num_s _ _) ?_)
 | (with_reducible refine CU (name_ref_s _ _) ?_)
 | (with_reducible refine CU (two_ref_s _ _ _ _) ?_)
 | (with_reducible first | refine CB_ofT (by assumption) fun hc => ?_ | refine CB_ofF (by assumption) fun hc => ?_ | refine CB_split (fun hc => ?_) fun hc => ?_) <;> (try simp only [hc, bs, ↓reduceIte] at h) <;> (try simp only [hc])
 | ((with_reducible first | refine leafR hQ ?_ | refine leafN hQ ?_); (try cases h); simp only [resL, oneD, Option.some.injEq, exists_eq_left', go_sem, hlt, hget, hpu, hinc, Int.reduceLE, ↓reduceIte, reduceCtorEq, Nat.reduceEqDiff, Nat.reduceLeDiff, Nat.reduceAdd, Nat.reduceMul, Nat.reduceSub, Nat.reduceLT, some0]; repeat' (first | exact Ok.out | with_reducible refine And.intro ?_ ?_ | (simp; done)))
 | (cases h; replace h := hr; clear hr; (try simp only [bs, ↓reduceIte] at h))
 | (cases h; done))
  repeat' (first | exact Ok.out | with_reducible refine Wk.agg ?_ | with_reducible refine Wk.rows ?_ | with_reducible refine Wk.slice ?_ | with_reducible refine WkR.cons ?_ ?_ | with_reducible refine WkL.cons ?_ ?_)

end Go.Abs

/-! Prs3 -/

namespace Go.Abs

set_option maxRecDepth 8000
set_option linter.unusedSimpArgs false
set_option linter.unusedVariables false
open Go.Proofs

end Go.Abs

/-! Prs4 -/

namespace Go.Abs

set_option maxRecDepth 8000
set_option linter.unusedSimpArgs false
set_option linter.unusedVariables false
open Go.Proofs

end Go.Abs

/-! Prs5 -/

namespace Go.Abs

set_option maxRecDepth 8000
set_option linter.unusedSimpArgs false
set_option linter.unusedVariables false
open Go.Proofs

abbrev C_rows (m n : Nat) : Prop := ∀ {nest : Int} {body : Bool} {r : Rd} {p : (List Sm × List Str) × Rd}, Rd.rows m n nest body r = some p → ∀ {s : St} {o : Nat}, s.objs[o]? = some (encRd r) →
  Fun Tryd.prog n_parse_reader_rows [.ptr o 0, .int .i64 nest, .bool body] s (.tuple [.slice .shared 13 (p.1.1.map encSm), .slice .shared 1 (p.1.2.map encStr)]) ⟨s.objs.set o (encRd p.2), s.toks⟩
abbrev C_stmt (m n : Nat) : Prop := ∀ {nest : Int} {r : Rd} {p : Sm × Rd}, Rd.stmt m n nest r = some p → ∀ {s : St} {o : Nat}, s.objs[o]? = some (encRd r) →
  Fun Tryd.prog n_parse_reader_stmt [.ptr o 0, .int .i64 nest] s (.agg (encSm p.1)) ⟨s.objs.set o (encRd p.2), s.toks⟩
abbrev C_block (m n : Nat) : Prop := ∀ {nest : Int} {r : Rd} {p : List Sm × Rd}, Rd.block m n nest r = some p → ∀ {s : St} {o : Nat}, s.objs[o]? = some (encRd r) →
  Fun Tryd.prog n_parse_reader_block [.ptr o 0, .int .i64 nest] s (.slice .shared 13 (p.1.map encSm)) ⟨s.objs.set o (encRd p.2), s.toks⟩
abbrev C_choice (m n : Nat) : Prop := ∀ {nest : Int} {r : Rd} {p : Sm × Rd}, Rd.choice m n nest r = some p → ∀ {s : St} {o : Nat}, s.objs[o]? = some (encRd r) →
  Fun Tryd.prog n_parse_reader_choice [.ptr o 0, .int .i64 nest] s (.agg (encSm p.1)) ⟨s.objs.set o (encRd p.2), s.toks⟩

end Go.Abs

/-! Prs6 -/

namespace Go.Abs

set_option maxRecDepth 8000
set_option linter.unusedSimpArgs false
set_option linter.unusedVariables false
open Go.Proofs

end Go.Abs

/-! Lex3 -/

namespace Go.Abs

set_option maxRecDepth 8000
set_option linter.unusedSimpArgs false
set_option linter.unusedVariables false
open Go.Proofs

end Go.Abs

/-! Tree1 -/

namespace Go.Abs

set_option maxRecDepth 8000
set_option linter.unusedSimpArgs false
set_option linter.unusedVariables false
open Go.Proofs

end Go.Abs

/-! Tree2 -/

namespace Go.Abs

set_option maxRecDepth 8000
set_option linter.unusedSimpArgs false
set_option linter.unusedVariables false
open Go.Proofs

abbrev C_cop (b : Bool) (N : Nat) : Prop := ∀ l : List Sm, Sm.sizes l < N → ∀ n : Nat, n + Sm.sizes l < 1073741824 → ∀ s : St,
  Fun Tryd.prog n_tree_copied [.slice .shared 13 (l.map encSm), .int .i64 (n : Int), .bool b] s (.tuple [.slice .shared 13 ((Sm.nums b n l).1.map encSm), .int .i64 ((Sm.nums b n l).2 : Int)]) s

end Go.Abs

/-! MirParse -/

namespace Go.Abs

def rd0 (l : List Tok) : Rd := ⟨l, 0, 0, 0, 0⟩

def parseM (m : Nat) (text : Str) : Option (Pg × Int × Int) :=
  if (lexAll text).2.1 != 0 then some (pg0, (lexAll text).2)
  else (Rd.program m (rd0 (lexAll text).1)).bind fun p => if p.2.code != 0 then some (pg0, p.2.code, p.2.fat) else (p.1.numberO).bind fun q => some (q, 0, 0)

def exprM (m : Nat) (text : Str) : Option (Ex × Int × Int) :=
  if (lexAll text).2.1 != 0 then some (ex0, (lexAll text).2)
  else (Rd.whole m (rd0 (lexAll text).1)).bind fun x => x.2.notEnd.bind fun b =>
    if b then (x.2.bad 3).bind fun r => if !r.good then some (ex0, r.code, r.fat) else some (x.1, 0, 0)
    else if !x.2.good then some (ex0, x.2.code, x.2.fat) else some (x.1, 0, 0)

end Go.Abs

/-! Prs7 -/

namespace Go.Abs

set_option maxRecDepth 8000
set_option linter.unusedSimpArgs false
set_option linter.unusedVariables false
open Go.Proofs

end Go.Abs

/-! Room1 -/

namespace Go.Abs
set_option linter.unusedSimpArgs false
set_option linter.unusedVariables false
open Go.Proofs

def modM (n k : Int) : Int := if Int.tmod n k < 0 then Int.tmod n k + k else Int.tmod n k
def manyM (t : Str) : Nat → Str
  | 0 => []
  | n + 1 => manyM t n ++ t
def two (i : Nat) : Str := [UInt8.ofNat (48 + i / 10), UInt8.ofNat (48 + i % 10)]
def rowM (ahead : Str) : Nat → Str
  | 0 => []
  | n + 1 => (if n = 0 then rowM ahead n else rowM ahead n ++ [44]) ++ (ahead ++ [97] ++ two n)
def procsM : Nat → Str
  | 0 => []
  | n + 1 => procsM n ++ ([112, 114, 111, 99, 32, 112] ++ two n ++ [40, 41, 123, 125])

theorem wrap_u8 {i : Nat} (h : i < 256) : IntKind.wrap .u8 (i : Int) = (i : Int) := by
  rw [IntKind.wrap_u8]; omega

end Go.Abs

/-! Binds1 -/

namespace Go.Abs

set_option maxRecDepth 8000
set_option linter.unusedSimpArgs false
set_option linter.unusedVariables false
open Go.Proofs

def encInt (n : Int) : List D := [.int .i64 n]
theorem okInt (n : Int) : D.oks 0 0 (encInt n) = true := rfl
theorem fgrInt (n m : Nat) (l : List Int) : D.fgr n m (l.map encInt) = l.map encInt := fgr_map okInt n m l
attribute [go_sem] encInt fgrInt
/-- A sign's text. -/
def signR (op : Int) : Str :=
  if op = 5 then [42] else if op = 6 then [47] else if op = 7 then [37] else if op = 8 then [43] else if op = 9 then [45] else if op = 10 then [60] else if op = 11 then [60, 61]
  else if op = 12 then [62] else if op = 13 then [62, 61] else if op = 14 then [61, 61] else if op = 15 then [33, 61] else if op = 16 then [38, 38] else [124, 124]
def bindB (op : Int) : Int := (bindsR (signR op)).1

theorem signs {op : Int} (h : (decide (5 ≤ op) && decide (op ≤ 17)) = true) : op = 5 ∨ op = 6 ∨ op = 7 ∨ op = 8 ∨ op = 9 ∨ op = 10 ∨ op = 11 ∨ op = 12 ∨ op = 13 ∨ op = 14 ∨ op = 15 ∨ op = 16 ∨ op = 17 := by
  simp only [Bool.and_eq_true, decide_eq_true_eq] at h; omega

theorem signs_s {op : Int} (h : (decide (5 ≤ op) && decide (op ≤ 17)) = true) (s : St) : Fun Tryd.prog n_ref3_sign [.int .i64 op] s (.str (signR op)) s := by
  refine Fun.pure ?_ rfl rfl s
  unfold S0
  rcases signs h with rfl | rfl | rfl | rfl | rfl | rfl | rfl | rfl | rfl | rfl | rfl | rfl | rfl
  all_goals
    refine Fun.go has_ref3_sign rfl fun B Q hB hQ => ?_
    have hlt : 0 < 1 := Nat.zero_lt_one
    have hget : 0 < 1 := Nat.zero_lt_one
    have hpu : 0 < 1 := Nat.zero_lt_one
    have hinc : 0 < 1 := Nat.zero_lt_one
    repeat' (first
 | simp only [go_sem, hlt, hget, hpu, hinc, Int.reduceLE, ↓reduceIte, reduceCtorEq, Nat.reduceEqDiff, Nat.reduceLeDiff, Nat.reduceAdd, Nat.reduceMul, Nat.reduceSub, Nat.reduceLT, signR, Int.reduceSub, Int.cast_ofNat_Int, wrap_ok, Int.reduceNeg, Int.reduceLT, Int.reduceToNat, Int.reduceEq]
 | (with_reducible first | refine CB_ofT (by assumption) fun hc => ?_ | refine CB_ofF (by assumption) fun hc => ?_ | refine CB_split (fun hc => ?_) fun hc => ?_) <;> (try simp only [hc, bs, ↓reduceIte] at h) <;> (try simp only [hc])
 | ((with_reducible first | refine leafR hQ ?_ | refine leafN hQ ?_); (try cases h); simp only [resL, oneD, Option.some.injEq, exists_eq_left', go_sem, hlt, hget, hpu, hinc, Int.reduceLE, ↓reduceIte, reduceCtorEq, Nat.reduceEqDiff, Nat.reduceLeDiff, Nat.reduceAdd, Nat.reduceMul, Nat.reduceSub, Nat.reduceLT, signR, Int.reduceSub, Int.cast_ofNat_Int, wrap_ok, Int.reduceNeg, Int.reduceLT, Int.reduceToNat, Int.reduceEq]; repeat' (first | exact Ok.out | with_reducible refine And.intro ?_ ?_ | (simp; done)))
 | (cases h; replace h := hr; clear hr; (try simp only [bs, ↓reduceIte] at h))
 | (cases h; done))

theorem bindB_pos {op : Int} (h : (decide (5 ≤ op) && decide (op ≤ 17)) = true) : 1 ≤ bindB op ∧ bindB op ≤ 6 ∧ (bindsR (signR op)).2 = op := by
  rcases signs h with rfl | rfl | rfl | rfl | rfl | rfl | rfl | rfl | rfl | rfl | rfl | rfl | rfl <;> exact ⟨by decide, by decide, by decide⟩

/-- So many names. -/
def operandsM : Nat → List Str
  | 0 => []
  | n + 1 => operandsM n ++ [[UInt8.ofNat (97 + n)]]
end Go.Abs

/-! Full3 -/

namespace Go.Abs

set_option maxRecDepth 8000
set_option linter.unusedSimpArgs false
set_option linter.unusedVariables false
open Go.Proofs

def digF : Nat → Nat → Str
  | 0, _ => []
  | f + 1, n => if n < 10 then [UInt8.ofNat (48 + n)] else digF f (n / 10) ++ [UInt8.ofNat (48 + n % 10)]
theorem digF_len : ∀ f n, (digF f n).length ≤ f
  | 0, n => Nat.le_refl _
  | f + 1, n => by simp only [digF]; split; simp; simp only [List.length_append, List.length_cons, List.length_nil]; have := digF_len f (n / 10); omega

theorem wrap_u64 {i : Nat} (h : i < 18446744073709551616) : IntKind.wrap .u64 (i : Int) = (i : Int) := by
  simp only [IntKind.wrap, IntKind.bits, IntKind.signed]; simp; omega

theorem digits_s : ∀ (f : Nat) (n : Nat), f ≤ 20 → n < 10 ^ f → n < 18446744073709551616 → 0 < f → ∀ s : St, Fun Tryd.prog n_ref3_digits [.int .u64 (n : Int)] s (.str (digF f n)) s := by
  intro f
  induction f with
  | zero => intro n _ _ _ h; omega
  | succ f ih =>
    intro n hf hn h64 _ s
    refine Fun.pure ?_ rfl rfl s
    unfold S0
    by_cases c : n < 10
    · have c1 : decide ((n : Int) < 10) = true := by simp; omega
      have e : digF (f + 1) n = [UInt8.ofNat (48 + n)] := by simp only [digF, if_pos c]
      have w2 : IntKind.wrap .u64 (48 + (n : Int)) = ((48 + n : Nat) : Int) := by
        have := wrap_u64 (i := 48 + n) (by omega)
        rw [← this]; congr 1
      have w4 := wrap_u8 (i := 48 + n) (by omega)
      rw [e]
      refine Fun.go has_ref3_digits rfl fun B Q hB hQ => ?_
      have hlt : 0 < 1 := Nat.zero_lt_one
      have hget : 0 < 1 := Nat.zero_lt_one
      have hpu : 0 < 1 := Nat.zero_lt_one
      have hinc : 0 < 1 := Nat.zero_lt_one
      repeat' (first
 | simp only [go_sem, hlt, hget, hpu, hinc, Int.reduceLE, ↓reduceIte, reduceCtorEq, Nat.reduceEqDiff, Nat.reduceLeDiff, Nat.reduceAdd, Nat.reduceMul, Nat.reduceSub, Nat.reduceLT, c1, w2, w4, bytesOfRows, byteOfRow]
 | (with_reducible first | refine CB_ofT (by assumption) fun hc => ?_ | refine CB_ofF (by assumption) fun hc => ?_ | refine CB_split (fun hc => ?_) fun hc => ?_) <;> (try simp only [hc, bs, ↓reduceIte] at h) <;> (try simp only [hc])
 | ((with_reducible first | refine leafR hQ ?_ | refine leafN hQ ?_); (try cases h); simp only [resL, oneD, Option.some.injEq, exists_eq_left', go_sem, hlt, hget, hpu, hinc, Int.reduceLE, ↓reduceIte, reduceCtorEq, Nat.reduceEqDiff, Nat.reduceLeDiff, Nat.reduceAdd, Nat.reduceMul, Nat.reduceSub, Nat.reduceLT, c1, w2, w4, bytesOfRows, byteOfRow]; repeat' (first | exact Ok.out | with_reducible refine And.intro ?_ ?_ | (simp; done)))
 | (cases h; replace h := hr; clear hr; (try simp only [bs, ↓reduceIte] at h))
 | (cases h; done))
    · have c1 : decide ((n : Int) < 10) = false := by simp; omega
      have e : digF (f + 1) n = digF f (n / 10) ++ [UInt8.ofNat (48 + n % 10)] := by simp only [digF, if_neg c]
      have d1 : Int.tdiv (n : Int) 10 = ((n / 10 : Nat) : Int) := by rw [Int.ofNat_tdiv]; rfl
      have d2 : Int.tmod (n : Int) 10 = ((n % 10 : Nat) : Int) := by rw [Int.ofNat_tmod]; rfl
      have k10 : ((10 : Int) = 0) = False := by simp
      have w1 := wrap_u64 (i := n / 10) (by omega)
      have w5 := wrap_u64 (i := n % 10) (by omega)
      have w2 : IntKind.wrap .u64 (48 + ((n % 10 : Nat) : Int)) = ((48 + n % 10 : Nat) : Int) := by
        have := wrap_u64 (i := 48 + n % 10) (by omega)
        rw [← this]; congr 1
      have w4 := wrap_u8 (i := 48 + n % 10) (by omega)
      have hf0 : 0 < f := by
        cases f with
        | zero => simp at hn; omega
        | succ f => omega
      have hr := ih (n / 10) (by omega) (by rw [Nat.pow_succ] at hn; omega) (by omega) hf0
      have hl := digF_len f (n / 10)
      have m1 : (digF f (n / 10)).length + 1 ≤ maxStr := by unfold maxStr; omega
      rw [e]
      refine Fun.go has_ref3_digits rfl fun B Q hB hQ => ?_
      have hlt : 0 < 1 := Nat.zero_lt_one
      have hget : 0 < 1 := Nat.zero_lt_one
      have hpu : 0 < 1 := Nat.zero_lt_one
      have hinc : 0 < 1 := Nat.zero_lt_one
      repeat' (first
 | simp only [go_sem, hlt, hget, hpu, hinc, Int.reduceLE, ↓reduceIte, reduceCtorEq, Nat.reduceEqDiff, Nat.reduceLeDiff, Nat.reduceAdd, Nat.reduceMul, Nat.reduceSub, Nat.reduceLT, c1, d1, d2, k10, w1, w2, w4, w5, m1, bytesOfRows, byteOfRow]
 | (with_reducible refine CU (hr _) ?_)
 | (with_reducible first | refine CB_ofT (by assumption) fun hc => ?_ | refine CB_ofF (by assumption) fun hc => ?_ | refine CB_split (fun hc => ?_) fun hc => ?_) <;> (try simp only [hc, bs, ↓reduceIte] at h) <;> (try simp only [hc])
 | ((with_reducible first | refine leafR hQ ?_ | refine leafN hQ ?_); (try cases h); simp only [resL, oneD, Option.some.injEq, exists_eq_left', go_sem, hlt, hget, hpu, hinc, Int.reduceLE, ↓reduceIte, reduceCtorEq, Nat.reduceEqDiff, Nat.reduceLeDiff, Nat.reduceAdd, Nat.reduceMul, Nat.reduceSub, Nat.reduceLT, c1, d1, d2, k10, w1, w2, w4, w5, m1, bytesOfRows, byteOfRow]; repeat' (first | exact Ok.out | with_reducible refine And.intro ?_ ?_ | (simp; done)))
 | (cases h; replace h := hr; clear hr; (try simp only [bs, ↓reduceIte] at h))
 | (cases h; done))

theorem Dec_s {n : Int} (h0 : 0 ≤ n) (h1 : n ≤ 9223372036854775807) (s : St) : Fun Tryd.prog n_ref3_Dec [.int .i64 n] s (.str (digF 20 n.toNat)) s := by
  refine Fun.pure ?_ rfl rfl s
  obtain ⟨k, hk⟩ : ∃ k : Nat, n = (k : Int) := ⟨n.toNat, by omega⟩
  subst hk
  rw [Int.toNat_natCast]
  have c1 : decide ((k : Int) < 0) = false := by simp
  have w1 := wrap_u64 (i := k) (by omega)
  have hr := digits_s 20 k (by omega) (by omega) (by omega) (by omega)
  unfold S0
  refine Fun.go has_ref3_Dec rfl fun B Q hB hQ => ?_
  have hlt : 0 < 1 := Nat.zero_lt_one
  have hget : 0 < 1 := Nat.zero_lt_one
  have hpu : 0 < 1 := Nat.zero_lt_one
  have hinc : 0 < 1 := Nat.zero_lt_one
  repeat' (first
 | simp only [go_sem, hlt, hget, hpu, hinc, Int.reduceLE, ↓reduceIte, reduceCtorEq, Nat.reduceEqDiff, Nat.reduceLeDiff, Nat.reduceAdd, Nat.reduceMul, Nat.reduceSub, Nat.reduceLT, c1, w1]
 | (with_reducible refine CU (hr _) ?_)
 | (with_reducible first | refine CB_ofT (by assumption) fun hc => ?_ | refine CB_ofF (by assumption) fun hc => ?_ | refine CB_split (fun hc => ?_) fun hc => ?_) <;> (try simp only [hc, bs, ↓reduceIte] at h) <;> (try simp only [hc])
 | ((with_reducible first | refine leafR hQ ?_ | refine leafN hQ ?_); (try cases h); simp only [resL, oneD, Option.some.injEq, exists_eq_left', go_sem, hlt, hget, hpu, hinc, Int.reduceLE, ↓reduceIte, reduceCtorEq, Nat.reduceEqDiff, Nat.reduceLeDiff, Nat.reduceAdd, Nat.reduceMul, Nat.reduceSub, Nat.reduceLT, c1, w1]; repeat' (first | exact Ok.out | with_reducible refine And.intro ?_ ?_ | (simp; done)))
 | (cases h; replace h := hr; clear hr; (try simp only [bs, ↓reduceIte] at h))
 | (cases h; done))

end Go.Abs

/-! Rng -/

namespace Go.Abs

mutual
/-- Its numbers are numbers. -/
def Ex.rng : Ex → Prop
  | ⟨_, n, _, kids⟩ => n ≤ 9223372036854775807 ∧ Ex.rngs kids
def Ex.rngs : List Ex → Prop
  | [] => True
  | x :: l => x.rng ∧ Ex.rngs l
end

end Go.Abs

/-! RefMay2 -/

namespace Go.Abs

set_option maxRecDepth 8000
set_option linter.unusedSimpArgs false
set_option linter.unusedVariables false
open Go.Proofs

/-- Its texts are texts. -/
structure Sm.Fine (s : Sm) : Prop where
  lab : ∀ t ∈ s.labels, t.length < 4611686018427387904
  labl : s.labels.length < 4611686018427387904
  name : s.name.length < 4611686018427387904
  proc : s.proc.length < 4611686018427387904
  x : s.x.size < 4611686018427387904
  xt : s.x.texts
  argl : s.args.length < 4611686018427387904
  arg : ∀ a ∈ s.args, a.x.size < 4611686018427387904 ∧ a.x.texts ∧ a.name.length < 4611686018427387904


section
variable {v : Sm} {B : Base} {Q : Exit → Tm → St → Prop} {p : Bool}

end

theorem Fun.goS {P : Program} {f : FuncId} {nt : Nat} {res : List (Nat × Option (Bool × Nat))} {body : AC} {args : List D} {s : St} {d : D} {s' : St} (h0 : Has P f nt res body) (hl : Nat.ble args.length nt = true)
    (h : ∀ (B : Base) (Q : Exit → Tm → St → Prop), B.s = s → retF s.objs.length s.toks.length res d s' = Q → Sem P B nt body Q (argTm 0 args) s) : Fun P f args s d s' := by
  obtain ⟨fn, hf, hc⟩ := h0
  exact Fun.intro ⟨fn, hf, hc⟩ (Nat.le_of_ble_eq_true hl) fun B hB => h B _ hB rfl

end Go.Abs

/-! RefMay3 -/

namespace Go.Abs

set_option maxRecDepth 8000
set_option linter.unusedSimpArgs false
set_option linter.unusedVariables false
open Go.Proofs

def encIt (i : It) : List D := [.int .i64 i.s.id, .int .i64 i.s.kind, .slice .shared 1 (i.s.labels.map encStr), .str i.s.name, .str i.s.proc,
      .int .i64 i.s.x.op, .int .i64 i.s.x.n, .str i.s.x.name, .slice .shared 4 (i.s.x.kids.map encEx), .bool i.s.has, .slice .shared 6 (i.s.args.map encAr), .slice .shared 13 (i.s.thn.map encSm), .slice .shared 13 (i.s.els.map encSm), .int .i64 i.deep, .int .i64 i.inn, .bool i.els]
theorem okIt (i : It) : D.oks 0 0 (encIt i) = true := by simp [encIt, D.oks, D.ok, Tag.ok, okrStr, okrEx, okrAr, okrSm]
theorem fgrIt (n m : Nat) (l : List It) : D.fgr n m (l.map encIt) = l.map encIt := fgr_map okIt n m l
theorem fgsIt (n m : Nat) (i : It) : D.fgs n m (encIt i) = encIt i := fgs_ok n m _ (okIt i)
theorem lenIt (x : It) : (encIt x).length = 16 := nd rfl
theorem takeIt (x : It) : List.take 13 (encIt x) = encSm x.s := by simp only [encIt, encSm_eq]; rfl
theorem cellIt_0 (x : It) : (encIt x)[0]? = some (.int .i64 x.s.id) := nd rfl
theorem cellIt_13 (x : It) : (encIt x)[13]? = some (.int .i64 x.deep) := nd rfl
attribute [go_sem] fgrIt fgsIt lenIt takeIt cellIt_0 cellIt_13

abbrev C_flat (N : Nat) : Prop := ∀ (l : List Sm) (deep inn : Int) (els : Bool) (out : List It), Sm.sizes l < N → 0 ≤ deep → deep ≤ 13 → out.length ≤ 201 → ∀ {s : St} {t : Nat}, s.toks[t]? = some (some out.length) →
  Fun Tryd.prog n_ref3_flat [.slice .shared 13 (l.map encSm), .int .i64 deep, .int .i64 inn, .bool els, .slice (.tok t) 16 (out.map encIt)] s (.slice (.tok t) 16 ((flatL deep inn els out l).map encIt)) ⟨s.objs, s.toks.set t (some (flatL deep inn els out l).length)⟩

end Go.Abs

/-! RefMay4 -/

namespace Go.Abs

set_option maxRecDepth 8000
set_option linter.unusedSimpArgs false
set_option linter.unusedVariables false
open Go.Proofs

/-- What a program's texts and lists are. -/
structure Pg.Fine (p : Pg) : Prop where
  sz : p.size < 4611686018427387000
  glob : ∀ t ∈ p.globals, t.length < 4611686018427387904
  heads : ∀ f ∈ p.procs, f.name.length < 4611686018427387904 ∧ (∀ t ∈ f.vars, t.length < 4611686018427387904) ∧ (∀ t ∈ f.fin, t.length < 4611686018427387904) ∧ ∀ a ∈ f.params, a.name.length < 4611686018427387904
  items : ∀ i ∈ p.all, i.s.Fine

end Go.Abs

/-! MayFine -/

namespace Go.Abs
set_option linter.unusedSimpArgs false
set_option linter.unusedVariables false

theorem isName_len {s : Str} (h : isName s = true) : s.length ≤ 8 := by
  cases s with
  | nil => simp
  | cons c r =>
    simp only [isName] at h
    split at h
    · cases h
    · rename_i hc
      simp only [Bool.or_eq_true, decide_eq_true_eq, not_or] at hc
      simp only [List.length_cons]; omega
theorem mayNames_mem {t : Str} : ∀ {l : List Str}, mayNames l = true → t ∈ l → isName t = true
  | s :: l, h, m => by
    simp only [mayNames] at h
    cases hs : isName s
    · simp [hs] at h
    · simp [hs] at h
      rcases List.mem_cons.1 m with rfl | m
      · exact hs
      · exact mayNames_mem h m
theorem mays_mem {a : Ar} : ∀ {l : List Ar}, Ar.mays l = true → a ∈ l → a.may = true
  | s :: l, h, m => by
    simp only [Ar.mays] at h
    cases hs : s.may
    · simp [hs] at h
    · simp [hs] at h
      rcases List.mem_cons.1 m with rfl | m
      · exact hs
      · exact mays_mem h m
theorem pmays_mem {a : Pm} : ∀ {l : List Pm}, Pm.mays l = true → a ∈ l → isName a.name = true
  | s :: l, h, m => by
    simp only [Pm.mays] at h
    cases hs : isName s.name
    · simp [hs] at h
    · simp [hs] at h
      rcases List.mem_cons.1 m with rfl | m
      · exact hs
      · exact pmays_mem h m
mutual
theorem form_texts : ∀ x : Ex, x.form = true → x.texts
  | ⟨op, n, name, kids⟩, h => by
    simp only [Ex.form] at h
    split at h
    · cases h
    · rename_i hc
      refine ⟨?_, forms_texts kids h⟩
      simp only [Bool.or_eq_true, Bool.and_eq_true, Bool.not_eq_true', not_or, not_and, Bool.not_eq_false] at hc
      cases hn : (name == [])
      · have := isName_len (hc.2 hn); omega
      · simp at hn; subst hn; simp
theorem forms_texts : ∀ l : List Ex, Ex.forms l = true → Ex.textss l
  | [], _ => trivial
  | x :: l, h => by
    simp only [Ex.forms] at h
    cases hx : x.form
    · simp [hx] at h
    · simp [hx] at h
      exact ⟨form_texts x hx, forms_texts l h⟩
end
theorem may_texts {x : Ex} (h : x.may = true) : x.texts := by
  unfold Ex.may at h
  simp only [Bool.and_eq_true] at h
  exact form_texts x h.2
theorem none_texts {x : Ex} (h : x.none = true) : x.texts := by
  obtain ⟨op, n, name, kids⟩ := x
  simp [Ex.none] at h
  obtain ⟨⟨_, h1⟩, h2⟩ := h
  subst h1 h2
  exact ⟨by simp, trivial⟩

mutual
theorem flatS_mem {deep inn : Int} {els : Bool} {out : List It} {i : It} : ∀ s : Sm, i ∈ flatS deep inn els out s → i ∈ out ∨ i.s.size ≤ s.size
  | ⟨id, kind, labels, name, proc, x, has, args, thn, e⟩, h => by
    simp only [flatS] at h
    have key : i ∈ out ++ [(⟨⟨id, kind, labels, name, proc, x, has, args, thn, e⟩, deep, inn, els⟩ : It)] → i ∈ out ∨ i.s.size ≤ (⟨id, kind, labels, name, proc, x, has, args, thn, e⟩ : Sm).size := by
      intro h
      rcases List.mem_append.1 h with h | h
      · exact .inl h
      · simp at h; subst h; exact .inr (Nat.le_refl _)
    split at h
    · rcases flatL_mem e h with h | h
      · rcases flatL_mem thn h with h | h
        · exact key h
        · right; simp only [Sm.size]; omega
      · right; simp only [Sm.size]; omega
    · exact key h
theorem flatL_mem {deep inn : Int} {els : Bool} {out : List It} {i : It} : ∀ l : List Sm, i ∈ flatL deep inn els out l → i ∈ out ∨ i.s.size < Sm.sizes l
  | [], h => by simp only [flatL] at h; exact .inl h
  | s :: l, h => by
    simp only [flatL] at h
    split at h
    · rcases flatL_mem l h with h | h
      · rcases flatS_mem s h with h | h
        · exact .inl h
        · right; simp only [Sm.sizes]; omega
      · right; simp only [Sm.sizes]; omega
    · exact .inl h
end
theorem allM_mem {i : It} : ∀ (l : List Pc) (out : List It), i ∈ allM out l → i ∈ out ∨ i.s.size < Pc.sizes l
  | [], out, h => by simp only [allM] at h; exact .inl h
  | f :: l, out, h => by
    have key : i ∈ out ++ f.flat → i ∈ out ∨ i.s.size < Pc.sizes (f :: l) := by
      intro h
      rcases List.mem_append.1 h with h | h
      · exact .inl h
      · rcases flatL_mem _ h with h | h
        · simp at h
        · right; simp only [Pc.sizes, Pc.size]; omega
    simp only [allM] at h
    split at h
    · exact key h
    · rcases allM_mem l _ h with h | h
      · exact key h
      · right; simp only [Pc.sizes]; omega

theorem itmays_mem {i : It} : ∀ (l : List It) (n : Nat), It.mays n l = true → i ∈ l → i.s.one = true
  | s :: l, n, h, m => by
    simp only [It.mays] at h
    split at h
    · cases h
    · rename_i hc
      simp only [Bool.or_eq_true, Bool.not_eq_true', not_or, Bool.not_eq_false] at hc
      rcases List.mem_cons.1 m with rfl | m
      · exact hc.2
      · exact itmays_mem l (n + 1) h m

theorem one_fine {s : Sm} (h : s.one = true) (hs : s.size < 4611686018427387000) : s.Fine := by
  unfold Sm.one at h
  split at h
  · cases h
  split at h
  · cases h
  split at h
  · cases h
  split at h
  · cases h
  rename_i c1 c2 c3 c4
  simp only [Bool.or_eq_true, Bool.and_eq_true, Bool.not_eq_true', not_or, not_and, Bool.not_eq_false, decide_eq_true_eq] at c1 c2 c3 c4
  obtain ⟨⟨⟨⟨⟨_, _⟩, clab⟩, cx⟩, cn⟩, _⟩ := c1
  obtain ⟨c21, c22⟩ := c2
  obtain ⟨⟨c31, c32⟩, c33⟩ := c3
  have nm : ∀ {t : Str}, isName t = true → t.length < 4611686018427387904 := fun h => by have := isName_len h; omega
  have hsz : 1 + s.labels.length + s.x.size + Ar.sizes s.args ≤ s.size := by cases s; simp only [Sm.size]; omega
  have hal := Ar.sizes_len s.args
  refine ⟨fun t ht => nm (mayNames_mem clab ht), by omega, ?_, ?_, by omega, ?_, by omega, fun a ha => ?_⟩
  · cases hn : s.hasName
    · cases he : (s.name == [])
      · exact nm (c22 ⟨hn, he⟩).2
      · simp at he; rw [he]; simp
    · exact nm (c21 hn)
  · cases hcl : s.isCall
    · rw [hcl] at c31
      have : s.proc = [] := by simpa using c31
      rw [this]; simp
    · exact nm (c32 hcl)
  · cases hx : s.hasX
    · exact none_texts (cn hx)
    · exact may_texts (cx hx)
  · have hm := mays_mem c4 ha
    have hsa := Ar.sizes_mem ha
    unfold Ar.may at hm
    split at hm
    · simp only [Bool.and_eq_true] at hm
      exact ⟨by omega, none_texts hm.2, nm hm.1⟩
    · simp only [Bool.and_eq_true, beq_iff_eq] at hm
      exact ⟨by omega, may_texts hm.2, by rw [hm.1]; simp⟩

theorem heads_mem {f : Pc} : ∀ {l : List Pc}, Pc.heads l = true → f ∈ l → isName f.name = true ∧ mayNames f.vars = true ∧ mayNames f.fin = true ∧ Pm.mays f.params = true
  | s :: l, h, m => by
    simp only [Pc.heads] at h
    split at h
    · cases h
    split at h
    · cases h
    rename_i c1 c2
    simp only [Bool.or_eq_true, Bool.not_eq_true', not_or, Bool.not_eq_false] at c1 c2
    rcases List.mem_cons.1 m with rfl | m
    · exact ⟨c1.1.1.1.1, c1.1.2, c1.2, c2⟩
    · exact heads_mem h m

theorem may_fine {p : Pg} (h : p.may = true) (hs : p.size < 4611686018427387000) : p.Fine := by
  unfold Pg.may at h
  split at h
  · cases h
  split at h
  · cases h
  split at h
  · cases h
  rename_i c1 c2 c3
  simp only [Bool.or_eq_true, Bool.not_eq_true', not_or, Bool.not_eq_false] at c1 c2
  have nm : ∀ {t : Str}, isName t = true → t.length < 4611686018427387904 := fun h => by have := isName_len h; omega
  refine ⟨hs, fun t ht => nm (mayNames_mem c1.2 ht), fun f hf => ?_, fun i hi => ?_⟩
  · obtain ⟨a, b, c, d⟩ := heads_mem c2 hf
    exact ⟨nm a, fun t ht => nm (mayNames_mem b ht), fun t ht => nm (mayNames_mem c ht), fun t ht => nm (pmays_mem d ht)⟩
  · refine one_fine (itmays_mem _ _ h hi) ?_
    rcases allM_mem _ _ hi with h1 | h1
    · simp at h1
    · simp only [Pg.size] at hs; omega

end Go.Abs

/-! Full4 -/

namespace Go.Abs

set_option maxRecDepth 8000
set_option linter.unusedSimpArgs false
set_option linter.unusedVariables false
open Go.Proofs

theorem signR_len' {op : Int} (h : (decide (5 ≤ op) && decide (op ≤ 17)) = true) : (signR op).length ≤ 2 := by
  rcases signs h with rfl | rfl | rfl | rfl | rfl | rfl | rfl | rfl | rfl | rfl | rfl | rfl | rfl <;> decide

/-- What an expression is that may be. -/
inductive FormI : Ex → Prop
  | num (n : Int) (h0 : 0 ≤ n) (h1 : n ≤ 9223372036854775807) : FormI ⟨1, n, [], []⟩
  | name (t : Str) (h : isName t = true) : FormI ⟨2, 0, t, []⟩
  | neg (y : Ex) (h : FormI y) : FormI ⟨3, 0, [], [y]⟩
  | no (y : Ex) (h : FormI y) : FormI ⟨4, 0, [], [y]⟩
  | two (op : Int) (a b : Ex) (ho : (decide (5 ≤ op) && decide (op ≤ 17)) = true) (ha : FormI a) (hb : FormI b) : FormI ⟨op, 0, [], [a, b]⟩

theorem FormI.of : ∀ (m : Nat) (x : Ex), x.size ≤ m → x.form = true → x.rng → FormI x := by
  intro m
  induction m with
  | zero => rintro ⟨op, v, name, kids⟩ h; simp only [Ex.size] at h; omega
  | succ m ih =>
    rintro ⟨op, n, name, kids⟩ h hf hr
    simp only [Ex.size] at h
    simp only [Ex.form] at hf
    split at hf
    · cases hf
    · rename_i hc
      simp only [Bool.or_eq_true, Bool.and_eq_true, not_or, not_and, Bool.not_eq_true, bne_iff_ne, ne_eq, Decidable.not_not, decide_eq_true_eq, Bool.not_eq_true', bne_eq_false_iff_eq, decide_eq_false_iff_not, Bool.not_eq_false, Bool.not_eq_false', beq_iff_eq] at hc
      obtain ⟨⟨⟨⟨ha, hz⟩, hn⟩, hnm⟩, hi⟩ := hc
      have hnil : op ≠ 2 → name = [] := fun h2 => by
        have : (op == 2) = false := beq_eq_false_iff_ne.2 h2
        rw [this] at hnm
        simpa using hnm.symm
      by_cases o1 : op = 1
      · subst o1
        have : kids = [] := List.eq_nil_of_length_eq_zero (by simp [arityI] at ha; omega)
        subst this
        rw [hnil (by omega)]
        exact .num n (by omega) hr.1
      · have hz := hz o1
        subst hz
        by_cases o2 : op = 2
        · subst o2
          have : kids = [] := List.eq_nil_of_length_eq_zero (by simp [arityI] at ha; omega)
          subst this
          exact .name name (hi (by simpa using hnm.symm))
        · have hnm := hnil o2
          subst hnm
          by_cases o3 : op = 3
          · subst o3
            have : kids.length = 1 := by simp [arityI] at ha; omega
            obtain ⟨y, rfl⟩ := List.length_eq_one_iff.1 this
            simp only [Ex.forms, Ex.sizes] at hf h
            exact .neg y (ih y (by omega) (by simpa using hf) hr.2.1)
          · by_cases o4 : op = 4
            · subst o4
              have : kids.length = 1 := by simp [arityI] at ha; omega
              obtain ⟨y, rfl⟩ := List.length_eq_one_iff.1 this
              simp only [Ex.forms, Ex.sizes] at hf h
              exact .no y (ih y (by omega) (by simpa using hf) hr.2.1)
            · by_cases o5 : 5 ≤ op ∧ op ≤ 17
              · have : kids.length = 2 := by simp [arityI, o1, o2, o3, o4, o5.1, o5.2] at ha; omega
                obtain ⟨y, z, rfl⟩ : ∃ y z, kids = [y, z] := by
                  match kids, this with
                  | [y, z], _ => exact ⟨y, z, rfl⟩
                simp only [Ex.forms, Ex.sizes] at hf h
                have hf : y.form = true ∧ z.form = true := by
                  cases hy : y.form <;> cases hz : z.form <;> simp [hy, hz] at hf ⊢
                exact .two op y z (by simp only [Bool.and_eq_true, decide_eq_true_eq]; exact o5) (ih y (by omega) hf.1 hr.2.1) (ih z (by omega) hf.2 hr.2.2.1)
              · exfalso
                have : arityI op = -1 := by
                  unfold arityI
                  have c : (decide (op ≥ 5) && decide (op ≤ 17)) = false := by simp; omega
                  simp [o1, o2, o3, o4, c]
                omega

mutual
/-- The text. -/
def fullE : Ex → Str
  | ⟨op, n, name, kids⟩ => fullK op n name kids
def fullK (op n : Int) (name : Str) : List Ex → Str
  | [] => if op = 2 then name else digF 20 n.toNat
  | [a] => if op = 3 then [40, 45] ++ fullE a ++ [41] else [40, 33] ++ fullE a ++ [41]
  | a :: b :: _ => [40] ++ fullE a ++ signR op ++ fullE b ++ [41]
end

theorem expr_num {n : Int} (h0 : 0 ≤ n) (h1 : n ≤ 9223372036854775807) (s : St) : Fun Tryd.prog n_ref3_expr [.agg (encEx ⟨1, n, [], []⟩)] s (.str (digF 20 n.toNat)) s := by
  refine Fun.pure ?_ (by simp [D.oks, D.ok, okEx]) rfl s
  have hd := fun s => Dec_s h0 h1 s
  have a1 : arityI 1 = 0 := rfl
  have b0 : ((0 : Int) == 0) = true := rfl
  have b2 : ((1 : Int) == 2) = false := rfl
  unfold S0
  refine Fun.go has_ref3_expr rfl fun B Q hB hQ => ?_
  have hlt : 0 < 1 := Nat.zero_lt_one
  have hget : 0 < 1 := Nat.zero_lt_one
  have hpu : 0 < 1 := Nat.zero_lt_one
  have hinc : 0 < 1 := Nat.zero_lt_one
  repeat' (first
 | simp only [go_sem, hlt, hget, hpu, hinc, Int.reduceLE, ↓reduceIte, reduceCtorEq, Nat.reduceEqDiff, Nat.reduceLeDiff, Nat.reduceAdd, Nat.reduceMul, Nat.reduceSub, Nat.reduceLT, a1, b0, b2]
 | (with_reducible refine CU (Arity_s _ _) ?_)
 | (with_reducible refine CU (hd _) ?_)
 | (with_reducible first | refine CB_ofT (by assumption) fun hc => ?_ | refine CB_ofF (by assumption) fun hc => ?_ | refine CB_split (fun hc => ?_) fun hc => ?_) <;> (try simp only [hc, bs, ↓reduceIte] at h) <;> (try simp only [hc])
 | ((with_reducible first | refine leafR hQ ?_ | refine leafN hQ ?_); (try cases h); simp only [resL, oneD, Option.some.injEq, exists_eq_left', go_sem, hlt, hget, hpu, hinc, Int.reduceLE, ↓reduceIte, reduceCtorEq, Nat.reduceEqDiff, Nat.reduceLeDiff, Nat.reduceAdd, Nat.reduceMul, Nat.reduceSub, Nat.reduceLT, a1, b0, b2]; repeat' (first | exact Ok.out | with_reducible refine And.intro ?_ ?_ | (simp; done)))
 | (cases h; replace h := hr; clear hr; (try simp only [bs, ↓reduceIte] at h))
 | (cases h; done))
theorem expr_name (t : Str) (s : St) : Fun Tryd.prog n_ref3_expr [.agg (encEx ⟨2, 0, t, []⟩)] s (.str t) s := by
  refine Fun.pure ?_ (by simp [D.oks, D.ok, okEx]) rfl s
  have a1 : arityI 2 = 0 := rfl
  have b0 : ((0 : Int) == 0) = true := rfl
  have b2 : ((2 : Int) == 2) = true := rfl
  unfold S0
  refine Fun.go has_ref3_expr rfl fun B Q hB hQ => ?_
  have hlt : 0 < 1 := Nat.zero_lt_one
  have hget : 0 < 1 := Nat.zero_lt_one
  have hpu : 0 < 1 := Nat.zero_lt_one
  have hinc : 0 < 1 := Nat.zero_lt_one
  repeat' (first
 | simp only [go_sem, hlt, hget, hpu, hinc, Int.reduceLE, ↓reduceIte, reduceCtorEq, Nat.reduceEqDiff, Nat.reduceLeDiff, Nat.reduceAdd, Nat.reduceMul, Nat.reduceSub, Nat.reduceLT, a1, b0, b2]
 | (with_reducible refine CU (Arity_s _ _) ?_)
 | (with_reducible first | refine CB_ofT (by assumption) fun hc => ?_ | refine CB_ofF (by assumption) fun hc => ?_ | refine CB_split (fun hc => ?_) fun hc => ?_) <;> (try simp only [hc, bs, ↓reduceIte] at h) <;> (try simp only [hc])
 | ((with_reducible first | refine leafR hQ ?_ | refine leafN hQ ?_); (try cases h); simp only [resL, oneD, Option.some.injEq, exists_eq_left', go_sem, hlt, hget, hpu, hinc, Int.reduceLE, ↓reduceIte, reduceCtorEq, Nat.reduceEqDiff, Nat.reduceLeDiff, Nat.reduceAdd, Nat.reduceMul, Nat.reduceSub, Nat.reduceLT, a1, b0, b2]; repeat' (first | exact Ok.out | with_reducible refine And.intro ?_ ?_ | (simp; done)))
 | (cases h; replace h := hr; clear hr; (try simp only [bs, ↓reduceIte] at h))
 | (cases h; done))

end Go.Abs

/-! Shelf -/

namespace Go.Proofs
open Go.Shelf
def Tryd.lays156_ren : Go.Shelf.Ren := ⟨fun | 156 => 35 | 165 => 70 | 166 => 69 | 169 => 39 | 240 => 104 | 241 => 105 | 276 => 122 | 277 => 123 | n => n, fun | 31 => 22 | 9 => 9 | 3 => 3 | 4 => 4 | 0 => 0 | 20 => 20 | 72 => 66 | 76 => 108 | 70 => 63 | 37 => 64 | 75 => 106 | 127 => 112 | 164 => 148 | 5 => 5 | 80 => 54 | n => n, fun | n => n⟩
theorem Tryd.lays156 : Go.Proofs.Lays.n156 Tryd.prog Tryd.lays156_ren := {
  mixed := by kernel_rfl
  f156 := Tryd.func35.trans (congrArg some (by kernel_rfl))
  f165 := Tryd.func70.trans (congrArg some (by kernel_rfl))
  f166 := Tryd.func69.trans (congrArg some (by kernel_rfl))
  f169 := Tryd.func39.trans (congrArg some (by kernel_rfl))
  f240 := Tryd.func104.trans (congrArg some (by kernel_rfl))
  f241 := Tryd.func105.trans (congrArg some (by kernel_rfl))
  f276 := Tryd.func122.trans (congrArg some (by kernel_rfl))
  f277 := Tryd.func123.trans (congrArg some (by kernel_rfl))
  t0 := Tryd.underlying0
  a0 := Tryd.isAgg0
  z0 := Tryd.sizeOf0
  v0 := Tryd.zeroValue0
  t3 := Tryd.underlying3
  a3 := Tryd.isAgg3
  z3 := Tryd.sizeOf3
  v3 := Tryd.zeroValue3
  t4 := Tryd.underlying4
  a4 := Tryd.isAgg4
  z4 := Tryd.sizeOf4
  v4 := Tryd.zeroValue4
  t9 := Tryd.underlying9
  a9 := Tryd.isAgg9
  z9 := Tryd.sizeOf9
  v9 := Tryd.zeroValue9
  t20 := Tryd.underlying20
  a20 := Tryd.isAgg20
  z20 := Tryd.sizeOf20
  v20 := Tryd.zeroValue20
  t31 := Tryd.underlying22
  a31 := Tryd.isAgg22
  z31 := Tryd.sizeOf22
  v31 := Tryd.zeroValue22
  t37 := Tryd.underlying64
  a37 := Tryd.isAgg64
  z37 := Tryd.sizeOf64
  v37 := Tryd.zeroValue64
  t70 := Tryd.underlying63
  a70 := Tryd.isAgg63
  z70 := Tryd.sizeOf63
  v70 := Tryd.zeroValue63
  t72 := Tryd.underlying66
  a72 := Tryd.isAgg66
  z72 := Tryd.sizeOf66
  v72 := Tryd.zeroValue66
  t75 := Tryd.underlying106
  a75 := Tryd.isAgg106
  z75 := Tryd.sizeOf106
  v75 := Tryd.zeroValue106
  t76 := Tryd.underlying108
  a76 := Tryd.isAgg108
  z76 := Tryd.sizeOf108
  v76 := Tryd.zeroValue108
  t127 := Tryd.underlying112
  a127 := Tryd.isAgg112
  z127 := Tryd.sizeOf112
  v127 := Tryd.zeroValue112
  t164 := Tryd.underlying148
  a164 := Tryd.isAgg148
  z164 := Tryd.sizeOf148
  v164 := Tryd.zeroValue148 }
theorem Tryd.Builder_Extra_156 : Builder.Extra Tryd.prog Tryd.lays156_ren := {
  sizeBuilder := by kernel_rfl
  liesBuilder := by kernel_rfl
  t5 := Tryd.underlying5
  a5 := Tryd.isAgg5
  z5 := Tryd.sizeOf5
  v5 := Tryd.zeroValue5
  infoByte := by kernel_rfl
  cellsByte := by kernel_rfl
  sizeByte := by kernel_rfl
  neB5 := by decide }
open Go.RowKit in
theorem Tryd.strings_Join_none (a : Option Addr) (c : Nat) (sep : ByteArray) (w : World) :
    Calls Tryd.prog 35 #[.slice a 0 c, .string sep] w fun e w' => e = .returned (.string ⟨#[]⟩) ∧ w' = w := Any.strings_Join_none Tryd.lays156 Tryd.Builder_Extra_156 a c sep w
open Go.RowKit in
theorem Tryd.strings_Join (bk o c : Nat) (xs : List ByteArray) (sep : ByteArray) (w : World) (hcells : ∀ (j : Nat) x, xs[j]? = some x → w.cell? ⟨bk, o + j, none⟩ = some (.string x)) (hbk : bk < w.heap.size) (hN : xs.length ≤ 140737488355328) (hcap : xs.length ≤ c) (hlen : (Lib.join (xs.map (·.data.toList)) sep.data.toList).length ≤ 140737488355328) :
    Calls Tryd.prog 35 #[.slice (some ⟨bk, o, none⟩) xs.length c, .string sep] w fun e w' => e = .returned (.string ⟨(Lib.join (xs.map (·.data.toList)) sep.data.toList).toArray⟩) ∧ Below w.heap.size w w' := Any.strings_Join Tryd.lays156 Tryd.Builder_Extra_156 bk o c xs sep w hcells hbk hN hcap hlen
def Tryd.laysM173_ren : Go.Shelf.Ren := ⟨fun | 173 => 74 | 246 => 108 | 283 => 124 | 284 => 125 | 285 => 126 | 286 => 127 | 129 => 132 | 317 => 131 | 318 => 133 | 319 => 134 | 320 => 135 | 337 => 142 | 338 => 143 | n => n, fun | 2 => 2 | 3 => 3 | 9 => 9 | 4 => 4 | 171 => 151 | 0 => 0 | 53 => 135 | 37 => 64 | 5 => 5 | 173 => 154 | 212 => 159 | 51 => 160 | 20 => 20 | 213 => 161 | 46 => 163 | 232 => 170 | 233 => 171 | n => n, fun | 17 => 1 | 18 => 2 | 19 => 3 | n => n⟩
theorem Tryd.laysM173 : Go.Proofs.LaysM.n173 Tryd.prog Tryd.laysM173_ren := {
  mixed := by kernel_rfl
  f129 := Tryd.func132.trans (congrArg some (by kernel_rfl))
  f173 := Tryd.func74.trans (congrArg some (by kernel_rfl))
  f246 := Tryd.func108.trans (congrArg some (by kernel_rfl))
  f283 := Tryd.func124.trans (congrArg some (by kernel_rfl))
  f284 := Tryd.func125.trans (congrArg some (by kernel_rfl))
  f285 := Tryd.func126.trans (congrArg some (by kernel_rfl))
  f286 := Tryd.func127.trans (congrArg some (by kernel_rfl))
  f317 := Tryd.func131.trans (congrArg some (by kernel_rfl))
  f318 := Tryd.func133.trans (congrArg some (by kernel_rfl))
  f319 := Tryd.func134.trans (congrArg some (by kernel_rfl))
  f320 := Tryd.func135.trans (congrArg some (by kernel_rfl))
  f337 := Tryd.func142.trans (congrArg some (by kernel_rfl))
  f338 := Tryd.func143.trans (congrArg some (by kernel_rfl))
  t0 := Tryd.underlying0
  a0 := Tryd.isAgg0
  z0 := Tryd.sizeOf0
  v0 := Tryd.zeroValue0
  t2 := Tryd.underlying2
  a2 := Tryd.isAgg2
  z2 := Tryd.sizeOf2
  v2 := Tryd.zeroValue2
  t3 := Tryd.underlying3
  a3 := Tryd.isAgg3
  z3 := Tryd.sizeOf3
  v3 := Tryd.zeroValue3
  t4 := Tryd.underlying4
  a4 := Tryd.isAgg4
  z4 := Tryd.sizeOf4
  v4 := Tryd.zeroValue4
  t5 := Tryd.underlying5
  a5 := Tryd.isAgg5
  z5 := Tryd.sizeOf5
  v5 := Tryd.zeroValue5
  t9 := Tryd.underlying9
  a9 := Tryd.isAgg9
  z9 := Tryd.sizeOf9
  v9 := Tryd.zeroValue9
  t20 := Tryd.underlying20
  a20 := Tryd.isAgg20
  z20 := Tryd.sizeOf20
  v20 := Tryd.zeroValue20
  t37 := Tryd.underlying64
  a37 := Tryd.isAgg64
  z37 := Tryd.sizeOf64
  v37 := Tryd.zeroValue64
  t46 := Tryd.underlying163
  a46 := Tryd.isAgg163
  z46 := Tryd.sizeOf163
  v46 := Tryd.zeroValue163
  t51 := Tryd.underlying160
  a51 := Tryd.isAgg160
  z51 := Tryd.sizeOf160
  v51 := Tryd.zeroValue160
  t53 := Tryd.underlying135
  a53 := Tryd.isAgg135
  z53 := Tryd.sizeOf135
  v53 := Tryd.zeroValue135
  t171 := Tryd.underlying151
  a171 := Tryd.isAgg151
  z171 := Tryd.sizeOf151
  v171 := Tryd.zeroValue151
  t173 := Tryd.underlying154
  a173 := Tryd.isAgg154
  z173 := Tryd.sizeOf154
  v173 := Tryd.zeroValue154
  t212 := Tryd.underlying159
  a212 := Tryd.isAgg159
  z212 := Tryd.sizeOf159
  v212 := Tryd.zeroValue159
  t213 := Tryd.underlying161
  a213 := Tryd.isAgg161
  z213 := Tryd.sizeOf161
  t232 := Tryd.underlying170
  a232 := Tryd.isAgg170
  z232 := Tryd.sizeOf170
  v232 := Tryd.zeroValue170
  t233 := Tryd.underlying171
  a233 := Tryd.isAgg171
  z233 := Tryd.sizeOf171
  v233 := Tryd.zeroValue171
  g17 := by kernel_rfl
  g18 := by kernel_rfl
  g19 := by kernel_rfl
  i0 := by kernel_rfl
  i2 := by kernel_rfl
  i3 := by kernel_rfl
  i4 := by kernel_rfl
  i5 := by kernel_rfl
  i9 := by kernel_rfl
  i20 := by kernel_rfl
  i37 := by kernel_rfl
  i46 := by kernel_rfl
  i51 := by kernel_rfl
  i53 := by kernel_rfl
  i171 := by kernel_rfl
  i173 := by kernel_rfl
  i212 := by kernel_rfl
  i232 := by kernel_rfl
  i233 := by kernel_rfl
  m17 := by kernel_rfl
  m18 := by kernel_rfl
  m19 := by kernel_rfl }
open Go.RowKit Go.Sort Go.Lib in
theorem Tryd.strconv_FormatInt_10 (n : Int) (h0 : -9223372036854775808 ≤ n) (h1 : n ≤ 9223372036854775807) (w : World) (htab : Lib.TabIs Tryd.prog w "internal/strconv.uint64pow10" .u64 Lib.pow10Tab) :
    Calls Tryd.prog 74 #[.int .i64 n, .int .i64 10] w fun e w' => e = .returned (.string ⟨(Lib.itoa n).toArray⟩) ∧ ∃ k os, w' = grow (w.drewN k) os := Any.strconv_FormatInt_10 Tryd.laysM173 n h0 h1 w htab
end Go.Proofs

/-! Prim -/

namespace Go.Abs
set_option linter.unusedSimpArgs false
set_option linter.unusedVariables false
open Go.Proofs

theorem Rel.below {M : Map} {s : St} {w w' : World} (r : Rel M s w) (b : RowKit.Below w.heap.size w w') : Rel M s w' ∧ Ext M s w M s w' := by
  have old : ∀ k, k < w.heap.size → w'.heap[k]? = w.heap[k]? := b.block
  refine ⟨⟨fun p o v e => ?_, fun o ds e => ?_, r.objG, r.inj, fun t n e => ?_, r.tokObj, r.tokInj⟩, ⟨Le.refl M s, fun k hk _ _ => old k hk, fun o h h' => by omega, fun t b c z h e => .inl ⟨h, c, z, e⟩, fun _ _ h => (h rfl).elim, b.size, b.os, b.tape, b.output⟩⟩
  · obtain ⟨h1, h2⟩ := r.comm p o v e
    refine ⟨?_, h2⟩
    rw [← h1]
    simp only [World.cell?, old _ (r.G_lt e)]
  · obtain ⟨vs, T, h1, h2⟩ := r.obj o ds e
    exact ⟨vs, T, by rw [old _ (lt_of_heap h1)]; exact h1, h2⟩
  · rcases r.tok t n e with h | ⟨p, cap, z, vs, T, h1, h2, h3⟩
    · exact .inl h
    · exact .inr ⟨p, cap, z, vs, T, h1, by rw [old _ (lt_of_heap h2)]; exact h2, h3⟩

/-- From a contract that leaves all that was there. -/
theorem Fun.ofBelow {P : Program} {f : Nat} {args : List D} {s : St} {d : D} (h : ∀ (M : Map) (w : World) (vargs : Array Value), Rel M s w → Laid M s w → vargs.size = args.length →
      (∀ (i : Nat) (d : D) (v : Value), args[i]? = some d → vargs[i]? = some v → RD M s d v) → Calls P f vargs w fun e w' => ∃ v, e = .returned v ∧ RD M s d v ∧ RowKit.Below w.heap.size w w') : Fun P f args s d s := by
  intro M w vargs r hl hs ha
  refine (h M w vargs r hl hs ha).mono fun e w' ⟨v, h1, h2, h3⟩ => ?_
  obtain ⟨r', e'⟩ := r.below h3
  exact ⟨M, d, v, s, h1, ⟨rfl, rfl⟩, e', r', h2⟩

theorem two_args {M : Map} {s : St} {a b : D} {vargs : Array Value} (hs : vargs.size = [a, b].length) (ha : ∀ (i : Nat) (d : D) (v : Value), [a, b][i]? = some d → vargs[i]? = some v → RD M s d v) :
    ∃ x y, vargs = #[x, y] ∧ RD M s a x ∧ RD M s b y := by
  obtain ⟨l⟩ := vargs
  match l, hs, ha with
  | [x, y], _, ha => exact ⟨x, y, rfl, ha 0 a x rfl rfl, ha 1 b y rfl rfl⟩
theorem one_arg {M : Map} {s : St} {a : D} {vargs : Array Value} (hs : vargs.size = [a].length) (ha : ∀ (i : Nat) (d : D) (v : Value), [a][i]? = some d → vargs[i]? = some v → RD M s d v) :
    ∃ x, vargs = #[x] ∧ RD M s a x := by
  obtain ⟨l⟩ := vargs
  match l, hs, ha with
  | [x], _, ha => exact ⟨x, rfl, ha 0 a x rfl rfl⟩

/-! ### Numbers -/

theorem tab_of {M : Map} {s : St} {w : World} (h : Laid M s w) : Lib.TabIs Tryd.prog w "internal/strconv.uint64pow10" .u64 Lib.pow10Tab := by
  obtain ⟨⟨T, fr, h1⟩, _⟩ := h gPow _ tabs_pow
  have hg : Tryd.prog.globalNamed "internal/strconv.uint64pow10" = some gPow := by kernel_rfl
  unfold Lib.TabIs World.var?
  rw [hg]
  simp only [Option.bind_some, h1]

theorem below_grow (w : World) (k : Nat) (os : Array Obj) : RowKit.Below w.heap.size w (Sort.grow (w.drewN k) os) :=
  ⟨rfl, rfl, rfl, by simp [Sort.grow, World.drewN], fun i hi => by simp [Sort.grow, World.drewN, Array.getElem?_append_left hi]⟩

theorem FormatInt_s {n : Int} (h0 : -9223372036854775808 ≤ n) (h1 : n ≤ 9223372036854775807) (s : St) : Fun Tryd.prog n_strconv_FormatInt [.int .i64 n, .int .i64 10] s (.str (Lib.itoa n)) s := by
  refine Fun.ofBelow fun M w vargs r hl hs ha => ?_
  obtain ⟨x, y, rfl, hx, hy⟩ := two_args hs ha
  rw [hx.int_inv, hy.int_inv]
  refine (Tryd.strconv_FormatInt_10 n h0 h1 w (tab_of hl)).mono fun e w' ⟨h, k, os, hw⟩ => ⟨_, h, .str _, ?_⟩
  subst hw
  exact below_grow w k os

/-! ### Join -/

theorem map_mk (l : List Str) : (l.map fun t => (⟨⟨t⟩⟩ : ByteArray)).map (·.data.toList) = l := by
  rw [List.map_map]
  have : ((fun b : ByteArray => b.data.toList) ∘ fun t : Str => (⟨⟨t⟩⟩ : ByteArray)) = id := rfl
  rw [this, List.map_id]

theorem Join_s {l : List Str} {sep : Str} (hn : l.length ≤ 140737488355328) (hlen : (Lib.join l sep).length ≤ 140737488355328) (g : Tag) (s : St) : Fun Tryd.prog n_strings_Join [.slice g 1 (l.map encStr), .str sep] s (.str (Lib.join l sep)) s := by
  refine Fun.ofBelow fun M w vargs r hl hs ha => ?_
  obtain ⟨x, y, rfl, hx, hy⟩ := two_args hs ha
  rw [hy.str_inv]
  rcases hx.slice_inv with ⟨h0, rfl, _⟩ | ⟨h0, _, a, cap, rfl⟩ | ⟨b, q, cap, rfl, hc, hsz, g1, g2, _⟩
  · have : l = [] := by simpa using h0
    subst this
    refine (Tryd.strings_Join_none none 0 ⟨⟨sep⟩⟩ w).mono fun e w' ⟨h, hw⟩ => ⟨_, h, ?_, hw ▸ RowKit.Below.refl _ _⟩
    exact .str _
  · have : l = [] := by simpa using h0
    subst this
    refine (Tryd.strings_Join_none (some a) cap ⟨⟨sep⟩⟩ w).mono fun e w' ⟨h, hw⟩ => ⟨_, h, ?_, hw ▸ RowKit.Below.refl _ _⟩
    exact .str _
  · cases hl0 : l with
    | nil =>
      refine (Tryd.strings_Join_none (some ⟨b, q, none⟩) cap ⟨⟨sep⟩⟩ w).mono fun e w' ⟨h, hw⟩ => ⟨_, h, ?_, hw ▸ RowKit.Below.refl _ _⟩
      exact .str _
    | cons t r' =>
      rw [← hl0]
      have cell : ∀ (j : Nat) (x : ByteArray), (l.map fun t => (⟨⟨t⟩⟩ : ByteArray))[j]? = some x → w.cell? ⟨b, q + j, none⟩ = some (.string x) := by
        intro j x hj
        rw [List.getElem?_map, Option.map_eq_some_iff] at hj
        obtain ⟨t, ht, rfl⟩ := hj
        obtain ⟨u, hu⟩ := g1 j (encStr t) 0 (.str t) (by rw [List.getElem?_map, ht]; rfl) rfl
        have hv := g2 j (encStr t) 0 (.str t) u (by rw [List.getElem?_map, ht]; rfl) rfl hu
        have := (r.comm _ _ _ hu).1
        rw [hv.str_inv] at this
        simpa using this
      have hb : b < w.heap.size := by
        have := cell 0 ⟨⟨t⟩⟩ (by rw [hl0]; rfl)
        exact World.block_lt_of_cell? w _ this
      have key := Tryd.strings_Join b q cap (l.map fun t => (⟨⟨t⟩⟩ : ByteArray)) ⟨⟨sep⟩⟩ w cell hb (by simpa using hn) (by simpa using hc) (by rw [map_mk]; exact hlen)
      simp only [List.length_map, map_mk] at key ⊢
      exact key.mono fun e w' ⟨h, hw⟩ => ⟨_, h, .str _, hw⟩

end Go.Abs

/-! Prim2 -/

namespace Go.Abs
set_option linter.unusedSimpArgs false
set_option linter.unusedVariables false
open Go.Proofs Go.RowKit

theorem bld_info : ∃ j, Tryd.prog.info? 66 = some j ∧ j.size = 2 := by
  have h : (Tryd.prog.info? 66).map (·.size) = some 2 := by kernel_rfl
  obtain ⟨j, h1, h2⟩ := Option.map_eq_some_iff.1 h
  exact ⟨j, h1, h2⟩

set_option maxHeartbeats 1000000 in
set_option maxRecDepth 100000 in
theorem copyCheck_used (b : Nat) (w : World) (h0 : w.cell? ⟨b, 0, none⟩ = some (.pointer (some ⟨b, 0, none⟩))) :
    Calls Tryd.prog 104 #[.pointer (some ⟨b, 0, none⟩)] w fun e w' => e = .returned (.tuple #[]) ∧ w' = w := by
  obtain ⟨j, hj, _⟩ := bld_info
  go_enter Tryd.func104, Tryd.ntmps104
  go_wp2
  rw [Lib.run_neq_ptr_same w _ Tryd.underlying63 hj]
  go_wp2
  go_end0
  exact ⟨rfl, rfl⟩

set_option maxHeartbeats 1000000 in
set_option maxRecDepth 100000 in
theorem copyCheck_fresh (b T n : Nat) (w : World) (h0 : w.cell? ⟨b, 0, none⟩ = some (.pointer none)) (hsh : w.shape? b = some (T, n)) (hn : 0 < n) (hfz : w.frozen? ⟨b, 0, none⟩ = false)
    (hlies : liesAt Tryd.prog Tryd.prog.depth T (n / Tryd.prog.cellsOf T) 0 66 1 = true) :
    Calls Tryd.prog 104 #[.pointer (some ⟨b, 0, none⟩)] w fun e w' => e = .returned (.tuple #[]) ∧ w' = w.setCell ⟨b, 0, none⟩ (.pointer (some ⟨b, 0, none⟩)) := by
  obtain ⟨j, hj, hjs⟩ := bld_info
  go_enter Tryd.func104, Tryd.ntmps104
  go_wp2
  rw [Lib.run_to_unsafe w ⟨b, 0, none⟩ Tryd.underlying63 Tryd.underlying148 hj (by rw [hjs]; decide) hsh hn]
  simp only [Result.andThen]
  rw [Oper.upon_value]
  go_wp2
  rw [run_callFunc_extern Tryd.func122 (by kernel_rfl) (by kernel_rfl) (by kernel_rfl) (e := Extern.AbiNoEscape.same) (by kernel_rfl)]
  rw [Lib.run_noEscape]
  simp only [Result.andThen]
  rw [Oper.upon_value]
  go_wp2
  rw [Lib.run_from_unsafe w ⟨b, 0, none⟩ Tryd.underlying148 Tryd.underlying63 hj hsh hlies]
  simp only [Result.andThen]
  rw [Oper.upon_value]
  go_wp2
  go_end0
  exact ⟨rfl, rfl⟩

set_option maxHeartbeats 1000000 in
set_option maxRecDepth 100000 in
theorem String_run (b g cap cells : Nat) (l : List UInt8) (h0 : l ≠ []) (w : World) (c1 : w.cell? ⟨b, 1, none⟩ = some (.slice (some ⟨g, 0, none⟩) l.length cap)) (hcap : cap ≠ 0)
    (hsh : w.shape? g = some (5, cells)) (hn : l.length ≤ cells) (h63 : l.length ≤ 9223372036854775807) (hcell : ∀ j x, l[j]? = some x → w.cell? ((⟨g, 0, none⟩ : Addr).add j) = some (.int .u8 x.toNat)) :
    Calls Tryd.prog 39 #[.pointer (some ⟨b, 0, none⟩)] w fun e w' => e = .returned (.string ⟨l.toArray⟩) ∧ w' = w.drew.freeze ⟨g, 0, none⟩ l.length := by
  have c1 : w.drew.cell? ⟨b, 1, none⟩ = some (.slice (some ⟨g, 0, none⟩) l.length cap) := c1
  have hSD : (Builtin.unsafeSliceData_ #[64] 112 #[.slice (some ⟨g, 0, none⟩) l.length cap]).run Tryd.prog w.drew = .ok (.pointer (some ⟨g, 0, none⟩)) w.drew :=
    Lib.run_unsafeSliceData_row _ _ _ _ _ _ hcap
  have hUS : (Builtin.unsafeString_ #[112, 3] 9 #[.pointer (some ⟨g, 0, none⟩), .int .i64 l.length]).run Tryd.prog w.drew = .ok (.string ⟨l.toArray⟩) (w.drew.freeze ⟨g, 0, none⟩ l.length) :=
    Lib.run_unsafeString_row w.drew 112 3 9 5 Tryd.underlying112 (by kernel_rfl) g cells hsh l h0 hn h63 hcell
  go_enter Tryd.func39, Tryd.ntmps39
  go_wp2
  go_region
  all_goals (go_wp2; go_ret; exact ⟨rfl, rfl⟩)

set_option maxHeartbeats 1000000 in
set_option maxRecDepth 100000 in
theorem String_run0 (b : Nat) (w : World) (c1 : w.cell? ⟨b, 1, none⟩ = some (.slice none 0 0)) :
    Calls Tryd.prog 39 #[.pointer (some ⟨b, 0, none⟩)] w fun e w' => e = .returned (.string ⟨#[]⟩) ∧ w' = w.drew := by
  have c1 : w.drew.cell? ⟨b, 1, none⟩ = some (.slice none 0 0) := c1
  have hUS := fun (W : World) (q : Option Addr) => Lib.run_unsafeString_none (P := Tryd.prog) W 112 3 9 q
  have hSD : (Builtin.unsafeSliceData_ #[64] 112 #[.slice none 0 0]).run Tryd.prog w.drew = .ok (.pointer none) w.drew := rfl
  go_enter Tryd.func39, Tryd.ntmps39
  go_wp2
  go_region
  all_goals (go_wp2; go_ret; exact ⟨rfl, rfl⟩)

set_option maxHeartbeats 2000000 in
set_option maxRecDepth 100000 in
theorem String_room (b g cap : Nat) (w : World) (hc0 : cap ≠ 0) (c1 : w.cell? ⟨b, 1, none⟩ = some (.slice (some ⟨g, 0, none⟩) 0 cap)) :
    Calls Tryd.prog 39 #[.pointer (some ⟨b, 0, none⟩)] w fun e w' => e = .returned (.string ⟨#[]⟩) ∧ RowKit.Below w.heap.size w w' := by
  have c1 : w.drew.cell? ⟨b, 1, none⟩ = some (.slice (some ⟨g, 0, none⟩) 0 cap) := c1
  have hUS := fun (W : World) (q : Option Addr) => Lib.run_unsafeString_none (P := Tryd.prog) W 112 3 9 q
  have hSD : (Builtin.unsafeSliceData_ #[64] 112 #[.slice (some ⟨g, 0, none⟩) 0 cap]).run Tryd.prog w.drew = .ok (.pointer (some ⟨g, 0, none⟩)) w.drew :=
    Lib.run_unsafeSliceData_row _ _ _ _ _ _ hc0
  clear hc0
  go_enter Tryd.func39, Tryd.ntmps39
  go_wp2
  go_region
  all_goals (go_wp2; go_ret; exact ⟨rfl, RowKit.Below.drew (RowKit.Below.refl _ w)⟩)

set_option maxHeartbeats 2000000 in
set_option maxRecDepth 100000 in
theorem String_noroom (b g n : Nat) (T : TypeId) (w : World) (hlt : b < w.heap.size) (c1 : w.cell? ⟨b, 1, none⟩ = some (.slice (some ⟨g, 0, none⟩) 0 0)) (hsh : w.shape? g = some (T, n)) :
    Calls Tryd.prog 39 #[.pointer (some ⟨b, 0, none⟩)] w fun e w' => e = .returned (.string ⟨#[]⟩) ∧ RowKit.Below w.heap.size w w' := by
  have c0 := c1
  have c1 : w.drew.cell? ⟨b, 1, none⟩ = some (.slice (some ⟨g, 0, none⟩) 0 0) := c1
  have hUS := fun (W : World) (q : Option Addr) => Lib.run_unsafeString_none (P := Tryd.prog) W 112 3 9 q
  have hSD : (Builtin.unsafeSliceData_ #[64] 112 #[.slice (some ⟨g, 0, none⟩) 0 0]).run Tryd.prog w.drew = .ok (.pointer (some ⟨w.drew.heap.size, 0, none⟩)) (w.drew.alloc (.view ⟨g, 0, none⟩ 5)) :=
    Lib.run_unsafeSliceData_zero w.drew _ _ 5 Tryd.underlying112 ⟨g, 0, none⟩ 0 (T, n) hsh
  have c2 : (w.drew.alloc (.view ⟨g, 0, none⟩ 5)).cell? ⟨b, 1, none⟩ = some (.slice (some ⟨g, 0, none⟩) 0 0) := by
    rw [World.cell?_alloc_lt]
    · exact c1
    · exact hlt
  have c3 : (w.alloc (.view ⟨g, 0, none⟩ 5)).drew.cell? ⟨b, 1, none⟩ = some (.slice (some ⟨g, 0, none⟩) 0 0) := c2
  go_enter Tryd.func39, Tryd.ntmps39
  go_wp2
  go_region
  all_goals (go_wp2; go_ret; exact ⟨rfl, (RowKit.Below.drew (RowKit.Below.refl _ w)).alloc (Nat.le_refl _) _⟩)

/-! ### On abstract states -/

/-- It is looked at whether a builder has been copied. -/
theorem copyCheck_s {T : TypeId} {s : St} {o : Nat} {r : List D} (ho : s.objs[o]? = some (.selfp T o :: r)) (hr : r.length = 1) (hlies : liesAt Tryd.prog Tryd.prog.depth T (2 / Tryd.prog.cellsOf T) 0 66 1 = true) :
    Fun Tryd.prog n_strings_Builder_copyCheck [.ptr o 0] s (.tuple []) s := by
  intro M w vargs rel hl hs ha
  obtain ⟨x, rfl, hx⟩ := one_arg hs ha
  obtain ⟨rfl, hlt⟩ := hx.ptr_inv
  obtain ⟨vs, T', hh, hsz, ⟨hone, hty⟩, hrd⟩ := rel.obj o _ ho
  simp only [List.length_cons, hr] at hsz
  obtain ⟨v, hv⟩ : ∃ v, vs[0]? = some v := ⟨_, Array.getElem?_eq_getElem (by omega)⟩
  have h0 := hrd 0 _ v rfl hv
  have hc0 : w.cell? ⟨M.mu o, 0, none⟩ = some v := by rw [cell?_row hh]; exact hv
  have hinv : M.ty o = some T ∧ (v = .pointer none ∨ v = .pointer (some ⟨M.mu o, 0, none⟩)) := by
    cases h0 with
    | selfp _ _ _ _ h1 h2 => exact ⟨h1, h2⟩
  obtain ⟨hT, hvv⟩ := hinv
  have := hty T hT
  subst this
  rcases hvv with rfl | rfl
  · have hsh : w.shape? (M.mu o) = some (T, 2) := by simp [World.shape?, hh, hsz]
    have hfz : w.frozen? ⟨M.mu o, 0, none⟩ = false := by simp [World.frozen?, hh]
    refine (copyCheck_fresh (M.mu o) T 2 w hc0 hsh (by omega) hfz hlies).mono fun e w' ⟨h1, h2⟩ => ?_
    obtain ⟨w2, g1, g2, g3⟩ := rel.setO Tryd.prog (off := 0) ho [.selfp T o] [.pointer (some ⟨M.mu o, 0, none⟩)] rfl (by simp) (fun u hu => by simp at hu; subst hu; rfl) (fun i d u e1 e2 => by
      cases i with
      | zero => simp at e1 e2; subst e1 e2; exact .selfp T o _ hlt hT (.inr rfl)
      | succ i => simp at e1)
    have hset : ({ s with objs := s.objs.set o (splice (.selfp T o :: r) 0 [.selfp T o]) } : St) = s := by
      have e1 : splice (.selfp T o :: r) 0 [.selfp T o] = .selfp T o :: r := by simp [splice]
      rw [e1]
      have : s.objs.set o (.selfp T o :: r) = s.objs := by
        apply List.ext_getElem?
        intro i
        rw [List.getElem?_set]
        by_cases hi : o = i
        · subst hi; rw [if_pos rfl, if_pos hlt, ho]
        · rw [if_neg hi]
      rw [this]
    rw [hset] at g2 g3
    have hw : w2 = w' := by
      rw [h2]
      have hk := run_storeCells_at Tryd.prog (M.mu o) 0 T [.pointer (some ⟨M.mu o, 0, none⟩)] 0 vs w hh (by simp; omega) (fun u hu => by simp at hu; subst hu; rfl)
      simp only [Nat.add_zero] at hk
      rw [g1] at hk
      have hk := (Result.ok.inj hk).2
      have earr : ∀ (p : Value), (vs.toList.take 0 ++ [p] ++ vs.toList.drop (0 + [p].length)).toArray = vs.setIfInBounds 0 p := by
        intro p
        obtain ⟨a, b, e⟩ : ∃ a b, vs.toList = [a, b] := by
          have : vs.toList.length = 2 := by simpa using hsz
          match h : vs.toList, this with
          | [a, b], _ => exact ⟨a, b, rfl⟩
        have e' : vs = #[a, b] := by rw [← Array.toArray_toList (xs := vs), e]
        subst e'
        rfl
      rw [earr] at hk
      exact hk.trans (setCell_eq_setRow w (M.mu o) 0 vs T (0, 0) _ hh).symm
    subst hw
    exact ⟨M, _, _, s, h1, ⟨rfl, rfl⟩, g3, g2, .undef⟩
  · refine (copyCheck_used (M.mu o) w hc0).mono fun e w' ⟨h1, h2⟩ => ?_
    subst h2
    exact ⟨M, _, _, s, h1, ⟨rfl, rfl⟩, Ext.refl M s w', rel, .undef⟩

def encBy (l : Str) : List (List D) := l.map fun c => [.int .u8 c.toNat]

/-- What was written; nobody writes any more. -/
theorem String_ne {s : St} {o t : Nat} {c0 : D} {l : Str} (h0 : l ≠ []) (ho : s.objs[o]? = some [c0, .slice (.tok t true) 1 (encBy l)]) (ht : s.toks[t]? = some (some l.length)) (h63 : l.length ≤ 9223372036854775807) :
    Fun Tryd.prog n_strings_Builder_String [.ptr o 0] s (.str l) { s with toks := s.toks.set t none } := by
  intro M w vargs rel hl hs ha
  obtain ⟨x, rfl, hx⟩ := one_arg hs ha
  obtain ⟨rfl, hlt⟩ := hx.ptr_inv
  obtain ⟨vs, T', hh, hsz, _, hrd⟩ := rel.obj o _ ho
  simp only [List.length_cons, List.length_nil] at hsz
  obtain ⟨v, hv⟩ : ∃ v, vs[1]? = some v := ⟨_, Array.getElem?_eq_getElem (by omega)⟩
  have hv1 := hrd 1 _ v rfl hv
  have hne : encBy l ≠ [] := by simpa [encBy] using h0
  have hlen : (encBy l).length = l.length := by simp [encBy]
  rcases hv1.slice_inv with ⟨h, _, _⟩ | ⟨h, _, _⟩ | ⟨b, k, cap, rfl, hl2, hsz2, g1, g2, htag⟩
  · exact (hne h).elim
  · exact (hne h).elim
  obtain ⟨_, h2⟩ := htag
  obtain ⟨_, h3⟩ := h2 _ ht
  have hl0 : l.length ≠ 0 := by simpa using h0
  rcases h3 hlen with ⟨_, h4⟩ | ⟨b2, h4, hbe⟩
  · omega
  cases h4
  obtain ⟨r1, l1⟩ := rel.dropT t
  rcases rel.tok t l.length ht with ⟨h4, _⟩ | ⟨b', cap', z', vs', T2, h4, h5, h6, h7, h8, h9⟩
  · rw [hbe] at h4; cases h4
  rw [hbe] at h4; cases h4
  have hT2 : T2 = byteT := h9 rfl
  have hz1 : zs (bz true 1) = 1 := rfl
  rw [hz1, Nat.mul_one] at h6
  have hlive : ∀ p, St.live { s with toks := s.toks.set t none } p → p ≠ t ∧ s.live p := by
    rintro p ⟨n, hn⟩
    rw [List.getElem?_set] at hn
    split at hn
    · simp at hn
    · rename_i hne; exact ⟨fun h => hne h.symm, n, hn⟩
  obtain ⟨r2, hh2, hs', hos, htp, hout⟩ := r1.freeze (b := b) 0 l.length (fun o ho => rel.tokObj t b cap _ o ⟨_, ht⟩ hbe ho)
    (fun p c y hp heq => (hlive p hp).1 (rel.tokInj p t b c y cap _ (hlive p hp).2 ⟨_, ht⟩ heq hbe))
  have hcell : ∀ j x, l[j]? = some x → w.cell? ((⟨b, 0, none⟩ : Addr).add j) = some (.int .u8 x.toNat) := by
    intro j x hj
    have e1 : (encBy l)[j]? = some [.int .u8 x.toNat] := by simp [encBy, hj]
    obtain ⟨u, hu⟩ := g1 j _ 0 _ e1 rfl
    have hr := g2 j _ 0 _ u e1 rfl hu
    have hc := (rel.comm _ _ _ hu).1
    rw [hr.int_inv] at hc
    rw [addr_add]
    simpa using hc
  have hshape : w.shape? b = some (5, cap) := by
    have : byteT = 5 := rfl
    simp [World.shape?, h5, h6, hT2, this]
  refine (String_run (M.mu o) b cap cap l h0 w (by rw [cell?_row hh, hv, hlen]) (by omega) hshape (by omega) h63 hcell).mono fun e w' ⟨e1, e2⟩ => ?_
  have hheap : w'.heap = (w.freeze ⟨b, 0, none⟩ l.length).heap := by
    subst e2
    simp only [World.freeze]
    split <;> rfl
  have hw' : w'.os = w.os ∧ w'.tape = w.tape ∧ w'.output = w.output := by
    subst e2
    simp only [World.freeze]
    split <;> exact ⟨rfl, rfl, rfl⟩
  refine ⟨M, _, _, _, e1, ⟨rfl, rfl⟩, ?_, r2.of_heap hheap, .str _⟩
  refine ⟨l1, fun p _ _ h4 => ?_, fun o h3 h4 => ?_, fun p b' c y hp heq => .inl ⟨(hlive p hp).2, c, y, heq⟩, fun _ _ h => (h rfl).elim, ?_, hw'.1, hw'.2.1, hw'.2.2⟩
  · rw [hheap]
    exact hh2 p (fun e => h4 t cap _ ⟨_, ht⟩ (by rw [hbe, e]))
  · simp at h4; omega
  · rw [hheap, hs']; exact Nat.le_refl _

theorem String_e {s : St} {o t : Nat} {c0 : D} (ho : s.objs[o]? = some [c0, .slice (.tok t true) 1 []]) (ht : s.toks[t]? = some (some 0)) :
    Fun Tryd.prog n_strings_Builder_String [.ptr o 0] s (.str []) s := by
  refine Fun.ofBelow fun M w vargs rel hl hs ha => ?_
  obtain ⟨x, rfl, hx⟩ := one_arg hs ha
  obtain ⟨rfl, hlt⟩ := hx.ptr_inv
  obtain ⟨vs, T', hh, hsz, _, hrd⟩ := rel.obj o _ ho
  simp only [List.length_cons, List.length_nil] at hsz
  obtain ⟨v, hv⟩ : ∃ v, vs[1]? = some v := ⟨_, Array.getElem?_eq_getElem (by omega)⟩
  have hv1 := hrd 1 _ v rfl hv
  have c1 : w.cell? ⟨M.mu o, 1, none⟩ = some v := by rw [cell?_row hh]; exact hv
  rcases hv1.slice_inv with ⟨_, rfl, _⟩ | ⟨_, h, _⟩ | ⟨b, k, cap, rfl, hl2, hsz2, g1, g2, htag⟩
  · refine (String_run0 (M.mu o) w c1).mono fun e w' ⟨h1, h2⟩ => ⟨_, h1, .str _, ?_⟩
    subst h2
    exact ⟨rfl, rfl, rfl, Nat.le_refl _, fun _ _ => rfl⟩
  · cases h
  obtain ⟨_, h2⟩ := htag
  obtain ⟨_, h3⟩ := h2 _ ht
  rcases h3 rfl with ⟨_, _, h4⟩ | ⟨b2, h4, hbe⟩
  · cases h4 rfl
  cases h4
  rcases rel.tok t 0 ht with ⟨h4, _⟩ | ⟨b', cap', z', vs', T2, h4, h5, h6, h7, h8, h9⟩
  · rw [hbe] at h4; cases h4
  rw [hbe] at h4; cases h4
  by_cases hc : cap = 0
  · subst hc
    refine (String_noroom (M.mu o) b vs'.size T2 w (lt_of_heap hh) c1 (by simp [World.shape?, h5])).mono fun e w' ⟨h1, h2⟩ => ⟨_, h1, .str _, h2⟩
  · refine (String_room (M.mu o) b cap w hc c1).mono fun e w' ⟨h1, h2⟩ => ⟨_, h1, .str _, h2⟩

theorem Fun.drop {P : Program} {f : Nat} {args : List D} {s s' : St} {d : D} (t : Nat) (h : Fun P f args s d s') : Fun P f args s d { s' with toks := s'.toks.set t none } := by
  intro M w vargs r hl hs ha
  refine (h M w vargs r hl hs ha).mono fun e w' ⟨M', d', v, s1, h1, ⟨h2, h3⟩, h4, h5, h6⟩ => ?_
  subst h2 h3
  obtain ⟨r', le⟩ := h5.dropT t
  refine ⟨M', d', v, _, h1, ⟨rfl, rfl⟩, h4.trans ⟨le, fun _ _ _ _ => rfl, fun o h1 h2 => absurd h2 (Nat.not_lt.2 h1), fun q b c z hl e => .inl ⟨?_, c, z, e⟩, fun _ _ h => (h rfl).elim, Nat.le_refl _, rfl, rfl, rfl⟩, r', h6.mono le⟩
  obtain ⟨k, hk⟩ := hl
  rw [List.getElem?_set] at hk
  split at hk
  · simp at hk
  · exact ⟨k, hk⟩

/-- What was written, whatever it is. -/
theorem String_s {s : St} {o t : Nat} {c0 : D} (l : Str) (ho : s.objs[o]? = some [c0, .slice (.tok t true) 1 (encBy l)]) (ht : s.toks[t]? = some (some l.length)) (h63 : l.length ≤ 9223372036854775807) :
    Fun Tryd.prog n_strings_Builder_String [.ptr o 0] s (.str l) { s with toks := s.toks.set t none } := by
  by_cases h0 : l = []
  · subst h0
    exact (String_e ho ht).drop t
  · exact String_ne h0 ho ht h63

end Go.Abs
