/-
  What is proved here: part 2 of the road to the claim (Codes1, Have1, Codes2, Have2, Codes3, Have3, Prs, Prs2, Ref1).
  No conditions.
-/
import Derived.Test.YtecpopiacpckiaaPxE1
import Derived.Test.YtecpopiacpckiaaProg
import Derived.KernelRfl

/-! Codes1 -/

namespace Go.Abs

abbrev b_lex_All_1 : AC := .run [(.op (some 2) none (.mv (.k (.slice .full 0 [])))), (.op (some 3) none (.alloc [(.int .i64 0), (.int .i64 0)]))]
abbrev b_lex_All_4 : AC := .run [(.op (some 4) none (.mv (.k (.slice .full 0 []))))]
abbrev b_lex_All_6 : AC := .run [(.op (some 5) none (.alloc [(.int .i64 0), (.str []), (.int .i64 0), (.int .i64 0)]))]
abbrev b_lex_All_8 : AC := .run [(.op (some 6) none (.mv (.k (.int .i64 0)))), (.op (some 7) none (.mv (.k (.int .i64 0)))), (.op (some 8) none (.mv (.k (.bool true))))]
abbrev b_lex_All_11 : AC := .run [(.op (some 10) none (.mv (.s 0))), (.op (some 11) none (.slen (.s 10))), (.op (some 12) none (.bin .gtr (.s 11) (.k (.int .i64 100000))))]
abbrev b_lex_All_14 : AC := .run [(.op (some 13) none (.build [(.int .i64 0), (.int .i64 0)] [(0, (1, (.k (.int .i64 4))))])), (.op (some 2) none (.mv (.k (.slice .full 0 [])))), (.op none none (.store (.s 3) (.s 13) 2))]
abbrev b_lex_All_13 : AC := .seq b_lex_All_14 .ret
abbrev b_lex_All_12 : AC := .cond (.s 12) b_lex_All_13 .skip
abbrev b_lex_All_10 : AC := .seq b_lex_All_11 b_lex_All_12
abbrev b_lex_All_18 : AC := .run [(.op (some 14) none (.mv (.s 6))), (.op (some 15) none (.mv (.s 0))), (.op (some 16) none (.slen (.s 15))), (.op (some 17) none (.bin .geq (.s 14) (.s 16)))]
abbrev b_lex_All_21 : AC := .run [(.op (some 18) none (.mv (.s 4))), (.op (some 19) none (.mv (.s 0))), (.op (some 20) none (.slen (.s 19))), (.op (some 21) none (.build [(.int .i64 0), (.str []), (.int .i64 0), (.int .i64 0)] [(3, (1, (.s 20)))])), (.op (some 22) none (.bslice [(.int .i64 0), (.str []), (.int .i64 0), (.int .i64 0)] 4 1 [(0, (.s 21))])), (.op (some 23) none (.app 4 40 (.s 18) (.s 22))), (.op (some 24) none (.build [(.int .i64 0), (.int .i64 0)] [])), (.op (some 2) none (.mv (.s 23))), (.op none none (.store (.s 3) (.s 24) 2))]
abbrev b_lex_All_20 : AC := .seq b_lex_All_21 .ret
abbrev b_lex_All_19 : AC := .cond (.s 17) b_lex_All_20 .skip
abbrev b_lex_All_17 : AC := .seq b_lex_All_18 b_lex_All_19
abbrev b_lex_All_23 : AC := .run [(.op (some 25) none (.mv (.s 6))), (.op (some 26) none (.build [(.int .i64 0), (.str []), (.int .i64 0), (.int .i64 0)] [(3, (1, (.s 25)))])), (.op none none (.store (.s 5) (.s 26) 4))]
abbrev b_lex_All_26 : AC := .run [(.op (some 27) none (.mv (.s 0))), (.op (some 28) none (.mv (.s 6))), (.op (some 29) none (.sidx (.s 27) (.s 28))), (.op (some 9) none (.mv (.s 29)))]
abbrev b_lex_All_29 : AC := .run [(.op (some 31) none (.mv (.s 9))), (.op (some 32) none (.bin .eql (.s 31) (.k (.int .u8 32)))), (.op (some 33) none (.mv (.s 32))), (.op (some 34) (some (33, false)) (.mv (.s 9))), (.op (some 35) (some (33, false)) (.bin .eql (.s 34) (.k (.int .u8 9)))), (.op (some 36) none (.pick (.s 33) (.k (.bool true)) (.s 35))), (.op (some 37) none (.mv (.s 36))), (.op (some 38) (some (37, false)) (.mv (.s 9))), (.op (some 39) (some (37, false)) (.bin .eql (.s 38) (.k (.int .u8 10)))), (.op (some 40) none (.pick (.s 37) (.k (.bool true)) (.s 39))), (.op (some 41) none (.mv (.s 40))), (.op (some 42) (some (41, false)) (.mv (.s 9))), (.op (some 43) (some (41, false)) (.bin .eql (.s 42) (.k (.int .u8 13)))), (.op (some 44) none (.pick (.s 41) (.k (.bool true)) (.s 43))), (.op (some 30) none (.mv (.s 44)))]
abbrev b_lex_All_32 : AC := .run [(.op (some 45) none (.mv (.s 6))), (.op (some 46) none (.bin .add (.s 45) (.k (.int .i64 1)))), (.op (some 6) none (.mv (.s 46)))]
abbrev b_lex_All_31 : AC := .seq b_lex_All_32 (.goto 0)
abbrev b_lex_All_34 : AC := .run [(.op (some 48) none (.mv (.s 9))), (.op (some 49) none (.bin .eql (.s 48) (.k (.int .u8 35)))), (.op (some 47) none (.mv (.s 49)))]
abbrev b_lex_All_37 : AC := .run [(.op (some 51) none (.mv (.s 9))), (.call (some 52) none n_lex_letter [(.s 51)]), (.op (some 50) none (.mv (.s 52)))]
abbrev b_lex_All_40 : AC := .run [(.op (some 54) none (.mv (.s 9))), (.call (some 55) none n_lex_digit [(.s 54)]), (.op (some 53) none (.mv (.s 55)))]
abbrev b_lex_All_41 : AC := .cond (.s 53) (.goto 3) .skip
abbrev b_lex_All_39 : AC := .seq b_lex_All_40 b_lex_All_41
abbrev b_lex_All_38 : AC := .cond (.s 50) (.goto 2) b_lex_All_39
abbrev b_lex_All_36 : AC := .seq b_lex_All_37 b_lex_All_38
abbrev b_lex_All_35 : AC := .cond (.s 47) (.goto 1) b_lex_All_36
abbrev b_lex_All_33 : AC := .seq b_lex_All_34 b_lex_All_35
abbrev b_lex_All_30 : AC := .cond (.s 30) b_lex_All_31 b_lex_All_33
abbrev b_lex_All_28 : AC := .seq b_lex_All_29 b_lex_All_30
abbrev b_lex_All_27 : AC := .block 0 b_lex_All_28
abbrev b_lex_All_25 : AC := .seq b_lex_All_26 b_lex_All_27
abbrev b_lex_All_43 : AC := .run [(.op (some 56) none (.faddr (.s 5) 0)), (.op none none (.store (.s 56) (.k (.int .i64 4)) 1))]
abbrev b_lex_All_45 : AC := .run [(.op (some 57) none (.mv (.s 6))), (.op (some 58) none (.mv (.s 0))), (.op (some 59) none (.mv (.s 6))), (.call (some 60) none n_lex_sign [(.s 58), (.s 59)]), (.op (some 61) none (.bin .add (.s 57) (.s 60))), (.op (some 6) none (.mv (.s 61)))]
abbrev b_lex_All_47 : AC := .run [(.op (some 62) none (.mv (.s 0))), (.op (some 63) none (.faddr (.s 5) 3)), (.op (some 64) none (.load (.s 63) false 1)), (.op (some 65) none (.mv (.s 6))), (.op (some 66) none (.sslc (.s 62) (some (.s 64)) (some (.s 65)))), (.op (some 67) none (.faddr (.s 5) 1)), (.op none none (.store (.s 67) (.s 66) 1))]
abbrev b_lex_All_49 : AC := .run [(.op (some 7) none (.mv (.k (.int .i64 2))))]
abbrev b_lex_All_52 : AC := .run [(.op (some 68) none (.mv (.s 6))), (.op (some 69) none (.faddr (.s 5) 3)), (.op (some 70) none (.load (.s 69) false 1)), (.op (some 71) none (.bin .gtr (.s 68) (.s 70)))]
abbrev b_lex_All_53 : AC := .cond (.s 71) (.goto 4) .skip
abbrev b_lex_All_51 : AC := .seq b_lex_All_52 b_lex_All_53
abbrev b_lex_All_61 : AC := .run [(.op (some 72) none (.mv (.s 6))), (.op (some 73) none (.mv (.s 0))), (.op (some 74) none (.slen (.s 73))), (.op (some 75) none (.bin .lss (.s 72) (.s 74))), (.op (some 76) none (.mv (.s 75))), (.op (some 77) (some (76, true)) (.mv (.s 0))), (.op (some 78) (some (76, true)) (.mv (.s 6))), (.op (some 79) (some (76, true)) (.sidx (.s 77) (.s 78))), (.op (some 80) (some (76, true)) (.bin .neq (.s 79) (.k (.int .u8 10)))), (.op (some 81) none (.pick (.s 76) (.s 80) (.k (.bool false))))]
abbrev b_lex_All_62 : AC := .cond (.s 81) .skip (.exit 1)
abbrev b_lex_All_60 : AC := .seq b_lex_All_61 b_lex_All_62
abbrev b_lex_All_64 : AC := .run [(.op (some 82) none (.mv (.s 6))), (.op (some 83) none (.bin .add (.s 82) (.k (.int .i64 1)))), (.op (some 6) none (.mv (.s 83)))]
abbrev b_lex_All_63 : AC := .block 2 b_lex_All_64
abbrev b_lex_All_59 : AC := .seq b_lex_All_60 b_lex_All_63
abbrev b_lex_All_58 : AC := .loop b_lex_All_59
abbrev b_lex_All_57 : AC := .block 1 b_lex_All_58
abbrev b_lex_All_68 : AC := .run [(.op (some 84) none (.mv (.s 0))), (.op (some 85) none (.mv (.s 6))), (.call (some 86) none n_lex_run [(.s 84), (.s 85)]), (.op (some 6) none (.mv (.s 86)))]
abbrev b_lex_All_70 : AC := .par [(.op (some 87) none (.mv (.s 0))), (.op (some 88) none (.faddr (.s 5) 3)), (.op (some 89) none (.load (.s 88) false 1)), (.op (some 90) none (.mv (.s 6))), (.op (some 91) none (.sslc (.s 87) (some (.s 89)) (some (.s 90)))), (.op (some 92) none (.faddr (.s 5) 0)), (.op none none (.store (.s 92) (.k (.int .i64 1)) 1)), (.op (some 93) none (.faddr (.s 5) 1)), (.op none none (.store (.s 93) (.s 91) 1))] [(1, 0), (2, 0), (5, 0), (6, 0), (0, 0), (3, 0), (4, 0), (7, 0), (8, 0)]
abbrev b_lex_All_73 : AC := .run [(.op (some 94) none (.faddr (.s 5) 1)), (.op (some 95) none (.load (.s 94) false 1)), (.call (some 96) none n_lex_Word [(.s 95)])]
abbrev b_lex_All_75 : AC := .run [(.op (some 97) none (.faddr (.s 5) 0)), (.op none none (.store (.s 97) (.k (.int .i64 3)) 1))]
abbrev b_lex_All_74 : AC := .cond (.s 96) b_lex_All_75 .skip
abbrev b_lex_All_72 : AC := .seq b_lex_All_73 b_lex_All_74
abbrev b_lex_All_77 : AC := .run [(.op (some 7) none (.mv (.k (.int .i64 4))))]
abbrev b_lex_All_80 : AC := .run [(.op (some 98) none (.mv (.s 6))), (.op (some 99) none (.faddr (.s 5) 3)), (.op (some 100) none (.load (.s 99) false 1)), (.op (some 101) none (.bin .sub (.s 98) (.s 100))), (.op (some 102) none (.bin .gtr (.s 101) (.k (.int .i64 8))))]
abbrev b_lex_All_81 : AC := .cond (.s 102) (.goto 5) .skip
abbrev b_lex_All_79 : AC := .seq b_lex_All_80 b_lex_All_81
abbrev b_lex_All_89 : AC := .run [(.op (some 103) none (.mv (.s 6))), (.op (some 104) none (.mv (.s 0))), (.op (some 105) none (.slen (.s 104))), (.op (some 106) none (.bin .lss (.s 103) (.s 105))), (.op (some 107) none (.mv (.s 106))), (.op (some 108) (some (107, true)) (.mv (.s 0))), (.op (some 109) (some (107, true)) (.mv (.s 6))), (.op (some 110) (some (107, true)) (.sidx (.s 108) (.s 109))), (.call (some 111) (some (107, true)) n_lex_digit [(.s 110)]), (.op (some 112) none (.pick (.s 107) (.s 111) (.k (.bool false))))]
abbrev b_lex_All_90 : AC := .cond (.s 112) .skip (.exit 3)
abbrev b_lex_All_88 : AC := .seq b_lex_All_89 b_lex_All_90
abbrev b_lex_All_92 : AC := .run [(.op (some 113) none (.mv (.s 6))), (.op (some 114) none (.bin .add (.s 113) (.k (.int .i64 1)))), (.op (some 6) none (.mv (.s 114)))]
abbrev b_lex_All_91 : AC := .block 4 b_lex_All_92
abbrev b_lex_All_87 : AC := .seq b_lex_All_88 b_lex_All_91
abbrev b_lex_All_86 : AC := .loop b_lex_All_87
abbrev b_lex_All_85 : AC := .block 3 b_lex_All_86
abbrev b_lex_All_94 : AC := .par [(.op (some 115) none (.mv (.s 0))), (.op (some 116) none (.faddr (.s 5) 3)), (.op (some 117) none (.load (.s 116) false 1)), (.op (some 118) none (.mv (.s 6))), (.op (some 119) none (.sslc (.s 115) (some (.s 117)) (some (.s 118)))), (.op (some 120) none (.faddr (.s 5) 0)), (.op none none (.store (.s 120) (.k (.int .i64 2)) 1)), (.op (some 121) none (.faddr (.s 5) 1)), (.op none none (.store (.s 121) (.s 119) 1)), (.op (some 7) none (.mv (.k (.int .i64 2))))] [(1, 0), (2, 0), (5, 0), (6, 0), (0, 0), (3, 0), (4, 0), (7, 0), (8, 0), (9, 0)]
abbrev b_lex_All_97 : AC := .run [(.op (some 122) none (.faddr (.s 5) 1)), (.op (some 123) none (.load (.s 122) false 1)), (.op (some 124) none (.slen (.s 123))), (.op (some 125) none (.bin .gtr (.s 124) (.k (.int .i64 1)))), (.op (some 126) none (.mv (.s 125))), (.op (some 127) (some (126, true)) (.faddr (.s 5) 1)), (.op (some 128) (some (126, true)) (.load (.s 127) false 1)), (.op (some 129) (some (126, true)) (.sidx (.s 128) (.k (.int .i64 0)))), (.op (some 130) (some (126, true)) (.bin .eql (.s 129) (.k (.int .u8 48)))), (.op (some 131) none (.pick (.s 126) (.s 130) (.k (.bool false))))]
abbrev b_lex_All_98 : AC := .cond (.s 131) (.goto 5) .skip
abbrev b_lex_All_96 : AC := .seq b_lex_All_97 b_lex_All_98
abbrev b_lex_All_100 : AC := .run [(.op (some 133) none (.faddr (.s 5) 1)), (.op (some 134) none (.load (.s 133) false 1)), (.call (some 135) none n_lex_number [(.s 134)]), (.op (some 132) none (.mv (.s 135))), (.op (some 136) none (.ext (.s 132) 0)), (.op (some 137) none (.ext (.s 132) 1)), (.op (some 138) none (.faddr (.s 5) 2)), (.op none none (.store (.s 138) (.s 136) 1)), (.op (some 8) none (.mv (.s 137)))]
abbrev b_lex_All_102 : AC := .run [(.op (some 7) none (.mv (.k (.int .i64 4))))]
abbrev b_lex_All_105 : AC := .run [(.op (some 139) none (.mv (.s 8))), (.op (some 140) none (.un .not (.s 139)))]
abbrev b_lex_All_106 : AC := .cond (.s 140) (.goto 5) .skip
abbrev b_lex_All_104 : AC := .seq b_lex_All_105 b_lex_All_106
abbrev b_lex_All_109 : AC := .run [(.op (some 7) none (.mv (.k (.int .i64 4))))]
abbrev b_lex_All_112 : AC := .run [(.op (some 141) none (.mv (.s 4))), (.op (some 142) none (.len (.s 141))), (.op (some 143) none (.bin .eql (.s 142) (.k (.int .i64 2000))))]
abbrev b_lex_All_113 : AC := .cond (.s 143) (.goto 5) .skip
abbrev b_lex_All_111 : AC := .seq b_lex_All_112 b_lex_All_113
abbrev b_lex_All_115 : AC := .run [(.op (some 144) none (.mv (.s 4))), (.op (some 145) none (.load (.s 5) true 4)), (.op (some 146) none (.bslice [(.int .i64 0), (.str []), (.int .i64 0), (.int .i64 0)] 4 1 [(0, (.s 145))])), (.op (some 147) none (.app 4 40 (.s 144) (.s 146))), (.op (some 4) none (.mv (.s 147)))]
abbrev b_lex_All_119 : AC := .par [(.op (some 148) none (.mv (.s 7))), (.op (some 149) none (.faddr (.s 5) 3)), (.op (some 150) none (.load (.s 149) false 1)), (.op (some 151) none (.build [(.int .i64 0), (.int .i64 0)] [(0, (1, (.s 148))), (1, (1, (.s 150)))])), (.op (some 2) none (.mv (.k (.slice .full 0 [])))), (.op none none (.store (.s 3) (.s 151) 2))] [(0, 0), (1, 0), (2, 0), (3, 0), (4, 0), (5, 0)]
abbrev b_lex_All_118 : AC := .seq b_lex_All_119 .ret
abbrev b_lex_All_117 : AC := .seq (.label 5) b_lex_All_118
abbrev b_lex_All_116 : AC := .seq (.goto 0) b_lex_All_117
abbrev b_lex_All_114 : AC := .seq b_lex_All_115 b_lex_All_116
abbrev b_lex_All_110 : AC := .seq b_lex_All_111 b_lex_All_114
abbrev b_lex_All_108 : AC := .seq b_lex_All_109 b_lex_All_110
abbrev b_lex_All_107 : AC := .seq (.label 4) b_lex_All_108
abbrev b_lex_All_103 : AC := .seq b_lex_All_104 b_lex_All_107
abbrev b_lex_All_101 : AC := .seq b_lex_All_102 b_lex_All_103
abbrev b_lex_All_99 : AC := .seq b_lex_All_100 b_lex_All_101
abbrev b_lex_All_95 : AC := .seq b_lex_All_96 b_lex_All_99
abbrev b_lex_All_93 : AC := .seq b_lex_All_94 b_lex_All_95
abbrev b_lex_All_84 : AC := .seq b_lex_All_85 b_lex_All_93
abbrev b_lex_All_83 : AC := .seq (.label 3) b_lex_All_84
abbrev b_lex_All_82 : AC := .seq (.goto 4) b_lex_All_83
abbrev b_lex_All_78 : AC := .seq b_lex_All_79 b_lex_All_82
abbrev b_lex_All_76 : AC := .seq b_lex_All_77 b_lex_All_78
abbrev b_lex_All_71 : AC := .seq b_lex_All_72 b_lex_All_76
abbrev b_lex_All_69 : AC := .seq b_lex_All_70 b_lex_All_71
abbrev b_lex_All_67 : AC := .seq b_lex_All_68 b_lex_All_69
abbrev b_lex_All_66 : AC := .seq (.label 2) b_lex_All_67
abbrev b_lex_All_65 : AC := .seq (.goto 0) b_lex_All_66
abbrev b_lex_All_56 : AC := .seq b_lex_All_57 b_lex_All_65
abbrev b_lex_All_55 : AC := .seq (.label 1) b_lex_All_56
abbrev b_lex_All_54 : AC := .seq (.goto 5) b_lex_All_55
abbrev b_lex_All_50 : AC := .seq b_lex_All_51 b_lex_All_54
abbrev b_lex_All_48 : AC := .seq b_lex_All_49 b_lex_All_50
abbrev b_lex_All_46 : AC := .seq b_lex_All_47 b_lex_All_48
abbrev b_lex_All_44 : AC := .seq b_lex_All_45 b_lex_All_46
abbrev b_lex_All_42 : AC := .seq b_lex_All_43 b_lex_All_44
abbrev b_lex_All_24 : AC := .seq b_lex_All_25 b_lex_All_42
abbrev b_lex_All_22 : AC := .seq b_lex_All_23 b_lex_All_24
abbrev b_lex_All_16 : AC := .seq b_lex_All_17 b_lex_All_22
abbrev b_lex_All_15 : AC := .seq (.label 0) b_lex_All_16
abbrev b_lex_All_9 : AC := .seq b_lex_All_10 b_lex_All_15
abbrev b_lex_All_7 : AC := .seq b_lex_All_8 b_lex_All_9
abbrev b_lex_All_5 : AC := .seq b_lex_All_6 b_lex_All_7
abbrev b_lex_All_3 : AC := .seq b_lex_All_4 b_lex_All_5
abbrev b_lex_All_2 : AC := .scope b_lex_All_3
abbrev b_lex_All_0 : AC := .seq b_lex_All_1 b_lex_All_2
abbrev b_ref3_EqTexts_1 : AC := .run [(.op (some 4) none (.mv (.k (.bool false))))]
abbrev b_ref3_EqTexts_4 : AC := .run [(.op (some 6) none (.mv (.s 0))), (.op (some 7) none (.len (.s 6))), (.op (some 8) none (.mv (.s 1))), (.op (some 9) none (.len (.s 8))), (.op (some 10) none (.bin .neq (.s 7) (.s 9)))]
abbrev b_ref3_EqTexts_7 : AC := .run [(.op (some 4) none (.mv (.k (.bool false))))]
abbrev b_ref3_EqTexts_6 : AC := .seq b_ref3_EqTexts_7 .ret
abbrev b_ref3_EqTexts_5 : AC := .cond (.s 10) b_ref3_EqTexts_6 .skip
abbrev b_ref3_EqTexts_3 : AC := .seq b_ref3_EqTexts_4 b_ref3_EqTexts_5
abbrev b_ref3_EqTexts_10 : AC := .run [(.op (some 11) none (.mv (.s 0))), (.op (some 12) none (.len (.s 11))), (.op (some 13) none (.mv (.k (.int .i64 0))))]
abbrev b_ref3_EqTexts_14 : AC := .run [(.op (some 14) none (.bin .lss (.s 13) (.s 12)))]
abbrev b_ref3_EqTexts_16 : AC := .cond (.s 14) .skip (.exit 0)
abbrev b_ref3_EqTexts_20 : AC := .run [(.op (some 15) none (.mv (.s 13))), (.op (some 5) none (.mv (.s 15)))]
abbrev b_ref3_EqTexts_22 : AC := .par [(.op (some 16) none (.mv (.s 0))), (.op (some 17) none (.mv (.s 5))), (.op (some 18) none (.iaddr (.s 16) (.s 17) 1)), (.op (some 19) none (.load (.s 18) false 1)), (.op (some 20) none (.mv (.s 1))), (.op (some 21) none (.mv (.s 5))), (.op (some 22) none (.iaddr (.s 20) (.s 21) 1)), (.op (some 23) none (.load (.s 22) false 1)), (.op (some 24) none (.bin .neq (.s 19) (.s 23)))] [(0, 0), (1, 0), (2, 0), (3, 0), (4, 0), (5, 0), (6, 0), (7, 0), (8, 0)]
abbrev b_ref3_EqTexts_25 : AC := .run [(.op (some 4) none (.mv (.k (.bool false))))]
abbrev b_ref3_EqTexts_24 : AC := .seq b_ref3_EqTexts_25 .ret
abbrev b_ref3_EqTexts_23 : AC := .cond (.s 24) b_ref3_EqTexts_24 .skip
abbrev b_ref3_EqTexts_21 : AC := .seq b_ref3_EqTexts_22 b_ref3_EqTexts_23
abbrev b_ref3_EqTexts_19 : AC := .seq b_ref3_EqTexts_20 b_ref3_EqTexts_21
abbrev b_ref3_EqTexts_18 : AC := .block 1 b_ref3_EqTexts_19
abbrev b_ref3_EqTexts_26 : AC := .run [(.op (some 25) none (.bin .add (.s 13) (.k (.int .i64 1)))), (.op (some 13) none (.mv (.s 25)))]
abbrev b_ref3_EqTexts_17 : AC := .seq b_ref3_EqTexts_18 b_ref3_EqTexts_26
abbrev b_ref3_EqTexts_15 : AC := .seq b_ref3_EqTexts_16 b_ref3_EqTexts_17
abbrev b_ref3_EqTexts_13 : AC := .seq b_ref3_EqTexts_14 b_ref3_EqTexts_15
abbrev b_ref3_EqTexts_12 : AC := .loop b_ref3_EqTexts_13
abbrev b_ref3_EqTexts_11 : AC := .block 0 b_ref3_EqTexts_12
abbrev b_ref3_EqTexts_9 : AC := .seq b_ref3_EqTexts_10 b_ref3_EqTexts_11
abbrev b_ref3_EqTexts_28 : AC := .run [(.op (some 4) none (.mv (.k (.bool true))))]
abbrev b_ref3_EqTexts_27 : AC := .seq b_ref3_EqTexts_28 .ret
abbrev b_ref3_EqTexts_8 : AC := .seq b_ref3_EqTexts_9 b_ref3_EqTexts_27
abbrev b_ref3_EqTexts_2 : AC := .seq b_ref3_EqTexts_3 b_ref3_EqTexts_8
abbrev b_ref3_EqTexts_0 : AC := .seq b_ref3_EqTexts_1 b_ref3_EqTexts_2
abbrev b_ref3_Source_1 : AC := .run [(.op (some 0) none (.mv (.k (.str []))))]
abbrev b_ref3_Source_3 : AC := .run [(.op (some 0) none (.mv (.k (.str [103, 108, 111, 98, 97, 108, 32, 103, 59, 10, 112, 114, 111, 99, 32, 109, 97, 105, 110, 40, 41, 32, 123, 10, 32, 118, 97, 114, 32, 118, 59, 10, 32, 118, 32, 61, 32, 50, 59, 10, 32, 103, 32, 61, 32, 112, 40, 51, 44, 32, 114, 101, 102, 32, 118, 41, 59, 10, 32, 112, 114, 105, 110, 116, 32, 118, 59, 10, 32, 112, 114, 105, 110, 116, 32, 103, 59, 10, 125, 10, 112, 114, 111, 99, 32, 112, 40, 120, 44, 32, 114, 101, 102, 32, 121, 41, 32, 123, 10, 32, 121, 32, 61, 32, 121, 32, 43, 32, 120, 59, 10, 32, 105, 102, 32, 40, 121, 32, 62, 32, 57, 41, 32, 123, 10, 32, 32, 103, 111, 116, 111, 32, 101, 59, 10, 32, 125, 10, 32, 114, 101, 116, 117, 114, 110, 32, 121, 59, 10, 101, 58, 32, 125, 10]))))]
abbrev b_ref3_Source_2 : AC := .seq b_ref3_Source_3 .ret
abbrev b_ref3_Source_0 : AC := .seq b_ref3_Source_1 b_ref3_Source_2
abbrev b_ref3_Some_1 : AC := .run [(.op (some 0) none (.alloc [(.slice .full 0 []), (.slice .full 0 [])]))]
abbrev b_ref3_Some_3 : AC := .run [(.op (some 3) none (.bslice [(.str [])] 1 1 [(0, (.k (.str [118])))])), (.call (some 4) none n_ref3_num [(.k (.int .i64 2))]), (.op (some 5) none (.build [(.int .i64 0), (.int .i64 0), (.slice .full 0 []), (.str []), (.str []), (.int .i64 0), (.int .i64 0), (.str []), (.slice .full 0 []), (.bool false), (.slice .full 0 []), (.slice .full 0 []), (.slice .full 0 [])] [(0, (1, (.k (.int .i64 1)))), (1, (1, (.k (.int .i64 1)))), (3, (1, (.k (.str [118])))), (5, (4, (.s 4)))])), (.call (some 6) none n_ref3_num [(.k (.int .i64 3))]), (.op (some 7) none (.build [(.bool false), (.str []), (.int .i64 0), (.int .i64 0), (.str []), (.slice .full 0 [])] [(2, (4, (.s 6)))])), (.op (some 8) none (.build [(.bool false), (.str []), (.int .i64 0), (.int .i64 0), (.str []), (.slice .full 0 [])] [(0, (1, (.k (.bool true)))), (1, (1, (.k (.str [118]))))])), (.op (some 9) none (.bslice [(.bool false), (.str []), (.int .i64 0), (.int .i64 0), (.str []), (.slice .full 0 [])] 6 2 [(0, (.s 7)), (1, (.s 8))])), (.op (some 10) none (.build [(.int .i64 0), (.int .i64 0), (.slice .full 0 []), (.str []), (.str []), (.int .i64 0), (.int .i64 0), (.str []), (.slice .full 0 []), (.bool false), (.slice .full 0 []), (.slice .full 0 []), (.slice .full 0 [])] [(0, (1, (.k (.int .i64 2)))), (1, (1, (.k (.int .i64 4)))), (3, (1, (.k (.str [103])))), (4, (1, (.k (.str [112])))), (10, (1, (.s 9)))])), (.call (some 11) none n_ref3_name [(.k (.str [118]))]), (.op (some 12) none (.build [(.int .i64 0), (.int .i64 0), (.slice .full 0 []), (.str []), (.str []), (.int .i64 0), (.int .i64 0), (.str []), (.slice .full 0 []), (.bool false), (.slice .full 0 []), (.slice .full 0 []), (.slice .full 0 [])] [(0, (1, (.k (.int .i64 3)))), (1, (1, (.k (.int .i64 3)))), (5, (4, (.s 11)))])), (.call (some 13) none n_ref3_name [(.k (.str [103]))]), (.op (some 14) none (.build [(.int .i64 0), (.int .i64 0), (.slice .full 0 []), (.str []), (.str []), (.int .i64 0), (.int .i64 0), (.str []), (.slice .full 0 []), (.bool false), (.slice .full 0 []), (.slice .full 0 []), (.slice .full 0 [])] [(0, (1, (.k (.int .i64 4)))), (1, (1, (.k (.int .i64 3)))), (5, (4, (.s 13)))])), (.op (some 15) none (.bslice [(.int .i64 0), (.int .i64 0), (.slice .full 0 []), (.str []), (.str []), (.int .i64 0), (.int .i64 0), (.str []), (.slice .full 0 []), (.bool false), (.slice .full 0 []), (.slice .full 0 []), (.slice .full 0 [])] 13 4 [(0, (.s 5)), (1, (.s 10)), (2, (.s 12)), (3, (.s 14))])), (.op (some 16) none (.build [(.str []), (.slice .full 0 []), (.slice .full 0 []), (.slice .full 0 []), (.slice .full 0 [])] [(0, (1, (.k (.str [109, 97, 105, 110])))), (2, (1, (.s 3))), (3, (1, (.s 15)))])), (.op (some 1) none (.alloc [(.str []), (.slice .full 0 []), (.slice .full 0 []), (.slice .full 0 []), (.slice .full 0 [])])), (.op none none (.store (.s 1) (.s 16) 5))]
abbrev b_ref3_Some_5 : AC := .run [(.op (some 17) none (.build [(.str []), (.bool false)] [(0, (1, (.k (.str [120]))))])), (.op (some 18) none (.build [(.str []), (.bool false)] [(0, (1, (.k (.str [121])))), (1, (1, (.k (.bool true))))])), (.op (some 19) none (.bslice [(.str []), (.bool false)] 2 2 [(0, (.s 17)), (1, (.s 18))])), (.op (some 20) none (.bslice [(.str [])] 1 1 [(0, (.k (.str [101])))])), (.call (some 21) none n_ref3_name [(.k (.str [121]))]), (.call (some 22) none n_ref3_name [(.k (.str [120]))]), (.call (some 23) none n_ref3_two [(.k (.int .i64 8)), (.s 21), (.s 22)]), (.op (some 24) none (.build [(.int .i64 0), (.int .i64 0), (.slice .full 0 []), (.str []), (.str []), (.int .i64 0), (.int .i64 0), (.str []), (.slice .full 0 []), (.bool false), (.slice .full 0 []), (.slice .full 0 []), (.slice .full 0 [])] [(0, (1, (.k (.int .i64 5)))), (1, (1, (.k (.int .i64 1)))), (3, (1, (.k (.str [121])))), (5, (4, (.s 23)))])), (.call (some 25) none n_ref3_name [(.k (.str [121]))]), (.call (some 26) none n_ref3_num [(.k (.int .i64 9))]), (.call (some 27) none n_ref3_two [(.k (.int .i64 12)), (.s 25), (.s 26)]), (.op (some 28) none (.build [(.int .i64 0), (.int .i64 0), (.slice .full 0 []), (.str []), (.str []), (.int .i64 0), (.int .i64 0), (.str []), (.slice .full 0 []), (.bool false), (.slice .full 0 []), (.slice .full 0 []), (.slice .full 0 [])] [(0, (1, (.k (.int .i64 7)))), (1, (1, (.k (.int .i64 10)))), (3, (1, (.k (.str [101]))))])), (.op (some 29) none (.bslice [(.int .i64 0), (.int .i64 0), (.slice .full 0 []), (.str []), (.str []), (.int .i64 0), (.int .i64 0), (.str []), (.slice .full 0 []), (.bool false), (.slice .full 0 []), (.slice .full 0 []), (.slice .full 0 [])] 13 1 [(0, (.s 28))])), (.op (some 30) none (.build [(.int .i64 0), (.int .i64 0), (.slice .full 0 []), (.str []), (.str []), (.int .i64 0), (.int .i64 0), (.str []), (.slice .full 0 []), (.bool false), (.slice .full 0 []), (.slice .full 0 []), (.slice .full 0 [])] [(0, (1, (.k (.int .i64 6)))), (1, (1, (.k (.int .i64 5)))), (5, (4, (.s 27))), (11, (1, (.s 29)))])), (.call (some 31) none n_ref3_name [(.k (.str [121]))]), (.op (some 32) none (.build [(.int .i64 0), (.int .i64 0), (.slice .full 0 []), (.str []), (.str []), (.int .i64 0), (.int .i64 0), (.str []), (.slice .full 0 []), (.bool false), (.slice .full 0 []), (.slice .full 0 []), (.slice .full 0 [])] [(0, (1, (.k (.int .i64 8)))), (1, (1, (.k (.int .i64 9)))), (9, (1, (.k (.bool true)))), (5, (4, (.s 31)))])), (.op (some 33) none (.bslice [(.int .i64 0), (.int .i64 0), (.slice .full 0 []), (.str []), (.str []), (.int .i64 0), (.int .i64 0), (.str []), (.slice .full 0 []), (.bool false), (.slice .full 0 []), (.slice .full 0 []), (.slice .full 0 [])] 13 3 [(0, (.s 24)), (1, (.s 30)), (2, (.s 32))])), (.op (some 34) none (.build [(.str []), (.slice .full 0 []), (.slice .full 0 []), (.slice .full 0 []), (.slice .full 0 [])] [(0, (1, (.k (.str [112])))), (1, (1, (.s 19))), (4, (1, (.s 20))), (3, (1, (.s 33)))])), (.op (some 2) none (.alloc [(.str []), (.slice .full 0 []), (.slice .full 0 []), (.slice .full 0 []), (.slice .full 0 [])])), (.op none none (.store (.s 2) (.s 34) 5))]
abbrev b_ref3_Some_7 : AC := .run [(.op (some 35) none (.bslice [(.str [])] 1 1 [(0, (.k (.str [103])))])), (.op (some 36) none (.load (.s 1) true 5)), (.op (some 37) none (.load (.s 2) true 5)), (.op (some 38) none (.bslice [(.str []), (.slice .full 0 []), (.slice .full 0 []), (.slice .full 0 []), (.slice .full 0 [])] 5 2 [(0, (.s 36)), (1, (.s 37))])), (.op (some 39) none (.build [(.slice .full 0 []), (.slice .full 0 [])] [(0, (1, (.s 35))), (1, (1, (.s 38)))])), (.op none none (.store (.s 0) (.s 39) 2))]
abbrev b_ref3_Some_6 : AC := .seq b_ref3_Some_7 .ret
abbrev b_ref3_Some_4 : AC := .seq b_ref3_Some_5 b_ref3_Some_6
abbrev b_ref3_Some_2 : AC := .seq b_ref3_Some_3 b_ref3_Some_4
abbrev b_ref3_Some_0 : AC := .seq b_ref3_Some_1 b_ref3_Some_2
abbrev b_parse_reader_program_1 : AC := .run [(.op (some 2) none (.alloc [(.slice .full 0 []), (.slice .full 0 [])]))]
abbrev b_parse_reader_program_3 : AC := .run [(.op (some 3) none (.alloc [(.slice .full 0 []), (.slice .full 0 [])]))]
abbrev b_parse_reader_program_9 : AC := .run [(.op (some 4) none (.mv (.s 0))), (.call (some 5) none n_parse_reader_take [(.s 4), (.k (.str [103, 108, 111, 98, 97, 108]))])]
abbrev b_parse_reader_program_10 : AC := .cond (.s 5) .skip (.exit 0)
abbrev b_parse_reader_program_8 : AC := .seq b_parse_reader_program_9 b_parse_reader_program_10
abbrev b_parse_reader_program_12 : AC := .run [(.op (some 6) none (.mv (.s 0))), (.op (some 7) none (.faddr (.s 3) 0)), (.op (some 8) none (.load (.s 7) false 1)), (.call (some 9) none n_parse_reader_names [(.s 6), (.s 8), (.k (.int .i64 16))]), (.op (some 10) none (.faddr (.s 3) 0)), (.op none none (.store (.s 10) (.s 9) 1))]
abbrev b_parse_reader_program_11 : AC := .block 1 b_parse_reader_program_12
abbrev b_parse_reader_program_7 : AC := .seq b_parse_reader_program_8 b_parse_reader_program_11
abbrev b_parse_reader_program_6 : AC := .loop b_parse_reader_program_7
abbrev b_parse_reader_program_5 : AC := .block 0 b_parse_reader_program_6
abbrev b_parse_reader_program_18 : AC := .run [(.op (some 11) none (.mv (.s 0))), (.call (some 12) none n_parse_reader_good [(.s 11)]), (.op (some 13) none (.mv (.s 12))), (.op (some 14) (some (13, true)) (.mv (.s 0))), (.call (some 15) (some (13, true)) n_parse_reader_is [(.s 14), (.k (.str [112, 114, 111, 99]))]), (.op (some 16) none (.pick (.s 13) (.s 15) (.k (.bool false))))]
abbrev b_parse_reader_program_19 : AC := .cond (.s 16) .skip (.exit 2)
abbrev b_parse_reader_program_17 : AC := .seq b_parse_reader_program_18 b_parse_reader_program_19
abbrev b_parse_reader_program_23 : AC := .run [(.op (some 17) none (.faddr (.s 3) 1)), (.op (some 18) none (.load (.s 17) false 1)), (.op (some 19) none (.len (.s 18))), (.op (some 20) none (.bin .eql (.s 19) (.k (.int .i64 16))))]
abbrev b_parse_reader_program_26 : AC := .run [(.op (some 21) none (.mv (.s 0))), (.call (some 22) none n_parse_reader_bad [(.s 21), (.k (.int .i64 4))])]
abbrev b_parse_reader_program_28 : AC := .run [(.op (some 23) none (.load (.s 3) true 2)), (.op none none (.store (.s 2) (.s 23) 2))]
abbrev b_parse_reader_program_27 : AC := .seq b_parse_reader_program_28 .ret
abbrev b_parse_reader_program_25 : AC := .seq b_parse_reader_program_26 b_parse_reader_program_27
abbrev b_parse_reader_program_24 : AC := .cond (.s 20) b_parse_reader_program_25 .skip
abbrev b_parse_reader_program_22 : AC := .seq b_parse_reader_program_23 b_parse_reader_program_24
abbrev b_parse_reader_program_30 : AC := .run [(.op (some 24) none (.mv (.s 0))), (.op (some 25) none (.nilck (.s 24))), (.op (some 26) none (.faddr (.s 25) 1)), (.op (some 27) none (.load (.s 26) false 1)), (.op (some 28) none (.bin .add (.s 27) (.k (.int .i64 1)))), (.op (some 29) none (.nilck (.s 24))), (.op (some 30) none (.faddr (.s 29) 1)), (.op none none (.store (.s 30) (.s 28) 1))]
abbrev b_parse_reader_program_31 : AC := .par [(.op (some 31) none (.faddr (.s 3) 1)), (.op (some 32) none (.load (.s 31) false 1)), (.op (some 33) none (.mv (.s 0))), (.call (some 34) none n_parse_reader_proc [(.s 33)]), (.op (some 35) none (.bslice [(.str []), (.slice .full 0 []), (.slice .full 0 []), (.slice .full 0 []), (.slice .full 0 [])] 5 1 [(0, (.s 34))])), (.op (some 36) none (.app 5 112 (.s 32) (.s 35))), (.op (some 37) none (.faddr (.s 3) 1)), (.op none none (.store (.s 37) (.s 36) 1))] [(2, 0), (3, 0), (0, 0), (1, 1), (4, 0), (5, 0), (6, 0), (7, 0)]
abbrev b_parse_reader_program_29 : AC := .seq b_parse_reader_program_30 b_parse_reader_program_31
abbrev b_parse_reader_program_21 : AC := .seq b_parse_reader_program_22 b_parse_reader_program_29
abbrev b_parse_reader_program_20 : AC := .block 3 b_parse_reader_program_21
abbrev b_parse_reader_program_16 : AC := .seq b_parse_reader_program_17 b_parse_reader_program_20
abbrev b_parse_reader_program_15 : AC := .loop b_parse_reader_program_16
abbrev b_parse_reader_program_14 : AC := .block 2 b_parse_reader_program_15
abbrev b_parse_reader_program_34 : AC := .run [(.op (some 38) none (.mv (.s 0))), (.call (some 39) none n_parse_reader_good [(.s 38)]), (.op (some 40) none (.mv (.s 39))), (.op (some 41) (some (40, true)) (.mv (.s 0))), (.call (some 42) (some (40, true)) n_parse_reader_peek [(.s 41)]), (.op (some 43) (some (40, true)) (.fld (.s 42) 0 false 1)), (.op (some 44) (some (40, true)) (.bin .neq (.s 43) (.k (.int .i64 0)))), (.op (some 45) none (.pick (.s 40) (.s 44) (.k (.bool false))))]
abbrev b_parse_reader_program_36 : AC := .run [(.op (some 46) none (.mv (.s 0))), (.call (some 47) none n_parse_reader_bad [(.s 46), (.k (.int .i64 3))])]
abbrev b_parse_reader_program_35 : AC := .cond (.s 45) b_parse_reader_program_36 .skip
abbrev b_parse_reader_program_33 : AC := .seq b_parse_reader_program_34 b_parse_reader_program_35
abbrev b_parse_reader_program_38 : AC := .run [(.op (some 48) none (.load (.s 3) true 2)), (.op none none (.store (.s 2) (.s 48) 2))]
abbrev b_parse_reader_program_37 : AC := .seq b_parse_reader_program_38 .ret
abbrev b_parse_reader_program_32 : AC := .seq b_parse_reader_program_33 b_parse_reader_program_37
abbrev b_parse_reader_program_13 : AC := .seq b_parse_reader_program_14 b_parse_reader_program_32
abbrev b_parse_reader_program_4 : AC := .seq b_parse_reader_program_5 b_parse_reader_program_13
abbrev b_parse_reader_program_2 : AC := .seq b_parse_reader_program_3 b_parse_reader_program_4
abbrev b_parse_reader_program_0 : AC := .seq b_parse_reader_program_1 b_parse_reader_program_2
abbrev b_tree_Number_1 : AC := .run [(.op (some 1) none (.box (.s 0))), (.op (some 2) none (.alloc [(.slice .full 0 []), (.slice .full 0 [])]))]
abbrev b_tree_Number_3 : AC := .run [(.op (some 3) none (.mv (.k (.int .i64 0))))]
abbrev b_tree_Number_5 : AC := .run [(.op (some 8) none (.faddr (.s 1) 0)), (.op (some 9) none (.load (.s 8) false 1)), (.call (some 10) none n_slices_Clone_string [(.s 9)]), (.op (some 11) none (.build [(.slice .full 0 []), (.slice .full 0 [])] [(0, (1, (.s 10)))])), (.op (some 4) none (.alloc [(.slice .full 0 []), (.slice .full 0 [])])), (.op none none (.store (.s 4) (.s 11) 2))]
abbrev b_tree_Number_8 : AC := .run [(.op (some 12) none (.faddr (.s 1) 1)), (.op (some 13) none (.load (.s 12) false 1)), (.op (some 14) none (.len (.s 13))), (.op (some 15) none (.mv (.k (.int .i64 0))))]
abbrev b_tree_Number_12 : AC := .run [(.op (some 16) none (.bin .lss (.s 15) (.s 14)))]
abbrev b_tree_Number_14 : AC := .cond (.s 16) .skip (.exit 0)
abbrev b_tree_Number_18 : AC := .run [(.op (some 17) none (.iaddr (.s 13) (.s 15) 5)), (.op (some 18) none (.load (.s 17) true 5)), (.op (some 6) none (.alloc [(.str []), (.slice .full 0 []), (.slice .full 0 []), (.slice .full 0 []), (.slice .full 0 [])])), (.op none none (.store (.s 6) (.s 18) 5))]
abbrev b_tree_Number_20 : AC := .par [(.op (some 19) none (.faddr (.s 6) 0)), (.op (some 20) none (.load (.s 19) false 1)), (.op (some 21) none (.faddr (.s 6) 1)), (.op (some 22) none (.load (.s 21) false 1)), (.call (some 23) none n_slices_Clone_api_Param [(.s 22)]), (.op (some 24) none (.faddr (.s 6) 2)), (.op (some 25) none (.load (.s 24) false 1)), (.call (some 26) none n_slices_Clone_string [(.s 25)]), (.op (some 27) none (.faddr (.s 6) 4)), (.op (some 28) none (.load (.s 27) false 1)), (.call (some 29) none n_slices_Clone_string [(.s 28)]), (.op (some 30) none (.build [(.str []), (.slice .full 0 []), (.slice .full 0 []), (.slice .full 0 []), (.slice .full 0 [])] [(0, (1, (.s 20))), (1, (1, (.s 23))), (2, (1, (.s 26))), (4, (1, (.s 29)))])), (.op (some 7) none (.alloc [(.str []), (.slice .full 0 []), (.slice .full 0 []), (.slice .full 0 []), (.slice .full 0 [])])), (.op none none (.store (.s 7) (.s 30) 5))] [(2, 0), (3, 0), (4, 0), (5, 0), (6, 1), (7, 0), (8, 0), (9, 2), (10, 0), (12, 0), (0, 0), (1, 4), (11, 0), (13, 0)]
abbrev b_tree_Number_22 : AC := .run [(.op (some 32) none (.faddr (.s 6) 3)), (.op (some 33) none (.load (.s 32) false 1)), (.op (some 34) none (.mv (.s 3))), (.call (some 35) none n_tree_copied [(.s 33), (.s 34), (.k (.bool true))]), (.op (some 31) none (.mv (.s 35))), (.op (some 36) none (.ext (.s 31) 0)), (.op (some 37) none (.ext (.s 31) 1)), (.op (some 38) none (.faddr (.s 7) 3)), (.op none none (.store (.s 38) (.s 36) 1)), (.op (some 3) none (.mv (.s 37)))]
abbrev b_tree_Number_23 : AC := .run [(.op (some 39) none (.faddr (.s 4) 1)), (.op (some 40) none (.load (.s 39) false 1)), (.op (some 41) none (.load (.s 7) true 5)), (.op (some 42) none (.bslice [(.str []), (.slice .full 0 []), (.slice .full 0 []), (.slice .full 0 []), (.slice .full 0 [])] 5 1 [(0, (.s 41))])), (.op (some 43) none (.app 5 112 (.s 40) (.s 42))), (.op (some 44) none (.faddr (.s 4) 1)), (.op none none (.store (.s 44) (.s 43) 1))]
abbrev b_tree_Number_21 : AC := .seq b_tree_Number_22 b_tree_Number_23
abbrev b_tree_Number_19 : AC := .seq b_tree_Number_20 b_tree_Number_21
abbrev b_tree_Number_17 : AC := .seq b_tree_Number_18 b_tree_Number_19
abbrev b_tree_Number_16 : AC := .block 1 b_tree_Number_17
abbrev b_tree_Number_24 : AC := .run [(.op (some 45) none (.bin .add (.s 15) (.k (.int .i64 1)))), (.op (some 15) none (.mv (.s 45)))]
abbrev b_tree_Number_15 : AC := .seq b_tree_Number_16 b_tree_Number_24
abbrev b_tree_Number_13 : AC := .seq b_tree_Number_14 b_tree_Number_15
abbrev b_tree_Number_11 : AC := .seq b_tree_Number_12 b_tree_Number_13
abbrev b_tree_Number_10 : AC := .loop b_tree_Number_11
abbrev b_tree_Number_9 : AC := .block 0 b_tree_Number_10
abbrev b_tree_Number_7 : AC := .seq b_tree_Number_8 b_tree_Number_9
abbrev b_tree_Number_26 : AC := .run [(.op (some 46) none (.load (.s 4) true 2)), (.op none none (.store (.s 2) (.s 46) 2))]
abbrev b_tree_Number_25 : AC := .seq b_tree_Number_26 .ret
abbrev b_tree_Number_6 : AC := .seq b_tree_Number_7 b_tree_Number_25
abbrev b_tree_Number_4 : AC := .seq b_tree_Number_5 b_tree_Number_6
abbrev b_tree_Number_2 : AC := .seq b_tree_Number_3 b_tree_Number_4
abbrev b_tree_Number_0 : AC := .seq b_tree_Number_1 b_tree_Number_2
abbrev b_ref1_Lex_1 : AC := .run [(.op (some 2) none (.mv (.k (.slice .full 0 [])))), (.op (some 3) none (.alloc [(.int .i64 0), (.int .i64 0)]))]
abbrev b_ref1_Lex_4 : AC := .run [(.op (some 8) none (.mv (.s 0))), (.op (some 9) none (.slen (.s 8))), (.op (some 10) none (.bin .gtr (.s 9) (.k (.int .i64 100000))))]
abbrev b_ref1_Lex_7 : AC := .run [(.op (some 11) none (.build [(.int .i64 0), (.int .i64 0)] [(0, (1, (.k (.int .i64 4))))])), (.op (some 2) none (.mv (.k (.slice .full 0 [])))), (.op none none (.store (.s 3) (.s 11) 2))]
abbrev b_ref1_Lex_6 : AC := .seq b_ref1_Lex_7 .ret
abbrev b_ref1_Lex_5 : AC := .cond (.s 10) b_ref1_Lex_6 .skip
abbrev b_ref1_Lex_3 : AC := .seq b_ref1_Lex_4 b_ref1_Lex_5
abbrev b_ref1_Lex_9 : AC := .run [(.op (some 4) none (.mv (.k (.slice .full 0 []))))]
abbrev b_ref1_Lex_12 : AC := .run [(.op (some 5) none (.mv (.k (.int .i64 0))))]
abbrev b_ref1_Lex_17 : AC := .run [(.op (some 12) none (.mv (.s 5))), (.op (some 13) none (.mv (.s 0))), (.op (some 14) none (.slen (.s 13))), (.op (some 15) none (.bin .lss (.s 12) (.s 14)))]
abbrev b_ref1_Lex_18 : AC := .cond (.s 15) .skip (.exit 0)
abbrev b_ref1_Lex_16 : AC := .seq b_ref1_Lex_17 b_ref1_Lex_18
abbrev b_ref1_Lex_22 : AC := .run [(.op (some 16) none (.mv (.s 0))), (.op (some 17) none (.mv (.s 5))), (.op (some 18) none (.sidx (.s 16) (.s 17))), (.call (some 19) none n_ref1_blank [(.s 18)])]
abbrev b_ref1_Lex_25 : AC := .run [(.op (some 20) none (.mv (.s 5))), (.op (some 21) none (.bin .add (.s 20) (.k (.int .i64 1)))), (.op (some 5) none (.mv (.s 21)))]
abbrev b_ref1_Lex_24 : AC := .seq b_ref1_Lex_25 (.exit 1)
abbrev b_ref1_Lex_23 : AC := .cond (.s 19) b_ref1_Lex_24 .skip
abbrev b_ref1_Lex_21 : AC := .seq b_ref1_Lex_22 b_ref1_Lex_23
abbrev b_ref1_Lex_28 : AC := .run [(.op (some 22) none (.mv (.s 0))), (.op (some 23) none (.mv (.s 5))), (.op (some 24) none (.sidx (.s 22) (.s 23))), (.op (some 25) none (.bin .eql (.s 24) (.k (.int .u8 35))))]
abbrev b_ref1_Lex_35 : AC := .run [(.op (some 26) none (.mv (.s 5))), (.op (some 27) none (.mv (.s 0))), (.op (some 28) none (.slen (.s 27))), (.op (some 29) none (.bin .lss (.s 26) (.s 28))), (.op (some 30) none (.mv (.s 29))), (.op (some 31) (some (30, true)) (.mv (.s 0))), (.op (some 32) (some (30, true)) (.mv (.s 5))), (.op (some 33) (some (30, true)) (.sidx (.s 31) (.s 32))), (.op (some 34) (some (30, true)) (.bin .neq (.s 33) (.k (.int .u8 10)))), (.op (some 35) none (.pick (.s 30) (.s 34) (.k (.bool false))))]
abbrev b_ref1_Lex_36 : AC := .cond (.s 35) .skip (.exit 2)
abbrev b_ref1_Lex_34 : AC := .seq b_ref1_Lex_35 b_ref1_Lex_36
abbrev b_ref1_Lex_38 : AC := .run [(.op (some 36) none (.mv (.s 5))), (.op (some 37) none (.bin .add (.s 36) (.k (.int .i64 1)))), (.op (some 5) none (.mv (.s 37)))]
abbrev b_ref1_Lex_37 : AC := .block 3 b_ref1_Lex_38
abbrev b_ref1_Lex_33 : AC := .seq b_ref1_Lex_34 b_ref1_Lex_37
abbrev b_ref1_Lex_32 : AC := .loop b_ref1_Lex_33
abbrev b_ref1_Lex_31 : AC := .block 2 b_ref1_Lex_32
abbrev b_ref1_Lex_30 : AC := .seq b_ref1_Lex_31 (.exit 1)
abbrev b_ref1_Lex_29 : AC := .cond (.s 25) b_ref1_Lex_30 .skip
abbrev b_ref1_Lex_27 : AC := .seq b_ref1_Lex_28 b_ref1_Lex_29
abbrev b_ref1_Lex_40 : AC := .run [(.op (some 39) none (.mv (.s 0))), (.op (some 40) none (.mv (.s 5))), (.op (some 41) none (.sslc (.s 39) (some (.s 40)) none)), (.op (some 42) none (.mv (.s 5))), (.call (some 43) none n_ref1_token [(.s 41), (.s 42)]), (.op (some 38) none (.mv (.s 43))), (.op (some 44) none (.ext (.s 38) 0)), (.op (some 45) none (.ext (.s 38) 1)), (.op (some 6) none (.alloc [(.int .i64 0), (.str []), (.int .i64 0), (.int .i64 0)])), (.op none none (.store (.s 6) (.s 44) 4)), (.op (some 7) none (.mv (.s 45)))]
abbrev b_ref1_Lex_43 : AC := .run [(.op (some 46) none (.mv (.s 7))), (.op (some 47) none (.bin .eql (.s 46) (.k (.int .i64 0)))), (.op (some 48) none (.mv (.s 47))), (.op (some 49) (some (48, true)) (.mv (.s 4))), (.op (some 50) (some (48, true)) (.len (.s 49))), (.op (some 51) (some (48, true)) (.bin .eql (.s 50) (.k (.int .i64 2000)))), (.op (some 52) none (.pick (.s 48) (.s 51) (.k (.bool false))))]
abbrev b_ref1_Lex_45 : AC := .run [(.op (some 7) none (.mv (.k (.int .i64 4))))]
abbrev b_ref1_Lex_44 : AC := .cond (.s 52) b_ref1_Lex_45 .skip
abbrev b_ref1_Lex_42 : AC := .seq b_ref1_Lex_43 b_ref1_Lex_44
abbrev b_ref1_Lex_48 : AC := .run [(.op (some 53) none (.mv (.s 7))), (.op (some 54) none (.bin .neq (.s 53) (.k (.int .i64 0))))]
abbrev b_ref1_Lex_51 : AC := .run [(.op (some 55) none (.mv (.s 7))), (.op (some 56) none (.mv (.s 5))), (.op (some 57) none (.build [(.int .i64 0), (.int .i64 0)] [(0, (1, (.s 55))), (1, (1, (.s 56)))])), (.op (some 2) none (.mv (.k (.slice .full 0 [])))), (.op none none (.store (.s 3) (.s 57) 2))]
abbrev b_ref1_Lex_50 : AC := .seq b_ref1_Lex_51 .ret
abbrev b_ref1_Lex_49 : AC := .cond (.s 54) b_ref1_Lex_50 .skip
abbrev b_ref1_Lex_47 : AC := .seq b_ref1_Lex_48 b_ref1_Lex_49
abbrev b_ref1_Lex_53 : AC := .run [(.op (some 58) none (.mv (.s 4))), (.op (some 59) none (.load (.s 6) true 4)), (.op (some 60) none (.bslice [(.int .i64 0), (.str []), (.int .i64 0), (.int .i64 0)] 4 1 [(0, (.s 59))])), (.op (some 61) none (.app 4 40 (.s 58) (.s 60))), (.op (some 4) none (.mv (.s 61)))]
abbrev b_ref1_Lex_54 : AC := .run [(.op (some 62) none (.mv (.s 5))), (.op (some 63) none (.faddr (.s 6) 1)), (.op (some 64) none (.load (.s 63) false 1)), (.op (some 65) none (.slen (.s 64))), (.op (some 66) none (.bin .add (.s 62) (.s 65))), (.op (some 5) none (.mv (.s 66)))]
abbrev b_ref1_Lex_52 : AC := .seq b_ref1_Lex_53 b_ref1_Lex_54
abbrev b_ref1_Lex_46 : AC := .seq b_ref1_Lex_47 b_ref1_Lex_52
abbrev b_ref1_Lex_41 : AC := .seq b_ref1_Lex_42 b_ref1_Lex_46
abbrev b_ref1_Lex_39 : AC := .seq b_ref1_Lex_40 b_ref1_Lex_41
abbrev b_ref1_Lex_26 : AC := .seq b_ref1_Lex_27 b_ref1_Lex_39
abbrev b_ref1_Lex_20 : AC := .seq b_ref1_Lex_21 b_ref1_Lex_26
abbrev b_ref1_Lex_19 : AC := .block 1 b_ref1_Lex_20
abbrev b_ref1_Lex_15 : AC := .seq b_ref1_Lex_16 b_ref1_Lex_19
abbrev b_ref1_Lex_14 : AC := .loop b_ref1_Lex_15
abbrev b_ref1_Lex_13 : AC := .block 0 b_ref1_Lex_14
abbrev b_ref1_Lex_11 : AC := .seq b_ref1_Lex_12 b_ref1_Lex_13
abbrev b_ref1_Lex_56 : AC := .run [(.op (some 67) none (.mv (.s 4))), (.op (some 68) none (.mv (.s 0))), (.op (some 69) none (.slen (.s 68))), (.op (some 70) none (.build [(.int .i64 0), (.str []), (.int .i64 0), (.int .i64 0)] [(0, (1, (.k (.int .i64 0)))), (3, (1, (.s 69)))])), (.op (some 71) none (.bslice [(.int .i64 0), (.str []), (.int .i64 0), (.int .i64 0)] 4 1 [(0, (.s 70))])), (.op (some 72) none (.app 4 40 (.s 67) (.s 71))), (.op (some 73) none (.build [(.int .i64 0), (.int .i64 0)] [])), (.op (some 2) none (.mv (.s 72))), (.op none none (.store (.s 3) (.s 73) 2))]
abbrev b_ref1_Lex_55 : AC := .seq b_ref1_Lex_56 .ret
abbrev b_ref1_Lex_10 : AC := .seq b_ref1_Lex_11 b_ref1_Lex_55
abbrev b_ref1_Lex_8 : AC := .seq b_ref1_Lex_9 b_ref1_Lex_10
abbrev b_ref1_Lex_2 : AC := .seq b_ref1_Lex_3 b_ref1_Lex_8
abbrev b_ref1_Lex_0 : AC := .seq b_ref1_Lex_1 b_ref1_Lex_2
abbrev b_ref3_P_take_1 : AC := .run [(.op (some 4) none (.mv (.k (.bool false))))]
abbrev b_ref3_P_take_4 : AC := .run [(.op (some 5) none (.mv (.s 0))), (.op (some 6) none (.mv (.s 1))), (.call (some 7) none n_ref3_P_is [(.s 5), (.s 6)]), (.op (some 8) none (.un .not (.s 7)))]
abbrev b_ref3_P_take_7 : AC := .run [(.op (some 4) none (.mv (.k (.bool false))))]
abbrev b_ref3_P_take_6 : AC := .seq b_ref3_P_take_7 .ret
abbrev b_ref3_P_take_5 : AC := .cond (.s 8) b_ref3_P_take_6 .skip
abbrev b_ref3_P_take_3 : AC := .seq b_ref3_P_take_4 b_ref3_P_take_5
abbrev b_ref3_P_take_9 : AC := .run [(.op (some 9) none (.mv (.s 0))), (.op (some 10) none (.nilck (.s 9))), (.op (some 11) none (.faddr (.s 10) 1)), (.op (some 12) none (.load (.s 11) false 1)), (.op (some 13) none (.bin .add (.s 12) (.k (.int .i64 1)))), (.op (some 14) none (.nilck (.s 9))), (.op (some 15) none (.faddr (.s 14) 1)), (.op none none (.store (.s 15) (.s 13) 1))]
abbrev b_ref3_P_take_11 : AC := .run [(.op (some 4) none (.mv (.k (.bool true))))]
abbrev b_ref3_P_take_10 : AC := .seq b_ref3_P_take_11 .ret
abbrev b_ref3_P_take_8 : AC := .seq b_ref3_P_take_9 b_ref3_P_take_10
abbrev b_ref3_P_take_2 : AC := .seq b_ref3_P_take_3 b_ref3_P_take_8
abbrev b_ref3_P_take_0 : AC := .seq b_ref3_P_take_1 b_ref3_P_take_2
abbrev b_ref3_P_ok_1 : AC := .run [(.op (some 2) none (.mv (.k (.bool false))))]
abbrev b_ref3_P_ok_3 : AC := .run [(.op (some 3) none (.mv (.s 0))), (.op (some 4) none (.nilck (.s 3))), (.op (some 5) none (.faddr (.s 4) 2)), (.op (some 6) none (.faddr (.s 5) 0)), (.op (some 7) none (.load (.s 6) false 1)), (.op (some 8) none (.bin .eql (.s 7) (.k (.int .i64 0)))), (.op (some 2) none (.mv (.s 8)))]
abbrev b_ref3_P_ok_2 : AC := .seq b_ref3_P_ok_3 .ret
abbrev b_ref3_P_ok_0 : AC := .seq b_ref3_P_ok_1 b_ref3_P_ok_2
abbrev b_ref3_P_is_1 : AC := .run [(.op (some 4) none (.mv (.k (.bool false))))]
abbrev b_ref3_P_is_3 : AC := .par [(.op (some 5) none (.mv (.s 0))), (.call (some 6) none n_ref3_P_ok [(.s 5)]), (.op (some 7) none (.mv (.s 6))), (.op (some 8) (some (7, true)) (.mv (.s 0))), (.op (some 9) (some (7, true)) (.nilck (.s 8))), (.op (some 10) (some (7, true)) (.faddr (.s 9) 0)), (.op (some 11) (some (7, true)) (.load (.s 10) false 1)), (.op (some 12) (some (7, true)) (.mv (.s 0))), (.op (some 13) (some (7, true)) (.nilck (.s 12))), (.op (some 14) (some (7, true)) (.faddr (.s 13) 1)), (.op (some 15) (some (7, true)) (.load (.s 14) false 1)), (.op (some 16) (some (7, true)) (.iaddr (.s 11) (.s 15) 4)), (.op (some 17) (some (7, true)) (.faddr (.s 16) 0)), (.op (some 18) (some (7, true)) (.load (.s 17) false 1)), (.op (some 19) (some (7, true)) (.bin .geq (.s 18) (.k (.int .i64 3)))), (.op (some 20) none (.pick (.s 7) (.s 19) (.k (.bool false)))), (.op (some 21) none (.mv (.s 20))), (.op (some 22) (some (21, true)) (.mv (.s 0))), (.op (some 23) (some (21, true)) (.nilck (.s 22))), (.op (some 24) (some (21, true)) (.faddr (.s 23) 0)), (.op (some 25) (some (21, true)) (.load (.s 24) false 1)), (.op (some 26) (some (21, true)) (.mv (.s 0))), (.op (some 27) (some (21, true)) (.nilck (.s 26))), (.op (some 28) (some (21, true)) (.faddr (.s 27) 1)), (.op (some 29) (some (21, true)) (.load (.s 28) false 1)), (.op (some 30) (some (21, true)) (.iaddr (.s 25) (.s 29) 4)), (.op (some 31) (some (21, true)) (.faddr (.s 30) 1)), (.op (some 32) (some (21, true)) (.load (.s 31) false 1)), (.op (some 33) (some (21, true)) (.mv (.s 1))), (.op (some 34) (some (21, true)) (.bin .eql (.s 32) (.s 33))), (.op (some 35) none (.pick (.s 21) (.s 34) (.k (.bool false)))), (.op (some 4) none (.mv (.s 35)))] [(0, 0), (1, 0), (2, 0), (3, 0), (4, 0), (5, 0), (6, 0), (7, 0), (8, 0), (9, 0), (10, 0), (11, 0), (12, 0), (13, 0), (14, 0), (15, 0), (16, 0), (17, 0), (18, 0), (19, 0), (20, 0), (21, 0), (22, 0), (23, 0), (24, 0), (25, 0), (26, 0), (27, 0), (28, 0), (29, 0), (30, 0), (31, 0)]
abbrev b_ref3_P_is_2 : AC := .seq b_ref3_P_is_3 .ret
abbrev b_ref3_P_is_0 : AC := .seq b_ref3_P_is_1 b_ref3_P_is_2
abbrev b_ref3_P_fail_1 : AC := .run [(.op (some 4) none (.mv (.s 0))), (.call (some 5) none n_ref3_P_ok [(.s 4)])]
abbrev b_ref3_P_fail_3 : AC := .par [(.op (some 6) none (.mv (.s 0))), (.op (some 7) none (.mv (.s 1))), (.op (some 8) none (.mv (.s 0))), (.op (some 9) none (.nilck (.s 8))), (.op (some 10) none (.faddr (.s 9) 0)), (.op (some 11) none (.load (.s 10) false 1)), (.op (some 12) none (.mv (.s 0))), (.op (some 13) none (.nilck (.s 12))), (.op (some 14) none (.faddr (.s 13) 1)), (.op (some 15) none (.load (.s 14) false 1)), (.op (some 16) none (.iaddr (.s 11) (.s 15) 4)), (.op (some 17) none (.faddr (.s 16) 3)), (.op (some 18) none (.load (.s 17) false 1)), (.op (some 19) none (.build [(.int .i64 0), (.int .i64 0)] [(0, (1, (.s 7))), (1, (1, (.s 18)))])), (.op (some 20) none (.nilck (.s 6))), (.op (some 21) none (.faddr (.s 20) 2)), (.op none none (.store (.s 21) (.s 19) 2))] [(0, 0), (1, 0), (2, 0), (3, 0), (4, 0), (5, 0), (6, 0), (7, 0), (8, 0), (9, 0), (10, 0), (11, 0), (12, 0), (13, 0), (14, 0), (15, 0), (16, 0)]
abbrev b_ref3_P_fail_2 : AC := .cond (.s 5) b_ref3_P_fail_3 .skip
abbrev b_ref3_P_fail_0 : AC := .seq b_ref3_P_fail_1 b_ref3_P_fail_2
abbrev b_ref3_P_want_1 : AC := .run [(.op (some 4) none (.mv (.s 0))), (.call (some 5) none n_ref3_P_ok [(.s 4)]), (.op (some 6) none (.mv (.s 5))), (.op (some 7) (some (6, true)) (.mv (.s 0))), (.op (some 8) (some (6, true)) (.mv (.s 1))), (.call (some 9) (some (6, true)) n_ref3_P_take [(.s 7), (.s 8)]), (.op (some 10) (some (6, true)) (.un .not (.s 9))), (.op (some 11) none (.pick (.s 6) (.s 10) (.k (.bool false))))]
abbrev b_ref3_P_want_3 : AC := .run [(.op (some 12) none (.mv (.s 0))), (.call (some 13) none n_ref3_P_fail [(.s 12), (.k (.int .i64 3))])]
abbrev b_ref3_P_want_2 : AC := .cond (.s 11) b_ref3_P_want_3 .skip
abbrev b_ref3_P_want_0 : AC := .seq b_ref3_P_want_1 b_ref3_P_want_2
abbrev b_ref3_EqStmts_1 : AC := .run [(.op (some 4) none (.mv (.k (.bool false))))]
abbrev b_ref3_EqStmts_4 : AC := .run [(.op (some 6) none (.mv (.s 0))), (.op (some 7) none (.len (.s 6))), (.op (some 8) none (.mv (.s 1))), (.op (some 9) none (.len (.s 8))), (.op (some 10) none (.bin .neq (.s 7) (.s 9)))]
abbrev b_ref3_EqStmts_7 : AC := .run [(.op (some 4) none (.mv (.k (.bool false))))]
abbrev b_ref3_EqStmts_6 : AC := .seq b_ref3_EqStmts_7 .ret
abbrev b_ref3_EqStmts_5 : AC := .cond (.s 10) b_ref3_EqStmts_6 .skip
abbrev b_ref3_EqStmts_3 : AC := .seq b_ref3_EqStmts_4 b_ref3_EqStmts_5
abbrev b_ref3_EqStmts_10 : AC := .run [(.op (some 11) none (.mv (.s 0))), (.op (some 12) none (.len (.s 11))), (.op (some 13) none (.mv (.k (.int .i64 0))))]
abbrev b_ref3_EqStmts_14 : AC := .run [(.op (some 14) none (.bin .lss (.s 13) (.s 12)))]
abbrev b_ref3_EqStmts_16 : AC := .cond (.s 14) .skip (.exit 0)
abbrev b_ref3_EqStmts_20 : AC := .run [(.op (some 15) none (.mv (.s 13))), (.op (some 5) none (.mv (.s 15)))]
abbrev b_ref3_EqStmts_22 : AC := .par [(.op (some 16) none (.mv (.s 0))), (.op (some 17) none (.mv (.s 5))), (.op (some 18) none (.iaddr (.s 16) (.s 17) 13)), (.op (some 19) none (.load (.s 18) true 13)), (.op (some 20) none (.mv (.s 1))), (.op (some 21) none (.mv (.s 5))), (.op (some 22) none (.iaddr (.s 20) (.s 21) 13)), (.op (some 23) none (.load (.s 22) true 13)), (.call (some 24) none n_ref3_eqOne [(.s 19), (.s 23)]), (.op (some 25) none (.un .not (.s 24)))] [(0, 0), (1, 0), (2, 0), (3, 0), (4, 0), (5, 0), (6, 0), (7, 0), (8, 0), (9, 0)]
abbrev b_ref3_EqStmts_25 : AC := .run [(.op (some 4) none (.mv (.k (.bool false))))]
abbrev b_ref3_EqStmts_24 : AC := .seq b_ref3_EqStmts_25 .ret
abbrev b_ref3_EqStmts_23 : AC := .cond (.s 25) b_ref3_EqStmts_24 .skip
abbrev b_ref3_EqStmts_21 : AC := .seq b_ref3_EqStmts_22 b_ref3_EqStmts_23
abbrev b_ref3_EqStmts_19 : AC := .seq b_ref3_EqStmts_20 b_ref3_EqStmts_21
abbrev b_ref3_EqStmts_18 : AC := .block 1 b_ref3_EqStmts_19
abbrev b_ref3_EqStmts_26 : AC := .run [(.op (some 26) none (.bin .add (.s 13) (.k (.int .i64 1)))), (.op (some 13) none (.mv (.s 26)))]
abbrev b_ref3_EqStmts_17 : AC := .seq b_ref3_EqStmts_18 b_ref3_EqStmts_26
abbrev b_ref3_EqStmts_15 : AC := .seq b_ref3_EqStmts_16 b_ref3_EqStmts_17
abbrev b_ref3_EqStmts_13 : AC := .seq b_ref3_EqStmts_14 b_ref3_EqStmts_15
abbrev b_ref3_EqStmts_12 : AC := .loop b_ref3_EqStmts_13
abbrev b_ref3_EqStmts_11 : AC := .block 0 b_ref3_EqStmts_12
abbrev b_ref3_EqStmts_9 : AC := .seq b_ref3_EqStmts_10 b_ref3_EqStmts_11
abbrev b_ref3_EqStmts_28 : AC := .run [(.op (some 4) none (.mv (.k (.bool true))))]
abbrev b_ref3_EqStmts_27 : AC := .seq b_ref3_EqStmts_28 .ret
abbrev b_ref3_EqStmts_8 : AC := .seq b_ref3_EqStmts_9 b_ref3_EqStmts_27
abbrev b_ref3_EqStmts_2 : AC := .seq b_ref3_EqStmts_3 b_ref3_EqStmts_8
abbrev b_ref3_EqStmts_0 : AC := .seq b_ref3_EqStmts_1 b_ref3_EqStmts_2
abbrev b_parse_reader_whole_1 : AC := .run [(.op (some 2) none (.alloc [(.int .i64 0), (.int .i64 0), (.str []), (.slice .full 0 [])]))]
abbrev b_parse_reader_whole_3 : AC := .run [(.op (some 5) none (.mv (.s 0))), (.call (some 6) none n_parse_reader_peek [(.s 5)]), (.op (some 7) none (.fld (.s 6) 3 false 1)), (.op (some 3) none (.mv (.s 7)))]
abbrev b_parse_reader_whole_5 : AC := .run [(.op (some 8) none (.mv (.s 0))), (.call (some 9) none n_parse_reader_two [(.s 8), (.k (.int .i64 1))]), (.op (some 4) none (.alloc [(.int .i64 0), (.int .i64 0), (.str []), (.slice .full 0 [])])), (.op none none (.store (.s 4) (.s 9) 4))]
abbrev b_parse_reader_whole_8 : AC := .run [(.op (some 10) none (.mv (.s 0))), (.call (some 11) none n_parse_reader_good [(.s 10)]), (.op (some 12) none (.mv (.s 11))), (.op (some 13) (some (12, true)) (.load (.s 4) true 4)), (.call (some 14) (some (12, true)) n_parse_depth [(.s 13)]), (.op (some 15) (some (12, true)) (.bin .gtr (.s 14) (.k (.int .i64 20)))), (.op (some 16) none (.pick (.s 12) (.s 15) (.k (.bool false))))]
abbrev b_parse_reader_whole_10 : AC := .run [(.op (some 17) none (.mv (.s 0))), (.op (some 18) none (.mv (.s 3))), (.op (some 19) none (.build [(.int .i64 0), (.int .i64 0)] [(0, (1, (.k (.int .i64 4)))), (1, (1, (.s 18)))])), (.op (some 20) none (.nilck (.s 17))), (.op (some 21) none (.faddr (.s 20) 2)), (.op none none (.store (.s 21) (.s 19) 2))]
abbrev b_parse_reader_whole_9 : AC := .cond (.s 16) b_parse_reader_whole_10 .skip
abbrev b_parse_reader_whole_7 : AC := .seq b_parse_reader_whole_8 b_parse_reader_whole_9
abbrev b_parse_reader_whole_12 : AC := .run [(.op (some 22) none (.load (.s 4) true 4)), (.op none none (.store (.s 2) (.s 22) 4))]
abbrev b_parse_reader_whole_11 : AC := .seq b_parse_reader_whole_12 .ret
abbrev b_parse_reader_whole_6 : AC := .seq b_parse_reader_whole_7 b_parse_reader_whole_11
abbrev b_parse_reader_whole_4 : AC := .seq b_parse_reader_whole_5 b_parse_reader_whole_6
abbrev b_parse_reader_whole_2 : AC := .seq b_parse_reader_whole_3 b_parse_reader_whole_4
abbrev b_parse_reader_whole_0 : AC := .seq b_parse_reader_whole_1 b_parse_reader_whole_2
abbrev b_parse_reader_good_1 : AC := .run [(.op (some 2) none (.mv (.k (.bool false))))]
abbrev b_parse_reader_good_3 : AC := .run [(.op (some 3) none (.mv (.s 0))), (.op (some 4) none (.nilck (.s 3))), (.op (some 5) none (.faddr (.s 4) 2)), (.op (some 6) none (.faddr (.s 5) 0)), (.op (some 7) none (.load (.s 6) false 1)), (.op (some 8) none (.bin .eql (.s 7) (.k (.int .i64 0)))), (.op (some 2) none (.mv (.s 8)))]
abbrev b_parse_reader_good_2 : AC := .seq b_parse_reader_good_3 .ret
abbrev b_parse_reader_good_0 : AC := .seq b_parse_reader_good_1 b_parse_reader_good_2
abbrev b_parse_reader_peek_1 : AC := .run [(.op (some 2) none (.alloc [(.int .i64 0), (.str []), (.int .i64 0), (.int .i64 0)]))]
abbrev b_parse_reader_peek_3 : AC := .par [(.op (some 3) none (.mv (.s 0))), (.op (some 4) none (.nilck (.s 3))), (.op (some 5) none (.faddr (.s 4) 0)), (.op (some 6) none (.load (.s 5) false 1)), (.op (some 7) none (.mv (.s 0))), (.op (some 8) none (.nilck (.s 7))), (.op (some 9) none (.faddr (.s 8) 1)), (.op (some 10) none (.load (.s 9) false 1)), (.op (some 11) none (.iaddr (.s 6) (.s 10) 4)), (.op (some 12) none (.load (.s 11) true 4)), (.op none none (.store (.s 2) (.s 12) 4))] [(0, 0), (1, 0), (2, 0), (3, 0), (4, 0), (5, 0), (6, 0), (7, 0), (8, 0), (9, 0), (10, 0)]
abbrev b_parse_reader_peek_2 : AC := .seq b_parse_reader_peek_3 .ret
abbrev b_parse_reader_peek_0 : AC := .seq b_parse_reader_peek_1 b_parse_reader_peek_2
abbrev b_parse_reader_bad_1 : AC := .run [(.op (some 4) none (.mv (.s 0))), (.call (some 5) none n_parse_reader_good [(.s 4)])]
abbrev b_parse_reader_bad_3 : AC := .run [(.op (some 6) none (.mv (.s 0))), (.op (some 7) none (.mv (.s 1))), (.op (some 8) none (.mv (.s 0))), (.call (some 9) none n_parse_reader_peek [(.s 8)]), (.op (some 10) none (.fld (.s 9) 3 false 1)), (.op (some 11) none (.build [(.int .i64 0), (.int .i64 0)] [(0, (1, (.s 7))), (1, (1, (.s 10)))])), (.op (some 12) none (.nilck (.s 6))), (.op (some 13) none (.faddr (.s 12) 2)), (.op none none (.store (.s 13) (.s 11) 2))]
abbrev b_parse_reader_bad_2 : AC := .cond (.s 5) b_parse_reader_bad_3 .skip
abbrev b_parse_reader_bad_0 : AC := .seq b_parse_reader_bad_1 b_parse_reader_bad_2
abbrev b_ref3_P_expr_1 : AC := .run [(.op (some 2) none (.alloc [(.int .i64 0), (.int .i64 0), (.str []), (.slice .full 0 [])]))]
abbrev b_ref3_P_expr_4 : AC := .run [(.op (some 5) none (.mv (.s 0))), (.call (some 6) none n_ref3_P_ok [(.s 5)]), (.op (some 7) none (.un .not (.s 6)))]
abbrev b_ref3_P_expr_7 : AC := .run [(.op (some 8) none (.build [(.int .i64 0), (.int .i64 0), (.str []), (.slice .full 0 [])] [])), (.op none none (.store (.s 2) (.s 8) 4))]
abbrev b_ref3_P_expr_6 : AC := .seq b_ref3_P_expr_7 .ret
abbrev b_ref3_P_expr_5 : AC := .cond (.s 7) b_ref3_P_expr_6 .skip
abbrev b_ref3_P_expr_3 : AC := .seq b_ref3_P_expr_4 b_ref3_P_expr_5
abbrev b_ref3_P_expr_9 : AC := .par [(.op (some 9) none (.mv (.s 0))), (.op (some 10) none (.nilck (.s 9))), (.op (some 11) none (.faddr (.s 10) 0)), (.op (some 12) none (.load (.s 11) false 1)), (.op (some 13) none (.mv (.s 0))), (.op (some 14) none (.nilck (.s 13))), (.op (some 15) none (.faddr (.s 14) 1)), (.op (some 16) none (.load (.s 15) false 1)), (.op (some 17) none (.iaddr (.s 12) (.s 16) 4)), (.op (some 18) none (.faddr (.s 17) 3)), (.op (some 19) none (.load (.s 18) false 1)), (.op (some 3) none (.mv (.s 19)))] [(0, 0), (1, 0), (2, 0), (3, 0), (4, 0), (5, 0), (6, 0), (7, 0), (8, 0), (9, 0), (10, 0), (11, 0)]
abbrev b_ref3_P_expr_11 : AC := .run [(.op (some 20) none (.mv (.s 0))), (.op (some 21) none (.mv (.s 0))), (.call (some 22) none n_ref3_P_first [(.s 21)]), (.call (some 23) none n_ref3_P_rest [(.s 20), (.s 22), (.k (.int .i64 1))]), (.op (some 4) none (.alloc [(.int .i64 0), (.int .i64 0), (.str []), (.slice .full 0 [])])), (.op none none (.store (.s 4) (.s 23) 4))]
abbrev b_ref3_P_expr_14 : AC := .run [(.op (some 24) none (.mv (.s 0))), (.call (some 25) none n_ref3_P_ok [(.s 24)]), (.op (some 26) none (.mv (.s 25))), (.op (some 27) (some (26, true)) (.load (.s 4) true 4)), (.call (some 28) (some (26, true)) n_ref3_deep [(.s 27), (.k (.int .i64 20))]), (.op (some 29) (some (26, true)) (.bin .gtr (.s 28) (.k (.int .i64 20)))), (.op (some 30) none (.pick (.s 26) (.s 29) (.k (.bool false))))]
abbrev b_ref3_P_expr_16 : AC := .run [(.op (some 31) none (.mv (.s 0))), (.op (some 32) none (.mv (.s 3))), (.op (some 33) none (.build [(.int .i64 0), (.int .i64 0)] [(0, (1, (.k (.int .i64 4)))), (1, (1, (.s 32)))])), (.op (some 34) none (.nilck (.s 31))), (.op (some 35) none (.faddr (.s 34) 2)), (.op none none (.store (.s 35) (.s 33) 2))]
abbrev b_ref3_P_expr_15 : AC := .cond (.s 30) b_ref3_P_expr_16 .skip
abbrev b_ref3_P_expr_13 : AC := .seq b_ref3_P_expr_14 b_ref3_P_expr_15
abbrev b_ref3_P_expr_18 : AC := .run [(.op (some 36) none (.load (.s 4) true 4)), (.op none none (.store (.s 2) (.s 36) 4))]
abbrev b_ref3_P_expr_17 : AC := .seq b_ref3_P_expr_18 .ret
abbrev b_ref3_P_expr_12 : AC := .seq b_ref3_P_expr_13 b_ref3_P_expr_17
abbrev b_ref3_P_expr_10 : AC := .seq b_ref3_P_expr_11 b_ref3_P_expr_12
abbrev b_ref3_P_expr_8 : AC := .seq b_ref3_P_expr_9 b_ref3_P_expr_10
abbrev b_ref3_P_expr_2 : AC := .seq b_ref3_P_expr_3 b_ref3_P_expr_8
abbrev b_ref3_P_expr_0 : AC := .seq b_ref3_P_expr_1 b_ref3_P_expr_2
abbrev b_lex_letter_1 : AC := .run [(.op (some 2) none (.mv (.k (.bool false))))]
abbrev b_lex_letter_3 : AC := .run [(.op (some 3) none (.mv (.s 0))), (.op (some 4) none (.bin .geq (.s 3) (.k (.int .u8 97)))), (.op (some 5) none (.mv (.s 4))), (.op (some 6) (some (5, true)) (.mv (.s 0))), (.op (some 7) (some (5, true)) (.bin .leq (.s 6) (.k (.int .u8 122)))), (.op (some 8) none (.pick (.s 5) (.s 7) (.k (.bool false)))), (.op (some 2) none (.mv (.s 8)))]
abbrev b_lex_letter_2 : AC := .seq b_lex_letter_3 .ret
abbrev b_lex_letter_0 : AC := .seq b_lex_letter_1 b_lex_letter_2
abbrev b_lex_digit_1 : AC := .run [(.op (some 2) none (.mv (.k (.bool false))))]
abbrev b_lex_digit_3 : AC := .run [(.op (some 3) none (.mv (.s 0))), (.op (some 4) none (.bin .geq (.s 3) (.k (.int .u8 48)))), (.op (some 5) none (.mv (.s 4))), (.op (some 6) (some (5, true)) (.mv (.s 0))), (.op (some 7) (some (5, true)) (.bin .leq (.s 6) (.k (.int .u8 57)))), (.op (some 8) none (.pick (.s 5) (.s 7) (.k (.bool false)))), (.op (some 2) none (.mv (.s 8)))]
abbrev b_lex_digit_2 : AC := .seq b_lex_digit_3 .ret
abbrev b_lex_digit_0 : AC := .seq b_lex_digit_1 b_lex_digit_2
abbrev b_lex_sign_1 : AC := .run [(.op (some 4) none (.mv (.k (.int .i64 0))))]
abbrev b_lex_sign_4 : AC := .run [(.op (some 5) none (.mv (.s 1))), (.op (some 6) none (.bin .add (.s 5) (.k (.int .i64 1)))), (.op (some 7) none (.mv (.s 0))), (.op (some 8) none (.slen (.s 7))), (.op (some 9) none (.bin .lss (.s 6) (.s 8)))]
abbrev b_lex_sign_7 : AC := .run [(.op (some 10) none (.mv (.s 0))), (.op (some 11) none (.mv (.s 1))), (.op (some 12) none (.mv (.s 1))), (.op (some 13) none (.bin .add (.s 12) (.k (.int .i64 2)))), (.op (some 14) none (.sslc (.s 10) (some (.s 11)) (some (.s 13))))]
abbrev b_lex_sign_11 : AC := .run [(.op (some 16) none (.bin .eql (.s 14) (.k (.str [61, 61])))), (.op (some 15) none (.mv (.s 16)))]
abbrev b_lex_sign_14 : AC := .run [(.op (some 17) none (.bin .eql (.s 14) (.k (.str [33, 61])))), (.op (some 15) none (.mv (.s 17)))]
abbrev b_lex_sign_17 : AC := .run [(.op (some 18) none (.bin .eql (.s 14) (.k (.str [60, 61])))), (.op (some 15) none (.mv (.s 18)))]
abbrev b_lex_sign_20 : AC := .run [(.op (some 19) none (.bin .eql (.s 14) (.k (.str [62, 61])))), (.op (some 15) none (.mv (.s 19)))]
abbrev b_lex_sign_23 : AC := .run [(.op (some 20) none (.bin .eql (.s 14) (.k (.str [38, 38])))), (.op (some 15) none (.mv (.s 20)))]
abbrev b_lex_sign_25 : AC := .run [(.op (some 21) none (.bin .eql (.s 14) (.k (.str [124, 124])))), (.op (some 15) none (.mv (.s 21)))]
abbrev b_lex_sign_24 : AC := .cond (.s 15) .skip b_lex_sign_25
abbrev b_lex_sign_22 : AC := .seq b_lex_sign_23 b_lex_sign_24
abbrev b_lex_sign_21 : AC := .cond (.s 15) .skip b_lex_sign_22
abbrev b_lex_sign_19 : AC := .seq b_lex_sign_20 b_lex_sign_21
abbrev b_lex_sign_18 : AC := .cond (.s 15) .skip b_lex_sign_19
abbrev b_lex_sign_16 : AC := .seq b_lex_sign_17 b_lex_sign_18
abbrev b_lex_sign_15 : AC := .cond (.s 15) .skip b_lex_sign_16
abbrev b_lex_sign_13 : AC := .seq b_lex_sign_14 b_lex_sign_15
abbrev b_lex_sign_12 : AC := .cond (.s 15) .skip b_lex_sign_13
abbrev b_lex_sign_10 : AC := .seq b_lex_sign_11 b_lex_sign_12
abbrev b_lex_sign_28 : AC := .run [(.op (some 4) none (.mv (.k (.int .i64 2))))]
abbrev b_lex_sign_27 : AC := .seq b_lex_sign_28 .ret
abbrev b_lex_sign_26 : AC := .cond (.s 15) b_lex_sign_27 .skip
abbrev b_lex_sign_9 : AC := .seq b_lex_sign_10 b_lex_sign_26
abbrev b_lex_sign_8 : AC := .block 0 b_lex_sign_9
abbrev b_lex_sign_6 : AC := .seq b_lex_sign_7 b_lex_sign_8
abbrev b_lex_sign_5 : AC := .cond (.s 9) b_lex_sign_6 .skip
abbrev b_lex_sign_3 : AC := .seq b_lex_sign_4 b_lex_sign_5
abbrev b_lex_sign_31 : AC := .run [(.op (some 22) none (.mv (.s 0))), (.op (some 23) none (.mv (.s 1))), (.op (some 24) none (.sidx (.s 22) (.s 23)))]
abbrev b_lex_sign_35 : AC := .run [(.op (some 26) none (.bin .eql (.s 24) (.k (.int .u8 40)))), (.op (some 25) none (.mv (.s 26)))]
abbrev b_lex_sign_38 : AC := .run [(.op (some 27) none (.bin .eql (.s 24) (.k (.int .u8 41)))), (.op (some 25) none (.mv (.s 27)))]
abbrev b_lex_sign_41 : AC := .run [(.op (some 28) none (.bin .eql (.s 24) (.k (.int .u8 123)))), (.op (some 25) none (.mv (.s 28)))]
abbrev b_lex_sign_44 : AC := .run [(.op (some 29) none (.bin .eql (.s 24) (.k (.int .u8 125)))), (.op (some 25) none (.mv (.s 29)))]
abbrev b_lex_sign_47 : AC := .run [(.op (some 30) none (.bin .eql (.s 24) (.k (.int .u8 44)))), (.op (some 25) none (.mv (.s 30)))]
abbrev b_lex_sign_50 : AC := .run [(.op (some 31) none (.bin .eql (.s 24) (.k (.int .u8 59)))), (.op (some 25) none (.mv (.s 31)))]
abbrev b_lex_sign_53 : AC := .run [(.op (some 32) none (.bin .eql (.s 24) (.k (.int .u8 58)))), (.op (some 25) none (.mv (.s 32)))]
abbrev b_lex_sign_56 : AC := .run [(.op (some 33) none (.bin .eql (.s 24) (.k (.int .u8 61)))), (.op (some 25) none (.mv (.s 33)))]
abbrev b_lex_sign_59 : AC := .run [(.op (some 34) none (.bin .eql (.s 24) (.k (.int .u8 33)))), (.op (some 25) none (.mv (.s 34)))]
abbrev b_lex_sign_62 : AC := .run [(.op (some 35) none (.bin .eql (.s 24) (.k (.int .u8 60)))), (.op (some 25) none (.mv (.s 35)))]
abbrev b_lex_sign_65 : AC := .run [(.op (some 36) none (.bin .eql (.s 24) (.k (.int .u8 62)))), (.op (some 25) none (.mv (.s 36)))]
abbrev b_lex_sign_68 : AC := .run [(.op (some 37) none (.bin .eql (.s 24) (.k (.int .u8 43)))), (.op (some 25) none (.mv (.s 37)))]
abbrev b_lex_sign_71 : AC := .run [(.op (some 38) none (.bin .eql (.s 24) (.k (.int .u8 45)))), (.op (some 25) none (.mv (.s 38)))]
abbrev b_lex_sign_74 : AC := .run [(.op (some 39) none (.bin .eql (.s 24) (.k (.int .u8 42)))), (.op (some 25) none (.mv (.s 39)))]
abbrev b_lex_sign_77 : AC := .run [(.op (some 40) none (.bin .eql (.s 24) (.k (.int .u8 47)))), (.op (some 25) none (.mv (.s 40)))]
abbrev b_lex_sign_79 : AC := .run [(.op (some 41) none (.bin .eql (.s 24) (.k (.int .u8 37)))), (.op (some 25) none (.mv (.s 41)))]
abbrev b_lex_sign_78 : AC := .cond (.s 25) .skip b_lex_sign_79
abbrev b_lex_sign_76 : AC := .seq b_lex_sign_77 b_lex_sign_78
abbrev b_lex_sign_75 : AC := .cond (.s 25) .skip b_lex_sign_76
abbrev b_lex_sign_73 : AC := .seq b_lex_sign_74 b_lex_sign_75
abbrev b_lex_sign_72 : AC := .cond (.s 25) .skip b_lex_sign_73
abbrev b_lex_sign_70 : AC := .seq b_lex_sign_71 b_lex_sign_72
abbrev b_lex_sign_69 : AC := .cond (.s 25) .skip b_lex_sign_70
abbrev b_lex_sign_67 : AC := .seq b_lex_sign_68 b_lex_sign_69
abbrev b_lex_sign_66 : AC := .cond (.s 25) .skip b_lex_sign_67
abbrev b_lex_sign_64 : AC := .seq b_lex_sign_65 b_lex_sign_66
abbrev b_lex_sign_63 : AC := .cond (.s 25) .skip b_lex_sign_64
abbrev b_lex_sign_61 : AC := .seq b_lex_sign_62 b_lex_sign_63
abbrev b_lex_sign_60 : AC := .cond (.s 25) .skip b_lex_sign_61
abbrev b_lex_sign_58 : AC := .seq b_lex_sign_59 b_lex_sign_60
abbrev b_lex_sign_57 : AC := .cond (.s 25) .skip b_lex_sign_58
abbrev b_lex_sign_55 : AC := .seq b_lex_sign_56 b_lex_sign_57
abbrev b_lex_sign_54 : AC := .cond (.s 25) .skip b_lex_sign_55
abbrev b_lex_sign_52 : AC := .seq b_lex_sign_53 b_lex_sign_54
abbrev b_lex_sign_51 : AC := .cond (.s 25) .skip b_lex_sign_52
abbrev b_lex_sign_49 : AC := .seq b_lex_sign_50 b_lex_sign_51
abbrev b_lex_sign_48 : AC := .cond (.s 25) .skip b_lex_sign_49
abbrev b_lex_sign_46 : AC := .seq b_lex_sign_47 b_lex_sign_48
abbrev b_lex_sign_45 : AC := .cond (.s 25) .skip b_lex_sign_46
abbrev b_lex_sign_43 : AC := .seq b_lex_sign_44 b_lex_sign_45
abbrev b_lex_sign_42 : AC := .cond (.s 25) .skip b_lex_sign_43
abbrev b_lex_sign_40 : AC := .seq b_lex_sign_41 b_lex_sign_42
abbrev b_lex_sign_39 : AC := .cond (.s 25) .skip b_lex_sign_40
abbrev b_lex_sign_37 : AC := .seq b_lex_sign_38 b_lex_sign_39
abbrev b_lex_sign_36 : AC := .cond (.s 25) .skip b_lex_sign_37
abbrev b_lex_sign_34 : AC := .seq b_lex_sign_35 b_lex_sign_36
abbrev b_lex_sign_82 : AC := .run [(.op (some 4) none (.mv (.k (.int .i64 1))))]
abbrev b_lex_sign_81 : AC := .seq b_lex_sign_82 .ret
abbrev b_lex_sign_80 : AC := .cond (.s 25) b_lex_sign_81 .skip
abbrev b_lex_sign_33 : AC := .seq b_lex_sign_34 b_lex_sign_80
abbrev b_lex_sign_32 : AC := .block 1 b_lex_sign_33
abbrev b_lex_sign_30 : AC := .seq b_lex_sign_31 b_lex_sign_32
abbrev b_lex_sign_84 : AC := .run [(.op (some 4) none (.mv (.k (.int .i64 0))))]
abbrev b_lex_sign_83 : AC := .seq b_lex_sign_84 .ret
abbrev b_lex_sign_29 : AC := .seq b_lex_sign_30 b_lex_sign_83
abbrev b_lex_sign_2 : AC := .seq b_lex_sign_3 b_lex_sign_29
abbrev b_lex_sign_0 : AC := .seq b_lex_sign_1 b_lex_sign_2
abbrev b_lex_run_1 : AC := .run [(.op (some 4) none (.mv (.k (.int .i64 0))))]
abbrev b_lex_run_7 : AC := .run [(.op (some 5) none (.mv (.s 1))), (.op (some 6) none (.mv (.s 0))), (.op (some 7) none (.slen (.s 6))), (.op (some 8) none (.bin .lss (.s 5) (.s 7))), (.op (some 9) none (.mv (.s 8))), (.op (some 10) (some (9, true)) (.mv (.s 0))), (.op (some 11) (some (9, true)) (.mv (.s 1))), (.op (some 12) (some (9, true)) (.sidx (.s 10) (.s 11))), (.call (some 13) (some (9, true)) n_lex_letter [(.s 12)]), (.op (some 14) (some (9, true)) (.mv (.s 13))), (.op (some 15) (some (14, false)) (.mv (.s 0))), (.op (some 16) (some (14, false)) (.mv (.s 1))), (.op (some 17) (some (14, false)) (.sidx (.s 15) (.s 16))), (.call (some 18) (some (14, false)) n_lex_digit [(.s 17)]), (.op (some 19) (some (9, true)) (.pick (.s 14) (.k (.bool true)) (.s 18))), (.op (some 20) none (.pick (.s 9) (.s 19) (.k (.bool false))))]
abbrev b_lex_run_8 : AC := .cond (.s 20) .skip (.exit 0)
abbrev b_lex_run_6 : AC := .seq b_lex_run_7 b_lex_run_8
abbrev b_lex_run_10 : AC := .run [(.op (some 21) none (.mv (.s 1))), (.op (some 22) none (.bin .add (.s 21) (.k (.int .i64 1)))), (.op (some 1) none (.mv (.s 22)))]
abbrev b_lex_run_9 : AC := .block 1 b_lex_run_10
abbrev b_lex_run_5 : AC := .seq b_lex_run_6 b_lex_run_9
abbrev b_lex_run_4 : AC := .loop b_lex_run_5
abbrev b_lex_run_3 : AC := .block 0 b_lex_run_4
abbrev b_lex_run_12 : AC := .run [(.op (some 23) none (.mv (.s 1))), (.op (some 4) none (.mv (.s 23)))]
abbrev b_lex_run_11 : AC := .seq b_lex_run_12 .ret
abbrev b_lex_run_2 : AC := .seq b_lex_run_3 b_lex_run_11
abbrev b_lex_run_0 : AC := .seq b_lex_run_1 b_lex_run_2

end Go.Abs

/-! Have1 -/

namespace Go.Abs
open Go.Proofs

theorem has_lex_All : Has Try.prog n_lex_All 152 [(2, none), (3, (some (true, 2)))] b_lex_All_0 := ⟨Try.f21, by kernel_rfl, by kernel_rfl⟩
theorem has_ref3_EqTexts : Has Try.prog n_ref3_EqTexts 26 [(4, none)] b_ref3_EqTexts_0 := ⟨Try.f26, by kernel_rfl, by kernel_rfl⟩
theorem has_ref3_Source : Has Try.prog n_ref3_Source 1 [(0, none)] b_ref3_Source_0 := ⟨Try.f36, by kernel_rfl, by kernel_rfl⟩
theorem has_ref3_Some : Has Try.prog n_ref3_Some 40 [(0, (some (true, 2)))] b_ref3_Some_0 := ⟨Try.f37, by kernel_rfl, by kernel_rfl⟩
theorem has_parse_reader_program : Has Try.prog n_parse_reader_program 49 [(2, (some (true, 2)))] b_parse_reader_program_0 := ⟨Try.f38, by kernel_rfl, by kernel_rfl⟩
theorem has_tree_Number : Has Try.prog n_tree_Number 47 [(2, (some (true, 2)))] b_tree_Number_0 := ⟨Try.f39, by kernel_rfl, by kernel_rfl⟩
theorem has_ref1_Lex : Has Try.prog n_ref1_Lex 74 [(2, none), (3, (some (true, 2)))] b_ref1_Lex_0 := ⟨Try.f40, by kernel_rfl, by kernel_rfl⟩
theorem has_ref3_P_take : Has Try.prog n_ref3_P_take 16 [(4, none)] b_ref3_P_take_0 := ⟨Try.f41, by kernel_rfl, by kernel_rfl⟩
theorem has_ref3_P_ok : Has Try.prog n_ref3_P_ok 9 [(2, none)] b_ref3_P_ok_0 := ⟨Try.f43, by kernel_rfl, by kernel_rfl⟩
theorem has_ref3_P_is : Has Try.prog n_ref3_P_is 36 [(4, none)] b_ref3_P_is_0 := ⟨Try.f44, by kernel_rfl, by kernel_rfl⟩
theorem has_ref3_P_fail : Has Try.prog n_ref3_P_fail 22 [] b_ref3_P_fail_0 := ⟨Try.f45, by kernel_rfl, by kernel_rfl⟩
theorem has_ref3_P_want : Has Try.prog n_ref3_P_want 14 [] b_ref3_P_want_0 := ⟨Try.f46, by kernel_rfl, by kernel_rfl⟩
theorem has_ref3_EqStmts : Has Try.prog n_ref3_EqStmts 27 [(4, none)] b_ref3_EqStmts_0 := ⟨Try.f48, by kernel_rfl, by kernel_rfl⟩
theorem has_parse_reader_whole : Has Try.prog n_parse_reader_whole 23 [(2, (some (true, 4)))] b_parse_reader_whole_0 := ⟨Try.f49, by kernel_rfl, by kernel_rfl⟩
theorem has_parse_reader_good : Has Try.prog n_parse_reader_good 9 [(2, none)] b_parse_reader_good_0 := ⟨Try.f50, by kernel_rfl, by kernel_rfl⟩
theorem has_parse_reader_peek : Has Try.prog n_parse_reader_peek 13 [(2, (some (true, 4)))] b_parse_reader_peek_0 := ⟨Try.f51, by kernel_rfl, by kernel_rfl⟩
theorem has_parse_reader_bad : Has Try.prog n_parse_reader_bad 14 [] b_parse_reader_bad_0 := ⟨Try.f52, by kernel_rfl, by kernel_rfl⟩
theorem has_ref3_P_expr : Has Try.prog n_ref3_P_expr 37 [(2, (some (true, 4)))] b_ref3_P_expr_0 := ⟨Try.f53, by kernel_rfl, by kernel_rfl⟩
theorem has_lex_letter : Has Try.prog n_lex_letter 9 [(2, none)] b_lex_letter_0 := ⟨Try.f54, by kernel_rfl, by kernel_rfl⟩
theorem has_lex_digit : Has Try.prog n_lex_digit 9 [(2, none)] b_lex_digit_0 := ⟨Try.f55, by kernel_rfl, by kernel_rfl⟩
theorem has_lex_sign : Has Try.prog n_lex_sign 42 [(4, none)] b_lex_sign_0 := ⟨Try.f56, by kernel_rfl, by kernel_rfl⟩
theorem has_lex_run : Has Try.prog n_lex_run 24 [(4, none)] b_lex_run_0 := ⟨Try.f57, by kernel_rfl, by kernel_rfl⟩

end Go.Abs

/-! Codes2 -/

namespace Go.Abs

abbrev b_lex_Word_1 : AC := .run [(.op (some 2) none (.mv (.k (.bool false))))]
abbrev b_lex_Word_4 : AC := .run [(.op (some 3) none (.mv (.s 0)))]
abbrev b_lex_Word_8 : AC := .run [(.op (some 5) none (.bin .eql (.s 3) (.k (.str [103, 108, 111, 98, 97, 108])))), (.op (some 4) none (.mv (.s 5)))]
abbrev b_lex_Word_11 : AC := .run [(.op (some 6) none (.bin .eql (.s 3) (.k (.str [112, 114, 111, 99])))), (.op (some 4) none (.mv (.s 6)))]
abbrev b_lex_Word_14 : AC := .run [(.op (some 7) none (.bin .eql (.s 3) (.k (.str [118, 97, 114])))), (.op (some 4) none (.mv (.s 7)))]
abbrev b_lex_Word_17 : AC := .run [(.op (some 8) none (.bin .eql (.s 3) (.k (.str [114, 101, 102])))), (.op (some 4) none (.mv (.s 8)))]
abbrev b_lex_Word_20 : AC := .run [(.op (some 9) none (.bin .eql (.s 3) (.k (.str [105, 102])))), (.op (some 4) none (.mv (.s 9)))]
abbrev b_lex_Word_23 : AC := .run [(.op (some 10) none (.bin .eql (.s 3) (.k (.str [101, 108, 115, 101])))), (.op (some 4) none (.mv (.s 10)))]
abbrev b_lex_Word_26 : AC := .run [(.op (some 11) none (.bin .eql (.s 3) (.k (.str [119, 104, 105, 108, 101])))), (.op (some 4) none (.mv (.s 11)))]
abbrev b_lex_Word_29 : AC := .run [(.op (some 12) none (.bin .eql (.s 3) (.k (.str [98, 114, 101, 97, 107])))), (.op (some 4) none (.mv (.s 12)))]
abbrev b_lex_Word_32 : AC := .run [(.op (some 13) none (.bin .eql (.s 3) (.k (.str [99, 111, 110, 116, 105, 110, 117, 101])))), (.op (some 4) none (.mv (.s 13)))]
abbrev b_lex_Word_35 : AC := .run [(.op (some 14) none (.bin .eql (.s 3) (.k (.str [114, 101, 116, 117, 114, 110])))), (.op (some 4) none (.mv (.s 14)))]
abbrev b_lex_Word_38 : AC := .run [(.op (some 15) none (.bin .eql (.s 3) (.k (.str [103, 111, 116, 111])))), (.op (some 4) none (.mv (.s 15)))]
abbrev b_lex_Word_41 : AC := .run [(.op (some 16) none (.bin .eql (.s 3) (.k (.str [114, 101, 97, 100])))), (.op (some 4) none (.mv (.s 16)))]
abbrev b_lex_Word_43 : AC := .run [(.op (some 17) none (.bin .eql (.s 3) (.k (.str [112, 114, 105, 110, 116])))), (.op (some 4) none (.mv (.s 17)))]
abbrev b_lex_Word_42 : AC := .cond (.s 4) .skip b_lex_Word_43
abbrev b_lex_Word_40 : AC := .seq b_lex_Word_41 b_lex_Word_42
abbrev b_lex_Word_39 : AC := .cond (.s 4) .skip b_lex_Word_40
abbrev b_lex_Word_37 : AC := .seq b_lex_Word_38 b_lex_Word_39
abbrev b_lex_Word_36 : AC := .cond (.s 4) .skip b_lex_Word_37
abbrev b_lex_Word_34 : AC := .seq b_lex_Word_35 b_lex_Word_36
abbrev b_lex_Word_33 : AC := .cond (.s 4) .skip b_lex_Word_34
abbrev b_lex_Word_31 : AC := .seq b_lex_Word_32 b_lex_Word_33
abbrev b_lex_Word_30 : AC := .cond (.s 4) .skip b_lex_Word_31
abbrev b_lex_Word_28 : AC := .seq b_lex_Word_29 b_lex_Word_30
abbrev b_lex_Word_27 : AC := .cond (.s 4) .skip b_lex_Word_28
abbrev b_lex_Word_25 : AC := .seq b_lex_Word_26 b_lex_Word_27
abbrev b_lex_Word_24 : AC := .cond (.s 4) .skip b_lex_Word_25
abbrev b_lex_Word_22 : AC := .seq b_lex_Word_23 b_lex_Word_24
abbrev b_lex_Word_21 : AC := .cond (.s 4) .skip b_lex_Word_22
abbrev b_lex_Word_19 : AC := .seq b_lex_Word_20 b_lex_Word_21
abbrev b_lex_Word_18 : AC := .cond (.s 4) .skip b_lex_Word_19
abbrev b_lex_Word_16 : AC := .seq b_lex_Word_17 b_lex_Word_18
abbrev b_lex_Word_15 : AC := .cond (.s 4) .skip b_lex_Word_16
abbrev b_lex_Word_13 : AC := .seq b_lex_Word_14 b_lex_Word_15
abbrev b_lex_Word_12 : AC := .cond (.s 4) .skip b_lex_Word_13
abbrev b_lex_Word_10 : AC := .seq b_lex_Word_11 b_lex_Word_12
abbrev b_lex_Word_9 : AC := .cond (.s 4) .skip b_lex_Word_10
abbrev b_lex_Word_7 : AC := .seq b_lex_Word_8 b_lex_Word_9
abbrev b_lex_Word_46 : AC := .run [(.op (some 2) none (.mv (.k (.bool true))))]
abbrev b_lex_Word_45 : AC := .seq b_lex_Word_46 .ret
abbrev b_lex_Word_44 : AC := .cond (.s 4) b_lex_Word_45 .skip
abbrev b_lex_Word_6 : AC := .seq b_lex_Word_7 b_lex_Word_44
abbrev b_lex_Word_5 : AC := .block 0 b_lex_Word_6
abbrev b_lex_Word_3 : AC := .seq b_lex_Word_4 b_lex_Word_5
abbrev b_lex_Word_48 : AC := .run [(.op (some 2) none (.mv (.k (.bool false))))]
abbrev b_lex_Word_47 : AC := .seq b_lex_Word_48 .ret
abbrev b_lex_Word_2 : AC := .seq b_lex_Word_3 b_lex_Word_47
abbrev b_lex_Word_0 : AC := .seq b_lex_Word_1 b_lex_Word_2
abbrev b_lex_number_1 : AC := .run [(.op (some 2) none (.mv (.k (.int .i64 0)))), (.op (some 3) none (.mv (.k (.bool false))))]
abbrev b_lex_number_3 : AC := .run [(.op (some 4) none (.mv (.k (.int .i64 0))))]
abbrev b_lex_number_6 : AC := .run [(.op (some 5) none (.mv (.k (.int .i64 0))))]
abbrev b_lex_number_11 : AC := .run [(.op (some 7) none (.mv (.s 5))), (.op (some 8) none (.mv (.s 0))), (.op (some 9) none (.slen (.s 8))), (.op (some 10) none (.bin .lss (.s 7) (.s 9)))]
abbrev b_lex_number_12 : AC := .cond (.s 10) .skip (.exit 0)
abbrev b_lex_number_10 : AC := .seq b_lex_number_11 b_lex_number_12
abbrev b_lex_number_16 : AC := .run [(.op (some 13) none (.mv (.s 0))), (.op (some 14) none (.mv (.s 5))), (.op (some 15) none (.sidx (.s 13) (.s 14))), (.op (some 16) none (.bin .sub (.s 15) (.k (.int .u8 48)))), (.op (some 17) none (.conv .i64 (.s 16))), (.op (some 6) none (.mv (.s 17)))]
abbrev b_lex_number_19 : AC := .run [(.op (some 18) none (.mv (.s 4))), (.op (some 19) none (.mv (.s 6))), (.op (some 20) none (.bin .sub (.k (.int .i64 9223372036854775807)) (.s 19))), (.op (some 21) none (.bin .quo (.s 20) (.k (.int .i64 10)))), (.op (some 22) none (.bin .gtr (.s 18) (.s 21)))]
abbrev b_lex_number_22 : AC := .run [(.op (some 2) none (.mv (.k (.int .i64 0)))), (.op (some 3) none (.mv (.k (.bool false))))]
abbrev b_lex_number_21 : AC := .seq b_lex_number_22 .ret
abbrev b_lex_number_20 : AC := .cond (.s 22) b_lex_number_21 .skip
abbrev b_lex_number_18 : AC := .seq b_lex_number_19 b_lex_number_20
abbrev b_lex_number_23 : AC := .run [(.op (some 23) none (.mv (.s 4))), (.op (some 24) none (.bin .mul (.s 23) (.k (.int .i64 10)))), (.op (some 25) none (.mv (.s 6))), (.op (some 26) none (.bin .add (.s 24) (.s 25))), (.op (some 4) none (.mv (.s 26)))]
abbrev b_lex_number_17 : AC := .seq b_lex_number_18 b_lex_number_23
abbrev b_lex_number_15 : AC := .seq b_lex_number_16 b_lex_number_17
abbrev b_lex_number_14 : AC := .block 1 b_lex_number_15
abbrev b_lex_number_24 : AC := .run [(.op (some 11) none (.mv (.s 5))), (.op (some 12) none (.bin .add (.s 11) (.k (.int .i64 1)))), (.op (some 5) none (.mv (.s 12)))]
abbrev b_lex_number_13 : AC := .seq b_lex_number_14 b_lex_number_24
abbrev b_lex_number_9 : AC := .seq b_lex_number_10 b_lex_number_13
abbrev b_lex_number_8 : AC := .loop b_lex_number_9
abbrev b_lex_number_7 : AC := .block 0 b_lex_number_8
abbrev b_lex_number_5 : AC := .seq b_lex_number_6 b_lex_number_7
abbrev b_lex_number_26 : AC := .run [(.op (some 27) none (.mv (.s 4))), (.op (some 2) none (.mv (.s 27))), (.op (some 3) none (.mv (.k (.bool true))))]
abbrev b_lex_number_25 : AC := .seq b_lex_number_26 .ret
abbrev b_lex_number_4 : AC := .seq b_lex_number_5 b_lex_number_25
abbrev b_lex_number_2 : AC := .seq b_lex_number_3 b_lex_number_4
abbrev b_lex_number_0 : AC := .seq b_lex_number_1 b_lex_number_2
abbrev b_ref3_deep_1 : AC := .run [(.op (some 2) none (.box (.s 0))), (.op (some 4) none (.mv (.k (.int .i64 0))))]
abbrev b_ref3_deep_4 : AC := .run [(.op (some 8) none (.mv (.s 1))), (.op (some 9) none (.bin .eql (.s 8) (.k (.int .i64 0))))]
abbrev b_ref3_deep_7 : AC := .run [(.op (some 4) none (.mv (.k (.int .i64 1))))]
abbrev b_ref3_deep_6 : AC := .seq b_ref3_deep_7 .ret
abbrev b_ref3_deep_5 : AC := .cond (.s 9) b_ref3_deep_6 .skip
abbrev b_ref3_deep_3 : AC := .seq b_ref3_deep_4 b_ref3_deep_5
abbrev b_ref3_deep_9 : AC := .run [(.op (some 5) none (.mv (.k (.int .i64 0))))]
abbrev b_ref3_deep_12 : AC := .run [(.op (some 6) none (.mv (.k (.int .i64 0))))]
abbrev b_ref3_deep_17 : AC := .run [(.op (some 10) none (.mv (.s 6))), (.op (some 11) none (.faddr (.s 2) 3)), (.op (some 12) none (.load (.s 11) false 1)), (.op (some 13) none (.len (.s 12))), (.op (some 14) none (.bin .lss (.s 10) (.s 13))), (.op (some 15) none (.mv (.s 14))), (.op (some 16) (some (15, true)) (.mv (.s 5))), (.op (some 17) (some (15, true)) (.mv (.s 1))), (.op (some 18) (some (15, true)) (.bin .lss (.s 16) (.s 17))), (.op (some 19) none (.pick (.s 15) (.s 18) (.k (.bool false))))]
abbrev b_ref3_deep_18 : AC := .cond (.s 19) .skip (.exit 0)
abbrev b_ref3_deep_16 : AC := .seq b_ref3_deep_17 b_ref3_deep_18
abbrev b_ref3_deep_22 : AC := .run [(.op (some 22) none (.faddr (.s 2) 3)), (.op (some 23) none (.load (.s 22) false 1)), (.op (some 24) none (.mv (.s 6))), (.op (some 25) none (.iaddr (.s 23) (.s 24) 4)), (.op (some 26) none (.load (.s 25) true 4)), (.op (some 27) none (.mv (.s 1))), (.op (some 28) none (.bin .sub (.s 27) (.k (.int .i64 1)))), (.call (some 29) none n_ref3_deep [(.s 26), (.s 28)]), (.op (some 7) none (.mv (.s 29)))]
abbrev b_ref3_deep_24 : AC := .run [(.op (some 30) none (.mv (.s 7))), (.op (some 31) none (.mv (.s 5))), (.op (some 32) none (.bin .gtr (.s 30) (.s 31)))]
abbrev b_ref3_deep_26 : AC := .run [(.op (some 33) none (.mv (.s 7))), (.op (some 5) none (.mv (.s 33)))]
abbrev b_ref3_deep_25 : AC := .cond (.s 32) b_ref3_deep_26 .skip
abbrev b_ref3_deep_23 : AC := .seq b_ref3_deep_24 b_ref3_deep_25
abbrev b_ref3_deep_21 : AC := .seq b_ref3_deep_22 b_ref3_deep_23
abbrev b_ref3_deep_20 : AC := .block 1 b_ref3_deep_21
abbrev b_ref3_deep_27 : AC := .run [(.op (some 20) none (.mv (.s 6))), (.op (some 21) none (.bin .add (.s 20) (.k (.int .i64 1)))), (.op (some 6) none (.mv (.s 21)))]
abbrev b_ref3_deep_19 : AC := .seq b_ref3_deep_20 b_ref3_deep_27
abbrev b_ref3_deep_15 : AC := .seq b_ref3_deep_16 b_ref3_deep_19
abbrev b_ref3_deep_14 : AC := .loop b_ref3_deep_15
abbrev b_ref3_deep_13 : AC := .block 0 b_ref3_deep_14
abbrev b_ref3_deep_11 : AC := .seq b_ref3_deep_12 b_ref3_deep_13
abbrev b_ref3_deep_29 : AC := .run [(.op (some 34) none (.mv (.s 5))), (.op (some 35) none (.bin .add (.s 34) (.k (.int .i64 1)))), (.op (some 4) none (.mv (.s 35)))]
abbrev b_ref3_deep_28 : AC := .seq b_ref3_deep_29 .ret
abbrev b_ref3_deep_10 : AC := .seq b_ref3_deep_11 b_ref3_deep_28
abbrev b_ref3_deep_8 : AC := .seq b_ref3_deep_9 b_ref3_deep_10
abbrev b_ref3_deep_2 : AC := .seq b_ref3_deep_3 b_ref3_deep_8
abbrev b_ref3_deep_0 : AC := .seq b_ref3_deep_1 b_ref3_deep_2
abbrev b_ref3_name_1 : AC := .run [(.op (some 2) none (.alloc [(.int .i64 0), (.int .i64 0), (.str []), (.slice .full 0 [])]))]
abbrev b_ref3_name_3 : AC := .run [(.op (some 3) none (.mv (.s 0))), (.op (some 4) none (.build [(.int .i64 0), (.int .i64 0), (.str []), (.slice .full 0 [])] [(0, (1, (.k (.int .i64 2)))), (2, (1, (.s 3)))])), (.op none none (.store (.s 2) (.s 4) 4))]
abbrev b_ref3_name_2 : AC := .seq b_ref3_name_3 .ret
abbrev b_ref3_name_0 : AC := .seq b_ref3_name_1 b_ref3_name_2
abbrev b_ref3_Binds_1 : AC := .run [(.op (some 2) none (.mv (.k (.int .i64 0)))), (.op (some 3) none (.mv (.k (.int .i64 0))))]
abbrev b_ref3_Binds_3 : AC := .run [(.op (some 8) none (.bslice [(.str [])] 1 13 [(0, (.k (.str [42]))), (1, (.k (.str [47]))), (2, (.k (.str [37]))), (3, (.k (.str [43]))), (4, (.k (.str [45]))), (5, (.k (.str [60]))), (6, (.k (.str [60, 61]))), (7, (.k (.str [62]))), (8, (.k (.str [62, 61]))), (9, (.k (.str [61, 61]))), (10, (.k (.str [33, 61]))), (11, (.k (.str [38, 38]))), (12, (.k (.str [124, 124])))])), (.op (some 4) none (.mv (.s 8)))]
abbrev b_ref3_Binds_5 : AC := .run [(.op (some 9) none (.bslice [(.int .i64 0)] 1 13 [(0, (.k (.int .i64 6))), (1, (.k (.int .i64 6))), (2, (.k (.int .i64 6))), (3, (.k (.int .i64 5))), (4, (.k (.int .i64 5))), (5, (.k (.int .i64 4))), (6, (.k (.int .i64 4))), (7, (.k (.int .i64 4))), (8, (.k (.int .i64 4))), (9, (.k (.int .i64 3))), (10, (.k (.int .i64 3))), (11, (.k (.int .i64 2))), (12, (.k (.int .i64 1)))])), (.op (some 5) none (.mv (.s 9)))]
abbrev b_ref3_Binds_8 : AC := .run [(.op (some 10) none (.mv (.s 4))), (.op (some 11) none (.len (.s 10))), (.op (some 12) none (.mv (.k (.int .i64 0))))]
abbrev b_ref3_Binds_12 : AC := .run [(.op (some 13) none (.bin .lss (.s 12) (.s 11)))]
abbrev b_ref3_Binds_14 : AC := .cond (.s 13) .skip (.exit 0)
abbrev b_ref3_Binds_18 : AC := .run [(.op (some 14) none (.mv (.s 12))), (.op (some 15) none (.iaddr (.s 10) (.s 12) 1)), (.op (some 16) none (.load (.s 15) false 1)), (.op (some 6) none (.mv (.s 14))), (.op (some 7) none (.mv (.s 16)))]
abbrev b_ref3_Binds_20 : AC := .run [(.op (some 17) none (.mv (.s 7))), (.op (some 18) none (.mv (.s 0))), (.op (some 19) none (.bin .eql (.s 17) (.s 18)))]
abbrev b_ref3_Binds_23 : AC := .run [(.op (some 20) none (.mv (.s 5))), (.op (some 21) none (.mv (.s 6))), (.op (some 22) none (.iaddr (.s 20) (.s 21) 1)), (.op (some 23) none (.load (.s 22) false 1)), (.op (some 24) none (.mv (.s 6))), (.op (some 25) none (.bin .add (.k (.int .i64 5)) (.s 24))), (.op (some 2) none (.mv (.s 23))), (.op (some 3) none (.mv (.s 25)))]
abbrev b_ref3_Binds_22 : AC := .seq b_ref3_Binds_23 .ret
abbrev b_ref3_Binds_21 : AC := .cond (.s 19) b_ref3_Binds_22 .skip
abbrev b_ref3_Binds_19 : AC := .seq b_ref3_Binds_20 b_ref3_Binds_21
abbrev b_ref3_Binds_17 : AC := .seq b_ref3_Binds_18 b_ref3_Binds_19
abbrev b_ref3_Binds_16 : AC := .block 1 b_ref3_Binds_17
abbrev b_ref3_Binds_24 : AC := .run [(.op (some 26) none (.bin .add (.s 12) (.k (.int .i64 1)))), (.op (some 12) none (.mv (.s 26)))]
abbrev b_ref3_Binds_15 : AC := .seq b_ref3_Binds_16 b_ref3_Binds_24
abbrev b_ref3_Binds_13 : AC := .seq b_ref3_Binds_14 b_ref3_Binds_15
abbrev b_ref3_Binds_11 : AC := .seq b_ref3_Binds_12 b_ref3_Binds_13
abbrev b_ref3_Binds_10 : AC := .loop b_ref3_Binds_11
abbrev b_ref3_Binds_9 : AC := .block 0 b_ref3_Binds_10
abbrev b_ref3_Binds_7 : AC := .seq b_ref3_Binds_8 b_ref3_Binds_9
abbrev b_ref3_Binds_26 : AC := .run [(.op (some 2) none (.mv (.k (.int .i64 0)))), (.op (some 3) none (.mv (.k (.int .i64 0))))]
abbrev b_ref3_Binds_25 : AC := .seq b_ref3_Binds_26 .ret
abbrev b_ref3_Binds_6 : AC := .seq b_ref3_Binds_7 b_ref3_Binds_25
abbrev b_ref3_Binds_4 : AC := .seq b_ref3_Binds_5 b_ref3_Binds_6
abbrev b_ref3_Binds_2 : AC := .seq b_ref3_Binds_3 b_ref3_Binds_4
abbrev b_ref3_Binds_0 : AC := .seq b_ref3_Binds_1 b_ref3_Binds_2
abbrev b_ref3_two_1 : AC := .run [(.op (some 4) none (.box (.s 1))), (.op (some 5) none (.box (.s 2))), (.op (some 6) none (.alloc [(.int .i64 0), (.int .i64 0), (.str []), (.slice .full 0 [])]))]
abbrev b_ref3_two_3 : AC := .run [(.op (some 7) none (.mv (.s 0))), (.op (some 8) none (.load (.s 4) true 4)), (.op (some 9) none (.load (.s 5) true 4)), (.op (some 10) none (.bslice [(.int .i64 0), (.int .i64 0), (.str []), (.slice .full 0 [])] 4 2 [(0, (.s 8)), (1, (.s 9))])), (.op (some 11) none (.build [(.int .i64 0), (.int .i64 0), (.str []), (.slice .full 0 [])] [(0, (1, (.s 7))), (3, (1, (.s 10)))])), (.op none none (.store (.s 6) (.s 11) 4))]
abbrev b_ref3_two_2 : AC := .seq b_ref3_two_3 .ret
abbrev b_ref3_two_0 : AC := .seq b_ref3_two_1 b_ref3_two_2
abbrev b_ref3_num_1 : AC := .run [(.op (some 2) none (.alloc [(.int .i64 0), (.int .i64 0), (.str []), (.slice .full 0 [])]))]
abbrev b_ref3_num_3 : AC := .run [(.op (some 3) none (.mv (.s 0))), (.op (some 4) none (.build [(.int .i64 0), (.int .i64 0), (.str []), (.slice .full 0 [])] [(0, (1, (.k (.int .i64 1)))), (1, (1, (.s 3)))])), (.op none none (.store (.s 2) (.s 4) 4))]
abbrev b_ref3_num_2 : AC := .seq b_ref3_num_3 .ret
abbrev b_ref3_num_0 : AC := .seq b_ref3_num_1 b_ref3_num_2
abbrev b_parse_reader_take_1 : AC := .run [(.op (some 4) none (.mv (.k (.bool false))))]
abbrev b_parse_reader_take_4 : AC := .run [(.op (some 5) none (.mv (.s 0))), (.call (some 6) none n_parse_reader_good [(.s 5)]), (.op (some 7) none (.un .not (.s 6))), (.op (some 8) none (.mv (.s 7))), (.op (some 9) (some (8, false)) (.mv (.s 0))), (.op (some 10) (some (8, false)) (.mv (.s 1))), (.call (some 11) (some (8, false)) n_parse_reader_is [(.s 9), (.s 10)]), (.op (some 12) (some (8, false)) (.un .not (.s 11))), (.op (some 13) none (.pick (.s 8) (.k (.bool true)) (.s 12)))]
abbrev b_parse_reader_take_7 : AC := .run [(.op (some 4) none (.mv (.k (.bool false))))]
abbrev b_parse_reader_take_6 : AC := .seq b_parse_reader_take_7 .ret
abbrev b_parse_reader_take_5 : AC := .cond (.s 13) b_parse_reader_take_6 .skip
abbrev b_parse_reader_take_3 : AC := .seq b_parse_reader_take_4 b_parse_reader_take_5
abbrev b_parse_reader_take_9 : AC := .run [(.op (some 14) none (.mv (.s 0))), (.op (some 15) none (.nilck (.s 14))), (.op (some 16) none (.faddr (.s 15) 1)), (.op (some 17) none (.load (.s 16) false 1)), (.op (some 18) none (.bin .add (.s 17) (.k (.int .i64 1)))), (.op (some 19) none (.nilck (.s 14))), (.op (some 20) none (.faddr (.s 19) 1)), (.op none none (.store (.s 20) (.s 18) 1))]
abbrev b_parse_reader_take_11 : AC := .run [(.op (some 4) none (.mv (.k (.bool true))))]
abbrev b_parse_reader_take_10 : AC := .seq b_parse_reader_take_11 .ret
abbrev b_parse_reader_take_8 : AC := .seq b_parse_reader_take_9 b_parse_reader_take_10
abbrev b_parse_reader_take_2 : AC := .seq b_parse_reader_take_3 b_parse_reader_take_8
abbrev b_parse_reader_take_0 : AC := .seq b_parse_reader_take_1 b_parse_reader_take_2
abbrev b_parse_reader_names_1 : AC := .run [(.op (some 6) none (.mv (.k (.slice .full 0 []))))]
abbrev b_parse_reader_names_7 : AC := .run [(.op (some 7) none (.mv (.s 0))), (.call (some 8) none n_parse_reader_good [(.s 7)])]
abbrev b_parse_reader_names_8 : AC := .cond (.s 8) .skip (.exit 0)
abbrev b_parse_reader_names_6 : AC := .seq b_parse_reader_names_7 b_parse_reader_names_8
abbrev b_parse_reader_names_11 : AC := .run [(.op (some 9) none (.mv (.s 1))), (.op (some 10) none (.mv (.s 0))), (.op (some 11) none (.mv (.s 1))), (.op (some 12) none (.len (.s 11))), (.op (some 13) none (.mv (.s 2))), (.op (some 14) none (.bin .lss (.s 12) (.s 13))), (.call (some 15) none n_parse_reader_name [(.s 10), (.s 14)]), (.op (some 16) none (.bslice [(.str [])] 1 1 [(0, (.s 15))])), (.op (some 17) none (.app 1 16 (.s 9) (.s 16))), (.op (some 1) none (.mv (.s 17)))]
abbrev b_parse_reader_names_13 : AC := .run [(.op (some 18) none (.mv (.s 0))), (.call (some 19) none n_parse_reader_take [(.s 18), (.k (.str [44]))]), (.op (some 20) none (.un .not (.s 19)))]
abbrev b_parse_reader_names_16 : AC := .run [(.op (some 21) none (.mv (.s 0))), (.call (some 22) none n_parse_reader_want [(.s 21), (.k (.str [59]))])]
abbrev b_parse_reader_names_18 : AC := .run [(.op (some 23) none (.mv (.s 1))), (.op (some 6) none (.mv (.s 23)))]
abbrev b_parse_reader_names_17 : AC := .seq b_parse_reader_names_18 .ret
abbrev b_parse_reader_names_15 : AC := .seq b_parse_reader_names_16 b_parse_reader_names_17
abbrev b_parse_reader_names_14 : AC := .cond (.s 20) b_parse_reader_names_15 .skip
abbrev b_parse_reader_names_12 : AC := .seq b_parse_reader_names_13 b_parse_reader_names_14
abbrev b_parse_reader_names_10 : AC := .seq b_parse_reader_names_11 b_parse_reader_names_12
abbrev b_parse_reader_names_9 : AC := .block 1 b_parse_reader_names_10
abbrev b_parse_reader_names_5 : AC := .seq b_parse_reader_names_6 b_parse_reader_names_9
abbrev b_parse_reader_names_4 : AC := .loop b_parse_reader_names_5
abbrev b_parse_reader_names_3 : AC := .block 0 b_parse_reader_names_4
abbrev b_parse_reader_names_20 : AC := .run [(.op (some 24) none (.mv (.s 1))), (.op (some 6) none (.mv (.s 24)))]
abbrev b_parse_reader_names_19 : AC := .seq b_parse_reader_names_20 .ret
abbrev b_parse_reader_names_2 : AC := .seq b_parse_reader_names_3 b_parse_reader_names_19
abbrev b_parse_reader_names_0 : AC := .seq b_parse_reader_names_1 b_parse_reader_names_2
abbrev b_parse_reader_is_1 : AC := .run [(.op (some 4) none (.mv (.k (.bool false))))]
abbrev b_parse_reader_is_3 : AC := .run [(.op (some 6) none (.mv (.s 0))), (.call (some 7) none n_parse_reader_peek [(.s 6)]), (.op (some 5) none (.alloc [(.int .i64 0), (.str []), (.int .i64 0), (.int .i64 0)])), (.op none none (.store (.s 5) (.s 7) 4))]
abbrev b_parse_reader_is_5 : AC := .run [(.op (some 8) none (.faddr (.s 5) 0)), (.op (some 9) none (.load (.s 8) false 1)), (.op (some 10) none (.bin .eql (.s 9) (.k (.int .i64 3)))), (.op (some 11) none (.mv (.s 10))), (.op (some 12) (some (11, false)) (.faddr (.s 5) 0)), (.op (some 13) (some (11, false)) (.load (.s 12) false 1)), (.op (some 14) (some (11, false)) (.bin .eql (.s 13) (.k (.int .i64 4)))), (.op (some 15) none (.pick (.s 11) (.k (.bool true)) (.s 14))), (.op (some 16) none (.mv (.s 15))), (.op (some 17) (some (16, true)) (.faddr (.s 5) 1)), (.op (some 18) (some (16, true)) (.load (.s 17) false 1)), (.op (some 19) (some (16, true)) (.mv (.s 1))), (.op (some 20) (some (16, true)) (.bin .eql (.s 18) (.s 19))), (.op (some 21) none (.pick (.s 16) (.s 20) (.k (.bool false)))), (.op (some 4) none (.mv (.s 21)))]
abbrev b_parse_reader_is_4 : AC := .seq b_parse_reader_is_5 .ret
abbrev b_parse_reader_is_2 : AC := .seq b_parse_reader_is_3 b_parse_reader_is_4
abbrev b_parse_reader_is_0 : AC := .seq b_parse_reader_is_1 b_parse_reader_is_2
abbrev b_parse_reader_proc_1 : AC := .run [(.op (some 2) none (.alloc [(.str []), (.slice .full 0 []), (.slice .full 0 []), (.slice .full 0 []), (.slice .full 0 [])]))]
abbrev b_parse_reader_proc_3 : AC := .run [(.op (some 5) none (.mv (.s 0))), (.call (some 6) none n_parse_reader_name [(.s 5), (.k (.bool true))]), (.op (some 7) none (.build [(.str []), (.slice .full 0 []), (.slice .full 0 []), (.slice .full 0 []), (.slice .full 0 [])] [(0, (1, (.s 6)))])), (.op (some 3) none (.alloc [(.str []), (.slice .full 0 []), (.slice .full 0 []), (.slice .full 0 []), (.slice .full 0 [])])), (.op none none (.store (.s 3) (.s 7) 5))]
abbrev b_parse_reader_proc_5 : AC := .run [(.op (some 8) none (.mv (.s 0))), (.call (some 9) none n_parse_reader_want [(.s 8), (.k (.str [40]))])]
abbrev b_parse_reader_proc_8 : AC := .run [(.op (some 10) none (.mv (.s 0))), (.call (some 11) none n_parse_reader_good [(.s 10)]), (.op (some 12) none (.mv (.s 11))), (.op (some 13) (some (12, true)) (.mv (.s 0))), (.call (some 14) (some (12, true)) n_parse_reader_is [(.s 13), (.k (.str [41]))]), (.op (some 15) (some (12, true)) (.un .not (.s 14))), (.op (some 16) none (.pick (.s 12) (.s 15) (.k (.bool false))))]
abbrev b_parse_reader_proc_14 : AC := .run [(.op (some 17) none (.mv (.s 0))), (.call (some 18) none n_parse_reader_good [(.s 17)])]
abbrev b_parse_reader_proc_15 : AC := .cond (.s 18) .skip (.exit 0)
abbrev b_parse_reader_proc_13 : AC := .seq b_parse_reader_proc_14 b_parse_reader_proc_15
abbrev b_parse_reader_proc_18 : AC := .run [(.op (some 19) none (.mv (.s 0))), (.call (some 20) none n_parse_reader_take [(.s 19), (.k (.str [114, 101, 102]))]), (.op (some 4) none (.mv (.s 20)))]
abbrev b_parse_reader_proc_20 : AC := .par [(.op (some 21) none (.faddr (.s 3) 1)), (.op (some 22) none (.load (.s 21) false 1)), (.op (some 23) none (.mv (.s 0))), (.op (some 24) none (.faddr (.s 3) 1)), (.op (some 25) none (.load (.s 24) false 1)), (.op (some 26) none (.len (.s 25))), (.op (some 27) none (.bin .lss (.s 26) (.k (.int .i64 8)))), (.call (some 28) none n_parse_reader_name [(.s 23), (.s 27)]), (.op (some 29) none (.mv (.s 4))), (.op (some 30) none (.build [(.str []), (.bool false)] [(0, (1, (.s 28))), (1, (1, (.s 29)))])), (.op (some 31) none (.bslice [(.str []), (.bool false)] 2 1 [(0, (.s 30))])), (.op (some 32) none (.app 2 24 (.s 22) (.s 31))), (.op (some 33) none (.faddr (.s 3) 1)), (.op none none (.store (.s 33) (.s 32) 1))] [(2, 0), (3, 0), (4, 0), (5, 0), (6, 0), (7, 0), (0, 0), (1, 1), (8, 0), (9, 0), (10, 0), (11, 0), (12, 0), (13, 0)]
abbrev b_parse_reader_proc_22 : AC := .run [(.op (some 34) none (.mv (.s 0))), (.call (some 35) none n_parse_reader_take [(.s 34), (.k (.str [44]))]), (.op (some 36) none (.un .not (.s 35)))]
abbrev b_parse_reader_proc_23 : AC := .cond (.s 36) (.exit 0) .skip
abbrev b_parse_reader_proc_21 : AC := .seq b_parse_reader_proc_22 b_parse_reader_proc_23
abbrev b_parse_reader_proc_19 : AC := .seq b_parse_reader_proc_20 b_parse_reader_proc_21
abbrev b_parse_reader_proc_17 : AC := .seq b_parse_reader_proc_18 b_parse_reader_proc_19
abbrev b_parse_reader_proc_16 : AC := .block 1 b_parse_reader_proc_17
abbrev b_parse_reader_proc_12 : AC := .seq b_parse_reader_proc_13 b_parse_reader_proc_16
abbrev b_parse_reader_proc_11 : AC := .loop b_parse_reader_proc_12
abbrev b_parse_reader_proc_10 : AC := .block 0 b_parse_reader_proc_11
abbrev b_parse_reader_proc_9 : AC := .cond (.s 16) b_parse_reader_proc_10 .skip
abbrev b_parse_reader_proc_7 : AC := .seq b_parse_reader_proc_8 b_parse_reader_proc_9
abbrev b_parse_reader_proc_25 : AC := .run [(.op (some 37) none (.mv (.s 0))), (.call (some 38) none n_parse_reader_want [(.s 37), (.k (.str [41]))])]
abbrev b_parse_reader_proc_27 : AC := .run [(.op (some 39) none (.mv (.s 0))), (.call (some 40) none n_parse_reader_want [(.s 39), (.k (.str [123]))])]
abbrev b_parse_reader_proc_33 : AC := .run [(.op (some 41) none (.mv (.s 0))), (.call (some 42) none n_parse_reader_take [(.s 41), (.k (.str [118, 97, 114]))])]
abbrev b_parse_reader_proc_34 : AC := .cond (.s 42) .skip (.exit 2)
abbrev b_parse_reader_proc_32 : AC := .seq b_parse_reader_proc_33 b_parse_reader_proc_34
abbrev b_parse_reader_proc_36 : AC := .run [(.op (some 43) none (.mv (.s 0))), (.op (some 44) none (.faddr (.s 3) 2)), (.op (some 45) none (.load (.s 44) false 1)), (.call (some 46) none n_parse_reader_names [(.s 43), (.s 45), (.k (.int .i64 16))]), (.op (some 47) none (.faddr (.s 3) 2)), (.op none none (.store (.s 47) (.s 46) 1))]
abbrev b_parse_reader_proc_35 : AC := .block 3 b_parse_reader_proc_36
abbrev b_parse_reader_proc_31 : AC := .seq b_parse_reader_proc_32 b_parse_reader_proc_35
abbrev b_parse_reader_proc_30 : AC := .loop b_parse_reader_proc_31
abbrev b_parse_reader_proc_29 : AC := .block 2 b_parse_reader_proc_30
abbrev b_parse_reader_proc_38 : AC := .run [(.op (some 49) none (.mv (.s 0))), (.call (some 50) none n_parse_reader_rows [(.s 49), (.k (.int .i64 1)), (.k (.bool true))]), (.op (some 48) none (.mv (.s 50))), (.op (some 51) none (.ext (.s 48) 0)), (.op (some 52) none (.ext (.s 48) 1)), (.op (some 53) none (.faddr (.s 3) 3)), (.op none none (.store (.s 53) (.s 51) 1)), (.op (some 54) none (.faddr (.s 3) 4)), (.op none none (.store (.s 54) (.s 52) 1))]
abbrev b_parse_reader_proc_40 : AC := .run [(.op (some 55) none (.load (.s 3) true 5)), (.op none none (.store (.s 2) (.s 55) 5))]
abbrev b_parse_reader_proc_39 : AC := .seq b_parse_reader_proc_40 .ret
abbrev b_parse_reader_proc_37 : AC := .seq b_parse_reader_proc_38 b_parse_reader_proc_39
abbrev b_parse_reader_proc_28 : AC := .seq b_parse_reader_proc_29 b_parse_reader_proc_37
abbrev b_parse_reader_proc_26 : AC := .seq b_parse_reader_proc_27 b_parse_reader_proc_28
abbrev b_parse_reader_proc_24 : AC := .seq b_parse_reader_proc_25 b_parse_reader_proc_26
abbrev b_parse_reader_proc_6 : AC := .seq b_parse_reader_proc_7 b_parse_reader_proc_24
abbrev b_parse_reader_proc_4 : AC := .seq b_parse_reader_proc_5 b_parse_reader_proc_6
abbrev b_parse_reader_proc_2 : AC := .seq b_parse_reader_proc_3 b_parse_reader_proc_4
abbrev b_parse_reader_proc_0 : AC := .seq b_parse_reader_proc_1 b_parse_reader_proc_2
abbrev b_slices_Clone_string_1 : AC := .run [(.op (some 2) none (.mv (.k (.slice .full 0 []))))]
abbrev b_slices_Clone_string_4 : AC := .run [(.op (some 3) none (.mv (.s 0))), (.nil (some 4) none false (.s 3))]
abbrev b_slices_Clone_string_7 : AC := .run [(.op (some 2) none (.mv (.k (.slice .full 0 []))))]
abbrev b_slices_Clone_string_6 : AC := .seq b_slices_Clone_string_7 .ret
abbrev b_slices_Clone_string_5 : AC := .cond (.s 4) b_slices_Clone_string_6 .skip
abbrev b_slices_Clone_string_3 : AC := .seq b_slices_Clone_string_4 b_slices_Clone_string_5
abbrev b_slices_Clone_string_9 : AC := .run [(.op (some 5) none (.bslice [(.str [])] 1 0 [])), (.op (some 6) none (.mv (.s 0))), (.op (some 7) none (.app 1 16 (.s 5) (.s 6))), (.op (some 2) none (.mv (.s 7)))]
abbrev b_slices_Clone_string_8 : AC := .seq b_slices_Clone_string_9 .ret
abbrev b_slices_Clone_string_2 : AC := .seq b_slices_Clone_string_3 b_slices_Clone_string_8
abbrev b_slices_Clone_string_0 : AC := .seq b_slices_Clone_string_1 b_slices_Clone_string_2
abbrev b_slices_Clone_api_Param_1 : AC := .run [(.op (some 2) none (.mv (.k (.slice .full 0 []))))]
abbrev b_slices_Clone_api_Param_4 : AC := .run [(.op (some 3) none (.mv (.s 0))), (.nil (some 4) none false (.s 3))]
abbrev b_slices_Clone_api_Param_7 : AC := .run [(.op (some 2) none (.mv (.k (.slice .full 0 []))))]
abbrev b_slices_Clone_api_Param_6 : AC := .seq b_slices_Clone_api_Param_7 .ret
abbrev b_slices_Clone_api_Param_5 : AC := .cond (.s 4) b_slices_Clone_api_Param_6 .skip
abbrev b_slices_Clone_api_Param_3 : AC := .seq b_slices_Clone_api_Param_4 b_slices_Clone_api_Param_5
abbrev b_slices_Clone_api_Param_9 : AC := .run [(.op (some 5) none (.bslice [(.str []), (.bool false)] 2 0 [])), (.op (some 6) none (.mv (.s 0))), (.op (some 7) none (.app 2 24 (.s 5) (.s 6))), (.op (some 2) none (.mv (.s 7)))]
abbrev b_slices_Clone_api_Param_8 : AC := .seq b_slices_Clone_api_Param_9 .ret
abbrev b_slices_Clone_api_Param_2 : AC := .seq b_slices_Clone_api_Param_3 b_slices_Clone_api_Param_8
abbrev b_slices_Clone_api_Param_0 : AC := .seq b_slices_Clone_api_Param_1 b_slices_Clone_api_Param_2
abbrev b_tree_copied_1 : AC := .run [(.op (some 6) none (.mv (.k (.slice .full 0 [])))), (.op (some 7) none (.mv (.k (.int .i64 0))))]
abbrev b_tree_copied_3 : AC := .run [(.op (some 8) none (.mv (.k (.slice .full 0 []))))]
abbrev b_tree_copied_6 : AC := .run [(.op (some 14) none (.mv (.s 0))), (.op (some 15) none (.len (.s 14))), (.op (some 16) none (.mv (.k (.int .i64 0))))]
abbrev b_tree_copied_10 : AC := .run [(.op (some 17) none (.bin .lss (.s 16) (.s 15)))]
abbrev b_tree_copied_12 : AC := .cond (.s 17) .skip (.exit 0)
abbrev b_tree_copied_16 : AC := .run [(.op (some 18) none (.iaddr (.s 14) (.s 16) 13)), (.op (some 19) none (.load (.s 18) true 13)), (.op (some 10) none (.alloc [(.int .i64 0), (.int .i64 0), (.slice .full 0 []), (.str []), (.str []), (.int .i64 0), (.int .i64 0), (.str []), (.slice .full 0 []), (.bool false), (.slice .full 0 []), (.slice .full 0 []), (.slice .full 0 [])])), (.op none none (.store (.s 10) (.s 19) 13))]
abbrev b_tree_copied_18 : AC := .run [(.op (some 20) none (.mv (.s 1))), (.op (some 21) none (.bin .add (.s 20) (.k (.int .i64 1)))), (.op (some 1) none (.mv (.s 21)))]
abbrev b_tree_copied_20 : AC := .run [(.op (some 22) none (.load (.s 10) true 13)), (.op (some 11) none (.alloc [(.int .i64 0), (.int .i64 0), (.slice .full 0 []), (.str []), (.str []), (.int .i64 0), (.int .i64 0), (.str []), (.slice .full 0 []), (.bool false), (.slice .full 0 []), (.slice .full 0 []), (.slice .full 0 [])])), (.op none none (.store (.s 11) (.s 22) 13))]
abbrev b_tree_copied_23 : AC := .run [(.op (some 23) none (.mv (.s 2)))]
abbrev b_tree_copied_25 : AC := .run [(.op (some 24) none (.mv (.s 1))), (.op (some 25) none (.faddr (.s 11) 0)), (.op none none (.store (.s 25) (.s 24) 1))]
abbrev b_tree_copied_24 : AC := .cond (.s 23) b_tree_copied_25 .skip
abbrev b_tree_copied_22 : AC := .seq b_tree_copied_23 b_tree_copied_24
abbrev b_tree_copied_27 : AC := .par [(.op (some 26) none (.faddr (.s 10) 2)), (.op (some 27) none (.load (.s 26) false 1)), (.call (some 28) none n_slices_Clone_string [(.s 27)]), (.op (some 29) none (.faddr (.s 10) 5)), (.op (some 30) none (.load (.s 29) true 4)), (.call (some 31) none n_tree_expr [(.s 30)]), (.op (some 32) none (.faddr (.s 11) 2)), (.op none none (.store (.s 32) (.s 28) 1)), (.op (some 33) none (.faddr (.s 11) 5)), (.op none none (.store (.s 33) (.s 31) 4)), (.op (some 34) none (.faddr (.s 11) 10)), (.op none none (.store (.s 34) (.k (.slice .full 0 [])) 1))] [(0, 0), (1, 0), (2, 0), (3, 0), (4, 1), (5, 0), (6, 0), (7, 0), (8, 0), (9, 0), (10, 0), (11, 0)]
abbrev b_tree_copied_30 : AC := .run [(.op (some 35) none (.faddr (.s 10) 10)), (.op (some 36) none (.load (.s 35) false 1)), (.op (some 37) none (.len (.s 36))), (.op (some 38) none (.mv (.k (.int .i64 0))))]
abbrev b_tree_copied_34 : AC := .run [(.op (some 39) none (.bin .lss (.s 38) (.s 37)))]
abbrev b_tree_copied_36 : AC := .cond (.s 39) .skip (.exit 2)
abbrev b_tree_copied_40 : AC := .run [(.op (some 40) none (.iaddr (.s 36) (.s 38) 6)), (.op (some 41) none (.load (.s 40) true 6)), (.op (some 13) none (.alloc [(.bool false), (.str []), (.int .i64 0), (.int .i64 0), (.str []), (.slice .full 0 [])])), (.op none none (.store (.s 13) (.s 41) 6))]
abbrev b_tree_copied_42 : AC := .run [(.op (some 42) none (.faddr (.s 13) 2)), (.op (some 43) none (.load (.s 42) true 4)), (.call (some 44) none n_tree_expr [(.s 43)]), (.op (some 45) none (.faddr (.s 13) 2)), (.op none none (.store (.s 45) (.s 44) 4))]
abbrev b_tree_copied_43 : AC := .run [(.op (some 46) none (.faddr (.s 11) 10)), (.op (some 47) none (.load (.s 46) false 1)), (.op (some 48) none (.load (.s 13) true 6)), (.op (some 49) none (.bslice [(.bool false), (.str []), (.int .i64 0), (.int .i64 0), (.str []), (.slice .full 0 [])] 6 1 [(0, (.s 48))])), (.op (some 50) none (.app 6 80 (.s 47) (.s 49))), (.op (some 51) none (.faddr (.s 11) 10)), (.op none none (.store (.s 51) (.s 50) 1))]
abbrev b_tree_copied_41 : AC := .seq b_tree_copied_42 b_tree_copied_43
abbrev b_tree_copied_39 : AC := .seq b_tree_copied_40 b_tree_copied_41
abbrev b_tree_copied_38 : AC := .block 3 b_tree_copied_39
abbrev b_tree_copied_44 : AC := .run [(.op (some 52) none (.bin .add (.s 38) (.k (.int .i64 1)))), (.op (some 38) none (.mv (.s 52)))]
abbrev b_tree_copied_37 : AC := .seq b_tree_copied_38 b_tree_copied_44
abbrev b_tree_copied_35 : AC := .seq b_tree_copied_36 b_tree_copied_37
abbrev b_tree_copied_33 : AC := .seq b_tree_copied_34 b_tree_copied_35
abbrev b_tree_copied_32 : AC := .loop b_tree_copied_33
abbrev b_tree_copied_31 : AC := .block 2 b_tree_copied_32
abbrev b_tree_copied_29 : AC := .seq b_tree_copied_30 b_tree_copied_31
abbrev b_tree_copied_46 : AC := .run [(.op (some 54) none (.faddr (.s 10) 11)), (.op (some 55) none (.load (.s 54) false 1)), (.op (some 56) none (.mv (.s 1))), (.op (some 57) none (.mv (.s 2))), (.call (some 58) none n_tree_copied [(.s 55), (.s 56), (.s 57)]), (.op (some 53) none (.mv (.s 58))), (.op (some 59) none (.ext (.s 53) 0)), (.op (some 60) none (.ext (.s 53) 1)), (.op (some 61) none (.faddr (.s 11) 11)), (.op none none (.store (.s 61) (.s 59) 1)), (.op (some 1) none (.mv (.s 60)))]
abbrev b_tree_copied_48 : AC := .run [(.op (some 63) none (.faddr (.s 10) 12)), (.op (some 64) none (.load (.s 63) false 1)), (.op (some 65) none (.mv (.s 1))), (.op (some 66) none (.mv (.s 2))), (.call (some 67) none n_tree_copied [(.s 64), (.s 65), (.s 66)]), (.op (some 62) none (.mv (.s 67))), (.op (some 68) none (.ext (.s 62) 0)), (.op (some 69) none (.ext (.s 62) 1)), (.op (some 70) none (.faddr (.s 11) 12)), (.op none none (.store (.s 70) (.s 68) 1)), (.op (some 1) none (.mv (.s 69)))]
abbrev b_tree_copied_49 : AC := .run [(.op (some 71) none (.mv (.s 8))), (.op (some 72) none (.load (.s 11) true 13)), (.op (some 73) none (.bslice [(.int .i64 0), (.int .i64 0), (.slice .full 0 []), (.str []), (.str []), (.int .i64 0), (.int .i64 0), (.str []), (.slice .full 0 []), (.bool false), (.slice .full 0 []), (.slice .full 0 []), (.slice .full 0 [])] 13 1 [(0, (.s 72))])), (.op (some 74) none (.app 13 208 (.s 71) (.s 73))), (.op (some 8) none (.mv (.s 74)))]
abbrev b_tree_copied_47 : AC := .seq b_tree_copied_48 b_tree_copied_49
abbrev b_tree_copied_45 : AC := .seq b_tree_copied_46 b_tree_copied_47
abbrev b_tree_copied_28 : AC := .seq b_tree_copied_29 b_tree_copied_45
abbrev b_tree_copied_26 : AC := .seq b_tree_copied_27 b_tree_copied_28
abbrev b_tree_copied_21 : AC := .seq b_tree_copied_22 b_tree_copied_26
abbrev b_tree_copied_19 : AC := .seq b_tree_copied_20 b_tree_copied_21
abbrev b_tree_copied_17 : AC := .seq b_tree_copied_18 b_tree_copied_19
abbrev b_tree_copied_15 : AC := .seq b_tree_copied_16 b_tree_copied_17
abbrev b_tree_copied_14 : AC := .block 1 b_tree_copied_15
abbrev b_tree_copied_50 : AC := .run [(.op (some 75) none (.bin .add (.s 16) (.k (.int .i64 1)))), (.op (some 16) none (.mv (.s 75)))]
abbrev b_tree_copied_13 : AC := .seq b_tree_copied_14 b_tree_copied_50
abbrev b_tree_copied_11 : AC := .seq b_tree_copied_12 b_tree_copied_13
abbrev b_tree_copied_9 : AC := .seq b_tree_copied_10 b_tree_copied_11
abbrev b_tree_copied_8 : AC := .loop b_tree_copied_9
abbrev b_tree_copied_7 : AC := .block 0 b_tree_copied_8
abbrev b_tree_copied_5 : AC := .seq b_tree_copied_6 b_tree_copied_7
abbrev b_tree_copied_52 : AC := .run [(.op (some 76) none (.mv (.s 8))), (.op (some 77) none (.mv (.s 1))), (.op (some 6) none (.mv (.s 76))), (.op (some 7) none (.mv (.s 77)))]
abbrev b_tree_copied_51 : AC := .seq b_tree_copied_52 .ret
abbrev b_tree_copied_4 : AC := .seq b_tree_copied_5 b_tree_copied_51
abbrev b_tree_copied_2 : AC := .seq b_tree_copied_3 b_tree_copied_4
abbrev b_tree_copied_0 : AC := .seq b_tree_copied_1 b_tree_copied_2
abbrev b_ref1_blank_1 : AC := .run [(.op (some 2) none (.mv (.k (.bool false))))]
abbrev b_ref1_blank_3 : AC := .run [(.op (some 3) none (.mv (.s 0))), (.op (some 4) none (.bin .eql (.s 3) (.k (.int .u8 32)))), (.op (some 5) none (.mv (.s 4))), (.op (some 6) (some (5, false)) (.mv (.s 0))), (.op (some 7) (some (5, false)) (.bin .eql (.s 6) (.k (.int .u8 9)))), (.op (some 8) none (.pick (.s 5) (.k (.bool true)) (.s 7))), (.op (some 9) none (.mv (.s 8))), (.op (some 10) (some (9, false)) (.mv (.s 0))), (.op (some 11) (some (9, false)) (.bin .eql (.s 10) (.k (.int .u8 10)))), (.op (some 12) none (.pick (.s 9) (.k (.bool true)) (.s 11))), (.op (some 13) none (.mv (.s 12))), (.op (some 14) (some (13, false)) (.mv (.s 0))), (.op (some 15) (some (13, false)) (.bin .eql (.s 14) (.k (.int .u8 13)))), (.op (some 16) none (.pick (.s 13) (.k (.bool true)) (.s 15))), (.op (some 2) none (.mv (.s 16)))]
abbrev b_ref1_blank_2 : AC := .seq b_ref1_blank_3 .ret
abbrev b_ref1_blank_0 : AC := .seq b_ref1_blank_1 b_ref1_blank_2
abbrev b_ref1_token_1 : AC := .run [(.op (some 4) none (.alloc [(.int .i64 0), (.str []), (.int .i64 0), (.int .i64 0)])), (.op (some 5) none (.mv (.k (.int .i64 0))))]
abbrev b_ref1_token_5 : AC := .run [(.op (some 12) none (.mv (.s 0))), (.op (some 13) none (.sidx (.s 12) (.k (.int .i64 0)))), (.call (some 14) none n_ref1_small [(.s 13)]), (.op (some 11) none (.mv (.s 14)))]
abbrev b_ref1_token_8 : AC := .run [(.op (some 15) none (.mv (.s 0))), (.op (some 16) none (.mv (.s 0))), (.call (some 17) none n_ref1_from [(.s 16), (.k (.bool true))]), (.op (some 18) none (.sslc (.s 15) none (some (.s 17)))), (.op (some 6) none (.mv (.s 18)))]
abbrev b_ref1_token_11 : AC := .run [(.op (some 19) none (.mv (.s 6))), (.call (some 20) none n_ref1_Word [(.s 19)])]
abbrev b_ref1_token_14 : AC := .run [(.op (some 21) none (.mv (.s 6))), (.op (some 22) none (.mv (.s 1))), (.op (some 23) none (.build [(.int .i64 0), (.str []), (.int .i64 0), (.int .i64 0)] [(0, (1, (.k (.int .i64 3)))), (1, (1, (.s 21))), (3, (1, (.s 22)))])), (.op none none (.store (.s 4) (.s 23) 4)), (.op (some 5) none (.mv (.k (.int .i64 0))))]
abbrev b_ref1_token_13 : AC := .seq b_ref1_token_14 .ret
abbrev b_ref1_token_12 : AC := .cond (.s 20) b_ref1_token_13 .skip
abbrev b_ref1_token_10 : AC := .seq b_ref1_token_11 b_ref1_token_12
abbrev b_ref1_token_17 : AC := .run [(.op (some 24) none (.mv (.s 6))), (.op (some 25) none (.slen (.s 24))), (.op (some 26) none (.bin .gtr (.s 25) (.k (.int .i64 8))))]
abbrev b_ref1_token_20 : AC := .run [(.op (some 27) none (.build [(.int .i64 0), (.str []), (.int .i64 0), (.int .i64 0)] [])), (.op none none (.store (.s 4) (.s 27) 4)), (.op (some 5) none (.mv (.k (.int .i64 4))))]
abbrev b_ref1_token_19 : AC := .seq b_ref1_token_20 .ret
abbrev b_ref1_token_18 : AC := .cond (.s 26) b_ref1_token_19 .skip
abbrev b_ref1_token_16 : AC := .seq b_ref1_token_17 b_ref1_token_18
abbrev b_ref1_token_22 : AC := .run [(.op (some 28) none (.mv (.s 6))), (.op (some 29) none (.mv (.s 1))), (.op (some 30) none (.build [(.int .i64 0), (.str []), (.int .i64 0), (.int .i64 0)] [(0, (1, (.k (.int .i64 1)))), (1, (1, (.s 28))), (3, (1, (.s 29)))])), (.op none none (.store (.s 4) (.s 30) 4)), (.op (some 5) none (.mv (.k (.int .i64 0))))]
abbrev b_ref1_token_21 : AC := .seq b_ref1_token_22 .ret
abbrev b_ref1_token_15 : AC := .seq b_ref1_token_16 b_ref1_token_21
abbrev b_ref1_token_9 : AC := .seq b_ref1_token_10 b_ref1_token_15
abbrev b_ref1_token_7 : AC := .seq b_ref1_token_8 b_ref1_token_9
abbrev b_ref1_token_24 : AC := .run [(.op (some 32) none (.mv (.s 0))), (.op (some 33) none (.sidx (.s 32) (.k (.int .i64 0)))), (.call (some 34) none n_ref1_digit [(.s 33)]), (.op (some 31) none (.mv (.s 34)))]
abbrev b_ref1_token_27 : AC := .run [(.op (some 35) none (.mv (.s 0))), (.op (some 36) none (.mv (.s 0))), (.call (some 37) none n_ref1_from [(.s 36), (.k (.bool false))]), (.op (some 38) none (.sslc (.s 35) none (some (.s 37)))), (.op (some 7) none (.mv (.s 38)))]
abbrev b_ref1_token_30 : AC := .run [(.op (some 39) none (.mv (.s 7))), (.op (some 40) none (.slen (.s 39))), (.op (some 41) none (.bin .gtr (.s 40) (.k (.int .i64 1)))), (.op (some 42) none (.mv (.s 41))), (.op (some 43) (some (42, true)) (.mv (.s 7))), (.op (some 44) (some (42, true)) (.sidx (.s 43) (.k (.int .i64 0)))), (.op (some 45) (some (42, true)) (.bin .eql (.s 44) (.k (.int .u8 48)))), (.op (some 46) none (.pick (.s 42) (.s 45) (.k (.bool false))))]
abbrev b_ref1_token_33 : AC := .run [(.op (some 47) none (.build [(.int .i64 0), (.str []), (.int .i64 0), (.int .i64 0)] [])), (.op none none (.store (.s 4) (.s 47) 4)), (.op (some 5) none (.mv (.k (.int .i64 2))))]
abbrev b_ref1_token_32 : AC := .seq b_ref1_token_33 .ret
abbrev b_ref1_token_31 : AC := .cond (.s 46) b_ref1_token_32 .skip
abbrev b_ref1_token_29 : AC := .seq b_ref1_token_30 b_ref1_token_31
abbrev b_ref1_token_35 : AC := .run [(.op (some 49) none (.mv (.s 7))), (.call (some 50) none n_ref1_Worth [(.s 49)]), (.op (some 48) none (.mv (.s 50))), (.op (some 51) none (.ext (.s 48) 0)), (.op (some 52) none (.ext (.s 48) 1)), (.op (some 8) none (.mv (.s 51))), (.op (some 9) none (.mv (.s 52)))]
abbrev b_ref1_token_38 : AC := .run [(.op (some 53) none (.mv (.s 9))), (.op (some 54) none (.un .not (.s 53)))]
abbrev b_ref1_token_41 : AC := .run [(.op (some 55) none (.build [(.int .i64 0), (.str []), (.int .i64 0), (.int .i64 0)] [])), (.op none none (.store (.s 4) (.s 55) 4)), (.op (some 5) none (.mv (.k (.int .i64 4))))]
abbrev b_ref1_token_40 : AC := .seq b_ref1_token_41 .ret
abbrev b_ref1_token_39 : AC := .cond (.s 54) b_ref1_token_40 .skip
abbrev b_ref1_token_37 : AC := .seq b_ref1_token_38 b_ref1_token_39
abbrev b_ref1_token_43 : AC := .run [(.op (some 56) none (.mv (.s 7))), (.op (some 57) none (.mv (.s 8))), (.op (some 58) none (.mv (.s 1))), (.op (some 59) none (.build [(.int .i64 0), (.str []), (.int .i64 0), (.int .i64 0)] [(0, (1, (.k (.int .i64 2)))), (1, (1, (.s 56))), (2, (1, (.s 57))), (3, (1, (.s 58)))])), (.op none none (.store (.s 4) (.s 59) 4)), (.op (some 5) none (.mv (.k (.int .i64 0))))]
abbrev b_ref1_token_42 : AC := .seq b_ref1_token_43 .ret
abbrev b_ref1_token_36 : AC := .seq b_ref1_token_37 b_ref1_token_42
abbrev b_ref1_token_34 : AC := .seq b_ref1_token_35 b_ref1_token_36
abbrev b_ref1_token_28 : AC := .seq b_ref1_token_29 b_ref1_token_34
abbrev b_ref1_token_26 : AC := .seq b_ref1_token_27 b_ref1_token_28
abbrev b_ref1_token_25 : AC := .cond (.s 31) b_ref1_token_26 .skip
abbrev b_ref1_token_23 : AC := .seq b_ref1_token_24 b_ref1_token_25
abbrev b_ref1_token_6 : AC := .cond (.s 11) b_ref1_token_7 b_ref1_token_23
abbrev b_ref1_token_4 : AC := .seq b_ref1_token_5 b_ref1_token_6
abbrev b_ref1_token_3 : AC := .block 0 b_ref1_token_4
abbrev b_ref1_token_45 : AC := .run [(.op (some 60) none (.mv (.s 0))), (.call (some 61) none n_ref1_sign [(.s 60)]), (.op (some 10) none (.mv (.s 61)))]
abbrev b_ref1_token_48 : AC := .run [(.op (some 62) none (.mv (.s 10))), (.op (some 63) none (.bin .eql (.s 62) (.k (.int .i64 0))))]
abbrev b_ref1_token_51 : AC := .run [(.op (some 64) none (.build [(.int .i64 0), (.str []), (.int .i64 0), (.int .i64 0)] [])), (.op none none (.store (.s 4) (.s 64) 4)), (.op (some 5) none (.mv (.k (.int .i64 2))))]
abbrev b_ref1_token_50 : AC := .seq b_ref1_token_51 .ret
abbrev b_ref1_token_49 : AC := .cond (.s 63) b_ref1_token_50 .skip
abbrev b_ref1_token_47 : AC := .seq b_ref1_token_48 b_ref1_token_49
abbrev b_ref1_token_53 : AC := .run [(.op (some 65) none (.mv (.s 0))), (.op (some 66) none (.mv (.s 10))), (.op (some 67) none (.sslc (.s 65) none (some (.s 66)))), (.op (some 68) none (.mv (.s 1))), (.op (some 69) none (.build [(.int .i64 0), (.str []), (.int .i64 0), (.int .i64 0)] [(0, (1, (.k (.int .i64 4)))), (1, (1, (.s 67))), (3, (1, (.s 68)))])), (.op none none (.store (.s 4) (.s 69) 4)), (.op (some 5) none (.mv (.k (.int .i64 0))))]
abbrev b_ref1_token_52 : AC := .seq b_ref1_token_53 .ret
abbrev b_ref1_token_46 : AC := .seq b_ref1_token_47 b_ref1_token_52
abbrev b_ref1_token_44 : AC := .seq b_ref1_token_45 b_ref1_token_46
abbrev b_ref1_token_2 : AC := .seq b_ref1_token_3 b_ref1_token_44
abbrev b_ref1_token_0 : AC := .seq b_ref1_token_1 b_ref1_token_2
abbrev b_ref3_eqOne_1 : AC := .run [(.op (some 2) none (.box (.s 0))), (.op (some 3) none (.box (.s 1))), (.op (some 4) none (.mv (.k (.bool false))))]
abbrev b_ref3_eqOne_4 : AC := .run [(.op (some 6) none (.faddr (.s 2) 0)), (.op (some 7) none (.load (.s 6) false 1)), (.op (some 8) none (.faddr (.s 3) 0)), (.op (some 9) none (.load (.s 8) false 1)), (.op (some 10) none (.bin .neq (.s 7) (.s 9))), (.op (some 11) none (.mv (.s 10))), (.op (some 12) (some (11, false)) (.faddr (.s 2) 1)), (.op (some 13) (some (11, false)) (.load (.s 12) false 1)), (.op (some 14) (some (11, false)) (.faddr (.s 3) 1)), (.op (some 15) (some (11, false)) (.load (.s 14) false 1)), (.op (some 16) (some (11, false)) (.bin .neq (.s 13) (.s 15))), (.op (some 17) none (.pick (.s 11) (.k (.bool true)) (.s 16))), (.op (some 18) none (.mv (.s 17))), (.op (some 19) (some (18, false)) (.faddr (.s 2) 3)), (.op (some 20) (some (18, false)) (.load (.s 19) false 1)), (.op (some 21) (some (18, false)) (.faddr (.s 3) 3)), (.op (some 22) (some (18, false)) (.load (.s 21) false 1)), (.op (some 23) (some (18, false)) (.bin .neq (.s 20) (.s 22))), (.op (some 24) none (.pick (.s 18) (.k (.bool true)) (.s 23))), (.op (some 25) none (.mv (.s 24))), (.op (some 26) (some (25, false)) (.faddr (.s 2) 4)), (.op (some 27) (some (25, false)) (.load (.s 26) false 1)), (.op (some 28) (some (25, false)) (.faddr (.s 3) 4)), (.op (some 29) (some (25, false)) (.load (.s 28) false 1)), (.op (some 30) (some (25, false)) (.bin .neq (.s 27) (.s 29))), (.op (some 31) none (.pick (.s 25) (.k (.bool true)) (.s 30))), (.op (some 32) none (.mv (.s 31))), (.op (some 33) (some (32, false)) (.faddr (.s 2) 9)), (.op (some 34) (some (32, false)) (.load (.s 33) false 1)), (.op (some 35) (some (32, false)) (.faddr (.s 3) 9)), (.op (some 36) (some (32, false)) (.load (.s 35) false 1)), (.op (some 37) (some (32, false)) (.eqb true (.s 34) (.s 36))), (.op (some 38) none (.pick (.s 32) (.k (.bool true)) (.s 37))), (.op (some 39) none (.mv (.s 38))), (.op (some 40) (some (39, false)) (.faddr (.s 2) 2)), (.op (some 41) (some (39, false)) (.load (.s 40) false 1)), (.op (some 42) (some (39, false)) (.faddr (.s 3) 2)), (.op (some 43) (some (39, false)) (.load (.s 42) false 1)), (.call (some 44) (some (39, false)) n_ref3_EqTexts [(.s 41), (.s 43)]), (.op (some 45) (some (39, false)) (.un .not (.s 44))), (.op (some 46) none (.pick (.s 39) (.k (.bool true)) (.s 45))), (.op (some 47) none (.mv (.s 46))), (.op (some 48) (some (47, false)) (.faddr (.s 2) 5)), (.op (some 49) (some (47, false)) (.load (.s 48) true 4)), (.op (some 50) (some (47, false)) (.faddr (.s 3) 5)), (.op (some 51) (some (47, false)) (.load (.s 50) true 4)), (.call (some 52) (some (47, false)) n_ref3_EqExpr [(.s 49), (.s 51)]), (.op (some 53) (some (47, false)) (.un .not (.s 52))), (.op (some 54) none (.pick (.s 47) (.k (.bool true)) (.s 53))), (.op (some 55) none (.mv (.s 54))), (.op (some 56) (some (55, false)) (.faddr (.s 2) 10)), (.op (some 57) (some (55, false)) (.load (.s 56) false 1)), (.op (some 58) (some (55, false)) (.len (.s 57))), (.op (some 59) (some (55, false)) (.faddr (.s 3) 10)), (.op (some 60) (some (55, false)) (.load (.s 59) false 1)), (.op (some 61) (some (55, false)) (.len (.s 60))), (.op (some 62) (some (55, false)) (.bin .neq (.s 58) (.s 61))), (.op (some 63) none (.pick (.s 55) (.k (.bool true)) (.s 62)))]
abbrev b_ref3_eqOne_7 : AC := .run [(.op (some 4) none (.mv (.k (.bool false))))]
abbrev b_ref3_eqOne_6 : AC := .seq b_ref3_eqOne_7 .ret
abbrev b_ref3_eqOne_5 : AC := .cond (.s 63) b_ref3_eqOne_6 .skip
abbrev b_ref3_eqOne_3 : AC := .seq b_ref3_eqOne_4 b_ref3_eqOne_5
abbrev b_ref3_eqOne_10 : AC := .run [(.op (some 64) none (.faddr (.s 2) 10)), (.op (some 65) none (.load (.s 64) false 1)), (.op (some 66) none (.len (.s 65))), (.op (some 67) none (.mv (.k (.int .i64 0))))]
abbrev b_ref3_eqOne_14 : AC := .run [(.op (some 68) none (.bin .lss (.s 67) (.s 66)))]
abbrev b_ref3_eqOne_16 : AC := .cond (.s 68) .skip (.exit 0)
abbrev b_ref3_eqOne_20 : AC := .run [(.op (some 69) none (.mv (.s 67))), (.op (some 5) none (.mv (.s 69)))]
abbrev b_ref3_eqOne_22 : AC := .par [(.op (some 70) none (.faddr (.s 2) 10)), (.op (some 71) none (.load (.s 70) false 1)), (.op (some 72) none (.mv (.s 5))), (.op (some 73) none (.iaddr (.s 71) (.s 72) 6)), (.op (some 74) none (.faddr (.s 73) 0)), (.op (some 75) none (.load (.s 74) false 1)), (.op (some 76) none (.faddr (.s 3) 10)), (.op (some 77) none (.load (.s 76) false 1)), (.op (some 78) none (.mv (.s 5))), (.op (some 79) none (.iaddr (.s 77) (.s 78) 6)), (.op (some 80) none (.faddr (.s 79) 0)), (.op (some 81) none (.load (.s 80) false 1)), (.op (some 82) none (.eqb true (.s 75) (.s 81))), (.op (some 83) none (.mv (.s 82))), (.op (some 84) (some (83, false)) (.faddr (.s 2) 10)), (.op (some 85) (some (83, false)) (.load (.s 84) false 1)), (.op (some 86) (some (83, false)) (.mv (.s 5))), (.op (some 87) (some (83, false)) (.iaddr (.s 85) (.s 86) 6)), (.op (some 88) (some (83, false)) (.faddr (.s 87) 1)), (.op (some 89) (some (83, false)) (.load (.s 88) false 1)), (.op (some 90) (some (83, false)) (.faddr (.s 3) 10)), (.op (some 91) (some (83, false)) (.load (.s 90) false 1)), (.op (some 92) (some (83, false)) (.mv (.s 5))), (.op (some 93) (some (83, false)) (.iaddr (.s 91) (.s 92) 6)), (.op (some 94) (some (83, false)) (.faddr (.s 93) 1)), (.op (some 95) (some (83, false)) (.load (.s 94) false 1)), (.op (some 96) (some (83, false)) (.bin .neq (.s 89) (.s 95))), (.op (some 97) none (.pick (.s 83) (.k (.bool true)) (.s 96))), (.op (some 98) none (.mv (.s 97))), (.op (some 99) (some (98, false)) (.faddr (.s 2) 10)), (.op (some 100) (some (98, false)) (.load (.s 99) false 1)), (.op (some 101) (some (98, false)) (.mv (.s 5))), (.op (some 102) (some (98, false)) (.iaddr (.s 100) (.s 101) 6)), (.op (some 103) (some (98, false)) (.faddr (.s 102) 2)), (.op (some 104) (some (98, false)) (.load (.s 103) true 4)), (.op (some 105) (some (98, false)) (.faddr (.s 3) 10)), (.op (some 106) (some (98, false)) (.load (.s 105) false 1)), (.op (some 107) (some (98, false)) (.mv (.s 5))), (.op (some 108) (some (98, false)) (.iaddr (.s 106) (.s 107) 6)), (.op (some 109) (some (98, false)) (.faddr (.s 108) 2)), (.op (some 110) (some (98, false)) (.load (.s 109) true 4)), (.call (some 111) (some (98, false)) n_ref3_EqExpr [(.s 104), (.s 110)]), (.op (some 112) (some (98, false)) (.un .not (.s 111))), (.op (some 113) none (.pick (.s 98) (.k (.bool true)) (.s 112)))] [(0, 0), (1, 0), (2, 0), (3, 0), (4, 0), (5, 0), (6, 0), (7, 0), (8, 0), (9, 0), (10, 0), (11, 0), (12, 0), (13, 0), (14, 0), (15, 0), (16, 0), (17, 0), (18, 0), (19, 0), (20, 0), (21, 0), (22, 0), (23, 0), (24, 0), (25, 0), (26, 0), (27, 0), (28, 0), (29, 0), (30, 0), (31, 0), (32, 0), (33, 0), (34, 0), (35, 0), (36, 0), (37, 0), (38, 0), (39, 0), (40, 0), (41, 0), (42, 0), (43, 0)]
abbrev b_ref3_eqOne_25 : AC := .run [(.op (some 4) none (.mv (.k (.bool false))))]
abbrev b_ref3_eqOne_24 : AC := .seq b_ref3_eqOne_25 .ret
abbrev b_ref3_eqOne_23 : AC := .cond (.s 113) b_ref3_eqOne_24 .skip
abbrev b_ref3_eqOne_21 : AC := .seq b_ref3_eqOne_22 b_ref3_eqOne_23
abbrev b_ref3_eqOne_19 : AC := .seq b_ref3_eqOne_20 b_ref3_eqOne_21
abbrev b_ref3_eqOne_18 : AC := .block 1 b_ref3_eqOne_19
abbrev b_ref3_eqOne_26 : AC := .run [(.op (some 114) none (.bin .add (.s 67) (.k (.int .i64 1)))), (.op (some 67) none (.mv (.s 114)))]
abbrev b_ref3_eqOne_17 : AC := .seq b_ref3_eqOne_18 b_ref3_eqOne_26
abbrev b_ref3_eqOne_15 : AC := .seq b_ref3_eqOne_16 b_ref3_eqOne_17
abbrev b_ref3_eqOne_13 : AC := .seq b_ref3_eqOne_14 b_ref3_eqOne_15
abbrev b_ref3_eqOne_12 : AC := .loop b_ref3_eqOne_13
abbrev b_ref3_eqOne_11 : AC := .block 0 b_ref3_eqOne_12
abbrev b_ref3_eqOne_9 : AC := .seq b_ref3_eqOne_10 b_ref3_eqOne_11
abbrev b_ref3_eqOne_28 : AC := .run [(.op (some 115) none (.faddr (.s 2) 11)), (.op (some 116) none (.load (.s 115) false 1)), (.op (some 117) none (.faddr (.s 3) 11)), (.op (some 118) none (.load (.s 117) false 1)), (.call (some 119) none n_ref3_EqStmts [(.s 116), (.s 118)]), (.op (some 120) none (.mv (.s 119))), (.op (some 121) (some (120, true)) (.faddr (.s 2) 12)), (.op (some 122) (some (120, true)) (.load (.s 121) false 1)), (.op (some 123) (some (120, true)) (.faddr (.s 3) 12)), (.op (some 124) (some (120, true)) (.load (.s 123) false 1)), (.call (some 125) (some (120, true)) n_ref3_EqStmts [(.s 122), (.s 124)]), (.op (some 126) none (.pick (.s 120) (.s 125) (.k (.bool false)))), (.op (some 4) none (.mv (.s 126)))]
abbrev b_ref3_eqOne_27 : AC := .seq b_ref3_eqOne_28 .ret
abbrev b_ref3_eqOne_8 : AC := .seq b_ref3_eqOne_9 b_ref3_eqOne_27
abbrev b_ref3_eqOne_2 : AC := .seq b_ref3_eqOne_3 b_ref3_eqOne_8
abbrev b_ref3_eqOne_0 : AC := .seq b_ref3_eqOne_1 b_ref3_eqOne_2
abbrev b_parse_reader_two_1 : AC := .run [(.op (some 4) none (.alloc [(.int .i64 0), (.int .i64 0), (.str []), (.slice .full 0 [])]))]
abbrev b_parse_reader_two_3 : AC := .run [(.op (some 9) none (.mv (.s 0))), (.call (some 10) none n_parse_reader_one [(.s 9)]), (.op (some 5) none (.alloc [(.int .i64 0), (.int .i64 0), (.str []), (.slice .full 0 [])])), (.op none none (.store (.s 5) (.s 10) 4))]
abbrev b_parse_reader_two_9 : AC := .run [(.op (some 11) none (.mv (.s 0))), (.call (some 12) none n_parse_reader_good [(.s 11)])]
abbrev b_parse_reader_two_10 : AC := .cond (.s 12) .skip (.exit 0)
abbrev b_parse_reader_two_8 : AC := .seq b_parse_reader_two_9 b_parse_reader_two_10
abbrev b_parse_reader_two_13 : AC := .run [(.op (some 14) none (.mv (.s 0))), (.call (some 15) none n_parse_reader_peek [(.s 14)]), (.call (some 16) none n_parse_op [(.s 15)]), (.op (some 13) none (.mv (.s 16))), (.op (some 17) none (.ext (.s 13) 0)), (.op (some 18) none (.ext (.s 13) 1)), (.op (some 6) none (.mv (.s 17))), (.op (some 7) none (.mv (.s 18)))]
abbrev b_parse_reader_two_16 : AC := .run [(.op (some 19) none (.mv (.s 7))), (.op (some 20) none (.mv (.s 1))), (.op (some 21) none (.bin .lss (.s 19) (.s 20))), (.op (some 22) none (.mv (.s 21))), (.op (some 23) (some (22, false)) (.mv (.s 6))), (.op (some 24) (some (22, false)) (.bin .eql (.s 23) (.k (.int .i64 0)))), (.op (some 25) none (.pick (.s 22) (.k (.bool true)) (.s 24)))]
abbrev b_parse_reader_two_19 : AC := .run [(.op (some 26) none (.load (.s 5) true 4)), (.op none none (.store (.s 4) (.s 26) 4))]
abbrev b_parse_reader_two_18 : AC := .seq b_parse_reader_two_19 .ret
abbrev b_parse_reader_two_17 : AC := .cond (.s 25) b_parse_reader_two_18 .skip
abbrev b_parse_reader_two_15 : AC := .seq b_parse_reader_two_16 b_parse_reader_two_17
abbrev b_parse_reader_two_21 : AC := .run [(.op (some 27) none (.mv (.s 0))), (.op (some 28) none (.nilck (.s 27))), (.op (some 29) none (.faddr (.s 28) 1)), (.op (some 30) none (.load (.s 29) false 1)), (.op (some 31) none (.bin .add (.s 30) (.k (.int .i64 1)))), (.op (some 32) none (.nilck (.s 27))), (.op (some 33) none (.faddr (.s 32) 1)), (.op none none (.store (.s 33) (.s 31) 1))]
abbrev b_parse_reader_two_23 : AC := .run [(.op (some 34) none (.mv (.s 0))), (.op (some 35) none (.mv (.s 7))), (.op (some 36) none (.bin .add (.s 35) (.k (.int .i64 1)))), (.call (some 37) none n_parse_reader_two [(.s 34), (.s 36)]), (.op (some 8) none (.alloc [(.int .i64 0), (.int .i64 0), (.str []), (.slice .full 0 [])])), (.op none none (.store (.s 8) (.s 37) 4))]
abbrev b_parse_reader_two_24 : AC := .run [(.op (some 38) none (.mv (.s 6))), (.op (some 39) none (.load (.s 5) true 4)), (.op (some 40) none (.load (.s 8) true 4)), (.op (some 41) none (.bslice [(.int .i64 0), (.int .i64 0), (.str []), (.slice .full 0 [])] 4 2 [(0, (.s 39)), (1, (.s 40))])), (.op (some 42) none (.build [(.int .i64 0), (.int .i64 0), (.str []), (.slice .full 0 [])] [(0, (1, (.s 38))), (3, (1, (.s 41)))])), (.op none none (.store (.s 5) (.s 42) 4))]
abbrev b_parse_reader_two_22 : AC := .seq b_parse_reader_two_23 b_parse_reader_two_24
abbrev b_parse_reader_two_20 : AC := .seq b_parse_reader_two_21 b_parse_reader_two_22
abbrev b_parse_reader_two_14 : AC := .seq b_parse_reader_two_15 b_parse_reader_two_20
abbrev b_parse_reader_two_12 : AC := .seq b_parse_reader_two_13 b_parse_reader_two_14
abbrev b_parse_reader_two_11 : AC := .block 1 b_parse_reader_two_12
abbrev b_parse_reader_two_7 : AC := .seq b_parse_reader_two_8 b_parse_reader_two_11
abbrev b_parse_reader_two_6 : AC := .loop b_parse_reader_two_7
abbrev b_parse_reader_two_5 : AC := .block 0 b_parse_reader_two_6
abbrev b_parse_reader_two_26 : AC := .run [(.op (some 43) none (.load (.s 5) true 4)), (.op none none (.store (.s 4) (.s 43) 4))]
abbrev b_parse_reader_two_25 : AC := .seq b_parse_reader_two_26 .ret
abbrev b_parse_reader_two_4 : AC := .seq b_parse_reader_two_5 b_parse_reader_two_25
abbrev b_parse_reader_two_2 : AC := .seq b_parse_reader_two_3 b_parse_reader_two_4
abbrev b_parse_reader_two_0 : AC := .seq b_parse_reader_two_1 b_parse_reader_two_2
abbrev b_parse_depth_1 : AC := .run [(.op (some 1) none (.box (.s 0))), (.op (some 2) none (.mv (.k (.int .i64 0))))]
abbrev b_parse_depth_3 : AC := .run [(.op (some 3) none (.mv (.k (.int .i64 0))))]
abbrev b_parse_depth_6 : AC := .run [(.op (some 6) none (.faddr (.s 1) 3)), (.op (some 7) none (.load (.s 6) false 1)), (.op (some 8) none (.len (.s 7))), (.op (some 9) none (.mv (.k (.int .i64 0))))]
abbrev b_parse_depth_10 : AC := .run [(.op (some 10) none (.bin .lss (.s 9) (.s 8)))]
abbrev b_parse_depth_12 : AC := .cond (.s 10) .skip (.exit 0)
abbrev b_parse_depth_16 : AC := .run [(.op (some 11) none (.iaddr (.s 7) (.s 9) 4)), (.op (some 12) none (.load (.s 11) true 4)), (.op (some 5) none (.alloc [(.int .i64 0), (.int .i64 0), (.str []), (.slice .full 0 [])])), (.op none none (.store (.s 5) (.s 12) 4))]
abbrev b_parse_depth_17 : AC := .run [(.op (some 13) none (.mv (.s 3))), (.op (some 14) none (.load (.s 5) true 4)), (.call (some 15) none n_parse_depth [(.s 14)]), (.op (some 16) none (.mm true (.s 13) (.s 15))), (.op (some 3) none (.mv (.s 16)))]
abbrev b_parse_depth_15 : AC := .seq b_parse_depth_16 b_parse_depth_17
abbrev b_parse_depth_14 : AC := .block 1 b_parse_depth_15
abbrev b_parse_depth_18 : AC := .run [(.op (some 17) none (.bin .add (.s 9) (.k (.int .i64 1)))), (.op (some 9) none (.mv (.s 17)))]
abbrev b_parse_depth_13 : AC := .seq b_parse_depth_14 b_parse_depth_18
abbrev b_parse_depth_11 : AC := .seq b_parse_depth_12 b_parse_depth_13
abbrev b_parse_depth_9 : AC := .seq b_parse_depth_10 b_parse_depth_11
abbrev b_parse_depth_8 : AC := .loop b_parse_depth_9
abbrev b_parse_depth_7 : AC := .block 0 b_parse_depth_8
abbrev b_parse_depth_5 : AC := .seq b_parse_depth_6 b_parse_depth_7
abbrev b_parse_depth_20 : AC := .run [(.op (some 18) none (.mv (.s 3))), (.op (some 19) none (.bin .add (.s 18) (.k (.int .i64 1)))), (.op (some 2) none (.mv (.s 19)))]
abbrev b_parse_depth_19 : AC := .seq b_parse_depth_20 .ret
abbrev b_parse_depth_4 : AC := .seq b_parse_depth_5 b_parse_depth_19
abbrev b_parse_depth_2 : AC := .seq b_parse_depth_3 b_parse_depth_4
abbrev b_parse_depth_0 : AC := .seq b_parse_depth_1 b_parse_depth_2
abbrev b_ref3_P_rest_1 : AC := .run [(.op (some 4) none (.box (.s 1))), (.op (some 6) none (.alloc [(.int .i64 0), (.int .i64 0), (.str []), (.slice .full 0 [])]))]
abbrev b_ref3_P_rest_7 : AC := .par [(.op (some 10) none (.mv (.s 0))), (.call (some 11) none n_ref3_P_ok [(.s 10)]), (.op (some 12) none (.mv (.s 11))), (.op (some 13) (some (12, true)) (.mv (.s 0))), (.op (some 14) (some (12, true)) (.nilck (.s 13))), (.op (some 15) (some (12, true)) (.faddr (.s 14) 0)), (.op (some 16) (some (12, true)) (.load (.s 15) false 1)), (.op (some 17) (some (12, true)) (.mv (.s 0))), (.op (some 18) (some (12, true)) (.nilck (.s 17))), (.op (some 19) (some (12, true)) (.faddr (.s 18) 1)), (.op (some 20) (some (12, true)) (.load (.s 19) false 1)), (.op (some 21) (some (12, true)) (.iaddr (.s 16) (.s 20) 4)), (.op (some 22) (some (12, true)) (.faddr (.s 21) 0)), (.op (some 23) (some (12, true)) (.load (.s 22) false 1)), (.op (some 24) (some (12, true)) (.bin .eql (.s 23) (.k (.int .i64 4)))), (.op (some 25) none (.pick (.s 12) (.s 24) (.k (.bool false))))] [(0, 0), (1, 0), (2, 0), (3, 0), (4, 0), (5, 0), (6, 0), (7, 0), (8, 0), (9, 0), (10, 0), (11, 0), (12, 0), (13, 0), (14, 0), (15, 0)]
abbrev b_ref3_P_rest_8 : AC := .cond (.s 25) .skip (.exit 0)
abbrev b_ref3_P_rest_6 : AC := .seq b_ref3_P_rest_7 b_ref3_P_rest_8
abbrev b_ref3_P_rest_11 : AC := .par [(.op (some 27) none (.mv (.s 0))), (.op (some 28) none (.nilck (.s 27))), (.op (some 29) none (.faddr (.s 28) 0)), (.op (some 30) none (.load (.s 29) false 1)), (.op (some 31) none (.mv (.s 0))), (.op (some 32) none (.nilck (.s 31))), (.op (some 33) none (.faddr (.s 32) 1)), (.op (some 34) none (.load (.s 33) false 1)), (.op (some 35) none (.iaddr (.s 30) (.s 34) 4)), (.op (some 36) none (.faddr (.s 35) 1)), (.op (some 37) none (.load (.s 36) false 1)), (.call (some 38) none n_ref3_Binds [(.s 37)]), (.op (some 26) none (.mv (.s 38))), (.op (some 39) none (.ext (.s 26) 0)), (.op (some 40) none (.ext (.s 26) 1)), (.op (some 7) none (.mv (.s 39))), (.op (some 8) none (.mv (.s 40)))] [(0, 0), (1, 0), (2, 0), (3, 0), (4, 0), (5, 0), (6, 0), (7, 0), (8, 0), (9, 0), (10, 0), (11, 0), (12, 0), (13, 0), (14, 0), (15, 0), (16, 0)]
abbrev b_ref3_P_rest_14 : AC := .run [(.op (some 41) none (.mv (.s 7))), (.op (some 42) none (.mv (.s 2))), (.op (some 43) none (.bin .lss (.s 41) (.s 42))), (.op (some 44) none (.mv (.s 43))), (.op (some 45) (some (44, false)) (.mv (.s 7))), (.op (some 46) (some (44, false)) (.bin .eql (.s 45) (.k (.int .i64 0)))), (.op (some 47) none (.pick (.s 44) (.k (.bool true)) (.s 46)))]
abbrev b_ref3_P_rest_17 : AC := .run [(.op (some 48) none (.load (.s 4) true 4)), (.op none none (.store (.s 6) (.s 48) 4))]
abbrev b_ref3_P_rest_16 : AC := .seq b_ref3_P_rest_17 .ret
abbrev b_ref3_P_rest_15 : AC := .cond (.s 47) b_ref3_P_rest_16 .skip
abbrev b_ref3_P_rest_13 : AC := .seq b_ref3_P_rest_14 b_ref3_P_rest_15
abbrev b_ref3_P_rest_19 : AC := .run [(.op (some 49) none (.mv (.s 0))), (.op (some 50) none (.nilck (.s 49))), (.op (some 51) none (.faddr (.s 50) 1)), (.op (some 52) none (.load (.s 51) false 1)), (.op (some 53) none (.bin .add (.s 52) (.k (.int .i64 1)))), (.op (some 54) none (.nilck (.s 49))), (.op (some 55) none (.faddr (.s 54) 1)), (.op none none (.store (.s 55) (.s 53) 1))]
abbrev b_ref3_P_rest_21 : AC := .run [(.op (some 56) none (.mv (.s 0))), (.op (some 57) none (.mv (.s 0))), (.call (some 58) none n_ref3_P_first [(.s 57)]), (.op (some 59) none (.mv (.s 7))), (.op (some 60) none (.bin .add (.s 59) (.k (.int .i64 1)))), (.call (some 61) none n_ref3_P_rest [(.s 56), (.s 58), (.s 60)]), (.op (some 9) none (.alloc [(.int .i64 0), (.int .i64 0), (.str []), (.slice .full 0 [])])), (.op none none (.store (.s 9) (.s 61) 4))]
abbrev b_ref3_P_rest_22 : AC := .run [(.op (some 62) none (.mv (.s 8))), (.op (some 63) none (.load (.s 4) true 4)), (.op (some 64) none (.load (.s 9) true 4)), (.op (some 65) none (.bslice [(.int .i64 0), (.int .i64 0), (.str []), (.slice .full 0 [])] 4 2 [(0, (.s 63)), (1, (.s 64))])), (.op (some 66) none (.build [(.int .i64 0), (.int .i64 0), (.str []), (.slice .full 0 [])] [(0, (1, (.s 62))), (3, (1, (.s 65)))])), (.op none none (.store (.s 4) (.s 66) 4))]
abbrev b_ref3_P_rest_20 : AC := .seq b_ref3_P_rest_21 b_ref3_P_rest_22
abbrev b_ref3_P_rest_18 : AC := .seq b_ref3_P_rest_19 b_ref3_P_rest_20
abbrev b_ref3_P_rest_12 : AC := .seq b_ref3_P_rest_13 b_ref3_P_rest_18
abbrev b_ref3_P_rest_10 : AC := .seq b_ref3_P_rest_11 b_ref3_P_rest_12
abbrev b_ref3_P_rest_9 : AC := .block 1 b_ref3_P_rest_10
abbrev b_ref3_P_rest_5 : AC := .seq b_ref3_P_rest_6 b_ref3_P_rest_9
abbrev b_ref3_P_rest_4 : AC := .loop b_ref3_P_rest_5
abbrev b_ref3_P_rest_3 : AC := .block 0 b_ref3_P_rest_4
abbrev b_ref3_P_rest_24 : AC := .run [(.op (some 67) none (.load (.s 4) true 4)), (.op none none (.store (.s 6) (.s 67) 4))]
abbrev b_ref3_P_rest_23 : AC := .seq b_ref3_P_rest_24 .ret
abbrev b_ref3_P_rest_2 : AC := .seq b_ref3_P_rest_3 b_ref3_P_rest_23
abbrev b_ref3_P_rest_0 : AC := .seq b_ref3_P_rest_1 b_ref3_P_rest_2
abbrev b_ref3_P_first_1 : AC := .run [(.op (some 2) none (.alloc [(.int .i64 0), (.int .i64 0), (.str []), (.slice .full 0 [])]))]
abbrev b_ref3_P_first_3 : AC := .par [(.op (some 5) none (.mv (.s 0))), (.op (some 6) none (.nilck (.s 5))), (.op (some 7) none (.faddr (.s 6) 0)), (.op (some 8) none (.load (.s 7) false 1)), (.op (some 9) none (.mv (.s 0))), (.op (some 10) none (.nilck (.s 9))), (.op (some 11) none (.faddr (.s 10) 1)), (.op (some 12) none (.load (.s 11) false 1)), (.op (some 13) none (.iaddr (.s 8) (.s 12) 4)), (.op (some 14) none (.load (.s 13) true 4)), (.op (some 3) none (.alloc [(.int .i64 0), (.str []), (.int .i64 0), (.int .i64 0)])), (.op none none (.store (.s 3) (.s 14) 4))] [(10, 0), (0, 0), (1, 0), (2, 0), (3, 1), (4, 0), (5, 0), (6, 0), (7, 1), (8, 0), (9, 1), (11, 0)]
abbrev b_ref3_P_first_7 : AC := .run [(.op (some 16) none (.mv (.s 0))), (.call (some 17) none n_ref3_P_ok [(.s 16)]), (.op (some 18) none (.un .not (.s 17))), (.op (some 15) none (.mv (.s 18)))]
abbrev b_ref3_P_first_10 : AC := .run [(.op (some 19) none (.build [(.int .i64 0), (.int .i64 0), (.str []), (.slice .full 0 [])] [])), (.op none none (.store (.s 2) (.s 19) 4))]
abbrev b_ref3_P_first_9 : AC := .seq b_ref3_P_first_10 .ret
abbrev b_ref3_P_first_12 : AC := .run [(.op (some 21) none (.faddr (.s 3) 0)), (.op (some 22) none (.load (.s 21) false 1)), (.op (some 23) none (.bin .eql (.s 22) (.k (.int .i64 2)))), (.op (some 20) none (.mv (.s 23)))]
abbrev b_ref3_P_first_15 : AC := .run [(.op (some 24) none (.mv (.s 0))), (.op (some 25) none (.nilck (.s 24))), (.op (some 26) none (.faddr (.s 25) 1)), (.op (some 27) none (.load (.s 26) false 1)), (.op (some 28) none (.bin .add (.s 27) (.k (.int .i64 1)))), (.op (some 29) none (.nilck (.s 24))), (.op (some 30) none (.faddr (.s 29) 1)), (.op none none (.store (.s 30) (.s 28) 1))]
abbrev b_ref3_P_first_17 : AC := .run [(.op (some 31) none (.faddr (.s 3) 2)), (.op (some 32) none (.load (.s 31) false 1)), (.op (some 33) none (.build [(.int .i64 0), (.int .i64 0), (.str []), (.slice .full 0 [])] [(0, (1, (.k (.int .i64 1)))), (1, (1, (.s 32)))])), (.op none none (.store (.s 2) (.s 33) 4))]
abbrev b_ref3_P_first_16 : AC := .seq b_ref3_P_first_17 .ret
abbrev b_ref3_P_first_14 : AC := .seq b_ref3_P_first_15 b_ref3_P_first_16
abbrev b_ref3_P_first_19 : AC := .run [(.op (some 35) none (.faddr (.s 3) 0)), (.op (some 36) none (.load (.s 35) false 1)), (.op (some 37) none (.bin .eql (.s 36) (.k (.int .i64 1)))), (.op (some 34) none (.mv (.s 37)))]
abbrev b_ref3_P_first_22 : AC := .run [(.op (some 38) none (.mv (.s 0))), (.op (some 39) none (.nilck (.s 38))), (.op (some 40) none (.faddr (.s 39) 1)), (.op (some 41) none (.load (.s 40) false 1)), (.op (some 42) none (.bin .add (.s 41) (.k (.int .i64 1)))), (.op (some 43) none (.nilck (.s 38))), (.op (some 44) none (.faddr (.s 43) 1)), (.op none none (.store (.s 44) (.s 42) 1))]
abbrev b_ref3_P_first_24 : AC := .run [(.op (some 45) none (.faddr (.s 3) 1)), (.op (some 46) none (.load (.s 45) false 1)), (.op (some 47) none (.build [(.int .i64 0), (.int .i64 0), (.str []), (.slice .full 0 [])] [(0, (1, (.k (.int .i64 2)))), (2, (1, (.s 46)))])), (.op none none (.store (.s 2) (.s 47) 4))]
abbrev b_ref3_P_first_23 : AC := .seq b_ref3_P_first_24 .ret
abbrev b_ref3_P_first_21 : AC := .seq b_ref3_P_first_22 b_ref3_P_first_23
abbrev b_ref3_P_first_26 : AC := .run [(.op (some 49) none (.mv (.s 0))), (.call (some 50) none n_ref3_P_take [(.s 49), (.k (.str [40]))]), (.op (some 48) none (.mv (.s 50)))]
abbrev b_ref3_P_first_29 : AC := .run [(.op (some 51) none (.mv (.s 0))), (.op (some 52) none (.mv (.s 0))), (.call (some 53) none n_ref3_P_first [(.s 52)]), (.call (some 54) none n_ref3_P_rest [(.s 51), (.s 53), (.k (.int .i64 1))]), (.op (some 4) none (.alloc [(.int .i64 0), (.int .i64 0), (.str []), (.slice .full 0 [])])), (.op none none (.store (.s 4) (.s 54) 4))]
abbrev b_ref3_P_first_31 : AC := .run [(.op (some 55) none (.mv (.s 0))), (.call (some 56) none n_ref3_P_want [(.s 55), (.k (.str [41]))])]
abbrev b_ref3_P_first_33 : AC := .run [(.op (some 57) none (.load (.s 4) true 4)), (.op none none (.store (.s 2) (.s 57) 4))]
abbrev b_ref3_P_first_32 : AC := .seq b_ref3_P_first_33 .ret
abbrev b_ref3_P_first_30 : AC := .seq b_ref3_P_first_31 b_ref3_P_first_32
abbrev b_ref3_P_first_28 : AC := .seq b_ref3_P_first_29 b_ref3_P_first_30
abbrev b_ref3_P_first_35 : AC := .run [(.op (some 59) none (.mv (.s 0))), (.call (some 60) none n_ref3_P_take [(.s 59), (.k (.str [45]))]), (.op (some 58) none (.mv (.s 60)))]
abbrev b_ref3_P_first_38 : AC := .run [(.op (some 61) none (.mv (.s 0))), (.call (some 62) none n_ref3_P_first [(.s 61)]), (.op (some 63) none (.bslice [(.int .i64 0), (.int .i64 0), (.str []), (.slice .full 0 [])] 4 1 [(0, (.s 62))])), (.op (some 64) none (.build [(.int .i64 0), (.int .i64 0), (.str []), (.slice .full 0 [])] [(0, (1, (.k (.int .i64 3)))), (3, (1, (.s 63)))])), (.op none none (.store (.s 2) (.s 64) 4))]
abbrev b_ref3_P_first_37 : AC := .seq b_ref3_P_first_38 .ret
abbrev b_ref3_P_first_40 : AC := .run [(.op (some 66) none (.mv (.s 0))), (.call (some 67) none n_ref3_P_take [(.s 66), (.k (.str [33]))]), (.op (some 65) none (.mv (.s 67)))]
abbrev b_ref3_P_first_43 : AC := .run [(.op (some 68) none (.mv (.s 0))), (.call (some 69) none n_ref3_P_first [(.s 68)]), (.op (some 70) none (.bslice [(.int .i64 0), (.int .i64 0), (.str []), (.slice .full 0 [])] 4 1 [(0, (.s 69))])), (.op (some 71) none (.build [(.int .i64 0), (.int .i64 0), (.str []), (.slice .full 0 [])] [(0, (1, (.k (.int .i64 4)))), (3, (1, (.s 70)))])), (.op none none (.store (.s 2) (.s 71) 4))]
abbrev b_ref3_P_first_42 : AC := .seq b_ref3_P_first_43 .ret
abbrev b_ref3_P_first_41 : AC := .cond (.s 65) b_ref3_P_first_42 .skip
abbrev b_ref3_P_first_39 : AC := .seq b_ref3_P_first_40 b_ref3_P_first_41
abbrev b_ref3_P_first_36 : AC := .cond (.s 58) b_ref3_P_first_37 b_ref3_P_first_39
abbrev b_ref3_P_first_34 : AC := .seq b_ref3_P_first_35 b_ref3_P_first_36
abbrev b_ref3_P_first_27 : AC := .cond (.s 48) b_ref3_P_first_28 b_ref3_P_first_34
abbrev b_ref3_P_first_25 : AC := .seq b_ref3_P_first_26 b_ref3_P_first_27
abbrev b_ref3_P_first_20 : AC := .cond (.s 34) b_ref3_P_first_21 b_ref3_P_first_25
abbrev b_ref3_P_first_18 : AC := .seq b_ref3_P_first_19 b_ref3_P_first_20
abbrev b_ref3_P_first_13 : AC := .cond (.s 20) b_ref3_P_first_14 b_ref3_P_first_18
abbrev b_ref3_P_first_11 : AC := .seq b_ref3_P_first_12 b_ref3_P_first_13
abbrev b_ref3_P_first_8 : AC := .cond (.s 15) b_ref3_P_first_9 b_ref3_P_first_11
abbrev b_ref3_P_first_6 : AC := .seq b_ref3_P_first_7 b_ref3_P_first_8
abbrev b_ref3_P_first_5 : AC := .block 0 b_ref3_P_first_6
abbrev b_ref3_P_first_45 : AC := .run [(.op (some 72) none (.mv (.s 0))), (.call (some 73) none n_ref3_P_fail [(.s 72), (.k (.int .i64 3))])]
abbrev b_ref3_P_first_47 : AC := .run [(.op (some 74) none (.build [(.int .i64 0), (.int .i64 0), (.str []), (.slice .full 0 [])] [])), (.op none none (.store (.s 2) (.s 74) 4))]
abbrev b_ref3_P_first_46 : AC := .seq b_ref3_P_first_47 .ret
abbrev b_ref3_P_first_44 : AC := .seq b_ref3_P_first_45 b_ref3_P_first_46
abbrev b_ref3_P_first_4 : AC := .seq b_ref3_P_first_5 b_ref3_P_first_44
abbrev b_ref3_P_first_2 : AC := .seq b_ref3_P_first_3 b_ref3_P_first_4
abbrev b_ref3_P_first_0 : AC := .seq b_ref3_P_first_1 b_ref3_P_first_2

end Go.Abs

/-! Have2 -/

namespace Go.Abs
open Go.Proofs

theorem has_lex_Word : Has Try.prog n_lex_Word 18 [(2, none)] b_lex_Word_0 := ⟨Try.f58, by kernel_rfl, by kernel_rfl⟩
theorem has_lex_number : Has Try.prog n_lex_number 28 [(2, none), (3, none)] b_lex_number_0 := ⟨Try.f59, by kernel_rfl, by kernel_rfl⟩
theorem has_ref3_deep : Has Try.prog n_ref3_deep 36 [(4, none)] b_ref3_deep_0 := ⟨Try.f63, by kernel_rfl, by kernel_rfl⟩
theorem has_ref3_name : Has Try.prog n_ref3_name 5 [(2, (some (true, 4)))] b_ref3_name_0 := ⟨Try.f67, by kernel_rfl, by kernel_rfl⟩
theorem has_ref3_Binds : Has Try.prog n_ref3_Binds 27 [(2, none), (3, none)] b_ref3_Binds_0 := ⟨Try.f68, by kernel_rfl, by kernel_rfl⟩
theorem has_ref3_two : Has Try.prog n_ref3_two 12 [(6, (some (true, 4)))] b_ref3_two_0 := ⟨Try.f69, by kernel_rfl, by kernel_rfl⟩
theorem has_ref3_num : Has Try.prog n_ref3_num 5 [(2, (some (true, 4)))] b_ref3_num_0 := ⟨Try.f73, by kernel_rfl, by kernel_rfl⟩
theorem has_parse_reader_take : Has Try.prog n_parse_reader_take 21 [(4, none)] b_parse_reader_take_0 := ⟨Try.f74, by kernel_rfl, by kernel_rfl⟩
theorem has_parse_reader_names : Has Try.prog n_parse_reader_names 25 [(6, none)] b_parse_reader_names_0 := ⟨Try.f75, by kernel_rfl, by kernel_rfl⟩
theorem has_parse_reader_is : Has Try.prog n_parse_reader_is 22 [(4, none)] b_parse_reader_is_0 := ⟨Try.f76, by kernel_rfl, by kernel_rfl⟩
theorem has_parse_reader_proc : Has Try.prog n_parse_reader_proc 56 [(2, (some (true, 5)))] b_parse_reader_proc_0 := ⟨Try.f77, by kernel_rfl, by kernel_rfl⟩
theorem has_slices_Clone_string : Has Try.prog n_slices_Clone_string 8 [(2, none)] b_slices_Clone_string_0 := ⟨Try.f78, by kernel_rfl, by kernel_rfl⟩
theorem has_slices_Clone_api_Param : Has Try.prog n_slices_Clone_api_Param 8 [(2, none)] b_slices_Clone_api_Param_0 := ⟨Try.f79, by kernel_rfl, by kernel_rfl⟩
theorem has_tree_copied : Has Try.prog n_tree_copied 78 [(6, none), (7, none)] b_tree_copied_0 := ⟨Try.f80, by kernel_rfl, by kernel_rfl⟩
theorem has_ref1_blank : Has Try.prog n_ref1_blank 17 [(2, none)] b_ref1_blank_0 := ⟨Try.f81, by kernel_rfl, by kernel_rfl⟩
theorem has_ref1_token : Has Try.prog n_ref1_token 70 [(4, (some (true, 4))), (5, none)] b_ref1_token_0 := ⟨Try.f82, by kernel_rfl, by kernel_rfl⟩
theorem has_ref3_eqOne : Has Try.prog n_ref3_eqOne 127 [(4, none)] b_ref3_eqOne_0 := ⟨Try.f85, by kernel_rfl, by kernel_rfl⟩
theorem has_parse_reader_two : Has Try.prog n_parse_reader_two 44 [(4, (some (true, 4)))] b_parse_reader_two_0 := ⟨Try.f86, by kernel_rfl, by kernel_rfl⟩
theorem has_parse_depth : Has Try.prog n_parse_depth 20 [(2, none)] b_parse_depth_0 := ⟨Try.f87, by kernel_rfl, by kernel_rfl⟩
theorem has_ref3_P_rest : Has Try.prog n_ref3_P_rest 68 [(6, (some (true, 4)))] b_ref3_P_rest_0 := ⟨Try.f88, by kernel_rfl, by kernel_rfl⟩
theorem has_ref3_P_first : Has Try.prog n_ref3_P_first 75 [(2, (some (true, 4)))] b_ref3_P_first_0 := ⟨Try.f89, by kernel_rfl, by kernel_rfl⟩

end Go.Abs

/-! Codes3 -/

namespace Go.Abs

abbrev b_ref1_small_1 : AC := .run [(.op (some 2) none (.mv (.k (.bool false))))]
abbrev b_ref1_small_3 : AC := .run [(.op (some 3) none (.mv (.s 0))), (.op (some 4) none (.bin .geq (.s 3) (.k (.int .u8 97)))), (.op (some 5) none (.mv (.s 4))), (.op (some 6) (some (5, true)) (.mv (.s 0))), (.op (some 7) (some (5, true)) (.bin .leq (.s 6) (.k (.int .u8 122)))), (.op (some 8) none (.pick (.s 5) (.s 7) (.k (.bool false)))), (.op (some 2) none (.mv (.s 8)))]
abbrev b_ref1_small_2 : AC := .seq b_ref1_small_3 .ret
abbrev b_ref1_small_0 : AC := .seq b_ref1_small_1 b_ref1_small_2
abbrev b_ref1_digit_1 : AC := .run [(.op (some 2) none (.mv (.k (.bool false))))]
abbrev b_ref1_digit_3 : AC := .run [(.op (some 3) none (.mv (.s 0))), (.op (some 4) none (.bin .geq (.s 3) (.k (.int .u8 48)))), (.op (some 5) none (.mv (.s 4))), (.op (some 6) (some (5, true)) (.mv (.s 0))), (.op (some 7) (some (5, true)) (.bin .leq (.s 6) (.k (.int .u8 57)))), (.op (some 8) none (.pick (.s 5) (.s 7) (.k (.bool false)))), (.op (some 2) none (.mv (.s 8)))]
abbrev b_ref1_digit_2 : AC := .seq b_ref1_digit_3 .ret
abbrev b_ref1_digit_0 : AC := .seq b_ref1_digit_1 b_ref1_digit_2
abbrev b_ref1_Word_1 : AC := .run [(.op (some 2) none (.mv (.k (.bool false))))]
abbrev b_ref1_Word_4 : AC := .run [(.call (some 5) none n_ref1_Words []), (.op (some 6) none (.len (.s 5))), (.op (some 7) none (.mv (.k (.int .i64 0))))]
abbrev b_ref1_Word_8 : AC := .run [(.op (some 8) none (.bin .lss (.s 7) (.s 6)))]
abbrev b_ref1_Word_10 : AC := .cond (.s 8) .skip (.exit 0)
abbrev b_ref1_Word_14 : AC := .run [(.op (some 9) none (.iaddr (.s 5) (.s 7) 1)), (.op (some 10) none (.load (.s 9) false 1)), (.op (some 4) none (.mv (.s 10)))]
abbrev b_ref1_Word_16 : AC := .run [(.op (some 11) none (.mv (.s 4))), (.op (some 12) none (.mv (.s 0))), (.op (some 13) none (.bin .eql (.s 11) (.s 12)))]
abbrev b_ref1_Word_19 : AC := .run [(.op (some 2) none (.mv (.k (.bool true))))]
abbrev b_ref1_Word_18 : AC := .seq b_ref1_Word_19 .ret
abbrev b_ref1_Word_17 : AC := .cond (.s 13) b_ref1_Word_18 .skip
abbrev b_ref1_Word_15 : AC := .seq b_ref1_Word_16 b_ref1_Word_17
abbrev b_ref1_Word_13 : AC := .seq b_ref1_Word_14 b_ref1_Word_15
abbrev b_ref1_Word_12 : AC := .block 1 b_ref1_Word_13
abbrev b_ref1_Word_20 : AC := .run [(.op (some 14) none (.bin .add (.s 7) (.k (.int .i64 1)))), (.op (some 7) none (.mv (.s 14)))]
abbrev b_ref1_Word_11 : AC := .seq b_ref1_Word_12 b_ref1_Word_20
abbrev b_ref1_Word_9 : AC := .seq b_ref1_Word_10 b_ref1_Word_11
abbrev b_ref1_Word_7 : AC := .seq b_ref1_Word_8 b_ref1_Word_9
abbrev b_ref1_Word_6 : AC := .loop b_ref1_Word_7
abbrev b_ref1_Word_5 : AC := .block 0 b_ref1_Word_6
abbrev b_ref1_Word_3 : AC := .seq b_ref1_Word_4 b_ref1_Word_5
abbrev b_ref1_Word_22 : AC := .run [(.op (some 2) none (.mv (.k (.bool false))))]
abbrev b_ref1_Word_21 : AC := .seq b_ref1_Word_22 .ret
abbrev b_ref1_Word_2 : AC := .seq b_ref1_Word_3 b_ref1_Word_21
abbrev b_ref1_Word_0 : AC := .seq b_ref1_Word_1 b_ref1_Word_2
abbrev b_parse_reader_name_1 : AC := .run [(.op (some 4) none (.mv (.k (.str []))))]
abbrev b_parse_reader_name_3 : AC := .run [(.op (some 6) none (.mv (.s 0))), (.call (some 7) none n_parse_reader_peek [(.s 6)]), (.op (some 5) none (.alloc [(.int .i64 0), (.str []), (.int .i64 0), (.int .i64 0)])), (.op none none (.store (.s 5) (.s 7) 4))]
abbrev b_parse_reader_name_6 : AC := .run [(.op (some 8) none (.mv (.s 0))), (.call (some 9) none n_parse_reader_good [(.s 8)]), (.op (some 10) none (.un .not (.s 9))), (.op (some 11) none (.mv (.s 10))), (.op (some 12) (some (11, false)) (.faddr (.s 5) 0)), (.op (some 13) (some (11, false)) (.load (.s 12) false 1)), (.op (some 14) (some (11, false)) (.bin .neq (.s 13) (.k (.int .i64 1)))), (.op (some 15) none (.pick (.s 11) (.k (.bool true)) (.s 14)))]
abbrev b_parse_reader_name_9 : AC := .run [(.op (some 16) none (.mv (.s 0))), (.call (some 17) none n_parse_reader_bad [(.s 16), (.k (.int .i64 3))])]
abbrev b_parse_reader_name_11 : AC := .run [(.op (some 4) none (.mv (.k (.str []))))]
abbrev b_parse_reader_name_10 : AC := .seq b_parse_reader_name_11 .ret
abbrev b_parse_reader_name_8 : AC := .seq b_parse_reader_name_9 b_parse_reader_name_10
abbrev b_parse_reader_name_7 : AC := .cond (.s 15) b_parse_reader_name_8 .skip
abbrev b_parse_reader_name_5 : AC := .seq b_parse_reader_name_6 b_parse_reader_name_7
abbrev b_parse_reader_name_14 : AC := .run [(.op (some 18) none (.mv (.s 1))), (.op (some 19) none (.un .not (.s 18)))]
abbrev b_parse_reader_name_17 : AC := .run [(.op (some 20) none (.mv (.s 0))), (.call (some 21) none n_parse_reader_bad [(.s 20), (.k (.int .i64 4))])]
abbrev b_parse_reader_name_19 : AC := .run [(.op (some 4) none (.mv (.k (.str []))))]
abbrev b_parse_reader_name_18 : AC := .seq b_parse_reader_name_19 .ret
abbrev b_parse_reader_name_16 : AC := .seq b_parse_reader_name_17 b_parse_reader_name_18
abbrev b_parse_reader_name_15 : AC := .cond (.s 19) b_parse_reader_name_16 .skip
abbrev b_parse_reader_name_13 : AC := .seq b_parse_reader_name_14 b_parse_reader_name_15
abbrev b_parse_reader_name_21 : AC := .run [(.op (some 22) none (.mv (.s 0))), (.op (some 23) none (.nilck (.s 22))), (.op (some 24) none (.faddr (.s 23) 1)), (.op (some 25) none (.load (.s 24) false 1)), (.op (some 26) none (.bin .add (.s 25) (.k (.int .i64 1)))), (.op (some 27) none (.nilck (.s 22))), (.op (some 28) none (.faddr (.s 27) 1)), (.op none none (.store (.s 28) (.s 26) 1))]
abbrev b_parse_reader_name_23 : AC := .run [(.op (some 29) none (.faddr (.s 5) 1)), (.op (some 30) none (.load (.s 29) false 1)), (.op (some 4) none (.mv (.s 30)))]
abbrev b_parse_reader_name_22 : AC := .seq b_parse_reader_name_23 .ret
abbrev b_parse_reader_name_20 : AC := .seq b_parse_reader_name_21 b_parse_reader_name_22
abbrev b_parse_reader_name_12 : AC := .seq b_parse_reader_name_13 b_parse_reader_name_20
abbrev b_parse_reader_name_4 : AC := .seq b_parse_reader_name_5 b_parse_reader_name_12
abbrev b_parse_reader_name_2 : AC := .seq b_parse_reader_name_3 b_parse_reader_name_4
abbrev b_parse_reader_name_0 : AC := .seq b_parse_reader_name_1 b_parse_reader_name_2
abbrev b_parse_reader_want_1 : AC := .run [(.op (some 4) none (.mv (.s 0))), (.op (some 5) none (.mv (.s 1))), (.call (some 6) none n_parse_reader_take [(.s 4), (.s 5)]), (.op (some 7) none (.un .not (.s 6)))]
abbrev b_parse_reader_want_3 : AC := .run [(.op (some 8) none (.mv (.s 0))), (.call (some 9) none n_parse_reader_bad [(.s 8), (.k (.int .i64 3))])]
abbrev b_parse_reader_want_2 : AC := .cond (.s 7) b_parse_reader_want_3 .skip
abbrev b_parse_reader_want_0 : AC := .seq b_parse_reader_want_1 b_parse_reader_want_2
abbrev b_parse_reader_rows_1 : AC := .run [(.op (some 6) none (.mv (.k (.slice .full 0 [])))), (.op (some 7) none (.mv (.k (.slice .full 0 []))))]
abbrev b_parse_reader_rows_3 : AC := .run [(.op (some 8) none (.mv (.k (.slice .full 0 []))))]
abbrev b_parse_reader_rows_9 : AC := .run [(.op (some 11) none (.mv (.s 0))), (.call (some 12) none n_parse_reader_good [(.s 11)])]
abbrev b_parse_reader_rows_10 : AC := .cond (.s 12) .skip (.exit 0)
abbrev b_parse_reader_rows_8 : AC := .seq b_parse_reader_rows_9 b_parse_reader_rows_10
abbrev b_parse_reader_rows_13 : AC := .run [(.op (some 13) none (.mv (.s 0))), (.call (some 14) none n_parse_reader_labels [(.s 13)]), (.op (some 9) none (.mv (.s 14)))]
abbrev b_parse_reader_rows_16 : AC := .run [(.op (some 15) none (.mv (.s 0))), (.call (some 16) none n_parse_reader_is [(.s 15), (.k (.str [125]))]), (.op (some 17) none (.mv (.s 16))), (.op (some 18) (some (17, true)) (.mv (.s 2))), (.op (some 19) (some (17, true)) (.mv (.s 18))), (.op (some 20) (some (19, false)) (.mv (.s 9))), (.op (some 21) (some (19, false)) (.len (.s 20))), (.op (some 22) (some (19, false)) (.bin .eql (.s 21) (.k (.int .i64 0)))), (.op (some 23) (some (17, true)) (.pick (.s 19) (.k (.bool true)) (.s 22))), (.op (some 24) none (.pick (.s 17) (.s 23) (.k (.bool false))))]
abbrev b_parse_reader_rows_19 : AC := .run [(.op (some 25) none (.mv (.s 0))), (.op (some 26) none (.nilck (.s 25))), (.op (some 27) none (.faddr (.s 26) 1)), (.op (some 28) none (.load (.s 27) false 1)), (.op (some 29) none (.bin .add (.s 28) (.k (.int .i64 1)))), (.op (some 30) none (.nilck (.s 25))), (.op (some 31) none (.faddr (.s 30) 1)), (.op none none (.store (.s 31) (.s 29) 1))]
abbrev b_parse_reader_rows_21 : AC := .run [(.op (some 32) none (.mv (.s 8))), (.op (some 33) none (.mv (.s 9))), (.op (some 6) none (.mv (.s 32))), (.op (some 7) none (.mv (.s 33)))]
abbrev b_parse_reader_rows_20 : AC := .seq b_parse_reader_rows_21 .ret
abbrev b_parse_reader_rows_18 : AC := .seq b_parse_reader_rows_19 b_parse_reader_rows_20
abbrev b_parse_reader_rows_17 : AC := .cond (.s 24) b_parse_reader_rows_18 .skip
abbrev b_parse_reader_rows_15 : AC := .seq b_parse_reader_rows_16 b_parse_reader_rows_17
abbrev b_parse_reader_rows_23 : AC := .run [(.op (some 34) none (.mv (.s 0))), (.op (some 35) none (.mv (.s 1))), (.call (some 36) none n_parse_reader_stmt [(.s 34), (.s 35)]), (.op (some 10) none (.alloc [(.int .i64 0), (.int .i64 0), (.slice .full 0 []), (.str []), (.str []), (.int .i64 0), (.int .i64 0), (.str []), (.slice .full 0 []), (.bool false), (.slice .full 0 []), (.slice .full 0 []), (.slice .full 0 [])])), (.op none none (.store (.s 10) (.s 36) 13))]
abbrev b_parse_reader_rows_25 : AC := .run [(.op (some 37) none (.mv (.s 9))), (.op (some 38) none (.faddr (.s 10) 2)), (.op none none (.store (.s 38) (.s 37) 1))]
abbrev b_parse_reader_rows_26 : AC := .run [(.op (some 39) none (.mv (.s 8))), (.op (some 40) none (.load (.s 10) true 13)), (.op (some 41) none (.bslice [(.int .i64 0), (.int .i64 0), (.slice .full 0 []), (.str []), (.str []), (.int .i64 0), (.int .i64 0), (.str []), (.slice .full 0 []), (.bool false), (.slice .full 0 []), (.slice .full 0 []), (.slice .full 0 [])] 13 1 [(0, (.s 40))])), (.op (some 42) none (.app 13 208 (.s 39) (.s 41))), (.op (some 8) none (.mv (.s 42)))]
abbrev b_parse_reader_rows_24 : AC := .seq b_parse_reader_rows_25 b_parse_reader_rows_26
abbrev b_parse_reader_rows_22 : AC := .seq b_parse_reader_rows_23 b_parse_reader_rows_24
abbrev b_parse_reader_rows_14 : AC := .seq b_parse_reader_rows_15 b_parse_reader_rows_22
abbrev b_parse_reader_rows_12 : AC := .seq b_parse_reader_rows_13 b_parse_reader_rows_14
abbrev b_parse_reader_rows_11 : AC := .block 1 b_parse_reader_rows_12
abbrev b_parse_reader_rows_7 : AC := .seq b_parse_reader_rows_8 b_parse_reader_rows_11
abbrev b_parse_reader_rows_6 : AC := .loop b_parse_reader_rows_7
abbrev b_parse_reader_rows_5 : AC := .block 0 b_parse_reader_rows_6
abbrev b_parse_reader_rows_28 : AC := .run [(.op (some 6) none (.mv (.k (.slice .full 0 [])))), (.op (some 7) none (.mv (.k (.slice .full 0 []))))]
abbrev b_parse_reader_rows_27 : AC := .seq b_parse_reader_rows_28 .ret
abbrev b_parse_reader_rows_4 : AC := .seq b_parse_reader_rows_5 b_parse_reader_rows_27
abbrev b_parse_reader_rows_2 : AC := .seq b_parse_reader_rows_3 b_parse_reader_rows_4
abbrev b_parse_reader_rows_0 : AC := .seq b_parse_reader_rows_1 b_parse_reader_rows_2
abbrev b_tree_expr_1 : AC := .run [(.op (some 1) none (.box (.s 0))), (.op (some 2) none (.alloc [(.int .i64 0), (.int .i64 0), (.str []), (.slice .full 0 [])]))]
abbrev b_tree_expr_3 : AC := .run [(.op (some 6) none (.faddr (.s 1) 3)), (.op (some 7) none (.load (.s 6) false 1)), (.op (some 3) none (.mv (.s 7)))]
abbrev b_tree_expr_5 : AC := .run [(.op (some 8) none (.faddr (.s 1) 3)), (.op none none (.store (.s 8) (.k (.slice .full 0 [])) 1))]
abbrev b_tree_expr_8 : AC := .run [(.op (some 9) none (.mv (.s 3))), (.op (some 10) none (.len (.s 9))), (.op (some 11) none (.mv (.k (.int .i64 0))))]
abbrev b_tree_expr_12 : AC := .run [(.op (some 12) none (.bin .lss (.s 11) (.s 10)))]
abbrev b_tree_expr_14 : AC := .cond (.s 12) .skip (.exit 0)
abbrev b_tree_expr_18 : AC := .run [(.op (some 13) none (.iaddr (.s 9) (.s 11) 4)), (.op (some 14) none (.load (.s 13) true 4)), (.op (some 5) none (.alloc [(.int .i64 0), (.int .i64 0), (.str []), (.slice .full 0 [])])), (.op none none (.store (.s 5) (.s 14) 4))]
abbrev b_tree_expr_19 : AC := .par [(.op (some 15) none (.faddr (.s 1) 3)), (.op (some 16) none (.load (.s 15) false 1)), (.op (some 17) none (.load (.s 5) true 4)), (.call (some 18) none n_tree_expr [(.s 17)]), (.op (some 19) none (.bslice [(.int .i64 0), (.int .i64 0), (.str []), (.slice .full 0 [])] 4 1 [(0, (.s 18))])), (.op (some 20) none (.app 4 56 (.s 16) (.s 19))), (.op (some 21) none (.faddr (.s 1) 3)), (.op none none (.store (.s 21) (.s 20) 1))] [(2, 0), (3, 0), (0, 0), (1, 1), (4, 0), (5, 0), (6, 0), (7, 0)]
abbrev b_tree_expr_17 : AC := .seq b_tree_expr_18 b_tree_expr_19
abbrev b_tree_expr_16 : AC := .block 1 b_tree_expr_17
abbrev b_tree_expr_20 : AC := .run [(.op (some 22) none (.bin .add (.s 11) (.k (.int .i64 1)))), (.op (some 11) none (.mv (.s 22)))]
abbrev b_tree_expr_15 : AC := .seq b_tree_expr_16 b_tree_expr_20
abbrev b_tree_expr_13 : AC := .seq b_tree_expr_14 b_tree_expr_15
abbrev b_tree_expr_11 : AC := .seq b_tree_expr_12 b_tree_expr_13
abbrev b_tree_expr_10 : AC := .loop b_tree_expr_11
abbrev b_tree_expr_9 : AC := .block 0 b_tree_expr_10
abbrev b_tree_expr_7 : AC := .seq b_tree_expr_8 b_tree_expr_9
abbrev b_tree_expr_22 : AC := .run [(.op (some 23) none (.load (.s 1) true 4)), (.op none none (.store (.s 2) (.s 23) 4))]
abbrev b_tree_expr_21 : AC := .seq b_tree_expr_22 .ret
abbrev b_tree_expr_6 : AC := .seq b_tree_expr_7 b_tree_expr_21
abbrev b_tree_expr_4 : AC := .seq b_tree_expr_5 b_tree_expr_6
abbrev b_tree_expr_2 : AC := .seq b_tree_expr_3 b_tree_expr_4
abbrev b_tree_expr_0 : AC := .seq b_tree_expr_1 b_tree_expr_2
abbrev b_ref1_from_1 : AC := .run [(.op (some 4) none (.mv (.k (.int .i64 0))))]
abbrev b_ref1_from_3 : AC := .run [(.op (some 5) none (.mv (.k (.int .i64 0))))]
abbrev b_ref1_from_9 : AC := .run [(.op (some 6) none (.mv (.s 5))), (.op (some 7) none (.mv (.s 0))), (.op (some 8) none (.slen (.s 7))), (.op (some 9) none (.bin .lss (.s 6) (.s 8))), (.op (some 10) none (.mv (.s 9))), (.op (some 11) (some (10, true)) (.mv (.s 0))), (.op (some 12) (some (10, true)) (.mv (.s 5))), (.op (some 13) (some (10, true)) (.sidx (.s 11) (.s 12))), (.call (some 14) (some (10, true)) n_ref1_digit [(.s 13)]), (.op (some 15) (some (10, true)) (.mv (.s 14))), (.op (some 16) (some (15, false)) (.mv (.s 1))), (.op (some 17) (some (15, false)) (.mv (.s 16))), (.op (some 18) (some (17, true)) (.mv (.s 0))), (.op (some 19) (some (17, true)) (.mv (.s 5))), (.op (some 20) (some (17, true)) (.sidx (.s 18) (.s 19))), (.call (some 21) (some (17, true)) n_ref1_small [(.s 20)]), (.op (some 22) (some (15, false)) (.pick (.s 17) (.s 21) (.k (.bool false)))), (.op (some 23) (some (10, true)) (.pick (.s 15) (.k (.bool true)) (.s 22))), (.op (some 24) none (.pick (.s 10) (.s 23) (.k (.bool false))))]
abbrev b_ref1_from_10 : AC := .cond (.s 24) .skip (.exit 0)
abbrev b_ref1_from_8 : AC := .seq b_ref1_from_9 b_ref1_from_10
abbrev b_ref1_from_12 : AC := .run [(.op (some 25) none (.mv (.s 5))), (.op (some 26) none (.bin .add (.s 25) (.k (.int .i64 1)))), (.op (some 5) none (.mv (.s 26)))]
abbrev b_ref1_from_11 : AC := .block 1 b_ref1_from_12
abbrev b_ref1_from_7 : AC := .seq b_ref1_from_8 b_ref1_from_11
abbrev b_ref1_from_6 : AC := .loop b_ref1_from_7
abbrev b_ref1_from_5 : AC := .block 0 b_ref1_from_6
abbrev b_ref1_from_14 : AC := .run [(.op (some 27) none (.mv (.s 5))), (.op (some 4) none (.mv (.s 27)))]
abbrev b_ref1_from_13 : AC := .seq b_ref1_from_14 .ret
abbrev b_ref1_from_4 : AC := .seq b_ref1_from_5 b_ref1_from_13
abbrev b_ref1_from_2 : AC := .seq b_ref1_from_3 b_ref1_from_4
abbrev b_ref1_from_0 : AC := .seq b_ref1_from_1 b_ref1_from_2
abbrev b_ref1_Worth_1 : AC := .run [(.op (some 2) none (.mv (.k (.int .i64 0)))), (.op (some 3) none (.mv (.k (.bool false))))]
abbrev b_ref1_Worth_4 : AC := .run [(.op (some 6) none (.mv (.s 0))), (.op (some 7) none (.slen (.s 6))), (.op (some 8) none (.bin .gtr (.s 7) (.k (.int .i64 19))))]
abbrev b_ref1_Worth_7 : AC := .run [(.op (some 2) none (.mv (.k (.int .i64 0)))), (.op (some 3) none (.mv (.k (.bool false))))]
abbrev b_ref1_Worth_6 : AC := .seq b_ref1_Worth_7 .ret
abbrev b_ref1_Worth_5 : AC := .cond (.s 8) b_ref1_Worth_6 .skip
abbrev b_ref1_Worth_3 : AC := .seq b_ref1_Worth_4 b_ref1_Worth_5
abbrev b_ref1_Worth_9 : AC := .run [(.op (some 4) none (.mv (.k (.int .u64 0))))]
abbrev b_ref1_Worth_12 : AC := .run [(.op (some 5) none (.mv (.k (.int .i64 0))))]
abbrev b_ref1_Worth_17 : AC := .run [(.op (some 9) none (.mv (.s 5))), (.op (some 10) none (.mv (.s 0))), (.op (some 11) none (.slen (.s 10))), (.op (some 12) none (.bin .lss (.s 9) (.s 11)))]
abbrev b_ref1_Worth_18 : AC := .cond (.s 12) .skip (.exit 0)
abbrev b_ref1_Worth_16 : AC := .seq b_ref1_Worth_17 b_ref1_Worth_18
abbrev b_ref1_Worth_21 : AC := .run [(.op (some 15) none (.mv (.s 4))), (.op (some 16) none (.bin .mul (.s 15) (.k (.int .u64 10)))), (.op (some 17) none (.mv (.s 0))), (.op (some 18) none (.mv (.s 5))), (.op (some 19) none (.sidx (.s 17) (.s 18))), (.op (some 20) none (.bin .sub (.s 19) (.k (.int .u8 48)))), (.op (some 21) none (.conv .u64 (.s 20))), (.op (some 22) none (.bin .add (.s 16) (.s 21))), (.op (some 4) none (.mv (.s 22)))]
abbrev b_ref1_Worth_20 : AC := .block 1 b_ref1_Worth_21
abbrev b_ref1_Worth_22 : AC := .run [(.op (some 13) none (.mv (.s 5))), (.op (some 14) none (.bin .add (.s 13) (.k (.int .i64 1)))), (.op (some 5) none (.mv (.s 14)))]
abbrev b_ref1_Worth_19 : AC := .seq b_ref1_Worth_20 b_ref1_Worth_22
abbrev b_ref1_Worth_15 : AC := .seq b_ref1_Worth_16 b_ref1_Worth_19
abbrev b_ref1_Worth_14 : AC := .loop b_ref1_Worth_15
abbrev b_ref1_Worth_13 : AC := .block 0 b_ref1_Worth_14
abbrev b_ref1_Worth_11 : AC := .seq b_ref1_Worth_12 b_ref1_Worth_13
abbrev b_ref1_Worth_24 : AC := .run [(.op (some 23) none (.mv (.s 4))), (.op (some 24) none (.conv .i64 (.s 23))), (.op (some 25) none (.mv (.s 4))), (.op (some 26) none (.bin .leq (.s 25) (.k (.int .u64 9223372036854775807)))), (.op (some 2) none (.mv (.s 24))), (.op (some 3) none (.mv (.s 26)))]
abbrev b_ref1_Worth_23 : AC := .seq b_ref1_Worth_24 .ret
abbrev b_ref1_Worth_10 : AC := .seq b_ref1_Worth_11 b_ref1_Worth_23
abbrev b_ref1_Worth_8 : AC := .seq b_ref1_Worth_9 b_ref1_Worth_10
abbrev b_ref1_Worth_2 : AC := .seq b_ref1_Worth_3 b_ref1_Worth_8
abbrev b_ref1_Worth_0 : AC := .seq b_ref1_Worth_1 b_ref1_Worth_2
abbrev b_ref1_sign_1 : AC := .run [(.op (some 2) none (.mv (.k (.int .i64 0))))]
abbrev b_ref1_sign_4 : AC := .run [(.op (some 7) none (.bslice [(.str [])] 1 6 [(0, (.k (.str [61, 61]))), (1, (.k (.str [33, 61]))), (2, (.k (.str [60, 61]))), (3, (.k (.str [62, 61]))), (4, (.k (.str [38, 38]))), (5, (.k (.str [124, 124])))])), (.op (some 8) none (.len (.s 7))), (.op (some 9) none (.mv (.k (.int .i64 0))))]
abbrev b_ref1_sign_8 : AC := .run [(.op (some 10) none (.bin .lss (.s 9) (.s 8)))]
abbrev b_ref1_sign_10 : AC := .cond (.s 10) .skip (.exit 0)
abbrev b_ref1_sign_14 : AC := .run [(.op (some 11) none (.iaddr (.s 7) (.s 9) 1)), (.op (some 12) none (.load (.s 11) false 1)), (.op (some 4) none (.mv (.s 12)))]
abbrev b_ref1_sign_16 : AC := .run [(.op (some 13) none (.mv (.s 0))), (.op (some 14) none (.slen (.s 13))), (.op (some 15) none (.bin .geq (.s 14) (.k (.int .i64 2)))), (.op (some 16) none (.mv (.s 15))), (.op (some 17) (some (16, true)) (.mv (.s 0))), (.op (some 18) (some (16, true)) (.sslc (.s 17) none (some (.k (.int .i64 2))))), (.op (some 19) (some (16, true)) (.mv (.s 4))), (.op (some 20) (some (16, true)) (.bin .eql (.s 18) (.s 19))), (.op (some 21) none (.pick (.s 16) (.s 20) (.k (.bool false))))]
abbrev b_ref1_sign_19 : AC := .run [(.op (some 2) none (.mv (.k (.int .i64 2))))]
abbrev b_ref1_sign_18 : AC := .seq b_ref1_sign_19 .ret
abbrev b_ref1_sign_17 : AC := .cond (.s 21) b_ref1_sign_18 .skip
abbrev b_ref1_sign_15 : AC := .seq b_ref1_sign_16 b_ref1_sign_17
abbrev b_ref1_sign_13 : AC := .seq b_ref1_sign_14 b_ref1_sign_15
abbrev b_ref1_sign_12 : AC := .block 1 b_ref1_sign_13
abbrev b_ref1_sign_20 : AC := .run [(.op (some 22) none (.bin .add (.s 9) (.k (.int .i64 1)))), (.op (some 9) none (.mv (.s 22)))]
abbrev b_ref1_sign_11 : AC := .seq b_ref1_sign_12 b_ref1_sign_20
abbrev b_ref1_sign_9 : AC := .seq b_ref1_sign_10 b_ref1_sign_11
abbrev b_ref1_sign_7 : AC := .seq b_ref1_sign_8 b_ref1_sign_9
abbrev b_ref1_sign_6 : AC := .loop b_ref1_sign_7
abbrev b_ref1_sign_5 : AC := .block 0 b_ref1_sign_6
abbrev b_ref1_sign_3 : AC := .seq b_ref1_sign_4 b_ref1_sign_5
abbrev b_ref1_sign_23 : AC := .run [(.op (some 23) none (.bslt [(.int .u8 0)] 1 16 [(0, (.k (.int .u8 40))), (1, (.k (.int .u8 41))), (2, (.k (.int .u8 123))), (3, (.k (.int .u8 125))), (4, (.k (.int .u8 44))), (5, (.k (.int .u8 59))), (6, (.k (.int .u8 58))), (7, (.k (.int .u8 61))), (8, (.k (.int .u8 33))), (9, (.k (.int .u8 60))), (10, (.k (.int .u8 62))), (11, (.k (.int .u8 43))), (12, (.k (.int .u8 45))), (13, (.k (.int .u8 42))), (14, (.k (.int .u8 47))), (15, (.k (.int .u8 37)))])), (.op (some 24) none (.frz (.s 23))), (.op (some 25) none (.len (.s 24))), (.op (some 26) none (.mv (.k (.int .i64 0))))]
abbrev b_ref1_sign_27 : AC := .run [(.op (some 27) none (.bin .lss (.s 26) (.s 25)))]
abbrev b_ref1_sign_29 : AC := .cond (.s 27) .skip (.exit 2)
abbrev b_ref1_sign_33 : AC := .run [(.op (some 28) none (.iaddr (.s 24) (.s 26) 1)), (.op (some 29) none (.load (.s 28) false 1)), (.op (some 6) none (.mv (.s 29)))]
abbrev b_ref1_sign_35 : AC := .run [(.op (some 30) none (.mv (.s 0))), (.op (some 31) none (.sidx (.s 30) (.k (.int .i64 0)))), (.op (some 32) none (.mv (.s 6))), (.op (some 33) none (.bin .eql (.s 31) (.s 32)))]
abbrev b_ref1_sign_38 : AC := .run [(.op (some 2) none (.mv (.k (.int .i64 1))))]
abbrev b_ref1_sign_37 : AC := .seq b_ref1_sign_38 .ret
abbrev b_ref1_sign_36 : AC := .cond (.s 33) b_ref1_sign_37 .skip
abbrev b_ref1_sign_34 : AC := .seq b_ref1_sign_35 b_ref1_sign_36
abbrev b_ref1_sign_32 : AC := .seq b_ref1_sign_33 b_ref1_sign_34
abbrev b_ref1_sign_31 : AC := .block 3 b_ref1_sign_32
abbrev b_ref1_sign_39 : AC := .run [(.op (some 34) none (.bin .add (.s 26) (.k (.int .i64 1)))), (.op (some 26) none (.mv (.s 34)))]
abbrev b_ref1_sign_30 : AC := .seq b_ref1_sign_31 b_ref1_sign_39
abbrev b_ref1_sign_28 : AC := .seq b_ref1_sign_29 b_ref1_sign_30
abbrev b_ref1_sign_26 : AC := .seq b_ref1_sign_27 b_ref1_sign_28
abbrev b_ref1_sign_25 : AC := .loop b_ref1_sign_26
abbrev b_ref1_sign_24 : AC := .block 2 b_ref1_sign_25
abbrev b_ref1_sign_22 : AC := .seq b_ref1_sign_23 b_ref1_sign_24
abbrev b_ref1_sign_41 : AC := .run [(.op (some 2) none (.mv (.k (.int .i64 0))))]
abbrev b_ref1_sign_40 : AC := .seq b_ref1_sign_41 .ret
abbrev b_ref1_sign_21 : AC := .seq b_ref1_sign_22 b_ref1_sign_40
abbrev b_ref1_sign_2 : AC := .seq b_ref1_sign_3 b_ref1_sign_21
abbrev b_ref1_sign_0 : AC := .seq b_ref1_sign_1 b_ref1_sign_2
abbrev b_parse_reader_one_1 : AC := .run [(.op (some 2) none (.alloc [(.int .i64 0), (.int .i64 0), (.str []), (.slice .full 0 [])]))]
abbrev b_parse_reader_one_3 : AC := .run [(.op (some 5) none (.mv (.s 0))), (.call (some 6) none n_parse_reader_peek [(.s 5)]), (.op (some 3) none (.alloc [(.int .i64 0), (.str []), (.int .i64 0), (.int .i64 0)])), (.op none none (.store (.s 3) (.s 6) 4))]
abbrev b_parse_reader_one_6 : AC := .run [(.op (some 7) none (.mv (.s 0))), (.call (some 8) none n_parse_reader_good [(.s 7)]), (.op (some 9) none (.un .not (.s 8)))]
abbrev b_parse_reader_one_9 : AC := .run [(.op (some 10) none (.build [(.int .i64 0), (.int .i64 0), (.str []), (.slice .full 0 [])] [])), (.op none none (.store (.s 2) (.s 10) 4))]
abbrev b_parse_reader_one_8 : AC := .seq b_parse_reader_one_9 .ret
abbrev b_parse_reader_one_7 : AC := .cond (.s 9) b_parse_reader_one_8 .skip
abbrev b_parse_reader_one_5 : AC := .seq b_parse_reader_one_6 b_parse_reader_one_7
abbrev b_parse_reader_one_13 : AC := .run [(.op (some 12) none (.faddr (.s 3) 0)), (.op (some 13) none (.load (.s 12) false 1)), (.op (some 14) none (.bin .eql (.s 13) (.k (.int .i64 2)))), (.op (some 11) none (.mv (.s 14)))]
abbrev b_parse_reader_one_16 : AC := .run [(.op (some 15) none (.mv (.s 0))), (.op (some 16) none (.nilck (.s 15))), (.op (some 17) none (.faddr (.s 16) 1)), (.op (some 18) none (.load (.s 17) false 1)), (.op (some 19) none (.bin .add (.s 18) (.k (.int .i64 1)))), (.op (some 20) none (.nilck (.s 15))), (.op (some 21) none (.faddr (.s 20) 1)), (.op none none (.store (.s 21) (.s 19) 1))]
abbrev b_parse_reader_one_18 : AC := .run [(.op (some 22) none (.faddr (.s 3) 2)), (.op (some 23) none (.load (.s 22) false 1)), (.op (some 24) none (.build [(.int .i64 0), (.int .i64 0), (.str []), (.slice .full 0 [])] [(0, (1, (.k (.int .i64 1)))), (1, (1, (.s 23)))])), (.op none none (.store (.s 2) (.s 24) 4))]
abbrev b_parse_reader_one_17 : AC := .seq b_parse_reader_one_18 .ret
abbrev b_parse_reader_one_15 : AC := .seq b_parse_reader_one_16 b_parse_reader_one_17
abbrev b_parse_reader_one_20 : AC := .run [(.op (some 26) none (.faddr (.s 3) 0)), (.op (some 27) none (.load (.s 26) false 1)), (.op (some 28) none (.bin .eql (.s 27) (.k (.int .i64 1)))), (.op (some 25) none (.mv (.s 28)))]
abbrev b_parse_reader_one_23 : AC := .run [(.op (some 29) none (.mv (.s 0))), (.op (some 30) none (.nilck (.s 29))), (.op (some 31) none (.faddr (.s 30) 1)), (.op (some 32) none (.load (.s 31) false 1)), (.op (some 33) none (.bin .add (.s 32) (.k (.int .i64 1)))), (.op (some 34) none (.nilck (.s 29))), (.op (some 35) none (.faddr (.s 34) 1)), (.op none none (.store (.s 35) (.s 33) 1))]
abbrev b_parse_reader_one_25 : AC := .run [(.op (some 36) none (.faddr (.s 3) 1)), (.op (some 37) none (.load (.s 36) false 1)), (.op (some 38) none (.build [(.int .i64 0), (.int .i64 0), (.str []), (.slice .full 0 [])] [(0, (1, (.k (.int .i64 2)))), (2, (1, (.s 37)))])), (.op none none (.store (.s 2) (.s 38) 4))]
abbrev b_parse_reader_one_24 : AC := .seq b_parse_reader_one_25 .ret
abbrev b_parse_reader_one_22 : AC := .seq b_parse_reader_one_23 b_parse_reader_one_24
abbrev b_parse_reader_one_27 : AC := .run [(.op (some 40) none (.mv (.s 0))), (.call (some 41) none n_parse_reader_take [(.s 40), (.k (.str [40]))]), (.op (some 39) none (.mv (.s 41)))]
abbrev b_parse_reader_one_30 : AC := .run [(.op (some 42) none (.mv (.s 0))), (.call (some 43) none n_parse_reader_two [(.s 42), (.k (.int .i64 1))]), (.op (some 4) none (.alloc [(.int .i64 0), (.int .i64 0), (.str []), (.slice .full 0 [])])), (.op none none (.store (.s 4) (.s 43) 4))]
abbrev b_parse_reader_one_32 : AC := .run [(.op (some 44) none (.mv (.s 0))), (.call (some 45) none n_parse_reader_want [(.s 44), (.k (.str [41]))])]
abbrev b_parse_reader_one_34 : AC := .run [(.op (some 46) none (.load (.s 4) true 4)), (.op none none (.store (.s 2) (.s 46) 4))]
abbrev b_parse_reader_one_33 : AC := .seq b_parse_reader_one_34 .ret
abbrev b_parse_reader_one_31 : AC := .seq b_parse_reader_one_32 b_parse_reader_one_33
abbrev b_parse_reader_one_29 : AC := .seq b_parse_reader_one_30 b_parse_reader_one_31
abbrev b_parse_reader_one_36 : AC := .run [(.op (some 48) none (.mv (.s 0))), (.call (some 49) none n_parse_reader_take [(.s 48), (.k (.str [45]))]), (.op (some 47) none (.mv (.s 49)))]
abbrev b_parse_reader_one_39 : AC := .run [(.op (some 50) none (.mv (.s 0))), (.call (some 51) none n_parse_reader_one [(.s 50)]), (.op (some 52) none (.bslice [(.int .i64 0), (.int .i64 0), (.str []), (.slice .full 0 [])] 4 1 [(0, (.s 51))])), (.op (some 53) none (.build [(.int .i64 0), (.int .i64 0), (.str []), (.slice .full 0 [])] [(0, (1, (.k (.int .i64 3)))), (3, (1, (.s 52)))])), (.op none none (.store (.s 2) (.s 53) 4))]
abbrev b_parse_reader_one_38 : AC := .seq b_parse_reader_one_39 .ret
abbrev b_parse_reader_one_41 : AC := .run [(.op (some 55) none (.mv (.s 0))), (.call (some 56) none n_parse_reader_take [(.s 55), (.k (.str [33]))]), (.op (some 54) none (.mv (.s 56)))]
abbrev b_parse_reader_one_44 : AC := .run [(.op (some 57) none (.mv (.s 0))), (.call (some 58) none n_parse_reader_one [(.s 57)]), (.op (some 59) none (.bslice [(.int .i64 0), (.int .i64 0), (.str []), (.slice .full 0 [])] 4 1 [(0, (.s 58))])), (.op (some 60) none (.build [(.int .i64 0), (.int .i64 0), (.str []), (.slice .full 0 [])] [(0, (1, (.k (.int .i64 4)))), (3, (1, (.s 59)))])), (.op none none (.store (.s 2) (.s 60) 4))]
abbrev b_parse_reader_one_43 : AC := .seq b_parse_reader_one_44 .ret
abbrev b_parse_reader_one_42 : AC := .cond (.s 54) b_parse_reader_one_43 .skip
abbrev b_parse_reader_one_40 : AC := .seq b_parse_reader_one_41 b_parse_reader_one_42
abbrev b_parse_reader_one_37 : AC := .cond (.s 47) b_parse_reader_one_38 b_parse_reader_one_40
abbrev b_parse_reader_one_35 : AC := .seq b_parse_reader_one_36 b_parse_reader_one_37
abbrev b_parse_reader_one_28 : AC := .cond (.s 39) b_parse_reader_one_29 b_parse_reader_one_35
abbrev b_parse_reader_one_26 : AC := .seq b_parse_reader_one_27 b_parse_reader_one_28
abbrev b_parse_reader_one_21 : AC := .cond (.s 25) b_parse_reader_one_22 b_parse_reader_one_26
abbrev b_parse_reader_one_19 : AC := .seq b_parse_reader_one_20 b_parse_reader_one_21
abbrev b_parse_reader_one_14 : AC := .cond (.s 11) b_parse_reader_one_15 b_parse_reader_one_19
abbrev b_parse_reader_one_12 : AC := .seq b_parse_reader_one_13 b_parse_reader_one_14
abbrev b_parse_reader_one_11 : AC := .block 0 b_parse_reader_one_12
abbrev b_parse_reader_one_46 : AC := .run [(.op (some 61) none (.mv (.s 0))), (.call (some 62) none n_parse_reader_bad [(.s 61), (.k (.int .i64 3))])]
abbrev b_parse_reader_one_48 : AC := .run [(.op (some 63) none (.build [(.int .i64 0), (.int .i64 0), (.str []), (.slice .full 0 [])] [])), (.op none none (.store (.s 2) (.s 63) 4))]
abbrev b_parse_reader_one_47 : AC := .seq b_parse_reader_one_48 .ret
abbrev b_parse_reader_one_45 : AC := .seq b_parse_reader_one_46 b_parse_reader_one_47
abbrev b_parse_reader_one_10 : AC := .seq b_parse_reader_one_11 b_parse_reader_one_45
abbrev b_parse_reader_one_4 : AC := .seq b_parse_reader_one_5 b_parse_reader_one_10
abbrev b_parse_reader_one_2 : AC := .seq b_parse_reader_one_3 b_parse_reader_one_4
abbrev b_parse_reader_one_0 : AC := .seq b_parse_reader_one_1 b_parse_reader_one_2
abbrev b_parse_op_1 : AC := .run [(.op (some 1) none (.box (.s 0))), (.op (some 2) none (.mv (.k (.int .i64 0)))), (.op (some 3) none (.mv (.k (.int .i64 0))))]
abbrev b_parse_op_4 : AC := .run [(.op (some 4) none (.faddr (.s 1) 0)), (.op (some 5) none (.load (.s 4) false 1)), (.op (some 6) none (.bin .neq (.s 5) (.k (.int .i64 4))))]
abbrev b_parse_op_7 : AC := .run [(.op (some 2) none (.mv (.k (.int .i64 0)))), (.op (some 3) none (.mv (.k (.int .i64 0))))]
abbrev b_parse_op_6 : AC := .seq b_parse_op_7 .ret
abbrev b_parse_op_5 : AC := .cond (.s 6) b_parse_op_6 .skip
abbrev b_parse_op_3 : AC := .seq b_parse_op_4 b_parse_op_5
abbrev b_parse_op_10 : AC := .run [(.op (some 7) none (.faddr (.s 1) 1)), (.op (some 8) none (.load (.s 7) false 1))]
abbrev b_parse_op_13 : AC := .run [(.op (some 10) none (.bin .eql (.s 8) (.k (.str [124, 124])))), (.op (some 9) none (.mv (.s 10)))]
abbrev b_parse_op_16 : AC := .run [(.op (some 2) none (.mv (.k (.int .i64 17)))), (.op (some 3) none (.mv (.k (.int .i64 1))))]
abbrev b_parse_op_15 : AC := .seq b_parse_op_16 .ret
abbrev b_parse_op_18 : AC := .run [(.op (some 12) none (.bin .eql (.s 8) (.k (.str [38, 38])))), (.op (some 11) none (.mv (.s 12)))]
abbrev b_parse_op_21 : AC := .run [(.op (some 2) none (.mv (.k (.int .i64 16)))), (.op (some 3) none (.mv (.k (.int .i64 2))))]
abbrev b_parse_op_20 : AC := .seq b_parse_op_21 .ret
abbrev b_parse_op_23 : AC := .run [(.op (some 14) none (.bin .eql (.s 8) (.k (.str [61, 61])))), (.op (some 13) none (.mv (.s 14)))]
abbrev b_parse_op_26 : AC := .run [(.op (some 2) none (.mv (.k (.int .i64 14)))), (.op (some 3) none (.mv (.k (.int .i64 3))))]
abbrev b_parse_op_25 : AC := .seq b_parse_op_26 .ret
abbrev b_parse_op_28 : AC := .run [(.op (some 16) none (.bin .eql (.s 8) (.k (.str [33, 61])))), (.op (some 15) none (.mv (.s 16)))]
abbrev b_parse_op_31 : AC := .run [(.op (some 2) none (.mv (.k (.int .i64 15)))), (.op (some 3) none (.mv (.k (.int .i64 3))))]
abbrev b_parse_op_30 : AC := .seq b_parse_op_31 .ret
abbrev b_parse_op_33 : AC := .run [(.op (some 18) none (.bin .eql (.s 8) (.k (.str [60])))), (.op (some 17) none (.mv (.s 18)))]
abbrev b_parse_op_36 : AC := .run [(.op (some 2) none (.mv (.k (.int .i64 10)))), (.op (some 3) none (.mv (.k (.int .i64 4))))]
abbrev b_parse_op_35 : AC := .seq b_parse_op_36 .ret
abbrev b_parse_op_38 : AC := .run [(.op (some 20) none (.bin .eql (.s 8) (.k (.str [60, 61])))), (.op (some 19) none (.mv (.s 20)))]
abbrev b_parse_op_41 : AC := .run [(.op (some 2) none (.mv (.k (.int .i64 11)))), (.op (some 3) none (.mv (.k (.int .i64 4))))]
abbrev b_parse_op_40 : AC := .seq b_parse_op_41 .ret
abbrev b_parse_op_43 : AC := .run [(.op (some 22) none (.bin .eql (.s 8) (.k (.str [62])))), (.op (some 21) none (.mv (.s 22)))]
abbrev b_parse_op_46 : AC := .run [(.op (some 2) none (.mv (.k (.int .i64 12)))), (.op (some 3) none (.mv (.k (.int .i64 4))))]
abbrev b_parse_op_45 : AC := .seq b_parse_op_46 .ret
abbrev b_parse_op_48 : AC := .run [(.op (some 24) none (.bin .eql (.s 8) (.k (.str [62, 61])))), (.op (some 23) none (.mv (.s 24)))]
abbrev b_parse_op_51 : AC := .run [(.op (some 2) none (.mv (.k (.int .i64 13)))), (.op (some 3) none (.mv (.k (.int .i64 4))))]
abbrev b_parse_op_50 : AC := .seq b_parse_op_51 .ret
abbrev b_parse_op_53 : AC := .run [(.op (some 26) none (.bin .eql (.s 8) (.k (.str [43])))), (.op (some 25) none (.mv (.s 26)))]
abbrev b_parse_op_56 : AC := .run [(.op (some 2) none (.mv (.k (.int .i64 8)))), (.op (some 3) none (.mv (.k (.int .i64 5))))]
abbrev b_parse_op_55 : AC := .seq b_parse_op_56 .ret
abbrev b_parse_op_58 : AC := .run [(.op (some 28) none (.bin .eql (.s 8) (.k (.str [45])))), (.op (some 27) none (.mv (.s 28)))]
abbrev b_parse_op_61 : AC := .run [(.op (some 2) none (.mv (.k (.int .i64 9)))), (.op (some 3) none (.mv (.k (.int .i64 5))))]
abbrev b_parse_op_60 : AC := .seq b_parse_op_61 .ret
abbrev b_parse_op_63 : AC := .run [(.op (some 30) none (.bin .eql (.s 8) (.k (.str [42])))), (.op (some 29) none (.mv (.s 30)))]
abbrev b_parse_op_66 : AC := .run [(.op (some 2) none (.mv (.k (.int .i64 5)))), (.op (some 3) none (.mv (.k (.int .i64 6))))]
abbrev b_parse_op_65 : AC := .seq b_parse_op_66 .ret
abbrev b_parse_op_68 : AC := .run [(.op (some 32) none (.bin .eql (.s 8) (.k (.str [47])))), (.op (some 31) none (.mv (.s 32)))]
abbrev b_parse_op_71 : AC := .run [(.op (some 2) none (.mv (.k (.int .i64 6)))), (.op (some 3) none (.mv (.k (.int .i64 6))))]
abbrev b_parse_op_70 : AC := .seq b_parse_op_71 .ret
abbrev b_parse_op_73 : AC := .run [(.op (some 34) none (.bin .eql (.s 8) (.k (.str [37])))), (.op (some 33) none (.mv (.s 34)))]
abbrev b_parse_op_76 : AC := .run [(.op (some 2) none (.mv (.k (.int .i64 7)))), (.op (some 3) none (.mv (.k (.int .i64 6))))]
abbrev b_parse_op_75 : AC := .seq b_parse_op_76 .ret
abbrev b_parse_op_74 : AC := .cond (.s 33) b_parse_op_75 .skip
abbrev b_parse_op_72 : AC := .seq b_parse_op_73 b_parse_op_74
abbrev b_parse_op_69 : AC := .cond (.s 31) b_parse_op_70 b_parse_op_72
abbrev b_parse_op_67 : AC := .seq b_parse_op_68 b_parse_op_69
abbrev b_parse_op_64 : AC := .cond (.s 29) b_parse_op_65 b_parse_op_67
abbrev b_parse_op_62 : AC := .seq b_parse_op_63 b_parse_op_64
abbrev b_parse_op_59 : AC := .cond (.s 27) b_parse_op_60 b_parse_op_62
abbrev b_parse_op_57 : AC := .seq b_parse_op_58 b_parse_op_59
abbrev b_parse_op_54 : AC := .cond (.s 25) b_parse_op_55 b_parse_op_57
abbrev b_parse_op_52 : AC := .seq b_parse_op_53 b_parse_op_54
abbrev b_parse_op_49 : AC := .cond (.s 23) b_parse_op_50 b_parse_op_52
abbrev b_parse_op_47 : AC := .seq b_parse_op_48 b_parse_op_49
abbrev b_parse_op_44 : AC := .cond (.s 21) b_parse_op_45 b_parse_op_47
abbrev b_parse_op_42 : AC := .seq b_parse_op_43 b_parse_op_44
abbrev b_parse_op_39 : AC := .cond (.s 19) b_parse_op_40 b_parse_op_42
abbrev b_parse_op_37 : AC := .seq b_parse_op_38 b_parse_op_39
abbrev b_parse_op_34 : AC := .cond (.s 17) b_parse_op_35 b_parse_op_37
abbrev b_parse_op_32 : AC := .seq b_parse_op_33 b_parse_op_34
abbrev b_parse_op_29 : AC := .cond (.s 15) b_parse_op_30 b_parse_op_32
abbrev b_parse_op_27 : AC := .seq b_parse_op_28 b_parse_op_29
abbrev b_parse_op_24 : AC := .cond (.s 13) b_parse_op_25 b_parse_op_27
abbrev b_parse_op_22 : AC := .seq b_parse_op_23 b_parse_op_24
abbrev b_parse_op_19 : AC := .cond (.s 11) b_parse_op_20 b_parse_op_22
abbrev b_parse_op_17 : AC := .seq b_parse_op_18 b_parse_op_19
abbrev b_parse_op_14 : AC := .cond (.s 9) b_parse_op_15 b_parse_op_17
abbrev b_parse_op_12 : AC := .seq b_parse_op_13 b_parse_op_14
abbrev b_parse_op_11 : AC := .block 0 b_parse_op_12
abbrev b_parse_op_9 : AC := .seq b_parse_op_10 b_parse_op_11
abbrev b_parse_op_78 : AC := .run [(.op (some 2) none (.mv (.k (.int .i64 0)))), (.op (some 3) none (.mv (.k (.int .i64 0))))]
abbrev b_parse_op_77 : AC := .seq b_parse_op_78 .ret
abbrev b_parse_op_8 : AC := .seq b_parse_op_9 b_parse_op_77
abbrev b_parse_op_2 : AC := .seq b_parse_op_3 b_parse_op_8
abbrev b_parse_op_0 : AC := .seq b_parse_op_1 b_parse_op_2
abbrev b_ref1_Words_1 : AC := .run [(.op (some 0) none (.mv (.k (.slice .full 0 []))))]
abbrev b_ref1_Words_3 : AC := .run [(.op (some 1) none (.bslice [(.str [])] 1 13 [(0, (.k (.str [103, 108, 111, 98, 97, 108]))), (1, (.k (.str [112, 114, 111, 99]))), (2, (.k (.str [118, 97, 114]))), (3, (.k (.str [114, 101, 102]))), (4, (.k (.str [105, 102]))), (5, (.k (.str [101, 108, 115, 101]))), (6, (.k (.str [119, 104, 105, 108, 101]))), (7, (.k (.str [98, 114, 101, 97, 107]))), (8, (.k (.str [99, 111, 110, 116, 105, 110, 117, 101]))), (9, (.k (.str [114, 101, 116, 117, 114, 110]))), (10, (.k (.str [103, 111, 116, 111]))), (11, (.k (.str [114, 101, 97, 100]))), (12, (.k (.str [112, 114, 105, 110, 116])))])), (.op (some 0) none (.mv (.s 1)))]
abbrev b_ref1_Words_2 : AC := .seq b_ref1_Words_3 .ret
abbrev b_ref1_Words_0 : AC := .seq b_ref1_Words_1 b_ref1_Words_2
abbrev b_parse_reader_labels_1 : AC := .run [(.op (some 2) none (.mv (.k (.slice .full 0 []))))]
abbrev b_parse_reader_labels_3 : AC := .run [(.op (some 3) none (.mv (.k (.slice .full 0 []))))]
abbrev b_parse_reader_labels_9 : AC := .par [(.op (some 4) none (.mv (.s 0))), (.call (some 5) none n_parse_reader_good [(.s 4)]), (.op (some 6) none (.mv (.s 5))), (.op (some 7) (some (6, true)) (.mv (.s 0))), (.call (some 8) (some (6, true)) n_parse_reader_peek [(.s 7)]), (.op (some 9) (some (6, true)) (.fld (.s 8) 0 false 1)), (.op (some 10) (some (6, true)) (.bin .eql (.s 9) (.k (.int .i64 1)))), (.op (some 11) none (.pick (.s 6) (.s 10) (.k (.bool false)))), (.op (some 12) none (.mv (.s 11))), (.op (some 13) (some (12, true)) (.mv (.s 0))), (.op (some 14) (some (12, true)) (.nilck (.s 13))), (.op (some 15) (some (12, true)) (.faddr (.s 14) 0)), (.op (some 16) (some (12, true)) (.load (.s 15) false 1)), (.op (some 17) (some (12, true)) (.mv (.s 0))), (.op (some 18) (some (12, true)) (.nilck (.s 17))), (.op (some 19) (some (12, true)) (.faddr (.s 18) 1)), (.op (some 20) (some (12, true)) (.load (.s 19) false 1)), (.op (some 21) (some (12, true)) (.bin .add (.s 20) (.k (.int .i64 1)))), (.op (some 22) (some (12, true)) (.iaddr (.s 16) (.s 21) 4)), (.op (some 23) (some (12, true)) (.faddr (.s 22) 0)), (.op (some 24) (some (12, true)) (.load (.s 23) false 1)), (.op (some 25) (some (12, true)) (.bin .eql (.s 24) (.k (.int .i64 4)))), (.op (some 26) none (.pick (.s 12) (.s 25) (.k (.bool false)))), (.op (some 27) none (.mv (.s 26))), (.op (some 28) (some (27, true)) (.mv (.s 0))), (.op (some 29) (some (27, true)) (.nilck (.s 28))), (.op (some 30) (some (27, true)) (.faddr (.s 29) 0)), (.op (some 31) (some (27, true)) (.load (.s 30) false 1)), (.op (some 32) (some (27, true)) (.mv (.s 0))), (.op (some 33) (some (27, true)) (.nilck (.s 32))), (.op (some 34) (some (27, true)) (.faddr (.s 33) 1)), (.op (some 35) (some (27, true)) (.load (.s 34) false 1)), (.op (some 36) (some (27, true)) (.bin .add (.s 35) (.k (.int .i64 1)))), (.op (some 37) (some (27, true)) (.iaddr (.s 31) (.s 36) 4)), (.op (some 38) (some (27, true)) (.faddr (.s 37) 1)), (.op (some 39) (some (27, true)) (.load (.s 38) false 1)), (.op (some 40) (some (27, true)) (.bin .eql (.s 39) (.k (.str [58])))), (.op (some 41) none (.pick (.s 27) (.s 40) (.k (.bool false))))] [(0, 0), (1, 0), (2, 0), (3, 0), (4, 0), (5, 0), (6, 0), (7, 0), (8, 0), (9, 0), (10, 0), (11, 0), (12, 0), (13, 0), (14, 0), (15, 0), (16, 0), (17, 0), (18, 0), (19, 0), (20, 0), (21, 0), (22, 0), (23, 0), (24, 0), (25, 0), (26, 0), (27, 0), (28, 0), (29, 0), (30, 0), (31, 0), (32, 0), (33, 0), (34, 0), (35, 0), (36, 0), (37, 0)]
abbrev b_parse_reader_labels_10 : AC := .cond (.s 41) .skip (.exit 0)
abbrev b_parse_reader_labels_8 : AC := .seq b_parse_reader_labels_9 b_parse_reader_labels_10
abbrev b_parse_reader_labels_13 : AC := .run [(.op (some 42) none (.mv (.s 3))), (.op (some 43) none (.mv (.s 0))), (.call (some 44) none n_parse_reader_peek [(.s 43)]), (.op (some 45) none (.fld (.s 44) 1 false 1)), (.op (some 46) none (.bslice [(.str [])] 1 1 [(0, (.s 45))])), (.op (some 47) none (.app 1 16 (.s 42) (.s 46))), (.op (some 3) none (.mv (.s 47)))]
abbrev b_parse_reader_labels_14 : AC := .run [(.op (some 48) none (.mv (.s 0))), (.op (some 49) none (.nilck (.s 48))), (.op (some 50) none (.faddr (.s 49) 1)), (.op (some 51) none (.load (.s 50) false 1)), (.op (some 52) none (.bin .add (.s 51) (.k (.int .i64 2)))), (.op (some 53) none (.nilck (.s 48))), (.op (some 54) none (.faddr (.s 53) 1)), (.op none none (.store (.s 54) (.s 52) 1))]
abbrev b_parse_reader_labels_12 : AC := .seq b_parse_reader_labels_13 b_parse_reader_labels_14
abbrev b_parse_reader_labels_11 : AC := .block 1 b_parse_reader_labels_12
abbrev b_parse_reader_labels_7 : AC := .seq b_parse_reader_labels_8 b_parse_reader_labels_11
abbrev b_parse_reader_labels_6 : AC := .loop b_parse_reader_labels_7
abbrev b_parse_reader_labels_5 : AC := .block 0 b_parse_reader_labels_6
abbrev b_parse_reader_labels_16 : AC := .run [(.op (some 55) none (.mv (.s 3))), (.op (some 2) none (.mv (.s 55)))]
abbrev b_parse_reader_labels_15 : AC := .seq b_parse_reader_labels_16 .ret
abbrev b_parse_reader_labels_4 : AC := .seq b_parse_reader_labels_5 b_parse_reader_labels_15
abbrev b_parse_reader_labels_2 : AC := .seq b_parse_reader_labels_3 b_parse_reader_labels_4
abbrev b_parse_reader_labels_0 : AC := .seq b_parse_reader_labels_1 b_parse_reader_labels_2
abbrev b_parse_reader_stmt_1 : AC := .run [(.op (some 4) none (.alloc [(.int .i64 0), (.int .i64 0), (.slice .full 0 []), (.str []), (.str []), (.int .i64 0), (.int .i64 0), (.str []), (.slice .full 0 []), (.bool false), (.slice .full 0 []), (.slice .full 0 []), (.slice .full 0 [])]))]
abbrev b_parse_reader_stmt_4 : AC := .run [(.op (some 8) none (.mv (.s 0))), (.call (some 9) none n_parse_reader_begins [(.s 8)]), (.op (some 10) none (.un .not (.s 9)))]
abbrev b_parse_reader_stmt_7 : AC := .run [(.op (some 11) none (.mv (.s 0))), (.call (some 12) none n_parse_reader_bad [(.s 11), (.k (.int .i64 3))])]
abbrev b_parse_reader_stmt_9 : AC := .run [(.op (some 13) none (.build [(.int .i64 0), (.int .i64 0), (.slice .full 0 []), (.str []), (.str []), (.int .i64 0), (.int .i64 0), (.str []), (.slice .full 0 []), (.bool false), (.slice .full 0 []), (.slice .full 0 []), (.slice .full 0 [])] [])), (.op none none (.store (.s 4) (.s 13) 13))]
abbrev b_parse_reader_stmt_8 : AC := .seq b_parse_reader_stmt_9 .ret
abbrev b_parse_reader_stmt_6 : AC := .seq b_parse_reader_stmt_7 b_parse_reader_stmt_8
abbrev b_parse_reader_stmt_5 : AC := .cond (.s 10) b_parse_reader_stmt_6 .skip
abbrev b_parse_reader_stmt_3 : AC := .seq b_parse_reader_stmt_4 b_parse_reader_stmt_5
abbrev b_parse_reader_stmt_11 : AC := .run [(.op (some 14) none (.mv (.s 0))), (.op (some 15) none (.nilck (.s 14))), (.op (some 16) none (.faddr (.s 15) 4)), (.op (some 17) none (.load (.s 16) false 1)), (.op (some 18) none (.bin .add (.s 17) (.k (.int .i64 1)))), (.op (some 19) none (.nilck (.s 14))), (.op (some 20) none (.faddr (.s 19) 4)), (.op none none (.store (.s 20) (.s 18) 1))]
abbrev b_parse_reader_stmt_14 : AC := .run [(.op (some 21) none (.mv (.s 0))), (.op (some 22) none (.nilck (.s 21))), (.op (some 23) none (.faddr (.s 22) 4)), (.op (some 24) none (.load (.s 23) false 1)), (.op (some 25) none (.bin .gtr (.s 24) (.k (.int .i64 200)))), (.op (some 26) none (.mv (.s 25))), (.op (some 27) (some (26, false)) (.mv (.s 1))), (.op (some 28) (some (26, false)) (.bin .gtr (.s 27) (.k (.int .i64 12)))), (.op (some 29) none (.pick (.s 26) (.k (.bool true)) (.s 28)))]
abbrev b_parse_reader_stmt_17 : AC := .run [(.op (some 30) none (.mv (.s 0))), (.call (some 31) none n_parse_reader_bad [(.s 30), (.k (.int .i64 4))])]
abbrev b_parse_reader_stmt_19 : AC := .run [(.op (some 32) none (.build [(.int .i64 0), (.int .i64 0), (.slice .full 0 []), (.str []), (.str []), (.int .i64 0), (.int .i64 0), (.str []), (.slice .full 0 []), (.bool false), (.slice .full 0 []), (.slice .full 0 []), (.slice .full 0 [])] [])), (.op none none (.store (.s 4) (.s 32) 13))]
abbrev b_parse_reader_stmt_18 : AC := .seq b_parse_reader_stmt_19 .ret
abbrev b_parse_reader_stmt_16 : AC := .seq b_parse_reader_stmt_17 b_parse_reader_stmt_18
abbrev b_parse_reader_stmt_15 : AC := .cond (.s 29) b_parse_reader_stmt_16 .skip
abbrev b_parse_reader_stmt_13 : AC := .seq b_parse_reader_stmt_14 b_parse_reader_stmt_15
abbrev b_parse_reader_stmt_21 : AC := .run [(.op (some 33) none (.mv (.s 0))), (.call (some 34) none n_parse_reader_peek [(.s 33)]), (.op (some 5) none (.alloc [(.int .i64 0), (.str []), (.int .i64 0), (.int .i64 0)])), (.op none none (.store (.s 5) (.s 34) 4))]
abbrev b_parse_reader_stmt_24 : AC := .run [(.op (some 35) none (.faddr (.s 5) 0)), (.op (some 36) none (.load (.s 35) false 1)), (.op (some 37) none (.bin .eql (.s 36) (.k (.int .i64 1))))]
abbrev b_parse_reader_stmt_27 : AC := .run [(.op (some 38) none (.mv (.s 0))), (.call (some 39) none n_parse_reader_named [(.s 38)]), (.op none none (.store (.s 4) (.s 39) 13))]
abbrev b_parse_reader_stmt_26 : AC := .seq b_parse_reader_stmt_27 .ret
abbrev b_parse_reader_stmt_25 : AC := .cond (.s 37) b_parse_reader_stmt_26 .skip
abbrev b_parse_reader_stmt_23 : AC := .seq b_parse_reader_stmt_24 b_parse_reader_stmt_25
abbrev b_parse_reader_stmt_29 : AC := .run [(.op (some 40) none (.mv (.s 0))), (.op (some 41) none (.nilck (.s 40))), (.op (some 42) none (.faddr (.s 41) 1)), (.op (some 43) none (.load (.s 42) false 1)), (.op (some 44) none (.bin .add (.s 43) (.k (.int .i64 1)))), (.op (some 45) none (.nilck (.s 40))), (.op (some 46) none (.faddr (.s 45) 1)), (.op none none (.store (.s 46) (.s 44) 1))]
abbrev b_parse_reader_stmt_32 : AC := .run [(.op (some 47) none (.faddr (.s 5) 1)), (.op (some 48) none (.load (.s 47) false 1))]
abbrev b_parse_reader_stmt_35 : AC := .run [(.op (some 50) none (.bin .eql (.s 48) (.k (.str [105, 102])))), (.op (some 49) none (.mv (.s 50)))]
abbrev b_parse_reader_stmt_38 : AC := .run [(.op (some 51) none (.mv (.s 0))), (.op (some 52) none (.mv (.s 1))), (.call (some 53) none n_parse_reader_choice [(.s 51), (.s 52)]), (.op none none (.store (.s 4) (.s 53) 13))]
abbrev b_parse_reader_stmt_37 : AC := .seq b_parse_reader_stmt_38 .ret
abbrev b_parse_reader_stmt_40 : AC := .run [(.op (some 55) none (.bin .eql (.s 48) (.k (.str [119, 104, 105, 108, 101])))), (.op (some 54) none (.mv (.s 55)))]
abbrev b_parse_reader_stmt_43 : AC := .run [(.op (some 56) none (.mv (.s 0))), (.call (some 57) none n_parse_reader_head [(.s 56)]), (.op (some 58) none (.build [(.int .i64 0), (.int .i64 0), (.slice .full 0 []), (.str []), (.str []), (.int .i64 0), (.int .i64 0), (.str []), (.slice .full 0 []), (.bool false), (.slice .full 0 []), (.slice .full 0 []), (.slice .full 0 [])] [(1, (1, (.k (.int .i64 6)))), (5, (4, (.s 57)))])), (.op (some 6) none (.alloc [(.int .i64 0), (.int .i64 0), (.slice .full 0 []), (.str []), (.str []), (.int .i64 0), (.int .i64 0), (.str []), (.slice .full 0 []), (.bool false), (.slice .full 0 []), (.slice .full 0 []), (.slice .full 0 [])])), (.op none none (.store (.s 6) (.s 58) 13))]
abbrev b_parse_reader_stmt_45 : AC := .run [(.op (some 59) none (.mv (.s 0))), (.op (some 60) none (.mv (.s 1))), (.call (some 61) none n_parse_reader_block [(.s 59), (.s 60)]), (.op (some 62) none (.faddr (.s 6) 11)), (.op none none (.store (.s 62) (.s 61) 1))]
abbrev b_parse_reader_stmt_47 : AC := .run [(.op (some 63) none (.load (.s 6) true 13)), (.op none none (.store (.s 4) (.s 63) 13))]
abbrev b_parse_reader_stmt_46 : AC := .seq b_parse_reader_stmt_47 .ret
abbrev b_parse_reader_stmt_44 : AC := .seq b_parse_reader_stmt_45 b_parse_reader_stmt_46
abbrev b_parse_reader_stmt_42 : AC := .seq b_parse_reader_stmt_43 b_parse_reader_stmt_44
abbrev b_parse_reader_stmt_41 : AC := .cond (.s 54) b_parse_reader_stmt_42 .skip
abbrev b_parse_reader_stmt_39 : AC := .seq b_parse_reader_stmt_40 b_parse_reader_stmt_41
abbrev b_parse_reader_stmt_36 : AC := .cond (.s 49) b_parse_reader_stmt_37 b_parse_reader_stmt_39
abbrev b_parse_reader_stmt_34 : AC := .seq b_parse_reader_stmt_35 b_parse_reader_stmt_36
abbrev b_parse_reader_stmt_33 : AC := .block 0 b_parse_reader_stmt_34
abbrev b_parse_reader_stmt_31 : AC := .seq b_parse_reader_stmt_32 b_parse_reader_stmt_33
abbrev b_parse_reader_stmt_49 : AC := .run [(.op (some 64) none (.mv (.s 0))), (.op (some 65) none (.faddr (.s 5) 1)), (.op (some 66) none (.load (.s 65) false 1)), (.call (some 67) none n_parse_reader_plain [(.s 64), (.s 66)]), (.op (some 7) none (.alloc [(.int .i64 0), (.int .i64 0), (.slice .full 0 []), (.str []), (.str []), (.int .i64 0), (.int .i64 0), (.str []), (.slice .full 0 []), (.bool false), (.slice .full 0 []), (.slice .full 0 []), (.slice .full 0 [])])), (.op none none (.store (.s 7) (.s 67) 13))]
abbrev b_parse_reader_stmt_51 : AC := .run [(.op (some 68) none (.mv (.s 0))), (.call (some 69) none n_parse_reader_want [(.s 68), (.k (.str [59]))])]
abbrev b_parse_reader_stmt_53 : AC := .run [(.op (some 70) none (.load (.s 7) true 13)), (.op none none (.store (.s 4) (.s 70) 13))]
abbrev b_parse_reader_stmt_52 : AC := .seq b_parse_reader_stmt_53 .ret
abbrev b_parse_reader_stmt_50 : AC := .seq b_parse_reader_stmt_51 b_parse_reader_stmt_52
abbrev b_parse_reader_stmt_48 : AC := .seq b_parse_reader_stmt_49 b_parse_reader_stmt_50
abbrev b_parse_reader_stmt_30 : AC := .seq b_parse_reader_stmt_31 b_parse_reader_stmt_48
abbrev b_parse_reader_stmt_28 : AC := .seq b_parse_reader_stmt_29 b_parse_reader_stmt_30
abbrev b_parse_reader_stmt_22 : AC := .seq b_parse_reader_stmt_23 b_parse_reader_stmt_28
abbrev b_parse_reader_stmt_20 : AC := .seq b_parse_reader_stmt_21 b_parse_reader_stmt_22
abbrev b_parse_reader_stmt_12 : AC := .seq b_parse_reader_stmt_13 b_parse_reader_stmt_20
abbrev b_parse_reader_stmt_10 : AC := .seq b_parse_reader_stmt_11 b_parse_reader_stmt_12
abbrev b_parse_reader_stmt_2 : AC := .seq b_parse_reader_stmt_3 b_parse_reader_stmt_10
abbrev b_parse_reader_stmt_0 : AC := .seq b_parse_reader_stmt_1 b_parse_reader_stmt_2
abbrev b_parse_reader_begins_1 : AC := .run [(.op (some 2) none (.mv (.k (.bool false))))]
abbrev b_parse_reader_begins_3 : AC := .run [(.op (some 4) none (.mv (.s 0))), (.call (some 5) none n_parse_reader_peek [(.s 4)]), (.op (some 3) none (.alloc [(.int .i64 0), (.str []), (.int .i64 0), (.int .i64 0)])), (.op none none (.store (.s 3) (.s 5) 4))]
abbrev b_parse_reader_begins_6 : AC := .run [(.op (some 6) none (.faddr (.s 3) 0)), (.op (some 7) none (.load (.s 6) false 1)), (.op (some 8) none (.bin .eql (.s 7) (.k (.int .i64 1))))]
abbrev b_parse_reader_begins_9 : AC := .run [(.op (some 2) none (.mv (.k (.bool true))))]
abbrev b_parse_reader_begins_8 : AC := .seq b_parse_reader_begins_9 .ret
abbrev b_parse_reader_begins_7 : AC := .cond (.s 8) b_parse_reader_begins_8 .skip
abbrev b_parse_reader_begins_5 : AC := .seq b_parse_reader_begins_6 b_parse_reader_begins_7
abbrev b_parse_reader_begins_12 : AC := .run [(.op (some 9) none (.faddr (.s 3) 0)), (.op (some 10) none (.load (.s 9) false 1)), (.op (some 11) none (.bin .neq (.s 10) (.k (.int .i64 3))))]
abbrev b_parse_reader_begins_15 : AC := .run [(.op (some 2) none (.mv (.k (.bool false))))]
abbrev b_parse_reader_begins_14 : AC := .seq b_parse_reader_begins_15 .ret
abbrev b_parse_reader_begins_13 : AC := .cond (.s 11) b_parse_reader_begins_14 .skip
abbrev b_parse_reader_begins_11 : AC := .seq b_parse_reader_begins_12 b_parse_reader_begins_13
abbrev b_parse_reader_begins_18 : AC := .run [(.op (some 12) none (.faddr (.s 3) 1)), (.op (some 13) none (.load (.s 12) false 1))]
abbrev b_parse_reader_begins_22 : AC := .run [(.op (some 15) none (.bin .eql (.s 13) (.k (.str [105, 102])))), (.op (some 14) none (.mv (.s 15)))]
abbrev b_parse_reader_begins_25 : AC := .run [(.op (some 16) none (.bin .eql (.s 13) (.k (.str [119, 104, 105, 108, 101])))), (.op (some 14) none (.mv (.s 16)))]
abbrev b_parse_reader_begins_28 : AC := .run [(.op (some 17) none (.bin .eql (.s 13) (.k (.str [98, 114, 101, 97, 107])))), (.op (some 14) none (.mv (.s 17)))]
abbrev b_parse_reader_begins_31 : AC := .run [(.op (some 18) none (.bin .eql (.s 13) (.k (.str [99, 111, 110, 116, 105, 110, 117, 101])))), (.op (some 14) none (.mv (.s 18)))]
abbrev b_parse_reader_begins_34 : AC := .run [(.op (some 19) none (.bin .eql (.s 13) (.k (.str [114, 101, 116, 117, 114, 110])))), (.op (some 14) none (.mv (.s 19)))]
abbrev b_parse_reader_begins_37 : AC := .run [(.op (some 20) none (.bin .eql (.s 13) (.k (.str [103, 111, 116, 111])))), (.op (some 14) none (.mv (.s 20)))]
abbrev b_parse_reader_begins_40 : AC := .run [(.op (some 21) none (.bin .eql (.s 13) (.k (.str [114, 101, 97, 100])))), (.op (some 14) none (.mv (.s 21)))]
abbrev b_parse_reader_begins_42 : AC := .run [(.op (some 22) none (.bin .eql (.s 13) (.k (.str [112, 114, 105, 110, 116])))), (.op (some 14) none (.mv (.s 22)))]
abbrev b_parse_reader_begins_41 : AC := .cond (.s 14) .skip b_parse_reader_begins_42
abbrev b_parse_reader_begins_39 : AC := .seq b_parse_reader_begins_40 b_parse_reader_begins_41
abbrev b_parse_reader_begins_38 : AC := .cond (.s 14) .skip b_parse_reader_begins_39
abbrev b_parse_reader_begins_36 : AC := .seq b_parse_reader_begins_37 b_parse_reader_begins_38
abbrev b_parse_reader_begins_35 : AC := .cond (.s 14) .skip b_parse_reader_begins_36
abbrev b_parse_reader_begins_33 : AC := .seq b_parse_reader_begins_34 b_parse_reader_begins_35
abbrev b_parse_reader_begins_32 : AC := .cond (.s 14) .skip b_parse_reader_begins_33
abbrev b_parse_reader_begins_30 : AC := .seq b_parse_reader_begins_31 b_parse_reader_begins_32
abbrev b_parse_reader_begins_29 : AC := .cond (.s 14) .skip b_parse_reader_begins_30
abbrev b_parse_reader_begins_27 : AC := .seq b_parse_reader_begins_28 b_parse_reader_begins_29
abbrev b_parse_reader_begins_26 : AC := .cond (.s 14) .skip b_parse_reader_begins_27
abbrev b_parse_reader_begins_24 : AC := .seq b_parse_reader_begins_25 b_parse_reader_begins_26
abbrev b_parse_reader_begins_23 : AC := .cond (.s 14) .skip b_parse_reader_begins_24
abbrev b_parse_reader_begins_21 : AC := .seq b_parse_reader_begins_22 b_parse_reader_begins_23
abbrev b_parse_reader_begins_45 : AC := .run [(.op (some 2) none (.mv (.k (.bool true))))]
abbrev b_parse_reader_begins_44 : AC := .seq b_parse_reader_begins_45 .ret
abbrev b_parse_reader_begins_43 : AC := .cond (.s 14) b_parse_reader_begins_44 .skip
abbrev b_parse_reader_begins_20 : AC := .seq b_parse_reader_begins_21 b_parse_reader_begins_43
abbrev b_parse_reader_begins_19 : AC := .block 0 b_parse_reader_begins_20
abbrev b_parse_reader_begins_17 : AC := .seq b_parse_reader_begins_18 b_parse_reader_begins_19
abbrev b_parse_reader_begins_47 : AC := .run [(.op (some 2) none (.mv (.k (.bool false))))]
abbrev b_parse_reader_begins_46 : AC := .seq b_parse_reader_begins_47 .ret
abbrev b_parse_reader_begins_16 : AC := .seq b_parse_reader_begins_17 b_parse_reader_begins_46
abbrev b_parse_reader_begins_10 : AC := .seq b_parse_reader_begins_11 b_parse_reader_begins_16
abbrev b_parse_reader_begins_4 : AC := .seq b_parse_reader_begins_5 b_parse_reader_begins_10
abbrev b_parse_reader_begins_2 : AC := .seq b_parse_reader_begins_3 b_parse_reader_begins_4
abbrev b_parse_reader_begins_0 : AC := .seq b_parse_reader_begins_1 b_parse_reader_begins_2
abbrev b_parse_reader_named_1 : AC := .run [(.op (some 2) none (.alloc [(.int .i64 0), (.int .i64 0), (.slice .full 0 []), (.str []), (.str []), (.int .i64 0), (.int .i64 0), (.str []), (.slice .full 0 []), (.bool false), (.slice .full 0 []), (.slice .full 0 []), (.slice .full 0 [])]))]
abbrev b_parse_reader_named_3 : AC := .run [(.op (some 5) none (.mv (.s 0))), (.call (some 6) none n_parse_reader_name [(.s 5), (.k (.bool true))]), (.op (some 3) none (.mv (.s 6)))]
abbrev b_parse_reader_named_6 : AC := .run [(.op (some 7) none (.mv (.s 0))), (.call (some 8) none n_parse_reader_is [(.s 7), (.k (.str [40]))])]
abbrev b_parse_reader_named_9 : AC := .run [(.op (some 9) none (.mv (.s 0))), (.op (some 10) none (.mv (.s 3))), (.call (some 11) none n_parse_reader_call [(.s 9), (.k (.str [])), (.s 10)]), (.op none none (.store (.s 2) (.s 11) 13))]
abbrev b_parse_reader_named_8 : AC := .seq b_parse_reader_named_9 .ret
abbrev b_parse_reader_named_7 : AC := .cond (.s 8) b_parse_reader_named_8 .skip
abbrev b_parse_reader_named_5 : AC := .seq b_parse_reader_named_6 b_parse_reader_named_7
abbrev b_parse_reader_named_11 : AC := .run [(.op (some 12) none (.mv (.s 0))), (.call (some 13) none n_parse_reader_want [(.s 12), (.k (.str [61]))])]
abbrev b_parse_reader_named_14 : AC := .par [(.op (some 14) none (.mv (.s 0))), (.call (some 15) none n_parse_reader_good [(.s 14)]), (.op (some 16) none (.mv (.s 15))), (.op (some 17) (some (16, true)) (.mv (.s 0))), (.call (some 18) (some (16, true)) n_parse_reader_peek [(.s 17)]), (.op (some 19) (some (16, true)) (.fld (.s 18) 0 false 1)), (.op (some 20) (some (16, true)) (.bin .eql (.s 19) (.k (.int .i64 1)))), (.op (some 21) none (.pick (.s 16) (.s 20) (.k (.bool false)))), (.op (some 22) none (.mv (.s 21))), (.op (some 23) (some (22, true)) (.mv (.s 0))), (.op (some 24) (some (22, true)) (.nilck (.s 23))), (.op (some 25) (some (22, true)) (.faddr (.s 24) 0)), (.op (some 26) (some (22, true)) (.load (.s 25) false 1)), (.op (some 27) (some (22, true)) (.mv (.s 0))), (.op (some 28) (some (22, true)) (.nilck (.s 27))), (.op (some 29) (some (22, true)) (.faddr (.s 28) 1)), (.op (some 30) (some (22, true)) (.load (.s 29) false 1)), (.op (some 31) (some (22, true)) (.bin .add (.s 30) (.k (.int .i64 1)))), (.op (some 32) (some (22, true)) (.iaddr (.s 26) (.s 31) 4)), (.op (some 33) (some (22, true)) (.faddr (.s 32) 0)), (.op (some 34) (some (22, true)) (.load (.s 33) false 1)), (.op (some 35) (some (22, true)) (.bin .eql (.s 34) (.k (.int .i64 4)))), (.op (some 36) none (.pick (.s 22) (.s 35) (.k (.bool false)))), (.op (some 37) none (.mv (.s 36))), (.op (some 38) (some (37, true)) (.mv (.s 0))), (.op (some 39) (some (37, true)) (.nilck (.s 38))), (.op (some 40) (some (37, true)) (.faddr (.s 39) 0)), (.op (some 41) (some (37, true)) (.load (.s 40) false 1)), (.op (some 42) (some (37, true)) (.mv (.s 0))), (.op (some 43) (some (37, true)) (.nilck (.s 42))), (.op (some 44) (some (37, true)) (.faddr (.s 43) 1)), (.op (some 45) (some (37, true)) (.load (.s 44) false 1)), (.op (some 46) (some (37, true)) (.bin .add (.s 45) (.k (.int .i64 1)))), (.op (some 47) (some (37, true)) (.iaddr (.s 41) (.s 46) 4)), (.op (some 48) (some (37, true)) (.faddr (.s 47) 1)), (.op (some 49) (some (37, true)) (.load (.s 48) false 1)), (.op (some 50) (some (37, true)) (.bin .eql (.s 49) (.k (.str [40])))), (.op (some 51) none (.pick (.s 37) (.s 50) (.k (.bool false))))] [(0, 0), (1, 0), (2, 0), (3, 0), (4, 0), (5, 0), (6, 0), (7, 0), (8, 0), (9, 0), (10, 0), (11, 0), (12, 0), (13, 0), (14, 0), (15, 0), (16, 0), (17, 0), (18, 0), (19, 0), (20, 0), (21, 0), (22, 0), (23, 0), (24, 0), (25, 0), (26, 0), (27, 0), (28, 0), (29, 0), (30, 0), (31, 0), (32, 0), (33, 0), (34, 0), (35, 0), (36, 0), (37, 0)]
abbrev b_parse_reader_named_17 : AC := .run [(.op (some 52) none (.mv (.s 0))), (.op (some 53) none (.mv (.s 3))), (.op (some 54) none (.mv (.s 0))), (.call (some 55) none n_parse_reader_name [(.s 54), (.k (.bool true))]), (.call (some 56) none n_parse_reader_call [(.s 52), (.s 53), (.s 55)]), (.op none none (.store (.s 2) (.s 56) 13))]
abbrev b_parse_reader_named_16 : AC := .seq b_parse_reader_named_17 .ret
abbrev b_parse_reader_named_15 : AC := .cond (.s 51) b_parse_reader_named_16 .skip
abbrev b_parse_reader_named_13 : AC := .seq b_parse_reader_named_14 b_parse_reader_named_15
abbrev b_parse_reader_named_19 : AC := .run [(.op (some 57) none (.mv (.s 3))), (.op (some 58) none (.mv (.s 0))), (.call (some 59) none n_parse_reader_whole [(.s 58)]), (.op (some 60) none (.build [(.int .i64 0), (.int .i64 0), (.slice .full 0 []), (.str []), (.str []), (.int .i64 0), (.int .i64 0), (.str []), (.slice .full 0 []), (.bool false), (.slice .full 0 []), (.slice .full 0 []), (.slice .full 0 [])] [(1, (1, (.k (.int .i64 1)))), (3, (1, (.s 57))), (5, (4, (.s 59)))])), (.op (some 4) none (.alloc [(.int .i64 0), (.int .i64 0), (.slice .full 0 []), (.str []), (.str []), (.int .i64 0), (.int .i64 0), (.str []), (.slice .full 0 []), (.bool false), (.slice .full 0 []), (.slice .full 0 []), (.slice .full 0 [])])), (.op none none (.store (.s 4) (.s 60) 13))]
abbrev b_parse_reader_named_21 : AC := .run [(.op (some 61) none (.mv (.s 0))), (.call (some 62) none n_parse_reader_want [(.s 61), (.k (.str [59]))])]
abbrev b_parse_reader_named_23 : AC := .run [(.op (some 63) none (.load (.s 4) true 13)), (.op none none (.store (.s 2) (.s 63) 13))]
abbrev b_parse_reader_named_22 : AC := .seq b_parse_reader_named_23 .ret
abbrev b_parse_reader_named_20 : AC := .seq b_parse_reader_named_21 b_parse_reader_named_22
abbrev b_parse_reader_named_18 : AC := .seq b_parse_reader_named_19 b_parse_reader_named_20
abbrev b_parse_reader_named_12 : AC := .seq b_parse_reader_named_13 b_parse_reader_named_18
abbrev b_parse_reader_named_10 : AC := .seq b_parse_reader_named_11 b_parse_reader_named_12
abbrev b_parse_reader_named_4 : AC := .seq b_parse_reader_named_5 b_parse_reader_named_10
abbrev b_parse_reader_named_2 : AC := .seq b_parse_reader_named_3 b_parse_reader_named_4
abbrev b_parse_reader_named_0 : AC := .seq b_parse_reader_named_1 b_parse_reader_named_2
abbrev b_parse_reader_choice_1 : AC := .run [(.op (some 4) none (.alloc [(.int .i64 0), (.int .i64 0), (.slice .full 0 []), (.str []), (.str []), (.int .i64 0), (.int .i64 0), (.str []), (.slice .full 0 []), (.bool false), (.slice .full 0 []), (.slice .full 0 []), (.slice .full 0 [])]))]
abbrev b_parse_reader_choice_3 : AC := .run [(.op (some 6) none (.mv (.s 0))), (.call (some 7) none n_parse_reader_head [(.s 6)]), (.op (some 8) none (.build [(.int .i64 0), (.int .i64 0), (.slice .full 0 []), (.str []), (.str []), (.int .i64 0), (.int .i64 0), (.str []), (.slice .full 0 []), (.bool false), (.slice .full 0 []), (.slice .full 0 []), (.slice .full 0 [])] [(1, (1, (.k (.int .i64 5)))), (5, (4, (.s 7)))])), (.op (some 5) none (.alloc [(.int .i64 0), (.int .i64 0), (.slice .full 0 []), (.str []), (.str []), (.int .i64 0), (.int .i64 0), (.str []), (.slice .full 0 []), (.bool false), (.slice .full 0 []), (.slice .full 0 []), (.slice .full 0 [])])), (.op none none (.store (.s 5) (.s 8) 13))]
abbrev b_parse_reader_choice_5 : AC := .run [(.op (some 9) none (.mv (.s 0))), (.op (some 10) none (.mv (.s 1))), (.call (some 11) none n_parse_reader_block [(.s 9), (.s 10)]), (.op (some 12) none (.faddr (.s 5) 11)), (.op none none (.store (.s 12) (.s 11) 1))]
abbrev b_parse_reader_choice_8 : AC := .run [(.op (some 13) none (.mv (.s 0))), (.call (some 14) none n_parse_reader_take [(.s 13), (.k (.str [101, 108, 115, 101]))])]
abbrev b_parse_reader_choice_10 : AC := .run [(.op (some 15) none (.mv (.s 0))), (.op (some 16) none (.mv (.s 1))), (.call (some 17) none n_parse_reader_block [(.s 15), (.s 16)]), (.op (some 18) none (.faddr (.s 5) 12)), (.op none none (.store (.s 18) (.s 17) 1))]
abbrev b_parse_reader_choice_9 : AC := .cond (.s 14) b_parse_reader_choice_10 .skip
abbrev b_parse_reader_choice_7 : AC := .seq b_parse_reader_choice_8 b_parse_reader_choice_9
abbrev b_parse_reader_choice_12 : AC := .run [(.op (some 19) none (.load (.s 5) true 13)), (.op none none (.store (.s 4) (.s 19) 13))]
abbrev b_parse_reader_choice_11 : AC := .seq b_parse_reader_choice_12 .ret
abbrev b_parse_reader_choice_6 : AC := .seq b_parse_reader_choice_7 b_parse_reader_choice_11
abbrev b_parse_reader_choice_4 : AC := .seq b_parse_reader_choice_5 b_parse_reader_choice_6
abbrev b_parse_reader_choice_2 : AC := .seq b_parse_reader_choice_3 b_parse_reader_choice_4
abbrev b_parse_reader_choice_0 : AC := .seq b_parse_reader_choice_1 b_parse_reader_choice_2
abbrev b_parse_reader_head_1 : AC := .run [(.op (some 2) none (.alloc [(.int .i64 0), (.int .i64 0), (.str []), (.slice .full 0 [])]))]
abbrev b_parse_reader_head_3 : AC := .run [(.op (some 4) none (.mv (.s 0))), (.call (some 5) none n_parse_reader_want [(.s 4), (.k (.str [40]))])]
abbrev b_parse_reader_head_5 : AC := .run [(.op (some 6) none (.mv (.s 0))), (.call (some 7) none n_parse_reader_whole [(.s 6)]), (.op (some 3) none (.alloc [(.int .i64 0), (.int .i64 0), (.str []), (.slice .full 0 [])])), (.op none none (.store (.s 3) (.s 7) 4))]
abbrev b_parse_reader_head_7 : AC := .run [(.op (some 8) none (.mv (.s 0))), (.call (some 9) none n_parse_reader_want [(.s 8), (.k (.str [41]))])]
abbrev b_parse_reader_head_9 : AC := .run [(.op (some 10) none (.load (.s 3) true 4)), (.op none none (.store (.s 2) (.s 10) 4))]
abbrev b_parse_reader_head_8 : AC := .seq b_parse_reader_head_9 .ret
abbrev b_parse_reader_head_6 : AC := .seq b_parse_reader_head_7 b_parse_reader_head_8
abbrev b_parse_reader_head_4 : AC := .seq b_parse_reader_head_5 b_parse_reader_head_6
abbrev b_parse_reader_head_2 : AC := .seq b_parse_reader_head_3 b_parse_reader_head_4
abbrev b_parse_reader_head_0 : AC := .seq b_parse_reader_head_1 b_parse_reader_head_2
abbrev b_parse_reader_block_1 : AC := .run [(.op (some 4) none (.mv (.k (.slice .full 0 []))))]
abbrev b_parse_reader_block_3 : AC := .run [(.op (some 7) none (.mv (.s 0))), (.call (some 8) none n_parse_reader_want [(.s 7), (.k (.str [123]))])]
abbrev b_parse_reader_block_5 : AC := .run [(.op (some 10) none (.mv (.s 0))), (.op (some 11) none (.mv (.s 1))), (.op (some 12) none (.bin .add (.s 11) (.k (.int .i64 1)))), (.call (some 13) none n_parse_reader_rows [(.s 10), (.s 12), (.k (.bool false))]), (.op (some 9) none (.mv (.s 13))), (.op (some 14) none (.ext (.s 9) 0)), (.op (some 15) none (.ext (.s 9) 1)), (.op (some 5) none (.mv (.s 14))), (.op (some 6) none (.mv (.s 15)))]
abbrev b_parse_reader_block_7 : AC := .run [(.op (some 16) none (.mv (.s 5))), (.op (some 4) none (.mv (.s 16)))]
abbrev b_parse_reader_block_6 : AC := .seq b_parse_reader_block_7 .ret
abbrev b_parse_reader_block_4 : AC := .seq b_parse_reader_block_5 b_parse_reader_block_6
abbrev b_parse_reader_block_2 : AC := .seq b_parse_reader_block_3 b_parse_reader_block_4
abbrev b_parse_reader_block_0 : AC := .seq b_parse_reader_block_1 b_parse_reader_block_2
abbrev b_parse_reader_plain_1 : AC := .run [(.op (some 4) none (.alloc [(.int .i64 0), (.int .i64 0), (.slice .full 0 []), (.str []), (.str []), (.int .i64 0), (.int .i64 0), (.str []), (.slice .full 0 []), (.bool false), (.slice .full 0 []), (.slice .full 0 []), (.slice .full 0 [])]))]
abbrev b_parse_reader_plain_3 : AC := .run [(.op (some 5) none (.alloc [(.int .i64 0), (.int .i64 0), (.slice .full 0 []), (.str []), (.str []), (.int .i64 0), (.int .i64 0), (.str []), (.slice .full 0 []), (.bool false), (.slice .full 0 []), (.slice .full 0 []), (.slice .full 0 [])]))]
abbrev b_parse_reader_plain_6 : AC := .run [(.op (some 6) none (.mv (.s 1)))]
abbrev b_parse_reader_plain_9 : AC := .run [(.op (some 8) none (.bin .eql (.s 6) (.k (.str [98, 114, 101, 97, 107])))), (.op (some 7) none (.mv (.s 8)))]
abbrev b_parse_reader_plain_11 : AC := .run [(.op (some 9) none (.faddr (.s 5) 1)), (.op none none (.store (.s 9) (.k (.int .i64 7)) 1))]
abbrev b_parse_reader_plain_13 : AC := .run [(.op (some 11) none (.bin .eql (.s 6) (.k (.str [99, 111, 110, 116, 105, 110, 117, 101])))), (.op (some 10) none (.mv (.s 11)))]
abbrev b_parse_reader_plain_15 : AC := .run [(.op (some 12) none (.faddr (.s 5) 1)), (.op none none (.store (.s 12) (.k (.int .i64 8)) 1))]
abbrev b_parse_reader_plain_17 : AC := .run [(.op (some 14) none (.bin .eql (.s 6) (.k (.str [114, 101, 116, 117, 114, 110])))), (.op (some 13) none (.mv (.s 14)))]
abbrev b_parse_reader_plain_20 : AC := .run [(.op (some 15) none (.faddr (.s 5) 1)), (.op none none (.store (.s 15) (.k (.int .i64 9)) 1))]
abbrev b_parse_reader_plain_22 : AC := .run [(.op (some 16) none (.mv (.s 0))), (.call (some 17) none n_parse_reader_is [(.s 16), (.k (.str [59]))]), (.op (some 18) none (.un .not (.s 17)))]
abbrev b_parse_reader_plain_24 : AC := .run [(.op (some 19) none (.mv (.s 0))), (.call (some 20) none n_parse_reader_whole [(.s 19)]), (.op (some 21) none (.faddr (.s 5) 9)), (.op none none (.store (.s 21) (.k (.bool true)) 1)), (.op (some 22) none (.faddr (.s 5) 5)), (.op none none (.store (.s 22) (.s 20) 4))]
abbrev b_parse_reader_plain_23 : AC := .cond (.s 18) b_parse_reader_plain_24 .skip
abbrev b_parse_reader_plain_21 : AC := .seq b_parse_reader_plain_22 b_parse_reader_plain_23
abbrev b_parse_reader_plain_19 : AC := .seq b_parse_reader_plain_20 b_parse_reader_plain_21
abbrev b_parse_reader_plain_26 : AC := .run [(.op (some 24) none (.bin .eql (.s 6) (.k (.str [103, 111, 116, 111])))), (.op (some 23) none (.mv (.s 24)))]
abbrev b_parse_reader_plain_28 : AC := .run [(.op (some 25) none (.mv (.s 0))), (.call (some 26) none n_parse_reader_name [(.s 25), (.k (.bool true))]), (.op (some 27) none (.faddr (.s 5) 1)), (.op none none (.store (.s 27) (.k (.int .i64 10)) 1)), (.op (some 28) none (.faddr (.s 5) 3)), (.op none none (.store (.s 28) (.s 26) 1))]
abbrev b_parse_reader_plain_30 : AC := .run [(.op (some 30) none (.bin .eql (.s 6) (.k (.str [114, 101, 97, 100])))), (.op (some 29) none (.mv (.s 30)))]
abbrev b_parse_reader_plain_32 : AC := .run [(.op (some 31) none (.mv (.s 0))), (.call (some 32) none n_parse_reader_name [(.s 31), (.k (.bool true))]), (.op (some 33) none (.faddr (.s 5) 1)), (.op none none (.store (.s 33) (.k (.int .i64 2)) 1)), (.op (some 34) none (.faddr (.s 5) 3)), (.op none none (.store (.s 34) (.s 32) 1))]
abbrev b_parse_reader_plain_34 : AC := .run [(.op (some 36) none (.bin .eql (.s 6) (.k (.str [112, 114, 105, 110, 116])))), (.op (some 35) none (.mv (.s 36)))]
abbrev b_parse_reader_plain_36 : AC := .run [(.op (some 37) none (.mv (.s 0))), (.call (some 38) none n_parse_reader_whole [(.s 37)]), (.op (some 39) none (.faddr (.s 5) 1)), (.op none none (.store (.s 39) (.k (.int .i64 3)) 1)), (.op (some 40) none (.faddr (.s 5) 5)), (.op none none (.store (.s 40) (.s 38) 4))]
abbrev b_parse_reader_plain_35 : AC := .cond (.s 35) b_parse_reader_plain_36 .skip
abbrev b_parse_reader_plain_33 : AC := .seq b_parse_reader_plain_34 b_parse_reader_plain_35
abbrev b_parse_reader_plain_31 : AC := .cond (.s 29) b_parse_reader_plain_32 b_parse_reader_plain_33
abbrev b_parse_reader_plain_29 : AC := .seq b_parse_reader_plain_30 b_parse_reader_plain_31
abbrev b_parse_reader_plain_27 : AC := .cond (.s 23) b_parse_reader_plain_28 b_parse_reader_plain_29
abbrev b_parse_reader_plain_25 : AC := .seq b_parse_reader_plain_26 b_parse_reader_plain_27
abbrev b_parse_reader_plain_18 : AC := .cond (.s 13) b_parse_reader_plain_19 b_parse_reader_plain_25
abbrev b_parse_reader_plain_16 : AC := .seq b_parse_reader_plain_17 b_parse_reader_plain_18
abbrev b_parse_reader_plain_14 : AC := .cond (.s 10) b_parse_reader_plain_15 b_parse_reader_plain_16
abbrev b_parse_reader_plain_12 : AC := .seq b_parse_reader_plain_13 b_parse_reader_plain_14
abbrev b_parse_reader_plain_10 : AC := .cond (.s 7) b_parse_reader_plain_11 b_parse_reader_plain_12
abbrev b_parse_reader_plain_8 : AC := .seq b_parse_reader_plain_9 b_parse_reader_plain_10
abbrev b_parse_reader_plain_7 : AC := .block 0 b_parse_reader_plain_8
abbrev b_parse_reader_plain_5 : AC := .seq b_parse_reader_plain_6 b_parse_reader_plain_7
abbrev b_parse_reader_plain_38 : AC := .run [(.op (some 41) none (.load (.s 5) true 13)), (.op none none (.store (.s 4) (.s 41) 13))]
abbrev b_parse_reader_plain_37 : AC := .seq b_parse_reader_plain_38 .ret
abbrev b_parse_reader_plain_4 : AC := .seq b_parse_reader_plain_5 b_parse_reader_plain_37
abbrev b_parse_reader_plain_2 : AC := .seq b_parse_reader_plain_3 b_parse_reader_plain_4
abbrev b_parse_reader_plain_0 : AC := .seq b_parse_reader_plain_1 b_parse_reader_plain_2
abbrev b_parse_reader_call_1 : AC := .run [(.op (some 6) none (.alloc [(.int .i64 0), (.int .i64 0), (.slice .full 0 []), (.str []), (.str []), (.int .i64 0), (.int .i64 0), (.str []), (.slice .full 0 []), (.bool false), (.slice .full 0 []), (.slice .full 0 []), (.slice .full 0 [])]))]
abbrev b_parse_reader_call_3 : AC := .run [(.op (some 8) none (.mv (.s 1))), (.op (some 9) none (.mv (.s 2))), (.op (some 10) none (.build [(.int .i64 0), (.int .i64 0), (.slice .full 0 []), (.str []), (.str []), (.int .i64 0), (.int .i64 0), (.str []), (.slice .full 0 []), (.bool false), (.slice .full 0 []), (.slice .full 0 []), (.slice .full 0 [])] [(1, (1, (.k (.int .i64 4)))), (3, (1, (.s 8))), (4, (1, (.s 9)))])), (.op (some 7) none (.alloc [(.int .i64 0), (.int .i64 0), (.slice .full 0 []), (.str []), (.str []), (.int .i64 0), (.int .i64 0), (.str []), (.slice .full 0 []), (.bool false), (.slice .full 0 []), (.slice .full 0 []), (.slice .full 0 [])])), (.op none none (.store (.s 7) (.s 10) 13))]
abbrev b_parse_reader_call_5 : AC := .run [(.op (some 11) none (.mv (.s 0))), (.call (some 12) none n_parse_reader_want [(.s 11), (.k (.str [40]))])]
abbrev b_parse_reader_call_8 : AC := .run [(.op (some 13) none (.mv (.s 0))), (.call (some 14) none n_parse_reader_good [(.s 13)]), (.op (some 15) none (.mv (.s 14))), (.op (some 16) (some (15, true)) (.mv (.s 0))), (.call (some 17) (some (15, true)) n_parse_reader_is [(.s 16), (.k (.str [41]))]), (.op (some 18) (some (15, true)) (.un .not (.s 17))), (.op (some 19) none (.pick (.s 15) (.s 18) (.k (.bool false))))]
abbrev b_parse_reader_call_14 : AC := .run [(.op (some 20) none (.mv (.s 0))), (.call (some 21) none n_parse_reader_good [(.s 20)])]
abbrev b_parse_reader_call_15 : AC := .cond (.s 21) .skip (.exit 0)
abbrev b_parse_reader_call_13 : AC := .seq b_parse_reader_call_14 b_parse_reader_call_15
abbrev b_parse_reader_call_19 : AC := .run [(.op (some 22) none (.mv (.s 0))), (.call (some 23) none n_parse_reader_take [(.s 22), (.k (.str [114, 101, 102]))])]
abbrev b_parse_reader_call_21 : AC := .par [(.op (some 24) none (.faddr (.s 7) 10)), (.op (some 25) none (.load (.s 24) false 1)), (.op (some 26) none (.mv (.s 0))), (.call (some 27) none n_parse_reader_name [(.s 26), (.k (.bool true))]), (.op (some 28) none (.build [(.bool false), (.str []), (.int .i64 0), (.int .i64 0), (.str []), (.slice .full 0 [])] [(0, (1, (.k (.bool true)))), (1, (1, (.s 27)))])), (.op (some 29) none (.bslice [(.bool false), (.str []), (.int .i64 0), (.int .i64 0), (.str []), (.slice .full 0 [])] 6 1 [(0, (.s 28))])), (.op (some 30) none (.app 6 80 (.s 25) (.s 29))), (.op (some 31) none (.faddr (.s 7) 10)), (.op none none (.store (.s 31) (.s 30) 1))] [(2, 0), (3, 0), (0, 0), (1, 1), (4, 0), (5, 0), (6, 0), (7, 0), (8, 0)]
abbrev b_parse_reader_call_22 : AC := .par [(.op (some 32) none (.faddr (.s 7) 10)), (.op (some 33) none (.load (.s 32) false 1)), (.op (some 34) none (.mv (.s 0))), (.call (some 35) none n_parse_reader_whole [(.s 34)]), (.op (some 36) none (.build [(.bool false), (.str []), (.int .i64 0), (.int .i64 0), (.str []), (.slice .full 0 [])] [(2, (4, (.s 35)))])), (.op (some 37) none (.bslice [(.bool false), (.str []), (.int .i64 0), (.int .i64 0), (.str []), (.slice .full 0 [])] 6 1 [(0, (.s 36))])), (.op (some 38) none (.app 6 80 (.s 33) (.s 37))), (.op (some 39) none (.faddr (.s 7) 10)), (.op none none (.store (.s 39) (.s 38) 1))] [(2, 0), (3, 0), (0, 0), (1, 1), (4, 0), (5, 0), (6, 0), (7, 0), (8, 0)]
abbrev b_parse_reader_call_20 : AC := .cond (.s 23) b_parse_reader_call_21 b_parse_reader_call_22
abbrev b_parse_reader_call_18 : AC := .seq b_parse_reader_call_19 b_parse_reader_call_20
abbrev b_parse_reader_call_24 : AC := .run [(.op (some 40) none (.mv (.s 0))), (.call (some 41) none n_parse_reader_take [(.s 40), (.k (.str [44]))]), (.op (some 42) none (.un .not (.s 41)))]
abbrev b_parse_reader_call_25 : AC := .cond (.s 42) (.exit 0) .skip
abbrev b_parse_reader_call_23 : AC := .seq b_parse_reader_call_24 b_parse_reader_call_25
abbrev b_parse_reader_call_17 : AC := .seq b_parse_reader_call_18 b_parse_reader_call_23
abbrev b_parse_reader_call_16 : AC := .block 1 b_parse_reader_call_17
abbrev b_parse_reader_call_12 : AC := .seq b_parse_reader_call_13 b_parse_reader_call_16
abbrev b_parse_reader_call_11 : AC := .loop b_parse_reader_call_12
abbrev b_parse_reader_call_10 : AC := .block 0 b_parse_reader_call_11
abbrev b_parse_reader_call_9 : AC := .cond (.s 19) b_parse_reader_call_10 .skip
abbrev b_parse_reader_call_7 : AC := .seq b_parse_reader_call_8 b_parse_reader_call_9
abbrev b_parse_reader_call_27 : AC := .run [(.op (some 43) none (.mv (.s 0))), (.call (some 44) none n_parse_reader_want [(.s 43), (.k (.str [41]))])]
abbrev b_parse_reader_call_29 : AC := .run [(.op (some 45) none (.mv (.s 0))), (.call (some 46) none n_parse_reader_want [(.s 45), (.k (.str [59]))])]
abbrev b_parse_reader_call_31 : AC := .run [(.op (some 47) none (.load (.s 7) true 13)), (.op none none (.store (.s 6) (.s 47) 13))]
abbrev b_parse_reader_call_30 : AC := .seq b_parse_reader_call_31 .ret
abbrev b_parse_reader_call_28 : AC := .seq b_parse_reader_call_29 b_parse_reader_call_30
abbrev b_parse_reader_call_26 : AC := .seq b_parse_reader_call_27 b_parse_reader_call_28
abbrev b_parse_reader_call_6 : AC := .seq b_parse_reader_call_7 b_parse_reader_call_26
abbrev b_parse_reader_call_4 : AC := .seq b_parse_reader_call_5 b_parse_reader_call_6
abbrev b_parse_reader_call_2 : AC := .seq b_parse_reader_call_3 b_parse_reader_call_4
abbrev b_parse_reader_call_0 : AC := .seq b_parse_reader_call_1 b_parse_reader_call_2

end Go.Abs

/-! Have3 -/

namespace Go.Abs
open Go.Proofs

theorem has_ref1_small : Has Try.prog n_ref1_small 9 [(2, none)] b_ref1_small_0 := ⟨Try.f90, by kernel_rfl, by kernel_rfl⟩
theorem has_ref1_digit : Has Try.prog n_ref1_digit 9 [(2, none)] b_ref1_digit_0 := ⟨Try.f91, by kernel_rfl, by kernel_rfl⟩
theorem has_ref1_Word : Has Try.prog n_ref1_Word 15 [(2, none)] b_ref1_Word_0 := ⟨Try.f92, by kernel_rfl, by kernel_rfl⟩
theorem has_parse_reader_name : Has Try.prog n_parse_reader_name 31 [(4, none)] b_parse_reader_name_0 := ⟨Try.f100, by kernel_rfl, by kernel_rfl⟩
theorem has_parse_reader_want : Has Try.prog n_parse_reader_want 10 [] b_parse_reader_want_0 := ⟨Try.f101, by kernel_rfl, by kernel_rfl⟩
theorem has_parse_reader_rows : Has Try.prog n_parse_reader_rows 43 [(6, none), (7, none)] b_parse_reader_rows_0 := ⟨Try.f102, by kernel_rfl, by kernel_rfl⟩
theorem has_tree_expr : Has Try.prog n_tree_expr 24 [(2, (some (true, 4)))] b_tree_expr_0 := ⟨Try.f103, by kernel_rfl, by kernel_rfl⟩
theorem has_ref1_from : Has Try.prog n_ref1_from 28 [(4, none)] b_ref1_from_0 := ⟨Try.f104, by kernel_rfl, by kernel_rfl⟩
theorem has_ref1_Worth : Has Try.prog n_ref1_Worth 27 [(2, none), (3, none)] b_ref1_Worth_0 := ⟨Try.f105, by kernel_rfl, by kernel_rfl⟩
theorem has_ref1_sign : Has Try.prog n_ref1_sign 35 [(2, none)] b_ref1_sign_0 := ⟨Try.f106, by kernel_rfl, by kernel_rfl⟩
theorem has_parse_reader_one : Has Try.prog n_parse_reader_one 64 [(2, (some (true, 4)))] b_parse_reader_one_0 := ⟨Try.f108, by kernel_rfl, by kernel_rfl⟩
theorem has_parse_op : Has Try.prog n_parse_op 35 [(2, none), (3, none)] b_parse_op_0 := ⟨Try.f109, by kernel_rfl, by kernel_rfl⟩
theorem has_ref1_Words : Has Try.prog n_ref1_Words 2 [(0, none)] b_ref1_Words_0 := ⟨Try.f110, by kernel_rfl, by kernel_rfl⟩
theorem has_parse_reader_labels : Has Try.prog n_parse_reader_labels 56 [(2, none)] b_parse_reader_labels_0 := ⟨Try.f112, by kernel_rfl, by kernel_rfl⟩
theorem has_parse_reader_stmt : Has Try.prog n_parse_reader_stmt 71 [(4, (some (true, 13)))] b_parse_reader_stmt_0 := ⟨Try.f113, by kernel_rfl, by kernel_rfl⟩
theorem has_parse_reader_begins : Has Try.prog n_parse_reader_begins 23 [(2, none)] b_parse_reader_begins_0 := ⟨Try.f116, by kernel_rfl, by kernel_rfl⟩
theorem has_parse_reader_named : Has Try.prog n_parse_reader_named 64 [(2, (some (true, 13)))] b_parse_reader_named_0 := ⟨Try.f117, by kernel_rfl, by kernel_rfl⟩
theorem has_parse_reader_choice : Has Try.prog n_parse_reader_choice 20 [(4, (some (true, 13)))] b_parse_reader_choice_0 := ⟨Try.f118, by kernel_rfl, by kernel_rfl⟩
theorem has_parse_reader_head : Has Try.prog n_parse_reader_head 11 [(2, (some (true, 4)))] b_parse_reader_head_0 := ⟨Try.f119, by kernel_rfl, by kernel_rfl⟩
theorem has_parse_reader_block : Has Try.prog n_parse_reader_block 17 [(4, none)] b_parse_reader_block_0 := ⟨Try.f120, by kernel_rfl, by kernel_rfl⟩
theorem has_parse_reader_plain : Has Try.prog n_parse_reader_plain 42 [(4, (some (true, 13)))] b_parse_reader_plain_0 := ⟨Try.f121, by kernel_rfl, by kernel_rfl⟩
theorem has_parse_reader_call : Has Try.prog n_parse_reader_call 48 [(6, (some (true, 13)))] b_parse_reader_call_0 := ⟨Try.f123, by kernel_rfl, by kernel_rfl⟩

end Go.Abs

/-! Prs -/

namespace Go.Abs

set_option maxRecDepth 8000
set_option linter.unusedSimpArgs false
set_option linter.unusedVariables false
open Go.Proofs

@[go_sem] def encRd (r : Rd) : List D := [.slice .shared 4 (r.l.map encTok), .int .i64 r.i, .int .i64 r.code, .int .i64 r.fat, .int .i64 r.n]
theorem okRd (r : Rd) : D.oks 0 0 (encRd r) = true := by simp [encRd, D.oks, D.ok, Tag.ok, okrTok]

theorem peek_lt {r : Rd} {t : Tok} (h : r.peek = some t) : r.i < 4611686018427387904 := (peek_get h).1
theorem is_lt {r : Rd} {s : Str} {t : Bool} (h : r.is s = some t) : r.i < 4611686018427387904 := by
  obtain ⟨t, h1, h⟩ := Option.bind_eq_some_iff.1 h
  exact peek_lt h1

-- good
theorem good_0 (l : List Tok) (i c f n : Int) : Fun Try.prog n_parse_reader_good [.ptr 0 0] ⟨[[.slice .shared 4 (l.map encTok), .int .i64 i, .int .i64 c, .int .i64 f, .int .i64 n]], []⟩ (.bool (c == 0)) ⟨[[.slice .shared 4 (l.map encTok), .int .i64 i, .int .i64 c, .int .i64 f, .int .i64 n]], []⟩ := by
  refine Fun.go has_parse_reader_good rfl fun B Q hB hQ => ?_
  have hlt : 0 < 1 := Nat.zero_lt_one
  have hget : 0 < 1 := Nat.zero_lt_one
  have hpu : 0 < 1 := Nat.zero_lt_one
  have hinc : 0 < 1 := Nat.zero_lt_one
  repeat' (first
 | simp only [go_sem, hlt, hget, hpu, hinc, Bool.not_false, Bool.not_true, Int.reduceLE, ↓reduceIte, reduceCtorEq, Nat.reduceEqDiff, Nat.reduceLeDiff, Nat.reduceAdd, Nat.reduceMul, Nat.reduceSub, Nat.reduceLT, fgrTok]
 | ((first | with_reducible refine CB_ofT (by assumption) fun hc => ?_ | with_reducible refine CB_ofF (by assumption) fun hc => ?_ | with_reducible refine CB_split (fun hc => ?_) fun hc => ?_) <;> (try simp only [hc, bs, ↓reduceIte] at h) <;> (try simp only [hc]))
 | ((first | with_reducible refine leafR hQ ?_ | with_reducible refine leafN hQ ?_); (try cases h); simp only [resL, oneD, Option.some.injEq, exists_eq_left', go_sem, hlt, hget, hpu, hinc, Bool.not_false, Bool.not_true, Int.reduceLE, ↓reduceIte, reduceCtorEq, Nat.reduceEqDiff, Nat.reduceLeDiff, Nat.reduceAdd, Nat.reduceMul, Nat.reduceSub, Nat.reduceLT, fgrTok]; repeat' (first | exact Ok.out | with_reducible refine And.intro ?_ ?_ | (simp; done)))
 | (cases h; replace h := hr; clear hr; (try simp only [bs, ↓reduceIte] at h))
 | (cases h; done))
theorem good_s {l : List Tok} {i c f n : Int} {s : St} {o : Nat} (ho : s.objs[o]? = some [.slice .shared 4 (l.map encTok), .int .i64 i, .int .i64 c, .int .i64 f, .int .i64 n]) : Fun Try.prog n_parse_reader_good [.ptr o 0] s (.bool (c == 0)) ⟨s.objs.set o [.slice .shared 4 (l.map encTok), .int .i64 i, .int .i64 c, .int .i64 f, .int .i64 n], s.toks⟩ :=
  have hk : D.oks 0 0 [.slice .shared 4 (l.map encTok), .int .i64 i, .int .i64 c, .int .i64 f, .int .i64 n] = true := by simp [D.oks, D.ok, Tag.ok, okrTok]
  Fun.meth (good_0 l i c f n) rfl hk hk rfl ho
theorem peek_0 {r : Rd} {t : Tok} (h : r.peek = some t) : Fun Try.prog n_parse_reader_peek [.ptr 0 0] ⟨[encRd r], []⟩ (.agg (encTok t)) ⟨[encRd r], []⟩ := by
  obtain ⟨h2, h, _, _⟩ := peek_get h
  refine Fun.go has_parse_reader_peek rfl fun B Q hB hQ => ?_
  have hlt : 0 < 1 := Nat.zero_lt_one
  have hget : 0 < 1 := Nat.zero_lt_one
  have hpu : 0 < 1 := Nat.zero_lt_one
  have hinc : 0 < 1 := Nat.zero_lt_one
  repeat' (first
 | simp only [go_sem, hlt, hget, hpu, hinc, Bool.not_false, Bool.not_true, Int.reduceLE, ↓reduceIte, reduceCtorEq, Nat.reduceEqDiff, Nat.reduceLeDiff, Nat.reduceAdd, Nat.reduceMul, Nat.reduceSub, Nat.reduceLT, fgrTok, h]
 | ((first | with_reducible refine CB_ofT (by assumption) fun hc => ?_ | with_reducible refine CB_ofF (by assumption) fun hc => ?_ | with_reducible refine CB_split (fun hc => ?_) fun hc => ?_) <;> (try simp only [hc, bs, ↓reduceIte] at h) <;> (try simp only [hc]))
 | ((first | with_reducible refine leafR hQ ?_ | with_reducible refine leafN hQ ?_); (try cases h); simp only [resL, oneD, Option.some.injEq, exists_eq_left', go_sem, hlt, hget, hpu, hinc, Bool.not_false, Bool.not_true, Int.reduceLE, ↓reduceIte, reduceCtorEq, Nat.reduceEqDiff, Nat.reduceLeDiff, Nat.reduceAdd, Nat.reduceMul, Nat.reduceSub, Nat.reduceLT, fgrTok, h]; repeat' (first | exact Ok.out | with_reducible refine And.intro ?_ ?_ | (simp; done)))
 | (cases h; replace h := hr; clear hr; (try simp only [bs, ↓reduceIte] at h))
 | (cases h; done))
theorem peek_s {r : Rd} {t : Tok} (h : r.peek = some t) {s : St} {o : Nat} (ho : s.objs[o]? = some (encRd r)) : Fun Try.prog n_parse_reader_peek [.ptr o 0] s (.agg (encTok t)) ⟨s.objs.set o (encRd r), s.toks⟩ :=
  (peek_0 h).meth rfl (okRd r) (okRd r) (okTok t) ho
theorem is_0 {r : Rd} {text : Str} {b : Bool} (h : r.is text = some b) : Fun Try.prog n_parse_reader_is [.ptr 0 0, .str text] ⟨[encRd r], []⟩ (.bool b) ⟨[encRd r], []⟩ := by
  unfold Rd.is at h
  refine Fun.go has_parse_reader_is rfl fun B Q hB hQ => ?_
  have hlt : 0 < 1 := Nat.zero_lt_one
  have hget : 0 < 1 := Nat.zero_lt_one
  have hpu : 0 < 1 := Nat.zero_lt_one
  have hinc : 0 < 1 := Nat.zero_lt_one
  repeat' (first
 | simp only [go_sem, hlt, hget, hpu, hinc, Bool.not_false, Bool.not_true, Int.reduceLE, ↓reduceIte, reduceCtorEq, Nat.reduceEqDiff, Nat.reduceLeDiff, Nat.reduceAdd, Nat.reduceMul, Nat.reduceSub, Nat.reduceLT, fgrTok]
 | (rw [Option.bind_eq_some_iff] at h; obtain ⟨_, h1, h⟩ := h; first | (with_reducible refine CL.use (peek_s h1 (by with_unfolding_all rfl)) ?_))
 | ((first | with_reducible refine CB_ofT (by assumption) fun hc => ?_ | with_reducible refine CB_ofF (by assumption) fun hc => ?_ | with_reducible refine CB_split (fun hc => ?_) fun hc => ?_) <;> (try simp only [hc, bs, ↓reduceIte] at h) <;> (try simp only [hc]))
 | ((first | with_reducible refine leafR hQ ?_ | with_reducible refine leafN hQ ?_); (try cases h); simp only [resL, oneD, Option.some.injEq, exists_eq_left', go_sem, hlt, hget, hpu, hinc, Bool.not_false, Bool.not_true, Int.reduceLE, ↓reduceIte, reduceCtorEq, Nat.reduceEqDiff, Nat.reduceLeDiff, Nat.reduceAdd, Nat.reduceMul, Nat.reduceSub, Nat.reduceLT, fgrTok]; repeat' (first | exact Ok.out | with_reducible refine And.intro ?_ ?_ | (simp; done)))
 | (cases h; replace h := hr; clear hr; (try simp only [bs, ↓reduceIte] at h))
 | (cases h; done))
theorem is_s {r : Rd} {text : Str} {b : Bool} (h : r.is text = some b) {s : St} {o : Nat} (ho : s.objs[o]? = some (encRd r)) : Fun Try.prog n_parse_reader_is [.ptr o 0, .str text] s (.bool b) ⟨s.objs.set o (encRd r), s.toks⟩ :=
  (is_0 h).meth rfl (okRd r) (okRd r) rfl ho
theorem bad_0 {r r' : Rd} {c : Int} (h : r.bad c = some r') : Fun Try.prog n_parse_reader_bad [.ptr 0 0, .int .i64 c] ⟨[encRd r], []⟩ (.tuple []) ⟨[encRd r'], []⟩ := by
  unfold Rd.bad at h
  refine Fun.go has_parse_reader_bad rfl fun B Q hB hQ => ?_
  have hlt : 0 < 1 := Nat.zero_lt_one
  have hget : 0 < 1 := Nat.zero_lt_one
  have hpu : 0 < 1 := Nat.zero_lt_one
  have hinc : 0 < 1 := Nat.zero_lt_one
  repeat' (first
 | simp only [go_sem, hlt, hget, hpu, hinc, Bool.not_false, Bool.not_true, Int.reduceLE, ↓reduceIte, reduceCtorEq, Nat.reduceEqDiff, Nat.reduceLeDiff, Nat.reduceAdd, Nat.reduceMul, Nat.reduceSub, Nat.reduceLT, fgrTok]
 | (rw [Option.bind_eq_some_iff] at h; obtain ⟨_, h1, h⟩ := h; first | (with_reducible refine CL.use (peek_s h1 (by with_unfolding_all rfl)) ?_))
 | (with_reducible refine CL.use (good_s (by with_unfolding_all rfl)) ?_)
 | ((first | with_reducible refine CB_ofT (by assumption) fun hc => ?_ | with_reducible refine CB_ofF (by assumption) fun hc => ?_ | with_reducible refine CB_split (fun hc => ?_) fun hc => ?_) <;> (try simp only [hc, bs, ↓reduceIte] at h) <;> (try simp only [hc]))
 | ((first | with_reducible refine leafR hQ ?_ | with_reducible refine leafN hQ ?_); (try cases h); simp only [resL, oneD, Option.some.injEq, exists_eq_left', go_sem, hlt, hget, hpu, hinc, Bool.not_false, Bool.not_true, Int.reduceLE, ↓reduceIte, reduceCtorEq, Nat.reduceEqDiff, Nat.reduceLeDiff, Nat.reduceAdd, Nat.reduceMul, Nat.reduceSub, Nat.reduceLT, fgrTok]; repeat' (first | exact Ok.out | with_reducible refine And.intro ?_ ?_ | (simp; done)))
 | (cases h; replace h := hr; clear hr; (try simp only [bs, ↓reduceIte] at h))
 | (cases h; done))
theorem bad_s {r r' : Rd} {c : Int} (h : r.bad c = some r') {s : St} {o : Nat} (ho : s.objs[o]? = some (encRd r)) : Fun Try.prog n_parse_reader_bad [.ptr o 0, .int .i64 c] s (.tuple []) ⟨s.objs.set o (encRd r'), s.toks⟩ :=
  (bad_0 h).meth rfl (okRd r) (okRd r') rfl ho
theorem take_0 {r : Rd} {text : Str} {p : Bool × Rd} (h : r.take text = some p) : Fun Try.prog n_parse_reader_take [.ptr 0 0, .str text] ⟨[encRd r], []⟩ (.bool p.1) ⟨[encRd p.2], []⟩ := by
  unfold Rd.take at h
  refine Fun.go has_parse_reader_take rfl fun B Q hB hQ => ?_
  have hlt : 0 < 1 := Nat.zero_lt_one
  have hget : 0 < 1 := Nat.zero_lt_one
  have hpu : 0 < 1 := Nat.zero_lt_one
  have hinc : 0 < 1 := Nat.zero_lt_one
  repeat' (first
 | simp only [go_sem, hlt, hget, hpu, hinc, Bool.not_false, Bool.not_true, Int.reduceLE, ↓reduceIte, reduceCtorEq, Nat.reduceEqDiff, Nat.reduceLeDiff, Nat.reduceAdd, Nat.reduceMul, Nat.reduceSub, Nat.reduceLT, fgrTok]
 | (rw [Option.bind_eq_some_iff] at h; obtain ⟨_, h1, h⟩ := h; first | (with_reducible refine CL.use (is_s h1 (by with_unfolding_all rfl)) ?_; have hlt := is_lt h1))
 | (with_reducible refine CL.use (good_s (by with_unfolding_all rfl)) ?_)
 | ((first | with_reducible refine CB_ofT (by assumption) fun hc => ?_ | with_reducible refine CB_ofF (by assumption) fun hc => ?_ | with_reducible refine CB_split (fun hc => ?_) fun hc => ?_) <;> (try simp only [hc, bs, ↓reduceIte] at h) <;> (try simp only [hc]))
 | ((first | with_reducible refine leafR hQ ?_ | with_reducible refine leafN hQ ?_); (try cases h); simp only [resL, oneD, Option.some.injEq, exists_eq_left', go_sem, hlt, hget, hpu, hinc, Bool.not_false, Bool.not_true, Int.reduceLE, ↓reduceIte, reduceCtorEq, Nat.reduceEqDiff, Nat.reduceLeDiff, Nat.reduceAdd, Nat.reduceMul, Nat.reduceSub, Nat.reduceLT, fgrTok]; repeat' (first | exact Ok.out | with_reducible refine And.intro ?_ ?_ | (simp; done)))
 | (cases h; replace h := hr; clear hr; (try simp only [bs, ↓reduceIte] at h))
 | (cases h; done))
theorem take_s {r : Rd} {text : Str} {p : Bool × Rd} (h : r.take text = some p) {s : St} {o : Nat} (ho : s.objs[o]? = some (encRd r)) : Fun Try.prog n_parse_reader_take [.ptr o 0, .str text] s (.bool p.1) ⟨s.objs.set o (encRd p.2), s.toks⟩ :=
  (take_0 h).meth rfl (okRd r) (okRd p.2) rfl ho
theorem want_0 {r r' : Rd} {text : Str} (h : r.want text = some r') : Fun Try.prog n_parse_reader_want [.ptr 0 0, .str text] ⟨[encRd r], []⟩ (.tuple []) ⟨[encRd r'], []⟩ := by
  unfold Rd.want at h
  refine Fun.go has_parse_reader_want rfl fun B Q hB hQ => ?_
  have hlt : 0 < 1 := Nat.zero_lt_one
  have hget : 0 < 1 := Nat.zero_lt_one
  have hpu : 0 < 1 := Nat.zero_lt_one
  have hinc : 0 < 1 := Nat.zero_lt_one
  repeat' (first
 | simp only [go_sem, hlt, hget, hpu, hinc, Bool.not_false, Bool.not_true, Int.reduceLE, ↓reduceIte, reduceCtorEq, Nat.reduceEqDiff, Nat.reduceLeDiff, Nat.reduceAdd, Nat.reduceMul, Nat.reduceSub, Nat.reduceLT, fgrTok]
 | (rw [Option.bind_eq_some_iff] at h; obtain ⟨_, h1, h⟩ := h; first | (with_reducible refine CL.use (take_s h1 (by with_unfolding_all rfl)) ?_))
 | (with_reducible refine CL.use (bad_s h (by with_unfolding_all rfl)) ?_)
 | ((first | with_reducible refine CB_ofT (by assumption) fun hc => ?_ | with_reducible refine CB_ofF (by assumption) fun hc => ?_ | with_reducible refine CB_split (fun hc => ?_) fun hc => ?_) <;> (try simp only [hc, bs, ↓reduceIte] at h) <;> (try simp only [hc]))
 | ((first | with_reducible refine leafR hQ ?_ | with_reducible refine leafN hQ ?_); (try cases h); simp only [resL, oneD, Option.some.injEq, exists_eq_left', go_sem, hlt, hget, hpu, hinc, Bool.not_false, Bool.not_true, Int.reduceLE, ↓reduceIte, reduceCtorEq, Nat.reduceEqDiff, Nat.reduceLeDiff, Nat.reduceAdd, Nat.reduceMul, Nat.reduceSub, Nat.reduceLT, fgrTok]; repeat' (first | exact Ok.out | with_reducible refine And.intro ?_ ?_ | (simp; done)))
 | (cases h; replace h := hr; clear hr; (try simp only [bs, ↓reduceIte] at h))
 | (cases h; done))
theorem want_s {r r' : Rd} {text : Str} (h : r.want text = some r') {s : St} {o : Nat} (ho : s.objs[o]? = some (encRd r)) : Fun Try.prog n_parse_reader_want [.ptr o 0, .str text] s (.tuple []) ⟨s.objs.set o (encRd r'), s.toks⟩ :=
  (want_0 h).meth rfl (okRd r) (okRd r') rfl ho
theorem name_0 {r : Rd} {room : Bool} {p : Str × Rd} (h : r.name room = some p) : Fun Try.prog n_parse_reader_name [.ptr 0 0, .bool room] ⟨[encRd r], []⟩ (.str p.1) ⟨[encRd p.2], []⟩ := by
  unfold Rd.name at h
  refine Fun.go has_parse_reader_name rfl fun B Q hB hQ => ?_
  have hlt : 0 < 1 := Nat.zero_lt_one
  have hget : 0 < 1 := Nat.zero_lt_one
  have hpu : 0 < 1 := Nat.zero_lt_one
  have hinc : 0 < 1 := Nat.zero_lt_one
  repeat' (first
 | simp only [go_sem, hlt, hget, hpu, hinc, Bool.not_false, Bool.not_true, Int.reduceLE, ↓reduceIte, reduceCtorEq, Nat.reduceEqDiff, Nat.reduceLeDiff, Nat.reduceAdd, Nat.reduceMul, Nat.reduceSub, Nat.reduceLT, fgrTok]
 | (rw [Option.bind_eq_some_iff] at h; obtain ⟨_, h1, h⟩ := h; first | (with_reducible refine CL.use (peek_s h1 (by with_unfolding_all rfl)) ?_; have hlt := peek_lt h1) | (with_reducible refine CL.use (bad_s h1 (by with_unfolding_all rfl)) ?_))
 | (with_reducible refine CL.use (good_s (by with_unfolding_all rfl)) ?_)
 | ((first | with_reducible refine CB_ofT (by assumption) fun hc => ?_ | with_reducible refine CB_ofF (by assumption) fun hc => ?_ | with_reducible refine CB_split (fun hc => ?_) fun hc => ?_) <;> (try simp only [hc, bs, ↓reduceIte] at h) <;> (try simp only [hc]))
 | ((first | with_reducible refine leafR hQ ?_ | with_reducible refine leafN hQ ?_); (try cases h); simp only [resL, oneD, Option.some.injEq, exists_eq_left', go_sem, hlt, hget, hpu, hinc, Bool.not_false, Bool.not_true, Int.reduceLE, ↓reduceIte, reduceCtorEq, Nat.reduceEqDiff, Nat.reduceLeDiff, Nat.reduceAdd, Nat.reduceMul, Nat.reduceSub, Nat.reduceLT, fgrTok]; repeat' (first | exact Ok.out | with_reducible refine And.intro ?_ ?_ | (simp; done)))
 | (cases h; replace h := hr; clear hr; (try simp only [bs, ↓reduceIte] at h))
 | (cases h; done))
theorem name_s {r : Rd} {room : Bool} {p : Str × Rd} (h : r.name room = some p) {s : St} {o : Nat} (ho : s.objs[o]? = some (encRd r)) : Fun Try.prog n_parse_reader_name [.ptr o 0, .bool room] s (.str p.1) ⟨s.objs.set o (encRd p.2), s.toks⟩ :=
  (name_0 h).meth rfl (okRd r) (okRd p.2) rfl ho
end Go.Abs

/-! Prs2 -/

namespace Go.Abs

set_option maxRecDepth 8000
set_option linter.unusedSimpArgs false
set_option linter.unusedVariables false
open Go.Proofs

theorem op_0 {t : Tok} {p : Int × Int} (h : opOf t = p) : Fun Try.prog n_parse_op [.agg (encTok t)] S0 (.tuple [.int .i64 p.1, .int .i64 p.2]) S0 := by
  unfold opOf at h
  unfold S0
  refine Fun.go has_parse_op rfl fun B Q hB hQ => ?_
  have hlt : 0 < 1 := Nat.zero_lt_one
  have hget : 0 < 1 := Nat.zero_lt_one
  have hpu : 0 < 1 := Nat.zero_lt_one
  have hinc : 0 < 1 := Nat.zero_lt_one
  repeat' (first
 | simp only [go_sem, hlt, hget, hpu, hinc, Bool.not_false, Bool.not_true, Int.reduceLE, ↓reduceIte, reduceCtorEq, Nat.reduceEqDiff, Nat.reduceLeDiff, Nat.reduceAdd, Nat.reduceMul, Nat.reduceSub, Nat.reduceLT]
 | ((first | with_reducible refine CB_ofT (by assumption) fun hc => ?_ | with_reducible refine CB_ofF (by assumption) fun hc => ?_ | with_reducible refine CB_split (fun hc => ?_) fun hc => ?_) <;> (try simp only [hc, bs, ↓reduceIte] at h) <;> (try simp only [hc]))
 | ((first | with_reducible refine leafR hQ ?_ | with_reducible refine leafN hQ ?_); (try cases h); simp only [resL, oneD, Option.some.injEq, exists_eq_left', go_sem, hlt, hget, hpu, hinc, Bool.not_false, Bool.not_true, Int.reduceLE, ↓reduceIte, reduceCtorEq, Nat.reduceEqDiff, Nat.reduceLeDiff, Nat.reduceAdd, Nat.reduceMul, Nat.reduceSub, Nat.reduceLT]; repeat' (first | exact Ok.out | with_reducible refine And.intro ?_ ?_ | (simp; done)))
 | (cases h; replace h := hr; clear hr; (try simp only [bs, ↓reduceIte] at h))
 | (cases h; done))

theorem depth_n : ∀ n, n < 4611686018427387904 → ∀ x : Ex, x.size ≤ n → Fun Try.prog n_parse_depth [.agg (encEx x)] S0 (.int .i64 (x.depth : Int)) S0 := by
  intro n
  induction n with
  | zero => rintro _ ⟨op, m, name, kids⟩ h; simp only [Ex.size] at h; omega
  | succ n ihn =>
  rintro hn ⟨op, m, name, kids⟩ hx
  have hk : ∀ y ∈ kids, Fun Try.prog n_parse_depth [.agg (encEx y)] S0 (.int .i64 (y.depth : Int)) S0 := fun y hy => ihn (by omega) y (by simp only [Ex.size] at hx; have := Ex.sizes_mem hy; omega)
  have hlen : kids.length < 4611686018427387904 := by simp only [Ex.size] at hx; have := Ex.sizes_len kids; omega
  have hdep : Ex.depths kids < 4611686018427387904 := by have := Ex.depth_size _ _ hx; simp only [Ex.depth] at this; omega
  unfold S0
  refine Fun.go has_parse_depth rfl fun B Q hB hQ => ?_
  have hlt : 0 < 1 := Nat.zero_lt_one
  have hget : 0 < 1 := Nat.zero_lt_one
  have hpu : 0 < 1 := Nat.zero_lt_one
  have hinc : 0 < 1 := Nat.zero_lt_one
  repeat' (first
 | simp only [go_sem, hlt, hget, hpu, hinc, Bool.not_false, Bool.not_true, Int.reduceLE, ↓reduceIte, reduceCtorEq, Nat.reduceEqDiff, Nat.reduceLeDiff, Nat.reduceAdd, Nat.reduceMul, Nat.reduceSub, Nat.reduceLT]
 | ((first | with_reducible refine CB_ofT (by assumption) fun hc => ?_ | with_reducible refine CB_ofF (by assumption) fun hc => ?_ | with_reducible refine CB_split (fun hc => ?_) fun hc => ?_) <;> (try simp only [hc, bs, ↓reduceIte] at h) <;> (try simp only [hc]))
 | ((first | with_reducible refine leafR hQ ?_ | with_reducible refine leafN hQ ?_); (try cases h); simp only [resL, oneD, Option.some.injEq, exists_eq_left', go_sem, hlt, hget, hpu, hinc, Bool.not_false, Bool.not_true, Int.reduceLE, ↓reduceIte, reduceCtorEq, Nat.reduceEqDiff, Nat.reduceLeDiff, Nat.reduceAdd, Nat.reduceMul, Nat.reduceSub, Nat.reduceLT]; repeat' (first | exact Ok.out | with_reducible refine And.intro ?_ ?_ | (simp; done)))
 | (cases h; replace h := hr; clear hr; (try simp only [bs, ↓reduceIte] at h))
 | (cases h; done))
  refine SemL.re _ _ 0 0 (by rw [hB]; exact Nat.le_of_ble_eq_true rfl) (by rw [hB]; exact Nat.le_of_ble_eq_true rfl) ?_ ?_ (SemL.ind (ι := List Ex × Nat × Nat) (fun i => kids.drop i.2.1 = i.1 ∧ max i.2.2 (Ex.depths i.1) = Ex.depths kids) (fun i => i.1.length)
    (fun i => [(3, .int .i64 (i.2.2 : Int)), (7, .slice .shared 4 (kids.map encEx)), (8, .int .i64 (kids.length : Int)), (9, .int .i64 (i.2.1 : Int))]) (fun _ => S0) ?_ (kids, 0, 0) ⟨rfl, by simp⟩)
  · (simp only [go_sem, hlt, hget, hpu, hinc, Bool.not_false, Bool.not_true, Int.reduceLE, ↓reduceIte, reduceCtorEq, Nat.reduceEqDiff, Nat.reduceLeDiff, Nat.reduceAdd, Nat.reduceMul, Nat.reduceSub, Nat.reduceLT]; repeat' (first | exact Ok.out | with_reducible refine And.intro ?_ ?_))
  · (simp only [go_sem, hlt, hget, hpu, hinc, Bool.not_false, Bool.not_true, Int.reduceLE, ↓reduceIte, reduceCtorEq, Nat.reduceEqDiff, Nat.reduceLeDiff, Nat.reduceAdd, Nat.reduceMul, Nat.reduceSub, Nat.reduceLT]; repeat' (first | exact Ok.out | with_reducible refine And.intro ?_ ?_))
  rintro ⟨rest, k, acc⟩ ⟨h1, h2⟩ IH
  unfold S0
  cases rest with
  | nil =>
    have hlt := drop_nil h1
    simp only [Ex.depths, Nat.max_zero] at h2
    subst h2
    repeat' (first
 | simp only [go_sem, hlt, hget, hpu, hinc, Bool.not_false, Bool.not_true, Int.reduceLE, ↓reduceIte, reduceCtorEq, Nat.reduceEqDiff, Nat.reduceLeDiff, Nat.reduceAdd, Nat.reduceMul, Nat.reduceSub, Nat.reduceLT, wrap_inc hdep, Ex.depth]
 | ((first | with_reducible refine CB_ofT (by assumption) fun hc => ?_ | with_reducible refine CB_ofF (by assumption) fun hc => ?_ | with_reducible refine CB_split (fun hc => ?_) fun hc => ?_) <;> (try simp only [hc, bs, ↓reduceIte] at h) <;> (try simp only [hc]))
 | ((first | with_reducible refine leafR hQ ?_ | with_reducible refine leafN hQ ?_); (try cases h); simp only [resL, oneD, Option.some.injEq, exists_eq_left', go_sem, hlt, hget, hpu, hinc, Bool.not_false, Bool.not_true, Int.reduceLE, ↓reduceIte, reduceCtorEq, Nat.reduceEqDiff, Nat.reduceLeDiff, Nat.reduceAdd, Nat.reduceMul, Nat.reduceSub, Nat.reduceLT, wrap_inc hdep, Ex.depth]; repeat' (first | exact Ok.out | with_reducible refine And.intro ?_ ?_ | (simp; done)))
 | (cases h; replace h := hr; clear hr; (try simp only [bs, ↓reduceIte] at h))
 | (cases h; done))
  | cons y rest =>
    obtain ⟨g1, g2, hlt, g4⟩ := drop_cons h1
    simp only [Ex.depths] at h2
    have hy := fun s => (hk y (List.mem_of_getElem? g1)).pure (by simp [D.oks, D.ok, okEx]) rfl s
    dsimp only at g1 g2 hlt g4 h2
    repeat' (first
 | simp only [go_sem, hlt, hget, hpu, hinc, Bool.not_false, Bool.not_true, Int.reduceLE, ↓reduceIte, reduceCtorEq, Nat.reduceEqDiff, Nat.reduceLeDiff, Nat.reduceAdd, Nat.reduceMul, Nat.reduceSub, Nat.reduceLT, g1]
 | (with_reducible refine CL.use (hy _) ?_)
 | ((first | with_reducible refine CB_ofT (by assumption) fun hc => ?_ | with_reducible refine CB_ofF (by assumption) fun hc => ?_ | with_reducible refine CB_split (fun hc => ?_) fun hc => ?_) <;> (try simp only [hc, bs, ↓reduceIte] at h) <;> (try simp only [hc]))
 | ((first | with_reducible refine leafR hQ ?_ | with_reducible refine leafN hQ ?_); (try cases h); simp only [resL, oneD, Option.some.injEq, exists_eq_left', go_sem, hlt, hget, hpu, hinc, Bool.not_false, Bool.not_true, Int.reduceLE, ↓reduceIte, reduceCtorEq, Nat.reduceEqDiff, Nat.reduceLeDiff, Nat.reduceAdd, Nat.reduceMul, Nat.reduceSub, Nat.reduceLT, g1]; repeat' (first | exact Ok.out | with_reducible refine And.intro ?_ ?_ | (simp; done)))
 | (cases h; replace h := hr; clear hr; (try simp only [bs, ↓reduceIte] at h))
 | (cases h; done))
    refine SemL.re _ _ 0 0 (by rw [hB]; exact Nat.le_of_ble_eq_true rfl) (by rw [hB]; exact Nat.le_of_ble_eq_true rfl) ?_ ?_ (IH (rest, k + 1, max acc y.depth) ⟨g2, by dsimp only; omega⟩ (by simp))
    · (simp only [go_sem, hlt, hget, hpu, hinc, Bool.not_false, Bool.not_true, Int.reduceLE, ↓reduceIte, reduceCtorEq, Nat.reduceEqDiff, Nat.reduceLeDiff, Nat.reduceAdd, Nat.reduceMul, Nat.reduceSub, Nat.reduceLT, mx, wrap_inc (show k < 4611686018427387904 by omega)]; repeat' (first | exact Ok.out | with_reducible refine And.intro ?_ ?_))
    · (simp only [go_sem, hlt, hget, hpu, hinc, Bool.not_false, Bool.not_true, Int.reduceLE, ↓reduceIte, reduceCtorEq, Nat.reduceEqDiff, Nat.reduceLeDiff, Nat.reduceAdd, Nat.reduceMul, Nat.reduceSub, Nat.reduceLT, mx, wrap_inc (show k < 4611686018427387904 by omega)]; repeat' (first | exact Ok.out | with_reducible refine And.intro ?_ ?_))

theorem depth_s {x : Ex} {d : Int} (h : depthO x = some d) (s : St) : Fun Try.prog n_parse_depth [.agg (encEx x)] s (.int .i64 d) s := by
  unfold depthO at h
  split at h
  · cases h; exact (depth_n x.size ‹_› x (Nat.le_refl _)).pure (by simp [D.oks, D.ok, okEx]) rfl s
  · cases h

theorem op_s (t : Tok) (s : St) : Fun Try.prog n_parse_op [.agg (encTok t)] s (.tuple [.int .i64 (opOf t).1, .int .i64 (opOf t).2]) s := (op_0 rfl).pure rfl rfl s


theorem ite_p {c : Prop} [Decidable c] {α : Type} {P : α → Prop} {a b : α} (ha : P a) (hb : P b) : P (if c then a else b) := by
  by_cases h : c
  · rw [if_pos h]; exact ha
  · rw [if_neg h]; exact hb
def OpR (p : Int × Int) : Prop := 0 ≤ p.2 ∧ p.2 ≤ 6
theorem op_range (t : Tok) : OpR (opOf t) := by
  unfold opOf
  repeat' with_reducible refine ite_p (P := OpR) ?_ ?_
  all_goals exact ⟨by decide, by decide⟩
theorem op_wrap (t : Tok) : IntKind.wrap .i64 ((opOf t).2 + 1) = (opOf t).2 + 1 := by
  have : 0 ≤ (opOf t).2 ∧ (opOf t).2 ≤ 6 := op_range t
  rw [wrap_ok] <;> omega

abbrev C_one (m : Nat) : Prop := ∀ {r : Rd} {p : Ex × Rd}, Rd.one m r = some p → ∀ {s : St} {o : Nat}, s.objs[o]? = some (encRd r) → Fun Try.prog n_parse_reader_one [.ptr o 0] s (.agg (encEx p.1)) ⟨s.objs.set o (encRd p.2), s.toks⟩
abbrev C_two (m : Nat) : Prop := ∀ {k : Int} {r : Rd} {p : Ex × Rd}, Rd.two m k r = some p → ∀ {s : St} {o : Nat}, s.objs[o]? = some (encRd r) → Fun Try.prog n_parse_reader_two [.ptr o 0, .int .i64 k] s (.agg (encEx p.1)) ⟨s.objs.set o (encRd p.2), s.toks⟩

theorem one_step {m : Nat} (one_s : C_one m) (two_s : C_two m) : C_one (m + 1) := by
  intro r p h s o ho
  refine Fun.meth ?_ rfl (okRd r) (okRd p.2) (by simp [D.ok, okEx]) ho
  unfold Rd.one at h
  refine Fun.go has_parse_reader_one rfl fun B Q hB hQ => ?_
  have hlt : 0 < 1 := Nat.zero_lt_one
  have hget : 0 < 1 := Nat.zero_lt_one
  have hpu : 0 < 1 := Nat.zero_lt_one
  have hinc : 0 < 1 := Nat.zero_lt_one
  repeat' (first
 | simp only [go_sem, hlt, hget, hpu, hinc, Bool.not_false, Bool.not_true, Int.reduceLE, ↓reduceIte, reduceCtorEq, Nat.reduceEqDiff, Nat.reduceLeDiff, Nat.reduceAdd, Nat.reduceMul, Nat.reduceSub, Nat.reduceLT]
 | (rw [Option.bind_eq_some_iff] at h; obtain ⟨_, h1, h⟩ := h; first | (with_reducible refine CL.use (peek_s h1 (by with_unfolding_all rfl)) ?_; have hlt := peek_lt h1) | (with_reducible refine CL.use (take_s h1 (by with_unfolding_all rfl)) ?_) | (with_reducible refine CL.use (two_s h1 (by with_unfolding_all rfl)) ?_) | (with_reducible refine CL.use (want_s h1 (by with_unfolding_all rfl)) ?_) | (with_reducible refine CL.use (one_s h1 (by with_unfolding_all rfl)) ?_) | (with_reducible refine CL.use (bad_s h1 (by with_unfolding_all rfl)) ?_))
 | (with_reducible refine CL.use (good_s (by with_unfolding_all rfl)) ?_)
 | ((first | with_reducible refine CB_ofT (by assumption) fun hc => ?_ | with_reducible refine CB_ofF (by assumption) fun hc => ?_ | with_reducible refine CB_split (fun hc => ?_) fun hc => ?_) <;> (try simp only [hc, bs, ↓reduceIte] at h) <;> (try simp only [hc]))
 | ((first | with_reducible refine leafR hQ ?_ | with_reducible refine leafN hQ ?_); (try cases h); simp only [resL, oneD, Option.some.injEq, exists_eq_left', go_sem, hlt, hget, hpu, hinc, Bool.not_false, Bool.not_true, Int.reduceLE, ↓reduceIte, reduceCtorEq, Nat.reduceEqDiff, Nat.reduceLeDiff, Nat.reduceAdd, Nat.reduceMul, Nat.reduceSub, Nat.reduceLT]; repeat' (first | exact Ok.out | with_reducible refine And.intro ?_ ?_ | (simp; done)))
 | (cases h; replace h := hr; clear hr; (try simp only [bs, ↓reduceIte] at h))
 | (cases h; done))

theorem two_step {m : Nat} (one_s : C_one m) (two_s : ∀ j < m, C_two j) : C_two (m + 1) := by
  intro k r p h s o ho
  refine Fun.meth ?_ rfl (okRd r) (okRd p.2) (by simp [D.ok, okEx]) ho
  unfold Rd.two at h
  refine Fun.go has_parse_reader_two rfl fun B Q hB hQ => ?_
  have hlt : 0 < 1 := Nat.zero_lt_one
  have hget : 0 < 1 := Nat.zero_lt_one
  have hpu : 0 < 1 := Nat.zero_lt_one
  have hinc : 0 < 1 := Nat.zero_lt_one
  repeat' (first
 | simp only [go_sem, hlt, hget, hpu, hinc, Bool.not_false, Bool.not_true, Int.reduceLE, ↓reduceIte, reduceCtorEq, Nat.reduceEqDiff, Nat.reduceLeDiff, Nat.reduceAdd, Nat.reduceMul, Nat.reduceSub, Nat.reduceLT]
 | (rw [Option.bind_eq_some_iff] at h; obtain ⟨_, h1, h⟩ := h; first | (with_reducible refine CL.use (one_s h1 (by with_unfolding_all rfl)) ?_))
 | ((first | with_reducible refine CB_ofT (by assumption) fun hc => ?_ | with_reducible refine CB_ofF (by assumption) fun hc => ?_ | with_reducible refine CB_split (fun hc => ?_) fun hc => ?_) <;> (try simp only [hc, bs, ↓reduceIte] at h) <;> (try simp only [hc]))
 | ((first | with_reducible refine leafR hQ ?_ | with_reducible refine leafN hQ ?_); (try cases h); simp only [resL, oneD, Option.some.injEq, exists_eq_left', go_sem, hlt, hget, hpu, hinc, Bool.not_false, Bool.not_true, Int.reduceLE, ↓reduceIte, reduceCtorEq, Nat.reduceEqDiff, Nat.reduceLeDiff, Nat.reduceAdd, Nat.reduceMul, Nat.reduceSub, Nat.reduceLT]; repeat' (first | exact Ok.out | with_reducible refine And.intro ?_ ?_ | (simp; done)))
 | (cases h; replace h := hr; clear hr; (try simp only [bs, ↓reduceIte] at h))
 | (cases h; done))
  refine SemL.re _ _ 3 0 (by rw [hB]; exact Nat.le_of_ble_eq_true rfl) (by rw [hB]; exact Nat.le_of_ble_eq_true rfl) ?_ ?_ (SemL.ind (ι := Nat × Ex × Rd) (fun i => Rd.twoL i.1 k i.2.1 i.2.2 = some p ∧ i.1 ≤ m) (fun i => i.1)
    (fun i => [(0, .ptr 0 0), (1, .int .i64 k), (4, .ptr 1 0), (5, .ptr 2 0)]) (fun i => ⟨[encRd i.2.2, encEx ex0, encEx i.2.1], []⟩) ?_ (m, _, _) ⟨h, Nat.le_refl _⟩)
  · (simp only [go_sem, hlt, hget, hpu, hinc, Bool.not_false, Bool.not_true, Int.reduceLE, ↓reduceIte, reduceCtorEq, Nat.reduceEqDiff, Nat.reduceLeDiff, Nat.reduceAdd, Nat.reduceMul, Nat.reduceSub, Nat.reduceLT]; repeat' (first | exact Ok.out | with_reducible refine And.intro ?_ ?_))
  · (simp only [go_sem, hlt, hget, hpu, hinc, Bool.not_false, Bool.not_true, Int.reduceLE, ↓reduceIte, reduceCtorEq, Nat.reduceEqDiff, Nat.reduceLeDiff, Nat.reduceAdd, Nat.reduceMul, Nat.reduceSub, Nat.reduceLT]; repeat' (first | exact Ok.out | with_reducible refine And.intro ?_ ?_))
  rintro ⟨n, x, r⟩ ⟨h, hn⟩ IH
  cases n with
  | zero => simp only [Rd.twoL] at h; cases h
  | succ n =>
    have two_n := @two_s n (by omega)
    simp only [Rd.twoL] at h
    repeat' (first
 | simp only [go_sem, hlt, hget, hpu, hinc, Bool.not_false, Bool.not_true, Int.reduceLE, ↓reduceIte, reduceCtorEq, Nat.reduceEqDiff, Nat.reduceLeDiff, Nat.reduceAdd, Nat.reduceMul, Nat.reduceSub, Nat.reduceLT, op_wrap]
 | (rw [Option.bind_eq_some_iff] at h; obtain ⟨_, h1, h⟩ := h; first | (with_reducible refine CL.use (peek_s h1 (by with_unfolding_all rfl)) ?_; have hlt := peek_lt h1) | (with_reducible refine CL.use (two_n h1 (by with_unfolding_all rfl)) ?_))
 | (with_reducible refine CL.use (good_s (by with_unfolding_all rfl)) ?_)
 | (with_reducible refine CL.use (op_s _ _) ?_)
 | ((first | with_reducible refine CB_ofT (by assumption) fun hc => ?_ | with_reducible refine CB_ofF (by assumption) fun hc => ?_ | with_reducible refine CB_split (fun hc => ?_) fun hc => ?_) <;> (try simp only [hc, bs, ↓reduceIte] at h) <;> (try simp only [hc]))
 | ((first | with_reducible refine leafR hQ ?_ | with_reducible refine leafN hQ ?_); (try cases h); simp only [resL, oneD, Option.some.injEq, exists_eq_left', go_sem, hlt, hget, hpu, hinc, Bool.not_false, Bool.not_true, Int.reduceLE, ↓reduceIte, reduceCtorEq, Nat.reduceEqDiff, Nat.reduceLeDiff, Nat.reduceAdd, Nat.reduceMul, Nat.reduceSub, Nat.reduceLT, op_wrap]; repeat' (first | exact Ok.out | with_reducible refine And.intro ?_ ?_ | (simp; done)))
 | (cases h; replace h := hr; clear hr; (try simp only [bs, ↓reduceIte] at h))
 | (cases h; done))
    refine SemL.re _ _ 3 0 (by rw [hB]; exact Nat.le_of_ble_eq_true rfl) (by rw [hB]; exact Nat.le_of_ble_eq_true rfl) ?_ ?_ (IH (n, _, _) ⟨h, by dsimp only at hn ⊢; omega⟩ (Nat.lt_succ_self _))
    · (simp only [go_sem, hlt, hget, hpu, hinc, Bool.not_false, Bool.not_true, Int.reduceLE, ↓reduceIte, reduceCtorEq, Nat.reduceEqDiff, Nat.reduceLeDiff, Nat.reduceAdd, Nat.reduceMul, Nat.reduceSub, Nat.reduceLT]; repeat' (first | exact Ok.out | with_reducible refine And.intro ?_ ?_))
    · (simp only [go_sem, hlt, hget, hpu, hinc, Bool.not_false, Bool.not_true, Int.reduceLE, ↓reduceIte, reduceCtorEq, Nat.reduceEqDiff, Nat.reduceLeDiff, Nat.reduceAdd, Nat.reduceMul, Nat.reduceSub, Nat.reduceLT]; repeat' (first | exact Ok.out | with_reducible refine And.intro ?_ ?_))

theorem one_two : ∀ n, ∀ m < n, C_one m ∧ C_two m := by
  intro n
  induction n with
  | zero => intro m h; exact absurd h (Nat.not_lt_zero _)
  | succ n ih =>
    intro m h
    cases m with
    | zero =>
      refine ⟨?_, ?_⟩
      · intro r p h; simp only [Rd.one] at h; cases h
      · intro k r p h; simp only [Rd.two] at h; cases h
    | succ m =>
      have hm := ih m (by omega)
      exact ⟨one_step hm.1 hm.2, two_step hm.1 fun j hj => (ih j (by omega)).2⟩

theorem two_s {m : Nat} {k : Int} {r : Rd} {p : Ex × Rd} (h : Rd.two m k r = some p) {s : St} {o : Nat} (ho : s.objs[o]? = some (encRd r)) :
    Fun Try.prog n_parse_reader_two [.ptr o 0, .int .i64 k] s (.agg (encEx p.1)) ⟨s.objs.set o (encRd p.2), s.toks⟩ := (one_two (m + 1) m (Nat.lt_succ_self _)).2 h ho

theorem whole_s {n : Nat} {r : Rd} {p : Ex × Rd} (h : Rd.whole n r = some p) {s : St} {o : Nat} (ho : s.objs[o]? = some (encRd r)) :
    Fun Try.prog n_parse_reader_whole [.ptr o 0] s (.agg (encEx p.1)) ⟨s.objs.set o (encRd p.2), s.toks⟩ := by
  refine Fun.meth ?_ rfl (okRd r) (okRd p.2) (by simp [D.ok, okEx]) ho
  unfold Rd.whole at h
  refine Fun.go has_parse_reader_whole rfl fun B Q hB hQ => ?_
  have hlt : 0 < 1 := Nat.zero_lt_one
  have hget : 0 < 1 := Nat.zero_lt_one
  have hpu : 0 < 1 := Nat.zero_lt_one
  have hinc : 0 < 1 := Nat.zero_lt_one
  repeat' (first
 | simp only [go_sem, hlt, hget, hpu, hinc, Bool.not_false, Bool.not_true, Int.reduceLE, ↓reduceIte, reduceCtorEq, Nat.reduceEqDiff, Nat.reduceLeDiff, Nat.reduceAdd, Nat.reduceMul, Nat.reduceSub, Nat.reduceLT]
 | (rw [Option.bind_eq_some_iff] at h; obtain ⟨_, h1, h⟩ := h; first | (with_reducible refine CL.use (peek_s h1 (by with_unfolding_all rfl)) ?_) | (with_reducible refine CL.use (depth_s h1 _) ?_) | (with_reducible refine CL.use (two_s h1 (by with_unfolding_all rfl)) ?_))
 | (with_reducible refine CL.use (good_s (by with_unfolding_all rfl)) ?_)
 | ((first | with_reducible refine CB_ofT (by assumption) fun hc => ?_ | with_reducible refine CB_ofF (by assumption) fun hc => ?_ | with_reducible refine CB_split (fun hc => ?_) fun hc => ?_) <;> (try simp only [hc, bs, ↓reduceIte] at h) <;> (try simp only [hc]))
 | ((first | with_reducible refine leafR hQ ?_ | with_reducible refine leafN hQ ?_); (try cases h); simp only [resL, oneD, Option.some.injEq, exists_eq_left', go_sem, hlt, hget, hpu, hinc, Bool.not_false, Bool.not_true, Int.reduceLE, ↓reduceIte, reduceCtorEq, Nat.reduceEqDiff, Nat.reduceLeDiff, Nat.reduceAdd, Nat.reduceMul, Nat.reduceSub, Nat.reduceLT]; repeat' (first | exact Ok.out | with_reducible refine And.intro ?_ ?_ | (simp; done)))
 | (cases h; replace h := hr; clear hr; (try simp only [bs, ↓reduceIte] at h))
 | (cases h; done))

end Go.Abs

/-! Ref1 -/

namespace Go.Abs

set_option maxRecDepth 8000
set_option linter.unusedSimpArgs false
set_option linter.unusedVariables false
open Go.Proofs

theorem Pok_0 (l : List Tok) (i c f n : Int) : Fun Try.prog n_ref3_P_ok [.ptr 0 0] ⟨[[.slice .shared 4 (l.map encTok), .int .i64 i, .int .i64 c, .int .i64 f, .int .i64 n]], []⟩ (.bool (c == 0)) ⟨[[.slice .shared 4 (l.map encTok), .int .i64 i, .int .i64 c, .int .i64 f, .int .i64 n]], []⟩ := by
  refine Fun.go has_ref3_P_ok rfl fun B Q hB hQ => ?_
  have hlt : 0 < 1 := Nat.zero_lt_one
  have hget : 0 < 1 := Nat.zero_lt_one
  have hpu : 0 < 1 := Nat.zero_lt_one
  have hinc : 0 < 1 := Nat.zero_lt_one
  repeat' (first
 | simp only [go_sem, hlt, hget, hpu, hinc, Bool.not_false, Bool.not_true, Int.reduceLE, ↓reduceIte, reduceCtorEq, Nat.reduceEqDiff, Nat.reduceLeDiff, Nat.reduceAdd, Nat.reduceMul, Nat.reduceSub, Nat.reduceLT]
 | ((first | with_reducible refine CB_ofT (by assumption) fun hc => ?_ | with_reducible refine CB_ofF (by assumption) fun hc => ?_ | with_reducible refine CB_split (fun hc => ?_) fun hc => ?_) <;> (try simp only [hc, bs, ↓reduceIte] at h) <;> (try simp only [hc]))
 | ((first | with_reducible refine leafR hQ ?_ | with_reducible refine leafN hQ ?_); (try cases h); simp only [resL, oneD, Option.some.injEq, exists_eq_left', go_sem, hlt, hget, hpu, hinc, Bool.not_false, Bool.not_true, Int.reduceLE, ↓reduceIte, reduceCtorEq, Nat.reduceEqDiff, Nat.reduceLeDiff, Nat.reduceAdd, Nat.reduceMul, Nat.reduceSub, Nat.reduceLT]; repeat' (first | exact Ok.out | with_reducible refine And.intro ?_ ?_ | (simp; done)))
 | (cases h; replace h := hr; clear hr; (try simp only [bs, ↓reduceIte] at h))
 | (cases h; done))
theorem Pok_s {l : List Tok} {i c f n : Int} {s : St} {o : Nat} (ho : s.objs[o]? = some [.slice .shared 4 (l.map encTok), .int .i64 i, .int .i64 c, .int .i64 f, .int .i64 n]) : Fun Try.prog n_ref3_P_ok [.ptr o 0] s (.bool (c == 0)) ⟨s.objs.set o [.slice .shared 4 (l.map encTok), .int .i64 i, .int .i64 c, .int .i64 f, .int .i64 n], s.toks⟩ :=
  have hk : D.oks 0 0 [.slice .shared 4 (l.map encTok), .int .i64 i, .int .i64 c, .int .i64 f, .int .i64 n] = true := by simp [D.oks, D.ok, Tag.ok, okrTok]
  Fun.meth (Pok_0 l i c f n) rfl hk hk rfl ho

theorem Pfail_s {r r' : Rd} {c : Int} (h : r.bad c = some r') {s : St} {o : Nat} (ho : s.objs[o]? = some (encRd r)) : Fun Try.prog n_ref3_P_fail [.ptr o 0, .int .i64 c] s (.tuple []) ⟨s.objs.set o (encRd r'), s.toks⟩ := by
  refine Fun.meth ?_ rfl (okRd r) (okRd r') rfl ho
  unfold Rd.bad at h
  refine Fun.go has_ref3_P_fail rfl fun B Q hB hQ => ?_
  have hlt : 0 < 1 := Nat.zero_lt_one
  have hget : 0 < 1 := Nat.zero_lt_one
  have hpu : 0 < 1 := Nat.zero_lt_one
  have hinc : 0 < 1 := Nat.zero_lt_one
  repeat' (first
 | simp only [go_sem, hlt, hget, hpu, hinc, Bool.not_false, Bool.not_true, Int.reduceLE, ↓reduceIte, reduceCtorEq, Nat.reduceEqDiff, Nat.reduceLeDiff, Nat.reduceAdd, Nat.reduceMul, Nat.reduceSub, Nat.reduceLT]
 | (rw [Option.bind_eq_some_iff] at h; obtain ⟨_, h1, h⟩ := h; first | (obtain ⟨hlt, hget, hkl, hkh⟩ := peek_get h1; simp only [go_sem, hget, hlt, hget, hpu, hinc, Bool.not_false, Bool.not_true, Int.reduceLE, ↓reduceIte, reduceCtorEq, Nat.reduceEqDiff, Nat.reduceLeDiff, Nat.reduceAdd, Nat.reduceMul, Nat.reduceSub, Nat.reduceLT]))
 | (with_reducible refine CL.use (Pok_s (by with_unfolding_all rfl)) ?_)
 | ((first | with_reducible refine CB_ofT (by assumption) fun hc => ?_ | with_reducible refine CB_ofF (by assumption) fun hc => ?_ | with_reducible refine CB_split (fun hc => ?_) fun hc => ?_) <;> (try simp only [hc, bs, ↓reduceIte] at h) <;> (try simp only [hc]))
 | ((first | with_reducible refine leafR hQ ?_ | with_reducible refine leafN hQ ?_); (try cases h); simp only [resL, oneD, Option.some.injEq, exists_eq_left', go_sem, hlt, hget, hpu, hinc, Bool.not_false, Bool.not_true, Int.reduceLE, ↓reduceIte, reduceCtorEq, Nat.reduceEqDiff, Nat.reduceLeDiff, Nat.reduceAdd, Nat.reduceMul, Nat.reduceSub, Nat.reduceLT]; repeat' (first | exact Ok.out | with_reducible refine And.intro ?_ ?_ | (simp; done)))
 | (cases h; replace h := hr; clear hr; (try simp only [bs, ↓reduceIte] at h))
 | (cases h; done))

/-- Does a word or a sign come, and has there been no fault? -/
def Rd.isO (text : Str) (r : Rd) : Option Bool := if r.good then r.is text else some false

theorem Pis_s {r : Rd} {text : Str} {b : Bool} (h : r.isO text = some b) {s : St} {o : Nat} (ho : s.objs[o]? = some (encRd r)) : Fun Try.prog n_ref3_P_is [.ptr o 0, .str text] s (.bool b) ⟨s.objs.set o (encRd r), s.toks⟩ := by
  refine Fun.meth ?_ rfl (okRd r) (okRd r) rfl ho
  unfold Rd.isO Rd.is at h
  refine Fun.go has_ref3_P_is rfl fun B Q hB hQ => ?_
  have hlt : 0 < 1 := Nat.zero_lt_one
  have hget : 0 < 1 := Nat.zero_lt_one
  have hpu : 0 < 1 := Nat.zero_lt_one
  have hinc : 0 < 1 := Nat.zero_lt_one
  cases hg : r.good
  · simp only [hg, Bool.false_eq_true, ↓reduceIte] at h
    repeat' (first
 | simp only [go_sem, hlt, hget, hpu, hinc, Bool.not_false, Bool.not_true, Int.reduceLE, ↓reduceIte, reduceCtorEq, Nat.reduceEqDiff, Nat.reduceLeDiff, Nat.reduceAdd, Nat.reduceMul, Nat.reduceSub, Nat.reduceLT]
 | (with_reducible refine CL.use (Pok_s (by with_unfolding_all rfl)) ?_)
 | ((first | with_reducible refine CB_ofT (by assumption) fun hc => ?_ | with_reducible refine CB_ofF (by assumption) fun hc => ?_ | with_reducible refine CB_split (fun hc => ?_) fun hc => ?_) <;> (try simp only [hc, bs, ↓reduceIte] at h) <;> (try simp only [hc]))
 | ((first | with_reducible refine leafR hQ ?_ | with_reducible refine leafN hQ ?_); (try cases h); simp only [resL, oneD, Option.some.injEq, exists_eq_left', go_sem, hlt, hget, hpu, hinc, Bool.not_false, Bool.not_true, Int.reduceLE, ↓reduceIte, reduceCtorEq, Nat.reduceEqDiff, Nat.reduceLeDiff, Nat.reduceAdd, Nat.reduceMul, Nat.reduceSub, Nat.reduceLT]; repeat' (first | exact Ok.out | with_reducible refine And.intro ?_ ?_ | (simp; done)))
 | (cases h; replace h := hr; clear hr; (try simp only [bs, ↓reduceIte] at h))
 | (cases h; done))
  · simp only [hg, ↓reduceIte] at h
    rw [Option.bind_eq_some_iff] at h
    obtain ⟨t, h1, h⟩ := h
    obtain ⟨hlt, hget, hkl, hkh⟩ := peek_get h1
    have e : decide (t.kind ≥ 3) = (t.kind == 3 || t.kind == 4) := by
      have : t.kind = 0 ∨ t.kind = 1 ∨ t.kind = 2 ∨ t.kind = 3 ∨ t.kind = 4 := by omega
      rcases this with h | h | h | h | h <;> rw [h] <;> rfl
    cases hk : (t.kind == 3 || t.kind == 4)
    · simp only [hk, Bool.false_and] at h
      rw [hk] at e
      repeat' (first
 | simp only [go_sem, hlt, hget, hpu, hinc, Bool.not_false, Bool.not_true, Int.reduceLE, ↓reduceIte, reduceCtorEq, Nat.reduceEqDiff, Nat.reduceLeDiff, Nat.reduceAdd, Nat.reduceMul, Nat.reduceSub, Nat.reduceLT, e]
 | (with_reducible refine CL.use (Pok_s (by with_unfolding_all rfl)) ?_)
 | ((first | with_reducible refine CB_ofT (by assumption) fun hc => ?_ | with_reducible refine CB_ofF (by assumption) fun hc => ?_ | with_reducible refine CB_split (fun hc => ?_) fun hc => ?_) <;> (try simp only [hc, bs, ↓reduceIte] at h) <;> (try simp only [hc]))
 | ((first | with_reducible refine leafR hQ ?_ | with_reducible refine leafN hQ ?_); (try cases h); simp only [resL, oneD, Option.some.injEq, exists_eq_left', go_sem, hlt, hget, hpu, hinc, Bool.not_false, Bool.not_true, Int.reduceLE, ↓reduceIte, reduceCtorEq, Nat.reduceEqDiff, Nat.reduceLeDiff, Nat.reduceAdd, Nat.reduceMul, Nat.reduceSub, Nat.reduceLT, e]; repeat' (first | exact Ok.out | with_reducible refine And.intro ?_ ?_ | (simp; done)))
 | (cases h; replace h := hr; clear hr; (try simp only [bs, ↓reduceIte] at h))
 | (cases h; done))
    · simp only [hk, Bool.true_and] at h
      rw [hk] at e
      repeat' (first
 | simp only [go_sem, hlt, hget, hpu, hinc, Bool.not_false, Bool.not_true, Int.reduceLE, ↓reduceIte, reduceCtorEq, Nat.reduceEqDiff, Nat.reduceLeDiff, Nat.reduceAdd, Nat.reduceMul, Nat.reduceSub, Nat.reduceLT, e]
 | (with_reducible refine CL.use (Pok_s (by with_unfolding_all rfl)) ?_)
 | ((first | with_reducible refine CB_ofT (by assumption) fun hc => ?_ | with_reducible refine CB_ofF (by assumption) fun hc => ?_ | with_reducible refine CB_split (fun hc => ?_) fun hc => ?_) <;> (try simp only [hc, bs, ↓reduceIte] at h) <;> (try simp only [hc]))
 | ((first | with_reducible refine leafR hQ ?_ | with_reducible refine leafN hQ ?_); (try cases h); simp only [resL, oneD, Option.some.injEq, exists_eq_left', go_sem, hlt, hget, hpu, hinc, Bool.not_false, Bool.not_true, Int.reduceLE, ↓reduceIte, reduceCtorEq, Nat.reduceEqDiff, Nat.reduceLeDiff, Nat.reduceAdd, Nat.reduceMul, Nat.reduceSub, Nat.reduceLT, e]; repeat' (first | exact Ok.out | with_reducible refine And.intro ?_ ?_ | (simp; done)))
 | (cases h; replace h := hr; clear hr; (try simp only [bs, ↓reduceIte] at h))
 | (cases h; done))

theorem Ptake_s {r : Rd} {text : Str} {p : Bool × Rd} (h : r.take text = some p) {s : St} {o : Nat} (ho : s.objs[o]? = some (encRd r)) : Fun Try.prog n_ref3_P_take [.ptr o 0, .str text] s (.bool p.1) ⟨s.objs.set o (encRd p.2), s.toks⟩ := by
  refine Fun.meth ?_ rfl (okRd r) (okRd p.2) rfl ho
  have h' : ((r.isO text).bind fun b => if !b then some (false, r) else some (true, { r with i := r.i + 1 })) = some p := by
    unfold Rd.take at h
    unfold Rd.isO
    cases hg : r.good
    · simpa [hg] using h
    · simpa [hg] using h
  have hlt' : ∀ b, r.isO text = some b → b = true → r.i < 4611686018427387904 := by
    intro b hb hb'
    unfold Rd.isO at hb
    split at hb
    · exact is_lt hb
    · cases hb; cases hb'
  rw [Option.bind_eq_some_iff] at h'
  obtain ⟨b, h1, h⟩ := h'
  have his := fun {s : St} {o : Nat} (ho : s.objs[o]? = some (encRd r)) => Pis_s h1 ho
  refine Fun.go has_ref3_P_take rfl fun B Q hB hQ => ?_
  have hlt : 0 < 1 := Nat.zero_lt_one
  have hget : 0 < 1 := Nat.zero_lt_one
  have hpu : 0 < 1 := Nat.zero_lt_one
  have hinc : 0 < 1 := Nat.zero_lt_one
  cases b
  · repeat' (first
 | simp only [go_sem, hlt, hget, hpu, hinc, Bool.not_false, Bool.not_true, Int.reduceLE, ↓reduceIte, reduceCtorEq, Nat.reduceEqDiff, Nat.reduceLeDiff, Nat.reduceAdd, Nat.reduceMul, Nat.reduceSub, Nat.reduceLT]
 | (with_reducible refine CL.use (his (by with_unfolding_all rfl)) ?_)
 | ((first | with_reducible refine CB_ofT (by assumption) fun hc => ?_ | with_reducible refine CB_ofF (by assumption) fun hc => ?_ | with_reducible refine CB_split (fun hc => ?_) fun hc => ?_) <;> (try simp only [hc, bs, ↓reduceIte] at h) <;> (try simp only [hc]))
 | ((first | with_reducible refine leafR hQ ?_ | with_reducible refine leafN hQ ?_); (try cases h); simp only [resL, oneD, Option.some.injEq, exists_eq_left', go_sem, hlt, hget, hpu, hinc, Bool.not_false, Bool.not_true, Int.reduceLE, ↓reduceIte, reduceCtorEq, Nat.reduceEqDiff, Nat.reduceLeDiff, Nat.reduceAdd, Nat.reduceMul, Nat.reduceSub, Nat.reduceLT]; repeat' (first | exact Ok.out | with_reducible refine And.intro ?_ ?_ | (simp; done)))
 | (cases h; replace h := hr; clear hr; (try simp only [bs, ↓reduceIte] at h))
 | (cases h; done))
  · have hlt := hlt' true h1 rfl
    repeat' (first
 | simp only [go_sem, hlt, hget, hpu, hinc, Bool.not_false, Bool.not_true, Int.reduceLE, ↓reduceIte, reduceCtorEq, Nat.reduceEqDiff, Nat.reduceLeDiff, Nat.reduceAdd, Nat.reduceMul, Nat.reduceSub, Nat.reduceLT]
 | (with_reducible refine CL.use (his (by with_unfolding_all rfl)) ?_)
 | ((first | with_reducible refine CB_ofT (by assumption) fun hc => ?_ | with_reducible refine CB_ofF (by assumption) fun hc => ?_ | with_reducible refine CB_split (fun hc => ?_) fun hc => ?_) <;> (try simp only [hc, bs, ↓reduceIte] at h) <;> (try simp only [hc]))
 | ((first | with_reducible refine leafR hQ ?_ | with_reducible refine leafN hQ ?_); (try cases h); simp only [resL, oneD, Option.some.injEq, exists_eq_left', go_sem, hlt, hget, hpu, hinc, Bool.not_false, Bool.not_true, Int.reduceLE, ↓reduceIte, reduceCtorEq, Nat.reduceEqDiff, Nat.reduceLeDiff, Nat.reduceAdd, Nat.reduceMul, Nat.reduceSub, Nat.reduceLT]; repeat' (first | exact Ok.out | with_reducible refine And.intro ?_ ?_ | (simp; done)))
 | (cases h; replace h := hr; clear hr; (try simp only [bs, ↓reduceIte] at h))
 | (cases h; done))

theorem Pwant_s {r r' : Rd} {text : Str} (h : r.want text = some r') {s : St} {o : Nat} (ho : s.objs[o]? = some (encRd r)) : Fun Try.prog n_ref3_P_want [.ptr o 0, .str text] s (.tuple []) ⟨s.objs.set o (encRd r'), s.toks⟩ := by
  refine Fun.meth ?_ rfl (okRd r) (okRd r') rfl ho
  unfold Rd.want at h
  refine Fun.go has_ref3_P_want rfl fun B Q hB hQ => ?_
  have hlt : 0 < 1 := Nat.zero_lt_one
  have hget : 0 < 1 := Nat.zero_lt_one
  have hpu : 0 < 1 := Nat.zero_lt_one
  have hinc : 0 < 1 := Nat.zero_lt_one
  cases hg : r.good
  · have h2 : r' = r := by
      unfold Rd.take at h
      simp only [hg, Bool.not_false, ↓reduceIte, Option.bind_some, Rd.bad, Bool.false_eq_true] at h
      exact (Option.some.inj h).symm
    subst h2
    repeat' (first
 | simp only [go_sem, hlt, hget, hpu, hinc, Bool.not_false, Bool.not_true, Int.reduceLE, ↓reduceIte, reduceCtorEq, Nat.reduceEqDiff, Nat.reduceLeDiff, Nat.reduceAdd, Nat.reduceMul, Nat.reduceSub, Nat.reduceLT]
 | (with_reducible refine CL.use (Pok_s (by with_unfolding_all rfl)) ?_)
 | ((first | with_reducible refine CB_ofT (by assumption) fun hc => ?_ | with_reducible refine CB_ofF (by assumption) fun hc => ?_ | with_reducible refine CB_split (fun hc => ?_) fun hc => ?_) <;> (try simp only [hc, bs, ↓reduceIte] at h) <;> (try simp only [hc]))
 | ((first | with_reducible refine leafR hQ ?_ | with_reducible refine leafN hQ ?_); (try cases h); simp only [resL, oneD, Option.some.injEq, exists_eq_left', go_sem, hlt, hget, hpu, hinc, Bool.not_false, Bool.not_true, Int.reduceLE, ↓reduceIte, reduceCtorEq, Nat.reduceEqDiff, Nat.reduceLeDiff, Nat.reduceAdd, Nat.reduceMul, Nat.reduceSub, Nat.reduceLT]; repeat' (first | exact Ok.out | with_reducible refine And.intro ?_ ?_ | (simp; done)))
 | (cases h; replace h := hr; clear hr; (try simp only [bs, ↓reduceIte] at h))
 | (cases h; done))
  · repeat' (first
 | simp only [go_sem, hlt, hget, hpu, hinc, Bool.not_false, Bool.not_true, Int.reduceLE, ↓reduceIte, reduceCtorEq, Nat.reduceEqDiff, Nat.reduceLeDiff, Nat.reduceAdd, Nat.reduceMul, Nat.reduceSub, Nat.reduceLT]
 | (rw [Option.bind_eq_some_iff] at h; obtain ⟨_, h1, h⟩ := h; first | (with_reducible refine CL.use (Ptake_s h1 (by with_unfolding_all rfl)) ?_))
 | (with_reducible refine CL.use (Pfail_s h (by with_unfolding_all rfl)) ?_)
 | (with_reducible refine CL.use (Pok_s (by with_unfolding_all rfl)) ?_)
 | ((first | with_reducible refine CB_ofT (by assumption) fun hc => ?_ | with_reducible refine CB_ofF (by assumption) fun hc => ?_ | with_reducible refine CB_split (fun hc => ?_) fun hc => ?_) <;> (try simp only [hc, bs, ↓reduceIte] at h) <;> (try simp only [hc]))
 | ((first | with_reducible refine leafR hQ ?_ | with_reducible refine leafN hQ ?_); (try cases h); simp only [resL, oneD, Option.some.injEq, exists_eq_left', go_sem, hlt, hget, hpu, hinc, Bool.not_false, Bool.not_true, Int.reduceLE, ↓reduceIte, reduceCtorEq, Nat.reduceEqDiff, Nat.reduceLeDiff, Nat.reduceAdd, Nat.reduceMul, Nat.reduceSub, Nat.reduceLT]; repeat' (first | exact Ok.out | with_reducible refine And.intro ?_ ?_ | (simp; done)))
 | (cases h; replace h := hr; clear hr; (try simp only [bs, ↓reduceIte] at h))
 | (cases h; done))

end Go.Abs
