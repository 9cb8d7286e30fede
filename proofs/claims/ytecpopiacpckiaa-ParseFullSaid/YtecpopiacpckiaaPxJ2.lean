/-
  What is proved here: part 2 of the road to the claim (Codes2, Have2, Codes3, Have3, Prs, Prs2, Ref1, Ref2, Ref3, MirTree, MirEq, RefEq, RefEq2, Prs3, Prs4, Prs5).
  No conditions.
-/
import Derived.Test.YtecpopiacpckiaaPxJ1
import Derived.Test.YtecpopiacpckiaaProg
import Derived.KernelRfl

set_option linter.unusedSimpArgs false
set_option linter.unusedVariables false

/-! Codes2 -/

namespace Go.Abs

abbrev QGO : AC := .run [(.op (some 2) none (.mv (.k (.bool false))))]
abbrev QGP : AC := .run [(.op (some 3) none (.mv (.s 0)))]
abbrev QGQ : AC := .run [(.op (some 5) none (.bin .eql (.s 3) (.k (.str [103, 108, 111, 98, 97, 108])))), (.op (some 4) none (.mv (.s 5)))]
abbrev QGR : AC := .run [(.op (some 6) none (.bin .eql (.s 3) (.k (.str [112, 114, 111, 99])))), (.op (some 4) none (.mv (.s 6)))]
abbrev QGS : AC := .run [(.op (some 7) none (.bin .eql (.s 3) (.k (.str [118, 97, 114])))), (.op (some 4) none (.mv (.s 7)))]
abbrev QGT : AC := .run [(.op (some 8) none (.bin .eql (.s 3) (.k (.str [114, 101, 102])))), (.op (some 4) none (.mv (.s 8)))]
abbrev QGU : AC := .run [(.op (some 9) none (.bin .eql (.s 3) (.k (.str [105, 102])))), (.op (some 4) none (.mv (.s 9)))]
abbrev QGV : AC := .run [(.op (some 10) none (.bin .eql (.s 3) (.k (.str [101, 108, 115, 101])))), (.op (some 4) none (.mv (.s 10)))]
abbrev QGW : AC := .run [(.op (some 11) none (.bin .eql (.s 3) (.k (.str [119, 104, 105, 108, 101])))), (.op (some 4) none (.mv (.s 11)))]
abbrev QGX : AC := .run [(.op (some 12) none (.bin .eql (.s 3) (.k (.str [98, 114, 101, 97, 107])))), (.op (some 4) none (.mv (.s 12)))]
abbrev QGY : AC := .run [(.op (some 13) none (.bin .eql (.s 3) (.k (.str [99, 111, 110, 116, 105, 110, 117, 101])))), (.op (some 4) none (.mv (.s 13)))]
abbrev QGZ : AC := .run [(.op (some 14) none (.bin .eql (.s 3) (.k (.str [114, 101, 116, 117, 114, 110])))), (.op (some 4) none (.mv (.s 14)))]
abbrev QH0 : AC := .run [(.op (some 15) none (.bin .eql (.s 3) (.k (.str [103, 111, 116, 111])))), (.op (some 4) none (.mv (.s 15)))]
abbrev QH1 : AC := .run [(.op (some 16) none (.bin .eql (.s 3) (.k (.str [114, 101, 97, 100])))), (.op (some 4) none (.mv (.s 16)))]
abbrev QH2 : AC := .run [(.op (some 17) none (.bin .eql (.s 3) (.k (.str [112, 114, 105, 110, 116])))), (.op (some 4) none (.mv (.s 17)))]
abbrev QH3 : AC := .cond (.s 4) .skip QH2
abbrev QH4 : AC := .seq QH1 QH3
abbrev QH5 : AC := .cond (.s 4) .skip QH4
abbrev QH6 : AC := .seq QH0 QH5
abbrev QH7 : AC := .cond (.s 4) .skip QH6
abbrev QH8 : AC := .seq QGZ QH7
abbrev QH9 : AC := .cond (.s 4) .skip QH8
abbrev QHA : AC := .seq QGY QH9
abbrev QHB : AC := .cond (.s 4) .skip QHA
abbrev QHC : AC := .seq QGX QHB
abbrev QHD : AC := .cond (.s 4) .skip QHC
abbrev QHE : AC := .seq QGW QHD
abbrev QHF : AC := .cond (.s 4) .skip QHE
abbrev QHG : AC := .seq QGV QHF
abbrev QHH : AC := .cond (.s 4) .skip QHG
abbrev QHI : AC := .seq QGU QHH
abbrev QHJ : AC := .cond (.s 4) .skip QHI
abbrev QHK : AC := .seq QGT QHJ
abbrev QHL : AC := .cond (.s 4) .skip QHK
abbrev QHM : AC := .seq QGS QHL
abbrev QHN : AC := .cond (.s 4) .skip QHM
abbrev QHO : AC := .seq QGR QHN
abbrev QHP : AC := .cond (.s 4) .skip QHO
abbrev QHQ : AC := .seq QGQ QHP
abbrev QHR : AC := .run [(.op (some 2) none (.mv (.k (.bool true))))]
abbrev QHS : AC := .seq QHR .ret
abbrev QHT : AC := .cond (.s 4) QHS .skip
abbrev QHU : AC := .seq QHQ QHT
abbrev QHV : AC := .block 0 QHU
abbrev QHW : AC := .seq QGP QHV
abbrev QHX : AC := .run [(.op (some 2) none (.mv (.k (.bool false))))]
abbrev QHY : AC := .seq QHX .ret
abbrev QHZ : AC := .seq QHW QHY
abbrev QI0 : AC := .seq QGO QHZ
abbrev QI1 : AC := .run [(.op (some 2) none (.mv (.k (.int .i64 0)))), (.op (some 3) none (.mv (.k (.bool false))))]
abbrev QI2 : AC := .run [(.op (some 4) none (.mv (.k (.int .i64 0))))]
abbrev QI3 : AC := .run [(.op (some 5) none (.mv (.k (.int .i64 0))))]
abbrev QI4 : AC := .run [(.op (some 7) none (.mv (.s 5))), (.op (some 8) none (.mv (.s 0))), (.op (some 9) none (.slen (.s 8))), (.op (some 10) none (.bin .lss (.s 7) (.s 9)))]
abbrev QI5 : AC := .cond (.s 10) .skip (.exit 0)
abbrev QI6 : AC := .seq QI4 QI5
abbrev QI7 : AC := .run [(.op (some 13) none (.mv (.s 0))), (.op (some 14) none (.mv (.s 5))), (.op (some 15) none (.sidx (.s 13) (.s 14))), (.op (some 16) none (.bin .sub (.s 15) (.k (.int .u8 48)))), (.op (some 17) none (.conv .i64 (.s 16))), (.op (some 6) none (.mv (.s 17)))]
abbrev QI8 : AC := .run [(.op (some 18) none (.mv (.s 4))), (.op (some 19) none (.mv (.s 6))), (.op (some 20) none (.bin .sub (.k (.int .i64 9223372036854775807)) (.s 19))), (.op (some 21) none (.bin .quo (.s 20) (.k (.int .i64 10)))), (.op (some 22) none (.bin .gtr (.s 18) (.s 21)))]
abbrev QI9 : AC := .run [(.op (some 2) none (.mv (.k (.int .i64 0)))), (.op (some 3) none (.mv (.k (.bool false))))]
abbrev QIA : AC := .seq QI9 .ret
abbrev QIB : AC := .cond (.s 22) QIA .skip
abbrev QIC : AC := .seq QI8 QIB
abbrev QID : AC := .run [(.op (some 23) none (.mv (.s 4))), (.op (some 24) none (.bin .mul (.s 23) (.k (.int .i64 10)))), (.op (some 25) none (.mv (.s 6))), (.op (some 26) none (.bin .add (.s 24) (.s 25))), (.op (some 4) none (.mv (.s 26)))]
abbrev QIE : AC := .seq QIC QID
abbrev QIF : AC := .seq QI7 QIE
abbrev QIG : AC := .block 1 QIF
abbrev QIH : AC := .run [(.op (some 11) none (.mv (.s 5))), (.op (some 12) none (.bin .add (.s 11) (.k (.int .i64 1)))), (.op (some 5) none (.mv (.s 12)))]
abbrev QII : AC := .seq QIG QIH
abbrev QIJ : AC := .seq QI6 QII
abbrev QIK : AC := .loop QIJ
abbrev QIL : AC := .block 0 QIK
abbrev QIM : AC := .seq QI3 QIL
abbrev QIN : AC := .run [(.op (some 27) none (.mv (.s 4))), (.op (some 2) none (.mv (.s 27))), (.op (some 3) none (.mv (.k (.bool true))))]
abbrev QIO : AC := .seq QIN .ret
abbrev QIP : AC := .seq QIM QIO
abbrev QIQ : AC := .seq QI2 QIP
abbrev QIR : AC := .seq QI1 QIQ
abbrev QIS : AC := .run [(.op (some 2) none (.mv (.k (.bool false))))]
abbrev QIT : AC := .run [(.op (some 4) none (.mv (.s 0))), (.op (some 5) none (.bin .eql (.s 4) (.k (.str [])))), (.op (some 6) none (.mv (.s 5))), (.op (some 7) (some (6, false)) (.mv (.s 0))), (.op (some 8) (some (6, false)) (.slen (.s 7))), (.op (some 9) (some (6, false)) (.bin .gtr (.s 8) (.k (.int .i64 8)))), (.op (some 10) none (.pick (.s 6) (.k (.bool true)) (.s 9))), (.op (some 11) none (.mv (.s 10))), (.op (some 12) (some (11, false)) (.mv (.s 0))), (.op (some 13) (some (11, false)) (.sidx (.s 12) (.k (.int .i64 0)))), (.call (some 14) (some (11, false)) n_ref1_small [(.s 13)]), (.op (some 15) (some (11, false)) (.un .not (.s 14))), (.op (some 16) none (.pick (.s 11) (.k (.bool true)) (.s 15)))]
abbrev QIU : AC := .run [(.op (some 2) none (.mv (.k (.bool false))))]
abbrev QIV : AC := .seq QIU .ret
abbrev QIW : AC := .cond (.s 16) QIV .skip
abbrev QIX : AC := .seq QIT QIW
abbrev QIY : AC := .run [(.op (some 3) none (.mv (.k (.int .i64 1))))]
abbrev QIZ : AC := .run [(.op (some 17) none (.mv (.s 3))), (.op (some 18) none (.mv (.s 0))), (.op (some 19) none (.slen (.s 18))), (.op (some 20) none (.bin .lss (.s 17) (.s 19)))]
abbrev QJ0 : AC := .cond (.s 20) .skip (.exit 0)
abbrev QJ1 : AC := .seq QIZ QJ0
abbrev QJ2 : AC := .run [(.op (some 23) none (.mv (.s 0))), (.op (some 24) none (.mv (.s 3))), (.op (some 25) none (.sidx (.s 23) (.s 24))), (.call (some 26) none n_ref1_small [(.s 25)]), (.op (some 27) none (.un .not (.s 26))), (.op (some 28) none (.mv (.s 27))), (.op (some 29) (some (28, true)) (.mv (.s 0))), (.op (some 30) (some (28, true)) (.mv (.s 3))), (.op (some 31) (some (28, true)) (.sidx (.s 29) (.s 30))), (.call (some 32) (some (28, true)) n_ref1_digit [(.s 31)]), (.op (some 33) (some (28, true)) (.un .not (.s 32))), (.op (some 34) none (.pick (.s 28) (.s 33) (.k (.bool false))))]
abbrev QJ3 : AC := .run [(.op (some 2) none (.mv (.k (.bool false))))]
abbrev QJ4 : AC := .seq QJ3 .ret
abbrev QJ5 : AC := .cond (.s 34) QJ4 .skip
abbrev QJ6 : AC := .seq QJ2 QJ5
abbrev QJ7 : AC := .block 1 QJ6
abbrev QJ8 : AC := .run [(.op (some 21) none (.mv (.s 3))), (.op (some 22) none (.bin .add (.s 21) (.k (.int .i64 1)))), (.op (some 3) none (.mv (.s 22)))]
abbrev QJ9 : AC := .seq QJ7 QJ8
abbrev QJA : AC := .seq QJ1 QJ9
abbrev QJB : AC := .loop QJA
abbrev QJC : AC := .block 0 QJB
abbrev QJD : AC := .seq QIY QJC
abbrev QJE : AC := .run [(.op (some 35) none (.mv (.s 0))), (.call (some 36) none n_ref1_Word [(.s 35)]), (.op (some 37) none (.un .not (.s 36))), (.op (some 2) none (.mv (.s 37)))]
abbrev QJF : AC := .seq QJE .ret
abbrev QJG : AC := .seq QJD QJF
abbrev QJH : AC := .seq QIX QJG
abbrev QJI : AC := .seq QIS QJH
abbrev QJJ : AC := .run [(.op (some 2) none (.box (.s 0))), (.op (some 4) none (.mv (.k (.int .i64 0))))]
abbrev QJK : AC := .run [(.op (some 8) none (.mv (.s 1))), (.op (some 9) none (.bin .eql (.s 8) (.k (.int .i64 0))))]
abbrev QJL : AC := .run [(.op (some 4) none (.mv (.k (.int .i64 1))))]
abbrev QJM : AC := .seq QJL .ret
abbrev QJN : AC := .cond (.s 9) QJM .skip
abbrev QJO : AC := .seq QJK QJN
abbrev QJP : AC := .run [(.op (some 5) none (.mv (.k (.int .i64 0))))]
abbrev QJQ : AC := .run [(.op (some 6) none (.mv (.k (.int .i64 0))))]
abbrev QJR : AC := .run [(.op (some 10) none (.mv (.s 6))), (.op (some 11) none (.faddr (.s 2) 3)), (.op (some 12) none (.load (.s 11) false 1)), (.op (some 13) none (.len (.s 12))), (.op (some 14) none (.bin .lss (.s 10) (.s 13))), (.op (some 15) none (.mv (.s 14))), (.op (some 16) (some (15, true)) (.mv (.s 5))), (.op (some 17) (some (15, true)) (.mv (.s 1))), (.op (some 18) (some (15, true)) (.bin .lss (.s 16) (.s 17))), (.op (some 19) none (.pick (.s 15) (.s 18) (.k (.bool false))))]
abbrev QJS : AC := .cond (.s 19) .skip (.exit 0)
abbrev QJT : AC := .seq QJR QJS
abbrev QJU : AC := .run [(.op (some 22) none (.faddr (.s 2) 3)), (.op (some 23) none (.load (.s 22) false 1)), (.op (some 24) none (.mv (.s 6))), (.op (some 25) none (.iaddr (.s 23) (.s 24) 4)), (.op (some 26) none (.load (.s 25) true 4)), (.op (some 27) none (.mv (.s 1))), (.op (some 28) none (.bin .sub (.s 27) (.k (.int .i64 1)))), (.call (some 29) none n_ref3_deep [(.s 26), (.s 28)]), (.op (some 7) none (.mv (.s 29)))]
abbrev QJV : AC := .run [(.op (some 30) none (.mv (.s 7))), (.op (some 31) none (.mv (.s 5))), (.op (some 32) none (.bin .gtr (.s 30) (.s 31)))]
abbrev QJW : AC := .run [(.op (some 33) none (.mv (.s 7))), (.op (some 5) none (.mv (.s 33)))]
abbrev QJX : AC := .cond (.s 32) QJW .skip
abbrev QJY : AC := .seq QJV QJX
abbrev QJZ : AC := .seq QJU QJY
abbrev QK0 : AC := .block 1 QJZ
abbrev QK1 : AC := .run [(.op (some 20) none (.mv (.s 6))), (.op (some 21) none (.bin .add (.s 20) (.k (.int .i64 1)))), (.op (some 6) none (.mv (.s 21)))]
abbrev QK2 : AC := .seq QK0 QK1
abbrev QK3 : AC := .seq QJT QK2
abbrev QK4 : AC := .loop QK3
abbrev QK5 : AC := .block 0 QK4
abbrev QK6 : AC := .seq QJQ QK5
abbrev QK7 : AC := .run [(.op (some 34) none (.mv (.s 5))), (.op (some 35) none (.bin .add (.s 34) (.k (.int .i64 1)))), (.op (some 4) none (.mv (.s 35)))]
abbrev QK8 : AC := .seq QK7 .ret
abbrev QK9 : AC := .seq QK6 QK8
abbrev QKA : AC := .seq QJP QK9
abbrev QKB : AC := .seq QJO QKA
abbrev QKC : AC := .seq QJJ QKB
abbrev QKD : AC := .run [(.op (some 1) none (.box (.s 0))), (.op (some 2) none (.mv (.k (.bool false))))]
abbrev QKE : AC := .par [(.op (some 4) none (.faddr (.s 1) 0)), (.op (some 5) none (.load (.s 4) false 1)), (.call (some 6) none n_ref3_Arity [(.s 5)]), (.op (some 7) none (.faddr (.s 1) 3)), (.op (some 8) none (.load (.s 7) false 1)), (.op (some 9) none (.len (.s 8))), (.op (some 10) none (.bin .neq (.s 6) (.s 9))), (.op (some 11) none (.mv (.s 10))), (.op (some 12) (some (11, false)) (.faddr (.s 1) 0)), (.op (some 13) (some (11, false)) (.load (.s 12) false 1)), (.op (some 14) (some (11, false)) (.bin .neq (.s 13) (.k (.int .i64 1)))), (.op (some 15) (some (11, false)) (.mv (.s 14))), (.op (some 16) (some (15, true)) (.faddr (.s 1) 1)), (.op (some 17) (some (15, true)) (.load (.s 16) false 1)), (.op (some 18) (some (15, true)) (.bin .neq (.s 17) (.k (.int .i64 0)))), (.op (some 19) (some (11, false)) (.pick (.s 15) (.s 18) (.k (.bool false)))), (.op (some 20) none (.pick (.s 11) (.k (.bool true)) (.s 19))), (.op (some 21) none (.mv (.s 20))), (.op (some 22) (some (21, false)) (.faddr (.s 1) 1)), (.op (some 23) (some (21, false)) (.load (.s 22) false 1)), (.op (some 24) (some (21, false)) (.bin .lss (.s 23) (.k (.int .i64 0)))), (.op (some 25) none (.pick (.s 21) (.k (.bool true)) (.s 24))), (.op (some 26) none (.mv (.s 25))), (.op (some 27) (some (26, false)) (.faddr (.s 1) 0)), (.op (some 28) (some (26, false)) (.load (.s 27) false 1)), (.op (some 29) (some (26, false)) (.bin .eql (.s 28) (.k (.int .i64 2)))), (.op (some 30) (some (26, false)) (.faddr (.s 1) 2)), (.op (some 31) (some (26, false)) (.load (.s 30) false 1)), (.op (some 32) (some (26, false)) (.bin .neq (.s 31) (.k (.str [])))), (.op (some 33) (some (26, false)) (.eqb true (.s 29) (.s 32))), (.op (some 34) none (.pick (.s 26) (.k (.bool true)) (.s 33))), (.op (some 35) none (.mv (.s 34))), (.op (some 36) (some (35, false)) (.faddr (.s 1) 2)), (.op (some 37) (some (35, false)) (.load (.s 36) false 1)), (.op (some 38) (some (35, false)) (.bin .neq (.s 37) (.k (.str [])))), (.op (some 39) (some (35, false)) (.mv (.s 38))), (.op (some 40) (some (39, true)) (.faddr (.s 1) 2)), (.op (some 41) (some (39, true)) (.load (.s 40) false 1)), (.call (some 42) (some (39, true)) n_ref1_Name [(.s 41)]), (.op (some 43) (some (39, true)) (.un .not (.s 42))), (.op (some 44) (some (35, false)) (.pick (.s 39) (.s 43) (.k (.bool false)))), (.op (some 45) none (.pick (.s 35) (.k (.bool true)) (.s 44)))] [(0, 0), (1, 0), (2, 0), (3, 0), (4, 1), (5, 0), (6, 0), (7, 0), (8, 0), (9, 0), (10, 0), (11, 0), (12, 0), (13, 0), (14, 0), (15, 0), (16, 0), (17, 0), (18, 0), (19, 0), (20, 0), (21, 0), (22, 0), (23, 0), (24, 0), (25, 0), (26, 0), (27, 0), (28, 0), (29, 0), (30, 0), (31, 0), (32, 0), (33, 0), (34, 0), (35, 0), (36, 0), (37, 0), (38, 0), (39, 0), (40, 0), (41, 0)]
abbrev QKF : AC := .run [(.op (some 2) none (.mv (.k (.bool false))))]
abbrev QKG : AC := .seq QKF .ret
abbrev QKH : AC := .cond (.s 45) QKG .skip
abbrev QKI : AC := .seq QKE QKH
abbrev QKJ : AC := .run [(.op (some 46) none (.faddr (.s 1) 3)), (.op (some 47) none (.load (.s 46) false 1)), (.op (some 48) none (.len (.s 47))), (.op (some 49) none (.mv (.k (.int .i64 0))))]
abbrev QKK : AC := .run [(.op (some 50) none (.bin .lss (.s 49) (.s 48)))]
abbrev QKL : AC := .cond (.s 50) .skip (.exit 0)
abbrev QKM : AC := .run [(.op (some 51) none (.mv (.s 49))), (.op (some 3) none (.mv (.s 51)))]
abbrev QKN : AC := .run [(.op (some 52) none (.faddr (.s 1) 3)), (.op (some 53) none (.load (.s 52) false 1)), (.op (some 54) none (.mv (.s 3))), (.op (some 55) none (.iaddr (.s 53) (.s 54) 4)), (.op (some 56) none (.load (.s 55) true 4)), (.call (some 57) none n_ref3_form [(.s 56)]), (.op (some 58) none (.un .not (.s 57)))]
abbrev QKO : AC := .run [(.op (some 2) none (.mv (.k (.bool false))))]
abbrev QKP : AC := .seq QKO .ret
abbrev QKQ : AC := .cond (.s 58) QKP .skip
abbrev QKR : AC := .seq QKN QKQ
abbrev QKS : AC := .seq QKM QKR
abbrev QKT : AC := .block 1 QKS
abbrev QKU : AC := .run [(.op (some 59) none (.bin .add (.s 49) (.k (.int .i64 1)))), (.op (some 49) none (.mv (.s 59)))]
abbrev QKV : AC := .seq QKT QKU
abbrev QKW : AC := .seq QKL QKV
abbrev QKX : AC := .seq QKK QKW
abbrev QKY : AC := .loop QKX
abbrev QKZ : AC := .block 0 QKY
abbrev QL0 : AC := .seq QKJ QKZ
abbrev QL1 : AC := .run [(.op (some 2) none (.mv (.k (.bool true))))]
abbrev QL2 : AC := .seq QL1 .ret
abbrev QL3 : AC := .seq QL0 QL2
abbrev QL4 : AC := .seq QKI QL3
abbrev QL5 : AC := .seq QKD QL4
abbrev QL6 : AC := .run [(.op (some 2) none (.mv (.k (.str []))))]
abbrev QL7 : AC := .run [(.op (some 3) none (.bslice [(.str [])] 1 13 [(0, (.k (.str [42]))), (1, (.k (.str [47]))), (2, (.k (.str [37]))), (3, (.k (.str [43]))), (4, (.k (.str [45]))), (5, (.k (.str [60]))), (6, (.k (.str [60, 61]))), (7, (.k (.str [62]))), (8, (.k (.str [62, 61]))), (9, (.k (.str [61, 61]))), (10, (.k (.str [33, 61]))), (11, (.k (.str [38, 38]))), (12, (.k (.str [124, 124])))])), (.op (some 4) none (.mv (.s 0))), (.op (some 5) none (.bin .sub (.s 4) (.k (.int .i64 5)))), (.op (some 6) none (.iaddr (.s 3) (.s 5) 1)), (.op (some 7) none (.load (.s 6) false 1)), (.op (some 2) none (.mv (.s 7)))]
abbrev QL8 : AC := .seq QL7 .ret
abbrev QL9 : AC := .seq QL6 QL8
abbrev QLA : AC := .run [(.op (some 2) none (.alloc [(.int .i64 0), (.int .i64 0), (.str []), (.slice .full 0 [])]))]
abbrev QLB : AC := .run [(.op (some 3) none (.mv (.s 0))), (.op (some 4) none (.build [(.int .i64 0), (.int .i64 0), (.str []), (.slice .full 0 [])] [(0, (1, (.k (.int .i64 2)))), (2, (1, (.s 3)))])), (.op none none (.store (.s 2) (.s 4) 4))]
abbrev QLC : AC := .seq QLB .ret
abbrev QLD : AC := .seq QLA QLC
abbrev QLE : AC := .run [(.op (some 4) none (.box (.s 1))), (.op (some 5) none (.box (.s 2))), (.op (some 6) none (.alloc [(.int .i64 0), (.int .i64 0), (.str []), (.slice .full 0 [])]))]
abbrev QLF : AC := .run [(.op (some 7) none (.mv (.s 0))), (.op (some 8) none (.load (.s 4) true 4)), (.op (some 9) none (.load (.s 5) true 4)), (.op (some 10) none (.bslice [(.int .i64 0), (.int .i64 0), (.str []), (.slice .full 0 [])] 4 2 [(0, (.s 8)), (1, (.s 9))])), (.op (some 11) none (.build [(.int .i64 0), (.int .i64 0), (.str []), (.slice .full 0 [])] [(0, (1, (.s 7))), (3, (1, (.s 10)))])), (.op none none (.store (.s 6) (.s 11) 4))]
abbrev QLG : AC := .seq QLF .ret
abbrev QLH : AC := .seq QLE QLG
abbrev QLI : AC := .run [(.op (some 2) none (.box (.s 0))), (.op (some 4) none (.mv (.k (.int .i64 0))))]
abbrev QLJ : AC := .run [(.op (some 6) none (.faddr (.s 2) 2)), (.op (some 7) none (.load (.s 6) false 1)), (.op (some 8) none (.mv (.s 1))), (.call (some 9) none n_ref3_weighText [(.s 7), (.s 8)]), (.op (some 1) none (.mv (.s 9)))]
abbrev QLK : AC := .run [(.op (some 5) none (.mv (.k (.int .i64 0))))]
abbrev QLL : AC := .run [(.op (some 10) none (.mv (.s 5))), (.op (some 11) none (.faddr (.s 2) 3)), (.op (some 12) none (.load (.s 11) false 1)), (.op (some 13) none (.len (.s 12))), (.op (some 14) none (.bin .lss (.s 10) (.s 13))), (.op (some 15) none (.mv (.s 14))), (.op (some 16) (some (15, true)) (.mv (.s 1))), (.op (some 17) (some (15, true)) (.bin .leq (.s 16) (.k (.int .i64 20000)))), (.op (some 18) none (.pick (.s 15) (.s 17) (.k (.bool false))))]
abbrev QLM : AC := .cond (.s 18) .skip (.exit 0)
abbrev QLN : AC := .seq QLL QLM
abbrev QLO : AC := .run [(.op (some 21) none (.faddr (.s 2) 3)), (.op (some 22) none (.load (.s 21) false 1)), (.op (some 23) none (.mv (.s 5))), (.op (some 24) none (.iaddr (.s 22) (.s 23) 4)), (.op (some 25) none (.load (.s 24) true 4)), (.op (some 26) none (.mv (.s 1))), (.call (some 27) none n_ref3_weighExpr [(.s 25), (.s 26)]), (.op (some 1) none (.mv (.s 27)))]
abbrev QLP : AC := .block 1 QLO
abbrev QLQ : AC := .run [(.op (some 19) none (.mv (.s 5))), (.op (some 20) none (.bin .add (.s 19) (.k (.int .i64 1)))), (.op (some 5) none (.mv (.s 20)))]
abbrev QLR : AC := .seq QLP QLQ
abbrev QLS : AC := .seq QLN QLR
abbrev QLT : AC := .loop QLS
abbrev QLU : AC := .block 0 QLT
abbrev QLV : AC := .seq QLK QLU
abbrev QLW : AC := .run [(.op (some 28) none (.mv (.s 1))), (.op (some 4) none (.mv (.s 28)))]
abbrev QLX : AC := .seq QLW .ret
abbrev QLY : AC := .seq QLV QLX
abbrev QLZ : AC := .seq QLJ QLY
abbrev QM0 : AC := .seq QLI QLZ
abbrev QM1 : AC := .run [(.op (some 2) none (.mv (.k (.int .i64 0))))]
abbrev QM2 : AC := .run [(.op (some 4) none (.mv (.s 0))), (.op (some 5) none (.bin .eql (.s 4) (.k (.int .i64 1)))), (.op (some 6) none (.mv (.s 5))), (.op (some 7) (some (6, false)) (.mv (.s 0))), (.op (some 8) (some (6, false)) (.bin .eql (.s 7) (.k (.int .i64 2)))), (.op (some 9) none (.pick (.s 6) (.k (.bool true)) (.s 8))), (.op (some 3) none (.mv (.s 9)))]
abbrev QM3 : AC := .run [(.op (some 2) none (.mv (.k (.int .i64 0))))]
abbrev QM4 : AC := .seq QM3 .ret
abbrev QM5 : AC := .run [(.op (some 11) none (.mv (.s 0))), (.op (some 12) none (.bin .eql (.s 11) (.k (.int .i64 3)))), (.op (some 13) none (.mv (.s 12))), (.op (some 14) (some (13, false)) (.mv (.s 0))), (.op (some 15) (some (13, false)) (.bin .eql (.s 14) (.k (.int .i64 4)))), (.op (some 16) none (.pick (.s 13) (.k (.bool true)) (.s 15))), (.op (some 10) none (.mv (.s 16)))]
abbrev QM6 : AC := .run [(.op (some 2) none (.mv (.k (.int .i64 1))))]
abbrev QM7 : AC := .seq QM6 .ret
abbrev QM8 : AC := .run [(.op (some 18) none (.mv (.s 0))), (.op (some 19) none (.bin .geq (.s 18) (.k (.int .i64 5)))), (.op (some 20) none (.mv (.s 19))), (.op (some 21) (some (20, true)) (.mv (.s 0))), (.op (some 22) (some (20, true)) (.bin .leq (.s 21) (.k (.int .i64 17)))), (.op (some 23) none (.pick (.s 20) (.s 22) (.k (.bool false)))), (.op (some 17) none (.mv (.s 23)))]
abbrev QM9 : AC := .run [(.op (some 2) none (.mv (.k (.int .i64 2))))]
abbrev QMA : AC := .seq QM9 .ret
abbrev QMB : AC := .cond (.s 17) QMA .skip
abbrev QMC : AC := .seq QM8 QMB
abbrev QMD : AC := .cond (.s 10) QM7 QMC
abbrev QME : AC := .seq QM5 QMD
abbrev QMF : AC := .cond (.s 3) QM4 QME
abbrev QMG : AC := .seq QM2 QMF
abbrev QMH : AC := .block 0 QMG
abbrev QMI : AC := .run [(.op (some 2) none (.mv (.k (.int .i64 (-1)))))]
abbrev QMJ : AC := .seq QMI .ret
abbrev QMK : AC := .seq QMH QMJ
abbrev QML : AC := .seq QM1 QMK
abbrev QMM : AC := .run [(.op (some 1) none (.box (.s 0))), (.op (some 2) none (.mv (.k (.str []))))]
abbrev QMN : AC := .run [(.op (some 4) none (.faddr (.s 1) 0)), (.op (some 5) none (.load (.s 4) false 1)), (.call (some 6) none n_ref3_Arity [(.s 5)])]
abbrev QMO : AC := .run [(.op (some 8) none (.bin .eql (.s 6) (.k (.int .i64 0)))), (.op (some 7) none (.mv (.s 8)))]
abbrev QMP : AC := .run [(.op (some 9) none (.faddr (.s 1) 0)), (.op (some 10) none (.load (.s 9) false 1)), (.op (some 11) none (.bin .eql (.s 10) (.k (.int .i64 2))))]
abbrev QMQ : AC := .run [(.op (some 12) none (.faddr (.s 1) 2)), (.op (some 13) none (.load (.s 12) false 1)), (.op (some 2) none (.mv (.s 13)))]
abbrev QMR : AC := .seq QMQ .ret
abbrev QMS : AC := .cond (.s 11) QMR .skip
abbrev QMT : AC := .seq QMP QMS
abbrev QMU : AC := .run [(.op (some 14) none (.faddr (.s 1) 1)), (.op (some 15) none (.load (.s 14) false 1)), (.call (some 16) none n_ref3_Dec [(.s 15)]), (.op (some 2) none (.mv (.s 16)))]
abbrev QMV : AC := .seq QMU .ret
abbrev QMW : AC := .seq QMT QMV
abbrev QMX : AC := .run [(.op (some 18) none (.bin .eql (.s 6) (.k (.int .i64 1)))), (.op (some 17) none (.mv (.s 18)))]
abbrev QMY : AC := .run [(.op (some 19) none (.faddr (.s 1) 0)), (.op (some 20) none (.load (.s 19) false 1)), (.op (some 21) none (.bin .eql (.s 20) (.k (.int .i64 3))))]
abbrev QMZ : AC := .run [(.op (some 22) none (.faddr (.s 1) 3)), (.op (some 23) none (.load (.s 22) false 1)), (.op (some 24) none (.iaddr (.s 23) (.k (.int .i64 0)) 4)), (.op (some 25) none (.load (.s 24) true 4)), (.call (some 26) none n_ref3_kid [(.s 25), (.k (.int .i64 7))]), (.op (some 27) none (.bin .add (.k (.str [45])) (.s 26))), (.op (some 2) none (.mv (.s 27)))]
abbrev QN0 : AC := .seq QMZ .ret
abbrev QN1 : AC := .cond (.s 21) QN0 .skip
abbrev QN2 : AC := .seq QMY QN1
abbrev QN3 : AC := .run [(.op (some 28) none (.faddr (.s 1) 3)), (.op (some 29) none (.load (.s 28) false 1)), (.op (some 30) none (.iaddr (.s 29) (.k (.int .i64 0)) 4)), (.op (some 31) none (.load (.s 30) true 4)), (.call (some 32) none n_ref3_kid [(.s 31), (.k (.int .i64 7))]), (.op (some 33) none (.bin .add (.k (.str [33])) (.s 32))), (.op (some 2) none (.mv (.s 33)))]
abbrev QN4 : AC := .seq QN3 .ret
abbrev QN5 : AC := .seq QN2 QN4
abbrev QN6 : AC := .cond (.s 17) QN5 .skip
abbrev QN7 : AC := .seq QMX QN6
abbrev QN8 : AC := .cond (.s 7) QMW QN7
abbrev QN9 : AC := .seq QMO QN8
abbrev QNA : AC := .block 0 QN9
abbrev QNB : AC := .seq QMN QNA
abbrev QNC : AC := .run [(.op (some 34) none (.load (.s 1) true 4)), (.call (some 35) none n_ref3_much [(.s 34)]), (.op (some 3) none (.mv (.s 35)))]
abbrev QND : AC := .par [(.op (some 36) none (.faddr (.s 1) 3)), (.op (some 37) none (.load (.s 36) false 1)), (.op (some 38) none (.iaddr (.s 37) (.k (.int .i64 0)) 4)), (.op (some 39) none (.load (.s 38) true 4)), (.op (some 40) none (.mv (.s 3))), (.call (some 41) none n_ref3_kid [(.s 39), (.s 40)]), (.op (some 42) none (.bin .add (.s 41) (.k (.str [32])))), (.op (some 43) none (.faddr (.s 1) 0)), (.op (some 44) none (.load (.s 43) false 1)), (.call (some 45) none n_ref3_sign [(.s 44)]), (.op (some 46) none (.bin .add (.s 42) (.s 45))), (.op (some 47) none (.bin .add (.s 46) (.k (.str [32])))), (.op (some 48) none (.faddr (.s 1) 3)), (.op (some 49) none (.load (.s 48) false 1)), (.op (some 50) none (.iaddr (.s 49) (.k (.int .i64 1)) 4)), (.op (some 51) none (.load (.s 50) true 4)), (.op (some 52) none (.mv (.s 3))), (.op (some 53) none (.bin .add (.s 52) (.k (.int .i64 1)))), (.call (some 54) none n_ref3_kid [(.s 51), (.s 53)]), (.op (some 55) none (.bin .add (.s 47) (.s 54))), (.op (some 2) none (.mv (.s 55)))] [(0, 0), (1, 0), (2, 0), (3, 0), (4, 0), (5, 0), (7, 0), (8, 1), (9, 0), (12, 0), (13, 2), (14, 0), (15, 2), (16, 0), (17, 0), (18, 0), (6, 0), (10, 0), (11, 0), (19, 0), (20, 0)]
abbrev QNE : AC := .seq QND .ret
abbrev QNF : AC := .seq QNC QNE
abbrev QNG : AC := .seq QNB QNF
abbrev QNH : AC := .seq QMM QNG
abbrev QNI : AC := .run [(.op (some 2) none (.alloc [(.int .i64 0), (.int .i64 0), (.str []), (.slice .full 0 [])]))]
abbrev QNJ : AC := .run [(.op (some 3) none (.mv (.s 0))), (.op (some 4) none (.build [(.int .i64 0), (.int .i64 0), (.str []), (.slice .full 0 [])] [(0, (1, (.k (.int .i64 1)))), (1, (1, (.s 3)))])), (.op none none (.store (.s 2) (.s 4) 4))]
abbrev QNK : AC := .seq QNJ .ret
abbrev QNL : AC := .seq QNI QNK
abbrev QNM : AC := .run [(.op (some 4) none (.mv (.k (.bool false))))]
abbrev QNN : AC := .run [(.op (some 5) none (.mv (.s 0))), (.call (some 6) none n_parse_reader_good [(.s 5)]), (.op (some 7) none (.un .not (.s 6))), (.op (some 8) none (.mv (.s 7))), (.op (some 9) (some (8, false)) (.mv (.s 0))), (.op (some 10) (some (8, false)) (.mv (.s 1))), (.call (some 11) (some (8, false)) n_parse_reader_is [(.s 9), (.s 10)]), (.op (some 12) (some (8, false)) (.un .not (.s 11))), (.op (some 13) none (.pick (.s 8) (.k (.bool true)) (.s 12)))]
abbrev QNO : AC := .run [(.op (some 4) none (.mv (.k (.bool false))))]
abbrev QNP : AC := .seq QNO .ret
abbrev QNQ : AC := .cond (.s 13) QNP .skip
abbrev QNR : AC := .seq QNN QNQ
abbrev QNS : AC := .run [(.op (some 14) none (.mv (.s 0))), (.op (some 15) none (.nilck (.s 14))), (.op (some 16) none (.faddr (.s 15) 1)), (.op (some 17) none (.load (.s 16) false 1)), (.op (some 18) none (.bin .add (.s 17) (.k (.int .i64 1)))), (.op (some 19) none (.nilck (.s 14))), (.op (some 20) none (.faddr (.s 19) 1)), (.op none none (.store (.s 20) (.s 18) 1))]
abbrev QNT : AC := .run [(.op (some 4) none (.mv (.k (.bool true))))]
abbrev QNU : AC := .seq QNT .ret
abbrev QNV : AC := .seq QNS QNU
abbrev QNW : AC := .seq QNR QNV
abbrev QNX : AC := .seq QNM QNW
abbrev QNY : AC := .run [(.op (some 6) none (.mv (.k (.slice .full 0 []))))]
abbrev QNZ : AC := .run [(.op (some 7) none (.mv (.s 0))), (.call (some 8) none n_parse_reader_good [(.s 7)])]
abbrev QO0 : AC := .cond (.s 8) .skip (.exit 0)
abbrev QO1 : AC := .seq QNZ QO0
abbrev QO2 : AC := .run [(.op (some 9) none (.mv (.s 1))), (.op (some 10) none (.mv (.s 0))), (.op (some 11) none (.mv (.s 1))), (.op (some 12) none (.len (.s 11))), (.op (some 13) none (.mv (.s 2))), (.op (some 14) none (.bin .lss (.s 12) (.s 13))), (.call (some 15) none n_parse_reader_name [(.s 10), (.s 14)]), (.op (some 16) none (.bslice [(.str [])] 1 1 [(0, (.s 15))])), (.op (some 17) none (.app 1 16 (.s 9) (.s 16))), (.op (some 1) none (.mv (.s 17)))]
abbrev QO3 : AC := .run [(.op (some 18) none (.mv (.s 0))), (.call (some 19) none n_parse_reader_take [(.s 18), (.k (.str [44]))]), (.op (some 20) none (.un .not (.s 19)))]
abbrev QO4 : AC := .run [(.op (some 21) none (.mv (.s 0))), (.call (some 22) none n_parse_reader_want [(.s 21), (.k (.str [59]))])]
abbrev QO5 : AC := .run [(.op (some 23) none (.mv (.s 1))), (.op (some 6) none (.mv (.s 23)))]
abbrev QO6 : AC := .seq QO5 .ret
abbrev QO7 : AC := .seq QO4 QO6
abbrev QO8 : AC := .cond (.s 20) QO7 .skip
abbrev QO9 : AC := .seq QO3 QO8
abbrev QOA : AC := .seq QO2 QO9
abbrev QOB : AC := .block 1 QOA
abbrev QOC : AC := .seq QO1 QOB
abbrev QOD : AC := .loop QOC
abbrev QOE : AC := .block 0 QOD
abbrev QOF : AC := .run [(.op (some 24) none (.mv (.s 1))), (.op (some 6) none (.mv (.s 24)))]
abbrev QOG : AC := .seq QOF .ret
abbrev QOH : AC := .seq QOE QOG
abbrev QOI : AC := .seq QNY QOH
abbrev QOJ : AC := .run [(.op (some 4) none (.mv (.k (.bool false))))]
abbrev QOK : AC := .run [(.op (some 6) none (.mv (.s 0))), (.call (some 7) none n_parse_reader_peek [(.s 6)]), (.op (some 5) none (.alloc [(.int .i64 0), (.str []), (.int .i64 0), (.int .i64 0)])), (.op none none (.store (.s 5) (.s 7) 4))]
abbrev QOL : AC := .run [(.op (some 8) none (.faddr (.s 5) 0)), (.op (some 9) none (.load (.s 8) false 1)), (.op (some 10) none (.bin .eql (.s 9) (.k (.int .i64 3)))), (.op (some 11) none (.mv (.s 10))), (.op (some 12) (some (11, false)) (.faddr (.s 5) 0)), (.op (some 13) (some (11, false)) (.load (.s 12) false 1)), (.op (some 14) (some (11, false)) (.bin .eql (.s 13) (.k (.int .i64 4)))), (.op (some 15) none (.pick (.s 11) (.k (.bool true)) (.s 14))), (.op (some 16) none (.mv (.s 15))), (.op (some 17) (some (16, true)) (.faddr (.s 5) 1)), (.op (some 18) (some (16, true)) (.load (.s 17) false 1)), (.op (some 19) (some (16, true)) (.mv (.s 1))), (.op (some 20) (some (16, true)) (.bin .eql (.s 18) (.s 19))), (.op (some 21) none (.pick (.s 16) (.s 20) (.k (.bool false)))), (.op (some 4) none (.mv (.s 21)))]
abbrev QOM : AC := .seq QOL .ret
abbrev QON : AC := .seq QOK QOM
abbrev QOO : AC := .seq QOJ QON
abbrev QOP : AC := .run [(.op (some 2) none (.alloc [(.str []), (.slice .full 0 []), (.slice .full 0 []), (.slice .full 0 []), (.slice .full 0 [])]))]
abbrev QOQ : AC := .run [(.op (some 5) none (.mv (.s 0))), (.call (some 6) none n_parse_reader_name [(.s 5), (.k (.bool true))]), (.op (some 7) none (.build [(.str []), (.slice .full 0 []), (.slice .full 0 []), (.slice .full 0 []), (.slice .full 0 [])] [(0, (1, (.s 6)))])), (.op (some 3) none (.alloc [(.str []), (.slice .full 0 []), (.slice .full 0 []), (.slice .full 0 []), (.slice .full 0 [])])), (.op none none (.store (.s 3) (.s 7) 5))]
abbrev QOR : AC := .run [(.op (some 8) none (.mv (.s 0))), (.call (some 9) none n_parse_reader_want [(.s 8), (.k (.str [40]))])]
abbrev QOS : AC := .run [(.op (some 10) none (.mv (.s 0))), (.call (some 11) none n_parse_reader_good [(.s 10)]), (.op (some 12) none (.mv (.s 11))), (.op (some 13) (some (12, true)) (.mv (.s 0))), (.call (some 14) (some (12, true)) n_parse_reader_is [(.s 13), (.k (.str [41]))]), (.op (some 15) (some (12, true)) (.un .not (.s 14))), (.op (some 16) none (.pick (.s 12) (.s 15) (.k (.bool false))))]
abbrev QOT : AC := .run [(.op (some 17) none (.mv (.s 0))), (.call (some 18) none n_parse_reader_good [(.s 17)])]
abbrev QOU : AC := .cond (.s 18) .skip (.exit 0)
abbrev QOV : AC := .seq QOT QOU
abbrev QOW : AC := .run [(.op (some 19) none (.mv (.s 0))), (.call (some 20) none n_parse_reader_take [(.s 19), (.k (.str [114, 101, 102]))]), (.op (some 4) none (.mv (.s 20)))]
abbrev QOX : AC := .par [(.op (some 21) none (.faddr (.s 3) 1)), (.op (some 22) none (.load (.s 21) false 1)), (.op (some 23) none (.mv (.s 0))), (.op (some 24) none (.faddr (.s 3) 1)), (.op (some 25) none (.load (.s 24) false 1)), (.op (some 26) none (.len (.s 25))), (.op (some 27) none (.bin .lss (.s 26) (.k (.int .i64 8)))), (.call (some 28) none n_parse_reader_name [(.s 23), (.s 27)]), (.op (some 29) none (.mv (.s 4))), (.op (some 30) none (.build [(.str []), (.bool false)] [(0, (1, (.s 28))), (1, (1, (.s 29)))])), (.op (some 31) none (.bslice [(.str []), (.bool false)] 2 1 [(0, (.s 30))])), (.op (some 32) none (.app 2 24 (.s 22) (.s 31))), (.op (some 33) none (.faddr (.s 3) 1)), (.op none none (.store (.s 33) (.s 32) 1))] [(2, 0), (3, 0), (4, 0), (5, 0), (6, 0), (7, 0), (0, 0), (1, 1), (8, 0), (9, 0), (10, 0), (11, 0), (12, 0), (13, 0)]
abbrev QOY : AC := .run [(.op (some 34) none (.mv (.s 0))), (.call (some 35) none n_parse_reader_take [(.s 34), (.k (.str [44]))]), (.op (some 36) none (.un .not (.s 35)))]
abbrev QOZ : AC := .cond (.s 36) (.exit 0) .skip
abbrev QP0 : AC := .seq QOY QOZ
abbrev QP1 : AC := .seq QOX QP0
abbrev QP2 : AC := .seq QOW QP1
abbrev QP3 : AC := .block 1 QP2
abbrev QP4 : AC := .seq QOV QP3
abbrev QP5 : AC := .loop QP4
abbrev QP6 : AC := .block 0 QP5
abbrev QP7 : AC := .cond (.s 16) QP6 .skip
abbrev QP8 : AC := .seq QOS QP7
abbrev QP9 : AC := .run [(.op (some 37) none (.mv (.s 0))), (.call (some 38) none n_parse_reader_want [(.s 37), (.k (.str [41]))])]
abbrev QPA : AC := .run [(.op (some 39) none (.mv (.s 0))), (.call (some 40) none n_parse_reader_want [(.s 39), (.k (.str [123]))])]
abbrev QPB : AC := .run [(.op (some 41) none (.mv (.s 0))), (.call (some 42) none n_parse_reader_take [(.s 41), (.k (.str [118, 97, 114]))])]
abbrev QPC : AC := .cond (.s 42) .skip (.exit 2)
abbrev QPD : AC := .seq QPB QPC
abbrev QPE : AC := .run [(.op (some 43) none (.mv (.s 0))), (.op (some 44) none (.faddr (.s 3) 2)), (.op (some 45) none (.load (.s 44) false 1)), (.call (some 46) none n_parse_reader_names [(.s 43), (.s 45), (.k (.int .i64 16))]), (.op (some 47) none (.faddr (.s 3) 2)), (.op none none (.store (.s 47) (.s 46) 1))]
abbrev QPF : AC := .block 3 QPE
abbrev QPG : AC := .seq QPD QPF
abbrev QPH : AC := .loop QPG
abbrev QPI : AC := .block 2 QPH
abbrev QPJ : AC := .run [(.op (some 49) none (.mv (.s 0))), (.call (some 50) none n_parse_reader_rows [(.s 49), (.k (.int .i64 1)), (.k (.bool true))]), (.op (some 48) none (.mv (.s 50))), (.op (some 51) none (.ext (.s 48) 0)), (.op (some 52) none (.ext (.s 48) 1)), (.op (some 53) none (.faddr (.s 3) 3)), (.op none none (.store (.s 53) (.s 51) 1)), (.op (some 54) none (.faddr (.s 3) 4)), (.op none none (.store (.s 54) (.s 52) 1))]
abbrev QPK : AC := .run [(.op (some 55) none (.load (.s 3) true 5)), (.op none none (.store (.s 2) (.s 55) 5))]
abbrev QPL : AC := .seq QPK .ret
abbrev QPM : AC := .seq QPJ QPL
abbrev QPN : AC := .seq QPI QPM
abbrev QPO : AC := .seq QPA QPN
abbrev QPP : AC := .seq QP9 QPO
abbrev QPQ : AC := .seq QP8 QPP
abbrev QPR : AC := .seq QOR QPQ
abbrev QPS : AC := .seq QOQ QPR
abbrev QPT : AC := .seq QOP QPS
abbrev QPU : AC := .run [(.op (some 2) none (.mv (.k (.slice .full 0 []))))]
abbrev QPV : AC := .run [(.op (some 3) none (.mv (.s 0))), (.nil (some 4) none false (.s 3))]
abbrev QPW : AC := .run [(.op (some 2) none (.mv (.k (.slice .full 0 []))))]
abbrev QPX : AC := .seq QPW .ret
abbrev QPY : AC := .cond (.s 4) QPX .skip
abbrev QPZ : AC := .seq QPV QPY
abbrev QQ0 : AC := .run [(.op (some 5) none (.bslice [(.str [])] 1 0 [])), (.op (some 6) none (.mv (.s 0))), (.op (some 7) none (.app 1 16 (.s 5) (.s 6))), (.op (some 2) none (.mv (.s 7)))]
abbrev QQ1 : AC := .seq QQ0 .ret
abbrev QQ2 : AC := .seq QPZ QQ1
abbrev QQ3 : AC := .seq QPU QQ2
abbrev QQ4 : AC := .run [(.op (some 2) none (.mv (.k (.slice .full 0 []))))]
abbrev QQ5 : AC := .run [(.op (some 3) none (.mv (.s 0))), (.nil (some 4) none false (.s 3))]
abbrev QQ6 : AC := .run [(.op (some 2) none (.mv (.k (.slice .full 0 []))))]
abbrev QQ7 : AC := .seq QQ6 .ret
abbrev QQ8 : AC := .cond (.s 4) QQ7 .skip
abbrev QQ9 : AC := .seq QQ5 QQ8
abbrev QQA : AC := .run [(.op (some 5) none (.bslice [(.str []), (.bool false)] 2 0 [])), (.op (some 6) none (.mv (.s 0))), (.op (some 7) none (.app 2 24 (.s 5) (.s 6))), (.op (some 2) none (.mv (.s 7)))]
abbrev QQB : AC := .seq QQA .ret
abbrev QQC : AC := .seq QQ9 QQB
abbrev QQD : AC := .seq QQ4 QQC
abbrev QQE : AC := .run [(.op (some 6) none (.mv (.k (.slice .full 0 [])))), (.op (some 7) none (.mv (.k (.int .i64 0))))]
abbrev QQF : AC := .run [(.op (some 8) none (.mv (.k (.slice .full 0 []))))]
abbrev QQG : AC := .run [(.op (some 14) none (.mv (.s 0))), (.op (some 15) none (.len (.s 14))), (.op (some 16) none (.mv (.k (.int .i64 0))))]
abbrev QQH : AC := .run [(.op (some 17) none (.bin .lss (.s 16) (.s 15)))]
abbrev QQI : AC := .cond (.s 17) .skip (.exit 0)
abbrev QQJ : AC := .run [(.op (some 18) none (.iaddr (.s 14) (.s 16) 13)), (.op (some 19) none (.load (.s 18) true 13)), (.op (some 10) none (.alloc [(.int .i64 0), (.int .i64 0), (.slice .full 0 []), (.str []), (.str []), (.int .i64 0), (.int .i64 0), (.str []), (.slice .full 0 []), (.bool false), (.slice .full 0 []), (.slice .full 0 []), (.slice .full 0 [])])), (.op none none (.store (.s 10) (.s 19) 13))]
abbrev QQK : AC := .run [(.op (some 20) none (.mv (.s 1))), (.op (some 21) none (.bin .add (.s 20) (.k (.int .i64 1)))), (.op (some 1) none (.mv (.s 21)))]
abbrev QQL : AC := .run [(.op (some 22) none (.load (.s 10) true 13)), (.op (some 11) none (.alloc [(.int .i64 0), (.int .i64 0), (.slice .full 0 []), (.str []), (.str []), (.int .i64 0), (.int .i64 0), (.str []), (.slice .full 0 []), (.bool false), (.slice .full 0 []), (.slice .full 0 []), (.slice .full 0 [])])), (.op none none (.store (.s 11) (.s 22) 13))]
abbrev QQM : AC := .run [(.op (some 23) none (.mv (.s 2)))]
abbrev QQN : AC := .run [(.op (some 24) none (.mv (.s 1))), (.op (some 25) none (.faddr (.s 11) 0)), (.op none none (.store (.s 25) (.s 24) 1))]
abbrev QQO : AC := .cond (.s 23) QQN .skip
abbrev QQP : AC := .seq QQM QQO
abbrev QQQ : AC := .par [(.op (some 26) none (.faddr (.s 10) 2)), (.op (some 27) none (.load (.s 26) false 1)), (.call (some 28) none n_slices_Clone_string [(.s 27)]), (.op (some 29) none (.faddr (.s 10) 5)), (.op (some 30) none (.load (.s 29) true 4)), (.call (some 31) none n_tree_expr [(.s 30)]), (.op (some 32) none (.faddr (.s 11) 2)), (.op none none (.store (.s 32) (.s 28) 1)), (.op (some 33) none (.faddr (.s 11) 5)), (.op none none (.store (.s 33) (.s 31) 4)), (.op (some 34) none (.faddr (.s 11) 10)), (.op none none (.store (.s 34) (.k (.slice .full 0 [])) 1))] [(0, 0), (1, 0), (2, 0), (3, 0), (4, 1), (5, 0), (6, 0), (7, 0), (8, 0), (9, 0), (10, 0), (11, 0)]
abbrev QQR : AC := .run [(.op (some 35) none (.faddr (.s 10) 10)), (.op (some 36) none (.load (.s 35) false 1)), (.op (some 37) none (.len (.s 36))), (.op (some 38) none (.mv (.k (.int .i64 0))))]
abbrev QQS : AC := .run [(.op (some 39) none (.bin .lss (.s 38) (.s 37)))]
abbrev QQT : AC := .cond (.s 39) .skip (.exit 2)
abbrev QQU : AC := .run [(.op (some 40) none (.iaddr (.s 36) (.s 38) 6)), (.op (some 41) none (.load (.s 40) true 6)), (.op (some 13) none (.alloc [(.bool false), (.str []), (.int .i64 0), (.int .i64 0), (.str []), (.slice .full 0 [])])), (.op none none (.store (.s 13) (.s 41) 6))]
abbrev QQV : AC := .run [(.op (some 42) none (.faddr (.s 13) 2)), (.op (some 43) none (.load (.s 42) true 4)), (.call (some 44) none n_tree_expr [(.s 43)]), (.op (some 45) none (.faddr (.s 13) 2)), (.op none none (.store (.s 45) (.s 44) 4))]
abbrev QQW : AC := .run [(.op (some 46) none (.faddr (.s 11) 10)), (.op (some 47) none (.load (.s 46) false 1)), (.op (some 48) none (.load (.s 13) true 6)), (.op (some 49) none (.bslice [(.bool false), (.str []), (.int .i64 0), (.int .i64 0), (.str []), (.slice .full 0 [])] 6 1 [(0, (.s 48))])), (.op (some 50) none (.app 6 80 (.s 47) (.s 49))), (.op (some 51) none (.faddr (.s 11) 10)), (.op none none (.store (.s 51) (.s 50) 1))]
abbrev QQX : AC := .seq QQV QQW
abbrev QQY : AC := .seq QQU QQX
abbrev QQZ : AC := .block 3 QQY
abbrev QR0 : AC := .run [(.op (some 52) none (.bin .add (.s 38) (.k (.int .i64 1)))), (.op (some 38) none (.mv (.s 52)))]
abbrev QR1 : AC := .seq QQZ QR0
abbrev QR2 : AC := .seq QQT QR1
abbrev QR3 : AC := .seq QQS QR2
abbrev QR4 : AC := .loop QR3
abbrev QR5 : AC := .block 2 QR4
abbrev QR6 : AC := .seq QQR QR5
abbrev QR7 : AC := .run [(.op (some 54) none (.faddr (.s 10) 11)), (.op (some 55) none (.load (.s 54) false 1)), (.op (some 56) none (.mv (.s 1))), (.op (some 57) none (.mv (.s 2))), (.call (some 58) none n_tree_copied [(.s 55), (.s 56), (.s 57)]), (.op (some 53) none (.mv (.s 58))), (.op (some 59) none (.ext (.s 53) 0)), (.op (some 60) none (.ext (.s 53) 1)), (.op (some 61) none (.faddr (.s 11) 11)), (.op none none (.store (.s 61) (.s 59) 1)), (.op (some 1) none (.mv (.s 60)))]
abbrev QR8 : AC := .run [(.op (some 63) none (.faddr (.s 10) 12)), (.op (some 64) none (.load (.s 63) false 1)), (.op (some 65) none (.mv (.s 1))), (.op (some 66) none (.mv (.s 2))), (.call (some 67) none n_tree_copied [(.s 64), (.s 65), (.s 66)]), (.op (some 62) none (.mv (.s 67))), (.op (some 68) none (.ext (.s 62) 0)), (.op (some 69) none (.ext (.s 62) 1)), (.op (some 70) none (.faddr (.s 11) 12)), (.op none none (.store (.s 70) (.s 68) 1)), (.op (some 1) none (.mv (.s 69)))]
abbrev QR9 : AC := .run [(.op (some 71) none (.mv (.s 8))), (.op (some 72) none (.load (.s 11) true 13)), (.op (some 73) none (.bslice [(.int .i64 0), (.int .i64 0), (.slice .full 0 []), (.str []), (.str []), (.int .i64 0), (.int .i64 0), (.str []), (.slice .full 0 []), (.bool false), (.slice .full 0 []), (.slice .full 0 []), (.slice .full 0 [])] 13 1 [(0, (.s 72))])), (.op (some 74) none (.app 13 208 (.s 71) (.s 73))), (.op (some 8) none (.mv (.s 74)))]
abbrev QRA : AC := .seq QR8 QR9
abbrev QRB : AC := .seq QR7 QRA
abbrev QRC : AC := .seq QR6 QRB
abbrev QRD : AC := .seq QQQ QRC
abbrev QRE : AC := .seq QQP QRD
abbrev QRF : AC := .seq QQL QRE
abbrev QRG : AC := .seq QQK QRF
abbrev QRH : AC := .seq QQJ QRG
abbrev QRI : AC := .block 1 QRH
abbrev QRJ : AC := .run [(.op (some 75) none (.bin .add (.s 16) (.k (.int .i64 1)))), (.op (some 16) none (.mv (.s 75)))]
abbrev QRK : AC := .seq QRI QRJ
abbrev QRL : AC := .seq QQI QRK
abbrev QRM : AC := .seq QQH QRL
abbrev QRN : AC := .loop QRM
abbrev QRO : AC := .block 0 QRN
abbrev QRP : AC := .seq QQG QRO
abbrev QRQ : AC := .run [(.op (some 76) none (.mv (.s 8))), (.op (some 77) none (.mv (.s 1))), (.op (some 6) none (.mv (.s 76))), (.op (some 7) none (.mv (.s 77)))]
abbrev QRR : AC := .seq QRQ .ret
abbrev QRS : AC := .seq QRP QRR
abbrev QRT : AC := .seq QQF QRS
abbrev QRU : AC := .seq QQE QRT
abbrev QRV : AC := .run [(.op (some 2) none (.box (.s 0))), (.op (some 3) none (.box (.s 1))), (.op (some 4) none (.mv (.k (.bool false))))]
abbrev QRW : AC := .run [(.op (some 6) none (.faddr (.s 2) 0)), (.op (some 7) none (.load (.s 6) false 1)), (.op (some 8) none (.faddr (.s 3) 0)), (.op (some 9) none (.load (.s 8) false 1)), (.op (some 10) none (.bin .neq (.s 7) (.s 9))), (.op (some 11) none (.mv (.s 10))), (.op (some 12) (some (11, false)) (.faddr (.s 2) 1)), (.op (some 13) (some (11, false)) (.load (.s 12) false 1)), (.op (some 14) (some (11, false)) (.faddr (.s 3) 1)), (.op (some 15) (some (11, false)) (.load (.s 14) false 1)), (.op (some 16) (some (11, false)) (.bin .neq (.s 13) (.s 15))), (.op (some 17) none (.pick (.s 11) (.k (.bool true)) (.s 16))), (.op (some 18) none (.mv (.s 17))), (.op (some 19) (some (18, false)) (.faddr (.s 2) 3)), (.op (some 20) (some (18, false)) (.load (.s 19) false 1)), (.op (some 21) (some (18, false)) (.faddr (.s 3) 3)), (.op (some 22) (some (18, false)) (.load (.s 21) false 1)), (.op (some 23) (some (18, false)) (.bin .neq (.s 20) (.s 22))), (.op (some 24) none (.pick (.s 18) (.k (.bool true)) (.s 23))), (.op (some 25) none (.mv (.s 24))), (.op (some 26) (some (25, false)) (.faddr (.s 2) 4)), (.op (some 27) (some (25, false)) (.load (.s 26) false 1)), (.op (some 28) (some (25, false)) (.faddr (.s 3) 4)), (.op (some 29) (some (25, false)) (.load (.s 28) false 1)), (.op (some 30) (some (25, false)) (.bin .neq (.s 27) (.s 29))), (.op (some 31) none (.pick (.s 25) (.k (.bool true)) (.s 30))), (.op (some 32) none (.mv (.s 31))), (.op (some 33) (some (32, false)) (.faddr (.s 2) 9)), (.op (some 34) (some (32, false)) (.load (.s 33) false 1)), (.op (some 35) (some (32, false)) (.faddr (.s 3) 9)), (.op (some 36) (some (32, false)) (.load (.s 35) false 1)), (.op (some 37) (some (32, false)) (.eqb true (.s 34) (.s 36))), (.op (some 38) none (.pick (.s 32) (.k (.bool true)) (.s 37))), (.op (some 39) none (.mv (.s 38))), (.op (some 40) (some (39, false)) (.faddr (.s 2) 2)), (.op (some 41) (some (39, false)) (.load (.s 40) false 1)), (.op (some 42) (some (39, false)) (.faddr (.s 3) 2)), (.op (some 43) (some (39, false)) (.load (.s 42) false 1)), (.call (some 44) (some (39, false)) n_ref3_EqTexts [(.s 41), (.s 43)]), (.op (some 45) (some (39, false)) (.un .not (.s 44))), (.op (some 46) none (.pick (.s 39) (.k (.bool true)) (.s 45))), (.op (some 47) none (.mv (.s 46))), (.op (some 48) (some (47, false)) (.faddr (.s 2) 5)), (.op (some 49) (some (47, false)) (.load (.s 48) true 4)), (.op (some 50) (some (47, false)) (.faddr (.s 3) 5)), (.op (some 51) (some (47, false)) (.load (.s 50) true 4)), (.call (some 52) (some (47, false)) n_ref3_EqExpr [(.s 49), (.s 51)]), (.op (some 53) (some (47, false)) (.un .not (.s 52))), (.op (some 54) none (.pick (.s 47) (.k (.bool true)) (.s 53))), (.op (some 55) none (.mv (.s 54))), (.op (some 56) (some (55, false)) (.faddr (.s 2) 10)), (.op (some 57) (some (55, false)) (.load (.s 56) false 1)), (.op (some 58) (some (55, false)) (.len (.s 57))), (.op (some 59) (some (55, false)) (.faddr (.s 3) 10)), (.op (some 60) (some (55, false)) (.load (.s 59) false 1)), (.op (some 61) (some (55, false)) (.len (.s 60))), (.op (some 62) (some (55, false)) (.bin .neq (.s 58) (.s 61))), (.op (some 63) none (.pick (.s 55) (.k (.bool true)) (.s 62)))]
abbrev QRX : AC := .run [(.op (some 4) none (.mv (.k (.bool false))))]
abbrev QRY : AC := .seq QRX .ret
abbrev QRZ : AC := .cond (.s 63) QRY .skip
abbrev QS0 : AC := .seq QRW QRZ
abbrev QS1 : AC := .run [(.op (some 64) none (.faddr (.s 2) 10)), (.op (some 65) none (.load (.s 64) false 1)), (.op (some 66) none (.len (.s 65))), (.op (some 67) none (.mv (.k (.int .i64 0))))]
abbrev QS2 : AC := .run [(.op (some 68) none (.bin .lss (.s 67) (.s 66)))]
abbrev QS3 : AC := .cond (.s 68) .skip (.exit 0)
abbrev QS4 : AC := .run [(.op (some 69) none (.mv (.s 67))), (.op (some 5) none (.mv (.s 69)))]
abbrev QS5 : AC := .par [(.op (some 70) none (.faddr (.s 2) 10)), (.op (some 71) none (.load (.s 70) false 1)), (.op (some 72) none (.mv (.s 5))), (.op (some 73) none (.iaddr (.s 71) (.s 72) 6)), (.op (some 74) none (.faddr (.s 73) 0)), (.op (some 75) none (.load (.s 74) false 1)), (.op (some 76) none (.faddr (.s 3) 10)), (.op (some 77) none (.load (.s 76) false 1)), (.op (some 78) none (.mv (.s 5))), (.op (some 79) none (.iaddr (.s 77) (.s 78) 6)), (.op (some 80) none (.faddr (.s 79) 0)), (.op (some 81) none (.load (.s 80) false 1)), (.op (some 82) none (.eqb true (.s 75) (.s 81))), (.op (some 83) none (.mv (.s 82))), (.op (some 84) (some (83, false)) (.faddr (.s 2) 10)), (.op (some 85) (some (83, false)) (.load (.s 84) false 1)), (.op (some 86) (some (83, false)) (.mv (.s 5))), (.op (some 87) (some (83, false)) (.iaddr (.s 85) (.s 86) 6)), (.op (some 88) (some (83, false)) (.faddr (.s 87) 1)), (.op (some 89) (some (83, false)) (.load (.s 88) false 1)), (.op (some 90) (some (83, false)) (.faddr (.s 3) 10)), (.op (some 91) (some (83, false)) (.load (.s 90) false 1)), (.op (some 92) (some (83, false)) (.mv (.s 5))), (.op (some 93) (some (83, false)) (.iaddr (.s 91) (.s 92) 6)), (.op (some 94) (some (83, false)) (.faddr (.s 93) 1)), (.op (some 95) (some (83, false)) (.load (.s 94) false 1)), (.op (some 96) (some (83, false)) (.bin .neq (.s 89) (.s 95))), (.op (some 97) none (.pick (.s 83) (.k (.bool true)) (.s 96))), (.op (some 98) none (.mv (.s 97))), (.op (some 99) (some (98, false)) (.faddr (.s 2) 10)), (.op (some 100) (some (98, false)) (.load (.s 99) false 1)), (.op (some 101) (some (98, false)) (.mv (.s 5))), (.op (some 102) (some (98, false)) (.iaddr (.s 100) (.s 101) 6)), (.op (some 103) (some (98, false)) (.faddr (.s 102) 2)), (.op (some 104) (some (98, false)) (.load (.s 103) true 4)), (.op (some 105) (some (98, false)) (.faddr (.s 3) 10)), (.op (some 106) (some (98, false)) (.load (.s 105) false 1)), (.op (some 107) (some (98, false)) (.mv (.s 5))), (.op (some 108) (some (98, false)) (.iaddr (.s 106) (.s 107) 6)), (.op (some 109) (some (98, false)) (.faddr (.s 108) 2)), (.op (some 110) (some (98, false)) (.load (.s 109) true 4)), (.call (some 111) (some (98, false)) n_ref3_EqExpr [(.s 104), (.s 110)]), (.op (some 112) (some (98, false)) (.un .not (.s 111))), (.op (some 113) none (.pick (.s 98) (.k (.bool true)) (.s 112)))] [(0, 0), (1, 0), (2, 0), (3, 0), (4, 0), (5, 0), (6, 0), (7, 0), (8, 0), (9, 0), (10, 0), (11, 0), (12, 0), (13, 0), (14, 0), (15, 0), (16, 0), (17, 0), (18, 0), (19, 0), (20, 0), (21, 0), (22, 0), (23, 0), (24, 0), (25, 0), (26, 0), (27, 0), (28, 0), (29, 0), (30, 0), (31, 0), (32, 0), (33, 0), (34, 0), (35, 0), (36, 0), (37, 0), (38, 0), (39, 0), (40, 0), (41, 0), (42, 0), (43, 0)]
abbrev QS6 : AC := .run [(.op (some 4) none (.mv (.k (.bool false))))]
abbrev QS7 : AC := .seq QS6 .ret
abbrev QS8 : AC := .cond (.s 113) QS7 .skip
abbrev QS9 : AC := .seq QS5 QS8
abbrev QSA : AC := .seq QS4 QS9
abbrev QSB : AC := .block 1 QSA
abbrev QSC : AC := .run [(.op (some 114) none (.bin .add (.s 67) (.k (.int .i64 1)))), (.op (some 67) none (.mv (.s 114)))]
abbrev QSD : AC := .seq QSB QSC
abbrev QSE : AC := .seq QS3 QSD
abbrev QSF : AC := .seq QS2 QSE
abbrev QSG : AC := .loop QSF
abbrev QSH : AC := .block 0 QSG
abbrev QSI : AC := .seq QS1 QSH
abbrev QSJ : AC := .run [(.op (some 115) none (.faddr (.s 2) 11)), (.op (some 116) none (.load (.s 115) false 1)), (.op (some 117) none (.faddr (.s 3) 11)), (.op (some 118) none (.load (.s 117) false 1)), (.call (some 119) none n_ref3_EqStmts [(.s 116), (.s 118)]), (.op (some 120) none (.mv (.s 119))), (.op (some 121) (some (120, true)) (.faddr (.s 2) 12)), (.op (some 122) (some (120, true)) (.load (.s 121) false 1)), (.op (some 123) (some (120, true)) (.faddr (.s 3) 12)), (.op (some 124) (some (120, true)) (.load (.s 123) false 1)), (.call (some 125) (some (120, true)) n_ref3_EqStmts [(.s 122), (.s 124)]), (.op (some 126) none (.pick (.s 120) (.s 125) (.k (.bool false)))), (.op (some 4) none (.mv (.s 126)))]
abbrev QSK : AC := .seq QSJ .ret
abbrev QSL : AC := .seq QSI QSK
abbrev QSM : AC := .seq QS0 QSL
abbrev QSN : AC := .seq QRV QSM
abbrev QSO : AC := .run [(.op (some 4) none (.alloc [(.int .i64 0), (.int .i64 0), (.str []), (.slice .full 0 [])]))]
abbrev QSP : AC := .run [(.op (some 9) none (.mv (.s 0))), (.call (some 10) none n_parse_reader_one [(.s 9)]), (.op (some 5) none (.alloc [(.int .i64 0), (.int .i64 0), (.str []), (.slice .full 0 [])])), (.op none none (.store (.s 5) (.s 10) 4))]
abbrev QSQ : AC := .run [(.op (some 11) none (.mv (.s 0))), (.call (some 12) none n_parse_reader_good [(.s 11)])]
abbrev QSR : AC := .cond (.s 12) .skip (.exit 0)
abbrev QSS : AC := .seq QSQ QSR
abbrev QST : AC := .run [(.op (some 14) none (.mv (.s 0))), (.call (some 15) none n_parse_reader_peek [(.s 14)]), (.call (some 16) none n_parse_op [(.s 15)]), (.op (some 13) none (.mv (.s 16))), (.op (some 17) none (.ext (.s 13) 0)), (.op (some 18) none (.ext (.s 13) 1)), (.op (some 6) none (.mv (.s 17))), (.op (some 7) none (.mv (.s 18)))]
abbrev QSU : AC := .run [(.op (some 19) none (.mv (.s 7))), (.op (some 20) none (.mv (.s 1))), (.op (some 21) none (.bin .lss (.s 19) (.s 20))), (.op (some 22) none (.mv (.s 21))), (.op (some 23) (some (22, false)) (.mv (.s 6))), (.op (some 24) (some (22, false)) (.bin .eql (.s 23) (.k (.int .i64 0)))), (.op (some 25) none (.pick (.s 22) (.k (.bool true)) (.s 24)))]
abbrev QSV : AC := .run [(.op (some 26) none (.load (.s 5) true 4)), (.op none none (.store (.s 4) (.s 26) 4))]
abbrev QSW : AC := .seq QSV .ret
abbrev QSX : AC := .cond (.s 25) QSW .skip
abbrev QSY : AC := .seq QSU QSX
abbrev QSZ : AC := .run [(.op (some 27) none (.mv (.s 0))), (.op (some 28) none (.nilck (.s 27))), (.op (some 29) none (.faddr (.s 28) 1)), (.op (some 30) none (.load (.s 29) false 1)), (.op (some 31) none (.bin .add (.s 30) (.k (.int .i64 1)))), (.op (some 32) none (.nilck (.s 27))), (.op (some 33) none (.faddr (.s 32) 1)), (.op none none (.store (.s 33) (.s 31) 1))]
abbrev QT0 : AC := .run [(.op (some 34) none (.mv (.s 0))), (.op (some 35) none (.mv (.s 7))), (.op (some 36) none (.bin .add (.s 35) (.k (.int .i64 1)))), (.call (some 37) none n_parse_reader_two [(.s 34), (.s 36)]), (.op (some 8) none (.alloc [(.int .i64 0), (.int .i64 0), (.str []), (.slice .full 0 [])])), (.op none none (.store (.s 8) (.s 37) 4))]
abbrev QT1 : AC := .run [(.op (some 38) none (.mv (.s 6))), (.op (some 39) none (.load (.s 5) true 4)), (.op (some 40) none (.load (.s 8) true 4)), (.op (some 41) none (.bslice [(.int .i64 0), (.int .i64 0), (.str []), (.slice .full 0 [])] 4 2 [(0, (.s 39)), (1, (.s 40))])), (.op (some 42) none (.build [(.int .i64 0), (.int .i64 0), (.str []), (.slice .full 0 [])] [(0, (1, (.s 38))), (3, (1, (.s 41)))])), (.op none none (.store (.s 5) (.s 42) 4))]
abbrev QT2 : AC := .seq QT0 QT1
abbrev QT3 : AC := .seq QSZ QT2
abbrev QT4 : AC := .seq QSY QT3
abbrev QT5 : AC := .seq QST QT4
abbrev QT6 : AC := .block 1 QT5
abbrev QT7 : AC := .seq QSS QT6
abbrev QT8 : AC := .loop QT7
abbrev QT9 : AC := .block 0 QT8
abbrev QTA : AC := .run [(.op (some 43) none (.load (.s 5) true 4)), (.op none none (.store (.s 4) (.s 43) 4))]
abbrev QTB : AC := .seq QTA .ret
abbrev QTC : AC := .seq QT9 QTB
abbrev QTD : AC := .seq QSP QTC
abbrev QTE : AC := .seq QSO QTD
abbrev QTF : AC := .run [(.op (some 1) none (.box (.s 0))), (.op (some 2) none (.mv (.k (.int .i64 0))))]
abbrev QTG : AC := .run [(.op (some 3) none (.mv (.k (.int .i64 0))))]
abbrev QTH : AC := .run [(.op (some 6) none (.faddr (.s 1) 3)), (.op (some 7) none (.load (.s 6) false 1)), (.op (some 8) none (.len (.s 7))), (.op (some 9) none (.mv (.k (.int .i64 0))))]
abbrev QTI : AC := .run [(.op (some 10) none (.bin .lss (.s 9) (.s 8)))]
abbrev QTJ : AC := .cond (.s 10) .skip (.exit 0)
abbrev QTK : AC := .run [(.op (some 11) none (.iaddr (.s 7) (.s 9) 4)), (.op (some 12) none (.load (.s 11) true 4)), (.op (some 5) none (.alloc [(.int .i64 0), (.int .i64 0), (.str []), (.slice .full 0 [])])), (.op none none (.store (.s 5) (.s 12) 4))]
abbrev QTL : AC := .run [(.op (some 13) none (.mv (.s 3))), (.op (some 14) none (.load (.s 5) true 4)), (.call (some 15) none n_parse_depth [(.s 14)]), (.op (some 16) none (.mm true (.s 13) (.s 15))), (.op (some 3) none (.mv (.s 16)))]
abbrev QTM : AC := .seq QTK QTL
abbrev QTN : AC := .block 1 QTM
abbrev QTO : AC := .run [(.op (some 17) none (.bin .add (.s 9) (.k (.int .i64 1)))), (.op (some 9) none (.mv (.s 17)))]
abbrev QTP : AC := .seq QTN QTO
abbrev QTQ : AC := .seq QTJ QTP
abbrev QTR : AC := .seq QTI QTQ
abbrev QTS : AC := .loop QTR
abbrev QTT : AC := .block 0 QTS
abbrev QTU : AC := .seq QTH QTT
abbrev QTV : AC := .run [(.op (some 18) none (.mv (.s 3))), (.op (some 19) none (.bin .add (.s 18) (.k (.int .i64 1)))), (.op (some 2) none (.mv (.s 19)))]
abbrev QTW : AC := .seq QTV .ret
abbrev QTX : AC := .seq QTU QTW
abbrev QTY : AC := .seq QTG QTX
abbrev QTZ : AC := .seq QTF QTY

end Go.Abs

/-! Have2 -/

namespace Go.Abs
open Go.Proofs

theorem has_lex_Word : Has Try.prog n_lex_Word 18 [(2, none)] QI0 := ⟨Try.f58, by kernel_rfl, by kernel_rfl⟩
theorem has_lex_number : Has Try.prog n_lex_number 28 [(2, none), (3, none)] QIR := ⟨Try.f59, by kernel_rfl, by kernel_rfl⟩
theorem has_ref1_Name : Has Try.prog n_ref1_Name 38 [(2, none)] QJI := ⟨Try.f61, by kernel_rfl, by kernel_rfl⟩
theorem has_ref3_deep : Has Try.prog n_ref3_deep 36 [(4, none)] QKC := ⟨Try.f63, by kernel_rfl, by kernel_rfl⟩
theorem has_ref3_form : Has Try.prog n_ref3_form 60 [(2, none)] QL5 := ⟨Try.f64, by kernel_rfl, by kernel_rfl⟩
theorem has_ref3_sign : Has Try.prog n_ref3_sign 8 [(2, none)] QL9 := ⟨Try.f66, by kernel_rfl, by kernel_rfl⟩
theorem has_ref3_name : Has Try.prog n_ref3_name 5 [(2, (some (true, 4)))] QLD := ⟨Try.f67, by kernel_rfl, by kernel_rfl⟩
theorem has_ref3_two : Has Try.prog n_ref3_two 12 [(6, (some (true, 4)))] QLH := ⟨Try.f69, by kernel_rfl, by kernel_rfl⟩
theorem has_ref3_weighExpr : Has Try.prog n_ref3_weighExpr 29 [(4, none)] QM0 := ⟨Try.f70, by kernel_rfl, by kernel_rfl⟩
theorem has_ref3_Arity : Has Try.prog n_ref3_Arity 24 [(2, none)] QML := ⟨Try.f71, by kernel_rfl, by kernel_rfl⟩
theorem has_ref3_expr : Has Try.prog n_ref3_expr 56 [(2, none)] QNH := ⟨Try.f72, by kernel_rfl, by kernel_rfl⟩
theorem has_ref3_num : Has Try.prog n_ref3_num 5 [(2, (some (true, 4)))] QNL := ⟨Try.f73, by kernel_rfl, by kernel_rfl⟩
theorem has_parse_reader_take : Has Try.prog n_parse_reader_take 21 [(4, none)] QNX := ⟨Try.f74, by kernel_rfl, by kernel_rfl⟩
theorem has_parse_reader_names : Has Try.prog n_parse_reader_names 25 [(6, none)] QOI := ⟨Try.f75, by kernel_rfl, by kernel_rfl⟩
theorem has_parse_reader_is : Has Try.prog n_parse_reader_is 22 [(4, none)] QOO := ⟨Try.f76, by kernel_rfl, by kernel_rfl⟩
theorem has_parse_reader_proc : Has Try.prog n_parse_reader_proc 56 [(2, (some (true, 5)))] QPT := ⟨Try.f77, by kernel_rfl, by kernel_rfl⟩
theorem has_slices_Clone_string : Has Try.prog n_slices_Clone_string 8 [(2, none)] QQ3 := ⟨Try.f78, by kernel_rfl, by kernel_rfl⟩
theorem has_slices_Clone_api_Param : Has Try.prog n_slices_Clone_api_Param 8 [(2, none)] QQD := ⟨Try.f79, by kernel_rfl, by kernel_rfl⟩
theorem has_tree_copied : Has Try.prog n_tree_copied 78 [(6, none), (7, none)] QRU := ⟨Try.f80, by kernel_rfl, by kernel_rfl⟩
theorem has_ref3_eqOne : Has Try.prog n_ref3_eqOne 127 [(4, none)] QSN := ⟨Try.f85, by kernel_rfl, by kernel_rfl⟩
theorem has_parse_reader_two : Has Try.prog n_parse_reader_two 44 [(4, (some (true, 4)))] QTE := ⟨Try.f86, by kernel_rfl, by kernel_rfl⟩
theorem has_parse_depth : Has Try.prog n_parse_depth 20 [(2, none)] QTZ := ⟨Try.f87, by kernel_rfl, by kernel_rfl⟩
end Go.Abs

/-! Codes3 -/

namespace Go.Abs

abbrev QU0 : AC := .run [(.op (some 2) none (.mv (.k (.bool false))))]
abbrev QU1 : AC := .run [(.op (some 3) none (.mv (.s 0))), (.op (some 4) none (.bin .geq (.s 3) (.k (.int .u8 97)))), (.op (some 5) none (.mv (.s 4))), (.op (some 6) (some (5, true)) (.mv (.s 0))), (.op (some 7) (some (5, true)) (.bin .leq (.s 6) (.k (.int .u8 122)))), (.op (some 8) none (.pick (.s 5) (.s 7) (.k (.bool false)))), (.op (some 2) none (.mv (.s 8)))]
abbrev QU2 : AC := .seq QU1 .ret
abbrev QU3 : AC := .seq QU0 QU2
abbrev QU4 : AC := .run [(.op (some 2) none (.mv (.k (.bool false))))]
abbrev QU5 : AC := .run [(.op (some 3) none (.mv (.s 0))), (.op (some 4) none (.bin .geq (.s 3) (.k (.int .u8 48)))), (.op (some 5) none (.mv (.s 4))), (.op (some 6) (some (5, true)) (.mv (.s 0))), (.op (some 7) (some (5, true)) (.bin .leq (.s 6) (.k (.int .u8 57)))), (.op (some 8) none (.pick (.s 5) (.s 7) (.k (.bool false)))), (.op (some 2) none (.mv (.s 8)))]
abbrev QU6 : AC := .seq QU5 .ret
abbrev QU7 : AC := .seq QU4 QU6
abbrev QU8 : AC := .run [(.op (some 2) none (.mv (.k (.bool false))))]
abbrev QU9 : AC := .run [(.call (some 5) none n_ref1_Words []), (.op (some 6) none (.len (.s 5))), (.op (some 7) none (.mv (.k (.int .i64 0))))]
abbrev QUA : AC := .run [(.op (some 8) none (.bin .lss (.s 7) (.s 6)))]
abbrev QUB : AC := .cond (.s 8) .skip (.exit 0)
abbrev QUC : AC := .run [(.op (some 9) none (.iaddr (.s 5) (.s 7) 1)), (.op (some 10) none (.load (.s 9) false 1)), (.op (some 4) none (.mv (.s 10)))]
abbrev QUD : AC := .run [(.op (some 11) none (.mv (.s 4))), (.op (some 12) none (.mv (.s 0))), (.op (some 13) none (.bin .eql (.s 11) (.s 12)))]
abbrev QUE : AC := .run [(.op (some 2) none (.mv (.k (.bool true))))]
abbrev QUF : AC := .seq QUE .ret
abbrev QUG : AC := .cond (.s 13) QUF .skip
abbrev QUH : AC := .seq QUD QUG
abbrev QUI : AC := .seq QUC QUH
abbrev QUJ : AC := .block 1 QUI
abbrev QUK : AC := .run [(.op (some 14) none (.bin .add (.s 7) (.k (.int .i64 1)))), (.op (some 7) none (.mv (.s 14)))]
abbrev QUL : AC := .seq QUJ QUK
abbrev QUM : AC := .seq QUB QUL
abbrev QUN : AC := .seq QUA QUM
abbrev QUO : AC := .loop QUN
abbrev QUP : AC := .block 0 QUO
abbrev QUQ : AC := .seq QU9 QUP
abbrev QUR : AC := .run [(.op (some 2) none (.mv (.k (.bool false))))]
abbrev QUS : AC := .seq QUR .ret
abbrev QUT : AC := .seq QUQ QUS
abbrev QUU : AC := .seq QU8 QUT
abbrev QUV : AC := .run [(.op (some 4) none (.mv (.k (.int .i64 0))))]
abbrev QUW : AC := .run [(.op (some 5) none (.mv (.s 1))), (.op (some 6) none (.bin .gtr (.s 5) (.k (.int .i64 20000)))), (.op (some 7) none (.mv (.s 6))), (.op (some 8) (some (7, false)) (.mv (.s 0))), (.op (some 9) (some (7, false)) (.slen (.s 8))), (.op (some 10) (some (7, false)) (.mv (.s 1))), (.op (some 11) (some (7, false)) (.bin .sub (.k (.int .i64 20000)) (.s 10))), (.op (some 12) (some (7, false)) (.bin .geq (.s 9) (.s 11))), (.op (some 13) none (.pick (.s 7) (.k (.bool true)) (.s 12)))]
abbrev QUX : AC := .run [(.op (some 4) none (.mv (.k (.int .i64 20001))))]
abbrev QUY : AC := .seq QUX .ret
abbrev QUZ : AC := .cond (.s 13) QUY .skip
abbrev QV0 : AC := .seq QUW QUZ
abbrev QV1 : AC := .run [(.op (some 14) none (.mv (.s 1))), (.op (some 15) none (.bin .add (.s 14) (.k (.int .i64 1)))), (.op (some 16) none (.mv (.s 0))), (.op (some 17) none (.slen (.s 16))), (.op (some 18) none (.bin .add (.s 15) (.s 17))), (.op (some 4) none (.mv (.s 18)))]
abbrev QV2 : AC := .seq QV1 .ret
abbrev QV3 : AC := .seq QV0 QV2
abbrev QV4 : AC := .seq QUV QV3
abbrev QV5 : AC := .run [(.op (some 2) none (.mv (.k (.str []))))]
abbrev QV6 : AC := .run [(.op (some 3) none (.mv (.s 0))), (.op (some 4) none (.bin .lss (.s 3) (.k (.int .i64 0))))]
abbrev QV7 : AC := .run [(.op (some 5) none (.mv (.s 0))), (.op (some 6) none (.bin .add (.s 5) (.k (.int .i64 1)))), (.op (some 7) none (.un .neg (.s 6))), (.op (some 8) none (.conv .u64 (.s 7))), (.op (some 9) none (.bin .add (.s 8) (.k (.int .u64 1)))), (.call (some 10) none n_ref3_digits [(.s 9)]), (.op (some 11) none (.bin .add (.k (.str [45])) (.s 10))), (.op (some 2) none (.mv (.s 11)))]
abbrev QV8 : AC := .seq QV7 .ret
abbrev QV9 : AC := .cond (.s 4) QV8 .skip
abbrev QVA : AC := .seq QV6 QV9
abbrev QVB : AC := .run [(.op (some 12) none (.mv (.s 0))), (.op (some 13) none (.conv .u64 (.s 12))), (.call (some 14) none n_ref3_digits [(.s 13)]), (.op (some 2) none (.mv (.s 14)))]
abbrev QVC : AC := .seq QVB .ret
abbrev QVD : AC := .seq QVA QVC
abbrev QVE : AC := .seq QV5 QVD
abbrev QVF : AC := .run [(.op (some 4) none (.mv (.k (.str []))))]
abbrev QVG : AC := .run [(.op (some 6) none (.mv (.s 0))), (.call (some 7) none n_parse_reader_peek [(.s 6)]), (.op (some 5) none (.alloc [(.int .i64 0), (.str []), (.int .i64 0), (.int .i64 0)])), (.op none none (.store (.s 5) (.s 7) 4))]
abbrev QVH : AC := .run [(.op (some 8) none (.mv (.s 0))), (.call (some 9) none n_parse_reader_good [(.s 8)]), (.op (some 10) none (.un .not (.s 9))), (.op (some 11) none (.mv (.s 10))), (.op (some 12) (some (11, false)) (.faddr (.s 5) 0)), (.op (some 13) (some (11, false)) (.load (.s 12) false 1)), (.op (some 14) (some (11, false)) (.bin .neq (.s 13) (.k (.int .i64 1)))), (.op (some 15) none (.pick (.s 11) (.k (.bool true)) (.s 14)))]
abbrev QVI : AC := .run [(.op (some 16) none (.mv (.s 0))), (.call (some 17) none n_parse_reader_bad [(.s 16), (.k (.int .i64 3))])]
abbrev QVJ : AC := .run [(.op (some 4) none (.mv (.k (.str []))))]
abbrev QVK : AC := .seq QVJ .ret
abbrev QVL : AC := .seq QVI QVK
abbrev QVM : AC := .cond (.s 15) QVL .skip
abbrev QVN : AC := .seq QVH QVM
abbrev QVO : AC := .run [(.op (some 18) none (.mv (.s 1))), (.op (some 19) none (.un .not (.s 18)))]
abbrev QVP : AC := .run [(.op (some 20) none (.mv (.s 0))), (.call (some 21) none n_parse_reader_bad [(.s 20), (.k (.int .i64 4))])]
abbrev QVQ : AC := .run [(.op (some 4) none (.mv (.k (.str []))))]
abbrev QVR : AC := .seq QVQ .ret
abbrev QVS : AC := .seq QVP QVR
abbrev QVT : AC := .cond (.s 19) QVS .skip
abbrev QVU : AC := .seq QVO QVT
abbrev QVV : AC := .run [(.op (some 22) none (.mv (.s 0))), (.op (some 23) none (.nilck (.s 22))), (.op (some 24) none (.faddr (.s 23) 1)), (.op (some 25) none (.load (.s 24) false 1)), (.op (some 26) none (.bin .add (.s 25) (.k (.int .i64 1)))), (.op (some 27) none (.nilck (.s 22))), (.op (some 28) none (.faddr (.s 27) 1)), (.op none none (.store (.s 28) (.s 26) 1))]
abbrev QVW : AC := .run [(.op (some 29) none (.faddr (.s 5) 1)), (.op (some 30) none (.load (.s 29) false 1)), (.op (some 4) none (.mv (.s 30)))]
abbrev QVX : AC := .seq QVW .ret
abbrev QVY : AC := .seq QVV QVX
abbrev QVZ : AC := .seq QVU QVY
abbrev QW0 : AC := .seq QVN QVZ
abbrev QW1 : AC := .seq QVG QW0
abbrev QW2 : AC := .seq QVF QW1
abbrev QW3 : AC := .run [(.op (some 4) none (.mv (.s 0))), (.op (some 5) none (.mv (.s 1))), (.call (some 6) none n_parse_reader_take [(.s 4), (.s 5)]), (.op (some 7) none (.un .not (.s 6)))]
abbrev QW4 : AC := .run [(.op (some 8) none (.mv (.s 0))), (.call (some 9) none n_parse_reader_bad [(.s 8), (.k (.int .i64 3))])]
abbrev QW5 : AC := .cond (.s 7) QW4 .skip
abbrev QW6 : AC := .seq QW3 QW5
abbrev QW7 : AC := .run [(.op (some 6) none (.mv (.k (.slice .full 0 [])))), (.op (some 7) none (.mv (.k (.slice .full 0 []))))]
abbrev QW8 : AC := .run [(.op (some 8) none (.mv (.k (.slice .full 0 []))))]
abbrev QW9 : AC := .run [(.op (some 11) none (.mv (.s 0))), (.call (some 12) none n_parse_reader_good [(.s 11)])]
abbrev QWA : AC := .cond (.s 12) .skip (.exit 0)
abbrev QWB : AC := .seq QW9 QWA
abbrev QWC : AC := .run [(.op (some 13) none (.mv (.s 0))), (.call (some 14) none n_parse_reader_labels [(.s 13)]), (.op (some 9) none (.mv (.s 14)))]
abbrev QWD : AC := .run [(.op (some 15) none (.mv (.s 0))), (.call (some 16) none n_parse_reader_is [(.s 15), (.k (.str [125]))]), (.op (some 17) none (.mv (.s 16))), (.op (some 18) (some (17, true)) (.mv (.s 2))), (.op (some 19) (some (17, true)) (.mv (.s 18))), (.op (some 20) (some (19, false)) (.mv (.s 9))), (.op (some 21) (some (19, false)) (.len (.s 20))), (.op (some 22) (some (19, false)) (.bin .eql (.s 21) (.k (.int .i64 0)))), (.op (some 23) (some (17, true)) (.pick (.s 19) (.k (.bool true)) (.s 22))), (.op (some 24) none (.pick (.s 17) (.s 23) (.k (.bool false))))]
abbrev QWE : AC := .run [(.op (some 25) none (.mv (.s 0))), (.op (some 26) none (.nilck (.s 25))), (.op (some 27) none (.faddr (.s 26) 1)), (.op (some 28) none (.load (.s 27) false 1)), (.op (some 29) none (.bin .add (.s 28) (.k (.int .i64 1)))), (.op (some 30) none (.nilck (.s 25))), (.op (some 31) none (.faddr (.s 30) 1)), (.op none none (.store (.s 31) (.s 29) 1))]
abbrev QWF : AC := .run [(.op (some 32) none (.mv (.s 8))), (.op (some 33) none (.mv (.s 9))), (.op (some 6) none (.mv (.s 32))), (.op (some 7) none (.mv (.s 33)))]
abbrev QWG : AC := .seq QWF .ret
abbrev QWH : AC := .seq QWE QWG
abbrev QWI : AC := .cond (.s 24) QWH .skip
abbrev QWJ : AC := .seq QWD QWI
abbrev QWK : AC := .run [(.op (some 34) none (.mv (.s 0))), (.op (some 35) none (.mv (.s 1))), (.call (some 36) none n_parse_reader_stmt [(.s 34), (.s 35)]), (.op (some 10) none (.alloc [(.int .i64 0), (.int .i64 0), (.slice .full 0 []), (.str []), (.str []), (.int .i64 0), (.int .i64 0), (.str []), (.slice .full 0 []), (.bool false), (.slice .full 0 []), (.slice .full 0 []), (.slice .full 0 [])])), (.op none none (.store (.s 10) (.s 36) 13))]
abbrev QWL : AC := .run [(.op (some 37) none (.mv (.s 9))), (.op (some 38) none (.faddr (.s 10) 2)), (.op none none (.store (.s 38) (.s 37) 1))]
abbrev QWM : AC := .run [(.op (some 39) none (.mv (.s 8))), (.op (some 40) none (.load (.s 10) true 13)), (.op (some 41) none (.bslice [(.int .i64 0), (.int .i64 0), (.slice .full 0 []), (.str []), (.str []), (.int .i64 0), (.int .i64 0), (.str []), (.slice .full 0 []), (.bool false), (.slice .full 0 []), (.slice .full 0 []), (.slice .full 0 [])] 13 1 [(0, (.s 40))])), (.op (some 42) none (.app 13 208 (.s 39) (.s 41))), (.op (some 8) none (.mv (.s 42)))]
abbrev QWN : AC := .seq QWL QWM
abbrev QWO : AC := .seq QWK QWN
abbrev QWP : AC := .seq QWJ QWO
abbrev QWQ : AC := .seq QWC QWP
abbrev QWR : AC := .block 1 QWQ
abbrev QWS : AC := .seq QWB QWR
abbrev QWT : AC := .loop QWS
abbrev QWU : AC := .block 0 QWT
abbrev QWV : AC := .run [(.op (some 6) none (.mv (.k (.slice .full 0 [])))), (.op (some 7) none (.mv (.k (.slice .full 0 []))))]
abbrev QWW : AC := .seq QWV .ret
abbrev QWX : AC := .seq QWU QWW
abbrev QWY : AC := .seq QW8 QWX
abbrev QWZ : AC := .seq QW7 QWY
abbrev QX0 : AC := .run [(.op (some 1) none (.box (.s 0))), (.op (some 2) none (.alloc [(.int .i64 0), (.int .i64 0), (.str []), (.slice .full 0 [])]))]
abbrev QX1 : AC := .run [(.op (some 6) none (.faddr (.s 1) 3)), (.op (some 7) none (.load (.s 6) false 1)), (.op (some 3) none (.mv (.s 7)))]
abbrev QX2 : AC := .run [(.op (some 8) none (.faddr (.s 1) 3)), (.op none none (.store (.s 8) (.k (.slice .full 0 [])) 1))]
abbrev QX3 : AC := .run [(.op (some 9) none (.mv (.s 3))), (.op (some 10) none (.len (.s 9))), (.op (some 11) none (.mv (.k (.int .i64 0))))]
abbrev QX4 : AC := .run [(.op (some 12) none (.bin .lss (.s 11) (.s 10)))]
abbrev QX5 : AC := .cond (.s 12) .skip (.exit 0)
abbrev QX6 : AC := .run [(.op (some 13) none (.iaddr (.s 9) (.s 11) 4)), (.op (some 14) none (.load (.s 13) true 4)), (.op (some 5) none (.alloc [(.int .i64 0), (.int .i64 0), (.str []), (.slice .full 0 [])])), (.op none none (.store (.s 5) (.s 14) 4))]
abbrev QX7 : AC := .par [(.op (some 15) none (.faddr (.s 1) 3)), (.op (some 16) none (.load (.s 15) false 1)), (.op (some 17) none (.load (.s 5) true 4)), (.call (some 18) none n_tree_expr [(.s 17)]), (.op (some 19) none (.bslice [(.int .i64 0), (.int .i64 0), (.str []), (.slice .full 0 [])] 4 1 [(0, (.s 18))])), (.op (some 20) none (.app 4 56 (.s 16) (.s 19))), (.op (some 21) none (.faddr (.s 1) 3)), (.op none none (.store (.s 21) (.s 20) 1))] [(2, 0), (3, 0), (0, 0), (1, 1), (4, 0), (5, 0), (6, 0), (7, 0)]
abbrev QX8 : AC := .seq QX6 QX7
abbrev QX9 : AC := .block 1 QX8
abbrev QXA : AC := .run [(.op (some 22) none (.bin .add (.s 11) (.k (.int .i64 1)))), (.op (some 11) none (.mv (.s 22)))]
abbrev QXB : AC := .seq QX9 QXA
abbrev QXC : AC := .seq QX5 QXB
abbrev QXD : AC := .seq QX4 QXC
abbrev QXE : AC := .loop QXD
abbrev QXF : AC := .block 0 QXE
abbrev QXG : AC := .seq QX3 QXF
abbrev QXH : AC := .run [(.op (some 23) none (.load (.s 1) true 4)), (.op none none (.store (.s 2) (.s 23) 4))]
abbrev QXI : AC := .seq QXH .ret
abbrev QXJ : AC := .seq QXG QXI
abbrev QXK : AC := .seq QX2 QXJ
abbrev QXL : AC := .seq QX1 QXK
abbrev QXM : AC := .seq QX0 QXL
abbrev QXN : AC := .run [(.op (some 2) none (.alloc [(.int .i64 0), (.int .i64 0), (.str []), (.slice .full 0 [])]))]
abbrev QXO : AC := .run [(.op (some 5) none (.mv (.s 0))), (.call (some 6) none n_parse_reader_peek [(.s 5)]), (.op (some 3) none (.alloc [(.int .i64 0), (.str []), (.int .i64 0), (.int .i64 0)])), (.op none none (.store (.s 3) (.s 6) 4))]
abbrev QXP : AC := .run [(.op (some 7) none (.mv (.s 0))), (.call (some 8) none n_parse_reader_good [(.s 7)]), (.op (some 9) none (.un .not (.s 8)))]
abbrev QXQ : AC := .run [(.op (some 10) none (.build [(.int .i64 0), (.int .i64 0), (.str []), (.slice .full 0 [])] [])), (.op none none (.store (.s 2) (.s 10) 4))]
abbrev QXR : AC := .seq QXQ .ret
abbrev QXS : AC := .cond (.s 9) QXR .skip
abbrev QXT : AC := .seq QXP QXS
abbrev QXU : AC := .run [(.op (some 12) none (.faddr (.s 3) 0)), (.op (some 13) none (.load (.s 12) false 1)), (.op (some 14) none (.bin .eql (.s 13) (.k (.int .i64 2)))), (.op (some 11) none (.mv (.s 14)))]
abbrev QXV : AC := .run [(.op (some 15) none (.mv (.s 0))), (.op (some 16) none (.nilck (.s 15))), (.op (some 17) none (.faddr (.s 16) 1)), (.op (some 18) none (.load (.s 17) false 1)), (.op (some 19) none (.bin .add (.s 18) (.k (.int .i64 1)))), (.op (some 20) none (.nilck (.s 15))), (.op (some 21) none (.faddr (.s 20) 1)), (.op none none (.store (.s 21) (.s 19) 1))]
abbrev QXW : AC := .run [(.op (some 22) none (.faddr (.s 3) 2)), (.op (some 23) none (.load (.s 22) false 1)), (.op (some 24) none (.build [(.int .i64 0), (.int .i64 0), (.str []), (.slice .full 0 [])] [(0, (1, (.k (.int .i64 1)))), (1, (1, (.s 23)))])), (.op none none (.store (.s 2) (.s 24) 4))]
abbrev QXX : AC := .seq QXW .ret
abbrev QXY : AC := .seq QXV QXX
abbrev QXZ : AC := .run [(.op (some 26) none (.faddr (.s 3) 0)), (.op (some 27) none (.load (.s 26) false 1)), (.op (some 28) none (.bin .eql (.s 27) (.k (.int .i64 1)))), (.op (some 25) none (.mv (.s 28)))]
abbrev QY0 : AC := .run [(.op (some 29) none (.mv (.s 0))), (.op (some 30) none (.nilck (.s 29))), (.op (some 31) none (.faddr (.s 30) 1)), (.op (some 32) none (.load (.s 31) false 1)), (.op (some 33) none (.bin .add (.s 32) (.k (.int .i64 1)))), (.op (some 34) none (.nilck (.s 29))), (.op (some 35) none (.faddr (.s 34) 1)), (.op none none (.store (.s 35) (.s 33) 1))]
abbrev QY1 : AC := .run [(.op (some 36) none (.faddr (.s 3) 1)), (.op (some 37) none (.load (.s 36) false 1)), (.op (some 38) none (.build [(.int .i64 0), (.int .i64 0), (.str []), (.slice .full 0 [])] [(0, (1, (.k (.int .i64 2)))), (2, (1, (.s 37)))])), (.op none none (.store (.s 2) (.s 38) 4))]
abbrev QY2 : AC := .seq QY1 .ret
abbrev QY3 : AC := .seq QY0 QY2
abbrev QY4 : AC := .run [(.op (some 40) none (.mv (.s 0))), (.call (some 41) none n_parse_reader_take [(.s 40), (.k (.str [40]))]), (.op (some 39) none (.mv (.s 41)))]
abbrev QY5 : AC := .run [(.op (some 42) none (.mv (.s 0))), (.call (some 43) none n_parse_reader_two [(.s 42), (.k (.int .i64 1))]), (.op (some 4) none (.alloc [(.int .i64 0), (.int .i64 0), (.str []), (.slice .full 0 [])])), (.op none none (.store (.s 4) (.s 43) 4))]
abbrev QY6 : AC := .run [(.op (some 44) none (.mv (.s 0))), (.call (some 45) none n_parse_reader_want [(.s 44), (.k (.str [41]))])]
abbrev QY7 : AC := .run [(.op (some 46) none (.load (.s 4) true 4)), (.op none none (.store (.s 2) (.s 46) 4))]
abbrev QY8 : AC := .seq QY7 .ret
abbrev QY9 : AC := .seq QY6 QY8
abbrev QYA : AC := .seq QY5 QY9
abbrev QYB : AC := .run [(.op (some 48) none (.mv (.s 0))), (.call (some 49) none n_parse_reader_take [(.s 48), (.k (.str [45]))]), (.op (some 47) none (.mv (.s 49)))]
abbrev QYC : AC := .run [(.op (some 50) none (.mv (.s 0))), (.call (some 51) none n_parse_reader_one [(.s 50)]), (.op (some 52) none (.bslice [(.int .i64 0), (.int .i64 0), (.str []), (.slice .full 0 [])] 4 1 [(0, (.s 51))])), (.op (some 53) none (.build [(.int .i64 0), (.int .i64 0), (.str []), (.slice .full 0 [])] [(0, (1, (.k (.int .i64 3)))), (3, (1, (.s 52)))])), (.op none none (.store (.s 2) (.s 53) 4))]
abbrev QYD : AC := .seq QYC .ret
abbrev QYE : AC := .run [(.op (some 55) none (.mv (.s 0))), (.call (some 56) none n_parse_reader_take [(.s 55), (.k (.str [33]))]), (.op (some 54) none (.mv (.s 56)))]
abbrev QYF : AC := .run [(.op (some 57) none (.mv (.s 0))), (.call (some 58) none n_parse_reader_one [(.s 57)]), (.op (some 59) none (.bslice [(.int .i64 0), (.int .i64 0), (.str []), (.slice .full 0 [])] 4 1 [(0, (.s 58))])), (.op (some 60) none (.build [(.int .i64 0), (.int .i64 0), (.str []), (.slice .full 0 [])] [(0, (1, (.k (.int .i64 4)))), (3, (1, (.s 59)))])), (.op none none (.store (.s 2) (.s 60) 4))]
abbrev QYG : AC := .seq QYF .ret
abbrev QYH : AC := .cond (.s 54) QYG .skip
abbrev QYI : AC := .seq QYE QYH
abbrev QYJ : AC := .cond (.s 47) QYD QYI
abbrev QYK : AC := .seq QYB QYJ
abbrev QYL : AC := .cond (.s 39) QYA QYK
abbrev QYM : AC := .seq QY4 QYL
abbrev QYN : AC := .cond (.s 25) QY3 QYM
abbrev QYO : AC := .seq QXZ QYN
abbrev QYP : AC := .cond (.s 11) QXY QYO
abbrev QYQ : AC := .seq QXU QYP
abbrev QYR : AC := .block 0 QYQ
abbrev QYS : AC := .run [(.op (some 61) none (.mv (.s 0))), (.call (some 62) none n_parse_reader_bad [(.s 61), (.k (.int .i64 3))])]
abbrev QYT : AC := .run [(.op (some 63) none (.build [(.int .i64 0), (.int .i64 0), (.str []), (.slice .full 0 [])] [])), (.op none none (.store (.s 2) (.s 63) 4))]
abbrev QYU : AC := .seq QYT .ret
abbrev QYV : AC := .seq QYS QYU
abbrev QYW : AC := .seq QYR QYV
abbrev QYX : AC := .seq QXT QYW
abbrev QYY : AC := .seq QXO QYX
abbrev QYZ : AC := .seq QXN QYY
abbrev QZ0 : AC := .run [(.op (some 1) none (.box (.s 0))), (.op (some 2) none (.mv (.k (.int .i64 0)))), (.op (some 3) none (.mv (.k (.int .i64 0))))]
abbrev QZ1 : AC := .run [(.op (some 4) none (.faddr (.s 1) 0)), (.op (some 5) none (.load (.s 4) false 1)), (.op (some 6) none (.bin .neq (.s 5) (.k (.int .i64 4))))]
abbrev QZ2 : AC := .run [(.op (some 2) none (.mv (.k (.int .i64 0)))), (.op (some 3) none (.mv (.k (.int .i64 0))))]
abbrev QZ3 : AC := .seq QZ2 .ret
abbrev QZ4 : AC := .cond (.s 6) QZ3 .skip
abbrev QZ5 : AC := .seq QZ1 QZ4
abbrev QZ6 : AC := .run [(.op (some 7) none (.faddr (.s 1) 1)), (.op (some 8) none (.load (.s 7) false 1))]
abbrev QZ7 : AC := .run [(.op (some 10) none (.bin .eql (.s 8) (.k (.str [124, 124])))), (.op (some 9) none (.mv (.s 10)))]
abbrev QZ8 : AC := .run [(.op (some 2) none (.mv (.k (.int .i64 17)))), (.op (some 3) none (.mv (.k (.int .i64 1))))]
abbrev QZ9 : AC := .seq QZ8 .ret
abbrev QZA : AC := .run [(.op (some 12) none (.bin .eql (.s 8) (.k (.str [38, 38])))), (.op (some 11) none (.mv (.s 12)))]
abbrev QZB : AC := .run [(.op (some 2) none (.mv (.k (.int .i64 16)))), (.op (some 3) none (.mv (.k (.int .i64 2))))]
abbrev QZC : AC := .seq QZB .ret
abbrev QZD : AC := .run [(.op (some 14) none (.bin .eql (.s 8) (.k (.str [61, 61])))), (.op (some 13) none (.mv (.s 14)))]
abbrev QZE : AC := .run [(.op (some 2) none (.mv (.k (.int .i64 14)))), (.op (some 3) none (.mv (.k (.int .i64 3))))]
abbrev QZF : AC := .seq QZE .ret
abbrev QZG : AC := .run [(.op (some 16) none (.bin .eql (.s 8) (.k (.str [33, 61])))), (.op (some 15) none (.mv (.s 16)))]
abbrev QZH : AC := .run [(.op (some 2) none (.mv (.k (.int .i64 15)))), (.op (some 3) none (.mv (.k (.int .i64 3))))]
abbrev QZI : AC := .seq QZH .ret
abbrev QZJ : AC := .run [(.op (some 18) none (.bin .eql (.s 8) (.k (.str [60])))), (.op (some 17) none (.mv (.s 18)))]
abbrev QZK : AC := .run [(.op (some 2) none (.mv (.k (.int .i64 10)))), (.op (some 3) none (.mv (.k (.int .i64 4))))]
abbrev QZL : AC := .seq QZK .ret
abbrev QZM : AC := .run [(.op (some 20) none (.bin .eql (.s 8) (.k (.str [60, 61])))), (.op (some 19) none (.mv (.s 20)))]
abbrev QZN : AC := .run [(.op (some 2) none (.mv (.k (.int .i64 11)))), (.op (some 3) none (.mv (.k (.int .i64 4))))]
abbrev QZO : AC := .seq QZN .ret
abbrev QZP : AC := .run [(.op (some 22) none (.bin .eql (.s 8) (.k (.str [62])))), (.op (some 21) none (.mv (.s 22)))]
abbrev QZQ : AC := .run [(.op (some 2) none (.mv (.k (.int .i64 12)))), (.op (some 3) none (.mv (.k (.int .i64 4))))]
abbrev QZR : AC := .seq QZQ .ret
abbrev QZS : AC := .run [(.op (some 24) none (.bin .eql (.s 8) (.k (.str [62, 61])))), (.op (some 23) none (.mv (.s 24)))]
abbrev QZT : AC := .run [(.op (some 2) none (.mv (.k (.int .i64 13)))), (.op (some 3) none (.mv (.k (.int .i64 4))))]
abbrev QZU : AC := .seq QZT .ret
abbrev QZV : AC := .run [(.op (some 26) none (.bin .eql (.s 8) (.k (.str [43])))), (.op (some 25) none (.mv (.s 26)))]
abbrev QZW : AC := .run [(.op (some 2) none (.mv (.k (.int .i64 8)))), (.op (some 3) none (.mv (.k (.int .i64 5))))]
abbrev QZX : AC := .seq QZW .ret
abbrev QZY : AC := .run [(.op (some 28) none (.bin .eql (.s 8) (.k (.str [45])))), (.op (some 27) none (.mv (.s 28)))]
abbrev QZZ : AC := .run [(.op (some 2) none (.mv (.k (.int .i64 9)))), (.op (some 3) none (.mv (.k (.int .i64 5))))]
abbrev Q100 : AC := .seq QZZ .ret
abbrev Q101 : AC := .run [(.op (some 30) none (.bin .eql (.s 8) (.k (.str [42])))), (.op (some 29) none (.mv (.s 30)))]
abbrev Q102 : AC := .run [(.op (some 2) none (.mv (.k (.int .i64 5)))), (.op (some 3) none (.mv (.k (.int .i64 6))))]
abbrev Q103 : AC := .seq Q102 .ret
abbrev Q104 : AC := .run [(.op (some 32) none (.bin .eql (.s 8) (.k (.str [47])))), (.op (some 31) none (.mv (.s 32)))]
abbrev Q105 : AC := .run [(.op (some 2) none (.mv (.k (.int .i64 6)))), (.op (some 3) none (.mv (.k (.int .i64 6))))]
abbrev Q106 : AC := .seq Q105 .ret
abbrev Q107 : AC := .run [(.op (some 34) none (.bin .eql (.s 8) (.k (.str [37])))), (.op (some 33) none (.mv (.s 34)))]
abbrev Q108 : AC := .run [(.op (some 2) none (.mv (.k (.int .i64 7)))), (.op (some 3) none (.mv (.k (.int .i64 6))))]
abbrev Q109 : AC := .seq Q108 .ret
abbrev Q10A : AC := .cond (.s 33) Q109 .skip
abbrev Q10B : AC := .seq Q107 Q10A
abbrev Q10C : AC := .cond (.s 31) Q106 Q10B
abbrev Q10D : AC := .seq Q104 Q10C
abbrev Q10E : AC := .cond (.s 29) Q103 Q10D
abbrev Q10F : AC := .seq Q101 Q10E
abbrev Q10G : AC := .cond (.s 27) Q100 Q10F
abbrev Q10H : AC := .seq QZY Q10G
abbrev Q10I : AC := .cond (.s 25) QZX Q10H
abbrev Q10J : AC := .seq QZV Q10I
abbrev Q10K : AC := .cond (.s 23) QZU Q10J
abbrev Q10L : AC := .seq QZS Q10K
abbrev Q10M : AC := .cond (.s 21) QZR Q10L
abbrev Q10N : AC := .seq QZP Q10M
abbrev Q10O : AC := .cond (.s 19) QZO Q10N
abbrev Q10P : AC := .seq QZM Q10O
abbrev Q10Q : AC := .cond (.s 17) QZL Q10P
abbrev Q10R : AC := .seq QZJ Q10Q
abbrev Q10S : AC := .cond (.s 15) QZI Q10R
abbrev Q10T : AC := .seq QZG Q10S
abbrev Q10U : AC := .cond (.s 13) QZF Q10T
abbrev Q10V : AC := .seq QZD Q10U
abbrev Q10W : AC := .cond (.s 11) QZC Q10V
abbrev Q10X : AC := .seq QZA Q10W
abbrev Q10Y : AC := .cond (.s 9) QZ9 Q10X
abbrev Q10Z : AC := .seq QZ7 Q10Y
abbrev Q110 : AC := .block 0 Q10Z
abbrev Q111 : AC := .seq QZ6 Q110
abbrev Q112 : AC := .run [(.op (some 2) none (.mv (.k (.int .i64 0)))), (.op (some 3) none (.mv (.k (.int .i64 0))))]
abbrev Q113 : AC := .seq Q112 .ret
abbrev Q114 : AC := .seq Q111 Q113
abbrev Q115 : AC := .seq QZ5 Q114
abbrev Q116 : AC := .seq QZ0 Q115
abbrev Q117 : AC := .run [(.op (some 0) none (.mv (.k (.slice .full 0 []))))]
abbrev Q118 : AC := .run [(.op (some 1) none (.bslice [(.str [])] 1 13 [(0, (.k (.str [103, 108, 111, 98, 97, 108]))), (1, (.k (.str [112, 114, 111, 99]))), (2, (.k (.str [118, 97, 114]))), (3, (.k (.str [114, 101, 102]))), (4, (.k (.str [105, 102]))), (5, (.k (.str [101, 108, 115, 101]))), (6, (.k (.str [119, 104, 105, 108, 101]))), (7, (.k (.str [98, 114, 101, 97, 107]))), (8, (.k (.str [99, 111, 110, 116, 105, 110, 117, 101]))), (9, (.k (.str [114, 101, 116, 117, 114, 110]))), (10, (.k (.str [103, 111, 116, 111]))), (11, (.k (.str [114, 101, 97, 100]))), (12, (.k (.str [112, 114, 105, 110, 116])))])), (.op (some 0) none (.mv (.s 1)))]
abbrev Q119 : AC := .seq Q118 .ret
abbrev Q11A : AC := .seq Q117 Q119
abbrev Q11B : AC := .run [(.op (some 2) none (.mv (.k (.str []))))]
abbrev Q11C : AC := .run [(.op (some 3) none (.mv (.s 0))), (.op (some 4) none (.bin .lss (.s 3) (.k (.int .u64 10))))]
abbrev Q11D : AC := .run [(.op (some 5) none (.mv (.s 0))), (.op (some 6) none (.bin .add (.k (.int .u64 48)) (.s 5))), (.op (some 7) none (.conv .u8 (.s 6))), (.op (some 8) none (.bslice [(.int .u8 0)] 1 1 [(0, (.s 7))])), (.op (some 9) none (.tostr (.s 8))), (.op (some 2) none (.mv (.s 9)))]
abbrev Q11E : AC := .seq Q11D .ret
abbrev Q11F : AC := .cond (.s 4) Q11E .skip
abbrev Q11G : AC := .seq Q11C Q11F
abbrev Q11H : AC := .par [(.op (some 10) none (.mv (.s 0))), (.op (some 11) none (.bin .quo (.s 10) (.k (.int .u64 10)))), (.call (some 12) none n_ref3_digits [(.s 11)]), (.op (some 13) none (.mv (.s 0))), (.op (some 14) none (.bin .rem (.s 13) (.k (.int .u64 10)))), (.op (some 15) none (.bin .add (.k (.int .u64 48)) (.s 14))), (.op (some 16) none (.conv .u8 (.s 15))), (.op (some 17) none (.bslice [(.int .u8 0)] 1 1 [(0, (.s 16))])), (.op (some 18) none (.tostr (.s 17))), (.op (some 19) none (.bin .add (.s 12) (.s 18))), (.op (some 2) none (.mv (.s 19)))] [(0, 0), (1, 0), (2, 0), (3, 0), (4, 0), (5, 0), (6, 0), (7, 0), (8, 0), (9, 0), (10, 0)]
abbrev Q11I : AC := .seq Q11H .ret
abbrev Q11J : AC := .seq Q11G Q11I
abbrev Q11K : AC := .seq Q11B Q11J
abbrev Q11L : AC := .run [(.op (some 2) none (.mv (.k (.slice .full 0 []))))]
abbrev Q11M : AC := .run [(.op (some 3) none (.mv (.k (.slice .full 0 []))))]
abbrev Q11N : AC := .par [(.op (some 4) none (.mv (.s 0))), (.call (some 5) none n_parse_reader_good [(.s 4)]), (.op (some 6) none (.mv (.s 5))), (.op (some 7) (some (6, true)) (.mv (.s 0))), (.call (some 8) (some (6, true)) n_parse_reader_peek [(.s 7)]), (.op (some 9) (some (6, true)) (.fld (.s 8) 0 false 1)), (.op (some 10) (some (6, true)) (.bin .eql (.s 9) (.k (.int .i64 1)))), (.op (some 11) none (.pick (.s 6) (.s 10) (.k (.bool false)))), (.op (some 12) none (.mv (.s 11))), (.op (some 13) (some (12, true)) (.mv (.s 0))), (.op (some 14) (some (12, true)) (.nilck (.s 13))), (.op (some 15) (some (12, true)) (.faddr (.s 14) 0)), (.op (some 16) (some (12, true)) (.load (.s 15) false 1)), (.op (some 17) (some (12, true)) (.mv (.s 0))), (.op (some 18) (some (12, true)) (.nilck (.s 17))), (.op (some 19) (some (12, true)) (.faddr (.s 18) 1)), (.op (some 20) (some (12, true)) (.load (.s 19) false 1)), (.op (some 21) (some (12, true)) (.bin .add (.s 20) (.k (.int .i64 1)))), (.op (some 22) (some (12, true)) (.iaddr (.s 16) (.s 21) 4)), (.op (some 23) (some (12, true)) (.faddr (.s 22) 0)), (.op (some 24) (some (12, true)) (.load (.s 23) false 1)), (.op (some 25) (some (12, true)) (.bin .eql (.s 24) (.k (.int .i64 4)))), (.op (some 26) none (.pick (.s 12) (.s 25) (.k (.bool false)))), (.op (some 27) none (.mv (.s 26))), (.op (some 28) (some (27, true)) (.mv (.s 0))), (.op (some 29) (some (27, true)) (.nilck (.s 28))), (.op (some 30) (some (27, true)) (.faddr (.s 29) 0)), (.op (some 31) (some (27, true)) (.load (.s 30) false 1)), (.op (some 32) (some (27, true)) (.mv (.s 0))), (.op (some 33) (some (27, true)) (.nilck (.s 32))), (.op (some 34) (some (27, true)) (.faddr (.s 33) 1)), (.op (some 35) (some (27, true)) (.load (.s 34) false 1)), (.op (some 36) (some (27, true)) (.bin .add (.s 35) (.k (.int .i64 1)))), (.op (some 37) (some (27, true)) (.iaddr (.s 31) (.s 36) 4)), (.op (some 38) (some (27, true)) (.faddr (.s 37) 1)), (.op (some 39) (some (27, true)) (.load (.s 38) false 1)), (.op (some 40) (some (27, true)) (.bin .eql (.s 39) (.k (.str [58])))), (.op (some 41) none (.pick (.s 27) (.s 40) (.k (.bool false))))] [(0, 0), (1, 0), (2, 0), (3, 0), (4, 0), (5, 0), (6, 0), (7, 0), (8, 0), (9, 0), (10, 0), (11, 0), (12, 0), (13, 0), (14, 0), (15, 0), (16, 0), (17, 0), (18, 0), (19, 0), (20, 0), (21, 0), (22, 0), (23, 0), (24, 0), (25, 0), (26, 0), (27, 0), (28, 0), (29, 0), (30, 0), (31, 0), (32, 0), (33, 0), (34, 0), (35, 0), (36, 0), (37, 0)]
abbrev Q11O : AC := .cond (.s 41) .skip (.exit 0)
abbrev Q11P : AC := .seq Q11N Q11O
abbrev Q11Q : AC := .run [(.op (some 42) none (.mv (.s 3))), (.op (some 43) none (.mv (.s 0))), (.call (some 44) none n_parse_reader_peek [(.s 43)]), (.op (some 45) none (.fld (.s 44) 1 false 1)), (.op (some 46) none (.bslice [(.str [])] 1 1 [(0, (.s 45))])), (.op (some 47) none (.app 1 16 (.s 42) (.s 46))), (.op (some 3) none (.mv (.s 47)))]
abbrev Q11R : AC := .run [(.op (some 48) none (.mv (.s 0))), (.op (some 49) none (.nilck (.s 48))), (.op (some 50) none (.faddr (.s 49) 1)), (.op (some 51) none (.load (.s 50) false 1)), (.op (some 52) none (.bin .add (.s 51) (.k (.int .i64 2)))), (.op (some 53) none (.nilck (.s 48))), (.op (some 54) none (.faddr (.s 53) 1)), (.op none none (.store (.s 54) (.s 52) 1))]
abbrev Q11S : AC := .seq Q11Q Q11R
abbrev Q11T : AC := .block 1 Q11S
abbrev Q11U : AC := .seq Q11P Q11T
abbrev Q11V : AC := .loop Q11U
abbrev Q11W : AC := .block 0 Q11V
abbrev Q11X : AC := .run [(.op (some 55) none (.mv (.s 3))), (.op (some 2) none (.mv (.s 55)))]
abbrev Q11Y : AC := .seq Q11X .ret
abbrev Q11Z : AC := .seq Q11W Q11Y
abbrev Q120 : AC := .seq Q11M Q11Z
abbrev Q121 : AC := .seq Q11L Q120
abbrev Q122 : AC := .run [(.op (some 4) none (.alloc [(.int .i64 0), (.int .i64 0), (.slice .full 0 []), (.str []), (.str []), (.int .i64 0), (.int .i64 0), (.str []), (.slice .full 0 []), (.bool false), (.slice .full 0 []), (.slice .full 0 []), (.slice .full 0 [])]))]
abbrev Q123 : AC := .run [(.op (some 8) none (.mv (.s 0))), (.call (some 9) none n_parse_reader_begins [(.s 8)]), (.op (some 10) none (.un .not (.s 9)))]
abbrev Q124 : AC := .run [(.op (some 11) none (.mv (.s 0))), (.call (some 12) none n_parse_reader_bad [(.s 11), (.k (.int .i64 3))])]
abbrev Q125 : AC := .run [(.op (some 13) none (.build [(.int .i64 0), (.int .i64 0), (.slice .full 0 []), (.str []), (.str []), (.int .i64 0), (.int .i64 0), (.str []), (.slice .full 0 []), (.bool false), (.slice .full 0 []), (.slice .full 0 []), (.slice .full 0 [])] [])), (.op none none (.store (.s 4) (.s 13) 13))]
abbrev Q126 : AC := .seq Q125 .ret
abbrev Q127 : AC := .seq Q124 Q126
abbrev Q128 : AC := .cond (.s 10) Q127 .skip
abbrev Q129 : AC := .seq Q123 Q128
abbrev Q12A : AC := .run [(.op (some 14) none (.mv (.s 0))), (.op (some 15) none (.nilck (.s 14))), (.op (some 16) none (.faddr (.s 15) 4)), (.op (some 17) none (.load (.s 16) false 1)), (.op (some 18) none (.bin .add (.s 17) (.k (.int .i64 1)))), (.op (some 19) none (.nilck (.s 14))), (.op (some 20) none (.faddr (.s 19) 4)), (.op none none (.store (.s 20) (.s 18) 1))]
abbrev Q12B : AC := .run [(.op (some 21) none (.mv (.s 0))), (.op (some 22) none (.nilck (.s 21))), (.op (some 23) none (.faddr (.s 22) 4)), (.op (some 24) none (.load (.s 23) false 1)), (.op (some 25) none (.bin .gtr (.s 24) (.k (.int .i64 200)))), (.op (some 26) none (.mv (.s 25))), (.op (some 27) (some (26, false)) (.mv (.s 1))), (.op (some 28) (some (26, false)) (.bin .gtr (.s 27) (.k (.int .i64 12)))), (.op (some 29) none (.pick (.s 26) (.k (.bool true)) (.s 28)))]
abbrev Q12C : AC := .run [(.op (some 30) none (.mv (.s 0))), (.call (some 31) none n_parse_reader_bad [(.s 30), (.k (.int .i64 4))])]
abbrev Q12D : AC := .run [(.op (some 32) none (.build [(.int .i64 0), (.int .i64 0), (.slice .full 0 []), (.str []), (.str []), (.int .i64 0), (.int .i64 0), (.str []), (.slice .full 0 []), (.bool false), (.slice .full 0 []), (.slice .full 0 []), (.slice .full 0 [])] [])), (.op none none (.store (.s 4) (.s 32) 13))]
abbrev Q12E : AC := .seq Q12D .ret
abbrev Q12F : AC := .seq Q12C Q12E
abbrev Q12G : AC := .cond (.s 29) Q12F .skip
abbrev Q12H : AC := .seq Q12B Q12G
abbrev Q12I : AC := .run [(.op (some 33) none (.mv (.s 0))), (.call (some 34) none n_parse_reader_peek [(.s 33)]), (.op (some 5) none (.alloc [(.int .i64 0), (.str []), (.int .i64 0), (.int .i64 0)])), (.op none none (.store (.s 5) (.s 34) 4))]
abbrev Q12J : AC := .run [(.op (some 35) none (.faddr (.s 5) 0)), (.op (some 36) none (.load (.s 35) false 1)), (.op (some 37) none (.bin .eql (.s 36) (.k (.int .i64 1))))]
abbrev Q12K : AC := .run [(.op (some 38) none (.mv (.s 0))), (.call (some 39) none n_parse_reader_named [(.s 38)]), (.op none none (.store (.s 4) (.s 39) 13))]
abbrev Q12L : AC := .seq Q12K .ret
abbrev Q12M : AC := .cond (.s 37) Q12L .skip
abbrev Q12N : AC := .seq Q12J Q12M
abbrev Q12O : AC := .run [(.op (some 40) none (.mv (.s 0))), (.op (some 41) none (.nilck (.s 40))), (.op (some 42) none (.faddr (.s 41) 1)), (.op (some 43) none (.load (.s 42) false 1)), (.op (some 44) none (.bin .add (.s 43) (.k (.int .i64 1)))), (.op (some 45) none (.nilck (.s 40))), (.op (some 46) none (.faddr (.s 45) 1)), (.op none none (.store (.s 46) (.s 44) 1))]
abbrev Q12P : AC := .run [(.op (some 47) none (.faddr (.s 5) 1)), (.op (some 48) none (.load (.s 47) false 1))]
abbrev Q12Q : AC := .run [(.op (some 50) none (.bin .eql (.s 48) (.k (.str [105, 102])))), (.op (some 49) none (.mv (.s 50)))]
abbrev Q12R : AC := .run [(.op (some 51) none (.mv (.s 0))), (.op (some 52) none (.mv (.s 1))), (.call (some 53) none n_parse_reader_choice [(.s 51), (.s 52)]), (.op none none (.store (.s 4) (.s 53) 13))]
abbrev Q12S : AC := .seq Q12R .ret
abbrev Q12T : AC := .run [(.op (some 55) none (.bin .eql (.s 48) (.k (.str [119, 104, 105, 108, 101])))), (.op (some 54) none (.mv (.s 55)))]
abbrev Q12U : AC := .run [(.op (some 56) none (.mv (.s 0))), (.call (some 57) none n_parse_reader_head [(.s 56)]), (.op (some 58) none (.build [(.int .i64 0), (.int .i64 0), (.slice .full 0 []), (.str []), (.str []), (.int .i64 0), (.int .i64 0), (.str []), (.slice .full 0 []), (.bool false), (.slice .full 0 []), (.slice .full 0 []), (.slice .full 0 [])] [(1, (1, (.k (.int .i64 6)))), (5, (4, (.s 57)))])), (.op (some 6) none (.alloc [(.int .i64 0), (.int .i64 0), (.slice .full 0 []), (.str []), (.str []), (.int .i64 0), (.int .i64 0), (.str []), (.slice .full 0 []), (.bool false), (.slice .full 0 []), (.slice .full 0 []), (.slice .full 0 [])])), (.op none none (.store (.s 6) (.s 58) 13))]
abbrev Q12V : AC := .run [(.op (some 59) none (.mv (.s 0))), (.op (some 60) none (.mv (.s 1))), (.call (some 61) none n_parse_reader_block [(.s 59), (.s 60)]), (.op (some 62) none (.faddr (.s 6) 11)), (.op none none (.store (.s 62) (.s 61) 1))]
abbrev Q12W : AC := .run [(.op (some 63) none (.load (.s 6) true 13)), (.op none none (.store (.s 4) (.s 63) 13))]
abbrev Q12X : AC := .seq Q12W .ret
abbrev Q12Y : AC := .seq Q12V Q12X
abbrev Q12Z : AC := .seq Q12U Q12Y
abbrev Q130 : AC := .cond (.s 54) Q12Z .skip
abbrev Q131 : AC := .seq Q12T Q130
abbrev Q132 : AC := .cond (.s 49) Q12S Q131
abbrev Q133 : AC := .seq Q12Q Q132
abbrev Q134 : AC := .block 0 Q133
abbrev Q135 : AC := .seq Q12P Q134
abbrev Q136 : AC := .run [(.op (some 64) none (.mv (.s 0))), (.op (some 65) none (.faddr (.s 5) 1)), (.op (some 66) none (.load (.s 65) false 1)), (.call (some 67) none n_parse_reader_plain [(.s 64), (.s 66)]), (.op (some 7) none (.alloc [(.int .i64 0), (.int .i64 0), (.slice .full 0 []), (.str []), (.str []), (.int .i64 0), (.int .i64 0), (.str []), (.slice .full 0 []), (.bool false), (.slice .full 0 []), (.slice .full 0 []), (.slice .full 0 [])])), (.op none none (.store (.s 7) (.s 67) 13))]
abbrev Q137 : AC := .run [(.op (some 68) none (.mv (.s 0))), (.call (some 69) none n_parse_reader_want [(.s 68), (.k (.str [59]))])]
abbrev Q138 : AC := .run [(.op (some 70) none (.load (.s 7) true 13)), (.op none none (.store (.s 4) (.s 70) 13))]
abbrev Q139 : AC := .seq Q138 .ret
abbrev Q13A : AC := .seq Q137 Q139
abbrev Q13B : AC := .seq Q136 Q13A
abbrev Q13C : AC := .seq Q135 Q13B
abbrev Q13D : AC := .seq Q12O Q13C
abbrev Q13E : AC := .seq Q12N Q13D
abbrev Q13F : AC := .seq Q12I Q13E
abbrev Q13G : AC := .seq Q12H Q13F
abbrev Q13H : AC := .seq Q12A Q13G
abbrev Q13I : AC := .seq Q129 Q13H
abbrev Q13J : AC := .seq Q122 Q13I
abbrev Q13K : AC := .run [(.op (some 2) none (.mv (.k (.bool false))))]
abbrev Q13L : AC := .run [(.op (some 4) none (.mv (.s 0))), (.call (some 5) none n_parse_reader_peek [(.s 4)]), (.op (some 3) none (.alloc [(.int .i64 0), (.str []), (.int .i64 0), (.int .i64 0)])), (.op none none (.store (.s 3) (.s 5) 4))]
abbrev Q13M : AC := .run [(.op (some 6) none (.faddr (.s 3) 0)), (.op (some 7) none (.load (.s 6) false 1)), (.op (some 8) none (.bin .eql (.s 7) (.k (.int .i64 1))))]
abbrev Q13N : AC := .run [(.op (some 2) none (.mv (.k (.bool true))))]
abbrev Q13O : AC := .seq Q13N .ret
abbrev Q13P : AC := .cond (.s 8) Q13O .skip
abbrev Q13Q : AC := .seq Q13M Q13P
abbrev Q13R : AC := .run [(.op (some 9) none (.faddr (.s 3) 0)), (.op (some 10) none (.load (.s 9) false 1)), (.op (some 11) none (.bin .neq (.s 10) (.k (.int .i64 3))))]
abbrev Q13S : AC := .run [(.op (some 2) none (.mv (.k (.bool false))))]
abbrev Q13T : AC := .seq Q13S .ret
abbrev Q13U : AC := .cond (.s 11) Q13T .skip
abbrev Q13V : AC := .seq Q13R Q13U
abbrev Q13W : AC := .run [(.op (some 12) none (.faddr (.s 3) 1)), (.op (some 13) none (.load (.s 12) false 1))]
abbrev Q13X : AC := .run [(.op (some 15) none (.bin .eql (.s 13) (.k (.str [105, 102])))), (.op (some 14) none (.mv (.s 15)))]
abbrev Q13Y : AC := .run [(.op (some 16) none (.bin .eql (.s 13) (.k (.str [119, 104, 105, 108, 101])))), (.op (some 14) none (.mv (.s 16)))]
abbrev Q13Z : AC := .run [(.op (some 17) none (.bin .eql (.s 13) (.k (.str [98, 114, 101, 97, 107])))), (.op (some 14) none (.mv (.s 17)))]
abbrev Q140 : AC := .run [(.op (some 18) none (.bin .eql (.s 13) (.k (.str [99, 111, 110, 116, 105, 110, 117, 101])))), (.op (some 14) none (.mv (.s 18)))]
abbrev Q141 : AC := .run [(.op (some 19) none (.bin .eql (.s 13) (.k (.str [114, 101, 116, 117, 114, 110])))), (.op (some 14) none (.mv (.s 19)))]
abbrev Q142 : AC := .run [(.op (some 20) none (.bin .eql (.s 13) (.k (.str [103, 111, 116, 111])))), (.op (some 14) none (.mv (.s 20)))]
abbrev Q143 : AC := .run [(.op (some 21) none (.bin .eql (.s 13) (.k (.str [114, 101, 97, 100])))), (.op (some 14) none (.mv (.s 21)))]
abbrev Q144 : AC := .run [(.op (some 22) none (.bin .eql (.s 13) (.k (.str [112, 114, 105, 110, 116])))), (.op (some 14) none (.mv (.s 22)))]
abbrev Q145 : AC := .cond (.s 14) .skip Q144
abbrev Q146 : AC := .seq Q143 Q145
abbrev Q147 : AC := .cond (.s 14) .skip Q146
abbrev Q148 : AC := .seq Q142 Q147
abbrev Q149 : AC := .cond (.s 14) .skip Q148
abbrev Q14A : AC := .seq Q141 Q149
abbrev Q14B : AC := .cond (.s 14) .skip Q14A
abbrev Q14C : AC := .seq Q140 Q14B
abbrev Q14D : AC := .cond (.s 14) .skip Q14C
abbrev Q14E : AC := .seq Q13Z Q14D
abbrev Q14F : AC := .cond (.s 14) .skip Q14E
abbrev Q14G : AC := .seq Q13Y Q14F
abbrev Q14H : AC := .cond (.s 14) .skip Q14G
abbrev Q14I : AC := .seq Q13X Q14H
abbrev Q14J : AC := .run [(.op (some 2) none (.mv (.k (.bool true))))]
abbrev Q14K : AC := .seq Q14J .ret
abbrev Q14L : AC := .cond (.s 14) Q14K .skip
abbrev Q14M : AC := .seq Q14I Q14L
abbrev Q14N : AC := .block 0 Q14M
abbrev Q14O : AC := .seq Q13W Q14N
abbrev Q14P : AC := .run [(.op (some 2) none (.mv (.k (.bool false))))]
abbrev Q14Q : AC := .seq Q14P .ret
abbrev Q14R : AC := .seq Q14O Q14Q
abbrev Q14S : AC := .seq Q13V Q14R
abbrev Q14T : AC := .seq Q13Q Q14S
abbrev Q14U : AC := .seq Q13L Q14T
abbrev Q14V : AC := .seq Q13K Q14U
abbrev Q14W : AC := .run [(.op (some 2) none (.alloc [(.int .i64 0), (.int .i64 0), (.slice .full 0 []), (.str []), (.str []), (.int .i64 0), (.int .i64 0), (.str []), (.slice .full 0 []), (.bool false), (.slice .full 0 []), (.slice .full 0 []), (.slice .full 0 [])]))]
abbrev Q14X : AC := .run [(.op (some 5) none (.mv (.s 0))), (.call (some 6) none n_parse_reader_name [(.s 5), (.k (.bool true))]), (.op (some 3) none (.mv (.s 6)))]
abbrev Q14Y : AC := .run [(.op (some 7) none (.mv (.s 0))), (.call (some 8) none n_parse_reader_is [(.s 7), (.k (.str [40]))])]
abbrev Q14Z : AC := .run [(.op (some 9) none (.mv (.s 0))), (.op (some 10) none (.mv (.s 3))), (.call (some 11) none n_parse_reader_call [(.s 9), (.k (.str [])), (.s 10)]), (.op none none (.store (.s 2) (.s 11) 13))]
abbrev Q150 : AC := .seq Q14Z .ret
abbrev Q151 : AC := .cond (.s 8) Q150 .skip
abbrev Q152 : AC := .seq Q14Y Q151
abbrev Q153 : AC := .run [(.op (some 12) none (.mv (.s 0))), (.call (some 13) none n_parse_reader_want [(.s 12), (.k (.str [61]))])]
abbrev Q154 : AC := .par [(.op (some 14) none (.mv (.s 0))), (.call (some 15) none n_parse_reader_good [(.s 14)]), (.op (some 16) none (.mv (.s 15))), (.op (some 17) (some (16, true)) (.mv (.s 0))), (.call (some 18) (some (16, true)) n_parse_reader_peek [(.s 17)]), (.op (some 19) (some (16, true)) (.fld (.s 18) 0 false 1)), (.op (some 20) (some (16, true)) (.bin .eql (.s 19) (.k (.int .i64 1)))), (.op (some 21) none (.pick (.s 16) (.s 20) (.k (.bool false)))), (.op (some 22) none (.mv (.s 21))), (.op (some 23) (some (22, true)) (.mv (.s 0))), (.op (some 24) (some (22, true)) (.nilck (.s 23))), (.op (some 25) (some (22, true)) (.faddr (.s 24) 0)), (.op (some 26) (some (22, true)) (.load (.s 25) false 1)), (.op (some 27) (some (22, true)) (.mv (.s 0))), (.op (some 28) (some (22, true)) (.nilck (.s 27))), (.op (some 29) (some (22, true)) (.faddr (.s 28) 1)), (.op (some 30) (some (22, true)) (.load (.s 29) false 1)), (.op (some 31) (some (22, true)) (.bin .add (.s 30) (.k (.int .i64 1)))), (.op (some 32) (some (22, true)) (.iaddr (.s 26) (.s 31) 4)), (.op (some 33) (some (22, true)) (.faddr (.s 32) 0)), (.op (some 34) (some (22, true)) (.load (.s 33) false 1)), (.op (some 35) (some (22, true)) (.bin .eql (.s 34) (.k (.int .i64 4)))), (.op (some 36) none (.pick (.s 22) (.s 35) (.k (.bool false)))), (.op (some 37) none (.mv (.s 36))), (.op (some 38) (some (37, true)) (.mv (.s 0))), (.op (some 39) (some (37, true)) (.nilck (.s 38))), (.op (some 40) (some (37, true)) (.faddr (.s 39) 0)), (.op (some 41) (some (37, true)) (.load (.s 40) false 1)), (.op (some 42) (some (37, true)) (.mv (.s 0))), (.op (some 43) (some (37, true)) (.nilck (.s 42))), (.op (some 44) (some (37, true)) (.faddr (.s 43) 1)), (.op (some 45) (some (37, true)) (.load (.s 44) false 1)), (.op (some 46) (some (37, true)) (.bin .add (.s 45) (.k (.int .i64 1)))), (.op (some 47) (some (37, true)) (.iaddr (.s 41) (.s 46) 4)), (.op (some 48) (some (37, true)) (.faddr (.s 47) 1)), (.op (some 49) (some (37, true)) (.load (.s 48) false 1)), (.op (some 50) (some (37, true)) (.bin .eql (.s 49) (.k (.str [40])))), (.op (some 51) none (.pick (.s 37) (.s 50) (.k (.bool false))))] [(0, 0), (1, 0), (2, 0), (3, 0), (4, 0), (5, 0), (6, 0), (7, 0), (8, 0), (9, 0), (10, 0), (11, 0), (12, 0), (13, 0), (14, 0), (15, 0), (16, 0), (17, 0), (18, 0), (19, 0), (20, 0), (21, 0), (22, 0), (23, 0), (24, 0), (25, 0), (26, 0), (27, 0), (28, 0), (29, 0), (30, 0), (31, 0), (32, 0), (33, 0), (34, 0), (35, 0), (36, 0), (37, 0)]
abbrev Q155 : AC := .run [(.op (some 52) none (.mv (.s 0))), (.op (some 53) none (.mv (.s 3))), (.op (some 54) none (.mv (.s 0))), (.call (some 55) none n_parse_reader_name [(.s 54), (.k (.bool true))]), (.call (some 56) none n_parse_reader_call [(.s 52), (.s 53), (.s 55)]), (.op none none (.store (.s 2) (.s 56) 13))]
abbrev Q156 : AC := .seq Q155 .ret
abbrev Q157 : AC := .cond (.s 51) Q156 .skip
abbrev Q158 : AC := .seq Q154 Q157
abbrev Q159 : AC := .run [(.op (some 57) none (.mv (.s 3))), (.op (some 58) none (.mv (.s 0))), (.call (some 59) none n_parse_reader_whole [(.s 58)]), (.op (some 60) none (.build [(.int .i64 0), (.int .i64 0), (.slice .full 0 []), (.str []), (.str []), (.int .i64 0), (.int .i64 0), (.str []), (.slice .full 0 []), (.bool false), (.slice .full 0 []), (.slice .full 0 []), (.slice .full 0 [])] [(1, (1, (.k (.int .i64 1)))), (3, (1, (.s 57))), (5, (4, (.s 59)))])), (.op (some 4) none (.alloc [(.int .i64 0), (.int .i64 0), (.slice .full 0 []), (.str []), (.str []), (.int .i64 0), (.int .i64 0), (.str []), (.slice .full 0 []), (.bool false), (.slice .full 0 []), (.slice .full 0 []), (.slice .full 0 [])])), (.op none none (.store (.s 4) (.s 60) 13))]
abbrev Q15A : AC := .run [(.op (some 61) none (.mv (.s 0))), (.call (some 62) none n_parse_reader_want [(.s 61), (.k (.str [59]))])]
abbrev Q15B : AC := .run [(.op (some 63) none (.load (.s 4) true 13)), (.op none none (.store (.s 2) (.s 63) 13))]
abbrev Q15C : AC := .seq Q15B .ret
abbrev Q15D : AC := .seq Q15A Q15C
abbrev Q15E : AC := .seq Q159 Q15D
abbrev Q15F : AC := .seq Q158 Q15E
abbrev Q15G : AC := .seq Q153 Q15F
abbrev Q15H : AC := .seq Q152 Q15G
abbrev Q15I : AC := .seq Q14X Q15H
abbrev Q15J : AC := .seq Q14W Q15I
abbrev Q15K : AC := .run [(.op (some 4) none (.alloc [(.int .i64 0), (.int .i64 0), (.slice .full 0 []), (.str []), (.str []), (.int .i64 0), (.int .i64 0), (.str []), (.slice .full 0 []), (.bool false), (.slice .full 0 []), (.slice .full 0 []), (.slice .full 0 [])]))]
abbrev Q15L : AC := .run [(.op (some 6) none (.mv (.s 0))), (.call (some 7) none n_parse_reader_head [(.s 6)]), (.op (some 8) none (.build [(.int .i64 0), (.int .i64 0), (.slice .full 0 []), (.str []), (.str []), (.int .i64 0), (.int .i64 0), (.str []), (.slice .full 0 []), (.bool false), (.slice .full 0 []), (.slice .full 0 []), (.slice .full 0 [])] [(1, (1, (.k (.int .i64 5)))), (5, (4, (.s 7)))])), (.op (some 5) none (.alloc [(.int .i64 0), (.int .i64 0), (.slice .full 0 []), (.str []), (.str []), (.int .i64 0), (.int .i64 0), (.str []), (.slice .full 0 []), (.bool false), (.slice .full 0 []), (.slice .full 0 []), (.slice .full 0 [])])), (.op none none (.store (.s 5) (.s 8) 13))]
abbrev Q15M : AC := .run [(.op (some 9) none (.mv (.s 0))), (.op (some 10) none (.mv (.s 1))), (.call (some 11) none n_parse_reader_block [(.s 9), (.s 10)]), (.op (some 12) none (.faddr (.s 5) 11)), (.op none none (.store (.s 12) (.s 11) 1))]
abbrev Q15N : AC := .run [(.op (some 13) none (.mv (.s 0))), (.call (some 14) none n_parse_reader_take [(.s 13), (.k (.str [101, 108, 115, 101]))])]
abbrev Q15O : AC := .run [(.op (some 15) none (.mv (.s 0))), (.op (some 16) none (.mv (.s 1))), (.call (some 17) none n_parse_reader_block [(.s 15), (.s 16)]), (.op (some 18) none (.faddr (.s 5) 12)), (.op none none (.store (.s 18) (.s 17) 1))]
abbrev Q15P : AC := .cond (.s 14) Q15O .skip
abbrev Q15Q : AC := .seq Q15N Q15P
abbrev Q15R : AC := .run [(.op (some 19) none (.load (.s 5) true 13)), (.op none none (.store (.s 4) (.s 19) 13))]
abbrev Q15S : AC := .seq Q15R .ret
abbrev Q15T : AC := .seq Q15Q Q15S
abbrev Q15U : AC := .seq Q15M Q15T
abbrev Q15V : AC := .seq Q15L Q15U
abbrev Q15W : AC := .seq Q15K Q15V
abbrev Q15X : AC := .run [(.op (some 2) none (.alloc [(.int .i64 0), (.int .i64 0), (.str []), (.slice .full 0 [])]))]
abbrev Q15Y : AC := .run [(.op (some 4) none (.mv (.s 0))), (.call (some 5) none n_parse_reader_want [(.s 4), (.k (.str [40]))])]
abbrev Q15Z : AC := .run [(.op (some 6) none (.mv (.s 0))), (.call (some 7) none n_parse_reader_whole [(.s 6)]), (.op (some 3) none (.alloc [(.int .i64 0), (.int .i64 0), (.str []), (.slice .full 0 [])])), (.op none none (.store (.s 3) (.s 7) 4))]
abbrev Q160 : AC := .run [(.op (some 8) none (.mv (.s 0))), (.call (some 9) none n_parse_reader_want [(.s 8), (.k (.str [41]))])]
abbrev Q161 : AC := .run [(.op (some 10) none (.load (.s 3) true 4)), (.op none none (.store (.s 2) (.s 10) 4))]
abbrev Q162 : AC := .seq Q161 .ret
abbrev Q163 : AC := .seq Q160 Q162
abbrev Q164 : AC := .seq Q15Z Q163
abbrev Q165 : AC := .seq Q15Y Q164
abbrev Q166 : AC := .seq Q15X Q165
abbrev Q167 : AC := .run [(.op (some 4) none (.mv (.k (.slice .full 0 []))))]
abbrev Q168 : AC := .run [(.op (some 7) none (.mv (.s 0))), (.call (some 8) none n_parse_reader_want [(.s 7), (.k (.str [123]))])]
abbrev Q169 : AC := .run [(.op (some 10) none (.mv (.s 0))), (.op (some 11) none (.mv (.s 1))), (.op (some 12) none (.bin .add (.s 11) (.k (.int .i64 1)))), (.call (some 13) none n_parse_reader_rows [(.s 10), (.s 12), (.k (.bool false))]), (.op (some 9) none (.mv (.s 13))), (.op (some 14) none (.ext (.s 9) 0)), (.op (some 15) none (.ext (.s 9) 1)), (.op (some 5) none (.mv (.s 14))), (.op (some 6) none (.mv (.s 15)))]
abbrev Q16A : AC := .run [(.op (some 16) none (.mv (.s 5))), (.op (some 4) none (.mv (.s 16)))]
abbrev Q16B : AC := .seq Q16A .ret
abbrev Q16C : AC := .seq Q169 Q16B
abbrev Q16D : AC := .seq Q168 Q16C
abbrev Q16E : AC := .seq Q167 Q16D
abbrev Q16F : AC := .run [(.op (some 4) none (.alloc [(.int .i64 0), (.int .i64 0), (.slice .full 0 []), (.str []), (.str []), (.int .i64 0), (.int .i64 0), (.str []), (.slice .full 0 []), (.bool false), (.slice .full 0 []), (.slice .full 0 []), (.slice .full 0 [])]))]
abbrev Q16G : AC := .run [(.op (some 5) none (.alloc [(.int .i64 0), (.int .i64 0), (.slice .full 0 []), (.str []), (.str []), (.int .i64 0), (.int .i64 0), (.str []), (.slice .full 0 []), (.bool false), (.slice .full 0 []), (.slice .full 0 []), (.slice .full 0 [])]))]
abbrev Q16H : AC := .run [(.op (some 6) none (.mv (.s 1)))]
abbrev Q16I : AC := .run [(.op (some 8) none (.bin .eql (.s 6) (.k (.str [98, 114, 101, 97, 107])))), (.op (some 7) none (.mv (.s 8)))]
abbrev Q16J : AC := .run [(.op (some 9) none (.faddr (.s 5) 1)), (.op none none (.store (.s 9) (.k (.int .i64 7)) 1))]
abbrev Q16K : AC := .run [(.op (some 11) none (.bin .eql (.s 6) (.k (.str [99, 111, 110, 116, 105, 110, 117, 101])))), (.op (some 10) none (.mv (.s 11)))]
abbrev Q16L : AC := .run [(.op (some 12) none (.faddr (.s 5) 1)), (.op none none (.store (.s 12) (.k (.int .i64 8)) 1))]
abbrev Q16M : AC := .run [(.op (some 14) none (.bin .eql (.s 6) (.k (.str [114, 101, 116, 117, 114, 110])))), (.op (some 13) none (.mv (.s 14)))]
abbrev Q16N : AC := .run [(.op (some 15) none (.faddr (.s 5) 1)), (.op none none (.store (.s 15) (.k (.int .i64 9)) 1))]
abbrev Q16O : AC := .run [(.op (some 16) none (.mv (.s 0))), (.call (some 17) none n_parse_reader_is [(.s 16), (.k (.str [59]))]), (.op (some 18) none (.un .not (.s 17)))]
abbrev Q16P : AC := .run [(.op (some 19) none (.mv (.s 0))), (.call (some 20) none n_parse_reader_whole [(.s 19)]), (.op (some 21) none (.faddr (.s 5) 9)), (.op none none (.store (.s 21) (.k (.bool true)) 1)), (.op (some 22) none (.faddr (.s 5) 5)), (.op none none (.store (.s 22) (.s 20) 4))]
abbrev Q16Q : AC := .cond (.s 18) Q16P .skip
abbrev Q16R : AC := .seq Q16O Q16Q
abbrev Q16S : AC := .seq Q16N Q16R
abbrev Q16T : AC := .run [(.op (some 24) none (.bin .eql (.s 6) (.k (.str [103, 111, 116, 111])))), (.op (some 23) none (.mv (.s 24)))]
abbrev Q16U : AC := .run [(.op (some 25) none (.mv (.s 0))), (.call (some 26) none n_parse_reader_name [(.s 25), (.k (.bool true))]), (.op (some 27) none (.faddr (.s 5) 1)), (.op none none (.store (.s 27) (.k (.int .i64 10)) 1)), (.op (some 28) none (.faddr (.s 5) 3)), (.op none none (.store (.s 28) (.s 26) 1))]
abbrev Q16V : AC := .run [(.op (some 30) none (.bin .eql (.s 6) (.k (.str [114, 101, 97, 100])))), (.op (some 29) none (.mv (.s 30)))]
abbrev Q16W : AC := .run [(.op (some 31) none (.mv (.s 0))), (.call (some 32) none n_parse_reader_name [(.s 31), (.k (.bool true))]), (.op (some 33) none (.faddr (.s 5) 1)), (.op none none (.store (.s 33) (.k (.int .i64 2)) 1)), (.op (some 34) none (.faddr (.s 5) 3)), (.op none none (.store (.s 34) (.s 32) 1))]
abbrev Q16X : AC := .run [(.op (some 36) none (.bin .eql (.s 6) (.k (.str [112, 114, 105, 110, 116])))), (.op (some 35) none (.mv (.s 36)))]
abbrev Q16Y : AC := .run [(.op (some 37) none (.mv (.s 0))), (.call (some 38) none n_parse_reader_whole [(.s 37)]), (.op (some 39) none (.faddr (.s 5) 1)), (.op none none (.store (.s 39) (.k (.int .i64 3)) 1)), (.op (some 40) none (.faddr (.s 5) 5)), (.op none none (.store (.s 40) (.s 38) 4))]
abbrev Q16Z : AC := .cond (.s 35) Q16Y .skip
abbrev Q170 : AC := .seq Q16X Q16Z
abbrev Q171 : AC := .cond (.s 29) Q16W Q170
abbrev Q172 : AC := .seq Q16V Q171
abbrev Q173 : AC := .cond (.s 23) Q16U Q172
abbrev Q174 : AC := .seq Q16T Q173
abbrev Q175 : AC := .cond (.s 13) Q16S Q174
abbrev Q176 : AC := .seq Q16M Q175
abbrev Q177 : AC := .cond (.s 10) Q16L Q176
abbrev Q178 : AC := .seq Q16K Q177
abbrev Q179 : AC := .cond (.s 7) Q16J Q178
abbrev Q17A : AC := .seq Q16I Q179
abbrev Q17B : AC := .block 0 Q17A
abbrev Q17C : AC := .seq Q16H Q17B
abbrev Q17D : AC := .run [(.op (some 41) none (.load (.s 5) true 13)), (.op none none (.store (.s 4) (.s 41) 13))]
abbrev Q17E : AC := .seq Q17D .ret
abbrev Q17F : AC := .seq Q17C Q17E
abbrev Q17G : AC := .seq Q16G Q17F
abbrev Q17H : AC := .seq Q16F Q17G
abbrev Q17I : AC := .run [(.op (some 6) none (.alloc [(.int .i64 0), (.int .i64 0), (.slice .full 0 []), (.str []), (.str []), (.int .i64 0), (.int .i64 0), (.str []), (.slice .full 0 []), (.bool false), (.slice .full 0 []), (.slice .full 0 []), (.slice .full 0 [])]))]
abbrev Q17J : AC := .run [(.op (some 8) none (.mv (.s 1))), (.op (some 9) none (.mv (.s 2))), (.op (some 10) none (.build [(.int .i64 0), (.int .i64 0), (.slice .full 0 []), (.str []), (.str []), (.int .i64 0), (.int .i64 0), (.str []), (.slice .full 0 []), (.bool false), (.slice .full 0 []), (.slice .full 0 []), (.slice .full 0 [])] [(1, (1, (.k (.int .i64 4)))), (3, (1, (.s 8))), (4, (1, (.s 9)))])), (.op (some 7) none (.alloc [(.int .i64 0), (.int .i64 0), (.slice .full 0 []), (.str []), (.str []), (.int .i64 0), (.int .i64 0), (.str []), (.slice .full 0 []), (.bool false), (.slice .full 0 []), (.slice .full 0 []), (.slice .full 0 [])])), (.op none none (.store (.s 7) (.s 10) 13))]
abbrev Q17K : AC := .run [(.op (some 11) none (.mv (.s 0))), (.call (some 12) none n_parse_reader_want [(.s 11), (.k (.str [40]))])]
abbrev Q17L : AC := .run [(.op (some 13) none (.mv (.s 0))), (.call (some 14) none n_parse_reader_good [(.s 13)]), (.op (some 15) none (.mv (.s 14))), (.op (some 16) (some (15, true)) (.mv (.s 0))), (.call (some 17) (some (15, true)) n_parse_reader_is [(.s 16), (.k (.str [41]))]), (.op (some 18) (some (15, true)) (.un .not (.s 17))), (.op (some 19) none (.pick (.s 15) (.s 18) (.k (.bool false))))]
abbrev Q17M : AC := .run [(.op (some 20) none (.mv (.s 0))), (.call (some 21) none n_parse_reader_good [(.s 20)])]
abbrev Q17N : AC := .cond (.s 21) .skip (.exit 0)
abbrev Q17O : AC := .seq Q17M Q17N
abbrev Q17P : AC := .run [(.op (some 22) none (.mv (.s 0))), (.call (some 23) none n_parse_reader_take [(.s 22), (.k (.str [114, 101, 102]))])]
abbrev Q17Q : AC := .par [(.op (some 24) none (.faddr (.s 7) 10)), (.op (some 25) none (.load (.s 24) false 1)), (.op (some 26) none (.mv (.s 0))), (.call (some 27) none n_parse_reader_name [(.s 26), (.k (.bool true))]), (.op (some 28) none (.build [(.bool false), (.str []), (.int .i64 0), (.int .i64 0), (.str []), (.slice .full 0 [])] [(0, (1, (.k (.bool true)))), (1, (1, (.s 27)))])), (.op (some 29) none (.bslice [(.bool false), (.str []), (.int .i64 0), (.int .i64 0), (.str []), (.slice .full 0 [])] 6 1 [(0, (.s 28))])), (.op (some 30) none (.app 6 80 (.s 25) (.s 29))), (.op (some 31) none (.faddr (.s 7) 10)), (.op none none (.store (.s 31) (.s 30) 1))] [(2, 0), (3, 0), (0, 0), (1, 1), (4, 0), (5, 0), (6, 0), (7, 0), (8, 0)]
abbrev Q17R : AC := .par [(.op (some 32) none (.faddr (.s 7) 10)), (.op (some 33) none (.load (.s 32) false 1)), (.op (some 34) none (.mv (.s 0))), (.call (some 35) none n_parse_reader_whole [(.s 34)]), (.op (some 36) none (.build [(.bool false), (.str []), (.int .i64 0), (.int .i64 0), (.str []), (.slice .full 0 [])] [(2, (4, (.s 35)))])), (.op (some 37) none (.bslice [(.bool false), (.str []), (.int .i64 0), (.int .i64 0), (.str []), (.slice .full 0 [])] 6 1 [(0, (.s 36))])), (.op (some 38) none (.app 6 80 (.s 33) (.s 37))), (.op (some 39) none (.faddr (.s 7) 10)), (.op none none (.store (.s 39) (.s 38) 1))] [(2, 0), (3, 0), (0, 0), (1, 1), (4, 0), (5, 0), (6, 0), (7, 0), (8, 0)]
abbrev Q17S : AC := .cond (.s 23) Q17Q Q17R
abbrev Q17T : AC := .seq Q17P Q17S
abbrev Q17U : AC := .run [(.op (some 40) none (.mv (.s 0))), (.call (some 41) none n_parse_reader_take [(.s 40), (.k (.str [44]))]), (.op (some 42) none (.un .not (.s 41)))]
abbrev Q17V : AC := .cond (.s 42) (.exit 0) .skip
abbrev Q17W : AC := .seq Q17U Q17V
abbrev Q17X : AC := .seq Q17T Q17W
abbrev Q17Y : AC := .block 1 Q17X
abbrev Q17Z : AC := .seq Q17O Q17Y
abbrev Q180 : AC := .loop Q17Z
abbrev Q181 : AC := .block 0 Q180
abbrev Q182 : AC := .cond (.s 19) Q181 .skip
abbrev Q183 : AC := .seq Q17L Q182
abbrev Q184 : AC := .run [(.op (some 43) none (.mv (.s 0))), (.call (some 44) none n_parse_reader_want [(.s 43), (.k (.str [41]))])]
abbrev Q185 : AC := .run [(.op (some 45) none (.mv (.s 0))), (.call (some 46) none n_parse_reader_want [(.s 45), (.k (.str [59]))])]
abbrev Q186 : AC := .run [(.op (some 47) none (.load (.s 7) true 13)), (.op none none (.store (.s 6) (.s 47) 13))]
abbrev Q187 : AC := .seq Q186 .ret
abbrev Q188 : AC := .seq Q185 Q187
abbrev Q189 : AC := .seq Q184 Q188
abbrev Q18A : AC := .seq Q183 Q189
abbrev Q18B : AC := .seq Q17K Q18A
abbrev Q18C : AC := .seq Q17J Q18B
abbrev Q18D : AC := .seq Q17I Q18C

end Go.Abs

/-! Have3 -/

namespace Go.Abs
open Go.Proofs

theorem has_ref1_small : Has Try.prog n_ref1_small 9 [(2, none)] QU3 := ⟨Try.f90, by kernel_rfl, by kernel_rfl⟩
theorem has_ref1_digit : Has Try.prog n_ref1_digit 9 [(2, none)] QU7 := ⟨Try.f91, by kernel_rfl, by kernel_rfl⟩
theorem has_ref1_Word : Has Try.prog n_ref1_Word 15 [(2, none)] QUU := ⟨Try.f92, by kernel_rfl, by kernel_rfl⟩
theorem has_ref3_weighText : Has Try.prog n_ref3_weighText 19 [(4, none)] QV4 := ⟨Try.f96, by kernel_rfl, by kernel_rfl⟩
theorem has_ref3_Dec : Has Try.prog n_ref3_Dec 15 [(2, none)] QVE := ⟨Try.f97, by kernel_rfl, by kernel_rfl⟩
theorem has_parse_reader_name : Has Try.prog n_parse_reader_name 31 [(4, none)] QW2 := ⟨Try.f100, by kernel_rfl, by kernel_rfl⟩
theorem has_parse_reader_want : Has Try.prog n_parse_reader_want 10 [] QW6 := ⟨Try.f101, by kernel_rfl, by kernel_rfl⟩
theorem has_parse_reader_rows : Has Try.prog n_parse_reader_rows 43 [(6, none), (7, none)] QWZ := ⟨Try.f102, by kernel_rfl, by kernel_rfl⟩
theorem has_tree_expr : Has Try.prog n_tree_expr 24 [(2, (some (true, 4)))] QXM := ⟨Try.f103, by kernel_rfl, by kernel_rfl⟩
theorem has_parse_reader_one : Has Try.prog n_parse_reader_one 64 [(2, (some (true, 4)))] QYZ := ⟨Try.f108, by kernel_rfl, by kernel_rfl⟩
theorem has_parse_op : Has Try.prog n_parse_op 35 [(2, none), (3, none)] Q116 := ⟨Try.f109, by kernel_rfl, by kernel_rfl⟩
theorem has_ref1_Words : Has Try.prog n_ref1_Words 2 [(0, none)] Q11A := ⟨Try.f110, by kernel_rfl, by kernel_rfl⟩
theorem has_ref3_digits : Has Try.prog n_ref3_digits 20 [(2, none)] Q11K := ⟨Try.f111, by kernel_rfl, by kernel_rfl⟩
theorem has_parse_reader_labels : Has Try.prog n_parse_reader_labels 56 [(2, none)] Q121 := ⟨Try.f112, by kernel_rfl, by kernel_rfl⟩
theorem has_parse_reader_stmt : Has Try.prog n_parse_reader_stmt 71 [(4, (some (true, 13)))] Q13J := ⟨Try.f113, by kernel_rfl, by kernel_rfl⟩
theorem has_parse_reader_begins : Has Try.prog n_parse_reader_begins 23 [(2, none)] Q14V := ⟨Try.f116, by kernel_rfl, by kernel_rfl⟩
theorem has_parse_reader_named : Has Try.prog n_parse_reader_named 64 [(2, (some (true, 13)))] Q15J := ⟨Try.f117, by kernel_rfl, by kernel_rfl⟩
theorem has_parse_reader_choice : Has Try.prog n_parse_reader_choice 20 [(4, (some (true, 13)))] Q15W := ⟨Try.f118, by kernel_rfl, by kernel_rfl⟩
theorem has_parse_reader_head : Has Try.prog n_parse_reader_head 11 [(2, (some (true, 4)))] Q166 := ⟨Try.f119, by kernel_rfl, by kernel_rfl⟩
theorem has_parse_reader_block : Has Try.prog n_parse_reader_block 17 [(4, none)] Q16E := ⟨Try.f120, by kernel_rfl, by kernel_rfl⟩
theorem has_parse_reader_plain : Has Try.prog n_parse_reader_plain 42 [(4, (some (true, 13)))] Q17H := ⟨Try.f121, by kernel_rfl, by kernel_rfl⟩
theorem has_parse_reader_call : Has Try.prog n_parse_reader_call 48 [(6, (some (true, 13)))] Q18D := ⟨Try.f123, by kernel_rfl, by kernel_rfl⟩
end Go.Abs

/-! Prs -/

namespace Go.Abs

set_option maxRecDepth 8000
set_option linter.unusedSimpArgs false
set_option linter.unusedVariables false
open Go.Proofs

@[go_sem] def encRd (r : Rd) : List D := [.slice .shared 4 (r.l.map encTok), .int .i64 r.i, .int .i64 r.code, .int .i64 r.fat, .int .i64 r.n]
theorem okRd (r : Rd) : D.oks 0 0 (encRd r) = true := by simp [encRd, D.oks, D.ok, Tag.ok, okrTok]

theorem peek_lt {r : Rd} {t : Tok} (h : r.peek = some t) : r.i < 4611686018427387904 := (peek_get h).1
theorem is_lt {r : Rd} {s : Str} {t : Bool} (h : r.is s = some t) : r.i < 4611686018427387904 := by
  obtain ⟨t, h1, h⟩ := Option.bind_eq_some_iff.1 h
  exact peek_lt h1

-- good
theorem good_0 (l : List Tok) (i c f n : Int) : Fun Try.prog n_parse_reader_good [.ptr 0 0] ⟨[[.slice .shared 4 (l.map encTok), .int .i64 i, .int .i64 c, .int .i64 f, .int .i64 n]], []⟩ (.bool (c == 0)) ⟨[[.slice .shared 4 (l.map encTok), .int .i64 i, .int .i64 c, .int .i64 f, .int .i64 n]], []⟩ := by
  refine Fun.go has_parse_reader_good rfl fun B Q hB hQ => ?_
  have hlt : 0 < 1 := Nat.zero_lt_one
  have hget : 0 < 1 := Nat.zero_lt_one
  have hpu : 0 < 1 := Nat.zero_lt_one
  have hinc : 0 < 1 := Nat.zero_lt_one
  repeat' (first
 | simp only [go_sem, hlt, hget, hpu, hinc, Int.reduceLE, ↓reduceIte, reduceCtorEq, Nat.reduceEqDiff, Nat.reduceLeDiff, Nat.reduceAdd, Nat.reduceMul, Nat.reduceSub, Nat.reduceLT, fgrTok]
 | (with_reducible first | refine CB_ofT (by assumption) fun hc => ?_ | refine CB_ofF (by assumption) fun hc => ?_ | refine CB_split (fun hc => ?_) fun hc => ?_) <;> (try simp only [hc, bs, ↓reduceIte] at h) <;> (try simp only [hc])
 | ((with_reducible first | refine leafR hQ ?_ | refine leafN hQ ?_); (try cases h); simp only [resL, oneD, Option.some.injEq, exists_eq_left', go_sem, hlt, hget, hpu, hinc, Int.reduceLE, ↓reduceIte, reduceCtorEq, Nat.reduceEqDiff, Nat.reduceLeDiff, Nat.reduceAdd, Nat.reduceMul, Nat.reduceSub, Nat.reduceLT, fgrTok]; repeat' (first | exact Ok.out | with_reducible refine And.intro ?_ ?_ | (simp; done)))
 | (cases h; replace h := hr; clear hr; (try simp only [bs, ↓reduceIte] at h))
 | (cases h; done))
theorem good_s {l : List Tok} {i c f n : Int} {s : St} {o : Nat} (ho : s.objs[o]? = some [.slice .shared 4 (l.map encTok), .int .i64 i, .int .i64 c, .int .i64 f, .int .i64 n]) : Fun Try.prog n_parse_reader_good [.ptr o 0] s (.bool (c == 0)) ⟨s.objs.set o [.slice .shared 4 (l.map encTok), .int .i64 i, .int .i64 c, .int .i64 f, .int .i64 n], s.toks⟩ :=
  have hk : D.oks 0 0 [.slice .shared 4 (l.map encTok), .int .i64 i, .int .i64 c, .int .i64 f, .int .i64 n] = true := by simp [D.oks, D.ok, Tag.ok, okrTok]
  Fun.meth (good_0 l i c f n) rfl hk hk rfl ho
theorem peek_0 {r : Rd} {t : Tok} (h : r.peek = some t) : Fun Try.prog n_parse_reader_peek [.ptr 0 0] ⟨[encRd r], []⟩ (.agg (encTok t)) ⟨[encRd r], []⟩ := by
  obtain ⟨h2, h, _, _⟩ := peek_get h
  refine Fun.go has_parse_reader_peek rfl fun B Q hB hQ => ?_
  have hlt : 0 < 1 := Nat.zero_lt_one
  have hget : 0 < 1 := Nat.zero_lt_one
  have hpu : 0 < 1 := Nat.zero_lt_one
  have hinc : 0 < 1 := Nat.zero_lt_one
  repeat' (first
 | simp only [go_sem, hlt, hget, hpu, hinc, Int.reduceLE, ↓reduceIte, reduceCtorEq, Nat.reduceEqDiff, Nat.reduceLeDiff, Nat.reduceAdd, Nat.reduceMul, Nat.reduceSub, Nat.reduceLT, fgrTok, h]
 | (with_reducible first | refine CB_ofT (by assumption) fun hc => ?_ | refine CB_ofF (by assumption) fun hc => ?_ | refine CB_split (fun hc => ?_) fun hc => ?_) <;> (try simp only [hc, bs, ↓reduceIte] at h) <;> (try simp only [hc])
 | ((with_reducible first | refine leafR hQ ?_ | refine leafN hQ ?_); (try cases h); simp only [resL, oneD, Option.some.injEq, exists_eq_left', go_sem, hlt, hget, hpu, hinc, Int.reduceLE, ↓reduceIte, reduceCtorEq, Nat.reduceEqDiff, Nat.reduceLeDiff, Nat.reduceAdd, Nat.reduceMul, Nat.reduceSub, Nat.reduceLT, fgrTok, h]; repeat' (first | exact Ok.out | with_reducible refine And.intro ?_ ?_ | (simp; done)))
 | (cases h; replace h := hr; clear hr; (try simp only [bs, ↓reduceIte] at h))
 | (cases h; done))
theorem peek_s {r : Rd} {t : Tok} (h : r.peek = some t) {s : St} {o : Nat} (ho : s.objs[o]? = some (encRd r)) : Fun Try.prog n_parse_reader_peek [.ptr o 0] s (.agg (encTok t)) ⟨s.objs.set o (encRd r), s.toks⟩ :=
  (peek_0 h).meth rfl (okRd r) (okRd r) (okTok t) ho
theorem is_0 {r : Rd} {text : Str} {b : Bool} (h : r.is text = some b) : Fun Try.prog n_parse_reader_is [.ptr 0 0, .str text] ⟨[encRd r], []⟩ (.bool b) ⟨[encRd r], []⟩ := by
  unfold Rd.is at h
  refine Fun.go has_parse_reader_is rfl fun B Q hB hQ => ?_
  have hlt : 0 < 1 := Nat.zero_lt_one
  have hget : 0 < 1 := Nat.zero_lt_one
  have hpu : 0 < 1 := Nat.zero_lt_one
  have hinc : 0 < 1 := Nat.zero_lt_one
  repeat' (first
 | simp only [go_sem, hlt, hget, hpu, hinc, Int.reduceLE, ↓reduceIte, reduceCtorEq, Nat.reduceEqDiff, Nat.reduceLeDiff, Nat.reduceAdd, Nat.reduceMul, Nat.reduceSub, Nat.reduceLT, fgrTok]
 | (rw [Option.bind_eq_some_iff] at h; obtain ⟨_, h1, h⟩ := h; first | (with_reducible refine CU (peek_s h1 (by with_unfolding_all rfl)) ?_))
 | (with_reducible first | refine CB_ofT (by assumption) fun hc => ?_ | refine CB_ofF (by assumption) fun hc => ?_ | refine CB_split (fun hc => ?_) fun hc => ?_) <;> (try simp only [hc, bs, ↓reduceIte] at h) <;> (try simp only [hc])
 | ((with_reducible first | refine leafR hQ ?_ | refine leafN hQ ?_); (try cases h); simp only [resL, oneD, Option.some.injEq, exists_eq_left', go_sem, hlt, hget, hpu, hinc, Int.reduceLE, ↓reduceIte, reduceCtorEq, Nat.reduceEqDiff, Nat.reduceLeDiff, Nat.reduceAdd, Nat.reduceMul, Nat.reduceSub, Nat.reduceLT, fgrTok]; repeat' (first | exact Ok.out | with_reducible refine And.intro ?_ ?_ | (simp; done)))
 | (cases h; replace h := hr; clear hr; (try simp only [bs, ↓reduceIte] at h))
 | (cases h; done))
theorem is_s {r : Rd} {text : Str} {b : Bool} (h : r.is text = some b) {s : St} {o : Nat} (ho : s.objs[o]? = some (encRd r)) : Fun Try.prog n_parse_reader_is [.ptr o 0, .str text] s (.bool b) ⟨s.objs.set o (encRd r), s.toks⟩ :=
  (is_0 h).meth rfl (okRd r) (okRd r) rfl ho
theorem bad_0 {r r' : Rd} {c : Int} (h : r.bad c = some r') : Fun Try.prog n_parse_reader_bad [.ptr 0 0, .int .i64 c] ⟨[encRd r], []⟩ (.tuple []) ⟨[encRd r'], []⟩ := by
  unfold Rd.bad at h
  refine Fun.go has_parse_reader_bad rfl fun B Q hB hQ => ?_
  have hlt : 0 < 1 := Nat.zero_lt_one
  have hget : 0 < 1 := Nat.zero_lt_one
  have hpu : 0 < 1 := Nat.zero_lt_one
  have hinc : 0 < 1 := Nat.zero_lt_one
  repeat' (first
 | simp only [go_sem, hlt, hget, hpu, hinc, Int.reduceLE, ↓reduceIte, reduceCtorEq, Nat.reduceEqDiff, Nat.reduceLeDiff, Nat.reduceAdd, Nat.reduceMul, Nat.reduceSub, Nat.reduceLT, fgrTok]
 | (rw [Option.bind_eq_some_iff] at h; obtain ⟨_, h1, h⟩ := h; first | (with_reducible refine CU (peek_s h1 (by with_unfolding_all rfl)) ?_))
 | (with_reducible refine CU (good_s (by with_unfolding_all rfl)) ?_)
 | (with_reducible first | refine CB_ofT (by assumption) fun hc => ?_ | refine CB_ofF (by assumption) fun hc => ?_ | refine CB_split (fun hc => ?_) fun hc => ?_) <;> (try simp only [hc, bs, ↓reduceIte] at h) <;> (try simp only [hc])
 | ((with_reducible first | refine leafR hQ ?_ | refine leafN hQ ?_); (try cases h); simp only [resL, oneD, Option.some.injEq, exists_eq_left', go_sem, hlt, hget, hpu, hinc, Int.reduceLE, ↓reduceIte, reduceCtorEq, Nat.reduceEqDiff, Nat.reduceLeDiff, Nat.reduceAdd, Nat.reduceMul, Nat.reduceSub, Nat.reduceLT, fgrTok]; repeat' (first | exact Ok.out | with_reducible refine And.intro ?_ ?_ | (simp; done)))
 | (cases h; replace h := hr; clear hr; (try simp only [bs, ↓reduceIte] at h))
 | (cases h; done))
theorem bad_s {r r' : Rd} {c : Int} (h : r.bad c = some r') {s : St} {o : Nat} (ho : s.objs[o]? = some (encRd r)) : Fun Try.prog n_parse_reader_bad [.ptr o 0, .int .i64 c] s (.tuple []) ⟨s.objs.set o (encRd r'), s.toks⟩ :=
  (bad_0 h).meth rfl (okRd r) (okRd r') rfl ho
theorem take_0 {r : Rd} {text : Str} {p : Bool × Rd} (h : r.take text = some p) : Fun Try.prog n_parse_reader_take [.ptr 0 0, .str text] ⟨[encRd r], []⟩ (.bool p.1) ⟨[encRd p.2], []⟩ := by
  unfold Rd.take at h
  refine Fun.go has_parse_reader_take rfl fun B Q hB hQ => ?_
  have hlt : 0 < 1 := Nat.zero_lt_one
  have hget : 0 < 1 := Nat.zero_lt_one
  have hpu : 0 < 1 := Nat.zero_lt_one
  have hinc : 0 < 1 := Nat.zero_lt_one
  repeat' (first
 | simp only [go_sem, hlt, hget, hpu, hinc, Int.reduceLE, ↓reduceIte, reduceCtorEq, Nat.reduceEqDiff, Nat.reduceLeDiff, Nat.reduceAdd, Nat.reduceMul, Nat.reduceSub, Nat.reduceLT, fgrTok]
 | (rw [Option.bind_eq_some_iff] at h; obtain ⟨_, h1, h⟩ := h; first | (with_reducible refine CU (is_s h1 (by with_unfolding_all rfl)) ?_; have hlt := is_lt h1))
 | (with_reducible refine CU (good_s (by with_unfolding_all rfl)) ?_)
 | (with_reducible first | refine CB_ofT (by assumption) fun hc => ?_ | refine CB_ofF (by assumption) fun hc => ?_ | refine CB_split (fun hc => ?_) fun hc => ?_) <;> (try simp only [hc, bs, ↓reduceIte] at h) <;> (try simp only [hc])
 | ((with_reducible first | refine leafR hQ ?_ | refine leafN hQ ?_); (try cases h); simp only [resL, oneD, Option.some.injEq, exists_eq_left', go_sem, hlt, hget, hpu, hinc, Int.reduceLE, ↓reduceIte, reduceCtorEq, Nat.reduceEqDiff, Nat.reduceLeDiff, Nat.reduceAdd, Nat.reduceMul, Nat.reduceSub, Nat.reduceLT, fgrTok]; repeat' (first | exact Ok.out | with_reducible refine And.intro ?_ ?_ | (simp; done)))
 | (cases h; replace h := hr; clear hr; (try simp only [bs, ↓reduceIte] at h))
 | (cases h; done))
theorem take_s {r : Rd} {text : Str} {p : Bool × Rd} (h : r.take text = some p) {s : St} {o : Nat} (ho : s.objs[o]? = some (encRd r)) : Fun Try.prog n_parse_reader_take [.ptr o 0, .str text] s (.bool p.1) ⟨s.objs.set o (encRd p.2), s.toks⟩ :=
  (take_0 h).meth rfl (okRd r) (okRd p.2) rfl ho
theorem want_0 {r r' : Rd} {text : Str} (h : r.want text = some r') : Fun Try.prog n_parse_reader_want [.ptr 0 0, .str text] ⟨[encRd r], []⟩ (.tuple []) ⟨[encRd r'], []⟩ := by
  unfold Rd.want at h
  refine Fun.go has_parse_reader_want rfl fun B Q hB hQ => ?_
  have hlt : 0 < 1 := Nat.zero_lt_one
  have hget : 0 < 1 := Nat.zero_lt_one
  have hpu : 0 < 1 := Nat.zero_lt_one
  have hinc : 0 < 1 := Nat.zero_lt_one
  repeat' (first
 | simp only [go_sem, hlt, hget, hpu, hinc, Int.reduceLE, ↓reduceIte, reduceCtorEq, Nat.reduceEqDiff, Nat.reduceLeDiff, Nat.reduceAdd, Nat.reduceMul, Nat.reduceSub, Nat.reduceLT, fgrTok]
 | (rw [Option.bind_eq_some_iff] at h; obtain ⟨_, h1, h⟩ := h; first | (with_reducible refine CU (take_s h1 (by with_unfolding_all rfl)) ?_))
 | (with_reducible refine CU (bad_s h (by with_unfolding_all rfl)) ?_)
 | (with_reducible first | refine CB_ofT (by assumption) fun hc => ?_ | refine CB_ofF (by assumption) fun hc => ?_ | refine CB_split (fun hc => ?_) fun hc => ?_) <;> (try simp only [hc, bs, ↓reduceIte] at h) <;> (try simp only [hc])
 | ((with_reducible first | refine leafR hQ ?_ | refine leafN hQ ?_); (try cases h); simp only [resL, oneD, Option.some.injEq, exists_eq_left', go_sem, hlt, hget, hpu, hinc, Int.reduceLE, ↓reduceIte, reduceCtorEq, Nat.reduceEqDiff, Nat.reduceLeDiff, Nat.reduceAdd, Nat.reduceMul, Nat.reduceSub, Nat.reduceLT, fgrTok]; repeat' (first | exact Ok.out | with_reducible refine And.intro ?_ ?_ | (simp; done)))
 | (cases h; replace h := hr; clear hr; (try simp only [bs, ↓reduceIte] at h))
 | (cases h; done))
theorem want_s {r r' : Rd} {text : Str} (h : r.want text = some r') {s : St} {o : Nat} (ho : s.objs[o]? = some (encRd r)) : Fun Try.prog n_parse_reader_want [.ptr o 0, .str text] s (.tuple []) ⟨s.objs.set o (encRd r'), s.toks⟩ :=
  (want_0 h).meth rfl (okRd r) (okRd r') rfl ho
theorem name_0 {r : Rd} {room : Bool} {p : Str × Rd} (h : r.name room = some p) : Fun Try.prog n_parse_reader_name [.ptr 0 0, .bool room] ⟨[encRd r], []⟩ (.str p.1) ⟨[encRd p.2], []⟩ := by
  unfold Rd.name at h
  refine Fun.go has_parse_reader_name rfl fun B Q hB hQ => ?_
  have hlt : 0 < 1 := Nat.zero_lt_one
  have hget : 0 < 1 := Nat.zero_lt_one
  have hpu : 0 < 1 := Nat.zero_lt_one
  have hinc : 0 < 1 := Nat.zero_lt_one
  repeat' (first
 | simp only [go_sem, hlt, hget, hpu, hinc, Int.reduceLE, ↓reduceIte, reduceCtorEq, Nat.reduceEqDiff, Nat.reduceLeDiff, Nat.reduceAdd, Nat.reduceMul, Nat.reduceSub, Nat.reduceLT, fgrTok]
 | (rw [Option.bind_eq_some_iff] at h; obtain ⟨_, h1, h⟩ := h; first | (with_reducible refine CU (peek_s h1 (by with_unfolding_all rfl)) ?_; have hlt := peek_lt h1) | (with_reducible refine CU (bad_s h1 (by with_unfolding_all rfl)) ?_))
 | (with_reducible refine CU (good_s (by with_unfolding_all rfl)) ?_)
 | (with_reducible first | refine CB_ofT (by assumption) fun hc => ?_ | refine CB_ofF (by assumption) fun hc => ?_ | refine CB_split (fun hc => ?_) fun hc => ?_) <;> (try simp only [hc, bs, ↓reduceIte] at h) <;> (try simp only [hc])
 | ((with_reducible first | refine leafR hQ ?_ | refine leafN hQ ?_); (try cases h); simp only [resL, oneD, Option.some.injEq, exists_eq_left', go_sem, hlt, hget, hpu, hinc, Int.reduceLE, ↓reduceIte, reduceCtorEq, Nat.reduceEqDiff, Nat.reduceLeDiff, Nat.reduceAdd, Nat.reduceMul, Nat.reduceSub, Nat.reduceLT, fgrTok]; repeat' (first | exact Ok.out | with_reducible refine And.intro ?_ ?_ | (simp; done)))
 | (cases h; replace h := hr; clear hr; (try simp only [bs, ↓reduceIte] at h))
 | (cases h; done))
theorem name_s {r : Rd} {room : Bool} {p : Str × Rd} (h : r.name room = some p) {s : St} {o : Nat} (ho : s.objs[o]? = some (encRd r)) : Fun Try.prog n_parse_reader_name [.ptr o 0, .bool room] s (.str p.1) ⟨s.objs.set o (encRd p.2), s.toks⟩ :=
  (name_0 h).meth rfl (okRd r) (okRd p.2) rfl ho
end Go.Abs

/-! Prs2 -/

namespace Go.Abs

set_option maxRecDepth 8000
set_option linter.unusedSimpArgs false
set_option linter.unusedVariables false
open Go.Proofs

theorem op_0 {t : Tok} {p : Int × Int} (h : opOf t = p) : Fun Try.prog n_parse_op [.agg (encTok t)] S0 (.tuple [.int .i64 p.1, .int .i64 p.2]) S0 := by
  unfold opOf at h
  unfold S0
  refine Fun.go has_parse_op rfl fun B Q hB hQ => ?_
  have hlt : 0 < 1 := Nat.zero_lt_one
  have hget : 0 < 1 := Nat.zero_lt_one
  have hpu : 0 < 1 := Nat.zero_lt_one
  have hinc : 0 < 1 := Nat.zero_lt_one
  repeat' (first
 | simp only [go_sem, hlt, hget, hpu, hinc, Int.reduceLE, ↓reduceIte, reduceCtorEq, Nat.reduceEqDiff, Nat.reduceLeDiff, Nat.reduceAdd, Nat.reduceMul, Nat.reduceSub, Nat.reduceLT]
 | (with_reducible first | refine CB_ofT (by assumption) fun hc => ?_ | refine CB_ofF (by assumption) fun hc => ?_ | refine CB_split (fun hc => ?_) fun hc => ?_) <;> (try simp only [hc, bs, ↓reduceIte] at h) <;> (try simp only [hc])
 | ((with_reducible first | refine leafR hQ ?_ | refine leafN hQ ?_); (try cases h); simp only [resL, oneD, Option.some.injEq, exists_eq_left', go_sem, hlt, hget, hpu, hinc, Int.reduceLE, ↓reduceIte, reduceCtorEq, Nat.reduceEqDiff, Nat.reduceLeDiff, Nat.reduceAdd, Nat.reduceMul, Nat.reduceSub, Nat.reduceLT]; repeat' (first | exact Ok.out | with_reducible refine And.intro ?_ ?_ | (simp; done)))
 | (cases h; replace h := hr; clear hr; (try simp only [bs, ↓reduceIte] at h))
 | (cases h; done))

theorem depth_n : ∀ n, n < 4611686018427387904 → ∀ x : Ex, x.size ≤ n → Fun Try.prog n_parse_depth [.agg (encEx x)] S0 (.int .i64 (x.depth : Int)) S0 := by
  intro n
  induction n with
  | zero => rintro _ ⟨op, m, name, kids⟩ h; simp only [Ex.size] at h; omega
  | succ n ihn =>
  rintro hn ⟨op, m, name, kids⟩ hx
  have hk : ∀ y ∈ kids, Fun Try.prog n_parse_depth [.agg (encEx y)] S0 (.int .i64 (y.depth : Int)) S0 := fun y hy => ihn (by omega) y (by simp only [Ex.size] at hx; have := Ex.sizes_mem hy; omega)
  have hlen : kids.length < 4611686018427387904 := by simp only [Ex.size] at hx; have := Ex.sizes_len kids; omega
  have hdep : Ex.depths kids < 4611686018427387904 := by have := Ex.depth_size _ _ hx; simp only [Ex.depth] at this; omega
  unfold S0
  refine Fun.go has_parse_depth rfl fun B Q hB hQ => ?_
  have hlt : 0 < 1 := Nat.zero_lt_one
  have hget : 0 < 1 := Nat.zero_lt_one
  have hpu : 0 < 1 := Nat.zero_lt_one
  have hinc : 0 < 1 := Nat.zero_lt_one
  repeat' (first
 | simp only [go_sem, hlt, hget, hpu, hinc, Int.reduceLE, ↓reduceIte, reduceCtorEq, Nat.reduceEqDiff, Nat.reduceLeDiff, Nat.reduceAdd, Nat.reduceMul, Nat.reduceSub, Nat.reduceLT]
 | (with_reducible first | refine CB_ofT (by assumption) fun hc => ?_ | refine CB_ofF (by assumption) fun hc => ?_ | refine CB_split (fun hc => ?_) fun hc => ?_) <;> (try simp only [hc, bs, ↓reduceIte] at h) <;> (try simp only [hc])
 | ((with_reducible first | refine leafR hQ ?_ | refine leafN hQ ?_); (try cases h); simp only [resL, oneD, Option.some.injEq, exists_eq_left', go_sem, hlt, hget, hpu, hinc, Int.reduceLE, ↓reduceIte, reduceCtorEq, Nat.reduceEqDiff, Nat.reduceLeDiff, Nat.reduceAdd, Nat.reduceMul, Nat.reduceSub, Nat.reduceLT]; repeat' (first | exact Ok.out | with_reducible refine And.intro ?_ ?_ | (simp; done)))
 | (cases h; replace h := hr; clear hr; (try simp only [bs, ↓reduceIte] at h))
 | (cases h; done))
  refine SemL.re _ _ 0 0 (by rw [hB]; exact Nat.le_of_ble_eq_true rfl) (by rw [hB]; exact Nat.le_of_ble_eq_true rfl) ?_ ?_ (SemL.ind (ι := List Ex × Nat × Nat) (fun i => kids.drop i.2.1 = i.1 ∧ max i.2.2 (Ex.depths i.1) = Ex.depths kids) (fun i => i.1.length)
    (fun i => [(3, .int .i64 (i.2.2 : Int)), (7, .slice .shared 4 (kids.map encEx)), (8, .int .i64 (kids.length : Int)), (9, .int .i64 (i.2.1 : Int))]) (fun _ => S0) ?_ (kids, 0, 0) ⟨rfl, by simp⟩)
  · (simp only [go_sem, hlt, hget, hpu, hinc, Int.reduceLE, ↓reduceIte, reduceCtorEq, Nat.reduceEqDiff, Nat.reduceLeDiff, Nat.reduceAdd, Nat.reduceMul, Nat.reduceSub, Nat.reduceLT]; repeat' (first | exact Ok.out | with_reducible refine And.intro ?_ ?_))
  · (simp only [go_sem, hlt, hget, hpu, hinc, Int.reduceLE, ↓reduceIte, reduceCtorEq, Nat.reduceEqDiff, Nat.reduceLeDiff, Nat.reduceAdd, Nat.reduceMul, Nat.reduceSub, Nat.reduceLT]; repeat' (first | exact Ok.out | with_reducible refine And.intro ?_ ?_))
  rintro ⟨rest, k, acc⟩ ⟨h1, h2⟩ IH
  unfold S0
  cases rest with
  | nil =>
    have hlt := drop_nil h1
    simp only [Ex.depths, Nat.max_zero] at h2
    subst h2
    repeat' (first
 | simp only [go_sem, hlt, hget, hpu, hinc, Int.reduceLE, ↓reduceIte, reduceCtorEq, Nat.reduceEqDiff, Nat.reduceLeDiff, Nat.reduceAdd, Nat.reduceMul, Nat.reduceSub, Nat.reduceLT, wrap_inc hdep, Ex.depth]
 | (with_reducible first | refine CB_ofT (by assumption) fun hc => ?_ | refine CB_ofF (by assumption) fun hc => ?_ | refine CB_split (fun hc => ?_) fun hc => ?_) <;> (try simp only [hc, bs, ↓reduceIte] at h) <;> (try simp only [hc])
 | ((with_reducible first | refine leafR hQ ?_ | refine leafN hQ ?_); (try cases h); simp only [resL, oneD, Option.some.injEq, exists_eq_left', go_sem, hlt, hget, hpu, hinc, Int.reduceLE, ↓reduceIte, reduceCtorEq, Nat.reduceEqDiff, Nat.reduceLeDiff, Nat.reduceAdd, Nat.reduceMul, Nat.reduceSub, Nat.reduceLT, wrap_inc hdep, Ex.depth]; repeat' (first | exact Ok.out | with_reducible refine And.intro ?_ ?_ | (simp; done)))
 | (cases h; replace h := hr; clear hr; (try simp only [bs, ↓reduceIte] at h))
 | (cases h; done))
  | cons y rest =>
    obtain ⟨g1, g2, hlt, g4⟩ := drop_cons h1
    simp only [Ex.depths] at h2
    have hy := fun s => (hk y (List.mem_of_getElem? g1)).pure (by simp [D.oks, D.ok, okEx]) rfl s
    dsimp only at g1 g2 hlt g4 h2
    repeat' (first
 | simp only [go_sem, hlt, hget, hpu, hinc, Int.reduceLE, ↓reduceIte, reduceCtorEq, Nat.reduceEqDiff, Nat.reduceLeDiff, Nat.reduceAdd, Nat.reduceMul, Nat.reduceSub, Nat.reduceLT, g1]
 | (with_reducible refine CU (hy _) ?_)
 | (with_reducible first | refine CB_ofT (by assumption) fun hc => ?_ | refine CB_ofF (by assumption) fun hc => ?_ | refine CB_split (fun hc => ?_) fun hc => ?_) <;> (try simp only [hc, bs, ↓reduceIte] at h) <;> (try simp only [hc])
 | ((with_reducible first | refine leafR hQ ?_ | refine leafN hQ ?_); (try cases h); simp only [resL, oneD, Option.some.injEq, exists_eq_left', go_sem, hlt, hget, hpu, hinc, Int.reduceLE, ↓reduceIte, reduceCtorEq, Nat.reduceEqDiff, Nat.reduceLeDiff, Nat.reduceAdd, Nat.reduceMul, Nat.reduceSub, Nat.reduceLT, g1]; repeat' (first | exact Ok.out | with_reducible refine And.intro ?_ ?_ | (simp; done)))
 | (cases h; replace h := hr; clear hr; (try simp only [bs, ↓reduceIte] at h))
 | (cases h; done))
    refine SemL.re _ _ 0 0 (by rw [hB]; exact Nat.le_of_ble_eq_true rfl) (by rw [hB]; exact Nat.le_of_ble_eq_true rfl) ?_ ?_ (IH (rest, k + 1, max acc y.depth) ⟨g2, by dsimp only; omega⟩ (by simp))
    · (simp only [go_sem, hlt, hget, hpu, hinc, Int.reduceLE, ↓reduceIte, reduceCtorEq, Nat.reduceEqDiff, Nat.reduceLeDiff, Nat.reduceAdd, Nat.reduceMul, Nat.reduceSub, Nat.reduceLT, mx, wrap_inc (show k < 4611686018427387904 by omega)]; repeat' (first | exact Ok.out | with_reducible refine And.intro ?_ ?_))
    · (simp only [go_sem, hlt, hget, hpu, hinc, Int.reduceLE, ↓reduceIte, reduceCtorEq, Nat.reduceEqDiff, Nat.reduceLeDiff, Nat.reduceAdd, Nat.reduceMul, Nat.reduceSub, Nat.reduceLT, mx, wrap_inc (show k < 4611686018427387904 by omega)]; repeat' (first | exact Ok.out | with_reducible refine And.intro ?_ ?_))

theorem depth_s {x : Ex} {d : Int} (h : depthO x = some d) (s : St) : Fun Try.prog n_parse_depth [.agg (encEx x)] s (.int .i64 d) s := by
  unfold depthO at h
  split at h
  · cases h; exact (depth_n x.size ‹_› x (Nat.le_refl _)).pure (by simp [D.oks, D.ok, okEx]) rfl s
  · cases h

theorem op_s (t : Tok) (s : St) : Fun Try.prog n_parse_op [.agg (encTok t)] s (.tuple [.int .i64 (opOf t).1, .int .i64 (opOf t).2]) s := (op_0 rfl).pure rfl rfl s


theorem ite_p {c : Prop} [Decidable c] {α : Type} {P : α → Prop} {a b : α} (ha : P a) (hb : P b) : P (if c then a else b) := by
  by_cases h : c
  · rw [if_pos h]; exact ha
  · rw [if_neg h]; exact hb
def OpR (p : Int × Int) : Prop := 0 ≤ p.2 ∧ p.2 ≤ 6
theorem op_range (t : Tok) : OpR (opOf t) := by
  unfold opOf
  repeat' with_reducible refine ite_p (P := OpR) ?_ ?_
  all_goals exact ⟨by decide, by decide⟩
theorem op_wrap (t : Tok) : IntKind.wrap .i64 ((opOf t).2 + 1) = (opOf t).2 + 1 := by
  have : 0 ≤ (opOf t).2 ∧ (opOf t).2 ≤ 6 := op_range t
  rw [wrap_ok] <;> omega

abbrev C_one (m : Nat) : Prop := ∀ {r : Rd} {p : Ex × Rd}, Rd.one m r = some p → ∀ {s : St} {o : Nat}, s.objs[o]? = some (encRd r) → Fun Try.prog n_parse_reader_one [.ptr o 0] s (.agg (encEx p.1)) ⟨s.objs.set o (encRd p.2), s.toks⟩
abbrev C_two (m : Nat) : Prop := ∀ {k : Int} {r : Rd} {p : Ex × Rd}, Rd.two m k r = some p → ∀ {s : St} {o : Nat}, s.objs[o]? = some (encRd r) → Fun Try.prog n_parse_reader_two [.ptr o 0, .int .i64 k] s (.agg (encEx p.1)) ⟨s.objs.set o (encRd p.2), s.toks⟩

theorem one_step {m : Nat} (one_s : C_one m) (two_s : C_two m) : C_one (m + 1) := by
  intro r p h s o ho
  refine Fun.meth ?_ rfl (okRd r) (okRd p.2) (by simp [D.ok, okEx]) ho
  unfold Rd.one at h
  refine Fun.go has_parse_reader_one rfl fun B Q hB hQ => ?_
  have hlt : 0 < 1 := Nat.zero_lt_one
  have hget : 0 < 1 := Nat.zero_lt_one
  have hpu : 0 < 1 := Nat.zero_lt_one
  have hinc : 0 < 1 := Nat.zero_lt_one
  repeat' (first
 | simp only [go_sem, hlt, hget, hpu, hinc, Int.reduceLE, ↓reduceIte, reduceCtorEq, Nat.reduceEqDiff, Nat.reduceLeDiff, Nat.reduceAdd, Nat.reduceMul, Nat.reduceSub, Nat.reduceLT]
 | (rw [Option.bind_eq_some_iff] at h; obtain ⟨_, h1, h⟩ := h; first | (with_reducible refine CU (peek_s h1 (by with_unfolding_all rfl)) ?_; have hlt := peek_lt h1) | (with_reducible refine CU (take_s h1 (by with_unfolding_all rfl)) ?_) | (with_reducible refine CU (two_s h1 (by with_unfolding_all rfl)) ?_) | (with_reducible refine CU (want_s h1 (by with_unfolding_all rfl)) ?_) | (with_reducible refine CU (one_s h1 (by with_unfolding_all rfl)) ?_) | (with_reducible refine CU (bad_s h1 (by with_unfolding_all rfl)) ?_))
 | (with_reducible refine CU (good_s (by with_unfolding_all rfl)) ?_)
 | (with_reducible first | refine CB_ofT (by assumption) fun hc => ?_ | refine CB_ofF (by assumption) fun hc => ?_ | refine CB_split (fun hc => ?_) fun hc => ?_) <;> (try simp only [hc, bs, ↓reduceIte] at h) <;> (try simp only [hc])
 | ((with_reducible first | refine leafR hQ ?_ | refine leafN hQ ?_); (try cases h); simp only [resL, oneD, Option.some.injEq, exists_eq_left', go_sem, hlt, hget, hpu, hinc, Int.reduceLE, ↓reduceIte, reduceCtorEq, Nat.reduceEqDiff, Nat.reduceLeDiff, Nat.reduceAdd, Nat.reduceMul, Nat.reduceSub, Nat.reduceLT]; repeat' (first | exact Ok.out | with_reducible refine And.intro ?_ ?_ | (simp; done)))
 | (cases h; replace h := hr; clear hr; (try simp only [bs, ↓reduceIte] at h))
 | (cases h; done))

theorem two_step {m : Nat} (one_s : C_one m) (two_s : ∀ j < m, C_two j) : C_two (m + 1) := by
  intro k r p h s o ho
  refine Fun.meth ?_ rfl (okRd r) (okRd p.2) (by simp [D.ok, okEx]) ho
  unfold Rd.two at h
  refine Fun.go has_parse_reader_two rfl fun B Q hB hQ => ?_
  have hlt : 0 < 1 := Nat.zero_lt_one
  have hget : 0 < 1 := Nat.zero_lt_one
  have hpu : 0 < 1 := Nat.zero_lt_one
  have hinc : 0 < 1 := Nat.zero_lt_one
  repeat' (first
 | simp only [go_sem, hlt, hget, hpu, hinc, Int.reduceLE, ↓reduceIte, reduceCtorEq, Nat.reduceEqDiff, Nat.reduceLeDiff, Nat.reduceAdd, Nat.reduceMul, Nat.reduceSub, Nat.reduceLT]
 | (rw [Option.bind_eq_some_iff] at h; obtain ⟨_, h1, h⟩ := h; first | (with_reducible refine CU (one_s h1 (by with_unfolding_all rfl)) ?_))
 | (with_reducible first | refine CB_ofT (by assumption) fun hc => ?_ | refine CB_ofF (by assumption) fun hc => ?_ | refine CB_split (fun hc => ?_) fun hc => ?_) <;> (try simp only [hc, bs, ↓reduceIte] at h) <;> (try simp only [hc])
 | ((with_reducible first | refine leafR hQ ?_ | refine leafN hQ ?_); (try cases h); simp only [resL, oneD, Option.some.injEq, exists_eq_left', go_sem, hlt, hget, hpu, hinc, Int.reduceLE, ↓reduceIte, reduceCtorEq, Nat.reduceEqDiff, Nat.reduceLeDiff, Nat.reduceAdd, Nat.reduceMul, Nat.reduceSub, Nat.reduceLT]; repeat' (first | exact Ok.out | with_reducible refine And.intro ?_ ?_ | (simp; done)))
 | (cases h; replace h := hr; clear hr; (try simp only [bs, ↓reduceIte] at h))
 | (cases h; done))
  refine SemL.re _ _ 3 0 (by rw [hB]; exact Nat.le_of_ble_eq_true rfl) (by rw [hB]; exact Nat.le_of_ble_eq_true rfl) ?_ ?_ (SemL.ind (ι := Nat × Ex × Rd) (fun i => Rd.twoL i.1 k i.2.1 i.2.2 = some p ∧ i.1 ≤ m) (fun i => i.1)
    (fun i => [(0, .ptr 0 0), (1, .int .i64 k), (4, .ptr 1 0), (5, .ptr 2 0)]) (fun i => ⟨[encRd i.2.2, encEx ex0, encEx i.2.1], []⟩) ?_ (m, _, _) ⟨h, Nat.le_refl _⟩)
  · (simp only [go_sem, hlt, hget, hpu, hinc, Int.reduceLE, ↓reduceIte, reduceCtorEq, Nat.reduceEqDiff, Nat.reduceLeDiff, Nat.reduceAdd, Nat.reduceMul, Nat.reduceSub, Nat.reduceLT]; repeat' (first | exact Ok.out | with_reducible refine And.intro ?_ ?_))
  · (simp only [go_sem, hlt, hget, hpu, hinc, Int.reduceLE, ↓reduceIte, reduceCtorEq, Nat.reduceEqDiff, Nat.reduceLeDiff, Nat.reduceAdd, Nat.reduceMul, Nat.reduceSub, Nat.reduceLT]; repeat' (first | exact Ok.out | with_reducible refine And.intro ?_ ?_))
  rintro ⟨n, x, r⟩ ⟨h, hn⟩ IH
  cases n with
  | zero => simp only [Rd.twoL] at h; cases h
  | succ n =>
    have two_n := @two_s n (by omega)
    simp only [Rd.twoL] at h
    repeat' (first
 | simp only [go_sem, hlt, hget, hpu, hinc, Int.reduceLE, ↓reduceIte, reduceCtorEq, Nat.reduceEqDiff, Nat.reduceLeDiff, Nat.reduceAdd, Nat.reduceMul, Nat.reduceSub, Nat.reduceLT, op_wrap]
 | (rw [Option.bind_eq_some_iff] at h; obtain ⟨_, h1, h⟩ := h; first | (with_reducible refine CU (peek_s h1 (by with_unfolding_all rfl)) ?_; have hlt := peek_lt h1) | (with_reducible refine CU (two_n h1 (by with_unfolding_all rfl)) ?_))
 | (with_reducible refine CU (good_s (by with_unfolding_all rfl)) ?_)
 | (with_reducible refine CU (op_s _ _) ?_)
 | (with_reducible first | refine CB_ofT (by assumption) fun hc => ?_ | refine CB_ofF (by assumption) fun hc => ?_ | refine CB_split (fun hc => ?_) fun hc => ?_) <;> (try simp only [hc, bs, ↓reduceIte] at h) <;> (try simp only [hc])
 | ((with_reducible first | refine leafR hQ ?_ | refine leafN hQ ?_); (try cases h); simp only [resL, oneD, Option.some.injEq, exists_eq_left', go_sem, hlt, hget, hpu, hinc, Int.reduceLE, ↓reduceIte, reduceCtorEq, Nat.reduceEqDiff, Nat.reduceLeDiff, Nat.reduceAdd, Nat.reduceMul, Nat.reduceSub, Nat.reduceLT, op_wrap]; repeat' (first | exact Ok.out | with_reducible refine And.intro ?_ ?_ | (simp; done)))
 | (cases h; replace h := hr; clear hr; (try simp only [bs, ↓reduceIte] at h))
 | (cases h; done))
    refine SemL.re _ _ 3 0 (by rw [hB]; exact Nat.le_of_ble_eq_true rfl) (by rw [hB]; exact Nat.le_of_ble_eq_true rfl) ?_ ?_ (IH (n, _, _) ⟨h, by dsimp only at hn ⊢; omega⟩ (Nat.lt_succ_self _))
    · (simp only [go_sem, hlt, hget, hpu, hinc, Int.reduceLE, ↓reduceIte, reduceCtorEq, Nat.reduceEqDiff, Nat.reduceLeDiff, Nat.reduceAdd, Nat.reduceMul, Nat.reduceSub, Nat.reduceLT]; repeat' (first | exact Ok.out | with_reducible refine And.intro ?_ ?_))
    · (simp only [go_sem, hlt, hget, hpu, hinc, Int.reduceLE, ↓reduceIte, reduceCtorEq, Nat.reduceEqDiff, Nat.reduceLeDiff, Nat.reduceAdd, Nat.reduceMul, Nat.reduceSub, Nat.reduceLT]; repeat' (first | exact Ok.out | with_reducible refine And.intro ?_ ?_))

theorem one_two : ∀ n, ∀ m < n, C_one m ∧ C_two m := by
  intro n
  induction n with
  | zero => intro m h; exact absurd h (Nat.not_lt_zero _)
  | succ n ih =>
    intro m h
    cases m with
    | zero =>
      refine ⟨?_, ?_⟩
      · intro r p h; simp only [Rd.one] at h; cases h
      · intro k r p h; simp only [Rd.two] at h; cases h
    | succ m =>
      have hm := ih m (by omega)
      exact ⟨one_step hm.1 hm.2, two_step hm.1 fun j hj => (ih j (by omega)).2⟩

theorem two_s {m : Nat} {k : Int} {r : Rd} {p : Ex × Rd} (h : Rd.two m k r = some p) {s : St} {o : Nat} (ho : s.objs[o]? = some (encRd r)) :
    Fun Try.prog n_parse_reader_two [.ptr o 0, .int .i64 k] s (.agg (encEx p.1)) ⟨s.objs.set o (encRd p.2), s.toks⟩ := (one_two (m + 1) m (Nat.lt_succ_self _)).2 h ho

theorem whole_s {n : Nat} {r : Rd} {p : Ex × Rd} (h : Rd.whole n r = some p) {s : St} {o : Nat} (ho : s.objs[o]? = some (encRd r)) :
    Fun Try.prog n_parse_reader_whole [.ptr o 0] s (.agg (encEx p.1)) ⟨s.objs.set o (encRd p.2), s.toks⟩ := by
  refine Fun.meth ?_ rfl (okRd r) (okRd p.2) (by simp [D.ok, okEx]) ho
  unfold Rd.whole at h
  refine Fun.go has_parse_reader_whole rfl fun B Q hB hQ => ?_
  have hlt : 0 < 1 := Nat.zero_lt_one
  have hget : 0 < 1 := Nat.zero_lt_one
  have hpu : 0 < 1 := Nat.zero_lt_one
  have hinc : 0 < 1 := Nat.zero_lt_one
  repeat' (first
 | simp only [go_sem, hlt, hget, hpu, hinc, Int.reduceLE, ↓reduceIte, reduceCtorEq, Nat.reduceEqDiff, Nat.reduceLeDiff, Nat.reduceAdd, Nat.reduceMul, Nat.reduceSub, Nat.reduceLT]
 | (rw [Option.bind_eq_some_iff] at h; obtain ⟨_, h1, h⟩ := h; first | (with_reducible refine CU (peek_s h1 (by with_unfolding_all rfl)) ?_) | (with_reducible refine CU (depth_s h1 _) ?_) | (with_reducible refine CU (two_s h1 (by with_unfolding_all rfl)) ?_))
 | (with_reducible refine CU (good_s (by with_unfolding_all rfl)) ?_)
 | (with_reducible first | refine CB_ofT (by assumption) fun hc => ?_ | refine CB_ofF (by assumption) fun hc => ?_ | refine CB_split (fun hc => ?_) fun hc => ?_) <;> (try simp only [hc, bs, ↓reduceIte] at h) <;> (try simp only [hc])
 | ((with_reducible first | refine leafR hQ ?_ | refine leafN hQ ?_); (try cases h); simp only [resL, oneD, Option.some.injEq, exists_eq_left', go_sem, hlt, hget, hpu, hinc, Int.reduceLE, ↓reduceIte, reduceCtorEq, Nat.reduceEqDiff, Nat.reduceLeDiff, Nat.reduceAdd, Nat.reduceMul, Nat.reduceSub, Nat.reduceLT]; repeat' (first | exact Ok.out | with_reducible refine And.intro ?_ ?_ | (simp; done)))
 | (cases h; replace h := hr; clear hr; (try simp only [bs, ↓reduceIte] at h))
 | (cases h; done))

end Go.Abs

/-! Ref1 -/

namespace Go.Abs

set_option maxRecDepth 8000
set_option linter.unusedSimpArgs false
set_option linter.unusedVariables false
open Go.Proofs

/-- The reader's cells; what the last one holds is left open. -/
@[go_sem] def encRc (z : D) (r : Rd) : List D := [.slice .shared 4 (r.l.map encTok), .int .i64 r.i, .int .i64 r.code, .int .i64 r.fat, z]
/-- A plain cell. -/
class Cell (z : D) : Prop where
  ok : D.ok 0 0 z = true
  fg : ∀ n m, D.fg n m z = z
instance (n : Int) : Cell (.int .i64 n) := ⟨rfl, fun _ _ => rfl⟩
instance : Cell .junk := ⟨rfl, fun _ _ => rfl⟩
theorem Cell_fg (z : D) [h : Cell z] (n m : Nat) : D.fg n m z = z := h.fg n m
attribute [go_sem] Cell_fg
/-- Does a word or a sign come, and has there been no fault? -/
def Rd.isO (text : Str) (r : Rd) : Option Bool := if r.good then r.is text else some false

end Go.Abs

/-! Ref2 -/

namespace Go.Abs

set_option maxRecDepth 8000
set_option linter.unusedSimpArgs false
set_option linter.unusedVariables false
open Go.Proofs

def bindsR (s : Str) : Int × Int :=
  if [42] == s then (6, 5) else if [47] == s then (6, 6) else if [37] == s then (6, 7) else if [43] == s then (5, 8) else if [45] == s then (5, 9)
  else if [60] == s then (4, 10) else if [60, 61] == s then (4, 11) else if [62] == s then (4, 12) else if [62, 61] == s then (4, 13)
  else if [61, 61] == s then (3, 14) else if [33, 61] == s then (3, 15) else if [38, 38] == s then (2, 16) else if [124, 124] == s then (1, 17) else (0, 0)

/-- The same signs in the program's order. -/
theorem binds_op (t : Tok) (hk : t.kind = 4) : opOf t = ((bindsR t.text).2, (bindsR t.text).1) := by
  obtain ⟨kind, text, n, pos⟩ := t
  dsimp only at hk
  subst hk
  simp only [opOf]
  by_cases h1 : text = [42]
  · subst h1; rfl
  by_cases h2 : text = [47]
  · subst h2; rfl
  by_cases h3 : text = [37]
  · subst h3; rfl
  by_cases h4 : text = [43]
  · subst h4; rfl
  by_cases h5 : text = [45]
  · subst h5; rfl
  by_cases h6 : text = [60]
  · subst h6; rfl
  by_cases h7 : text = [60, 61]
  · subst h7; rfl
  by_cases h8 : text = [62]
  · subst h8; rfl
  by_cases h9 : text = [62, 61]
  · subst h9; rfl
  by_cases h10 : text = [61, 61]
  · subst h10; rfl
  by_cases h11 : text = [33, 61]
  · subst h11; rfl
  by_cases h12 : text = [38, 38]
  · subst h12; rfl
  by_cases h13 : text = [124, 124]
  · subst h13; rfl
  have e : ∀ c : Str, ¬ text = c → (text == c) = false := fun c h => by simpa using h
  have e' : ∀ c : Str, ¬ text = c → (c == text) = false := fun c h => by simpa using fun h' => h h'.symm
  simp only [bindsR, e _ h1, e _ h2, e _ h3, e _ h4, e _ h5, e _ h6, e _ h7, e _ h8, e _ h9, e _ h10, e _ h11, e _ h12, e _ h13, e' _ h1, e' _ h2, e' _ h3, e' _ h4, e' _ h5, e' _ h6, e' _ h7, e' _ h8, e' _ h9, e' _ h10, e' _ h11, e' _ h12, e' _ h13,
    Bool.false_eq_true, ↓reduceIte]
  rfl
abbrev C_first (m : Nat) : Prop := ∀ {z : D} [Cell z] {r : Rd} {p : Ex × Rd}, Rd.one m r = some p → ∀ {s : St} {o : Nat}, s.objs[o]? = some (encRc z r) → Fun Try.prog n_ref3_P_first [.ptr o 0] s (.agg (encEx p.1)) ⟨s.objs.set o (encRc z p.2), s.toks⟩
abbrev C_rest (m : Nat) : Prop := ∀ {z : D} [Cell z] {k : Int} {x : Ex} {r : Rd} {p : Ex × Rd}, Rd.twoL m k x r = some p → ∀ {s : St} {o : Nat}, s.objs[o]? = some (encRc z r) → Fun Try.prog n_ref3_P_rest [.ptr o 0, .agg (encEx x), .int .i64 k] s (.agg (encEx p.1)) ⟨s.objs.set o (encRc z p.2), s.toks⟩

def BZ (p : Int × Int) : Prop := (p.2 == 0) = (p.1 == 0)
end Go.Abs

/-! Ref3 -/

namespace Go.Abs

set_option maxRecDepth 8000
set_option linter.unusedSimpArgs false
set_option linter.unusedVariables false
open Go.Proofs

theorem deep_n : ∀ (most : Nat), most < 1000000 → ∀ x : Ex, x.size < 4611686018427387904 → ∀ s : St, Fun Try.prog n_ref3_deep [.agg (encEx x), .int .i64 (most : Int)] s (.int .i64 ((min x.depth (most + 1) : Nat) : Int)) s := by
  intro most
  induction most with
  | zero =>
    rintro _ ⟨op, m, name, kids⟩ hx s
    refine Fun.pure ?_ (by simp [D.oks, D.ok, okEx]) rfl s
    have hz : ((0 : Int) == 0) = true := rfl
    have e : min (Ex.depth ⟨op, m, name, kids⟩) (0 + 1) = 1 := by simp only [Ex.depth]; omega
    rw [e]
    unfold S0
    refine Fun.go has_ref3_deep rfl fun B Q hB hQ => ?_
    have hlt : 0 < 1 := Nat.zero_lt_one
    have hget : 0 < 1 := Nat.zero_lt_one
    have hpu : 0 < 1 := Nat.zero_lt_one
    have hinc : 0 < 1 := Nat.zero_lt_one
    repeat' (first
 | simp only [go_sem, hlt, hget, hpu, hinc, Int.reduceLE, ↓reduceIte, reduceCtorEq, Nat.reduceEqDiff, Nat.reduceLeDiff, Nat.reduceAdd, Nat.reduceMul, Nat.reduceSub, Nat.reduceLT, hz]
 | (with_reducible first | refine CB_ofT (by assumption) fun hc => ?_ | refine CB_ofF (by assumption) fun hc => ?_ | refine CB_split (fun hc => ?_) fun hc => ?_) <;> (try simp only [hc, bs, ↓reduceIte] at h) <;> (try simp only [hc])
 | ((with_reducible first | refine leafR hQ ?_ | refine leafN hQ ?_); (try cases h); simp only [resL, oneD, Option.some.injEq, exists_eq_left', go_sem, hlt, hget, hpu, hinc, Int.reduceLE, ↓reduceIte, reduceCtorEq, Nat.reduceEqDiff, Nat.reduceLeDiff, Nat.reduceAdd, Nat.reduceMul, Nat.reduceSub, Nat.reduceLT, hz]; repeat' (first | exact Ok.out | with_reducible refine And.intro ?_ ?_ | (simp; done)))
 | (cases h; replace h := hr; clear hr; (try simp only [bs, ↓reduceIte] at h))
 | (cases h; done))
  | succ most ih =>
    rintro hmost ⟨op, m, name, kids⟩ hx s
    refine Fun.pure ?_ (by simp [D.oks, D.ok, okEx]) rfl s
    have hlen : kids.length < 4611686018427387904 := by simp only [Ex.size] at hx; have := Ex.sizes_len kids; omega
    have hk : ∀ y ∈ kids, ∀ s, Fun Try.prog n_ref3_deep [.agg (encEx y), .int .i64 (most : Int)] s (.int .i64 ((min y.depth (most + 1) : Nat) : Int)) s := fun y hy s =>
      ih (by omega) y (by simp only [Ex.size] at hx; have := Ex.sizes_mem hy; omega) s
    have hz : (((most + 1 : Nat) : Int) == 0) = false := by simp; omega
    have w1 : IntKind.wrap .i64 (((most + 1 : Nat) : Int) - 1) = (most : Int) := by rw [wrap_ok] <;> omega
    unfold S0
    refine Fun.go has_ref3_deep rfl fun B Q hB hQ => ?_
    have hlt : 0 < 1 := Nat.zero_lt_one
    have hget : 0 < 1 := Nat.zero_lt_one
    have hpu : 0 < 1 := Nat.zero_lt_one
    have hinc : 0 < 1 := Nat.zero_lt_one
    repeat' (first
 | simp only [go_sem, hlt, hget, hpu, hinc, Int.reduceLE, ↓reduceIte, reduceCtorEq, Nat.reduceEqDiff, Nat.reduceLeDiff, Nat.reduceAdd, Nat.reduceMul, Nat.reduceSub, Nat.reduceLT, hz]
 | (with_reducible first | refine CB_ofT (by assumption) fun hc => ?_ | refine CB_ofF (by assumption) fun hc => ?_ | refine CB_split (fun hc => ?_) fun hc => ?_) <;> (try simp only [hc, bs, ↓reduceIte] at h) <;> (try simp only [hc])
 | ((with_reducible first | refine leafR hQ ?_ | refine leafN hQ ?_); (try cases h); simp only [resL, oneD, Option.some.injEq, exists_eq_left', go_sem, hlt, hget, hpu, hinc, Int.reduceLE, ↓reduceIte, reduceCtorEq, Nat.reduceEqDiff, Nat.reduceLeDiff, Nat.reduceAdd, Nat.reduceMul, Nat.reduceSub, Nat.reduceLT, hz]; repeat' (first | exact Ok.out | with_reducible refine And.intro ?_ ?_ | (simp; done)))
 | (cases h; replace h := hr; clear hr; (try simp only [bs, ↓reduceIte] at h))
 | (cases h; done))
    refine SemL.re _ _ 1 0 (by rw [hB]; exact Nat.le_of_ble_eq_true rfl) (by rw [hB]; exact Nat.le_of_ble_eq_true rfl) ?_ ?_ (SemL.ind (ι := List Ex × Nat × Nat) (fun i => kids.drop i.2.1 = i.1 ∧ i.2.2 ≤ most + 1 ∧ min (max i.2.2 (Ex.depths i.1)) (most + 1) = min (Ex.depths kids) (most + 1)) (fun i => i.1.length)
      (fun i => [(1, .int .i64 ((most + 1 : Nat) : Int)), (2, .ptr 0 0), (5, .int .i64 (i.2.2 : Int)), (6, .int .i64 (i.2.1 : Int))]) (fun i => ⟨[encEx ⟨op, m, name, kids⟩], []⟩) ?_ (kids, 0, 0) ⟨rfl, Nat.zero_le _, by simp⟩)
    · (simp only [go_sem, hlt, hget, hpu, hinc, Int.reduceLE, ↓reduceIte, reduceCtorEq, Nat.reduceEqDiff, Nat.reduceLeDiff, Nat.reduceAdd, Nat.reduceMul, Nat.reduceSub, Nat.reduceLT]; repeat' (first | exact Ok.out | with_reducible refine And.intro ?_ ?_))
    · (simp only [go_sem, hlt, hget, hpu, hinc, Int.reduceLE, ↓reduceIte, reduceCtorEq, Nat.reduceEqDiff, Nat.reduceLeDiff, Nat.reduceAdd, Nat.reduceMul, Nat.reduceSub, Nat.reduceLT]; repeat' (first | exact Ok.out | with_reducible refine And.intro ?_ ?_))
    rintro ⟨rest, k, d⟩ ⟨h1, h2, h3⟩ IH
    dsimp only at h1 h2 h3
    have hd : min (Ex.depth ⟨op, m, name, kids⟩) (most + 1 + 1) = min (Ex.depths kids) (most + 1) + 1 := by simp only [Ex.depth]; omega
    rw [hd, ← h3] at hQ
    have w2 : IntKind.wrap .i64 ((d : Int) + 1) = ((d + 1 : Nat) : Int) := by rw [wrap_ok] <;> omega
    by_cases hmax : d < most + 1
    · have c2 : decide ((d : Int) < ((most + 1 : Nat) : Int)) = true := by simp; omega
      cases rest with
      | nil =>
        have hlt := drop_nil h1
        simp only [Ex.depths, Nat.max_zero] at hQ
        have e : min d (most + 1) = d := by omega
        rw [e] at hQ
        repeat' (first
 | simp only [go_sem, hlt, hget, hpu, hinc, Int.reduceLE, ↓reduceIte, reduceCtorEq, Nat.reduceEqDiff, Nat.reduceLeDiff, Nat.reduceAdd, Nat.reduceMul, Nat.reduceSub, Nat.reduceLT, c2, w2]
 | (with_reducible first | refine CB_ofT (by assumption) fun hc => ?_ | refine CB_ofF (by assumption) fun hc => ?_ | refine CB_split (fun hc => ?_) fun hc => ?_) <;> (try simp only [hc, bs, ↓reduceIte] at h) <;> (try simp only [hc])
 | ((with_reducible first | refine leafR hQ ?_ | refine leafN hQ ?_); (try cases h); simp only [resL, oneD, Option.some.injEq, exists_eq_left', go_sem, hlt, hget, hpu, hinc, Int.reduceLE, ↓reduceIte, reduceCtorEq, Nat.reduceEqDiff, Nat.reduceLeDiff, Nat.reduceAdd, Nat.reduceMul, Nat.reduceSub, Nat.reduceLT, c2, w2]; repeat' (first | exact Ok.out | with_reducible refine And.intro ?_ ?_ | (simp; done)))
 | (cases h; replace h := hr; clear hr; (try simp only [bs, ↓reduceIte] at h))
 | (cases h; done))
      | cons y rest =>
        obtain ⟨hget, g2, hlt, g4⟩ := drop_cons h1
        have hy := hk y (List.mem_of_getElem? hget)
        simp only [Ex.depths] at h3
        have hk2 : k < 4611686018427387904 := by omega
        by_cases hgt : min y.depth (most + 1) > d
        · have c3 : decide (((min y.depth (most + 1) : Nat) : Int) > (d : Int)) = true := by simp only [decide_eq_true_eq]; omega
          repeat' (first
 | simp only [go_sem, hlt, hget, hpu, hinc, Int.reduceLE, ↓reduceIte, reduceCtorEq, Nat.reduceEqDiff, Nat.reduceLeDiff, Nat.reduceAdd, Nat.reduceMul, Nat.reduceSub, Nat.reduceLT, c2, w1, c3]
 | (with_reducible refine CU (hy _) ?_)
 | (with_reducible first | refine CB_ofT (by assumption) fun hc => ?_ | refine CB_ofF (by assumption) fun hc => ?_ | refine CB_split (fun hc => ?_) fun hc => ?_) <;> (try simp only [hc, bs, ↓reduceIte] at h) <;> (try simp only [hc])
 | ((with_reducible first | refine leafR hQ ?_ | refine leafN hQ ?_); (try cases h); simp only [resL, oneD, Option.some.injEq, exists_eq_left', go_sem, hlt, hget, hpu, hinc, Int.reduceLE, ↓reduceIte, reduceCtorEq, Nat.reduceEqDiff, Nat.reduceLeDiff, Nat.reduceAdd, Nat.reduceMul, Nat.reduceSub, Nat.reduceLT, c2, w1, c3]; repeat' (first | exact Ok.out | with_reducible refine And.intro ?_ ?_ | (simp; done)))
 | (cases h; replace h := hr; clear hr; (try simp only [bs, ↓reduceIte] at h))
 | (cases h; done))
          refine SemL.re _ _ 1 0 (by rw [hB]; exact Nat.le_of_ble_eq_true rfl) (by rw [hB]; exact Nat.le_of_ble_eq_true rfl) ?_ ?_ (IH (rest, k + 1, min y.depth (most + 1)) ⟨g2, by dsimp only; omega, by dsimp only; omega⟩ (Nat.lt_succ_self _))
          · (simp only [go_sem, hlt, hget, hpu, hinc, Int.reduceLE, ↓reduceIte, reduceCtorEq, Nat.reduceEqDiff, Nat.reduceLeDiff, Nat.reduceAdd, Nat.reduceMul, Nat.reduceSub, Nat.reduceLT, wrap_inc hk2]; repeat' (first | exact Ok.out | with_reducible refine And.intro ?_ ?_))
          · (simp only [go_sem, hlt, hget, hpu, hinc, Int.reduceLE, ↓reduceIte, reduceCtorEq, Nat.reduceEqDiff, Nat.reduceLeDiff, Nat.reduceAdd, Nat.reduceMul, Nat.reduceSub, Nat.reduceLT, wrap_inc hk2]; repeat' (first | exact Ok.out | with_reducible refine And.intro ?_ ?_))
        · have c3 : decide (((min y.depth (most + 1) : Nat) : Int) > (d : Int)) = false := by simp only [decide_eq_false_iff_not]; omega
          repeat' (first
 | simp only [go_sem, hlt, hget, hpu, hinc, Int.reduceLE, ↓reduceIte, reduceCtorEq, Nat.reduceEqDiff, Nat.reduceLeDiff, Nat.reduceAdd, Nat.reduceMul, Nat.reduceSub, Nat.reduceLT, c2, w1, c3]
 | (with_reducible refine CU (hy _) ?_)
 | (with_reducible first | refine CB_ofT (by assumption) fun hc => ?_ | refine CB_ofF (by assumption) fun hc => ?_ | refine CB_split (fun hc => ?_) fun hc => ?_) <;> (try simp only [hc, bs, ↓reduceIte] at h) <;> (try simp only [hc])
 | ((with_reducible first | refine leafR hQ ?_ | refine leafN hQ ?_); (try cases h); simp only [resL, oneD, Option.some.injEq, exists_eq_left', go_sem, hlt, hget, hpu, hinc, Int.reduceLE, ↓reduceIte, reduceCtorEq, Nat.reduceEqDiff, Nat.reduceLeDiff, Nat.reduceAdd, Nat.reduceMul, Nat.reduceSub, Nat.reduceLT, c2, w1, c3]; repeat' (first | exact Ok.out | with_reducible refine And.intro ?_ ?_ | (simp; done)))
 | (cases h; replace h := hr; clear hr; (try simp only [bs, ↓reduceIte] at h))
 | (cases h; done))
          refine SemL.re _ _ 1 0 (by rw [hB]; exact Nat.le_of_ble_eq_true rfl) (by rw [hB]; exact Nat.le_of_ble_eq_true rfl) ?_ ?_ (IH (rest, k + 1, d) ⟨g2, h2, by dsimp only; omega⟩ (Nat.lt_succ_self _))
          · (simp only [go_sem, hlt, hget, hpu, hinc, Int.reduceLE, ↓reduceIte, reduceCtorEq, Nat.reduceEqDiff, Nat.reduceLeDiff, Nat.reduceAdd, Nat.reduceMul, Nat.reduceSub, Nat.reduceLT, wrap_inc hk2]; repeat' (first | exact Ok.out | with_reducible refine And.intro ?_ ?_))
          · (simp only [go_sem, hlt, hget, hpu, hinc, Int.reduceLE, ↓reduceIte, reduceCtorEq, Nat.reduceEqDiff, Nat.reduceLeDiff, Nat.reduceAdd, Nat.reduceMul, Nat.reduceSub, Nat.reduceLT, wrap_inc hk2]; repeat' (first | exact Ok.out | with_reducible refine And.intro ?_ ?_))
    · have c2 : decide ((d : Int) < ((most + 1 : Nat) : Int)) = false := by simp; omega
      have e : min (max d (Ex.depths rest)) (most + 1) = d := by omega
      rw [e] at hQ
      cases rest with
      | nil =>
        have hlt := drop_nil h1
        repeat' (first
 | simp only [go_sem, hlt, hget, hpu, hinc, Int.reduceLE, ↓reduceIte, reduceCtorEq, Nat.reduceEqDiff, Nat.reduceLeDiff, Nat.reduceAdd, Nat.reduceMul, Nat.reduceSub, Nat.reduceLT, c2, w2]
 | (with_reducible first | refine CB_ofT (by assumption) fun hc => ?_ | refine CB_ofF (by assumption) fun hc => ?_ | refine CB_split (fun hc => ?_) fun hc => ?_) <;> (try simp only [hc, bs, ↓reduceIte] at h) <;> (try simp only [hc])
 | ((with_reducible first | refine leafR hQ ?_ | refine leafN hQ ?_); (try cases h); simp only [resL, oneD, Option.some.injEq, exists_eq_left', go_sem, hlt, hget, hpu, hinc, Int.reduceLE, ↓reduceIte, reduceCtorEq, Nat.reduceEqDiff, Nat.reduceLeDiff, Nat.reduceAdd, Nat.reduceMul, Nat.reduceSub, Nat.reduceLT, c2, w2]; repeat' (first | exact Ok.out | with_reducible refine And.intro ?_ ?_ | (simp; done)))
 | (cases h; replace h := hr; clear hr; (try simp only [bs, ↓reduceIte] at h))
 | (cases h; done))
      | cons y rest =>
        obtain ⟨hget, g2, hlt, g4⟩ := drop_cons h1
        repeat' (first
 | simp only [go_sem, hlt, hget, hpu, hinc, Int.reduceLE, ↓reduceIte, reduceCtorEq, Nat.reduceEqDiff, Nat.reduceLeDiff, Nat.reduceAdd, Nat.reduceMul, Nat.reduceSub, Nat.reduceLT, c2, w2]
 | (with_reducible first | refine CB_ofT (by assumption) fun hc => ?_ | refine CB_ofF (by assumption) fun hc => ?_ | refine CB_split (fun hc => ?_) fun hc => ?_) <;> (try simp only [hc, bs, ↓reduceIte] at h) <;> (try simp only [hc])
 | ((with_reducible first | refine leafR hQ ?_ | refine leafN hQ ?_); (try cases h); simp only [resL, oneD, Option.some.injEq, exists_eq_left', go_sem, hlt, hget, hpu, hinc, Int.reduceLE, ↓reduceIte, reduceCtorEq, Nat.reduceEqDiff, Nat.reduceLeDiff, Nat.reduceAdd, Nat.reduceMul, Nat.reduceSub, Nat.reduceLT, c2, w2]; repeat' (first | exact Ok.out | with_reducible refine And.intro ?_ ?_ | (simp; done)))
 | (cases h; replace h := hr; clear hr; (try simp only [bs, ↓reduceIte] at h))
 | (cases h; done))

theorem EqExpr_n : ∀ N, N < 4611686018427387904 → ∀ x y : Ex, x.size ≤ N → ∀ s : St, Fun Try.prog n_ref3_EqExpr [.agg (encEx x), .agg (encEx y)] s (.bool (Ex.beq x y)) s := by
  intro N
  induction N with
  | zero => rintro _ ⟨op, m, name, kids⟩ y h; simp only [Ex.size] at h; omega
  | succ N ih =>
  rintro hN ⟨op, m, name, kids⟩ ⟨op', m', name', kids'⟩ hx s
  refine Fun.pure ?_ (by simp [D.oks, D.ok, okEx]) rfl s
  have hk : ∀ a ∈ kids, ∀ b s, Fun Try.prog n_ref3_EqExpr [.agg (encEx a), .agg (encEx b)] s (.bool (Ex.beq a b)) s := fun a ha b s =>
    ih (by omega) a b (by simp only [Ex.size] at hx; have := Ex.sizes_mem ha; omega) s
  have hlen : kids.length < 4611686018427387904 := by simp only [Ex.size] at hx; have := Ex.sizes_len kids; omega
  generalize h : Ex.beq ⟨op, m, name, kids⟩ ⟨op', m', name', kids'⟩ = p
  simp only [Ex.beq] at h
  unfold S0
  refine Fun.go has_ref3_EqExpr rfl fun B Q hB hQ => ?_
  have hlt : 0 < 1 := Nat.zero_lt_one
  have hget : 0 < 1 := Nat.zero_lt_one
  have hpu : 0 < 1 := Nat.zero_lt_one
  have hinc : 0 < 1 := Nat.zero_lt_one
  repeat' (first
 | simp only [go_sem, hlt, hget, hpu, hinc, Int.reduceLE, ↓reduceIte, reduceCtorEq, Nat.reduceEqDiff, Nat.reduceLeDiff, Nat.reduceAdd, Nat.reduceMul, Nat.reduceSub, Nat.reduceLT]
 | (with_reducible first | refine CB_ofT (by assumption) fun hc => ?_ | refine CB_ofF (by assumption) fun hc => ?_ | refine CB_split (fun hc => ?_) fun hc => ?_) <;> (try simp only [hc, bs, ↓reduceIte] at h) <;> (try simp only [hc])
 | ((with_reducible first | refine leafR hQ ?_ | refine leafN hQ ?_); (try cases h); simp only [resL, oneD, Option.some.injEq, exists_eq_left', go_sem, hlt, hget, hpu, hinc, Int.reduceLE, ↓reduceIte, reduceCtorEq, Nat.reduceEqDiff, Nat.reduceLeDiff, Nat.reduceAdd, Nat.reduceMul, Nat.reduceSub, Nat.reduceLT]; repeat' (first | exact Ok.out | with_reducible refine And.intro ?_ ?_ | (simp; done)))
 | (cases h; replace h := hr; clear hr; (try simp only [bs, ↓reduceIte] at h))
 | (cases h; done))
  rename_i hl4
  have hl5 : kids.length = kids'.length := by
    have : ((kids.length : Int) != (kids'.length : Int)) = false := by assumption
    simp only [bne_eq_false_iff_eq] at this
    omega
  refine SemL.re _ _ 2 0 (by rw [hB]; exact Nat.le_of_ble_eq_true rfl) (by rw [hB]; exact Nat.le_of_ble_eq_true rfl) ?_ ?_ (SemL.ind (ι := List Ex × List Ex × Nat) (fun i => kids.drop i.2.2 = i.1 ∧ kids'.drop i.2.2 = i.2.1 ∧ Ex.beqs i.1 i.2.1 = p) (fun i => i.1.length)
    (fun i => [(2, .ptr 0 0), (3, .ptr 1 0), (36, .int .i64 (kids.length : Int)), (37, .int .i64 (i.2.2 : Int))]) (fun i => ⟨[encEx ⟨op, m, name, kids⟩, encEx ⟨op', m', name', kids'⟩], []⟩) ?_ (kids, kids', 0) ⟨rfl, rfl, h⟩)
  · (simp only [go_sem, hlt, hget, hpu, hinc, Int.reduceLE, ↓reduceIte, reduceCtorEq, Nat.reduceEqDiff, Nat.reduceLeDiff, Nat.reduceAdd, Nat.reduceMul, Nat.reduceSub, Nat.reduceLT]; repeat' (first | exact Ok.out | with_reducible refine And.intro ?_ ?_))
  · (simp only [go_sem, hlt, hget, hpu, hinc, Int.reduceLE, ↓reduceIte, reduceCtorEq, Nat.reduceEqDiff, Nat.reduceLeDiff, Nat.reduceAdd, Nat.reduceMul, Nat.reduceSub, Nat.reduceLT]; repeat' (first | exact Ok.out | with_reducible refine And.intro ?_ ?_))
  rintro ⟨r1, r2, k⟩ ⟨h1, h2, h⟩ IH
  dsimp only at h1 h2 h
  cases r1 with
  | nil =>
    have hlt := drop_nil h1
    simp only [Ex.beqs] at h
    repeat' (first
 | simp only [go_sem, hlt, hget, hpu, hinc, Int.reduceLE, ↓reduceIte, reduceCtorEq, Nat.reduceEqDiff, Nat.reduceLeDiff, Nat.reduceAdd, Nat.reduceMul, Nat.reduceSub, Nat.reduceLT]
 | (with_reducible first | refine CB_ofT (by assumption) fun hc => ?_ | refine CB_ofF (by assumption) fun hc => ?_ | refine CB_split (fun hc => ?_) fun hc => ?_) <;> (try simp only [hc, bs, ↓reduceIte] at h) <;> (try simp only [hc])
 | ((with_reducible first | refine leafR hQ ?_ | refine leafN hQ ?_); (try cases h); simp only [resL, oneD, Option.some.injEq, exists_eq_left', go_sem, hlt, hget, hpu, hinc, Int.reduceLE, ↓reduceIte, reduceCtorEq, Nat.reduceEqDiff, Nat.reduceLeDiff, Nat.reduceAdd, Nat.reduceMul, Nat.reduceSub, Nat.reduceLT]; repeat' (first | exact Ok.out | with_reducible refine And.intro ?_ ?_ | (simp; done)))
 | (cases h; replace h := hr; clear hr; (try simp only [bs, ↓reduceIte] at h))
 | (cases h; done))
  | cons a r1 =>
    obtain ⟨hget, g2, hlt, g4⟩ := drop_cons h1
    cases r2 with
    | nil => have := List.drop_eq_nil_iff.1 h2; omega
    | cons b r2 =>
      obtain ⟨hgb, b2, _, _⟩ := drop_cons h2
      have hk2 : k < 4611686018427387904 := by omega
      have hab := hk a (List.mem_of_getElem? hget)
      simp only [Ex.beqs] at h
      repeat' (first
 | simp only [go_sem, hlt, hget, hpu, hinc, Int.reduceLE, ↓reduceIte, reduceCtorEq, Nat.reduceEqDiff, Nat.reduceLeDiff, Nat.reduceAdd, Nat.reduceMul, Nat.reduceSub, Nat.reduceLT, hgb]
 | (with_reducible refine CU (hab _ _) ?_)
 | (with_reducible first | refine CB_ofT (by assumption) fun hc => ?_ | refine CB_ofF (by assumption) fun hc => ?_ | refine CB_split (fun hc => ?_) fun hc => ?_) <;> (try simp only [hc, bs, ↓reduceIte] at h) <;> (try simp only [hc])
 | ((with_reducible first | refine leafR hQ ?_ | refine leafN hQ ?_); (try cases h); simp only [resL, oneD, Option.some.injEq, exists_eq_left', go_sem, hlt, hget, hpu, hinc, Int.reduceLE, ↓reduceIte, reduceCtorEq, Nat.reduceEqDiff, Nat.reduceLeDiff, Nat.reduceAdd, Nat.reduceMul, Nat.reduceSub, Nat.reduceLT, hgb]; repeat' (first | exact Ok.out | with_reducible refine And.intro ?_ ?_ | (simp; done)))
 | (cases h; replace h := hr; clear hr; (try simp only [bs, ↓reduceIte] at h))
 | (cases h; done))
      refine SemL.re _ _ 2 0 (by rw [hB]; exact Nat.le_of_ble_eq_true rfl) (by rw [hB]; exact Nat.le_of_ble_eq_true rfl) ?_ ?_ (IH (r1, r2, k + 1) ⟨g2, b2, h⟩ (Nat.lt_succ_self _))
      · (simp only [go_sem, hlt, hget, hpu, hinc, Int.reduceLE, ↓reduceIte, reduceCtorEq, Nat.reduceEqDiff, Nat.reduceLeDiff, Nat.reduceAdd, Nat.reduceMul, Nat.reduceSub, Nat.reduceLT, wrap_inc hk2]; repeat' (first | exact Ok.out | with_reducible refine And.intro ?_ ?_))
      · (simp only [go_sem, hlt, hget, hpu, hinc, Int.reduceLE, ↓reduceIte, reduceCtorEq, Nat.reduceEqDiff, Nat.reduceLeDiff, Nat.reduceAdd, Nat.reduceMul, Nat.reduceSub, Nat.reduceLT, wrap_inc hk2]; repeat' (first | exact Ok.out | with_reducible refine And.intro ?_ ?_))

theorem EqExpr_s {x y : Ex} (hx : x.size < 4611686018427387904) (s : St) : Fun Try.prog n_ref3_EqExpr [.agg (encEx x), .agg (encEx y)] s (.bool (Ex.beq x y)) s := EqExpr_n _ hx x y (Nat.le_refl _) s

end Go.Abs

/-! MirTree -/

namespace Go.Abs

def Ar.sizes : List Ar → Nat
  | [] => 0
  | a :: l => 1 + a.x.size + Ar.sizes l
mutual
def Sm.size : Sm → Nat
  | ⟨_, _, labels, _, _, x, _, args, thn, els⟩ => 1 + labels.length + x.size + Ar.sizes args + Sm.sizes thn + Sm.sizes els
def Sm.sizes : List Sm → Nat
  | [] => 0
  | s :: l => 1 + s.size + Sm.sizes l
end
def Pc.size (f : Pc) : Nat := 1 + f.params.length + f.vars.length + f.fin.length + Sm.sizes f.body
def Pc.sizes : List Pc → Nat
  | [] => 0
  | f :: l => 1 + f.size + Pc.sizes l
def Pg.size (p : Pg) : Nat := 1 + p.globals.length + Pc.sizes p.procs

mutual
/-- A statement with its id; how many there are so far. -/
def Sm.num (b : Bool) (n : Nat) : Sm → Sm × Nat
  | ⟨id, kind, labels, name, proc, x, has, args, thn, els⟩ =>
    (⟨if b then ((n + 1 : Nat) : Int) else id, kind, labels, name, proc, x, has, args, (Sm.nums b (n + 1) thn).1, (Sm.nums b (Sm.nums b (n + 1) thn).2 els).1⟩, (Sm.nums b (Sm.nums b (n + 1) thn).2 els).2)
def Sm.nums (b : Bool) (n : Nat) : List Sm → List Sm × Nat
  | [] => ([], n)
  | s :: l => ((Sm.num b n s).1 :: (Sm.nums b (Sm.num b n s).2 l).1, (Sm.nums b (Sm.num b n s).2 l).2)
end

def Pc.nums (n : Nat) : List Pc → List Pc
  | [] => []
  | f :: l => { f with body := (Sm.nums true n f.body).1 } :: Pc.nums (Sm.nums true n f.body).2 l
def Pg.number (p : Pg) : Pg := { p with procs := Pc.nums 0 p.procs }
def Pg.numberO (p : Pg) : Option Pg := if p.size < 1073741824 then some p.number else none

mutual
theorem Sm.num_le (b : Bool) (n : Nat) : ∀ s : Sm, (Sm.num b n s).2 ≤ n + s.size
  | ⟨id, kind, labels, name, proc, x, has, args, thn, els⟩ => by
    simp only [Sm.num, Sm.size]
    have h1 := Sm.nums_le b (n + 1) thn
    have h2 := Sm.nums_le b (Sm.nums b (n + 1) thn).2 els
    omega
theorem Sm.nums_le (b : Bool) (n : Nat) : ∀ l : List Sm, (Sm.nums b n l).2 ≤ n + Sm.sizes l
  | [] => by simp [Sm.nums, Sm.sizes]
  | s :: l => by
    simp only [Sm.nums, Sm.sizes]
    have h1 := Sm.num_le b n s
    have h2 := Sm.nums_le b (Sm.num b n s).2 l
    omega
end
theorem Sm.sizes_len : ∀ (l : List Sm), l.length ≤ Sm.sizes l
  | [] => Nat.le_refl _
  | x :: l => by simp only [Sm.sizes, List.length_cons]; have := Sm.sizes_len l; omega
theorem Ar.sizes_len : ∀ (l : List Ar), l.length ≤ Ar.sizes l
  | [] => Nat.le_refl _
  | x :: l => by simp only [Ar.sizes, List.length_cons]; have := Ar.sizes_len l; omega
theorem Pc.sizes_len : ∀ (l : List Pc), l.length ≤ Pc.sizes l
  | [] => Nat.le_refl _
  | x :: l => by simp only [Pc.sizes, List.length_cons]; have := Pc.sizes_len l; omega
theorem Ar.sizes_mem {x : Ar} : ∀ {l : List Ar}, x ∈ l → x.x.size < Ar.sizes l
  | y :: l, h => by
    simp only [Ar.sizes]
    rcases List.mem_cons.1 h with rfl | h
    · omega
    · have := Ar.sizes_mem h; omega
theorem Sm.sizes_mem {x : Sm} : ∀ {l : List Sm}, x ∈ l → x.size < Sm.sizes l
  | y :: l, h => by
    simp only [Sm.sizes]
    rcases List.mem_cons.1 h with rfl | h
    · omega
    · have := Sm.sizes_mem h; omega
theorem Pc.sizes_mem {x : Pc} : ∀ {l : List Pc}, x ∈ l → x.size < Pc.sizes l
  | y :: l, h => by
    simp only [Pc.sizes]
    rcases List.mem_cons.1 h with rfl | h
    · omega
    · have := Pc.sizes_mem h; omega
end Go.Abs

/-! MirEq -/

namespace Go.Abs

def eqTs : List Str → List Str → Bool
  | [], _ => true
  | _ :: _, [] => true
  | x :: l, y :: l' => if !(x == y) then false else eqTs l l'
def eqT (l l' : List Str) : Bool := if (l.length : Int) != (l'.length : Int) then false else eqTs l l'

def Ar.beqs : List Ar → List Ar → Bool
  | [], _ => true
  | _ :: _, [] => true
  | a :: l, b :: l' => if !(a.ref == b.ref) || !(a.name == b.name) || !(Ex.beq a.x b.x) then false else Ar.beqs l l'

mutual
def Sm.beq : Sm → Sm → Bool
  | ⟨id, kind, labels, name, proc, x, has, args, thn, els⟩, ⟨id', kind', labels', name', proc', x', has', args', thn', els'⟩ =>
    if id != id' || kind != kind' || !(name == name') || !(proc == proc') || !(has == has') || !(eqT labels labels') || !(Ex.beq x x') || (args.length : Int) != (args'.length : Int) then false
    else if !(Ar.beqs args args') then false
    else if (if (thn.length : Int) != (thn'.length : Int) then false else Sm.beqs thn thn') then (if (els.length : Int) != (els'.length : Int) then false else Sm.beqs els els') else false
def Sm.beqs : List Sm → List Sm → Bool
  | [], _ => true
  | _ :: _, [] => true
  | s :: l, t :: l' => if !(Sm.beq s t) then false else Sm.beqs l l'
end
def Sm.beqL (l l' : List Sm) : Bool := if (l.length : Int) != (l'.length : Int) then false else Sm.beqs l l'

def Pm.beqs : List Pm → List Pm → Bool
  | [], _ => true
  | _ :: _, [] => true
  | a :: l, b :: l' => if !((a.name == b.name) && (a.ref == b.ref)) then false else Pm.beqs l l'

def Pc.beqs : List Pc → List Pc → Bool
  | [], _ => true
  | _ :: _, [] => true
  | f :: l, g :: l' =>
    if !(f.name == g.name) || (f.params.length : Int) != (g.params.length : Int) || !(eqT f.vars g.vars) || !(eqT f.fin g.fin) || !(Sm.beqL f.body g.body) then false
    else if !(Pm.beqs f.params g.params) then false else Pc.beqs l l'

def Pg.beq (p q : Pg) : Bool := if !(eqT p.globals q.globals) || (p.procs.length : Int) != (q.procs.length : Int) then false else Pc.beqs p.procs q.procs

/-! ### What is the same is the same -/

theorem eqTs_refl : ∀ l, eqTs l l = true
  | [] => rfl
  | x :: l => by simp [eqTs, eqTs_refl l]
theorem eqT_refl (l : List Str) : eqT l l = true := by simp [eqT, eqTs_refl]
theorem Ar.beqs_refl : ∀ l, Ar.beqs l l = true
  | [] => rfl
  | x :: l => by simp [Ar.beqs, Ar.beqs_refl l, Ex.beq_refl]
mutual
theorem Sm.beq_refl : ∀ s, Sm.beq s s = true
  | ⟨id, kind, labels, name, proc, x, has, args, thn, els⟩ => by simp [Sm.beq, eqT_refl, Ex.beq_refl, Ar.beqs_refl, Sm.beqs_refl thn, Sm.beqs_refl els]
theorem Sm.beqs_refl : ∀ l, Sm.beqs l l = true
  | [] => rfl
  | x :: l => by simp [Sm.beqs, Sm.beq_refl x, Sm.beqs_refl l]
end
theorem Sm.beqL_refl (l : List Sm) : Sm.beqL l l = true := by simp [Sm.beqL, Sm.beqs_refl]
theorem Pm.beqs_refl : ∀ l, Pm.beqs l l = true
  | [] => rfl
  | x :: l => by simp [Pm.beqs, Pm.beqs_refl l]
theorem Pc.beqs_refl : ∀ l, Pc.beqs l l = true
  | [] => rfl
  | x :: l => by simp [Pc.beqs, Pc.beqs_refl l, eqT_refl, Sm.beqL_refl, Pm.beqs_refl]
theorem Pg.beq_refl (p : Pg) : Pg.beq p p = true := by simp [Pg.beq, eqT_refl, Pc.beqs_refl]

end Go.Abs

/-! RefEq -/

namespace Go.Abs

set_option maxRecDepth 8000
set_option linter.unusedSimpArgs false
set_option linter.unusedVariables false
open Go.Proofs

theorem EqTexts_s {l l' : List Str} (hl : l.length < 4611686018427387904) (s : St) : Fun Try.prog n_ref3_EqTexts [.slice .shared 1 (l.map encStr), .slice .shared 1 (l'.map encStr)] s (.bool (eqT l l')) s := by
  refine Fun.pure ?_ (by simp [D.oks, D.ok, Tag.ok, okrStr]) rfl s
  generalize h : eqT l l' = p
  simp only [eqT] at h
  unfold S0
  refine Fun.go has_ref3_EqTexts rfl fun B Q hB hQ => ?_
  have hlt : 0 < 1 := Nat.zero_lt_one
  have hget : 0 < 1 := Nat.zero_lt_one
  have hpu : 0 < 1 := Nat.zero_lt_one
  have hinc : 0 < 1 := Nat.zero_lt_one
  repeat' (first
 | simp only [go_sem, hlt, hget, hpu, hinc, Int.reduceLE, ↓reduceIte, reduceCtorEq, Nat.reduceEqDiff, Nat.reduceLeDiff, Nat.reduceAdd, Nat.reduceMul, Nat.reduceSub, Nat.reduceLT]
 | (with_reducible first | refine CB_ofT (by assumption) fun hc => ?_ | refine CB_ofF (by assumption) fun hc => ?_ | refine CB_split (fun hc => ?_) fun hc => ?_) <;> (try simp only [hc, bs, ↓reduceIte] at h) <;> (try simp only [hc])
 | ((with_reducible first | refine leafR hQ ?_ | refine leafN hQ ?_); (try cases h); simp only [resL, oneD, Option.some.injEq, exists_eq_left', go_sem, hlt, hget, hpu, hinc, Int.reduceLE, ↓reduceIte, reduceCtorEq, Nat.reduceEqDiff, Nat.reduceLeDiff, Nat.reduceAdd, Nat.reduceMul, Nat.reduceSub, Nat.reduceLT]; repeat' (first | exact Ok.out | with_reducible refine And.intro ?_ ?_ | (simp; done)))
 | (cases h; replace h := hr; clear hr; (try simp only [bs, ↓reduceIte] at h))
 | (cases h; done))
  have hl5 : l.length = l'.length := by
    have : ((l.length : Int) != (l'.length : Int)) = false := by assumption
    simp only [bne_eq_false_iff_eq] at this
    omega
  refine SemL.re _ _ 0 0 (by rw [hB]; exact Nat.le_of_ble_eq_true rfl) (by rw [hB]; exact Nat.le_of_ble_eq_true rfl) ?_ ?_ (SemL.ind (ι := List Str × List Str × Nat) (fun i => l.drop i.2.2 = i.1 ∧ l'.drop i.2.2 = i.2.1 ∧ eqTs i.1 i.2.1 = p) (fun i => i.1.length)
    (fun i => [(0, .slice .shared 1 (l.map encStr)), (1, .slice .shared 1 (l'.map encStr)), (12, .int .i64 (l.length : Int)), (13, .int .i64 (i.2.2 : Int))]) (fun i => ⟨[], []⟩) ?_ (l, l', 0) ⟨rfl, rfl, h⟩)
  · (simp only [go_sem, hlt, hget, hpu, hinc, Int.reduceLE, ↓reduceIte, reduceCtorEq, Nat.reduceEqDiff, Nat.reduceLeDiff, Nat.reduceAdd, Nat.reduceMul, Nat.reduceSub, Nat.reduceLT]; repeat' (first | exact Ok.out | with_reducible refine And.intro ?_ ?_))
  · (simp only [go_sem, hlt, hget, hpu, hinc, Int.reduceLE, ↓reduceIte, reduceCtorEq, Nat.reduceEqDiff, Nat.reduceLeDiff, Nat.reduceAdd, Nat.reduceMul, Nat.reduceSub, Nat.reduceLT]; repeat' (first | exact Ok.out | with_reducible refine And.intro ?_ ?_))
  rintro ⟨r1, r2, k⟩ ⟨h1, h2, h⟩ IH
  dsimp only at h1 h2 h
  cases r1 with
  | nil =>
    have hlt := drop_nil h1
    simp only [eqTs] at h
    repeat' (first
 | simp only [go_sem, hlt, hget, hpu, hinc, Int.reduceLE, ↓reduceIte, reduceCtorEq, Nat.reduceEqDiff, Nat.reduceLeDiff, Nat.reduceAdd, Nat.reduceMul, Nat.reduceSub, Nat.reduceLT]
 | (with_reducible first | refine CB_ofT (by assumption) fun hc => ?_ | refine CB_ofF (by assumption) fun hc => ?_ | refine CB_split (fun hc => ?_) fun hc => ?_) <;> (try simp only [hc, bs, ↓reduceIte] at h) <;> (try simp only [hc])
 | ((with_reducible first | refine leafR hQ ?_ | refine leafN hQ ?_); (try cases h); simp only [resL, oneD, Option.some.injEq, exists_eq_left', go_sem, hlt, hget, hpu, hinc, Int.reduceLE, ↓reduceIte, reduceCtorEq, Nat.reduceEqDiff, Nat.reduceLeDiff, Nat.reduceAdd, Nat.reduceMul, Nat.reduceSub, Nat.reduceLT]; repeat' (first | exact Ok.out | with_reducible refine And.intro ?_ ?_ | (simp; done)))
 | (cases h; replace h := hr; clear hr; (try simp only [bs, ↓reduceIte] at h))
 | (cases h; done))
  | cons a r1 =>
    obtain ⟨hget, g2, hlt, g4⟩ := drop_cons h1
    cases r2 with
    | nil => have := List.drop_eq_nil_iff.1 h2; omega
    | cons b r2 =>
      obtain ⟨hgb, b2, _, _⟩ := drop_cons h2
      have hk2 : k < 4611686018427387904 := by omega
      simp only [eqTs] at h
      repeat' (first
 | simp only [go_sem, hlt, hget, hpu, hinc, Int.reduceLE, ↓reduceIte, reduceCtorEq, Nat.reduceEqDiff, Nat.reduceLeDiff, Nat.reduceAdd, Nat.reduceMul, Nat.reduceSub, Nat.reduceLT, hgb]
 | (with_reducible first | refine CB_ofT (by assumption) fun hc => ?_ | refine CB_ofF (by assumption) fun hc => ?_ | refine CB_split (fun hc => ?_) fun hc => ?_) <;> (try simp only [hc, bs, ↓reduceIte] at h) <;> (try simp only [hc])
 | ((with_reducible first | refine leafR hQ ?_ | refine leafN hQ ?_); (try cases h); simp only [resL, oneD, Option.some.injEq, exists_eq_left', go_sem, hlt, hget, hpu, hinc, Int.reduceLE, ↓reduceIte, reduceCtorEq, Nat.reduceEqDiff, Nat.reduceLeDiff, Nat.reduceAdd, Nat.reduceMul, Nat.reduceSub, Nat.reduceLT, hgb]; repeat' (first | exact Ok.out | with_reducible refine And.intro ?_ ?_ | (simp; done)))
 | (cases h; replace h := hr; clear hr; (try simp only [bs, ↓reduceIte] at h))
 | (cases h; done))
      refine SemL.re _ _ 0 0 (by rw [hB]; exact Nat.le_of_ble_eq_true rfl) (by rw [hB]; exact Nat.le_of_ble_eq_true rfl) ?_ ?_ (IH (r1, r2, k + 1) ⟨g2, b2, h⟩ (Nat.lt_succ_self _))
      · (simp only [go_sem, hlt, hget, hpu, hinc, Int.reduceLE, ↓reduceIte, reduceCtorEq, Nat.reduceEqDiff, Nat.reduceLeDiff, Nat.reduceAdd, Nat.reduceMul, Nat.reduceSub, Nat.reduceLT, wrap_inc hk2]; repeat' (first | exact Ok.out | with_reducible refine And.intro ?_ ?_))
      · (simp only [go_sem, hlt, hget, hpu, hinc, Int.reduceLE, ↓reduceIte, reduceCtorEq, Nat.reduceEqDiff, Nat.reduceLeDiff, Nat.reduceAdd, Nat.reduceMul, Nat.reduceSub, Nat.reduceLT, wrap_inc hk2]; repeat' (first | exact Ok.out | with_reducible refine And.intro ?_ ?_))

abbrev C_eqOne (N : Nat) : Prop := ∀ s t : Sm, s.size < N → ∀ st : St, Fun Try.prog n_ref3_eqOne [.agg (encSm s), .agg (encSm t)] st (.bool (Sm.beq s t)) st
abbrev C_eqL (N : Nat) : Prop := ∀ l l' : List Sm, Sm.sizes l < N → ∀ st : St, Fun Try.prog n_ref3_EqStmts [.slice .shared 13 (l.map encSm), .slice .shared 13 (l'.map encSm)] st (.bool (Sm.beqL l l')) st

theorem eqL_step {N : Nat} (hN : N < 4611686018427387904) (one : C_eqOne N) : C_eqL (N + 1) := by
  intro l l' hs st
  have hl : l.length < 4611686018427387904 := by have := Sm.sizes_len l; omega
  have hk : ∀ a ∈ l, ∀ b s, Fun Try.prog n_ref3_eqOne [.agg (encSm a), .agg (encSm b)] s (.bool (Sm.beq a b)) s := fun a ha b s =>
    one a b (by have := Sm.sizes_mem ha; omega) s
  refine Fun.pure ?_ (by simp [D.oks, D.ok, Tag.ok, okrSm]) rfl st
  generalize h : Sm.beqL l l' = p
  simp only [Sm.beqL] at h
  unfold S0
  refine Fun.go has_ref3_EqStmts rfl fun B Q hB hQ => ?_
  have hlt : 0 < 1 := Nat.zero_lt_one
  have hget : 0 < 1 := Nat.zero_lt_one
  have hpu : 0 < 1 := Nat.zero_lt_one
  have hinc : 0 < 1 := Nat.zero_lt_one
  repeat' (first
 | simp only [go_sem, hlt, hget, hpu, hinc, Int.reduceLE, ↓reduceIte, reduceCtorEq, Nat.reduceEqDiff, Nat.reduceLeDiff, Nat.reduceAdd, Nat.reduceMul, Nat.reduceSub, Nat.reduceLT]
 | (with_reducible first | refine CB_ofT (by assumption) fun hc => ?_ | refine CB_ofF (by assumption) fun hc => ?_ | refine CB_split (fun hc => ?_) fun hc => ?_) <;> (try simp only [hc, bs, ↓reduceIte] at h) <;> (try simp only [hc])
 | ((with_reducible first | refine leafR hQ ?_ | refine leafN hQ ?_); (try cases h); simp only [resL, oneD, Option.some.injEq, exists_eq_left', go_sem, hlt, hget, hpu, hinc, Int.reduceLE, ↓reduceIte, reduceCtorEq, Nat.reduceEqDiff, Nat.reduceLeDiff, Nat.reduceAdd, Nat.reduceMul, Nat.reduceSub, Nat.reduceLT]; repeat' (first | exact Ok.out | with_reducible refine And.intro ?_ ?_ | (simp; done)))
 | (cases h; replace h := hr; clear hr; (try simp only [bs, ↓reduceIte] at h))
 | (cases h; done))
  have hl5 : l.length = l'.length := by
    have : ((l.length : Int) != (l'.length : Int)) = false := by assumption
    simp only [bne_eq_false_iff_eq] at this
    omega
  refine SemL.re _ _ 0 0 (by rw [hB]; exact Nat.le_of_ble_eq_true rfl) (by rw [hB]; exact Nat.le_of_ble_eq_true rfl) ?_ ?_ (SemL.ind (ι := List Sm × List Sm × Nat) (fun i => l.drop i.2.2 = i.1 ∧ l'.drop i.2.2 = i.2.1 ∧ Sm.beqs i.1 i.2.1 = p) (fun i => i.1.length)
    (fun i => [(0, .slice .shared 13 (l.map encSm)), (1, .slice .shared 13 (l'.map encSm)), (12, .int .i64 (l.length : Int)), (13, .int .i64 (i.2.2 : Int))]) (fun i => ⟨[], []⟩) ?_ (l, l', 0) ⟨rfl, rfl, h⟩)
  · (simp only [go_sem, hlt, hget, hpu, hinc, Int.reduceLE, ↓reduceIte, reduceCtorEq, Nat.reduceEqDiff, Nat.reduceLeDiff, Nat.reduceAdd, Nat.reduceMul, Nat.reduceSub, Nat.reduceLT]; repeat' (first | exact Ok.out | with_reducible refine And.intro ?_ ?_))
  · (simp only [go_sem, hlt, hget, hpu, hinc, Int.reduceLE, ↓reduceIte, reduceCtorEq, Nat.reduceEqDiff, Nat.reduceLeDiff, Nat.reduceAdd, Nat.reduceMul, Nat.reduceSub, Nat.reduceLT]; repeat' (first | exact Ok.out | with_reducible refine And.intro ?_ ?_))
  rintro ⟨r1, r2, k⟩ ⟨h1, h2, h⟩ IH
  dsimp only at h1 h2 h
  cases r1 with
  | nil =>
    have hlt := drop_nil h1
    simp only [Sm.beqs] at h
    repeat' (first
 | simp only [go_sem, hlt, hget, hpu, hinc, Int.reduceLE, ↓reduceIte, reduceCtorEq, Nat.reduceEqDiff, Nat.reduceLeDiff, Nat.reduceAdd, Nat.reduceMul, Nat.reduceSub, Nat.reduceLT]
 | (with_reducible first | refine CB_ofT (by assumption) fun hc => ?_ | refine CB_ofF (by assumption) fun hc => ?_ | refine CB_split (fun hc => ?_) fun hc => ?_) <;> (try simp only [hc, bs, ↓reduceIte] at h) <;> (try simp only [hc])
 | ((with_reducible first | refine leafR hQ ?_ | refine leafN hQ ?_); (try cases h); simp only [resL, oneD, Option.some.injEq, exists_eq_left', go_sem, hlt, hget, hpu, hinc, Int.reduceLE, ↓reduceIte, reduceCtorEq, Nat.reduceEqDiff, Nat.reduceLeDiff, Nat.reduceAdd, Nat.reduceMul, Nat.reduceSub, Nat.reduceLT]; repeat' (first | exact Ok.out | with_reducible refine And.intro ?_ ?_ | (simp; done)))
 | (cases h; replace h := hr; clear hr; (try simp only [bs, ↓reduceIte] at h))
 | (cases h; done))
  | cons a r1 =>
    obtain ⟨hget, g2, hlt, g4⟩ := drop_cons h1
    cases r2 with
    | nil => have := List.drop_eq_nil_iff.1 h2; omega
    | cons b r2 =>
      obtain ⟨hgb, b2, _, _⟩ := drop_cons h2
      have hk2 : k < 4611686018427387904 := by omega
      have hab := hk a (List.mem_of_getElem? hget)
      simp only [Sm.beqs] at h
      repeat' (first
 | simp only [go_sem, hlt, hget, hpu, hinc, Int.reduceLE, ↓reduceIte, reduceCtorEq, Nat.reduceEqDiff, Nat.reduceLeDiff, Nat.reduceAdd, Nat.reduceMul, Nat.reduceSub, Nat.reduceLT, hgb]
 | (with_reducible refine CU (hab _ _) ?_)
 | (with_reducible first | refine CB_ofT (by assumption) fun hc => ?_ | refine CB_ofF (by assumption) fun hc => ?_ | refine CB_split (fun hc => ?_) fun hc => ?_) <;> (try simp only [hc, bs, ↓reduceIte] at h) <;> (try simp only [hc])
 | ((with_reducible first | refine leafR hQ ?_ | refine leafN hQ ?_); (try cases h); simp only [resL, oneD, Option.some.injEq, exists_eq_left', go_sem, hlt, hget, hpu, hinc, Int.reduceLE, ↓reduceIte, reduceCtorEq, Nat.reduceEqDiff, Nat.reduceLeDiff, Nat.reduceAdd, Nat.reduceMul, Nat.reduceSub, Nat.reduceLT, hgb]; repeat' (first | exact Ok.out | with_reducible refine And.intro ?_ ?_ | (simp; done)))
 | (cases h; replace h := hr; clear hr; (try simp only [bs, ↓reduceIte] at h))
 | (cases h; done))
      refine SemL.re _ _ 0 0 (by rw [hB]; exact Nat.le_of_ble_eq_true rfl) (by rw [hB]; exact Nat.le_of_ble_eq_true rfl) ?_ ?_ (IH (r1, r2, k + 1) ⟨g2, b2, h⟩ (Nat.lt_succ_self _))
      · (simp only [go_sem, hlt, hget, hpu, hinc, Int.reduceLE, ↓reduceIte, reduceCtorEq, Nat.reduceEqDiff, Nat.reduceLeDiff, Nat.reduceAdd, Nat.reduceMul, Nat.reduceSub, Nat.reduceLT, wrap_inc hk2]; repeat' (first | exact Ok.out | with_reducible refine And.intro ?_ ?_))
      · (simp only [go_sem, hlt, hget, hpu, hinc, Int.reduceLE, ↓reduceIte, reduceCtorEq, Nat.reduceEqDiff, Nat.reduceLeDiff, Nat.reduceAdd, Nat.reduceMul, Nat.reduceSub, Nat.reduceLT, wrap_inc hk2]; repeat' (first | exact Ok.out | with_reducible refine And.intro ?_ ?_))

theorem eqOne_step {N : Nat} (hN : N < 4611686018427387904) (eql : C_eqL N) : C_eqOne (N + 1) := by
  rintro ⟨id, kind, labels, name, proc, x, has, args, thn, els⟩ ⟨id', kind', labels', name', proc', x', has', args', thn', els'⟩ hs st
  simp only [Sm.size] at hs
  refine Fun.pure ?_ (by simp [D.oks, D.ok, okSm]) rfl st
  have hal := Ar.sizes_len args
  have hT := fun s => EqTexts_s (l := labels) (l' := labels') (by omega) s
  have hX := fun s => EqExpr_s (x := x) (y := x') (by omega) s
  simp only [encEx_eq] at hX
  have h1 := eql thn thn' (by omega)
  have h2 := eql els els' (by omega)
  generalize h : Sm.beq ⟨id, kind, labels, name, proc, x, has, args, thn, els⟩ ⟨id', kind', labels', name', proc', x', has', args', thn', els'⟩ = p
  simp only [Sm.beq] at h
  change (if id != id' || kind != kind' || !(name == name') || !(proc == proc') || !(has == has') || !(eqT labels labels') || !(Ex.beq x x') || (args.length : Int) != (args'.length : Int) then false
    else if !(Ar.beqs args args') then false else if Sm.beqL thn thn' then Sm.beqL els els' else false) = p at h
  unfold S0
  refine Fun.go has_ref3_eqOne rfl fun B Q hB hQ => ?_
  have hlt : 0 < 1 := Nat.zero_lt_one
  have hget : 0 < 1 := Nat.zero_lt_one
  have hpu : 0 < 1 := Nat.zero_lt_one
  have hinc : 0 < 1 := Nat.zero_lt_one
  repeat' (first
 | simp only [go_sem, hlt, hget, hpu, hinc, Int.reduceLE, ↓reduceIte, reduceCtorEq, Nat.reduceEqDiff, Nat.reduceLeDiff, Nat.reduceAdd, Nat.reduceMul, Nat.reduceSub, Nat.reduceLT]
 | (with_reducible refine CU (hT _) ?_)
 | (with_reducible refine CU (hX _) ?_)
 | (with_reducible first | refine CB_ofT (by assumption) fun hc => ?_ | refine CB_ofF (by assumption) fun hc => ?_ | refine CB_split (fun hc => ?_) fun hc => ?_) <;> (try simp only [hc, bs, ↓reduceIte] at h) <;> (try simp only [hc])
 | ((with_reducible first | refine leafR hQ ?_ | refine leafN hQ ?_); (try cases h); simp only [resL, oneD, Option.some.injEq, exists_eq_left', go_sem, hlt, hget, hpu, hinc, Int.reduceLE, ↓reduceIte, reduceCtorEq, Nat.reduceEqDiff, Nat.reduceLeDiff, Nat.reduceAdd, Nat.reduceMul, Nat.reduceSub, Nat.reduceLT]; repeat' (first | exact Ok.out | with_reducible refine And.intro ?_ ?_ | (simp; done)))
 | (cases h; replace h := hr; clear hr; (try simp only [bs, ↓reduceIte] at h))
 | (cases h; done))
  have hl5 : args.length = args'.length := by
    have : ((args.length : Int) != (args'.length : Int)) = false := by assumption
    simp only [bne_eq_false_iff_eq] at this
    omega
  refine SemL.re _ _ 2 0 (by rw [hB]; exact Nat.le_of_ble_eq_true rfl) (by rw [hB]; exact Nat.le_of_ble_eq_true rfl) ?_ ?_ (SemL.ind (ι := List Ar × List Ar × Nat) (fun i => args.drop i.2.2 = i.1 ∧ args'.drop i.2.2 = i.2.1 ∧ (if !(Ar.beqs i.1 i.2.1) then false else if Sm.beqL thn thn' then Sm.beqL els els' else false) = p) (fun i => i.1.length)
    (fun i => [(2, .ptr 0 0), (3, .ptr 1 0), (66, .int .i64 (args.length : Int)), (67, .int .i64 (i.2.2 : Int))]) (fun i => ⟨[encSm ⟨id, kind, labels, name, proc, x, has, args, thn, els⟩, encSm ⟨id', kind', labels', name', proc', x', has', args', thn', els'⟩], []⟩) ?_ (args, args', 0) ⟨rfl, rfl, h⟩)
  · (simp only [go_sem, hlt, hget, hpu, hinc, Int.reduceLE, ↓reduceIte, reduceCtorEq, Nat.reduceEqDiff, Nat.reduceLeDiff, Nat.reduceAdd, Nat.reduceMul, Nat.reduceSub, Nat.reduceLT]; repeat' (first | exact Ok.out | with_reducible refine And.intro ?_ ?_))
  · (simp only [go_sem, hlt, hget, hpu, hinc, Int.reduceLE, ↓reduceIte, reduceCtorEq, Nat.reduceEqDiff, Nat.reduceLeDiff, Nat.reduceAdd, Nat.reduceMul, Nat.reduceSub, Nat.reduceLT]; repeat' (first | exact Ok.out | with_reducible refine And.intro ?_ ?_))
  rintro ⟨r1, r2, k⟩ ⟨j1, j2, h⟩ IH
  dsimp only at j1 j2 h
  cases r1 with
  | nil =>
    have hlt := drop_nil j1
    simp only [Ar.beqs, Bool.not_true, Bool.false_eq_true, ↓reduceIte] at h
    repeat' (first
 | simp only [go_sem, hlt, hget, hpu, hinc, Int.reduceLE, ↓reduceIte, reduceCtorEq, Nat.reduceEqDiff, Nat.reduceLeDiff, Nat.reduceAdd, Nat.reduceMul, Nat.reduceSub, Nat.reduceLT]
 | (with_reducible refine CU (h1 _) ?_)
 | (with_reducible refine CU (h2 _) ?_)
 | (with_reducible first | refine CB_ofT (by assumption) fun hc => ?_ | refine CB_ofF (by assumption) fun hc => ?_ | refine CB_split (fun hc => ?_) fun hc => ?_) <;> (try simp only [hc, bs, ↓reduceIte] at h) <;> (try simp only [hc])
 | ((with_reducible first | refine leafR hQ ?_ | refine leafN hQ ?_); (try cases h); simp only [resL, oneD, Option.some.injEq, exists_eq_left', go_sem, hlt, hget, hpu, hinc, Int.reduceLE, ↓reduceIte, reduceCtorEq, Nat.reduceEqDiff, Nat.reduceLeDiff, Nat.reduceAdd, Nat.reduceMul, Nat.reduceSub, Nat.reduceLT]; repeat' (first | exact Ok.out | with_reducible refine And.intro ?_ ?_ | (simp; done)))
 | (cases h; replace h := hr; clear hr; (try simp only [bs, ↓reduceIte] at h))
 | (cases h; done))
  | cons a r1 =>
    obtain ⟨hget, g2, hlt, g4⟩ := drop_cons j1
    cases r2 with
    | nil => have := List.drop_eq_nil_iff.1 j2; omega
    | cons b r2 =>
      obtain ⟨hgb, b2, _, _⟩ := drop_cons j2
      have hk2 : k < 4611686018427387904 := by omega
      have hax : a.x.size < 4611686018427387904 := by have := Ar.sizes_mem (List.mem_of_getElem? hget); omega
      have hab := fun s => EqExpr_s (x := a.x) (y := b.x) hax s
      simp only [Ar.beqs] at h
      repeat' (first
 | simp only [go_sem, hlt, hget, hpu, hinc, Int.reduceLE, ↓reduceIte, reduceCtorEq, Nat.reduceEqDiff, Nat.reduceLeDiff, Nat.reduceAdd, Nat.reduceMul, Nat.reduceSub, Nat.reduceLT, hgb]
 | (with_reducible refine CU (hab _) ?_)
 | (with_reducible first | refine CB_ofT (by assumption) fun hc => ?_ | refine CB_ofF (by assumption) fun hc => ?_ | refine CB_split (fun hc => ?_) fun hc => ?_) <;> (try simp only [hc, bs, ↓reduceIte] at h) <;> (try simp only [hc])
 | ((with_reducible first | refine leafR hQ ?_ | refine leafN hQ ?_); (try cases h); simp only [resL, oneD, Option.some.injEq, exists_eq_left', go_sem, hlt, hget, hpu, hinc, Int.reduceLE, ↓reduceIte, reduceCtorEq, Nat.reduceEqDiff, Nat.reduceLeDiff, Nat.reduceAdd, Nat.reduceMul, Nat.reduceSub, Nat.reduceLT, hgb]; repeat' (first | exact Ok.out | with_reducible refine And.intro ?_ ?_ | (simp; done)))
 | (cases h; replace h := hr; clear hr; (try simp only [bs, ↓reduceIte] at h))
 | (cases h; done))
      refine SemL.re _ _ 2 0 (by rw [hB]; exact Nat.le_of_ble_eq_true rfl) (by rw [hB]; exact Nat.le_of_ble_eq_true rfl) ?_ ?_ (IH (r1, r2, k + 1) ⟨g2, b2, h⟩ (Nat.lt_succ_self _))
      · (simp only [go_sem, hlt, hget, hpu, hinc, Int.reduceLE, ↓reduceIte, reduceCtorEq, Nat.reduceEqDiff, Nat.reduceLeDiff, Nat.reduceAdd, Nat.reduceMul, Nat.reduceSub, Nat.reduceLT, wrap_inc hk2]; repeat' (first | exact Ok.out | with_reducible refine And.intro ?_ ?_))
      · (simp only [go_sem, hlt, hget, hpu, hinc, Int.reduceLE, ↓reduceIte, reduceCtorEq, Nat.reduceEqDiff, Nat.reduceLeDiff, Nat.reduceAdd, Nat.reduceMul, Nat.reduceSub, Nat.reduceLT, wrap_inc hk2]; repeat' (first | exact Ok.out | with_reducible refine And.intro ?_ ?_))

theorem eq_all : ∀ N, N < 4611686018427387904 → C_eqOne N ∧ C_eqL N := by
  intro N
  induction N with
  | zero => exact fun _ => ⟨fun s t h => absurd h (Nat.not_lt_zero _), fun l l' h => absurd h (Nat.not_lt_zero _)⟩
  | succ N ih =>
    intro h
    have := ih (by omega)
    exact ⟨eqOne_step (by omega) this.2, eqL_step (by omega) this.1⟩

theorem EqStmts_s {l l' : List Sm} (h : Sm.sizes l < 4611686018427387000) (st : St) : Fun Try.prog n_ref3_EqStmts [.slice .shared 13 (l.map encSm), .slice .shared 13 (l'.map encSm)] st (.bool (Sm.beqL l l')) st :=
  (eq_all (Sm.sizes l + 1) (by omega)).2 l l' (Nat.lt_succ_self _) st

end Go.Abs

/-! RefEq2 -/

namespace Go.Abs

set_option maxRecDepth 8000
set_option linter.unusedSimpArgs false
set_option linter.unusedVariables false
open Go.Proofs

theorem Eq_s {a b : Pg} (hs : a.size < 1073741824) (st : St) : Fun Try.prog n_ref3_Eq [.agg (encPg a), .agg (encPg b)] st (.bool (Pg.beq a b)) st := by
  obtain ⟨g, ps⟩ := a
  obtain ⟨g', ps'⟩ := b
  simp only [Pg.size] at hs
  have hpl := Pc.sizes_len ps
  refine Fun.pure ?_ (by simp [D.oks, D.ok, okPg]) rfl st
  have hT := fun s => EqTexts_s (l := g) (l' := g') (by omega) s
  generalize h : Pg.beq ⟨g, ps⟩ ⟨g', ps'⟩ = p
  simp only [Pg.beq] at h
  unfold S0
  refine Fun.go has_ref3_Eq rfl fun B Q hB hQ => ?_
  have hlt : 0 < 1 := Nat.zero_lt_one
  have hget : 0 < 1 := Nat.zero_lt_one
  have hpu : 0 < 1 := Nat.zero_lt_one
  have hinc : 0 < 1 := Nat.zero_lt_one
  repeat' (first
 | simp only [go_sem, hlt, hget, hpu, hinc, Int.reduceLE, ↓reduceIte, reduceCtorEq, Nat.reduceEqDiff, Nat.reduceLeDiff, Nat.reduceAdd, Nat.reduceMul, Nat.reduceSub, Nat.reduceLT]
 | (with_reducible refine CU (hT _) ?_)
 | (with_reducible first | refine CB_ofT (by assumption) fun hc => ?_ | refine CB_ofF (by assumption) fun hc => ?_ | refine CB_split (fun hc => ?_) fun hc => ?_) <;> (try simp only [hc, bs, ↓reduceIte] at h) <;> (try simp only [hc])
 | ((with_reducible first | refine leafR hQ ?_ | refine leafN hQ ?_); (try cases h); simp only [resL, oneD, Option.some.injEq, exists_eq_left', go_sem, hlt, hget, hpu, hinc, Int.reduceLE, ↓reduceIte, reduceCtorEq, Nat.reduceEqDiff, Nat.reduceLeDiff, Nat.reduceAdd, Nat.reduceMul, Nat.reduceSub, Nat.reduceLT]; repeat' (first | exact Ok.out | with_reducible refine And.intro ?_ ?_ | (simp; done)))
 | (cases h; replace h := hr; clear hr; (try simp only [bs, ↓reduceIte] at h))
 | (cases h; done))
  have hl5 : ps.length = ps'.length := by
    have : ((ps.length : Int) != (ps'.length : Int)) = false := by assumption
    simp only [bne_eq_false_iff_eq] at this
    omega
  refine SemL.re _ _ 2 0 (by rw [hB]; exact Nat.le_of_ble_eq_true rfl) (by rw [hB]; exact Nat.le_of_ble_eq_true rfl) ?_ ?_ (SemL.ind (ι := List Pc × List Pc × Nat) (fun i => ps.drop i.2.2 = i.1 ∧ ps'.drop i.2.2 = i.2.1 ∧ Pc.beqs i.1 i.2.1 = p) (fun i => i.1.length)
    (fun i => [(2, .ptr 0 0), (3, .ptr 1 0), (26, .int .i64 (ps.length : Int)), (27, .int .i64 (i.2.2 : Int))]) (fun i => ⟨[encPg ⟨g, ps⟩, encPg ⟨g', ps'⟩], []⟩) ?_ (ps, ps', 0) ⟨rfl, rfl, h⟩)
  · (simp only [go_sem, hlt, hget, hpu, hinc, Int.reduceLE, ↓reduceIte, reduceCtorEq, Nat.reduceEqDiff, Nat.reduceLeDiff, Nat.reduceAdd, Nat.reduceMul, Nat.reduceSub, Nat.reduceLT]; repeat' (first | exact Ok.out | with_reducible refine And.intro ?_ ?_))
  · (simp only [go_sem, hlt, hget, hpu, hinc, Int.reduceLE, ↓reduceIte, reduceCtorEq, Nat.reduceEqDiff, Nat.reduceLeDiff, Nat.reduceAdd, Nat.reduceMul, Nat.reduceSub, Nat.reduceLT]; repeat' (first | exact Ok.out | with_reducible refine And.intro ?_ ?_))
  rintro ⟨r1, r2, k⟩ ⟨j1, j2, h⟩ IH
  dsimp only at j1 j2 h
  cases r1 with
  | nil =>
    have hlt := drop_nil j1
    simp only [Pc.beqs] at h
    repeat' (first
 | simp only [go_sem, hlt, hget, hpu, hinc, Int.reduceLE, ↓reduceIte, reduceCtorEq, Nat.reduceEqDiff, Nat.reduceLeDiff, Nat.reduceAdd, Nat.reduceMul, Nat.reduceSub, Nat.reduceLT]
 | (with_reducible first | refine CB_ofT (by assumption) fun hc => ?_ | refine CB_ofF (by assumption) fun hc => ?_ | refine CB_split (fun hc => ?_) fun hc => ?_) <;> (try simp only [hc, bs, ↓reduceIte] at h) <;> (try simp only [hc])
 | ((with_reducible first | refine leafR hQ ?_ | refine leafN hQ ?_); (try cases h); simp only [resL, oneD, Option.some.injEq, exists_eq_left', go_sem, hlt, hget, hpu, hinc, Int.reduceLE, ↓reduceIte, reduceCtorEq, Nat.reduceEqDiff, Nat.reduceLeDiff, Nat.reduceAdd, Nat.reduceMul, Nat.reduceSub, Nat.reduceLT]; repeat' (first | exact Ok.out | with_reducible refine And.intro ?_ ?_ | (simp; done)))
 | (cases h; replace h := hr; clear hr; (try simp only [bs, ↓reduceIte] at h))
 | (cases h; done))
  | cons x r1 =>
    obtain ⟨hget, g2, hlt, g4⟩ := drop_cons j1
    cases r2 with
    | nil => have := List.drop_eq_nil_iff.1 j2; omega
    | cons y r2 =>
      obtain ⟨hgb, b2, _, _⟩ := drop_cons j2
      have hk2 : k < 4611686018427387904 := by omega
      have hsz := Pc.sizes_mem (List.mem_of_getElem? hget)
      obtain ⟨name, params, vars, body, fin⟩ := x
      obtain ⟨name', params', vars', body', fin'⟩ := y
      simp only [Pc.size] at hsz
      have h1 := fun s => EqTexts_s (l := vars) (l' := vars') (by omega) s
      have h2 := fun s => EqTexts_s (l := fin) (l' := fin') (by omega) s
      have h3 := fun s => EqStmts_s (l := body) (l' := body') (by omega) s
      simp only [Pc.beqs] at h
      repeat' (first
 | simp only [go_sem, hlt, hget, hpu, hinc, Int.reduceLE, ↓reduceIte, reduceCtorEq, Nat.reduceEqDiff, Nat.reduceLeDiff, Nat.reduceAdd, Nat.reduceMul, Nat.reduceSub, Nat.reduceLT, hgb]
 | (with_reducible refine CU (h1 _) ?_)
 | (with_reducible refine CU (h2 _) ?_)
 | (with_reducible refine CU (h3 _) ?_)
 | (with_reducible first | refine CB_ofT (by assumption) fun hc => ?_ | refine CB_ofF (by assumption) fun hc => ?_ | refine CB_split (fun hc => ?_) fun hc => ?_) <;> (try simp only [hc, bs, ↓reduceIte] at h) <;> (try simp only [hc])
 | ((with_reducible first | refine leafR hQ ?_ | refine leafN hQ ?_); (try cases h); simp only [resL, oneD, Option.some.injEq, exists_eq_left', go_sem, hlt, hget, hpu, hinc, Int.reduceLE, ↓reduceIte, reduceCtorEq, Nat.reduceEqDiff, Nat.reduceLeDiff, Nat.reduceAdd, Nat.reduceMul, Nat.reduceSub, Nat.reduceLT, hgb]; repeat' (first | exact Ok.out | with_reducible refine And.intro ?_ ?_ | (simp; done)))
 | (cases h; replace h := hr; clear hr; (try simp only [bs, ↓reduceIte] at h))
 | (cases h; done))
      have hm5 : params.length = params'.length := by
        have : ((params.length : Int) != (params'.length : Int)) = false := by assumption
        simp only [bne_eq_false_iff_eq] at this
        omega
      refine SemL.re _ _ 4 0 (by rw [hB]; exact Nat.le_of_ble_eq_true rfl) (by rw [hB]; exact Nat.le_of_ble_eq_true rfl) ?_ ?_ (SemL.ind (ι := List Pm × List Pm × Nat) (fun i => params.drop i.2.2 = i.1 ∧ params'.drop i.2.2 = i.2.1 ∧ (if !(Pm.beqs i.1 i.2.1) then false else Pc.beqs r1 r2) = p) (fun i => i.1.length)
        (fun i => [(2, .ptr 0 0), (3, .ptr 1 0), (6, .ptr 2 0), (7, .ptr 3 0), (26, .int .i64 (ps.length : Int)), (27, .int .i64 (k : Int)), (80, .int .i64 (params.length : Int)), (81, .int .i64 (i.2.2 : Int))])
        (fun i => ⟨[encPg ⟨g, ps⟩, encPg ⟨g', ps'⟩, encPc ⟨name, params, vars, body, fin⟩, encPc ⟨name', params', vars', body', fin'⟩], []⟩) ?_ (params, params', 0) ⟨rfl, rfl, h⟩)
      · (simp only [go_sem, hlt, hget, hpu, hinc, Int.reduceLE, ↓reduceIte, reduceCtorEq, Nat.reduceEqDiff, Nat.reduceLeDiff, Nat.reduceAdd, Nat.reduceMul, Nat.reduceSub, Nat.reduceLT]; repeat' (first | exact Ok.out | with_reducible refine And.intro ?_ ?_))
      · (simp only [go_sem, hlt, hget, hpu, hinc, Int.reduceLE, ↓reduceIte, reduceCtorEq, Nat.reduceEqDiff, Nat.reduceLeDiff, Nat.reduceAdd, Nat.reduceMul, Nat.reduceSub, Nat.reduceLT]; repeat' (first | exact Ok.out | with_reducible refine And.intro ?_ ?_))
      rintro ⟨s1, s2, q⟩ ⟨i1, i2, h⟩ IHm
      dsimp only at i1 i2 h
      cases s1 with
      | nil =>
        have hlt := drop_nil i1
        simp only [Pm.beqs, Bool.not_true, Bool.false_eq_true, ↓reduceIte] at h
        repeat' (first
 | simp only [go_sem, hlt, hget, hpu, hinc, Int.reduceLE, ↓reduceIte, reduceCtorEq, Nat.reduceEqDiff, Nat.reduceLeDiff, Nat.reduceAdd, Nat.reduceMul, Nat.reduceSub, Nat.reduceLT]
 | (with_reducible first | refine CB_ofT (by assumption) fun hc => ?_ | refine CB_ofF (by assumption) fun hc => ?_ | refine CB_split (fun hc => ?_) fun hc => ?_) <;> (try simp only [hc, bs, ↓reduceIte] at h) <;> (try simp only [hc])
 | ((with_reducible first | refine leafR hQ ?_ | refine leafN hQ ?_); (try cases h); simp only [resL, oneD, Option.some.injEq, exists_eq_left', go_sem, hlt, hget, hpu, hinc, Int.reduceLE, ↓reduceIte, reduceCtorEq, Nat.reduceEqDiff, Nat.reduceLeDiff, Nat.reduceAdd, Nat.reduceMul, Nat.reduceSub, Nat.reduceLT]; repeat' (first | exact Ok.out | with_reducible refine And.intro ?_ ?_ | (simp; done)))
 | (cases h; replace h := hr; clear hr; (try simp only [bs, ↓reduceIte] at h))
 | (cases h; done))
        refine SemL.re _ _ 2 0 (by rw [hB]; exact Nat.le_of_ble_eq_true rfl) (by rw [hB]; exact Nat.le_of_ble_eq_true rfl) ?_ ?_ (IH (r1, r2, k + 1) ⟨g2, b2, h⟩ (Nat.lt_succ_self _))
        · (simp only [go_sem, hlt, hget, hpu, hinc, Int.reduceLE, ↓reduceIte, reduceCtorEq, Nat.reduceEqDiff, Nat.reduceLeDiff, Nat.reduceAdd, Nat.reduceMul, Nat.reduceSub, Nat.reduceLT, wrap_inc hk2]; repeat' (first | exact Ok.out | with_reducible refine And.intro ?_ ?_))
        · (simp only [go_sem, hlt, hget, hpu, hinc, Int.reduceLE, ↓reduceIte, reduceCtorEq, Nat.reduceEqDiff, Nat.reduceLeDiff, Nat.reduceAdd, Nat.reduceMul, Nat.reduceSub, Nat.reduceLT, wrap_inc hk2]; repeat' (first | exact Ok.out | with_reducible refine And.intro ?_ ?_))
      | cons u s1 =>
        obtain ⟨hget, u2, hlt, u4⟩ := drop_cons i1
        cases s2 with
        | nil => have := List.drop_eq_nil_iff.1 i2; omega
        | cons v s2 =>
          obtain ⟨hgb, v2, _, _⟩ := drop_cons i2
          have hq2 : q < 4611686018427387904 := by omega
          simp only [Pm.beqs] at h
          cases e1 : (u.name == v.name)
          · simp only [e1, Bool.false_and, Bool.not_false, ↓reduceIte] at h
            repeat' (first
 | simp only [go_sem, hlt, hget, hpu, hinc, Int.reduceLE, ↓reduceIte, reduceCtorEq, Nat.reduceEqDiff, Nat.reduceLeDiff, Nat.reduceAdd, Nat.reduceMul, Nat.reduceSub, Nat.reduceLT, hgb, encPm, e1]
 | (with_reducible first | refine CB_ofT (by assumption) fun hc => ?_ | refine CB_ofF (by assumption) fun hc => ?_ | refine CB_split (fun hc => ?_) fun hc => ?_) <;> (try simp only [hc, bs, ↓reduceIte] at h) <;> (try simp only [hc])
 | ((with_reducible first | refine leafR hQ ?_ | refine leafN hQ ?_); (try cases h); simp only [resL, oneD, Option.some.injEq, exists_eq_left', go_sem, hlt, hget, hpu, hinc, Int.reduceLE, ↓reduceIte, reduceCtorEq, Nat.reduceEqDiff, Nat.reduceLeDiff, Nat.reduceAdd, Nat.reduceMul, Nat.reduceSub, Nat.reduceLT, hgb, encPm, e1]; repeat' (first | exact Ok.out | with_reducible refine And.intro ?_ ?_ | (simp; done)))
 | (cases h; replace h := hr; clear hr; (try simp only [bs, ↓reduceIte] at h))
 | (cases h; done))
          · cases e2 : (u.ref == v.ref)
            · simp only [e1, e2, Bool.and_false, Bool.not_false, ↓reduceIte] at h
              repeat' (first
 | simp only [go_sem, hlt, hget, hpu, hinc, Int.reduceLE, ↓reduceIte, reduceCtorEq, Nat.reduceEqDiff, Nat.reduceLeDiff, Nat.reduceAdd, Nat.reduceMul, Nat.reduceSub, Nat.reduceLT, hgb, encPm, e1, e2]
 | (with_reducible first | refine CB_ofT (by assumption) fun hc => ?_ | refine CB_ofF (by assumption) fun hc => ?_ | refine CB_split (fun hc => ?_) fun hc => ?_) <;> (try simp only [hc, bs, ↓reduceIte] at h) <;> (try simp only [hc])
 | ((with_reducible first | refine leafR hQ ?_ | refine leafN hQ ?_); (try cases h); simp only [resL, oneD, Option.some.injEq, exists_eq_left', go_sem, hlt, hget, hpu, hinc, Int.reduceLE, ↓reduceIte, reduceCtorEq, Nat.reduceEqDiff, Nat.reduceLeDiff, Nat.reduceAdd, Nat.reduceMul, Nat.reduceSub, Nat.reduceLT, hgb, encPm, e1, e2]; repeat' (first | exact Ok.out | with_reducible refine And.intro ?_ ?_ | (simp; done)))
 | (cases h; replace h := hr; clear hr; (try simp only [bs, ↓reduceIte] at h))
 | (cases h; done))
            · simp only [e1, e2, Bool.and_true, Bool.not_true, Bool.false_eq_true, ↓reduceIte] at h
              repeat' (first
 | simp only [go_sem, hlt, hget, hpu, hinc, Int.reduceLE, ↓reduceIte, reduceCtorEq, Nat.reduceEqDiff, Nat.reduceLeDiff, Nat.reduceAdd, Nat.reduceMul, Nat.reduceSub, Nat.reduceLT, hgb, encPm, e1, e2]
 | (with_reducible first | refine CB_ofT (by assumption) fun hc => ?_ | refine CB_ofF (by assumption) fun hc => ?_ | refine CB_split (fun hc => ?_) fun hc => ?_) <;> (try simp only [hc, bs, ↓reduceIte] at h) <;> (try simp only [hc])
 | ((with_reducible first | refine leafR hQ ?_ | refine leafN hQ ?_); (try cases h); simp only [resL, oneD, Option.some.injEq, exists_eq_left', go_sem, hlt, hget, hpu, hinc, Int.reduceLE, ↓reduceIte, reduceCtorEq, Nat.reduceEqDiff, Nat.reduceLeDiff, Nat.reduceAdd, Nat.reduceMul, Nat.reduceSub, Nat.reduceLT, hgb, encPm, e1, e2]; repeat' (first | exact Ok.out | with_reducible refine And.intro ?_ ?_ | (simp; done)))
 | (cases h; replace h := hr; clear hr; (try simp only [bs, ↓reduceIte] at h))
 | (cases h; done))
              refine SemL.re _ _ 4 0 (by rw [hB]; exact Nat.le_of_ble_eq_true rfl) (by rw [hB]; exact Nat.le_of_ble_eq_true rfl) ?_ ?_ (IHm (s1, s2, q + 1) ⟨u2, v2, h⟩ (Nat.lt_succ_self _))
              · (simp only [go_sem, hlt, hget, hpu, hinc, Int.reduceLE, ↓reduceIte, reduceCtorEq, Nat.reduceEqDiff, Nat.reduceLeDiff, Nat.reduceAdd, Nat.reduceMul, Nat.reduceSub, Nat.reduceLT, wrap_inc hq2]; repeat' (first | exact Ok.out | with_reducible refine And.intro ?_ ?_))
              · (simp only [go_sem, hlt, hget, hpu, hinc, Int.reduceLE, ↓reduceIte, reduceCtorEq, Nat.reduceEqDiff, Nat.reduceLeDiff, Nat.reduceAdd, Nat.reduceMul, Nat.reduceSub, Nat.reduceLT, wrap_inc hq2]; repeat' (first | exact Ok.out | with_reducible refine And.intro ?_ ?_))

/-! ### The sample -/

def exNum (n : Int) : Ex := ⟨1, n, [], []⟩
def exName (s : Str) : Ex := ⟨2, 0, s, []⟩
def exTwo (op : Int) (a b : Ex) : Ex := ⟨op, 0, [], [a, b]⟩

theorem num_s (n : Int) (s : St) : Fun Try.prog n_ref3_num [.int .i64 n] s (.agg (encEx (exNum n))) s := by
  refine Fun.pure ?_ rfl (by simp [D.ok, okEx]) s
  unfold S0
  refine Fun.go has_ref3_num rfl fun B Q hB hQ => ?_
  have hlt : 0 < 1 := Nat.zero_lt_one
  have hget : 0 < 1 := Nat.zero_lt_one
  have hpu : 0 < 1 := Nat.zero_lt_one
  have hinc : 0 < 1 := Nat.zero_lt_one
  repeat' (first
 | simp only [go_sem, hlt, hget, hpu, hinc, Int.reduceLE, ↓reduceIte, reduceCtorEq, Nat.reduceEqDiff, Nat.reduceLeDiff, Nat.reduceAdd, Nat.reduceMul, Nat.reduceSub, Nat.reduceLT, exNum]
 | (with_reducible first | refine CB_ofT (by assumption) fun hc => ?_ | refine CB_ofF (by assumption) fun hc => ?_ | refine CB_split (fun hc => ?_) fun hc => ?_) <;> (try simp only [hc, bs, ↓reduceIte] at h) <;> (try simp only [hc])
 | ((with_reducible first | refine leafR hQ ?_ | refine leafN hQ ?_); (try cases h); simp only [resL, oneD, Option.some.injEq, exists_eq_left', go_sem, hlt, hget, hpu, hinc, Int.reduceLE, ↓reduceIte, reduceCtorEq, Nat.reduceEqDiff, Nat.reduceLeDiff, Nat.reduceAdd, Nat.reduceMul, Nat.reduceSub, Nat.reduceLT, exNum]; repeat' (first | exact Ok.out | with_reducible refine And.intro ?_ ?_ | (simp; done)))
 | (cases h; replace h := hr; clear hr; (try simp only [bs, ↓reduceIte] at h))
 | (cases h; done))
theorem name_ref_s (t : Str) (s : St) : Fun Try.prog n_ref3_name [.str t] s (.agg (encEx (exName t))) s := by
  refine Fun.pure ?_ rfl (by simp [D.ok, okEx]) s
  unfold S0
  refine Fun.go has_ref3_name rfl fun B Q hB hQ => ?_
  have hlt : 0 < 1 := Nat.zero_lt_one
  have hget : 0 < 1 := Nat.zero_lt_one
  have hpu : 0 < 1 := Nat.zero_lt_one
  have hinc : 0 < 1 := Nat.zero_lt_one
  repeat' (first
 | simp only [go_sem, hlt, hget, hpu, hinc, Int.reduceLE, ↓reduceIte, reduceCtorEq, Nat.reduceEqDiff, Nat.reduceLeDiff, Nat.reduceAdd, Nat.reduceMul, Nat.reduceSub, Nat.reduceLT, exName]
 | (with_reducible first | refine CB_ofT (by assumption) fun hc => ?_ | refine CB_ofF (by assumption) fun hc => ?_ | refine CB_split (fun hc => ?_) fun hc => ?_) <;> (try simp only [hc, bs, ↓reduceIte] at h) <;> (try simp only [hc])
 | ((with_reducible first | refine leafR hQ ?_ | refine leafN hQ ?_); (try cases h); simp only [resL, oneD, Option.some.injEq, exists_eq_left', go_sem, hlt, hget, hpu, hinc, Int.reduceLE, ↓reduceIte, reduceCtorEq, Nat.reduceEqDiff, Nat.reduceLeDiff, Nat.reduceAdd, Nat.reduceMul, Nat.reduceSub, Nat.reduceLT, exName]; repeat' (first | exact Ok.out | with_reducible refine And.intro ?_ ?_ | (simp; done)))
 | (cases h; replace h := hr; clear hr; (try simp only [bs, ↓reduceIte] at h))
 | (cases h; done))
theorem two_ref_s (op : Int) (a b : Ex) (s : St) : Fun Try.prog n_ref3_two [.int .i64 op, .agg (encEx a), .agg (encEx b)] s (.agg (encEx (exTwo op a b))) s := by
  refine Fun.pure ?_ (by simp [D.oks, D.ok, okEx]) (by simp [D.ok, okEx]) s
  unfold S0
  refine Fun.go has_ref3_two rfl fun B Q hB hQ => ?_
  have hlt : 0 < 1 := Nat.zero_lt_one
  have hget : 0 < 1 := Nat.zero_lt_one
  have hpu : 0 < 1 := Nat.zero_lt_one
  have hinc : 0 < 1 := Nat.zero_lt_one
  repeat' (first
 | simp only [go_sem, hlt, hget, hpu, hinc, Int.reduceLE, ↓reduceIte, reduceCtorEq, Nat.reduceEqDiff, Nat.reduceLeDiff, Nat.reduceAdd, Nat.reduceMul, Nat.reduceSub, Nat.reduceLT, exTwo]
 | (with_reducible first | refine CB_ofT (by assumption) fun hc => ?_ | refine CB_ofF (by assumption) fun hc => ?_ | refine CB_split (fun hc => ?_) fun hc => ?_) <;> (try simp only [hc, bs, ↓reduceIte] at h) <;> (try simp only [hc])
 | ((with_reducible first | refine leafR hQ ?_ | refine leafN hQ ?_); (try cases h); simp only [resL, oneD, Option.some.injEq, exists_eq_left', go_sem, hlt, hget, hpu, hinc, Int.reduceLE, ↓reduceIte, reduceCtorEq, Nat.reduceEqDiff, Nat.reduceLeDiff, Nat.reduceAdd, Nat.reduceMul, Nat.reduceSub, Nat.reduceLT, exTwo]; repeat' (first | exact Ok.out | with_reducible refine And.intro ?_ ?_ | (simp; done)))
 | (cases h; replace h := hr; clear hr; (try simp only [bs, ↓reduceIte] at h))
 | (cases h; done))

def source : Str := [103, 108, 111, 98, 97, 108, 32, 103, 59, 10, 112, 114, 111, 99, 32, 109, 97, 105, 110, 40, 41, 32, 123, 10, 32, 118, 97, 114, 32, 118, 59, 10, 32, 118, 32, 61, 32, 50, 59, 10, 32, 103, 32, 61, 32, 112, 40, 51, 44, 32, 114, 101, 102, 32, 118, 41, 59, 10, 32, 112, 114, 105, 110, 116, 32, 118, 59, 10, 32, 112, 114, 105, 110, 116, 32, 103, 59, 10, 125, 10, 112, 114, 111, 99, 32, 112, 40, 120, 44, 32, 114, 101, 102, 32, 121, 41, 32, 123, 10, 32, 121, 32, 61, 32, 121, 32, 43, 32, 120, 59, 10, 32, 105, 102, 32, 40, 121, 32, 62, 32, 57, 41, 32, 123, 10, 32, 32, 103, 111, 116, 111, 32, 101, 59, 10, 32, 125, 10, 32, 114, 101, 116, 117, 114, 110, 32, 121, 59, 10, 101, 58, 32, 125, 10]

theorem Source_s (s : St) : Fun Try.prog n_ref3_Source [] s (.str source) s := by
  refine Fun.pure ?_ rfl rfl s
  unfold S0
  refine Fun.go has_ref3_Source rfl fun B Q hB hQ => ?_
  have hlt : 0 < 1 := Nat.zero_lt_one
  have hget : 0 < 1 := Nat.zero_lt_one
  have hpu : 0 < 1 := Nat.zero_lt_one
  have hinc : 0 < 1 := Nat.zero_lt_one
  repeat' (first
 | simp only [go_sem, hlt, hget, hpu, hinc, Int.reduceLE, ↓reduceIte, reduceCtorEq, Nat.reduceEqDiff, Nat.reduceLeDiff, Nat.reduceAdd, Nat.reduceMul, Nat.reduceSub, Nat.reduceLT, source]
 | (with_reducible first | refine CB_ofT (by assumption) fun hc => ?_ | refine CB_ofF (by assumption) fun hc => ?_ | refine CB_split (fun hc => ?_) fun hc => ?_) <;> (try simp only [hc, bs, ↓reduceIte] at h) <;> (try simp only [hc])
 | ((with_reducible first | refine leafR hQ ?_ | refine leafN hQ ?_); (try cases h); simp only [resL, oneD, Option.some.injEq, exists_eq_left', go_sem, hlt, hget, hpu, hinc, Int.reduceLE, ↓reduceIte, reduceCtorEq, Nat.reduceEqDiff, Nat.reduceLeDiff, Nat.reduceAdd, Nat.reduceMul, Nat.reduceSub, Nat.reduceLT, source]; repeat' (first | exact Ok.out | with_reducible refine And.intro ?_ ?_ | (simp; done)))
 | (cases h; replace h := hr; clear hr; (try simp only [bs, ↓reduceIte] at h))
 | (cases h; done))

def some0 : Pg := ⟨[[103]], [
  ⟨[109, 97, 105, 110], [], [[118]], [
    ⟨1, 1, [], [118], [], exNum 2, false, [], [], []⟩,
    ⟨2, 4, [], [103], [112], ex0, false, [⟨false, [], exNum 3⟩, ⟨true, [118], ex0⟩], [], []⟩,
    ⟨3, 3, [], [], [], exName [118], false, [], [], []⟩,
    ⟨4, 3, [], [], [], exName [103], false, [], [], []⟩], []⟩,
  ⟨[112], [⟨[120], false⟩, ⟨[121], true⟩], [], [
    ⟨5, 1, [], [121], [], exTwo 8 (exName [121]) (exName [120]), false, [], [], []⟩,
    ⟨6, 5, [], [], [], exTwo 12 (exName [121]) (exNum 9), false, [], [⟨7, 10, [], [101], [], ex0, false, [], [], []⟩], []⟩,
    ⟨8, 9, [], [], [], exName [121], true, [], [], []⟩], [[101]]⟩]⟩

theorem Some_s (s : St) : Fun Try.prog n_ref3_Some [] s (.agg (encPg some0)) s := by
  refine Fun.pure ?_ rfl (by simp [D.ok, okPg]) s
  unfold S0
  refine Fun.go has_ref3_Some rfl fun B Q hB hQ => ?_
  have hlt : 0 < 1 := Nat.zero_lt_one
  have hget : 0 < 1 := Nat.zero_lt_one
  have hpu : 0 < 1 := Nat.zero_lt_one
  have hinc : 0 < 1 := Nat.zero_lt_one
  repeat' (first
 | simp only [go_sem, hlt, hget, hpu, hinc, Int.reduceLE, ↓reduceIte, reduceCtorEq, Nat.reduceEqDiff, Nat.reduceLeDiff, Nat.reduceAdd, Nat.reduceMul, Nat.reduceSub, Nat.reduceLT, some0]
 | (with_reducible refine CU (num_s _ _) ?_)
 | (with_reducible refine CU (name_ref_s _ _) ?_)
 | (with_reducible refine CU (two_ref_s _ _ _ _) ?_)
 | (with_reducible first | refine CB_ofT (by assumption) fun hc => ?_ | refine CB_ofF (by assumption) fun hc => ?_ | refine CB_split (fun hc => ?_) fun hc => ?_) <;> (try simp only [hc, bs, ↓reduceIte] at h) <;> (try simp only [hc])
 | ((with_reducible first | refine leafR hQ ?_ | refine leafN hQ ?_); (try cases h); simp only [resL, oneD, Option.some.injEq, exists_eq_left', go_sem, hlt, hget, hpu, hinc, Int.reduceLE, ↓reduceIte, reduceCtorEq, Nat.reduceEqDiff, Nat.reduceLeDiff, Nat.reduceAdd, Nat.reduceMul, Nat.reduceSub, Nat.reduceLT, some0]; repeat' (first | exact Ok.out | with_reducible refine And.intro ?_ ?_ | (simp; done)))
 | (cases h; replace h := hr; clear hr; (try simp only [bs, ↓reduceIte] at h))
 | (cases h; done))
  repeat' (first | exact Ok.out | with_reducible refine Wk.agg ?_ | with_reducible refine Wk.rows ?_ | with_reducible refine Wk.slice ?_ | with_reducible refine WkR.cons ?_ ?_ | with_reducible refine WkL.cons ?_ ?_)

end Go.Abs

/-! Prs3 -/

namespace Go.Abs

set_option maxRecDepth 8000
set_option linter.unusedSimpArgs false
set_option linter.unusedVariables false
open Go.Proofs

theorem names_0 {n : Nat} {l : List Str} {most : Int} {r : Rd} {p : List Str × Rd} (h : Rd.names n l most r = some p) :
    Fun Try.prog n_parse_reader_names [.ptr 0 0, .slice (.tok 0) 1 (l.map encStr), .int .i64 most] ⟨[encRd r], [some l.length]⟩ (.slice (.tok 0) 1 (p.1.map encStr)) ⟨[encRd p.2], [some p.1.length]⟩ := by
  refine Fun.go has_parse_reader_names rfl fun B Q hB hQ => ?_
  have hlt : 0 < 1 := Nat.zero_lt_one
  have hget : 0 < 1 := Nat.zero_lt_one
  have hpu : 0 < 1 := Nat.zero_lt_one
  have hinc : 0 < 1 := Nat.zero_lt_one
  repeat' (first
 | simp only [go_sem, hlt, hget, hpu, hinc, Int.reduceLE, ↓reduceIte, reduceCtorEq, Nat.reduceEqDiff, Nat.reduceLeDiff, Nat.reduceAdd, Nat.reduceMul, Nat.reduceSub, Nat.reduceLT]
 | (with_reducible first | refine CB_ofT (by assumption) fun hc => ?_ | refine CB_ofF (by assumption) fun hc => ?_ | refine CB_split (fun hc => ?_) fun hc => ?_) <;> (try simp only [hc, bs, ↓reduceIte] at h) <;> (try simp only [hc])
 | ((with_reducible first | refine leafR hQ ?_ | refine leafN hQ ?_); (try cases h); simp only [resL, oneD, Option.some.injEq, exists_eq_left', go_sem, hlt, hget, hpu, hinc, Int.reduceLE, ↓reduceIte, reduceCtorEq, Nat.reduceEqDiff, Nat.reduceLeDiff, Nat.reduceAdd, Nat.reduceMul, Nat.reduceSub, Nat.reduceLT]; repeat' (first | exact Ok.out | with_reducible refine And.intro ?_ ?_ | (simp; done)))
 | (cases h; replace h := hr; clear hr; (try simp only [bs, ↓reduceIte] at h))
 | (cases h; done))
  refine SemL.re _ _ 1 1 (by rw [hB]; exact Nat.le_of_ble_eq_true rfl) (by rw [hB]; exact Nat.le_of_ble_eq_true rfl) ?_ ?_ (SemL.ind (ι := Nat × List Str × Rd × Nat) (fun i => Rd.names i.1 i.2.1 most i.2.2.1 = some p ∧ i.2.2.2 = i.2.1.length) (fun i => i.1)
    (fun i => [(0, .ptr 0 0), (1, .slice (.tok 0) 1 (i.2.1.map encStr)), (2, .int .i64 most)]) (fun i => ⟨[encRd i.2.2.1], [some i.2.2.2]⟩) ?_ (n, l, r, l.length) ⟨h, rfl⟩)
  · (simp only [go_sem, hlt, hget, hpu, hinc, Int.reduceLE, ↓reduceIte, reduceCtorEq, Nat.reduceEqDiff, Nat.reduceLeDiff, Nat.reduceAdd, Nat.reduceMul, Nat.reduceSub, Nat.reduceLT]; repeat' (first | exact Ok.out | with_reducible refine And.intro ?_ ?_))
  · (simp only [go_sem, hlt, hget, hpu, hinc, Int.reduceLE, ↓reduceIte, reduceCtorEq, Nat.reduceEqDiff, Nat.reduceLeDiff, Nat.reduceAdd, Nat.reduceMul, Nat.reduceSub, Nat.reduceLT]; repeat' (first | exact Ok.out | with_reducible refine And.intro ?_ ?_))
  rintro ⟨n, l, r, k⟩ ⟨h, hk⟩ IH
  dsimp only at hk; subst hk
  cases n with
  | zero => simp only [Rd.names] at h; cases h
  | succ n =>
    simp only [Rd.names] at h
    repeat' (first
 | simp only [go_sem, hlt, hget, hpu, hinc, Int.reduceLE, ↓reduceIte, reduceCtorEq, Nat.reduceEqDiff, Nat.reduceLeDiff, Nat.reduceAdd, Nat.reduceMul, Nat.reduceSub, Nat.reduceLT]
 | (rw [Option.bind_eq_some_iff] at h; obtain ⟨_, h1, h⟩ := h; first | (with_reducible refine CU (name_s h1 (by with_unfolding_all rfl)) ?_) | (obtain ⟨hpu, hpush⟩ := push_some h1; subst hpush; simp only [go_sem, hlt, hget, hpu, hinc, Int.reduceLE, ↓reduceIte, reduceCtorEq, Nat.reduceEqDiff, Nat.reduceLeDiff, Nat.reduceAdd, Nat.reduceMul, Nat.reduceSub, Nat.reduceLT]) | (with_reducible refine CU (take_s h1 (by with_unfolding_all rfl)) ?_) | (with_reducible refine CU (want_s h1 (by with_unfolding_all rfl)) ?_))
 | (with_reducible refine CU (good_s (by with_unfolding_all rfl)) ?_)
 | (with_reducible first | refine CB_ofT (by assumption) fun hc => ?_ | refine CB_ofF (by assumption) fun hc => ?_ | refine CB_split (fun hc => ?_) fun hc => ?_) <;> (try simp only [hc, bs, ↓reduceIte] at h) <;> (try simp only [hc])
 | ((with_reducible first | refine leafR hQ ?_ | refine leafN hQ ?_); (try cases h); simp only [resL, oneD, Option.some.injEq, exists_eq_left', go_sem, hlt, hget, hpu, hinc, Int.reduceLE, ↓reduceIte, reduceCtorEq, Nat.reduceEqDiff, Nat.reduceLeDiff, Nat.reduceAdd, Nat.reduceMul, Nat.reduceSub, Nat.reduceLT]; repeat' (first | exact Ok.out | with_reducible refine And.intro ?_ ?_ | (simp; done)))
 | (cases h; replace h := hr; clear hr; (try simp only [bs, ↓reduceIte] at h))
 | (cases h; done))
    refine SemL.re _ _ 1 1 (by rw [hB]; exact Nat.le_of_ble_eq_true rfl) (by rw [hB]; exact Nat.le_of_ble_eq_true rfl) ?_ ?_ (IH (n, _, _, l.length + 1) ⟨h, by simp⟩ (Nat.lt_succ_self _))
    · (simp only [go_sem, hlt, hget, hpu, hinc, Int.reduceLE, ↓reduceIte, reduceCtorEq, Nat.reduceEqDiff, Nat.reduceLeDiff, Nat.reduceAdd, Nat.reduceMul, Nat.reduceSub, Nat.reduceLT]; repeat' (first | exact Ok.out | with_reducible refine And.intro ?_ ?_))
    · (simp only [go_sem, hlt, hget, hpu, hinc, Int.reduceLE, ↓reduceIte, reduceCtorEq, Nat.reduceEqDiff, Nat.reduceLeDiff, Nat.reduceAdd, Nat.reduceMul, Nat.reduceSub, Nat.reduceLT]; repeat' (first | exact Ok.out | with_reducible refine And.intro ?_ ?_))

theorem names_s {n : Nat} {l : List Str} {most : Int} {r : Rd} {p : List Str × Rd} (h : Rd.names n l most r = some p) {s : St} {o t : Nat} (ho : s.objs[o]? = some (encRd r)) (ht : s.toks[t]? = some (some l.length)) :
    Fun Try.prog n_parse_reader_names [.ptr o 0, .slice (.tok t) 1 (l.map encStr), .int .i64 most] s (.slice (.tok t) 1 (p.1.map encStr)) ⟨s.objs.set o (encRd p.2), s.toks.set t (some p.1.length)⟩ :=
  (names_0 h).methT rfl (okRd r) (okRd p.2) (okrStr l) (okrStr p.1) ho ht

theorem labels_s {n : Nat} {r : Rd} {p : List Str × Rd} (h : Rd.labels n [] r = some p) {s : St} {o : Nat} (ho : s.objs[o]? = some (encRd r)) :
    Fun Try.prog n_parse_reader_labels [.ptr o 0] s (.slice .shared 1 (p.1.map encStr)) ⟨s.objs.set o (encRd p.2), s.toks⟩ := by
  refine Fun.meth ?_ rfl (okRd r) (okRd p.2) (by simp [D.ok, okrStr, Tag.ok]) ho
  refine Fun.go has_parse_reader_labels rfl fun B Q hB hQ => ?_
  have hlt : 0 < 1 := Nat.zero_lt_one
  have hget : 0 < 1 := Nat.zero_lt_one
  have hpu : 0 < 1 := Nat.zero_lt_one
  have hinc : 0 < 1 := Nat.zero_lt_one
  repeat' (first
 | simp only [go_sem, hlt, hget, hpu, hinc, Int.reduceLE, ↓reduceIte, reduceCtorEq, Nat.reduceEqDiff, Nat.reduceLeDiff, Nat.reduceAdd, Nat.reduceMul, Nat.reduceSub, Nat.reduceLT]
 | (with_reducible first | refine CB_ofT (by assumption) fun hc => ?_ | refine CB_ofF (by assumption) fun hc => ?_ | refine CB_split (fun hc => ?_) fun hc => ?_) <;> (try simp only [hc, bs, ↓reduceIte] at h) <;> (try simp only [hc])
 | ((with_reducible first | refine leafR hQ ?_ | refine leafN hQ ?_); (try cases h); simp only [resL, oneD, Option.some.injEq, exists_eq_left', go_sem, hlt, hget, hpu, hinc, Int.reduceLE, ↓reduceIte, reduceCtorEq, Nat.reduceEqDiff, Nat.reduceLeDiff, Nat.reduceAdd, Nat.reduceMul, Nat.reduceSub, Nat.reduceLT]; repeat' (first | exact Ok.out | with_reducible refine And.intro ?_ ?_ | (simp; done)))
 | (cases h; replace h := hr; clear hr; (try simp only [bs, ↓reduceIte] at h))
 | (cases h; done))
  refine SemL.tokT 3 1 rfl ?_
  simp only [go_sem, hlt, hget, hpu, hinc, Int.reduceLE, ↓reduceIte, reduceCtorEq, Nat.reduceEqDiff, Nat.reduceLeDiff, Nat.reduceAdd, Nat.reduceMul, Nat.reduceSub, Nat.reduceLT]
  refine SemL.re _ _ 1 1 (by rw [hB]; exact Nat.le_of_ble_eq_true rfl) (by rw [hB]; exact Nat.le_of_ble_eq_true rfl) ?_ ?_ (SemL.ind (ι := Nat × List Str × Rd × Nat) (fun i => Rd.labels i.1 i.2.1 i.2.2.1 = some p ∧ i.2.2.2 = i.2.1.length) (fun i => i.1)
    (fun i => [(0, .ptr 0 0), (3, .slice (.tok 0) 1 (i.2.1.map encStr))]) (fun i => ⟨[encRd i.2.2.1], [some i.2.2.2]⟩) ?_ (n, [], r, 0) ⟨h, rfl⟩)
  · (simp only [go_sem, hlt, hget, hpu, hinc, Int.reduceLE, ↓reduceIte, reduceCtorEq, Nat.reduceEqDiff, Nat.reduceLeDiff, Nat.reduceAdd, Nat.reduceMul, Nat.reduceSub, Nat.reduceLT]; repeat' (first | exact Ok.out | with_reducible refine And.intro ?_ ?_))
  · (simp only [go_sem, hlt, hget, hpu, hinc, Int.reduceLE, ↓reduceIte, reduceCtorEq, Nat.reduceEqDiff, Nat.reduceLeDiff, Nat.reduceAdd, Nat.reduceMul, Nat.reduceSub, Nat.reduceLT]; repeat' (first | exact Ok.out | with_reducible refine And.intro ?_ ?_))
  rintro ⟨n, l, r, k⟩ ⟨h, hk⟩ IH
  dsimp only at hk; subst hk
  cases n with
  | zero => simp only [Rd.labels] at h; cases h
  | succ n =>
    simp only [Rd.labels, Rd.ahead] at h
    repeat' (first
 | simp only [go_sem, hlt, hget, hpu, hinc, Int.reduceLE, ↓reduceIte, reduceCtorEq, Nat.reduceEqDiff, Nat.reduceLeDiff, Nat.reduceAdd, Nat.reduceMul, Nat.reduceSub, Nat.reduceLT]
 | (rw [Option.bind_eq_some_iff] at h; obtain ⟨_, h1, h⟩ := h; first | (with_reducible refine CU (peek_s h1 (by with_unfolding_all rfl)) ?_; have hlt := peek_lt h1) | (obtain ⟨hpu, hpush⟩ := push_some h1; subst hpush; simp only [go_sem, hlt, hget, hpu, hinc, Int.reduceLE, ↓reduceIte, reduceCtorEq, Nat.reduceEqDiff, Nat.reduceLeDiff, Nat.reduceAdd, Nat.reduceMul, Nat.reduceSub, Nat.reduceLT]) | (obtain ⟨hltq, hget⟩ := getO_some h1; simp only [go_sem, hget, hlt, hget, hpu, hinc, Int.reduceLE, ↓reduceIte, reduceCtorEq, Nat.reduceEqDiff, Nat.reduceLeDiff, Nat.reduceAdd, Nat.reduceMul, Nat.reduceSub, Nat.reduceLT]))
 | (with_reducible refine CU (good_s (by with_unfolding_all rfl)) ?_)
 | (with_reducible first | refine CB_ofT (by assumption) fun hc => ?_ | refine CB_ofF (by assumption) fun hc => ?_ | refine CB_split (fun hc => ?_) fun hc => ?_) <;> (try simp only [hc, bs, ↓reduceIte] at h) <;> (try simp only [hc])
 | ((with_reducible first | refine leafR hQ ?_ | refine leafN hQ ?_); (try cases h); simp only [resL, oneD, Option.some.injEq, exists_eq_left', go_sem, hlt, hget, hpu, hinc, Int.reduceLE, ↓reduceIte, reduceCtorEq, Nat.reduceEqDiff, Nat.reduceLeDiff, Nat.reduceAdd, Nat.reduceMul, Nat.reduceSub, Nat.reduceLT]; repeat' (first | exact Ok.out | with_reducible refine And.intro ?_ ?_ | (simp; done)))
 | (cases h; replace h := hr; clear hr; (try simp only [bs, ↓reduceIte] at h))
 | (cases h; done))
    refine SemL.re _ _ 1 1 (by rw [hB]; exact Nat.le_of_ble_eq_true rfl) (by rw [hB]; exact Nat.le_of_ble_eq_true rfl) ?_ ?_ (IH (n, _, _, l.length + 1) ⟨h, by simp⟩ (Nat.lt_succ_self _))
    · (simp only [go_sem, hlt, hget, hpu, hinc, Int.reduceLE, ↓reduceIte, reduceCtorEq, Nat.reduceEqDiff, Nat.reduceLeDiff, Nat.reduceAdd, Nat.reduceMul, Nat.reduceSub, Nat.reduceLT]; repeat' (first | exact Ok.out | with_reducible refine And.intro ?_ ?_))
    · (simp only [go_sem, hlt, hget, hpu, hinc, Int.reduceLE, ↓reduceIte, reduceCtorEq, Nat.reduceEqDiff, Nat.reduceLeDiff, Nat.reduceAdd, Nat.reduceMul, Nat.reduceSub, Nat.reduceLT]; repeat' (first | exact Ok.out | with_reducible refine And.intro ?_ ?_))

end Go.Abs

/-! Prs4 -/

namespace Go.Abs

set_option maxRecDepth 8000
set_option linter.unusedSimpArgs false
set_option linter.unusedVariables false
open Go.Proofs

theorem begins_s {r : Rd} {b : Bool} (h : r.begins = some b) {s : St} {o : Nat} (ho : s.objs[o]? = some (encRd r)) :
    Fun Try.prog n_parse_reader_begins [.ptr o 0] s (.bool b) ⟨s.objs.set o (encRd r), s.toks⟩ := by
  refine Fun.meth ?_ rfl (okRd r) (okRd r) rfl ho
  unfold Rd.begins at h
  refine Fun.go has_parse_reader_begins rfl fun B Q hB hQ => ?_
  have hlt : 0 < 1 := Nat.zero_lt_one
  have hget : 0 < 1 := Nat.zero_lt_one
  have hpu : 0 < 1 := Nat.zero_lt_one
  have hinc : 0 < 1 := Nat.zero_lt_one
  repeat' (first
 | simp only [go_sem, hlt, hget, hpu, hinc, Int.reduceLE, ↓reduceIte, reduceCtorEq, Nat.reduceEqDiff, Nat.reduceLeDiff, Nat.reduceAdd, Nat.reduceMul, Nat.reduceSub, Nat.reduceLT]
 | (rw [Option.bind_eq_some_iff] at h; obtain ⟨_, h1, h⟩ := h; first | (with_reducible refine CU (peek_s h1 (by with_unfolding_all rfl)) ?_))
 | (with_reducible first | refine CB_ofT (by assumption) fun hc => ?_ | refine CB_ofF (by assumption) fun hc => ?_ | refine CB_split (fun hc => ?_) fun hc => ?_) <;> (try simp only [hc, bs, ↓reduceIte] at h) <;> (try simp only [hc])
 | ((with_reducible first | refine leafR hQ ?_ | refine leafN hQ ?_); (try cases h); simp only [resL, oneD, Option.some.injEq, exists_eq_left', go_sem, hlt, hget, hpu, hinc, Int.reduceLE, ↓reduceIte, reduceCtorEq, Nat.reduceEqDiff, Nat.reduceLeDiff, Nat.reduceAdd, Nat.reduceMul, Nat.reduceSub, Nat.reduceLT]; repeat' (first | exact Ok.out | with_reducible refine And.intro ?_ ?_ | (simp; done)))
 | (cases h; replace h := hr; clear hr; (try simp only [bs, ↓reduceIte] at h))
 | (cases h; done))

theorem call_s {m : Nat} {name proc : Str} {r : Rd} {p : Sm × Rd} (h : Rd.call m name proc r = some p) {s : St} {o : Nat} (ho : s.objs[o]? = some (encRd r)) :
    Fun Try.prog n_parse_reader_call [.ptr o 0, .str name, .str proc] s (.agg (encSm p.1)) ⟨s.objs.set o (encRd p.2), s.toks⟩ := by
  refine Fun.meth ?_ rfl (okRd r) (okRd p.2) (by simp [D.ok, okSm]) ho
  unfold Rd.call Rd.other at h
  refine Fun.go has_parse_reader_call rfl fun B Q hB hQ => ?_
  have hlt : 0 < 1 := Nat.zero_lt_one
  have hget : 0 < 1 := Nat.zero_lt_one
  have hpu : 0 < 1 := Nat.zero_lt_one
  have hinc : 0 < 1 := Nat.zero_lt_one
  repeat' (first
 | simp only [go_sem, hlt, hget, hpu, hinc, Int.reduceLE, ↓reduceIte, reduceCtorEq, Nat.reduceEqDiff, Nat.reduceLeDiff, Nat.reduceAdd, Nat.reduceMul, Nat.reduceSub, Nat.reduceLT]
 | (rw [Option.bind_eq_some_iff] at h; obtain ⟨_, h1, h⟩ := h; first | (with_reducible refine CU (want_s h1 (by with_unfolding_all rfl)) ?_) | (with_reducible refine CU (is_s h1 (by with_unfolding_all rfl)) ?_))
 | (with_reducible refine CU (good_s (by with_unfolding_all rfl)) ?_)
 | (with_reducible first | refine CB_ofT (by assumption) fun hc => ?_ | refine CB_ofF (by assumption) fun hc => ?_ | refine CB_split (fun hc => ?_) fun hc => ?_) <;> (try simp only [hc, bs, ↓reduceIte] at h) <;> (try simp only [hc])
 | ((with_reducible first | refine leafR hQ ?_ | refine leafN hQ ?_); (try cases h); simp only [resL, oneD, Option.some.injEq, exists_eq_left', go_sem, hlt, hget, hpu, hinc, Int.reduceLE, ↓reduceIte, reduceCtorEq, Nat.reduceEqDiff, Nat.reduceLeDiff, Nat.reduceAdd, Nat.reduceMul, Nat.reduceSub, Nat.reduceLT]; repeat' (first | exact Ok.out | with_reducible refine And.intro ?_ ?_ | (simp; done)))
 | (cases h; replace h := hr; clear hr; (try simp only [bs, ↓reduceIte] at h))
 | (cases h; done))
  rw [Option.bind_eq_some_iff] at h
  obtain ⟨q, h, hr⟩ := h
  refine SemL.tokO 2 10 6 rfl rfl ?_
  simp only [go_sem, hlt, hget, hpu, hinc, Int.reduceLE, ↓reduceIte, reduceCtorEq, Nat.reduceEqDiff, Nat.reduceLeDiff, Nat.reduceAdd, Nat.reduceMul, Nat.reduceSub, Nat.reduceLT]
  refine SemL.re _ _ 3 1 (by rw [hB]; exact Nat.le_of_ble_eq_true rfl) (by rw [hB]; exact Nat.le_of_ble_eq_true rfl) ?_ ?_ (SemL.ind (ι := Nat × List Ar × Rd × Nat) (fun i => Rd.callL m i.1 i.2.1 i.2.2.1 = some q ∧ i.2.2.2 = i.2.1.length) (fun i => i.1)
    (fun i => [(0, .ptr 0 0), (6, .ptr 1 0), (7, .ptr 2 0)]) (fun i => ⟨[encRd i.2.2.1, encSm sm0, [.int .i64 0, .int .i64 4, .slice .shared 1 [], .str name, .str proc, .int .i64 0, .int .i64 0, .str [], .slice .shared 4 [], .bool false, .slice (.tok 0) 6 (i.2.1.map encAr), .slice .shared 13 [], .slice .shared 13 []]], [some i.2.2.2]⟩) ?_ (m, [], _, 0) ⟨h, rfl⟩)
  · (simp only [go_sem, hlt, hget, hpu, hinc, Int.reduceLE, ↓reduceIte, reduceCtorEq, Nat.reduceEqDiff, Nat.reduceLeDiff, Nat.reduceAdd, Nat.reduceMul, Nat.reduceSub, Nat.reduceLT]; repeat' (first | exact Ok.out | with_reducible refine And.intro ?_ ?_))
  · (simp only [go_sem, hlt, hget, hpu, hinc, Int.reduceLE, ↓reduceIte, reduceCtorEq, Nat.reduceEqDiff, Nat.reduceLeDiff, Nat.reduceAdd, Nat.reduceMul, Nat.reduceSub, Nat.reduceLT]; repeat' (first | exact Ok.out | with_reducible refine And.intro ?_ ?_))
  rintro ⟨n, l, r, k⟩ ⟨h, hk⟩ IH
  dsimp only at hk; subst hk
  cases n with
  | zero => simp only [Rd.callL] at h; cases h
  | succ n =>
    simp only [Rd.callL] at h
    repeat' (first
 | simp only [go_sem, hlt, hget, hpu, hinc, Int.reduceLE, ↓reduceIte, reduceCtorEq, Nat.reduceEqDiff, Nat.reduceLeDiff, Nat.reduceAdd, Nat.reduceMul, Nat.reduceSub, Nat.reduceLT]
 | (rw [Option.bind_eq_some_iff] at h; obtain ⟨_, h1, h⟩ := h; first | (with_reducible refine CU (take_s h1 (by with_unfolding_all rfl)) ?_) | (obtain ⟨hpu, hpush⟩ := push_some h1; subst hpush; simp only [go_sem, hlt, hget, hpu, hinc, Int.reduceLE, ↓reduceIte, reduceCtorEq, Nat.reduceEqDiff, Nat.reduceLeDiff, Nat.reduceAdd, Nat.reduceMul, Nat.reduceSub, Nat.reduceLT]) | (with_reducible refine CU (name_s h1 (by with_unfolding_all rfl)) ?_) | (with_reducible refine CU (whole_s h1 (by with_unfolding_all rfl)) ?_) | (with_reducible refine CU (want_s h1 (by with_unfolding_all rfl)) ?_))
 | (with_reducible refine CU (good_s (by with_unfolding_all rfl)) ?_)
 | (with_reducible first | refine CB_ofT (by assumption) fun hc => ?_ | refine CB_ofF (by assumption) fun hc => ?_ | refine CB_split (fun hc => ?_) fun hc => ?_) <;> (try simp only [hc, bs, ↓reduceIte] at h) <;> (try simp only [hc])
 | ((with_reducible first | refine leafR hQ ?_ | refine leafN hQ ?_); (try cases h); simp only [resL, oneD, Option.some.injEq, exists_eq_left', go_sem, hlt, hget, hpu, hinc, Int.reduceLE, ↓reduceIte, reduceCtorEq, Nat.reduceEqDiff, Nat.reduceLeDiff, Nat.reduceAdd, Nat.reduceMul, Nat.reduceSub, Nat.reduceLT]; repeat' (first | exact Ok.out | with_reducible refine And.intro ?_ ?_ | (simp; done)))
 | (cases h; replace h := hr; clear hr; (try simp only [bs, ↓reduceIte] at h))
 | (cases h; done))
    · refine SemL.re _ _ 3 1 (by rw [hB]; exact Nat.le_of_ble_eq_true rfl) (by rw [hB]; exact Nat.le_of_ble_eq_true rfl) ?_ ?_ (IH (n, _, _, l.length + 1) ⟨h, by simp⟩ (Nat.lt_succ_self _))
      · (simp only [go_sem, hlt, hget, hpu, hinc, Int.reduceLE, ↓reduceIte, reduceCtorEq, Nat.reduceEqDiff, Nat.reduceLeDiff, Nat.reduceAdd, Nat.reduceMul, Nat.reduceSub, Nat.reduceLT]; repeat' (first | exact Ok.out | with_reducible refine And.intro ?_ ?_))
      · (simp only [go_sem, hlt, hget, hpu, hinc, Int.reduceLE, ↓reduceIte, reduceCtorEq, Nat.reduceEqDiff, Nat.reduceLeDiff, Nat.reduceAdd, Nat.reduceMul, Nat.reduceSub, Nat.reduceLT]; repeat' (first | exact Ok.out | with_reducible refine And.intro ?_ ?_))
    · refine SemL.re _ _ 3 1 (by rw [hB]; exact Nat.le_of_ble_eq_true rfl) (by rw [hB]; exact Nat.le_of_ble_eq_true rfl) ?_ ?_ (IH (n, _, _, l.length + 1) ⟨h, by simp⟩ (Nat.lt_succ_self _))
      · (simp only [go_sem, hlt, hget, hpu, hinc, Int.reduceLE, ↓reduceIte, reduceCtorEq, Nat.reduceEqDiff, Nat.reduceLeDiff, Nat.reduceAdd, Nat.reduceMul, Nat.reduceSub, Nat.reduceLT]; repeat' (first | exact Ok.out | with_reducible refine And.intro ?_ ?_))
      · (simp only [go_sem, hlt, hget, hpu, hinc, Int.reduceLE, ↓reduceIte, reduceCtorEq, Nat.reduceEqDiff, Nat.reduceLeDiff, Nat.reduceAdd, Nat.reduceMul, Nat.reduceSub, Nat.reduceLT]; repeat' (first | exact Ok.out | with_reducible refine And.intro ?_ ?_))

theorem named_s {m : Nat} {r : Rd} {p : Sm × Rd} (h : Rd.named m r = some p) {s : St} {o : Nat} (ho : s.objs[o]? = some (encRd r)) :
    Fun Try.prog n_parse_reader_named [.ptr o 0] s (.agg (encSm p.1)) ⟨s.objs.set o (encRd p.2), s.toks⟩ := by
  refine Fun.meth ?_ rfl (okRd r) (okRd p.2) (by simp [D.ok, okSm]) ho
  unfold Rd.named Rd.ahead at h
  refine Fun.go has_parse_reader_named rfl fun B Q hB hQ => ?_
  have hlt : 0 < 1 := Nat.zero_lt_one
  have hget : 0 < 1 := Nat.zero_lt_one
  have hpu : 0 < 1 := Nat.zero_lt_one
  have hinc : 0 < 1 := Nat.zero_lt_one
  repeat' (first
 | simp only [go_sem, hlt, hget, hpu, hinc, Int.reduceLE, ↓reduceIte, reduceCtorEq, Nat.reduceEqDiff, Nat.reduceLeDiff, Nat.reduceAdd, Nat.reduceMul, Nat.reduceSub, Nat.reduceLT]
 | (rw [Option.bind_eq_some_iff] at h; obtain ⟨_, h1, h⟩ := h; first | (with_reducible refine CU (name_s h1 (by with_unfolding_all rfl)) ?_) | (with_reducible refine CU (want_s h1 (by with_unfolding_all rfl)) ?_) | (with_reducible refine CU (is_s h1 (by with_unfolding_all rfl)) ?_) | (with_reducible refine CU (peek_s h1 (by with_unfolding_all rfl)) ?_; have hlt := peek_lt h1) | (obtain ⟨hltq, hget⟩ := getO_some h1; simp only [go_sem, hget, hlt, hget, hpu, hinc, Int.reduceLE, ↓reduceIte, reduceCtorEq, Nat.reduceEqDiff, Nat.reduceLeDiff, Nat.reduceAdd, Nat.reduceMul, Nat.reduceSub, Nat.reduceLT]) | (with_reducible refine CU (whole_s h1 (by with_unfolding_all rfl)) ?_))
 | (with_reducible refine CU (good_s (by with_unfolding_all rfl)) ?_)
 | (with_reducible refine CU (call_s h (by with_unfolding_all rfl)) ?_)
 | (with_reducible first | refine CB_ofT (by assumption) fun hc => ?_ | refine CB_ofF (by assumption) fun hc => ?_ | refine CB_split (fun hc => ?_) fun hc => ?_) <;> (try simp only [hc, bs, ↓reduceIte] at h) <;> (try simp only [hc])
 | ((with_reducible first | refine leafR hQ ?_ | refine leafN hQ ?_); (try cases h); simp only [resL, oneD, Option.some.injEq, exists_eq_left', go_sem, hlt, hget, hpu, hinc, Int.reduceLE, ↓reduceIte, reduceCtorEq, Nat.reduceEqDiff, Nat.reduceLeDiff, Nat.reduceAdd, Nat.reduceMul, Nat.reduceSub, Nat.reduceLT]; repeat' (first | exact Ok.out | with_reducible refine And.intro ?_ ?_ | (simp; done)))
 | (cases h; replace h := hr; clear hr; (try simp only [bs, ↓reduceIte] at h))
 | (cases h; done))

theorem plain_s {m : Nat} {word : Str} {r : Rd} {p : Sm × Rd} (h : Rd.plain m word r = some p) {s : St} {o : Nat} (ho : s.objs[o]? = some (encRd r)) :
    Fun Try.prog n_parse_reader_plain [.ptr o 0, .str word] s (.agg (encSm p.1)) ⟨s.objs.set o (encRd p.2), s.toks⟩ := by
  refine Fun.meth ?_ rfl (okRd r) (okRd p.2) (by simp [D.ok, okSm]) ho
  unfold Rd.plain at h
  refine Fun.go has_parse_reader_plain rfl fun B Q hB hQ => ?_
  have hlt : 0 < 1 := Nat.zero_lt_one
  have hget : 0 < 1 := Nat.zero_lt_one
  have hpu : 0 < 1 := Nat.zero_lt_one
  have hinc : 0 < 1 := Nat.zero_lt_one
  repeat' (first
 | simp only [go_sem, hlt, hget, hpu, hinc, Int.reduceLE, ↓reduceIte, reduceCtorEq, Nat.reduceEqDiff, Nat.reduceLeDiff, Nat.reduceAdd, Nat.reduceMul, Nat.reduceSub, Nat.reduceLT]
 | (rw [Option.bind_eq_some_iff] at h; obtain ⟨_, h1, h⟩ := h; first | (with_reducible refine CU (name_s h1 (by with_unfolding_all rfl)) ?_) | (with_reducible refine CU (is_s h1 (by with_unfolding_all rfl)) ?_) | (with_reducible refine CU (whole_s h1 (by with_unfolding_all rfl)) ?_))
 | (with_reducible first | refine CB_ofT (by assumption) fun hc => ?_ | refine CB_ofF (by assumption) fun hc => ?_ | refine CB_split (fun hc => ?_) fun hc => ?_) <;> (try simp only [hc, bs, ↓reduceIte] at h) <;> (try simp only [hc])
 | ((with_reducible first | refine leafR hQ ?_ | refine leafN hQ ?_); (try cases h); simp only [resL, oneD, Option.some.injEq, exists_eq_left', go_sem, hlt, hget, hpu, hinc, Int.reduceLE, ↓reduceIte, reduceCtorEq, Nat.reduceEqDiff, Nat.reduceLeDiff, Nat.reduceAdd, Nat.reduceMul, Nat.reduceSub, Nat.reduceLT]; repeat' (first | exact Ok.out | with_reducible refine And.intro ?_ ?_ | (simp; done)))
 | (cases h; replace h := hr; clear hr; (try simp only [bs, ↓reduceIte] at h))
 | (cases h; done))

theorem head_s {m : Nat} {r : Rd} {p : Ex × Rd} (h : Rd.head m r = some p) {s : St} {o : Nat} (ho : s.objs[o]? = some (encRd r)) :
    Fun Try.prog n_parse_reader_head [.ptr o 0] s (.agg (encEx p.1)) ⟨s.objs.set o (encRd p.2), s.toks⟩ := by
  refine Fun.meth ?_ rfl (okRd r) (okRd p.2) (by simp [D.ok, okEx]) ho
  unfold Rd.head at h
  refine Fun.go has_parse_reader_head rfl fun B Q hB hQ => ?_
  have hlt : 0 < 1 := Nat.zero_lt_one
  have hget : 0 < 1 := Nat.zero_lt_one
  have hpu : 0 < 1 := Nat.zero_lt_one
  have hinc : 0 < 1 := Nat.zero_lt_one
  repeat' (first
 | simp only [go_sem, hlt, hget, hpu, hinc, Int.reduceLE, ↓reduceIte, reduceCtorEq, Nat.reduceEqDiff, Nat.reduceLeDiff, Nat.reduceAdd, Nat.reduceMul, Nat.reduceSub, Nat.reduceLT]
 | (rw [Option.bind_eq_some_iff] at h; obtain ⟨_, h1, h⟩ := h; first | (with_reducible refine CU (want_s h1 (by with_unfolding_all rfl)) ?_) | (with_reducible refine CU (whole_s h1 (by with_unfolding_all rfl)) ?_))
 | (with_reducible first | refine CB_ofT (by assumption) fun hc => ?_ | refine CB_ofF (by assumption) fun hc => ?_ | refine CB_split (fun hc => ?_) fun hc => ?_) <;> (try simp only [hc, bs, ↓reduceIte] at h) <;> (try simp only [hc])
 | ((with_reducible first | refine leafR hQ ?_ | refine leafN hQ ?_); (try cases h); simp only [resL, oneD, Option.some.injEq, exists_eq_left', go_sem, hlt, hget, hpu, hinc, Int.reduceLE, ↓reduceIte, reduceCtorEq, Nat.reduceEqDiff, Nat.reduceLeDiff, Nat.reduceAdd, Nat.reduceMul, Nat.reduceSub, Nat.reduceLT]; repeat' (first | exact Ok.out | with_reducible refine And.intro ?_ ?_ | (simp; done)))
 | (cases h; replace h := hr; clear hr; (try simp only [bs, ↓reduceIte] at h))
 | (cases h; done))

end Go.Abs

/-! Prs5 -/

namespace Go.Abs

set_option maxRecDepth 8000
set_option linter.unusedSimpArgs false
set_option linter.unusedVariables false
open Go.Proofs

abbrev C_rows (m n : Nat) : Prop := ∀ {nest : Int} {body : Bool} {r : Rd} {p : (List Sm × List Str) × Rd}, Rd.rows m n nest body r = some p → ∀ {s : St} {o : Nat}, s.objs[o]? = some (encRd r) →
  Fun Try.prog n_parse_reader_rows [.ptr o 0, .int .i64 nest, .bool body] s (.tuple [.slice .shared 13 (p.1.1.map encSm), .slice .shared 1 (p.1.2.map encStr)]) ⟨s.objs.set o (encRd p.2), s.toks⟩
abbrev C_stmt (m n : Nat) : Prop := ∀ {nest : Int} {r : Rd} {p : Sm × Rd}, Rd.stmt m n nest r = some p → ∀ {s : St} {o : Nat}, s.objs[o]? = some (encRd r) →
  Fun Try.prog n_parse_reader_stmt [.ptr o 0, .int .i64 nest] s (.agg (encSm p.1)) ⟨s.objs.set o (encRd p.2), s.toks⟩
abbrev C_block (m n : Nat) : Prop := ∀ {nest : Int} {r : Rd} {p : List Sm × Rd}, Rd.block m n nest r = some p → ∀ {s : St} {o : Nat}, s.objs[o]? = some (encRd r) →
  Fun Try.prog n_parse_reader_block [.ptr o 0, .int .i64 nest] s (.slice .shared 13 (p.1.map encSm)) ⟨s.objs.set o (encRd p.2), s.toks⟩
abbrev C_choice (m n : Nat) : Prop := ∀ {nest : Int} {r : Rd} {p : Sm × Rd}, Rd.choice m n nest r = some p → ∀ {s : St} {o : Nat}, s.objs[o]? = some (encRd r) →
  Fun Try.prog n_parse_reader_choice [.ptr o 0, .int .i64 nest] s (.agg (encSm p.1)) ⟨s.objs.set o (encRd p.2), s.toks⟩

theorem choice_step {m n : Nat} (block_s : C_block m n) : C_choice m (n + 1) := by
  intro nest r p h s o ho
  refine Fun.meth ?_ rfl (okRd r) (okRd p.2) (by simp [D.ok, okSm]) ho
  unfold Rd.choice at h
  refine Fun.go has_parse_reader_choice rfl fun B Q hB hQ => ?_
  have hlt : 0 < 1 := Nat.zero_lt_one
  have hget : 0 < 1 := Nat.zero_lt_one
  have hpu : 0 < 1 := Nat.zero_lt_one
  have hinc : 0 < 1 := Nat.zero_lt_one
  repeat' (first
 | simp only [go_sem, hlt, hget, hpu, hinc, Int.reduceLE, ↓reduceIte, reduceCtorEq, Nat.reduceEqDiff, Nat.reduceLeDiff, Nat.reduceAdd, Nat.reduceMul, Nat.reduceSub, Nat.reduceLT]
 | (rw [Option.bind_eq_some_iff] at h; obtain ⟨_, h1, h⟩ := h; first | (with_reducible refine CU (head_s h1 (by with_unfolding_all rfl)) ?_) | (with_reducible refine CU (block_s h1 (by with_unfolding_all rfl)) ?_) | (with_reducible refine CU (take_s h1 (by with_unfolding_all rfl)) ?_))
 | (with_reducible first | refine CB_ofT (by assumption) fun hc => ?_ | refine CB_ofF (by assumption) fun hc => ?_ | refine CB_split (fun hc => ?_) fun hc => ?_) <;> (try simp only [hc, bs, ↓reduceIte] at h) <;> (try simp only [hc])
 | ((with_reducible first | refine leafR hQ ?_ | refine leafN hQ ?_); (try cases h); simp only [resL, oneD, Option.some.injEq, exists_eq_left', go_sem, hlt, hget, hpu, hinc, Int.reduceLE, ↓reduceIte, reduceCtorEq, Nat.reduceEqDiff, Nat.reduceLeDiff, Nat.reduceAdd, Nat.reduceMul, Nat.reduceSub, Nat.reduceLT]; repeat' (first | exact Ok.out | with_reducible refine And.intro ?_ ?_ | (simp; done)))
 | (cases h; replace h := hr; clear hr; (try simp only [bs, ↓reduceIte] at h))
 | (cases h; done))

theorem block_step {m n : Nat} (rows_s : C_rows m n) : C_block m (n + 1) := by
  intro nest r p h s o ho
  refine Fun.meth ?_ rfl (okRd r) (okRd p.2) (by simp [D.ok, okrSm, Tag.ok]) ho
  unfold Rd.block at h
  refine Fun.go has_parse_reader_block rfl fun B Q hB hQ => ?_
  have hlt : 0 < 1 := Nat.zero_lt_one
  have hget : 0 < 1 := Nat.zero_lt_one
  have hpu : 0 < 1 := Nat.zero_lt_one
  have hinc : 0 < 1 := Nat.zero_lt_one
  repeat' (first
 | simp only [go_sem, hlt, hget, hpu, hinc, Int.reduceLE, ↓reduceIte, reduceCtorEq, Nat.reduceEqDiff, Nat.reduceLeDiff, Nat.reduceAdd, Nat.reduceMul, Nat.reduceSub, Nat.reduceLT]
 | (rw [Option.bind_eq_some_iff] at h; obtain ⟨_, h1, h⟩ := h; first | (with_reducible refine CU (want_s h1 (by with_unfolding_all rfl)) ?_) | (obtain ⟨hinc, hik⟩ := incI_some h1; subst hik; simp only [go_sem, hinc, hlt, hget, hpu, hinc, Int.reduceLE, ↓reduceIte, reduceCtorEq, Nat.reduceEqDiff, Nat.reduceLeDiff, Nat.reduceAdd, Nat.reduceMul, Nat.reduceSub, Nat.reduceLT]) | (with_reducible refine CU (rows_s h1 (by with_unfolding_all rfl)) ?_))
 | (with_reducible first | refine CB_ofT (by assumption) fun hc => ?_ | refine CB_ofF (by assumption) fun hc => ?_ | refine CB_split (fun hc => ?_) fun hc => ?_) <;> (try simp only [hc, bs, ↓reduceIte] at h) <;> (try simp only [hc])
 | ((with_reducible first | refine leafR hQ ?_ | refine leafN hQ ?_); (try cases h); simp only [resL, oneD, Option.some.injEq, exists_eq_left', go_sem, hlt, hget, hpu, hinc, Int.reduceLE, ↓reduceIte, reduceCtorEq, Nat.reduceEqDiff, Nat.reduceLeDiff, Nat.reduceAdd, Nat.reduceMul, Nat.reduceSub, Nat.reduceLT]; repeat' (first | exact Ok.out | with_reducible refine And.intro ?_ ?_ | (simp; done)))
 | (cases h; replace h := hr; clear hr; (try simp only [bs, ↓reduceIte] at h))
 | (cases h; done))

theorem stmt_step {m n : Nat} (block_s : C_block m n) (choice_s : C_choice m n) : C_stmt m (n + 1) := by
  intro nest r p h s o ho
  refine Fun.meth ?_ rfl (okRd r) (okRd p.2) (by simp [D.ok, okSm]) ho
  unfold Rd.stmt at h
  refine Fun.go has_parse_reader_stmt rfl fun B Q hB hQ => ?_
  have hlt : 0 < 1 := Nat.zero_lt_one
  have hget : 0 < 1 := Nat.zero_lt_one
  have hpu : 0 < 1 := Nat.zero_lt_one
  have hinc : 0 < 1 := Nat.zero_lt_one
  repeat' (first
 | simp only [go_sem, hlt, hget, hpu, hinc, Int.reduceLE, ↓reduceIte, reduceCtorEq, Nat.reduceEqDiff, Nat.reduceLeDiff, Nat.reduceAdd, Nat.reduceMul, Nat.reduceSub, Nat.reduceLT]
 | (rw [Option.bind_eq_some_iff] at h; obtain ⟨_, h1, h⟩ := h; first | (with_reducible refine CU (begins_s h1 (by with_unfolding_all rfl)) ?_) | (obtain ⟨hinc, hik⟩ := inc_some h1; subst hik; simp only [go_sem, hinc, hlt, hget, hpu, hinc, Int.reduceLE, ↓reduceIte, reduceCtorEq, Nat.reduceEqDiff, Nat.reduceLeDiff, Nat.reduceAdd, Nat.reduceMul, Nat.reduceSub, Nat.reduceLT]) | (with_reducible refine CU (peek_s h1 (by with_unfolding_all rfl)) ?_; have hlt := peek_lt h1) | (with_reducible refine CU (head_s h1 (by with_unfolding_all rfl)) ?_) | (with_reducible refine CU (block_s h1 (by with_unfolding_all rfl)) ?_) | (with_reducible refine CU (plain_s h1 (by with_unfolding_all rfl)) ?_) | (with_reducible refine CU (want_s h1 (by with_unfolding_all rfl)) ?_) | (with_reducible refine CU (bad_s h1 (by with_unfolding_all rfl)) ?_))
 | (with_reducible refine CU (choice_s h (by with_unfolding_all rfl)) ?_)
 | (with_reducible refine CU (named_s h (by with_unfolding_all rfl)) ?_)
 | (with_reducible first | refine CB_ofT (by assumption) fun hc => ?_ | refine CB_ofF (by assumption) fun hc => ?_ | refine CB_split (fun hc => ?_) fun hc => ?_) <;> (try simp only [hc, bs, ↓reduceIte] at h) <;> (try simp only [hc])
 | ((with_reducible first | refine leafR hQ ?_ | refine leafN hQ ?_); (try cases h); simp only [resL, oneD, Option.some.injEq, exists_eq_left', go_sem, hlt, hget, hpu, hinc, Int.reduceLE, ↓reduceIte, reduceCtorEq, Nat.reduceEqDiff, Nat.reduceLeDiff, Nat.reduceAdd, Nat.reduceMul, Nat.reduceSub, Nat.reduceLT]; repeat' (first | exact Ok.out | with_reducible refine And.intro ?_ ?_ | (simp; done)))
 | (cases h; replace h := hr; clear hr; (try simp only [bs, ↓reduceIte] at h))
 | (cases h; done))

theorem rows_true {m n : Nat} (stmt_s : ∀ j < n, C_stmt m j) {nest : Int} {r : Rd} {p : (List Sm × List Str) × Rd} (h : Rd.rows m (n + 1) nest true r = some p) :
    Fun Try.prog n_parse_reader_rows [.ptr 0 0, .int .i64 nest, .bool true] ⟨[encRd r], []⟩ (.tuple [.slice .shared 13 (p.1.1.map encSm), .slice .shared 1 (p.1.2.map encStr)]) ⟨[encRd p.2], []⟩ := by
  unfold Rd.rows at h
  refine Fun.go has_parse_reader_rows rfl fun B Q hB hQ => ?_
  have hlt : 0 < 1 := Nat.zero_lt_one
  have hget : 0 < 1 := Nat.zero_lt_one
  have hpu : 0 < 1 := Nat.zero_lt_one
  have hinc : 0 < 1 := Nat.zero_lt_one
  repeat' (first
 | simp only [go_sem, hlt, hget, hpu, hinc, Int.reduceLE, ↓reduceIte, reduceCtorEq, Nat.reduceEqDiff, Nat.reduceLeDiff, Nat.reduceAdd, Nat.reduceMul, Nat.reduceSub, Nat.reduceLT]
 | (with_reducible first | refine CB_ofT (by assumption) fun hc => ?_ | refine CB_ofF (by assumption) fun hc => ?_ | refine CB_split (fun hc => ?_) fun hc => ?_) <;> (try simp only [hc, bs, ↓reduceIte] at h) <;> (try simp only [hc])
 | ((with_reducible first | refine leafR hQ ?_ | refine leafN hQ ?_); (try cases h); simp only [resL, oneD, Option.some.injEq, exists_eq_left', go_sem, hlt, hget, hpu, hinc, Int.reduceLE, ↓reduceIte, reduceCtorEq, Nat.reduceEqDiff, Nat.reduceLeDiff, Nat.reduceAdd, Nat.reduceMul, Nat.reduceSub, Nat.reduceLT]; repeat' (first | exact Ok.out | with_reducible refine And.intro ?_ ?_ | (simp; done)))
 | (cases h; replace h := hr; clear hr; (try simp only [bs, ↓reduceIte] at h))
 | (cases h; done))
  refine SemL.tokT 8 13 rfl ?_
  simp only [go_sem, hlt, hget, hpu, hinc, Int.reduceLE, ↓reduceIte, reduceCtorEq, Nat.reduceEqDiff, Nat.reduceLeDiff, Nat.reduceAdd, Nat.reduceMul, Nat.reduceSub, Nat.reduceLT]
  refine SemL.re _ _ 1 1 (by rw [hB]; exact Nat.le_of_ble_eq_true rfl) (by rw [hB]; exact Nat.le_of_ble_eq_true rfl) ?_ ?_ (SemL.ind (ι := Nat × List Sm × Rd × Nat) (fun i => Rd.rowsL m i.1 nest true i.2.1 i.2.2.1 = some p ∧ i.2.2.2 = i.2.1.length ∧ i.1 ≤ n) (fun i => i.1)
    (fun i => [(0, .ptr 0 0), (1, .int .i64 nest), (2, .bool true), (8, .slice (.tok 0) 13 (i.2.1.map encSm))]) (fun i => ⟨[encRd i.2.2.1], [some i.2.2.2]⟩) ?_ (n, [], r, 0) ⟨h, rfl, Nat.le_refl _⟩)
  · (simp only [go_sem, hlt, hget, hpu, hinc, Int.reduceLE, ↓reduceIte, reduceCtorEq, Nat.reduceEqDiff, Nat.reduceLeDiff, Nat.reduceAdd, Nat.reduceMul, Nat.reduceSub, Nat.reduceLT]; repeat' (first | exact Ok.out | with_reducible refine And.intro ?_ ?_))
  · (simp only [go_sem, hlt, hget, hpu, hinc, Int.reduceLE, ↓reduceIte, reduceCtorEq, Nat.reduceEqDiff, Nat.reduceLeDiff, Nat.reduceAdd, Nat.reduceMul, Nat.reduceSub, Nat.reduceLT]; repeat' (first | exact Ok.out | with_reducible refine And.intro ?_ ?_))
  rintro ⟨j, l, r, k⟩ ⟨h, hk, hj⟩ IH
  dsimp only at hk hj; subst hk
  cases j with
  | zero => simp only [Rd.rowsL] at h; cases h
  | succ j =>
    have stmt_j := @stmt_s j (by omega)
    simp only [Rd.rowsL] at h
    repeat' (first
 | simp only [go_sem, hlt, hget, hpu, hinc, Int.reduceLE, ↓reduceIte, reduceCtorEq, Nat.reduceEqDiff, Nat.reduceLeDiff, Nat.reduceAdd, Nat.reduceMul, Nat.reduceSub, Nat.reduceLT, encSm_eq]
 | (rw [Option.bind_eq_some_iff] at h; obtain ⟨_, h1, h⟩ := h; first | (with_reducible refine CU (labels_s h1 (by with_unfolding_all rfl)) ?_) | (with_reducible refine CU (is_s h1 (by with_unfolding_all rfl)) ?_; have hlt := is_lt h1) | (obtain ⟨hpu, hpush⟩ := push_some h1; subst hpush; simp only [go_sem, hlt, hget, hpu, hinc, Int.reduceLE, ↓reduceIte, reduceCtorEq, Nat.reduceEqDiff, Nat.reduceLeDiff, Nat.reduceAdd, Nat.reduceMul, Nat.reduceSub, Nat.reduceLT]) | (with_reducible refine CU (stmt_j h1 (by with_unfolding_all rfl)) ?_))
 | (with_reducible refine CU (good_s (by with_unfolding_all rfl)) ?_)
 | (with_reducible first | refine CB_ofT (by assumption) fun hc => ?_ | refine CB_ofF (by assumption) fun hc => ?_ | refine CB_split (fun hc => ?_) fun hc => ?_) <;> (try simp only [hc, bs, ↓reduceIte] at h) <;> (try simp only [hc])
 | ((with_reducible first | refine leafR hQ ?_ | refine leafN hQ ?_); (try cases h); simp only [resL, oneD, Option.some.injEq, exists_eq_left', go_sem, hlt, hget, hpu, hinc, Int.reduceLE, ↓reduceIte, reduceCtorEq, Nat.reduceEqDiff, Nat.reduceLeDiff, Nat.reduceAdd, Nat.reduceMul, Nat.reduceSub, Nat.reduceLT, encSm_eq]; repeat' (first | exact Ok.out | with_reducible refine And.intro ?_ ?_ | (simp; done)))
 | (cases h; replace h := hr; clear hr; (try simp only [bs, ↓reduceIte] at h))
 | (cases h; done))
    · refine SemL.re _ _ 1 1 (by rw [hB]; exact Nat.le_of_ble_eq_true rfl) (by rw [hB]; exact Nat.le_of_ble_eq_true rfl) ?_ ?_ (IH (j, _, _, l.length + 1) ⟨h, by simp, by dsimp only; omega⟩ (Nat.lt_succ_self _))
      · (simp only [go_sem, hlt, hget, hpu, hinc, Int.reduceLE, ↓reduceIte, reduceCtorEq, Nat.reduceEqDiff, Nat.reduceLeDiff, Nat.reduceAdd, Nat.reduceMul, Nat.reduceSub, Nat.reduceLT, encSm_eq]; repeat' (first | exact Ok.out | with_reducible refine And.intro ?_ ?_))
      · (simp only [go_sem, hlt, hget, hpu, hinc, Int.reduceLE, ↓reduceIte, reduceCtorEq, Nat.reduceEqDiff, Nat.reduceLeDiff, Nat.reduceAdd, Nat.reduceMul, Nat.reduceSub, Nat.reduceLT, encSm_eq]; repeat' (first | exact Ok.out | with_reducible refine And.intro ?_ ?_))

theorem rows_false {m n : Nat} (stmt_s : ∀ j < n, C_stmt m j) {nest : Int} {r : Rd} {p : (List Sm × List Str) × Rd} (h : Rd.rows m (n + 1) nest false r = some p) :
    Fun Try.prog n_parse_reader_rows [.ptr 0 0, .int .i64 nest, .bool false] ⟨[encRd r], []⟩ (.tuple [.slice .shared 13 (p.1.1.map encSm), .slice .shared 1 (p.1.2.map encStr)]) ⟨[encRd p.2], []⟩ := by
  unfold Rd.rows at h
  refine Fun.go has_parse_reader_rows rfl fun B Q hB hQ => ?_
  have hlt : 0 < 1 := Nat.zero_lt_one
  have hget : 0 < 1 := Nat.zero_lt_one
  have hpu : 0 < 1 := Nat.zero_lt_one
  have hinc : 0 < 1 := Nat.zero_lt_one
  repeat' (first
 | simp only [go_sem, hlt, hget, hpu, hinc, Int.reduceLE, ↓reduceIte, reduceCtorEq, Nat.reduceEqDiff, Nat.reduceLeDiff, Nat.reduceAdd, Nat.reduceMul, Nat.reduceSub, Nat.reduceLT]
 | (with_reducible first | refine CB_ofT (by assumption) fun hc => ?_ | refine CB_ofF (by assumption) fun hc => ?_ | refine CB_split (fun hc => ?_) fun hc => ?_) <;> (try simp only [hc, bs, ↓reduceIte] at h) <;> (try simp only [hc])
 | ((with_reducible first | refine leafR hQ ?_ | refine leafN hQ ?_); (try cases h); simp only [resL, oneD, Option.some.injEq, exists_eq_left', go_sem, hlt, hget, hpu, hinc, Int.reduceLE, ↓reduceIte, reduceCtorEq, Nat.reduceEqDiff, Nat.reduceLeDiff, Nat.reduceAdd, Nat.reduceMul, Nat.reduceSub, Nat.reduceLT]; repeat' (first | exact Ok.out | with_reducible refine And.intro ?_ ?_ | (simp; done)))
 | (cases h; replace h := hr; clear hr; (try simp only [bs, ↓reduceIte] at h))
 | (cases h; done))
  refine SemL.tokT 8 13 rfl ?_
  simp only [go_sem, hlt, hget, hpu, hinc, Int.reduceLE, ↓reduceIte, reduceCtorEq, Nat.reduceEqDiff, Nat.reduceLeDiff, Nat.reduceAdd, Nat.reduceMul, Nat.reduceSub, Nat.reduceLT]
  refine SemL.re _ _ 1 1 (by rw [hB]; exact Nat.le_of_ble_eq_true rfl) (by rw [hB]; exact Nat.le_of_ble_eq_true rfl) ?_ ?_ (SemL.ind (ι := Nat × List Sm × Rd × Nat) (fun i => Rd.rowsL m i.1 nest false i.2.1 i.2.2.1 = some p ∧ i.2.2.2 = i.2.1.length ∧ i.1 ≤ n) (fun i => i.1)
    (fun i => [(0, .ptr 0 0), (1, .int .i64 nest), (2, .bool false), (8, .slice (.tok 0) 13 (i.2.1.map encSm))]) (fun i => ⟨[encRd i.2.2.1], [some i.2.2.2]⟩) ?_ (n, [], r, 0) ⟨h, rfl, Nat.le_refl _⟩)
  · (simp only [go_sem, hlt, hget, hpu, hinc, Int.reduceLE, ↓reduceIte, reduceCtorEq, Nat.reduceEqDiff, Nat.reduceLeDiff, Nat.reduceAdd, Nat.reduceMul, Nat.reduceSub, Nat.reduceLT]; repeat' (first | exact Ok.out | with_reducible refine And.intro ?_ ?_))
  · (simp only [go_sem, hlt, hget, hpu, hinc, Int.reduceLE, ↓reduceIte, reduceCtorEq, Nat.reduceEqDiff, Nat.reduceLeDiff, Nat.reduceAdd, Nat.reduceMul, Nat.reduceSub, Nat.reduceLT]; repeat' (first | exact Ok.out | with_reducible refine And.intro ?_ ?_))
  rintro ⟨j, l, r, k⟩ ⟨h, hk, hj⟩ IH
  dsimp only at hk hj; subst hk
  cases j with
  | zero => simp only [Rd.rowsL] at h; cases h
  | succ j =>
    have stmt_j := @stmt_s j (by omega)
    simp only [Rd.rowsL] at h
    repeat' (first
 | simp only [go_sem, hlt, hget, hpu, hinc, Int.reduceLE, ↓reduceIte, reduceCtorEq, Nat.reduceEqDiff, Nat.reduceLeDiff, Nat.reduceAdd, Nat.reduceMul, Nat.reduceSub, Nat.reduceLT, encSm_eq]
 | (rw [Option.bind_eq_some_iff] at h; obtain ⟨_, h1, h⟩ := h; first | (with_reducible refine CU (labels_s h1 (by with_unfolding_all rfl)) ?_) | (with_reducible refine CU (is_s h1 (by with_unfolding_all rfl)) ?_; have hlt := is_lt h1) | (obtain ⟨hpu, hpush⟩ := push_some h1; subst hpush; simp only [go_sem, hlt, hget, hpu, hinc, Int.reduceLE, ↓reduceIte, reduceCtorEq, Nat.reduceEqDiff, Nat.reduceLeDiff, Nat.reduceAdd, Nat.reduceMul, Nat.reduceSub, Nat.reduceLT]) | (with_reducible refine CU (stmt_j h1 (by with_unfolding_all rfl)) ?_))
 | (with_reducible refine CU (good_s (by with_unfolding_all rfl)) ?_)
 | (with_reducible first | refine CB_ofT (by assumption) fun hc => ?_ | refine CB_ofF (by assumption) fun hc => ?_ | refine CB_split (fun hc => ?_) fun hc => ?_) <;> (try simp only [hc, bs, ↓reduceIte] at h) <;> (try simp only [hc])
 | ((with_reducible first | refine leafR hQ ?_ | refine leafN hQ ?_); (try cases h); simp only [resL, oneD, Option.some.injEq, exists_eq_left', go_sem, hlt, hget, hpu, hinc, Int.reduceLE, ↓reduceIte, reduceCtorEq, Nat.reduceEqDiff, Nat.reduceLeDiff, Nat.reduceAdd, Nat.reduceMul, Nat.reduceSub, Nat.reduceLT, encSm_eq]; repeat' (first | exact Ok.out | with_reducible refine And.intro ?_ ?_ | (simp; done)))
 | (cases h; replace h := hr; clear hr; (try simp only [bs, ↓reduceIte] at h))
 | (cases h; done))
    · refine SemL.re _ _ 1 1 (by rw [hB]; exact Nat.le_of_ble_eq_true rfl) (by rw [hB]; exact Nat.le_of_ble_eq_true rfl) ?_ ?_ (IH (j, _, _, l.length + 1) ⟨h, by simp, by dsimp only; omega⟩ (Nat.lt_succ_self _))
      · (simp only [go_sem, hlt, hget, hpu, hinc, Int.reduceLE, ↓reduceIte, reduceCtorEq, Nat.reduceEqDiff, Nat.reduceLeDiff, Nat.reduceAdd, Nat.reduceMul, Nat.reduceSub, Nat.reduceLT, encSm_eq]; repeat' (first | exact Ok.out | with_reducible refine And.intro ?_ ?_))
      · (simp only [go_sem, hlt, hget, hpu, hinc, Int.reduceLE, ↓reduceIte, reduceCtorEq, Nat.reduceEqDiff, Nat.reduceLeDiff, Nat.reduceAdd, Nat.reduceMul, Nat.reduceSub, Nat.reduceLT, encSm_eq]; repeat' (first | exact Ok.out | with_reducible refine And.intro ?_ ?_))
    · refine SemL.re _ _ 1 1 (by rw [hB]; exact Nat.le_of_ble_eq_true rfl) (by rw [hB]; exact Nat.le_of_ble_eq_true rfl) ?_ ?_ (IH (j, _, _, l.length + 1) ⟨h, by simp, by dsimp only; omega⟩ (Nat.lt_succ_self _))
      · (simp only [go_sem, hlt, hget, hpu, hinc, Int.reduceLE, ↓reduceIte, reduceCtorEq, Nat.reduceEqDiff, Nat.reduceLeDiff, Nat.reduceAdd, Nat.reduceMul, Nat.reduceSub, Nat.reduceLT, encSm_eq]; repeat' (first | exact Ok.out | with_reducible refine And.intro ?_ ?_))
      · (simp only [go_sem, hlt, hget, hpu, hinc, Int.reduceLE, ↓reduceIte, reduceCtorEq, Nat.reduceEqDiff, Nat.reduceLeDiff, Nat.reduceAdd, Nat.reduceMul, Nat.reduceSub, Nat.reduceLT, encSm_eq]; repeat' (first | exact Ok.out | with_reducible refine And.intro ?_ ?_))

theorem rows_step {m n : Nat} (stmt_s : ∀ j < n, C_stmt m j) : C_rows m (n + 1) := by
  intro nest body r p h s o ho
  refine Fun.meth ?_ rfl (okRd r) (okRd p.2) (by simp [D.ok, D.oks, okrSm, okrStr, Tag.ok]) ho
  cases body
  · exact rows_false stmt_s h
  · exact rows_true stmt_s h

theorem allR_s (m : Nat) : ∀ n, ∀ k < n, C_rows m k ∧ C_stmt m k ∧ C_block m k ∧ C_choice m k := by
  intro n
  induction n with
  | zero => intro k h; exact absurd h (Nat.not_lt_zero _)
  | succ n ih =>
    intro k hk
    cases k with
    | zero =>
      refine ⟨?_, ?_, ?_, ?_⟩
      · intro nest body r p h; simp only [Rd.rows] at h; cases h
      · intro nest r p h; simp only [Rd.stmt] at h; cases h
      · intro nest r p h; simp only [Rd.block] at h; cases h
      · intro nest r p h; simp only [Rd.choice] at h; cases h
    | succ k =>
      obtain ⟨h1, h2, h3, h4⟩ := ih k (by omega)
      exact ⟨rows_step fun j hj => (ih j (by omega)).2.1, stmt_step h3 h4, block_step h1, choice_step h3⟩

theorem rows_s {m n : Nat} {nest : Int} {body : Bool} {r : Rd} {p : (List Sm × List Str) × Rd} (h : Rd.rows m n nest body r = some p) {s : St} {o : Nat} (ho : s.objs[o]? = some (encRd r)) :
    Fun Try.prog n_parse_reader_rows [.ptr o 0, .int .i64 nest, .bool body] s (.tuple [.slice .shared 13 (p.1.1.map encSm), .slice .shared 1 (p.1.2.map encStr)]) ⟨s.objs.set o (encRd p.2), s.toks⟩ :=
  (allR_s m (n + 1) n (Nat.lt_succ_self _)).1 h ho

end Go.Abs
