/-
  What is proved here: part 2 of the road to the claim (Codes2, Have2, Codes3, Have3, Prs, Prs2, Ref1, Ref2, Ref3, MirTree, MirEq, RefEq, RefEq2, Prs3, Prs4, Prs5, Prs6, MirLex, Lex1).
  No conditions.
-/
import Derived.Test.YtecpopiacpckiaaPxI1
import Derived.Test.YtecpopiacpckiaaProg
import Derived.KernelRfl

/-! Codes2 -/

namespace Go.Abs

abbrev QI9 : AC := .run [(.op (some 2) none (.mv (.k (.bool false))))]
abbrev QIA : AC := .run [(.op (some 3) none (.mv (.s 0)))]
abbrev QIB : AC := .run [(.op (some 5) none (.bin .eql (.s 3) (.k (.str [103, 108, 111, 98, 97, 108])))), (.op (some 4) none (.mv (.s 5)))]
abbrev QIC : AC := .run [(.op (some 6) none (.bin .eql (.s 3) (.k (.str [112, 114, 111, 99])))), (.op (some 4) none (.mv (.s 6)))]
abbrev QID : AC := .run [(.op (some 7) none (.bin .eql (.s 3) (.k (.str [118, 97, 114])))), (.op (some 4) none (.mv (.s 7)))]
abbrev QIE : AC := .run [(.op (some 8) none (.bin .eql (.s 3) (.k (.str [114, 101, 102])))), (.op (some 4) none (.mv (.s 8)))]
abbrev QIF : AC := .run [(.op (some 9) none (.bin .eql (.s 3) (.k (.str [105, 102])))), (.op (some 4) none (.mv (.s 9)))]
abbrev QIG : AC := .run [(.op (some 10) none (.bin .eql (.s 3) (.k (.str [101, 108, 115, 101])))), (.op (some 4) none (.mv (.s 10)))]
abbrev QIH : AC := .run [(.op (some 11) none (.bin .eql (.s 3) (.k (.str [119, 104, 105, 108, 101])))), (.op (some 4) none (.mv (.s 11)))]
abbrev QII : AC := .run [(.op (some 12) none (.bin .eql (.s 3) (.k (.str [98, 114, 101, 97, 107])))), (.op (some 4) none (.mv (.s 12)))]
abbrev QIJ : AC := .run [(.op (some 13) none (.bin .eql (.s 3) (.k (.str [99, 111, 110, 116, 105, 110, 117, 101])))), (.op (some 4) none (.mv (.s 13)))]
abbrev QIK : AC := .run [(.op (some 14) none (.bin .eql (.s 3) (.k (.str [114, 101, 116, 117, 114, 110])))), (.op (some 4) none (.mv (.s 14)))]
abbrev QIL : AC := .run [(.op (some 15) none (.bin .eql (.s 3) (.k (.str [103, 111, 116, 111])))), (.op (some 4) none (.mv (.s 15)))]
abbrev QIM : AC := .run [(.op (some 16) none (.bin .eql (.s 3) (.k (.str [114, 101, 97, 100])))), (.op (some 4) none (.mv (.s 16)))]
abbrev QIN : AC := .run [(.op (some 17) none (.bin .eql (.s 3) (.k (.str [112, 114, 105, 110, 116])))), (.op (some 4) none (.mv (.s 17)))]
abbrev QIO : AC := .cond (.s 4) .skip QIN
abbrev QIP : AC := .seq QIM QIO
abbrev QIQ : AC := .cond (.s 4) .skip QIP
abbrev QIR : AC := .seq QIL QIQ
abbrev QIS : AC := .cond (.s 4) .skip QIR
abbrev QIT : AC := .seq QIK QIS
abbrev QIU : AC := .cond (.s 4) .skip QIT
abbrev QIV : AC := .seq QIJ QIU
abbrev QIW : AC := .cond (.s 4) .skip QIV
abbrev QIX : AC := .seq QII QIW
abbrev QIY : AC := .cond (.s 4) .skip QIX
abbrev QIZ : AC := .seq QIH QIY
abbrev QJ0 : AC := .cond (.s 4) .skip QIZ
abbrev QJ1 : AC := .seq QIG QJ0
abbrev QJ2 : AC := .cond (.s 4) .skip QJ1
abbrev QJ3 : AC := .seq QIF QJ2
abbrev QJ4 : AC := .cond (.s 4) .skip QJ3
abbrev QJ5 : AC := .seq QIE QJ4
abbrev QJ6 : AC := .cond (.s 4) .skip QJ5
abbrev QJ7 : AC := .seq QID QJ6
abbrev QJ8 : AC := .cond (.s 4) .skip QJ7
abbrev QJ9 : AC := .seq QIC QJ8
abbrev QJA : AC := .cond (.s 4) .skip QJ9
abbrev QJB : AC := .seq QIB QJA
abbrev QJC : AC := .run [(.op (some 2) none (.mv (.k (.bool true))))]
abbrev QJD : AC := .seq QJC .ret
abbrev QJE : AC := .cond (.s 4) QJD .skip
abbrev QJF : AC := .seq QJB QJE
abbrev QJG : AC := .block 0 QJF
abbrev QJH : AC := .seq QIA QJG
abbrev QJI : AC := .run [(.op (some 2) none (.mv (.k (.bool false))))]
abbrev QJJ : AC := .seq QJI .ret
abbrev QJK : AC := .seq QJH QJJ
abbrev QJL : AC := .seq QI9 QJK
abbrev QJM : AC := .run [(.op (some 2) none (.mv (.k (.int .i64 0)))), (.op (some 3) none (.mv (.k (.bool false))))]
abbrev QJN : AC := .run [(.op (some 4) none (.mv (.k (.int .i64 0))))]
abbrev QJO : AC := .run [(.op (some 5) none (.mv (.k (.int .i64 0))))]
abbrev QJP : AC := .run [(.op (some 7) none (.mv (.s 5))), (.op (some 8) none (.mv (.s 0))), (.op (some 9) none (.slen (.s 8))), (.op (some 10) none (.bin .lss (.s 7) (.s 9)))]
abbrev QJQ : AC := .cond (.s 10) .skip (.exit 0)
abbrev QJR : AC := .seq QJP QJQ
abbrev QJS : AC := .run [(.op (some 13) none (.mv (.s 0))), (.op (some 14) none (.mv (.s 5))), (.op (some 15) none (.sidx (.s 13) (.s 14))), (.op (some 16) none (.bin .sub (.s 15) (.k (.int .u8 48)))), (.op (some 17) none (.conv .i64 (.s 16))), (.op (some 6) none (.mv (.s 17)))]
abbrev QJT : AC := .run [(.op (some 18) none (.mv (.s 4))), (.op (some 19) none (.mv (.s 6))), (.op (some 20) none (.bin .sub (.k (.int .i64 9223372036854775807)) (.s 19))), (.op (some 21) none (.bin .quo (.s 20) (.k (.int .i64 10)))), (.op (some 22) none (.bin .gtr (.s 18) (.s 21)))]
abbrev QJU : AC := .run [(.op (some 2) none (.mv (.k (.int .i64 0)))), (.op (some 3) none (.mv (.k (.bool false))))]
abbrev QJV : AC := .seq QJU .ret
abbrev QJW : AC := .cond (.s 22) QJV .skip
abbrev QJX : AC := .seq QJT QJW
abbrev QJY : AC := .run [(.op (some 23) none (.mv (.s 4))), (.op (some 24) none (.bin .mul (.s 23) (.k (.int .i64 10)))), (.op (some 25) none (.mv (.s 6))), (.op (some 26) none (.bin .add (.s 24) (.s 25))), (.op (some 4) none (.mv (.s 26)))]
abbrev QJZ : AC := .seq QJX QJY
abbrev QK0 : AC := .seq QJS QJZ
abbrev QK1 : AC := .block 1 QK0
abbrev QK2 : AC := .run [(.op (some 11) none (.mv (.s 5))), (.op (some 12) none (.bin .add (.s 11) (.k (.int .i64 1)))), (.op (some 5) none (.mv (.s 12)))]
abbrev QK3 : AC := .seq QK1 QK2
abbrev QK4 : AC := .seq QJR QK3
abbrev QK5 : AC := .loop QK4
abbrev QK6 : AC := .block 0 QK5
abbrev QK7 : AC := .seq QJO QK6
abbrev QK8 : AC := .run [(.op (some 27) none (.mv (.s 4))), (.op (some 2) none (.mv (.s 27))), (.op (some 3) none (.mv (.k (.bool true))))]
abbrev QK9 : AC := .seq QK8 .ret
abbrev QKA : AC := .seq QK7 QK9
abbrev QKB : AC := .seq QJN QKA
abbrev QKC : AC := .seq QJM QKB
abbrev QKD : AC := .run [(.op (some 2) none (.mv (.k (.str []))))]
abbrev QKE : AC := .run [(.op (some 3) none (.bslice [(.str [])] 1 13 [(0, (.k (.str [42]))), (1, (.k (.str [47]))), (2, (.k (.str [37]))), (3, (.k (.str [43]))), (4, (.k (.str [45]))), (5, (.k (.str [60]))), (6, (.k (.str [60, 61]))), (7, (.k (.str [62]))), (8, (.k (.str [62, 61]))), (9, (.k (.str [61, 61]))), (10, (.k (.str [33, 61]))), (11, (.k (.str [38, 38]))), (12, (.k (.str [124, 124])))])), (.op (some 4) none (.mv (.s 0))), (.op (some 5) none (.bin .sub (.s 4) (.k (.int .i64 5)))), (.op (some 6) none (.iaddr (.s 3) (.s 5) 1)), (.op (some 7) none (.load (.s 6) false 1)), (.op (some 2) none (.mv (.s 7)))]
abbrev QKF : AC := .seq QKE .ret
abbrev QKG : AC := .seq QKD QKF
abbrev QKH : AC := .run [(.op (some 2) none (.alloc [(.int .i64 0), (.int .i64 0), (.str []), (.slice .full 0 [])]))]
abbrev QKI : AC := .run [(.op (some 3) none (.mv (.s 0))), (.op (some 4) none (.build [(.int .i64 0), (.int .i64 0), (.str []), (.slice .full 0 [])] [(0, (1, (.k (.int .i64 2)))), (2, (1, (.s 3)))])), (.op none none (.store (.s 2) (.s 4) 4))]
abbrev QKJ : AC := .seq QKI .ret
abbrev QKK : AC := .seq QKH QKJ
abbrev QKL : AC := .run [(.op (some 2) none (.mv (.k (.int .i64 0)))), (.op (some 3) none (.mv (.k (.int .i64 0))))]
abbrev QKM : AC := .run [(.op (some 8) none (.bslice [(.str [])] 1 13 [(0, (.k (.str [42]))), (1, (.k (.str [47]))), (2, (.k (.str [37]))), (3, (.k (.str [43]))), (4, (.k (.str [45]))), (5, (.k (.str [60]))), (6, (.k (.str [60, 61]))), (7, (.k (.str [62]))), (8, (.k (.str [62, 61]))), (9, (.k (.str [61, 61]))), (10, (.k (.str [33, 61]))), (11, (.k (.str [38, 38]))), (12, (.k (.str [124, 124])))])), (.op (some 4) none (.mv (.s 8)))]
abbrev QKN : AC := .run [(.op (some 9) none (.bslice [(.int .i64 0)] 1 13 [(0, (.k (.int .i64 6))), (1, (.k (.int .i64 6))), (2, (.k (.int .i64 6))), (3, (.k (.int .i64 5))), (4, (.k (.int .i64 5))), (5, (.k (.int .i64 4))), (6, (.k (.int .i64 4))), (7, (.k (.int .i64 4))), (8, (.k (.int .i64 4))), (9, (.k (.int .i64 3))), (10, (.k (.int .i64 3))), (11, (.k (.int .i64 2))), (12, (.k (.int .i64 1)))])), (.op (some 5) none (.mv (.s 9)))]
abbrev QKO : AC := .run [(.op (some 10) none (.mv (.s 4))), (.op (some 11) none (.len (.s 10))), (.op (some 12) none (.mv (.k (.int .i64 0))))]
abbrev QKP : AC := .run [(.op (some 13) none (.bin .lss (.s 12) (.s 11)))]
abbrev QKQ : AC := .cond (.s 13) .skip (.exit 0)
abbrev QKR : AC := .run [(.op (some 14) none (.mv (.s 12))), (.op (some 15) none (.iaddr (.s 10) (.s 12) 1)), (.op (some 16) none (.load (.s 15) false 1)), (.op (some 6) none (.mv (.s 14))), (.op (some 7) none (.mv (.s 16)))]
abbrev QKS : AC := .run [(.op (some 17) none (.mv (.s 7))), (.op (some 18) none (.mv (.s 0))), (.op (some 19) none (.bin .eql (.s 17) (.s 18)))]
abbrev QKT : AC := .run [(.op (some 20) none (.mv (.s 5))), (.op (some 21) none (.mv (.s 6))), (.op (some 22) none (.iaddr (.s 20) (.s 21) 1)), (.op (some 23) none (.load (.s 22) false 1)), (.op (some 24) none (.mv (.s 6))), (.op (some 25) none (.bin .add (.k (.int .i64 5)) (.s 24))), (.op (some 2) none (.mv (.s 23))), (.op (some 3) none (.mv (.s 25)))]
abbrev QKU : AC := .seq QKT .ret
abbrev QKV : AC := .cond (.s 19) QKU .skip
abbrev QKW : AC := .seq QKS QKV
abbrev QKX : AC := .seq QKR QKW
abbrev QKY : AC := .block 1 QKX
abbrev QKZ : AC := .run [(.op (some 26) none (.bin .add (.s 12) (.k (.int .i64 1)))), (.op (some 12) none (.mv (.s 26)))]
abbrev QL0 : AC := .seq QKY QKZ
abbrev QL1 : AC := .seq QKQ QL0
abbrev QL2 : AC := .seq QKP QL1
abbrev QL3 : AC := .loop QL2
abbrev QL4 : AC := .block 0 QL3
abbrev QL5 : AC := .seq QKO QL4
abbrev QL6 : AC := .run [(.op (some 2) none (.mv (.k (.int .i64 0)))), (.op (some 3) none (.mv (.k (.int .i64 0))))]
abbrev QL7 : AC := .seq QL6 .ret
abbrev QL8 : AC := .seq QL5 QL7
abbrev QL9 : AC := .seq QKN QL8
abbrev QLA : AC := .seq QKM QL9
abbrev QLB : AC := .seq QKL QLA
abbrev QLC : AC := .run [(.op (some 4) none (.box (.s 1))), (.op (some 5) none (.box (.s 2))), (.op (some 6) none (.alloc [(.int .i64 0), (.int .i64 0), (.str []), (.slice .full 0 [])]))]
abbrev QLD : AC := .run [(.op (some 7) none (.mv (.s 0))), (.op (some 8) none (.load (.s 4) true 4)), (.op (some 9) none (.load (.s 5) true 4)), (.op (some 10) none (.bslice [(.int .i64 0), (.int .i64 0), (.str []), (.slice .full 0 [])] 4 2 [(0, (.s 8)), (1, (.s 9))])), (.op (some 11) none (.build [(.int .i64 0), (.int .i64 0), (.str []), (.slice .full 0 [])] [(0, (1, (.s 7))), (3, (1, (.s 10)))])), (.op none none (.store (.s 6) (.s 11) 4))]
abbrev QLE : AC := .seq QLD .ret
abbrev QLF : AC := .seq QLC QLE
abbrev QLG : AC := .run [(.op (some 2) none (.alloc [(.int .i64 0), (.int .i64 0), (.str []), (.slice .full 0 [])]))]
abbrev QLH : AC := .run [(.op (some 3) none (.mv (.s 0))), (.op (some 4) none (.build [(.int .i64 0), (.int .i64 0), (.str []), (.slice .full 0 [])] [(0, (1, (.k (.int .i64 1)))), (1, (1, (.s 3)))])), (.op none none (.store (.s 2) (.s 4) 4))]
abbrev QLI : AC := .seq QLH .ret
abbrev QLJ : AC := .seq QLG QLI
abbrev QLK : AC := .run [(.op (some 4) none (.mv (.k (.bool false))))]
abbrev QLL : AC := .run [(.op (some 5) none (.mv (.s 0))), (.call (some 6) none n_parse_reader_good [(.s 5)]), (.op (some 7) none (.un .not (.s 6))), (.op (some 8) none (.mv (.s 7))), (.op (some 9) (some (8, false)) (.mv (.s 0))), (.op (some 10) (some (8, false)) (.mv (.s 1))), (.call (some 11) (some (8, false)) n_parse_reader_is [(.s 9), (.s 10)]), (.op (some 12) (some (8, false)) (.un .not (.s 11))), (.op (some 13) none (.pick (.s 8) (.k (.bool true)) (.s 12)))]
abbrev QLM : AC := .run [(.op (some 4) none (.mv (.k (.bool false))))]
abbrev QLN : AC := .seq QLM .ret
abbrev QLO : AC := .cond (.s 13) QLN .skip
abbrev QLP : AC := .seq QLL QLO
abbrev QLQ : AC := .run [(.op (some 14) none (.mv (.s 0))), (.op (some 15) none (.nilck (.s 14))), (.op (some 16) none (.faddr (.s 15) 1)), (.op (some 17) none (.load (.s 16) false 1)), (.op (some 18) none (.bin .add (.s 17) (.k (.int .i64 1)))), (.op (some 19) none (.nilck (.s 14))), (.op (some 20) none (.faddr (.s 19) 1)), (.op none none (.store (.s 20) (.s 18) 1))]
abbrev QLR : AC := .run [(.op (some 4) none (.mv (.k (.bool true))))]
abbrev QLS : AC := .seq QLR .ret
abbrev QLT : AC := .seq QLQ QLS
abbrev QLU : AC := .seq QLP QLT
abbrev QLV : AC := .seq QLK QLU
abbrev QLW : AC := .run [(.op (some 6) none (.mv (.k (.slice .full 0 []))))]
abbrev QLX : AC := .run [(.op (some 7) none (.mv (.s 0))), (.call (some 8) none n_parse_reader_good [(.s 7)])]
abbrev QLY : AC := .cond (.s 8) .skip (.exit 0)
abbrev QLZ : AC := .seq QLX QLY
abbrev QM0 : AC := .run [(.op (some 9) none (.mv (.s 1))), (.op (some 10) none (.mv (.s 0))), (.op (some 11) none (.mv (.s 1))), (.op (some 12) none (.len (.s 11))), (.op (some 13) none (.mv (.s 2))), (.op (some 14) none (.bin .lss (.s 12) (.s 13))), (.call (some 15) none n_parse_reader_name [(.s 10), (.s 14)]), (.op (some 16) none (.bslice [(.str [])] 1 1 [(0, (.s 15))])), (.op (some 17) none (.app 1 16 (.s 9) (.s 16))), (.op (some 1) none (.mv (.s 17)))]
abbrev QM1 : AC := .run [(.op (some 18) none (.mv (.s 0))), (.call (some 19) none n_parse_reader_take [(.s 18), (.k (.str [44]))]), (.op (some 20) none (.un .not (.s 19)))]
abbrev QM2 : AC := .run [(.op (some 21) none (.mv (.s 0))), (.call (some 22) none n_parse_reader_want [(.s 21), (.k (.str [59]))])]
abbrev QM3 : AC := .run [(.op (some 23) none (.mv (.s 1))), (.op (some 6) none (.mv (.s 23)))]
abbrev QM4 : AC := .seq QM3 .ret
abbrev QM5 : AC := .seq QM2 QM4
abbrev QM6 : AC := .cond (.s 20) QM5 .skip
abbrev QM7 : AC := .seq QM1 QM6
abbrev QM8 : AC := .seq QM0 QM7
abbrev QM9 : AC := .block 1 QM8
abbrev QMA : AC := .seq QLZ QM9
abbrev QMB : AC := .loop QMA
abbrev QMC : AC := .block 0 QMB
abbrev QMD : AC := .run [(.op (some 24) none (.mv (.s 1))), (.op (some 6) none (.mv (.s 24)))]
abbrev QME : AC := .seq QMD .ret
abbrev QMF : AC := .seq QMC QME
abbrev QMG : AC := .seq QLW QMF
abbrev QMH : AC := .run [(.op (some 4) none (.mv (.k (.bool false))))]
abbrev QMI : AC := .run [(.op (some 6) none (.mv (.s 0))), (.call (some 7) none n_parse_reader_peek [(.s 6)]), (.op (some 5) none (.alloc [(.int .i64 0), (.str []), (.int .i64 0), (.int .i64 0)])), (.op none none (.store (.s 5) (.s 7) 4))]
abbrev QMJ : AC := .run [(.op (some 8) none (.faddr (.s 5) 0)), (.op (some 9) none (.load (.s 8) false 1)), (.op (some 10) none (.bin .eql (.s 9) (.k (.int .i64 3)))), (.op (some 11) none (.mv (.s 10))), (.op (some 12) (some (11, false)) (.faddr (.s 5) 0)), (.op (some 13) (some (11, false)) (.load (.s 12) false 1)), (.op (some 14) (some (11, false)) (.bin .eql (.s 13) (.k (.int .i64 4)))), (.op (some 15) none (.pick (.s 11) (.k (.bool true)) (.s 14))), (.op (some 16) none (.mv (.s 15))), (.op (some 17) (some (16, true)) (.faddr (.s 5) 1)), (.op (some 18) (some (16, true)) (.load (.s 17) false 1)), (.op (some 19) (some (16, true)) (.mv (.s 1))), (.op (some 20) (some (16, true)) (.bin .eql (.s 18) (.s 19))), (.op (some 21) none (.pick (.s 16) (.s 20) (.k (.bool false)))), (.op (some 4) none (.mv (.s 21)))]
abbrev QMK : AC := .seq QMJ .ret
abbrev QML : AC := .seq QMI QMK
abbrev QMM : AC := .seq QMH QML
abbrev QMN : AC := .run [(.op (some 2) none (.alloc [(.str []), (.slice .full 0 []), (.slice .full 0 []), (.slice .full 0 []), (.slice .full 0 [])]))]
abbrev QMO : AC := .run [(.op (some 5) none (.mv (.s 0))), (.call (some 6) none n_parse_reader_name [(.s 5), (.k (.bool true))]), (.op (some 7) none (.build [(.str []), (.slice .full 0 []), (.slice .full 0 []), (.slice .full 0 []), (.slice .full 0 [])] [(0, (1, (.s 6)))])), (.op (some 3) none (.alloc [(.str []), (.slice .full 0 []), (.slice .full 0 []), (.slice .full 0 []), (.slice .full 0 [])])), (.op none none (.store (.s 3) (.s 7) 5))]
abbrev QMP : AC := .run [(.op (some 8) none (.mv (.s 0))), (.call (some 9) none n_parse_reader_want [(.s 8), (.k (.str [40]))])]
abbrev QMQ : AC := .run [(.op (some 10) none (.mv (.s 0))), (.call (some 11) none n_parse_reader_good [(.s 10)]), (.op (some 12) none (.mv (.s 11))), (.op (some 13) (some (12, true)) (.mv (.s 0))), (.call (some 14) (some (12, true)) n_parse_reader_is [(.s 13), (.k (.str [41]))]), (.op (some 15) (some (12, true)) (.un .not (.s 14))), (.op (some 16) none (.pick (.s 12) (.s 15) (.k (.bool false))))]
abbrev QMR : AC := .run [(.op (some 17) none (.mv (.s 0))), (.call (some 18) none n_parse_reader_good [(.s 17)])]
abbrev QMS : AC := .cond (.s 18) .skip (.exit 0)
abbrev QMT : AC := .seq QMR QMS
abbrev QMU : AC := .run [(.op (some 19) none (.mv (.s 0))), (.call (some 20) none n_parse_reader_take [(.s 19), (.k (.str [114, 101, 102]))]), (.op (some 4) none (.mv (.s 20)))]
abbrev QMV : AC := .par [(.op (some 21) none (.faddr (.s 3) 1)), (.op (some 22) none (.load (.s 21) false 1)), (.op (some 23) none (.mv (.s 0))), (.op (some 24) none (.faddr (.s 3) 1)), (.op (some 25) none (.load (.s 24) false 1)), (.op (some 26) none (.len (.s 25))), (.op (some 27) none (.bin .lss (.s 26) (.k (.int .i64 8)))), (.call (some 28) none n_parse_reader_name [(.s 23), (.s 27)]), (.op (some 29) none (.mv (.s 4))), (.op (some 30) none (.build [(.str []), (.bool false)] [(0, (1, (.s 28))), (1, (1, (.s 29)))])), (.op (some 31) none (.bslice [(.str []), (.bool false)] 2 1 [(0, (.s 30))])), (.op (some 32) none (.app 2 24 (.s 22) (.s 31))), (.op (some 33) none (.faddr (.s 3) 1)), (.op none none (.store (.s 33) (.s 32) 1))] [(2, 0), (3, 0), (4, 0), (5, 0), (6, 0), (7, 0), (0, 0), (1, 1), (8, 0), (9, 0), (10, 0), (11, 0), (12, 0), (13, 0)]
abbrev QMW : AC := .run [(.op (some 34) none (.mv (.s 0))), (.call (some 35) none n_parse_reader_take [(.s 34), (.k (.str [44]))]), (.op (some 36) none (.un .not (.s 35)))]
abbrev QMX : AC := .cond (.s 36) (.exit 0) .skip
abbrev QMY : AC := .seq QMW QMX
abbrev QMZ : AC := .seq QMV QMY
abbrev QN0 : AC := .seq QMU QMZ
abbrev QN1 : AC := .block 1 QN0
abbrev QN2 : AC := .seq QMT QN1
abbrev QN3 : AC := .loop QN2
abbrev QN4 : AC := .block 0 QN3
abbrev QN5 : AC := .cond (.s 16) QN4 .skip
abbrev QN6 : AC := .seq QMQ QN5
abbrev QN7 : AC := .run [(.op (some 37) none (.mv (.s 0))), (.call (some 38) none n_parse_reader_want [(.s 37), (.k (.str [41]))])]
abbrev QN8 : AC := .run [(.op (some 39) none (.mv (.s 0))), (.call (some 40) none n_parse_reader_want [(.s 39), (.k (.str [123]))])]
abbrev QN9 : AC := .run [(.op (some 41) none (.mv (.s 0))), (.call (some 42) none n_parse_reader_take [(.s 41), (.k (.str [118, 97, 114]))])]
abbrev QNA : AC := .cond (.s 42) .skip (.exit 2)
abbrev QNB : AC := .seq QN9 QNA
abbrev QNC : AC := .run [(.op (some 43) none (.mv (.s 0))), (.op (some 44) none (.faddr (.s 3) 2)), (.op (some 45) none (.load (.s 44) false 1)), (.call (some 46) none n_parse_reader_names [(.s 43), (.s 45), (.k (.int .i64 16))]), (.op (some 47) none (.faddr (.s 3) 2)), (.op none none (.store (.s 47) (.s 46) 1))]
abbrev QND : AC := .block 3 QNC
abbrev QNE : AC := .seq QNB QND
abbrev QNF : AC := .loop QNE
abbrev QNG : AC := .block 2 QNF
abbrev QNH : AC := .run [(.op (some 49) none (.mv (.s 0))), (.call (some 50) none n_parse_reader_rows [(.s 49), (.k (.int .i64 1)), (.k (.bool true))]), (.op (some 48) none (.mv (.s 50))), (.op (some 51) none (.ext (.s 48) 0)), (.op (some 52) none (.ext (.s 48) 1)), (.op (some 53) none (.faddr (.s 3) 3)), (.op none none (.store (.s 53) (.s 51) 1)), (.op (some 54) none (.faddr (.s 3) 4)), (.op none none (.store (.s 54) (.s 52) 1))]
abbrev QNI : AC := .run [(.op (some 55) none (.load (.s 3) true 5)), (.op none none (.store (.s 2) (.s 55) 5))]
abbrev QNJ : AC := .seq QNI .ret
abbrev QNK : AC := .seq QNH QNJ
abbrev QNL : AC := .seq QNG QNK
abbrev QNM : AC := .seq QN8 QNL
abbrev QNN : AC := .seq QN7 QNM
abbrev QNO : AC := .seq QN6 QNN
abbrev QNP : AC := .seq QMP QNO
abbrev QNQ : AC := .seq QMO QNP
abbrev QNR : AC := .seq QMN QNQ
abbrev QNS : AC := .run [(.op (some 2) none (.mv (.k (.slice .full 0 []))))]
abbrev QNT : AC := .run [(.op (some 3) none (.mv (.s 0))), (.nil (some 4) none false (.s 3))]
abbrev QNU : AC := .run [(.op (some 2) none (.mv (.k (.slice .full 0 []))))]
abbrev QNV : AC := .seq QNU .ret
abbrev QNW : AC := .cond (.s 4) QNV .skip
abbrev QNX : AC := .seq QNT QNW
abbrev QNY : AC := .run [(.op (some 5) none (.bslice [(.str [])] 1 0 [])), (.op (some 6) none (.mv (.s 0))), (.op (some 7) none (.app 1 16 (.s 5) (.s 6))), (.op (some 2) none (.mv (.s 7)))]
abbrev QNZ : AC := .seq QNY .ret
abbrev QO0 : AC := .seq QNX QNZ
abbrev QO1 : AC := .seq QNS QO0
abbrev QO2 : AC := .run [(.op (some 2) none (.mv (.k (.slice .full 0 []))))]
abbrev QO3 : AC := .run [(.op (some 3) none (.mv (.s 0))), (.nil (some 4) none false (.s 3))]
abbrev QO4 : AC := .run [(.op (some 2) none (.mv (.k (.slice .full 0 []))))]
abbrev QO5 : AC := .seq QO4 .ret
abbrev QO6 : AC := .cond (.s 4) QO5 .skip
abbrev QO7 : AC := .seq QO3 QO6
abbrev QO8 : AC := .run [(.op (some 5) none (.bslice [(.str []), (.bool false)] 2 0 [])), (.op (some 6) none (.mv (.s 0))), (.op (some 7) none (.app 2 24 (.s 5) (.s 6))), (.op (some 2) none (.mv (.s 7)))]
abbrev QO9 : AC := .seq QO8 .ret
abbrev QOA : AC := .seq QO7 QO9
abbrev QOB : AC := .seq QO2 QOA
abbrev QOC : AC := .run [(.op (some 6) none (.mv (.k (.slice .full 0 [])))), (.op (some 7) none (.mv (.k (.int .i64 0))))]
abbrev QOD : AC := .run [(.op (some 8) none (.mv (.k (.slice .full 0 []))))]
abbrev QOE : AC := .run [(.op (some 14) none (.mv (.s 0))), (.op (some 15) none (.len (.s 14))), (.op (some 16) none (.mv (.k (.int .i64 0))))]
abbrev QOF : AC := .run [(.op (some 17) none (.bin .lss (.s 16) (.s 15)))]
abbrev QOG : AC := .cond (.s 17) .skip (.exit 0)
abbrev QOH : AC := .run [(.op (some 18) none (.iaddr (.s 14) (.s 16) 13)), (.op (some 19) none (.load (.s 18) true 13)), (.op (some 10) none (.alloc [(.int .i64 0), (.int .i64 0), (.slice .full 0 []), (.str []), (.str []), (.int .i64 0), (.int .i64 0), (.str []), (.slice .full 0 []), (.bool false), (.slice .full 0 []), (.slice .full 0 []), (.slice .full 0 [])])), (.op none none (.store (.s 10) (.s 19) 13))]
abbrev QOI : AC := .run [(.op (some 20) none (.mv (.s 1))), (.op (some 21) none (.bin .add (.s 20) (.k (.int .i64 1)))), (.op (some 1) none (.mv (.s 21)))]
abbrev QOJ : AC := .run [(.op (some 22) none (.load (.s 10) true 13)), (.op (some 11) none (.alloc [(.int .i64 0), (.int .i64 0), (.slice .full 0 []), (.str []), (.str []), (.int .i64 0), (.int .i64 0), (.str []), (.slice .full 0 []), (.bool false), (.slice .full 0 []), (.slice .full 0 []), (.slice .full 0 [])])), (.op none none (.store (.s 11) (.s 22) 13))]
abbrev QOK : AC := .run [(.op (some 23) none (.mv (.s 2)))]
abbrev QOL : AC := .run [(.op (some 24) none (.mv (.s 1))), (.op (some 25) none (.faddr (.s 11) 0)), (.op none none (.store (.s 25) (.s 24) 1))]
abbrev QOM : AC := .cond (.s 23) QOL .skip
abbrev QON : AC := .seq QOK QOM
abbrev QOO : AC := .par [(.op (some 26) none (.faddr (.s 10) 2)), (.op (some 27) none (.load (.s 26) false 1)), (.call (some 28) none n_slices_Clone_string [(.s 27)]), (.op (some 29) none (.faddr (.s 10) 5)), (.op (some 30) none (.load (.s 29) true 4)), (.call (some 31) none n_tree_expr [(.s 30)]), (.op (some 32) none (.faddr (.s 11) 2)), (.op none none (.store (.s 32) (.s 28) 1)), (.op (some 33) none (.faddr (.s 11) 5)), (.op none none (.store (.s 33) (.s 31) 4)), (.op (some 34) none (.faddr (.s 11) 10)), (.op none none (.store (.s 34) (.k (.slice .full 0 [])) 1))] [(0, 0), (1, 0), (2, 0), (3, 0), (4, 1), (5, 0), (6, 0), (7, 0), (8, 0), (9, 0), (10, 0), (11, 0)]
abbrev QOP : AC := .run [(.op (some 35) none (.faddr (.s 10) 10)), (.op (some 36) none (.load (.s 35) false 1)), (.op (some 37) none (.len (.s 36))), (.op (some 38) none (.mv (.k (.int .i64 0))))]
abbrev QOQ : AC := .run [(.op (some 39) none (.bin .lss (.s 38) (.s 37)))]
abbrev QOR : AC := .cond (.s 39) .skip (.exit 2)
abbrev QOS : AC := .run [(.op (some 40) none (.iaddr (.s 36) (.s 38) 6)), (.op (some 41) none (.load (.s 40) true 6)), (.op (some 13) none (.alloc [(.bool false), (.str []), (.int .i64 0), (.int .i64 0), (.str []), (.slice .full 0 [])])), (.op none none (.store (.s 13) (.s 41) 6))]
abbrev QOT : AC := .run [(.op (some 42) none (.faddr (.s 13) 2)), (.op (some 43) none (.load (.s 42) true 4)), (.call (some 44) none n_tree_expr [(.s 43)]), (.op (some 45) none (.faddr (.s 13) 2)), (.op none none (.store (.s 45) (.s 44) 4))]
abbrev QOU : AC := .run [(.op (some 46) none (.faddr (.s 11) 10)), (.op (some 47) none (.load (.s 46) false 1)), (.op (some 48) none (.load (.s 13) true 6)), (.op (some 49) none (.bslice [(.bool false), (.str []), (.int .i64 0), (.int .i64 0), (.str []), (.slice .full 0 [])] 6 1 [(0, (.s 48))])), (.op (some 50) none (.app 6 80 (.s 47) (.s 49))), (.op (some 51) none (.faddr (.s 11) 10)), (.op none none (.store (.s 51) (.s 50) 1))]
abbrev QOV : AC := .seq QOT QOU
abbrev QOW : AC := .seq QOS QOV
abbrev QOX : AC := .block 3 QOW
abbrev QOY : AC := .run [(.op (some 52) none (.bin .add (.s 38) (.k (.int .i64 1)))), (.op (some 38) none (.mv (.s 52)))]
abbrev QOZ : AC := .seq QOX QOY
abbrev QP0 : AC := .seq QOR QOZ
abbrev QP1 : AC := .seq QOQ QP0
abbrev QP2 : AC := .loop QP1
abbrev QP3 : AC := .block 2 QP2
abbrev QP4 : AC := .seq QOP QP3
abbrev QP5 : AC := .run [(.op (some 54) none (.faddr (.s 10) 11)), (.op (some 55) none (.load (.s 54) false 1)), (.op (some 56) none (.mv (.s 1))), (.op (some 57) none (.mv (.s 2))), (.call (some 58) none n_tree_copied [(.s 55), (.s 56), (.s 57)]), (.op (some 53) none (.mv (.s 58))), (.op (some 59) none (.ext (.s 53) 0)), (.op (some 60) none (.ext (.s 53) 1)), (.op (some 61) none (.faddr (.s 11) 11)), (.op none none (.store (.s 61) (.s 59) 1)), (.op (some 1) none (.mv (.s 60)))]
abbrev QP6 : AC := .run [(.op (some 63) none (.faddr (.s 10) 12)), (.op (some 64) none (.load (.s 63) false 1)), (.op (some 65) none (.mv (.s 1))), (.op (some 66) none (.mv (.s 2))), (.call (some 67) none n_tree_copied [(.s 64), (.s 65), (.s 66)]), (.op (some 62) none (.mv (.s 67))), (.op (some 68) none (.ext (.s 62) 0)), (.op (some 69) none (.ext (.s 62) 1)), (.op (some 70) none (.faddr (.s 11) 12)), (.op none none (.store (.s 70) (.s 68) 1)), (.op (some 1) none (.mv (.s 69)))]
abbrev QP7 : AC := .run [(.op (some 71) none (.mv (.s 8))), (.op (some 72) none (.load (.s 11) true 13)), (.op (some 73) none (.bslice [(.int .i64 0), (.int .i64 0), (.slice .full 0 []), (.str []), (.str []), (.int .i64 0), (.int .i64 0), (.str []), (.slice .full 0 []), (.bool false), (.slice .full 0 []), (.slice .full 0 []), (.slice .full 0 [])] 13 1 [(0, (.s 72))])), (.op (some 74) none (.app 13 208 (.s 71) (.s 73))), (.op (some 8) none (.mv (.s 74)))]
abbrev QP8 : AC := .seq QP6 QP7
abbrev QP9 : AC := .seq QP5 QP8
abbrev QPA : AC := .seq QP4 QP9
abbrev QPB : AC := .seq QOO QPA
abbrev QPC : AC := .seq QON QPB
abbrev QPD : AC := .seq QOJ QPC
abbrev QPE : AC := .seq QOI QPD
abbrev QPF : AC := .seq QOH QPE
abbrev QPG : AC := .block 1 QPF
abbrev QPH : AC := .run [(.op (some 75) none (.bin .add (.s 16) (.k (.int .i64 1)))), (.op (some 16) none (.mv (.s 75)))]
abbrev QPI : AC := .seq QPG QPH
abbrev QPJ : AC := .seq QOG QPI
abbrev QPK : AC := .seq QOF QPJ
abbrev QPL : AC := .loop QPK
abbrev QPM : AC := .block 0 QPL
abbrev QPN : AC := .seq QOE QPM
abbrev QPO : AC := .run [(.op (some 76) none (.mv (.s 8))), (.op (some 77) none (.mv (.s 1))), (.op (some 6) none (.mv (.s 76))), (.op (some 7) none (.mv (.s 77)))]
abbrev QPP : AC := .seq QPO .ret
abbrev QPQ : AC := .seq QPN QPP
abbrev QPR : AC := .seq QOD QPQ
abbrev QPS : AC := .seq QOC QPR
abbrev QPT : AC := .run [(.op (some 2) none (.box (.s 0))), (.op (some 3) none (.box (.s 1))), (.op (some 4) none (.mv (.k (.bool false))))]
abbrev QPU : AC := .run [(.op (some 6) none (.faddr (.s 2) 0)), (.op (some 7) none (.load (.s 6) false 1)), (.op (some 8) none (.faddr (.s 3) 0)), (.op (some 9) none (.load (.s 8) false 1)), (.op (some 10) none (.bin .neq (.s 7) (.s 9))), (.op (some 11) none (.mv (.s 10))), (.op (some 12) (some (11, false)) (.faddr (.s 2) 1)), (.op (some 13) (some (11, false)) (.load (.s 12) false 1)), (.op (some 14) (some (11, false)) (.faddr (.s 3) 1)), (.op (some 15) (some (11, false)) (.load (.s 14) false 1)), (.op (some 16) (some (11, false)) (.bin .neq (.s 13) (.s 15))), (.op (some 17) none (.pick (.s 11) (.k (.bool true)) (.s 16))), (.op (some 18) none (.mv (.s 17))), (.op (some 19) (some (18, false)) (.faddr (.s 2) 3)), (.op (some 20) (some (18, false)) (.load (.s 19) false 1)), (.op (some 21) (some (18, false)) (.faddr (.s 3) 3)), (.op (some 22) (some (18, false)) (.load (.s 21) false 1)), (.op (some 23) (some (18, false)) (.bin .neq (.s 20) (.s 22))), (.op (some 24) none (.pick (.s 18) (.k (.bool true)) (.s 23))), (.op (some 25) none (.mv (.s 24))), (.op (some 26) (some (25, false)) (.faddr (.s 2) 4)), (.op (some 27) (some (25, false)) (.load (.s 26) false 1)), (.op (some 28) (some (25, false)) (.faddr (.s 3) 4)), (.op (some 29) (some (25, false)) (.load (.s 28) false 1)), (.op (some 30) (some (25, false)) (.bin .neq (.s 27) (.s 29))), (.op (some 31) none (.pick (.s 25) (.k (.bool true)) (.s 30))), (.op (some 32) none (.mv (.s 31))), (.op (some 33) (some (32, false)) (.faddr (.s 2) 9)), (.op (some 34) (some (32, false)) (.load (.s 33) false 1)), (.op (some 35) (some (32, false)) (.faddr (.s 3) 9)), (.op (some 36) (some (32, false)) (.load (.s 35) false 1)), (.op (some 37) (some (32, false)) (.eqb true (.s 34) (.s 36))), (.op (some 38) none (.pick (.s 32) (.k (.bool true)) (.s 37))), (.op (some 39) none (.mv (.s 38))), (.op (some 40) (some (39, false)) (.faddr (.s 2) 2)), (.op (some 41) (some (39, false)) (.load (.s 40) false 1)), (.op (some 42) (some (39, false)) (.faddr (.s 3) 2)), (.op (some 43) (some (39, false)) (.load (.s 42) false 1)), (.call (some 44) (some (39, false)) n_ref3_EqTexts [(.s 41), (.s 43)]), (.op (some 45) (some (39, false)) (.un .not (.s 44))), (.op (some 46) none (.pick (.s 39) (.k (.bool true)) (.s 45))), (.op (some 47) none (.mv (.s 46))), (.op (some 48) (some (47, false)) (.faddr (.s 2) 5)), (.op (some 49) (some (47, false)) (.load (.s 48) true 4)), (.op (some 50) (some (47, false)) (.faddr (.s 3) 5)), (.op (some 51) (some (47, false)) (.load (.s 50) true 4)), (.call (some 52) (some (47, false)) n_ref3_EqExpr [(.s 49), (.s 51)]), (.op (some 53) (some (47, false)) (.un .not (.s 52))), (.op (some 54) none (.pick (.s 47) (.k (.bool true)) (.s 53))), (.op (some 55) none (.mv (.s 54))), (.op (some 56) (some (55, false)) (.faddr (.s 2) 10)), (.op (some 57) (some (55, false)) (.load (.s 56) false 1)), (.op (some 58) (some (55, false)) (.len (.s 57))), (.op (some 59) (some (55, false)) (.faddr (.s 3) 10)), (.op (some 60) (some (55, false)) (.load (.s 59) false 1)), (.op (some 61) (some (55, false)) (.len (.s 60))), (.op (some 62) (some (55, false)) (.bin .neq (.s 58) (.s 61))), (.op (some 63) none (.pick (.s 55) (.k (.bool true)) (.s 62)))]
abbrev QPV : AC := .run [(.op (some 4) none (.mv (.k (.bool false))))]
abbrev QPW : AC := .seq QPV .ret
abbrev QPX : AC := .cond (.s 63) QPW .skip
abbrev QPY : AC := .seq QPU QPX
abbrev QPZ : AC := .run [(.op (some 64) none (.faddr (.s 2) 10)), (.op (some 65) none (.load (.s 64) false 1)), (.op (some 66) none (.len (.s 65))), (.op (some 67) none (.mv (.k (.int .i64 0))))]
abbrev QQ0 : AC := .run [(.op (some 68) none (.bin .lss (.s 67) (.s 66)))]
abbrev QQ1 : AC := .cond (.s 68) .skip (.exit 0)
abbrev QQ2 : AC := .run [(.op (some 69) none (.mv (.s 67))), (.op (some 5) none (.mv (.s 69)))]
abbrev QQ3 : AC := .par [(.op (some 70) none (.faddr (.s 2) 10)), (.op (some 71) none (.load (.s 70) false 1)), (.op (some 72) none (.mv (.s 5))), (.op (some 73) none (.iaddr (.s 71) (.s 72) 6)), (.op (some 74) none (.faddr (.s 73) 0)), (.op (some 75) none (.load (.s 74) false 1)), (.op (some 76) none (.faddr (.s 3) 10)), (.op (some 77) none (.load (.s 76) false 1)), (.op (some 78) none (.mv (.s 5))), (.op (some 79) none (.iaddr (.s 77) (.s 78) 6)), (.op (some 80) none (.faddr (.s 79) 0)), (.op (some 81) none (.load (.s 80) false 1)), (.op (some 82) none (.eqb true (.s 75) (.s 81))), (.op (some 83) none (.mv (.s 82))), (.op (some 84) (some (83, false)) (.faddr (.s 2) 10)), (.op (some 85) (some (83, false)) (.load (.s 84) false 1)), (.op (some 86) (some (83, false)) (.mv (.s 5))), (.op (some 87) (some (83, false)) (.iaddr (.s 85) (.s 86) 6)), (.op (some 88) (some (83, false)) (.faddr (.s 87) 1)), (.op (some 89) (some (83, false)) (.load (.s 88) false 1)), (.op (some 90) (some (83, false)) (.faddr (.s 3) 10)), (.op (some 91) (some (83, false)) (.load (.s 90) false 1)), (.op (some 92) (some (83, false)) (.mv (.s 5))), (.op (some 93) (some (83, false)) (.iaddr (.s 91) (.s 92) 6)), (.op (some 94) (some (83, false)) (.faddr (.s 93) 1)), (.op (some 95) (some (83, false)) (.load (.s 94) false 1)), (.op (some 96) (some (83, false)) (.bin .neq (.s 89) (.s 95))), (.op (some 97) none (.pick (.s 83) (.k (.bool true)) (.s 96))), (.op (some 98) none (.mv (.s 97))), (.op (some 99) (some (98, false)) (.faddr (.s 2) 10)), (.op (some 100) (some (98, false)) (.load (.s 99) false 1)), (.op (some 101) (some (98, false)) (.mv (.s 5))), (.op (some 102) (some (98, false)) (.iaddr (.s 100) (.s 101) 6)), (.op (some 103) (some (98, false)) (.faddr (.s 102) 2)), (.op (some 104) (some (98, false)) (.load (.s 103) true 4)), (.op (some 105) (some (98, false)) (.faddr (.s 3) 10)), (.op (some 106) (some (98, false)) (.load (.s 105) false 1)), (.op (some 107) (some (98, false)) (.mv (.s 5))), (.op (some 108) (some (98, false)) (.iaddr (.s 106) (.s 107) 6)), (.op (some 109) (some (98, false)) (.faddr (.s 108) 2)), (.op (some 110) (some (98, false)) (.load (.s 109) true 4)), (.call (some 111) (some (98, false)) n_ref3_EqExpr [(.s 104), (.s 110)]), (.op (some 112) (some (98, false)) (.un .not (.s 111))), (.op (some 113) none (.pick (.s 98) (.k (.bool true)) (.s 112)))] [(0, 0), (1, 0), (2, 0), (3, 0), (4, 0), (5, 0), (6, 0), (7, 0), (8, 0), (9, 0), (10, 0), (11, 0), (12, 0), (13, 0), (14, 0), (15, 0), (16, 0), (17, 0), (18, 0), (19, 0), (20, 0), (21, 0), (22, 0), (23, 0), (24, 0), (25, 0), (26, 0), (27, 0), (28, 0), (29, 0), (30, 0), (31, 0), (32, 0), (33, 0), (34, 0), (35, 0), (36, 0), (37, 0), (38, 0), (39, 0), (40, 0), (41, 0), (42, 0), (43, 0)]
abbrev QQ4 : AC := .run [(.op (some 4) none (.mv (.k (.bool false))))]
abbrev QQ5 : AC := .seq QQ4 .ret
abbrev QQ6 : AC := .cond (.s 113) QQ5 .skip
abbrev QQ7 : AC := .seq QQ3 QQ6
abbrev QQ8 : AC := .seq QQ2 QQ7
abbrev QQ9 : AC := .block 1 QQ8
abbrev QQA : AC := .run [(.op (some 114) none (.bin .add (.s 67) (.k (.int .i64 1)))), (.op (some 67) none (.mv (.s 114)))]
abbrev QQB : AC := .seq QQ9 QQA
abbrev QQC : AC := .seq QQ1 QQB
abbrev QQD : AC := .seq QQ0 QQC
abbrev QQE : AC := .loop QQD
abbrev QQF : AC := .block 0 QQE
abbrev QQG : AC := .seq QPZ QQF
abbrev QQH : AC := .run [(.op (some 115) none (.faddr (.s 2) 11)), (.op (some 116) none (.load (.s 115) false 1)), (.op (some 117) none (.faddr (.s 3) 11)), (.op (some 118) none (.load (.s 117) false 1)), (.call (some 119) none n_ref3_EqStmts [(.s 116), (.s 118)]), (.op (some 120) none (.mv (.s 119))), (.op (some 121) (some (120, true)) (.faddr (.s 2) 12)), (.op (some 122) (some (120, true)) (.load (.s 121) false 1)), (.op (some 123) (some (120, true)) (.faddr (.s 3) 12)), (.op (some 124) (some (120, true)) (.load (.s 123) false 1)), (.call (some 125) (some (120, true)) n_ref3_EqStmts [(.s 122), (.s 124)]), (.op (some 126) none (.pick (.s 120) (.s 125) (.k (.bool false)))), (.op (some 4) none (.mv (.s 126)))]
abbrev QQI : AC := .seq QQH .ret
abbrev QQJ : AC := .seq QQG QQI
abbrev QQK : AC := .seq QPY QQJ
abbrev QQL : AC := .seq QPT QQK
abbrev QQM : AC := .run [(.op (some 4) none (.alloc [(.int .i64 0), (.int .i64 0), (.str []), (.slice .full 0 [])]))]
abbrev QQN : AC := .run [(.op (some 9) none (.mv (.s 0))), (.call (some 10) none n_parse_reader_one [(.s 9)]), (.op (some 5) none (.alloc [(.int .i64 0), (.int .i64 0), (.str []), (.slice .full 0 [])])), (.op none none (.store (.s 5) (.s 10) 4))]
abbrev QQO : AC := .run [(.op (some 11) none (.mv (.s 0))), (.call (some 12) none n_parse_reader_good [(.s 11)])]
abbrev QQP : AC := .cond (.s 12) .skip (.exit 0)
abbrev QQQ : AC := .seq QQO QQP
abbrev QQR : AC := .run [(.op (some 14) none (.mv (.s 0))), (.call (some 15) none n_parse_reader_peek [(.s 14)]), (.call (some 16) none n_parse_op [(.s 15)]), (.op (some 13) none (.mv (.s 16))), (.op (some 17) none (.ext (.s 13) 0)), (.op (some 18) none (.ext (.s 13) 1)), (.op (some 6) none (.mv (.s 17))), (.op (some 7) none (.mv (.s 18)))]
abbrev QQS : AC := .run [(.op (some 19) none (.mv (.s 7))), (.op (some 20) none (.mv (.s 1))), (.op (some 21) none (.bin .lss (.s 19) (.s 20))), (.op (some 22) none (.mv (.s 21))), (.op (some 23) (some (22, false)) (.mv (.s 6))), (.op (some 24) (some (22, false)) (.bin .eql (.s 23) (.k (.int .i64 0)))), (.op (some 25) none (.pick (.s 22) (.k (.bool true)) (.s 24)))]
abbrev QQT : AC := .run [(.op (some 26) none (.load (.s 5) true 4)), (.op none none (.store (.s 4) (.s 26) 4))]
abbrev QQU : AC := .seq QQT .ret
abbrev QQV : AC := .cond (.s 25) QQU .skip
abbrev QQW : AC := .seq QQS QQV
abbrev QQX : AC := .run [(.op (some 27) none (.mv (.s 0))), (.op (some 28) none (.nilck (.s 27))), (.op (some 29) none (.faddr (.s 28) 1)), (.op (some 30) none (.load (.s 29) false 1)), (.op (some 31) none (.bin .add (.s 30) (.k (.int .i64 1)))), (.op (some 32) none (.nilck (.s 27))), (.op (some 33) none (.faddr (.s 32) 1)), (.op none none (.store (.s 33) (.s 31) 1))]
abbrev QQY : AC := .run [(.op (some 34) none (.mv (.s 0))), (.op (some 35) none (.mv (.s 7))), (.op (some 36) none (.bin .add (.s 35) (.k (.int .i64 1)))), (.call (some 37) none n_parse_reader_two [(.s 34), (.s 36)]), (.op (some 8) none (.alloc [(.int .i64 0), (.int .i64 0), (.str []), (.slice .full 0 [])])), (.op none none (.store (.s 8) (.s 37) 4))]
abbrev QQZ : AC := .run [(.op (some 38) none (.mv (.s 6))), (.op (some 39) none (.load (.s 5) true 4)), (.op (some 40) none (.load (.s 8) true 4)), (.op (some 41) none (.bslice [(.int .i64 0), (.int .i64 0), (.str []), (.slice .full 0 [])] 4 2 [(0, (.s 39)), (1, (.s 40))])), (.op (some 42) none (.build [(.int .i64 0), (.int .i64 0), (.str []), (.slice .full 0 [])] [(0, (1, (.s 38))), (3, (1, (.s 41)))])), (.op none none (.store (.s 5) (.s 42) 4))]
abbrev QR0 : AC := .seq QQY QQZ
abbrev QR1 : AC := .seq QQX QR0
abbrev QR2 : AC := .seq QQW QR1
abbrev QR3 : AC := .seq QQR QR2
abbrev QR4 : AC := .block 1 QR3
abbrev QR5 : AC := .seq QQQ QR4
abbrev QR6 : AC := .loop QR5
abbrev QR7 : AC := .block 0 QR6
abbrev QR8 : AC := .run [(.op (some 43) none (.load (.s 5) true 4)), (.op none none (.store (.s 4) (.s 43) 4))]
abbrev QR9 : AC := .seq QR8 .ret
abbrev QRA : AC := .seq QR7 QR9
abbrev QRB : AC := .seq QQN QRA
abbrev QRC : AC := .seq QQM QRB
abbrev QRD : AC := .run [(.op (some 1) none (.box (.s 0))), (.op (some 2) none (.mv (.k (.int .i64 0))))]
abbrev QRE : AC := .run [(.op (some 3) none (.mv (.k (.int .i64 0))))]
abbrev QRF : AC := .run [(.op (some 6) none (.faddr (.s 1) 3)), (.op (some 7) none (.load (.s 6) false 1)), (.op (some 8) none (.len (.s 7))), (.op (some 9) none (.mv (.k (.int .i64 0))))]
abbrev QRG : AC := .run [(.op (some 10) none (.bin .lss (.s 9) (.s 8)))]
abbrev QRH : AC := .cond (.s 10) .skip (.exit 0)
abbrev QRI : AC := .run [(.op (some 11) none (.iaddr (.s 7) (.s 9) 4)), (.op (some 12) none (.load (.s 11) true 4)), (.op (some 5) none (.alloc [(.int .i64 0), (.int .i64 0), (.str []), (.slice .full 0 [])])), (.op none none (.store (.s 5) (.s 12) 4))]
abbrev QRJ : AC := .run [(.op (some 13) none (.mv (.s 3))), (.op (some 14) none (.load (.s 5) true 4)), (.call (some 15) none n_parse_depth [(.s 14)]), (.op (some 16) none (.mm true (.s 13) (.s 15))), (.op (some 3) none (.mv (.s 16)))]
abbrev QRK : AC := .seq QRI QRJ
abbrev QRL : AC := .block 1 QRK
abbrev QRM : AC := .run [(.op (some 17) none (.bin .add (.s 9) (.k (.int .i64 1)))), (.op (some 9) none (.mv (.s 17)))]
abbrev QRN : AC := .seq QRL QRM
abbrev QRO : AC := .seq QRH QRN
abbrev QRP : AC := .seq QRG QRO
abbrev QRQ : AC := .loop QRP
abbrev QRR : AC := .block 0 QRQ
abbrev QRS : AC := .seq QRF QRR
abbrev QRT : AC := .run [(.op (some 18) none (.mv (.s 3))), (.op (some 19) none (.bin .add (.s 18) (.k (.int .i64 1)))), (.op (some 2) none (.mv (.s 19)))]
abbrev QRU : AC := .seq QRT .ret
abbrev QRV : AC := .seq QRS QRU
abbrev QRW : AC := .seq QRE QRV
abbrev QRX : AC := .seq QRD QRW

end Go.Abs

/-! Have2 -/

namespace Go.Abs
open Go.Proofs

theorem has_lex_Word : Has Try.prog n_lex_Word 18 [(2, none)] QJL := ⟨Try.f58, by kernel_rfl, by kernel_rfl⟩
theorem has_lex_number : Has Try.prog n_lex_number 28 [(2, none), (3, none)] QKC := ⟨Try.f59, by kernel_rfl, by kernel_rfl⟩
theorem has_ref3_sign : Has Try.prog n_ref3_sign 8 [(2, none)] QKG := ⟨Try.f66, by kernel_rfl, by kernel_rfl⟩
theorem has_ref3_name : Has Try.prog n_ref3_name 5 [(2, (some (true, 4)))] QKK := ⟨Try.f67, by kernel_rfl, by kernel_rfl⟩
theorem has_ref3_Binds : Has Try.prog n_ref3_Binds 27 [(2, none), (3, none)] QLB := ⟨Try.f68, by kernel_rfl, by kernel_rfl⟩
theorem has_ref3_two : Has Try.prog n_ref3_two 12 [(6, (some (true, 4)))] QLF := ⟨Try.f69, by kernel_rfl, by kernel_rfl⟩
theorem has_ref3_num : Has Try.prog n_ref3_num 5 [(2, (some (true, 4)))] QLJ := ⟨Try.f73, by kernel_rfl, by kernel_rfl⟩
theorem has_parse_reader_take : Has Try.prog n_parse_reader_take 21 [(4, none)] QLV := ⟨Try.f74, by kernel_rfl, by kernel_rfl⟩
theorem has_parse_reader_names : Has Try.prog n_parse_reader_names 25 [(6, none)] QMG := ⟨Try.f75, by kernel_rfl, by kernel_rfl⟩
theorem has_parse_reader_is : Has Try.prog n_parse_reader_is 22 [(4, none)] QMM := ⟨Try.f76, by kernel_rfl, by kernel_rfl⟩
theorem has_parse_reader_proc : Has Try.prog n_parse_reader_proc 56 [(2, (some (true, 5)))] QNR := ⟨Try.f77, by kernel_rfl, by kernel_rfl⟩
theorem has_slices_Clone_string : Has Try.prog n_slices_Clone_string 8 [(2, none)] QO1 := ⟨Try.f78, by kernel_rfl, by kernel_rfl⟩
theorem has_slices_Clone_api_Param : Has Try.prog n_slices_Clone_api_Param 8 [(2, none)] QOB := ⟨Try.f79, by kernel_rfl, by kernel_rfl⟩
theorem has_tree_copied : Has Try.prog n_tree_copied 78 [(6, none), (7, none)] QPS := ⟨Try.f80, by kernel_rfl, by kernel_rfl⟩
theorem has_ref3_eqOne : Has Try.prog n_ref3_eqOne 127 [(4, none)] QQL := ⟨Try.f85, by kernel_rfl, by kernel_rfl⟩
theorem has_parse_reader_two : Has Try.prog n_parse_reader_two 44 [(4, (some (true, 4)))] QRC := ⟨Try.f86, by kernel_rfl, by kernel_rfl⟩
theorem has_parse_depth : Has Try.prog n_parse_depth 20 [(2, none)] QRX := ⟨Try.f87, by kernel_rfl, by kernel_rfl⟩
end Go.Abs

/-! Codes3 -/

namespace Go.Abs

abbrev QRY : AC := .run [(.op (some 4) none (.mv (.k (.str []))))]
abbrev QRZ : AC := .run [(.op (some 6) none (.mv (.s 0))), (.call (some 7) none n_parse_reader_peek [(.s 6)]), (.op (some 5) none (.alloc [(.int .i64 0), (.str []), (.int .i64 0), (.int .i64 0)])), (.op none none (.store (.s 5) (.s 7) 4))]
abbrev QS0 : AC := .run [(.op (some 8) none (.mv (.s 0))), (.call (some 9) none n_parse_reader_good [(.s 8)]), (.op (some 10) none (.un .not (.s 9))), (.op (some 11) none (.mv (.s 10))), (.op (some 12) (some (11, false)) (.faddr (.s 5) 0)), (.op (some 13) (some (11, false)) (.load (.s 12) false 1)), (.op (some 14) (some (11, false)) (.bin .neq (.s 13) (.k (.int .i64 1)))), (.op (some 15) none (.pick (.s 11) (.k (.bool true)) (.s 14)))]
abbrev QS1 : AC := .run [(.op (some 16) none (.mv (.s 0))), (.call (some 17) none n_parse_reader_bad [(.s 16), (.k (.int .i64 3))])]
abbrev QS2 : AC := .run [(.op (some 4) none (.mv (.k (.str []))))]
abbrev QS3 : AC := .seq QS2 .ret
abbrev QS4 : AC := .seq QS1 QS3
abbrev QS5 : AC := .cond (.s 15) QS4 .skip
abbrev QS6 : AC := .seq QS0 QS5
abbrev QS7 : AC := .run [(.op (some 18) none (.mv (.s 1))), (.op (some 19) none (.un .not (.s 18)))]
abbrev QS8 : AC := .run [(.op (some 20) none (.mv (.s 0))), (.call (some 21) none n_parse_reader_bad [(.s 20), (.k (.int .i64 4))])]
abbrev QS9 : AC := .run [(.op (some 4) none (.mv (.k (.str []))))]
abbrev QSA : AC := .seq QS9 .ret
abbrev QSB : AC := .seq QS8 QSA
abbrev QSC : AC := .cond (.s 19) QSB .skip
abbrev QSD : AC := .seq QS7 QSC
abbrev QSE : AC := .run [(.op (some 22) none (.mv (.s 0))), (.op (some 23) none (.nilck (.s 22))), (.op (some 24) none (.faddr (.s 23) 1)), (.op (some 25) none (.load (.s 24) false 1)), (.op (some 26) none (.bin .add (.s 25) (.k (.int .i64 1)))), (.op (some 27) none (.nilck (.s 22))), (.op (some 28) none (.faddr (.s 27) 1)), (.op none none (.store (.s 28) (.s 26) 1))]
abbrev QSF : AC := .run [(.op (some 29) none (.faddr (.s 5) 1)), (.op (some 30) none (.load (.s 29) false 1)), (.op (some 4) none (.mv (.s 30)))]
abbrev QSG : AC := .seq QSF .ret
abbrev QSH : AC := .seq QSE QSG
abbrev QSI : AC := .seq QSD QSH
abbrev QSJ : AC := .seq QS6 QSI
abbrev QSK : AC := .seq QRZ QSJ
abbrev QSL : AC := .seq QRY QSK
abbrev QSM : AC := .run [(.op (some 4) none (.mv (.s 0))), (.op (some 5) none (.mv (.s 1))), (.call (some 6) none n_parse_reader_take [(.s 4), (.s 5)]), (.op (some 7) none (.un .not (.s 6)))]
abbrev QSN : AC := .run [(.op (some 8) none (.mv (.s 0))), (.call (some 9) none n_parse_reader_bad [(.s 8), (.k (.int .i64 3))])]
abbrev QSO : AC := .cond (.s 7) QSN .skip
abbrev QSP : AC := .seq QSM QSO
abbrev QSQ : AC := .run [(.op (some 6) none (.mv (.k (.slice .full 0 [])))), (.op (some 7) none (.mv (.k (.slice .full 0 []))))]
abbrev QSR : AC := .run [(.op (some 8) none (.mv (.k (.slice .full 0 []))))]
abbrev QSS : AC := .run [(.op (some 11) none (.mv (.s 0))), (.call (some 12) none n_parse_reader_good [(.s 11)])]
abbrev QST : AC := .cond (.s 12) .skip (.exit 0)
abbrev QSU : AC := .seq QSS QST
abbrev QSV : AC := .run [(.op (some 13) none (.mv (.s 0))), (.call (some 14) none n_parse_reader_labels [(.s 13)]), (.op (some 9) none (.mv (.s 14)))]
abbrev QSW : AC := .run [(.op (some 15) none (.mv (.s 0))), (.call (some 16) none n_parse_reader_is [(.s 15), (.k (.str [125]))]), (.op (some 17) none (.mv (.s 16))), (.op (some 18) (some (17, true)) (.mv (.s 2))), (.op (some 19) (some (17, true)) (.mv (.s 18))), (.op (some 20) (some (19, false)) (.mv (.s 9))), (.op (some 21) (some (19, false)) (.len (.s 20))), (.op (some 22) (some (19, false)) (.bin .eql (.s 21) (.k (.int .i64 0)))), (.op (some 23) (some (17, true)) (.pick (.s 19) (.k (.bool true)) (.s 22))), (.op (some 24) none (.pick (.s 17) (.s 23) (.k (.bool false))))]
abbrev QSX : AC := .run [(.op (some 25) none (.mv (.s 0))), (.op (some 26) none (.nilck (.s 25))), (.op (some 27) none (.faddr (.s 26) 1)), (.op (some 28) none (.load (.s 27) false 1)), (.op (some 29) none (.bin .add (.s 28) (.k (.int .i64 1)))), (.op (some 30) none (.nilck (.s 25))), (.op (some 31) none (.faddr (.s 30) 1)), (.op none none (.store (.s 31) (.s 29) 1))]
abbrev QSY : AC := .run [(.op (some 32) none (.mv (.s 8))), (.op (some 33) none (.mv (.s 9))), (.op (some 6) none (.mv (.s 32))), (.op (some 7) none (.mv (.s 33)))]
abbrev QSZ : AC := .seq QSY .ret
abbrev QT0 : AC := .seq QSX QSZ
abbrev QT1 : AC := .cond (.s 24) QT0 .skip
abbrev QT2 : AC := .seq QSW QT1
abbrev QT3 : AC := .run [(.op (some 34) none (.mv (.s 0))), (.op (some 35) none (.mv (.s 1))), (.call (some 36) none n_parse_reader_stmt [(.s 34), (.s 35)]), (.op (some 10) none (.alloc [(.int .i64 0), (.int .i64 0), (.slice .full 0 []), (.str []), (.str []), (.int .i64 0), (.int .i64 0), (.str []), (.slice .full 0 []), (.bool false), (.slice .full 0 []), (.slice .full 0 []), (.slice .full 0 [])])), (.op none none (.store (.s 10) (.s 36) 13))]
abbrev QT4 : AC := .run [(.op (some 37) none (.mv (.s 9))), (.op (some 38) none (.faddr (.s 10) 2)), (.op none none (.store (.s 38) (.s 37) 1))]
abbrev QT5 : AC := .run [(.op (some 39) none (.mv (.s 8))), (.op (some 40) none (.load (.s 10) true 13)), (.op (some 41) none (.bslice [(.int .i64 0), (.int .i64 0), (.slice .full 0 []), (.str []), (.str []), (.int .i64 0), (.int .i64 0), (.str []), (.slice .full 0 []), (.bool false), (.slice .full 0 []), (.slice .full 0 []), (.slice .full 0 [])] 13 1 [(0, (.s 40))])), (.op (some 42) none (.app 13 208 (.s 39) (.s 41))), (.op (some 8) none (.mv (.s 42)))]
abbrev QT6 : AC := .seq QT4 QT5
abbrev QT7 : AC := .seq QT3 QT6
abbrev QT8 : AC := .seq QT2 QT7
abbrev QT9 : AC := .seq QSV QT8
abbrev QTA : AC := .block 1 QT9
abbrev QTB : AC := .seq QSU QTA
abbrev QTC : AC := .loop QTB
abbrev QTD : AC := .block 0 QTC
abbrev QTE : AC := .run [(.op (some 6) none (.mv (.k (.slice .full 0 [])))), (.op (some 7) none (.mv (.k (.slice .full 0 []))))]
abbrev QTF : AC := .seq QTE .ret
abbrev QTG : AC := .seq QTD QTF
abbrev QTH : AC := .seq QSR QTG
abbrev QTI : AC := .seq QSQ QTH
abbrev QTJ : AC := .run [(.op (some 1) none (.box (.s 0))), (.op (some 2) none (.alloc [(.int .i64 0), (.int .i64 0), (.str []), (.slice .full 0 [])]))]
abbrev QTK : AC := .run [(.op (some 6) none (.faddr (.s 1) 3)), (.op (some 7) none (.load (.s 6) false 1)), (.op (some 3) none (.mv (.s 7)))]
abbrev QTL : AC := .run [(.op (some 8) none (.faddr (.s 1) 3)), (.op none none (.store (.s 8) (.k (.slice .full 0 [])) 1))]
abbrev QTM : AC := .run [(.op (some 9) none (.mv (.s 3))), (.op (some 10) none (.len (.s 9))), (.op (some 11) none (.mv (.k (.int .i64 0))))]
abbrev QTN : AC := .run [(.op (some 12) none (.bin .lss (.s 11) (.s 10)))]
abbrev QTO : AC := .cond (.s 12) .skip (.exit 0)
abbrev QTP : AC := .run [(.op (some 13) none (.iaddr (.s 9) (.s 11) 4)), (.op (some 14) none (.load (.s 13) true 4)), (.op (some 5) none (.alloc [(.int .i64 0), (.int .i64 0), (.str []), (.slice .full 0 [])])), (.op none none (.store (.s 5) (.s 14) 4))]
abbrev QTQ : AC := .par [(.op (some 15) none (.faddr (.s 1) 3)), (.op (some 16) none (.load (.s 15) false 1)), (.op (some 17) none (.load (.s 5) true 4)), (.call (some 18) none n_tree_expr [(.s 17)]), (.op (some 19) none (.bslice [(.int .i64 0), (.int .i64 0), (.str []), (.slice .full 0 [])] 4 1 [(0, (.s 18))])), (.op (some 20) none (.app 4 56 (.s 16) (.s 19))), (.op (some 21) none (.faddr (.s 1) 3)), (.op none none (.store (.s 21) (.s 20) 1))] [(2, 0), (3, 0), (0, 0), (1, 1), (4, 0), (5, 0), (6, 0), (7, 0)]
abbrev QTR : AC := .seq QTP QTQ
abbrev QTS : AC := .block 1 QTR
abbrev QTT : AC := .run [(.op (some 22) none (.bin .add (.s 11) (.k (.int .i64 1)))), (.op (some 11) none (.mv (.s 22)))]
abbrev QTU : AC := .seq QTS QTT
abbrev QTV : AC := .seq QTO QTU
abbrev QTW : AC := .seq QTN QTV
abbrev QTX : AC := .loop QTW
abbrev QTY : AC := .block 0 QTX
abbrev QTZ : AC := .seq QTM QTY
abbrev QU0 : AC := .run [(.op (some 23) none (.load (.s 1) true 4)), (.op none none (.store (.s 2) (.s 23) 4))]
abbrev QU1 : AC := .seq QU0 .ret
abbrev QU2 : AC := .seq QTZ QU1
abbrev QU3 : AC := .seq QTL QU2
abbrev QU4 : AC := .seq QTK QU3
abbrev QU5 : AC := .seq QTJ QU4
abbrev QU6 : AC := .run [(.op (some 2) none (.alloc [(.int .i64 0), (.int .i64 0), (.str []), (.slice .full 0 [])]))]
abbrev QU7 : AC := .run [(.op (some 5) none (.mv (.s 0))), (.call (some 6) none n_parse_reader_peek [(.s 5)]), (.op (some 3) none (.alloc [(.int .i64 0), (.str []), (.int .i64 0), (.int .i64 0)])), (.op none none (.store (.s 3) (.s 6) 4))]
abbrev QU8 : AC := .run [(.op (some 7) none (.mv (.s 0))), (.call (some 8) none n_parse_reader_good [(.s 7)]), (.op (some 9) none (.un .not (.s 8)))]
abbrev QU9 : AC := .run [(.op (some 10) none (.build [(.int .i64 0), (.int .i64 0), (.str []), (.slice .full 0 [])] [])), (.op none none (.store (.s 2) (.s 10) 4))]
abbrev QUA : AC := .seq QU9 .ret
abbrev QUB : AC := .cond (.s 9) QUA .skip
abbrev QUC : AC := .seq QU8 QUB
abbrev QUD : AC := .run [(.op (some 12) none (.faddr (.s 3) 0)), (.op (some 13) none (.load (.s 12) false 1)), (.op (some 14) none (.bin .eql (.s 13) (.k (.int .i64 2)))), (.op (some 11) none (.mv (.s 14)))]
abbrev QUE : AC := .run [(.op (some 15) none (.mv (.s 0))), (.op (some 16) none (.nilck (.s 15))), (.op (some 17) none (.faddr (.s 16) 1)), (.op (some 18) none (.load (.s 17) false 1)), (.op (some 19) none (.bin .add (.s 18) (.k (.int .i64 1)))), (.op (some 20) none (.nilck (.s 15))), (.op (some 21) none (.faddr (.s 20) 1)), (.op none none (.store (.s 21) (.s 19) 1))]
abbrev QUF : AC := .run [(.op (some 22) none (.faddr (.s 3) 2)), (.op (some 23) none (.load (.s 22) false 1)), (.op (some 24) none (.build [(.int .i64 0), (.int .i64 0), (.str []), (.slice .full 0 [])] [(0, (1, (.k (.int .i64 1)))), (1, (1, (.s 23)))])), (.op none none (.store (.s 2) (.s 24) 4))]
abbrev QUG : AC := .seq QUF .ret
abbrev QUH : AC := .seq QUE QUG
abbrev QUI : AC := .run [(.op (some 26) none (.faddr (.s 3) 0)), (.op (some 27) none (.load (.s 26) false 1)), (.op (some 28) none (.bin .eql (.s 27) (.k (.int .i64 1)))), (.op (some 25) none (.mv (.s 28)))]
abbrev QUJ : AC := .run [(.op (some 29) none (.mv (.s 0))), (.op (some 30) none (.nilck (.s 29))), (.op (some 31) none (.faddr (.s 30) 1)), (.op (some 32) none (.load (.s 31) false 1)), (.op (some 33) none (.bin .add (.s 32) (.k (.int .i64 1)))), (.op (some 34) none (.nilck (.s 29))), (.op (some 35) none (.faddr (.s 34) 1)), (.op none none (.store (.s 35) (.s 33) 1))]
abbrev QUK : AC := .run [(.op (some 36) none (.faddr (.s 3) 1)), (.op (some 37) none (.load (.s 36) false 1)), (.op (some 38) none (.build [(.int .i64 0), (.int .i64 0), (.str []), (.slice .full 0 [])] [(0, (1, (.k (.int .i64 2)))), (2, (1, (.s 37)))])), (.op none none (.store (.s 2) (.s 38) 4))]
abbrev QUL : AC := .seq QUK .ret
abbrev QUM : AC := .seq QUJ QUL
abbrev QUN : AC := .run [(.op (some 40) none (.mv (.s 0))), (.call (some 41) none n_parse_reader_take [(.s 40), (.k (.str [40]))]), (.op (some 39) none (.mv (.s 41)))]
abbrev QUO : AC := .run [(.op (some 42) none (.mv (.s 0))), (.call (some 43) none n_parse_reader_two [(.s 42), (.k (.int .i64 1))]), (.op (some 4) none (.alloc [(.int .i64 0), (.int .i64 0), (.str []), (.slice .full 0 [])])), (.op none none (.store (.s 4) (.s 43) 4))]
abbrev QUP : AC := .run [(.op (some 44) none (.mv (.s 0))), (.call (some 45) none n_parse_reader_want [(.s 44), (.k (.str [41]))])]
abbrev QUQ : AC := .run [(.op (some 46) none (.load (.s 4) true 4)), (.op none none (.store (.s 2) (.s 46) 4))]
abbrev QUR : AC := .seq QUQ .ret
abbrev QUS : AC := .seq QUP QUR
abbrev QUT : AC := .seq QUO QUS
abbrev QUU : AC := .run [(.op (some 48) none (.mv (.s 0))), (.call (some 49) none n_parse_reader_take [(.s 48), (.k (.str [45]))]), (.op (some 47) none (.mv (.s 49)))]
abbrev QUV : AC := .run [(.op (some 50) none (.mv (.s 0))), (.call (some 51) none n_parse_reader_one [(.s 50)]), (.op (some 52) none (.bslice [(.int .i64 0), (.int .i64 0), (.str []), (.slice .full 0 [])] 4 1 [(0, (.s 51))])), (.op (some 53) none (.build [(.int .i64 0), (.int .i64 0), (.str []), (.slice .full 0 [])] [(0, (1, (.k (.int .i64 3)))), (3, (1, (.s 52)))])), (.op none none (.store (.s 2) (.s 53) 4))]
abbrev QUW : AC := .seq QUV .ret
abbrev QUX : AC := .run [(.op (some 55) none (.mv (.s 0))), (.call (some 56) none n_parse_reader_take [(.s 55), (.k (.str [33]))]), (.op (some 54) none (.mv (.s 56)))]
abbrev QUY : AC := .run [(.op (some 57) none (.mv (.s 0))), (.call (some 58) none n_parse_reader_one [(.s 57)]), (.op (some 59) none (.bslice [(.int .i64 0), (.int .i64 0), (.str []), (.slice .full 0 [])] 4 1 [(0, (.s 58))])), (.op (some 60) none (.build [(.int .i64 0), (.int .i64 0), (.str []), (.slice .full 0 [])] [(0, (1, (.k (.int .i64 4)))), (3, (1, (.s 59)))])), (.op none none (.store (.s 2) (.s 60) 4))]
abbrev QUZ : AC := .seq QUY .ret
abbrev QV0 : AC := .cond (.s 54) QUZ .skip
abbrev QV1 : AC := .seq QUX QV0
abbrev QV2 : AC := .cond (.s 47) QUW QV1
abbrev QV3 : AC := .seq QUU QV2
abbrev QV4 : AC := .cond (.s 39) QUT QV3
abbrev QV5 : AC := .seq QUN QV4
abbrev QV6 : AC := .cond (.s 25) QUM QV5
abbrev QV7 : AC := .seq QUI QV6
abbrev QV8 : AC := .cond (.s 11) QUH QV7
abbrev QV9 : AC := .seq QUD QV8
abbrev QVA : AC := .block 0 QV9
abbrev QVB : AC := .run [(.op (some 61) none (.mv (.s 0))), (.call (some 62) none n_parse_reader_bad [(.s 61), (.k (.int .i64 3))])]
abbrev QVC : AC := .run [(.op (some 63) none (.build [(.int .i64 0), (.int .i64 0), (.str []), (.slice .full 0 [])] [])), (.op none none (.store (.s 2) (.s 63) 4))]
abbrev QVD : AC := .seq QVC .ret
abbrev QVE : AC := .seq QVB QVD
abbrev QVF : AC := .seq QVA QVE
abbrev QVG : AC := .seq QUC QVF
abbrev QVH : AC := .seq QU7 QVG
abbrev QVI : AC := .seq QU6 QVH
abbrev QVJ : AC := .run [(.op (some 1) none (.box (.s 0))), (.op (some 2) none (.mv (.k (.int .i64 0)))), (.op (some 3) none (.mv (.k (.int .i64 0))))]
abbrev QVK : AC := .run [(.op (some 4) none (.faddr (.s 1) 0)), (.op (some 5) none (.load (.s 4) false 1)), (.op (some 6) none (.bin .neq (.s 5) (.k (.int .i64 4))))]
abbrev QVL : AC := .run [(.op (some 2) none (.mv (.k (.int .i64 0)))), (.op (some 3) none (.mv (.k (.int .i64 0))))]
abbrev QVM : AC := .seq QVL .ret
abbrev QVN : AC := .cond (.s 6) QVM .skip
abbrev QVO : AC := .seq QVK QVN
abbrev QVP : AC := .run [(.op (some 7) none (.faddr (.s 1) 1)), (.op (some 8) none (.load (.s 7) false 1))]
abbrev QVQ : AC := .run [(.op (some 10) none (.bin .eql (.s 8) (.k (.str [124, 124])))), (.op (some 9) none (.mv (.s 10)))]
abbrev QVR : AC := .run [(.op (some 2) none (.mv (.k (.int .i64 17)))), (.op (some 3) none (.mv (.k (.int .i64 1))))]
abbrev QVS : AC := .seq QVR .ret
abbrev QVT : AC := .run [(.op (some 12) none (.bin .eql (.s 8) (.k (.str [38, 38])))), (.op (some 11) none (.mv (.s 12)))]
abbrev QVU : AC := .run [(.op (some 2) none (.mv (.k (.int .i64 16)))), (.op (some 3) none (.mv (.k (.int .i64 2))))]
abbrev QVV : AC := .seq QVU .ret
abbrev QVW : AC := .run [(.op (some 14) none (.bin .eql (.s 8) (.k (.str [61, 61])))), (.op (some 13) none (.mv (.s 14)))]
abbrev QVX : AC := .run [(.op (some 2) none (.mv (.k (.int .i64 14)))), (.op (some 3) none (.mv (.k (.int .i64 3))))]
abbrev QVY : AC := .seq QVX .ret
abbrev QVZ : AC := .run [(.op (some 16) none (.bin .eql (.s 8) (.k (.str [33, 61])))), (.op (some 15) none (.mv (.s 16)))]
abbrev QW0 : AC := .run [(.op (some 2) none (.mv (.k (.int .i64 15)))), (.op (some 3) none (.mv (.k (.int .i64 3))))]
abbrev QW1 : AC := .seq QW0 .ret
abbrev QW2 : AC := .run [(.op (some 18) none (.bin .eql (.s 8) (.k (.str [60])))), (.op (some 17) none (.mv (.s 18)))]
abbrev QW3 : AC := .run [(.op (some 2) none (.mv (.k (.int .i64 10)))), (.op (some 3) none (.mv (.k (.int .i64 4))))]
abbrev QW4 : AC := .seq QW3 .ret
abbrev QW5 : AC := .run [(.op (some 20) none (.bin .eql (.s 8) (.k (.str [60, 61])))), (.op (some 19) none (.mv (.s 20)))]
abbrev QW6 : AC := .run [(.op (some 2) none (.mv (.k (.int .i64 11)))), (.op (some 3) none (.mv (.k (.int .i64 4))))]
abbrev QW7 : AC := .seq QW6 .ret
abbrev QW8 : AC := .run [(.op (some 22) none (.bin .eql (.s 8) (.k (.str [62])))), (.op (some 21) none (.mv (.s 22)))]
abbrev QW9 : AC := .run [(.op (some 2) none (.mv (.k (.int .i64 12)))), (.op (some 3) none (.mv (.k (.int .i64 4))))]
abbrev QWA : AC := .seq QW9 .ret
abbrev QWB : AC := .run [(.op (some 24) none (.bin .eql (.s 8) (.k (.str [62, 61])))), (.op (some 23) none (.mv (.s 24)))]
abbrev QWC : AC := .run [(.op (some 2) none (.mv (.k (.int .i64 13)))), (.op (some 3) none (.mv (.k (.int .i64 4))))]
abbrev QWD : AC := .seq QWC .ret
abbrev QWE : AC := .run [(.op (some 26) none (.bin .eql (.s 8) (.k (.str [43])))), (.op (some 25) none (.mv (.s 26)))]
abbrev QWF : AC := .run [(.op (some 2) none (.mv (.k (.int .i64 8)))), (.op (some 3) none (.mv (.k (.int .i64 5))))]
abbrev QWG : AC := .seq QWF .ret
abbrev QWH : AC := .run [(.op (some 28) none (.bin .eql (.s 8) (.k (.str [45])))), (.op (some 27) none (.mv (.s 28)))]
abbrev QWI : AC := .run [(.op (some 2) none (.mv (.k (.int .i64 9)))), (.op (some 3) none (.mv (.k (.int .i64 5))))]
abbrev QWJ : AC := .seq QWI .ret
abbrev QWK : AC := .run [(.op (some 30) none (.bin .eql (.s 8) (.k (.str [42])))), (.op (some 29) none (.mv (.s 30)))]
abbrev QWL : AC := .run [(.op (some 2) none (.mv (.k (.int .i64 5)))), (.op (some 3) none (.mv (.k (.int .i64 6))))]
abbrev QWM : AC := .seq QWL .ret
abbrev QWN : AC := .run [(.op (some 32) none (.bin .eql (.s 8) (.k (.str [47])))), (.op (some 31) none (.mv (.s 32)))]
abbrev QWO : AC := .run [(.op (some 2) none (.mv (.k (.int .i64 6)))), (.op (some 3) none (.mv (.k (.int .i64 6))))]
abbrev QWP : AC := .seq QWO .ret
abbrev QWQ : AC := .run [(.op (some 34) none (.bin .eql (.s 8) (.k (.str [37])))), (.op (some 33) none (.mv (.s 34)))]
abbrev QWR : AC := .run [(.op (some 2) none (.mv (.k (.int .i64 7)))), (.op (some 3) none (.mv (.k (.int .i64 6))))]
abbrev QWS : AC := .seq QWR .ret
abbrev QWT : AC := .cond (.s 33) QWS .skip
abbrev QWU : AC := .seq QWQ QWT
abbrev QWV : AC := .cond (.s 31) QWP QWU
abbrev QWW : AC := .seq QWN QWV
abbrev QWX : AC := .cond (.s 29) QWM QWW
abbrev QWY : AC := .seq QWK QWX
abbrev QWZ : AC := .cond (.s 27) QWJ QWY
abbrev QX0 : AC := .seq QWH QWZ
abbrev QX1 : AC := .cond (.s 25) QWG QX0
abbrev QX2 : AC := .seq QWE QX1
abbrev QX3 : AC := .cond (.s 23) QWD QX2
abbrev QX4 : AC := .seq QWB QX3
abbrev QX5 : AC := .cond (.s 21) QWA QX4
abbrev QX6 : AC := .seq QW8 QX5
abbrev QX7 : AC := .cond (.s 19) QW7 QX6
abbrev QX8 : AC := .seq QW5 QX7
abbrev QX9 : AC := .cond (.s 17) QW4 QX8
abbrev QXA : AC := .seq QW2 QX9
abbrev QXB : AC := .cond (.s 15) QW1 QXA
abbrev QXC : AC := .seq QVZ QXB
abbrev QXD : AC := .cond (.s 13) QVY QXC
abbrev QXE : AC := .seq QVW QXD
abbrev QXF : AC := .cond (.s 11) QVV QXE
abbrev QXG : AC := .seq QVT QXF
abbrev QXH : AC := .cond (.s 9) QVS QXG
abbrev QXI : AC := .seq QVQ QXH
abbrev QXJ : AC := .block 0 QXI
abbrev QXK : AC := .seq QVP QXJ
abbrev QXL : AC := .run [(.op (some 2) none (.mv (.k (.int .i64 0)))), (.op (some 3) none (.mv (.k (.int .i64 0))))]
abbrev QXM : AC := .seq QXL .ret
abbrev QXN : AC := .seq QXK QXM
abbrev QXO : AC := .seq QVO QXN
abbrev QXP : AC := .seq QVJ QXO
abbrev QXQ : AC := .run [(.op (some 2) none (.mv (.k (.slice .full 0 []))))]
abbrev QXR : AC := .run [(.op (some 3) none (.mv (.k (.slice .full 0 []))))]
abbrev QXS : AC := .par [(.op (some 4) none (.mv (.s 0))), (.call (some 5) none n_parse_reader_good [(.s 4)]), (.op (some 6) none (.mv (.s 5))), (.op (some 7) (some (6, true)) (.mv (.s 0))), (.call (some 8) (some (6, true)) n_parse_reader_peek [(.s 7)]), (.op (some 9) (some (6, true)) (.fld (.s 8) 0 false 1)), (.op (some 10) (some (6, true)) (.bin .eql (.s 9) (.k (.int .i64 1)))), (.op (some 11) none (.pick (.s 6) (.s 10) (.k (.bool false)))), (.op (some 12) none (.mv (.s 11))), (.op (some 13) (some (12, true)) (.mv (.s 0))), (.op (some 14) (some (12, true)) (.nilck (.s 13))), (.op (some 15) (some (12, true)) (.faddr (.s 14) 0)), (.op (some 16) (some (12, true)) (.load (.s 15) false 1)), (.op (some 17) (some (12, true)) (.mv (.s 0))), (.op (some 18) (some (12, true)) (.nilck (.s 17))), (.op (some 19) (some (12, true)) (.faddr (.s 18) 1)), (.op (some 20) (some (12, true)) (.load (.s 19) false 1)), (.op (some 21) (some (12, true)) (.bin .add (.s 20) (.k (.int .i64 1)))), (.op (some 22) (some (12, true)) (.iaddr (.s 16) (.s 21) 4)), (.op (some 23) (some (12, true)) (.faddr (.s 22) 0)), (.op (some 24) (some (12, true)) (.load (.s 23) false 1)), (.op (some 25) (some (12, true)) (.bin .eql (.s 24) (.k (.int .i64 4)))), (.op (some 26) none (.pick (.s 12) (.s 25) (.k (.bool false)))), (.op (some 27) none (.mv (.s 26))), (.op (some 28) (some (27, true)) (.mv (.s 0))), (.op (some 29) (some (27, true)) (.nilck (.s 28))), (.op (some 30) (some (27, true)) (.faddr (.s 29) 0)), (.op (some 31) (some (27, true)) (.load (.s 30) false 1)), (.op (some 32) (some (27, true)) (.mv (.s 0))), (.op (some 33) (some (27, true)) (.nilck (.s 32))), (.op (some 34) (some (27, true)) (.faddr (.s 33) 1)), (.op (some 35) (some (27, true)) (.load (.s 34) false 1)), (.op (some 36) (some (27, true)) (.bin .add (.s 35) (.k (.int .i64 1)))), (.op (some 37) (some (27, true)) (.iaddr (.s 31) (.s 36) 4)), (.op (some 38) (some (27, true)) (.faddr (.s 37) 1)), (.op (some 39) (some (27, true)) (.load (.s 38) false 1)), (.op (some 40) (some (27, true)) (.bin .eql (.s 39) (.k (.str [58])))), (.op (some 41) none (.pick (.s 27) (.s 40) (.k (.bool false))))] [(0, 0), (1, 0), (2, 0), (3, 0), (4, 0), (5, 0), (6, 0), (7, 0), (8, 0), (9, 0), (10, 0), (11, 0), (12, 0), (13, 0), (14, 0), (15, 0), (16, 0), (17, 0), (18, 0), (19, 0), (20, 0), (21, 0), (22, 0), (23, 0), (24, 0), (25, 0), (26, 0), (27, 0), (28, 0), (29, 0), (30, 0), (31, 0), (32, 0), (33, 0), (34, 0), (35, 0), (36, 0), (37, 0)]
abbrev QXT : AC := .cond (.s 41) .skip (.exit 0)
abbrev QXU : AC := .seq QXS QXT
abbrev QXV : AC := .run [(.op (some 42) none (.mv (.s 3))), (.op (some 43) none (.mv (.s 0))), (.call (some 44) none n_parse_reader_peek [(.s 43)]), (.op (some 45) none (.fld (.s 44) 1 false 1)), (.op (some 46) none (.bslice [(.str [])] 1 1 [(0, (.s 45))])), (.op (some 47) none (.app 1 16 (.s 42) (.s 46))), (.op (some 3) none (.mv (.s 47)))]
abbrev QXW : AC := .run [(.op (some 48) none (.mv (.s 0))), (.op (some 49) none (.nilck (.s 48))), (.op (some 50) none (.faddr (.s 49) 1)), (.op (some 51) none (.load (.s 50) false 1)), (.op (some 52) none (.bin .add (.s 51) (.k (.int .i64 2)))), (.op (some 53) none (.nilck (.s 48))), (.op (some 54) none (.faddr (.s 53) 1)), (.op none none (.store (.s 54) (.s 52) 1))]
abbrev QXX : AC := .seq QXV QXW
abbrev QXY : AC := .block 1 QXX
abbrev QXZ : AC := .seq QXU QXY
abbrev QY0 : AC := .loop QXZ
abbrev QY1 : AC := .block 0 QY0
abbrev QY2 : AC := .run [(.op (some 55) none (.mv (.s 3))), (.op (some 2) none (.mv (.s 55)))]
abbrev QY3 : AC := .seq QY2 .ret
abbrev QY4 : AC := .seq QY1 QY3
abbrev QY5 : AC := .seq QXR QY4
abbrev QY6 : AC := .seq QXQ QY5
abbrev QY7 : AC := .run [(.op (some 4) none (.alloc [(.int .i64 0), (.int .i64 0), (.slice .full 0 []), (.str []), (.str []), (.int .i64 0), (.int .i64 0), (.str []), (.slice .full 0 []), (.bool false), (.slice .full 0 []), (.slice .full 0 []), (.slice .full 0 [])]))]
abbrev QY8 : AC := .run [(.op (some 8) none (.mv (.s 0))), (.call (some 9) none n_parse_reader_begins [(.s 8)]), (.op (some 10) none (.un .not (.s 9)))]
abbrev QY9 : AC := .run [(.op (some 11) none (.mv (.s 0))), (.call (some 12) none n_parse_reader_bad [(.s 11), (.k (.int .i64 3))])]
abbrev QYA : AC := .run [(.op (some 13) none (.build [(.int .i64 0), (.int .i64 0), (.slice .full 0 []), (.str []), (.str []), (.int .i64 0), (.int .i64 0), (.str []), (.slice .full 0 []), (.bool false), (.slice .full 0 []), (.slice .full 0 []), (.slice .full 0 [])] [])), (.op none none (.store (.s 4) (.s 13) 13))]
abbrev QYB : AC := .seq QYA .ret
abbrev QYC : AC := .seq QY9 QYB
abbrev QYD : AC := .cond (.s 10) QYC .skip
abbrev QYE : AC := .seq QY8 QYD
abbrev QYF : AC := .run [(.op (some 14) none (.mv (.s 0))), (.op (some 15) none (.nilck (.s 14))), (.op (some 16) none (.faddr (.s 15) 4)), (.op (some 17) none (.load (.s 16) false 1)), (.op (some 18) none (.bin .add (.s 17) (.k (.int .i64 1)))), (.op (some 19) none (.nilck (.s 14))), (.op (some 20) none (.faddr (.s 19) 4)), (.op none none (.store (.s 20) (.s 18) 1))]
abbrev QYG : AC := .run [(.op (some 21) none (.mv (.s 0))), (.op (some 22) none (.nilck (.s 21))), (.op (some 23) none (.faddr (.s 22) 4)), (.op (some 24) none (.load (.s 23) false 1)), (.op (some 25) none (.bin .gtr (.s 24) (.k (.int .i64 200)))), (.op (some 26) none (.mv (.s 25))), (.op (some 27) (some (26, false)) (.mv (.s 1))), (.op (some 28) (some (26, false)) (.bin .gtr (.s 27) (.k (.int .i64 12)))), (.op (some 29) none (.pick (.s 26) (.k (.bool true)) (.s 28)))]
abbrev QYH : AC := .run [(.op (some 30) none (.mv (.s 0))), (.call (some 31) none n_parse_reader_bad [(.s 30), (.k (.int .i64 4))])]
abbrev QYI : AC := .run [(.op (some 32) none (.build [(.int .i64 0), (.int .i64 0), (.slice .full 0 []), (.str []), (.str []), (.int .i64 0), (.int .i64 0), (.str []), (.slice .full 0 []), (.bool false), (.slice .full 0 []), (.slice .full 0 []), (.slice .full 0 [])] [])), (.op none none (.store (.s 4) (.s 32) 13))]
abbrev QYJ : AC := .seq QYI .ret
abbrev QYK : AC := .seq QYH QYJ
abbrev QYL : AC := .cond (.s 29) QYK .skip
abbrev QYM : AC := .seq QYG QYL
abbrev QYN : AC := .run [(.op (some 33) none (.mv (.s 0))), (.call (some 34) none n_parse_reader_peek [(.s 33)]), (.op (some 5) none (.alloc [(.int .i64 0), (.str []), (.int .i64 0), (.int .i64 0)])), (.op none none (.store (.s 5) (.s 34) 4))]
abbrev QYO : AC := .run [(.op (some 35) none (.faddr (.s 5) 0)), (.op (some 36) none (.load (.s 35) false 1)), (.op (some 37) none (.bin .eql (.s 36) (.k (.int .i64 1))))]
abbrev QYP : AC := .run [(.op (some 38) none (.mv (.s 0))), (.call (some 39) none n_parse_reader_named [(.s 38)]), (.op none none (.store (.s 4) (.s 39) 13))]
abbrev QYQ : AC := .seq QYP .ret
abbrev QYR : AC := .cond (.s 37) QYQ .skip
abbrev QYS : AC := .seq QYO QYR
abbrev QYT : AC := .run [(.op (some 40) none (.mv (.s 0))), (.op (some 41) none (.nilck (.s 40))), (.op (some 42) none (.faddr (.s 41) 1)), (.op (some 43) none (.load (.s 42) false 1)), (.op (some 44) none (.bin .add (.s 43) (.k (.int .i64 1)))), (.op (some 45) none (.nilck (.s 40))), (.op (some 46) none (.faddr (.s 45) 1)), (.op none none (.store (.s 46) (.s 44) 1))]
abbrev QYU : AC := .run [(.op (some 47) none (.faddr (.s 5) 1)), (.op (some 48) none (.load (.s 47) false 1))]
abbrev QYV : AC := .run [(.op (some 50) none (.bin .eql (.s 48) (.k (.str [105, 102])))), (.op (some 49) none (.mv (.s 50)))]
abbrev QYW : AC := .run [(.op (some 51) none (.mv (.s 0))), (.op (some 52) none (.mv (.s 1))), (.call (some 53) none n_parse_reader_choice [(.s 51), (.s 52)]), (.op none none (.store (.s 4) (.s 53) 13))]
abbrev QYX : AC := .seq QYW .ret
abbrev QYY : AC := .run [(.op (some 55) none (.bin .eql (.s 48) (.k (.str [119, 104, 105, 108, 101])))), (.op (some 54) none (.mv (.s 55)))]
abbrev QYZ : AC := .run [(.op (some 56) none (.mv (.s 0))), (.call (some 57) none n_parse_reader_head [(.s 56)]), (.op (some 58) none (.build [(.int .i64 0), (.int .i64 0), (.slice .full 0 []), (.str []), (.str []), (.int .i64 0), (.int .i64 0), (.str []), (.slice .full 0 []), (.bool false), (.slice .full 0 []), (.slice .full 0 []), (.slice .full 0 [])] [(1, (1, (.k (.int .i64 6)))), (5, (4, (.s 57)))])), (.op (some 6) none (.alloc [(.int .i64 0), (.int .i64 0), (.slice .full 0 []), (.str []), (.str []), (.int .i64 0), (.int .i64 0), (.str []), (.slice .full 0 []), (.bool false), (.slice .full 0 []), (.slice .full 0 []), (.slice .full 0 [])])), (.op none none (.store (.s 6) (.s 58) 13))]
abbrev QZ0 : AC := .run [(.op (some 59) none (.mv (.s 0))), (.op (some 60) none (.mv (.s 1))), (.call (some 61) none n_parse_reader_block [(.s 59), (.s 60)]), (.op (some 62) none (.faddr (.s 6) 11)), (.op none none (.store (.s 62) (.s 61) 1))]
abbrev QZ1 : AC := .run [(.op (some 63) none (.load (.s 6) true 13)), (.op none none (.store (.s 4) (.s 63) 13))]
abbrev QZ2 : AC := .seq QZ1 .ret
abbrev QZ3 : AC := .seq QZ0 QZ2
abbrev QZ4 : AC := .seq QYZ QZ3
abbrev QZ5 : AC := .cond (.s 54) QZ4 .skip
abbrev QZ6 : AC := .seq QYY QZ5
abbrev QZ7 : AC := .cond (.s 49) QYX QZ6
abbrev QZ8 : AC := .seq QYV QZ7
abbrev QZ9 : AC := .block 0 QZ8
abbrev QZA : AC := .seq QYU QZ9
abbrev QZB : AC := .run [(.op (some 64) none (.mv (.s 0))), (.op (some 65) none (.faddr (.s 5) 1)), (.op (some 66) none (.load (.s 65) false 1)), (.call (some 67) none n_parse_reader_plain [(.s 64), (.s 66)]), (.op (some 7) none (.alloc [(.int .i64 0), (.int .i64 0), (.slice .full 0 []), (.str []), (.str []), (.int .i64 0), (.int .i64 0), (.str []), (.slice .full 0 []), (.bool false), (.slice .full 0 []), (.slice .full 0 []), (.slice .full 0 [])])), (.op none none (.store (.s 7) (.s 67) 13))]
abbrev QZC : AC := .run [(.op (some 68) none (.mv (.s 0))), (.call (some 69) none n_parse_reader_want [(.s 68), (.k (.str [59]))])]
abbrev QZD : AC := .run [(.op (some 70) none (.load (.s 7) true 13)), (.op none none (.store (.s 4) (.s 70) 13))]
abbrev QZE : AC := .seq QZD .ret
abbrev QZF : AC := .seq QZC QZE
abbrev QZG : AC := .seq QZB QZF
abbrev QZH : AC := .seq QZA QZG
abbrev QZI : AC := .seq QYT QZH
abbrev QZJ : AC := .seq QYS QZI
abbrev QZK : AC := .seq QYN QZJ
abbrev QZL : AC := .seq QYM QZK
abbrev QZM : AC := .seq QYF QZL
abbrev QZN : AC := .seq QYE QZM
abbrev QZO : AC := .seq QY7 QZN
abbrev QZP : AC := .run [(.op (some 2) none (.mv (.k (.bool false))))]
abbrev QZQ : AC := .run [(.op (some 4) none (.mv (.s 0))), (.call (some 5) none n_parse_reader_peek [(.s 4)]), (.op (some 3) none (.alloc [(.int .i64 0), (.str []), (.int .i64 0), (.int .i64 0)])), (.op none none (.store (.s 3) (.s 5) 4))]
abbrev QZR : AC := .run [(.op (some 6) none (.faddr (.s 3) 0)), (.op (some 7) none (.load (.s 6) false 1)), (.op (some 8) none (.bin .eql (.s 7) (.k (.int .i64 1))))]
abbrev QZS : AC := .run [(.op (some 2) none (.mv (.k (.bool true))))]
abbrev QZT : AC := .seq QZS .ret
abbrev QZU : AC := .cond (.s 8) QZT .skip
abbrev QZV : AC := .seq QZR QZU
abbrev QZW : AC := .run [(.op (some 9) none (.faddr (.s 3) 0)), (.op (some 10) none (.load (.s 9) false 1)), (.op (some 11) none (.bin .neq (.s 10) (.k (.int .i64 3))))]
abbrev QZX : AC := .run [(.op (some 2) none (.mv (.k (.bool false))))]
abbrev QZY : AC := .seq QZX .ret
abbrev QZZ : AC := .cond (.s 11) QZY .skip
abbrev Q100 : AC := .seq QZW QZZ
abbrev Q101 : AC := .run [(.op (some 12) none (.faddr (.s 3) 1)), (.op (some 13) none (.load (.s 12) false 1))]
abbrev Q102 : AC := .run [(.op (some 15) none (.bin .eql (.s 13) (.k (.str [105, 102])))), (.op (some 14) none (.mv (.s 15)))]
abbrev Q103 : AC := .run [(.op (some 16) none (.bin .eql (.s 13) (.k (.str [119, 104, 105, 108, 101])))), (.op (some 14) none (.mv (.s 16)))]
abbrev Q104 : AC := .run [(.op (some 17) none (.bin .eql (.s 13) (.k (.str [98, 114, 101, 97, 107])))), (.op (some 14) none (.mv (.s 17)))]
abbrev Q105 : AC := .run [(.op (some 18) none (.bin .eql (.s 13) (.k (.str [99, 111, 110, 116, 105, 110, 117, 101])))), (.op (some 14) none (.mv (.s 18)))]
abbrev Q106 : AC := .run [(.op (some 19) none (.bin .eql (.s 13) (.k (.str [114, 101, 116, 117, 114, 110])))), (.op (some 14) none (.mv (.s 19)))]
abbrev Q107 : AC := .run [(.op (some 20) none (.bin .eql (.s 13) (.k (.str [103, 111, 116, 111])))), (.op (some 14) none (.mv (.s 20)))]
abbrev Q108 : AC := .run [(.op (some 21) none (.bin .eql (.s 13) (.k (.str [114, 101, 97, 100])))), (.op (some 14) none (.mv (.s 21)))]
abbrev Q109 : AC := .run [(.op (some 22) none (.bin .eql (.s 13) (.k (.str [112, 114, 105, 110, 116])))), (.op (some 14) none (.mv (.s 22)))]
abbrev Q10A : AC := .cond (.s 14) .skip Q109
abbrev Q10B : AC := .seq Q108 Q10A
abbrev Q10C : AC := .cond (.s 14) .skip Q10B
abbrev Q10D : AC := .seq Q107 Q10C
abbrev Q10E : AC := .cond (.s 14) .skip Q10D
abbrev Q10F : AC := .seq Q106 Q10E
abbrev Q10G : AC := .cond (.s 14) .skip Q10F
abbrev Q10H : AC := .seq Q105 Q10G
abbrev Q10I : AC := .cond (.s 14) .skip Q10H
abbrev Q10J : AC := .seq Q104 Q10I
abbrev Q10K : AC := .cond (.s 14) .skip Q10J
abbrev Q10L : AC := .seq Q103 Q10K
abbrev Q10M : AC := .cond (.s 14) .skip Q10L
abbrev Q10N : AC := .seq Q102 Q10M
abbrev Q10O : AC := .run [(.op (some 2) none (.mv (.k (.bool true))))]
abbrev Q10P : AC := .seq Q10O .ret
abbrev Q10Q : AC := .cond (.s 14) Q10P .skip
abbrev Q10R : AC := .seq Q10N Q10Q
abbrev Q10S : AC := .block 0 Q10R
abbrev Q10T : AC := .seq Q101 Q10S
abbrev Q10U : AC := .run [(.op (some 2) none (.mv (.k (.bool false))))]
abbrev Q10V : AC := .seq Q10U .ret
abbrev Q10W : AC := .seq Q10T Q10V
abbrev Q10X : AC := .seq Q100 Q10W
abbrev Q10Y : AC := .seq QZV Q10X
abbrev Q10Z : AC := .seq QZQ Q10Y
abbrev Q110 : AC := .seq QZP Q10Z
abbrev Q111 : AC := .run [(.op (some 2) none (.alloc [(.int .i64 0), (.int .i64 0), (.slice .full 0 []), (.str []), (.str []), (.int .i64 0), (.int .i64 0), (.str []), (.slice .full 0 []), (.bool false), (.slice .full 0 []), (.slice .full 0 []), (.slice .full 0 [])]))]
abbrev Q112 : AC := .run [(.op (some 5) none (.mv (.s 0))), (.call (some 6) none n_parse_reader_name [(.s 5), (.k (.bool true))]), (.op (some 3) none (.mv (.s 6)))]
abbrev Q113 : AC := .run [(.op (some 7) none (.mv (.s 0))), (.call (some 8) none n_parse_reader_is [(.s 7), (.k (.str [40]))])]
abbrev Q114 : AC := .run [(.op (some 9) none (.mv (.s 0))), (.op (some 10) none (.mv (.s 3))), (.call (some 11) none n_parse_reader_call [(.s 9), (.k (.str [])), (.s 10)]), (.op none none (.store (.s 2) (.s 11) 13))]
abbrev Q115 : AC := .seq Q114 .ret
abbrev Q116 : AC := .cond (.s 8) Q115 .skip
abbrev Q117 : AC := .seq Q113 Q116
abbrev Q118 : AC := .run [(.op (some 12) none (.mv (.s 0))), (.call (some 13) none n_parse_reader_want [(.s 12), (.k (.str [61]))])]
abbrev Q119 : AC := .par [(.op (some 14) none (.mv (.s 0))), (.call (some 15) none n_parse_reader_good [(.s 14)]), (.op (some 16) none (.mv (.s 15))), (.op (some 17) (some (16, true)) (.mv (.s 0))), (.call (some 18) (some (16, true)) n_parse_reader_peek [(.s 17)]), (.op (some 19) (some (16, true)) (.fld (.s 18) 0 false 1)), (.op (some 20) (some (16, true)) (.bin .eql (.s 19) (.k (.int .i64 1)))), (.op (some 21) none (.pick (.s 16) (.s 20) (.k (.bool false)))), (.op (some 22) none (.mv (.s 21))), (.op (some 23) (some (22, true)) (.mv (.s 0))), (.op (some 24) (some (22, true)) (.nilck (.s 23))), (.op (some 25) (some (22, true)) (.faddr (.s 24) 0)), (.op (some 26) (some (22, true)) (.load (.s 25) false 1)), (.op (some 27) (some (22, true)) (.mv (.s 0))), (.op (some 28) (some (22, true)) (.nilck (.s 27))), (.op (some 29) (some (22, true)) (.faddr (.s 28) 1)), (.op (some 30) (some (22, true)) (.load (.s 29) false 1)), (.op (some 31) (some (22, true)) (.bin .add (.s 30) (.k (.int .i64 1)))), (.op (some 32) (some (22, true)) (.iaddr (.s 26) (.s 31) 4)), (.op (some 33) (some (22, true)) (.faddr (.s 32) 0)), (.op (some 34) (some (22, true)) (.load (.s 33) false 1)), (.op (some 35) (some (22, true)) (.bin .eql (.s 34) (.k (.int .i64 4)))), (.op (some 36) none (.pick (.s 22) (.s 35) (.k (.bool false)))), (.op (some 37) none (.mv (.s 36))), (.op (some 38) (some (37, true)) (.mv (.s 0))), (.op (some 39) (some (37, true)) (.nilck (.s 38))), (.op (some 40) (some (37, true)) (.faddr (.s 39) 0)), (.op (some 41) (some (37, true)) (.load (.s 40) false 1)), (.op (some 42) (some (37, true)) (.mv (.s 0))), (.op (some 43) (some (37, true)) (.nilck (.s 42))), (.op (some 44) (some (37, true)) (.faddr (.s 43) 1)), (.op (some 45) (some (37, true)) (.load (.s 44) false 1)), (.op (some 46) (some (37, true)) (.bin .add (.s 45) (.k (.int .i64 1)))), (.op (some 47) (some (37, true)) (.iaddr (.s 41) (.s 46) 4)), (.op (some 48) (some (37, true)) (.faddr (.s 47) 1)), (.op (some 49) (some (37, true)) (.load (.s 48) false 1)), (.op (some 50) (some (37, true)) (.bin .eql (.s 49) (.k (.str [40])))), (.op (some 51) none (.pick (.s 37) (.s 50) (.k (.bool false))))] [(0, 0), (1, 0), (2, 0), (3, 0), (4, 0), (5, 0), (6, 0), (7, 0), (8, 0), (9, 0), (10, 0), (11, 0), (12, 0), (13, 0), (14, 0), (15, 0), (16, 0), (17, 0), (18, 0), (19, 0), (20, 0), (21, 0), (22, 0), (23, 0), (24, 0), (25, 0), (26, 0), (27, 0), (28, 0), (29, 0), (30, 0), (31, 0), (32, 0), (33, 0), (34, 0), (35, 0), (36, 0), (37, 0)]
abbrev Q11A : AC := .run [(.op (some 52) none (.mv (.s 0))), (.op (some 53) none (.mv (.s 3))), (.op (some 54) none (.mv (.s 0))), (.call (some 55) none n_parse_reader_name [(.s 54), (.k (.bool true))]), (.call (some 56) none n_parse_reader_call [(.s 52), (.s 53), (.s 55)]), (.op none none (.store (.s 2) (.s 56) 13))]
abbrev Q11B : AC := .seq Q11A .ret
abbrev Q11C : AC := .cond (.s 51) Q11B .skip
abbrev Q11D : AC := .seq Q119 Q11C
abbrev Q11E : AC := .run [(.op (some 57) none (.mv (.s 3))), (.op (some 58) none (.mv (.s 0))), (.call (some 59) none n_parse_reader_whole [(.s 58)]), (.op (some 60) none (.build [(.int .i64 0), (.int .i64 0), (.slice .full 0 []), (.str []), (.str []), (.int .i64 0), (.int .i64 0), (.str []), (.slice .full 0 []), (.bool false), (.slice .full 0 []), (.slice .full 0 []), (.slice .full 0 [])] [(1, (1, (.k (.int .i64 1)))), (3, (1, (.s 57))), (5, (4, (.s 59)))])), (.op (some 4) none (.alloc [(.int .i64 0), (.int .i64 0), (.slice .full 0 []), (.str []), (.str []), (.int .i64 0), (.int .i64 0), (.str []), (.slice .full 0 []), (.bool false), (.slice .full 0 []), (.slice .full 0 []), (.slice .full 0 [])])), (.op none none (.store (.s 4) (.s 60) 13))]
abbrev Q11F : AC := .run [(.op (some 61) none (.mv (.s 0))), (.call (some 62) none n_parse_reader_want [(.s 61), (.k (.str [59]))])]
abbrev Q11G : AC := .run [(.op (some 63) none (.load (.s 4) true 13)), (.op none none (.store (.s 2) (.s 63) 13))]
abbrev Q11H : AC := .seq Q11G .ret
abbrev Q11I : AC := .seq Q11F Q11H
abbrev Q11J : AC := .seq Q11E Q11I
abbrev Q11K : AC := .seq Q11D Q11J
abbrev Q11L : AC := .seq Q118 Q11K
abbrev Q11M : AC := .seq Q117 Q11L
abbrev Q11N : AC := .seq Q112 Q11M
abbrev Q11O : AC := .seq Q111 Q11N
abbrev Q11P : AC := .run [(.op (some 4) none (.alloc [(.int .i64 0), (.int .i64 0), (.slice .full 0 []), (.str []), (.str []), (.int .i64 0), (.int .i64 0), (.str []), (.slice .full 0 []), (.bool false), (.slice .full 0 []), (.slice .full 0 []), (.slice .full 0 [])]))]
abbrev Q11Q : AC := .run [(.op (some 6) none (.mv (.s 0))), (.call (some 7) none n_parse_reader_head [(.s 6)]), (.op (some 8) none (.build [(.int .i64 0), (.int .i64 0), (.slice .full 0 []), (.str []), (.str []), (.int .i64 0), (.int .i64 0), (.str []), (.slice .full 0 []), (.bool false), (.slice .full 0 []), (.slice .full 0 []), (.slice .full 0 [])] [(1, (1, (.k (.int .i64 5)))), (5, (4, (.s 7)))])), (.op (some 5) none (.alloc [(.int .i64 0), (.int .i64 0), (.slice .full 0 []), (.str []), (.str []), (.int .i64 0), (.int .i64 0), (.str []), (.slice .full 0 []), (.bool false), (.slice .full 0 []), (.slice .full 0 []), (.slice .full 0 [])])), (.op none none (.store (.s 5) (.s 8) 13))]
abbrev Q11R : AC := .run [(.op (some 9) none (.mv (.s 0))), (.op (some 10) none (.mv (.s 1))), (.call (some 11) none n_parse_reader_block [(.s 9), (.s 10)]), (.op (some 12) none (.faddr (.s 5) 11)), (.op none none (.store (.s 12) (.s 11) 1))]
abbrev Q11S : AC := .run [(.op (some 13) none (.mv (.s 0))), (.call (some 14) none n_parse_reader_take [(.s 13), (.k (.str [101, 108, 115, 101]))])]
abbrev Q11T : AC := .run [(.op (some 15) none (.mv (.s 0))), (.op (some 16) none (.mv (.s 1))), (.call (some 17) none n_parse_reader_block [(.s 15), (.s 16)]), (.op (some 18) none (.faddr (.s 5) 12)), (.op none none (.store (.s 18) (.s 17) 1))]
abbrev Q11U : AC := .cond (.s 14) Q11T .skip
abbrev Q11V : AC := .seq Q11S Q11U
abbrev Q11W : AC := .run [(.op (some 19) none (.load (.s 5) true 13)), (.op none none (.store (.s 4) (.s 19) 13))]
abbrev Q11X : AC := .seq Q11W .ret
abbrev Q11Y : AC := .seq Q11V Q11X
abbrev Q11Z : AC := .seq Q11R Q11Y
abbrev Q120 : AC := .seq Q11Q Q11Z
abbrev Q121 : AC := .seq Q11P Q120
abbrev Q122 : AC := .run [(.op (some 2) none (.alloc [(.int .i64 0), (.int .i64 0), (.str []), (.slice .full 0 [])]))]
abbrev Q123 : AC := .run [(.op (some 4) none (.mv (.s 0))), (.call (some 5) none n_parse_reader_want [(.s 4), (.k (.str [40]))])]
abbrev Q124 : AC := .run [(.op (some 6) none (.mv (.s 0))), (.call (some 7) none n_parse_reader_whole [(.s 6)]), (.op (some 3) none (.alloc [(.int .i64 0), (.int .i64 0), (.str []), (.slice .full 0 [])])), (.op none none (.store (.s 3) (.s 7) 4))]
abbrev Q125 : AC := .run [(.op (some 8) none (.mv (.s 0))), (.call (some 9) none n_parse_reader_want [(.s 8), (.k (.str [41]))])]
abbrev Q126 : AC := .run [(.op (some 10) none (.load (.s 3) true 4)), (.op none none (.store (.s 2) (.s 10) 4))]
abbrev Q127 : AC := .seq Q126 .ret
abbrev Q128 : AC := .seq Q125 Q127
abbrev Q129 : AC := .seq Q124 Q128
abbrev Q12A : AC := .seq Q123 Q129
abbrev Q12B : AC := .seq Q122 Q12A
abbrev Q12C : AC := .run [(.op (some 4) none (.mv (.k (.slice .full 0 []))))]
abbrev Q12D : AC := .run [(.op (some 7) none (.mv (.s 0))), (.call (some 8) none n_parse_reader_want [(.s 7), (.k (.str [123]))])]
abbrev Q12E : AC := .run [(.op (some 10) none (.mv (.s 0))), (.op (some 11) none (.mv (.s 1))), (.op (some 12) none (.bin .add (.s 11) (.k (.int .i64 1)))), (.call (some 13) none n_parse_reader_rows [(.s 10), (.s 12), (.k (.bool false))]), (.op (some 9) none (.mv (.s 13))), (.op (some 14) none (.ext (.s 9) 0)), (.op (some 15) none (.ext (.s 9) 1)), (.op (some 5) none (.mv (.s 14))), (.op (some 6) none (.mv (.s 15)))]
abbrev Q12F : AC := .run [(.op (some 16) none (.mv (.s 5))), (.op (some 4) none (.mv (.s 16)))]
abbrev Q12G : AC := .seq Q12F .ret
abbrev Q12H : AC := .seq Q12E Q12G
abbrev Q12I : AC := .seq Q12D Q12H
abbrev Q12J : AC := .seq Q12C Q12I
abbrev Q12K : AC := .run [(.op (some 4) none (.alloc [(.int .i64 0), (.int .i64 0), (.slice .full 0 []), (.str []), (.str []), (.int .i64 0), (.int .i64 0), (.str []), (.slice .full 0 []), (.bool false), (.slice .full 0 []), (.slice .full 0 []), (.slice .full 0 [])]))]
abbrev Q12L : AC := .run [(.op (some 5) none (.alloc [(.int .i64 0), (.int .i64 0), (.slice .full 0 []), (.str []), (.str []), (.int .i64 0), (.int .i64 0), (.str []), (.slice .full 0 []), (.bool false), (.slice .full 0 []), (.slice .full 0 []), (.slice .full 0 [])]))]
abbrev Q12M : AC := .run [(.op (some 6) none (.mv (.s 1)))]
abbrev Q12N : AC := .run [(.op (some 8) none (.bin .eql (.s 6) (.k (.str [98, 114, 101, 97, 107])))), (.op (some 7) none (.mv (.s 8)))]
abbrev Q12O : AC := .run [(.op (some 9) none (.faddr (.s 5) 1)), (.op none none (.store (.s 9) (.k (.int .i64 7)) 1))]
abbrev Q12P : AC := .run [(.op (some 11) none (.bin .eql (.s 6) (.k (.str [99, 111, 110, 116, 105, 110, 117, 101])))), (.op (some 10) none (.mv (.s 11)))]
abbrev Q12Q : AC := .run [(.op (some 12) none (.faddr (.s 5) 1)), (.op none none (.store (.s 12) (.k (.int .i64 8)) 1))]
abbrev Q12R : AC := .run [(.op (some 14) none (.bin .eql (.s 6) (.k (.str [114, 101, 116, 117, 114, 110])))), (.op (some 13) none (.mv (.s 14)))]
abbrev Q12S : AC := .run [(.op (some 15) none (.faddr (.s 5) 1)), (.op none none (.store (.s 15) (.k (.int .i64 9)) 1))]
abbrev Q12T : AC := .run [(.op (some 16) none (.mv (.s 0))), (.call (some 17) none n_parse_reader_is [(.s 16), (.k (.str [59]))]), (.op (some 18) none (.un .not (.s 17)))]
abbrev Q12U : AC := .run [(.op (some 19) none (.mv (.s 0))), (.call (some 20) none n_parse_reader_whole [(.s 19)]), (.op (some 21) none (.faddr (.s 5) 9)), (.op none none (.store (.s 21) (.k (.bool true)) 1)), (.op (some 22) none (.faddr (.s 5) 5)), (.op none none (.store (.s 22) (.s 20) 4))]
abbrev Q12V : AC := .cond (.s 18) Q12U .skip
abbrev Q12W : AC := .seq Q12T Q12V
abbrev Q12X : AC := .seq Q12S Q12W
abbrev Q12Y : AC := .run [(.op (some 24) none (.bin .eql (.s 6) (.k (.str [103, 111, 116, 111])))), (.op (some 23) none (.mv (.s 24)))]
abbrev Q12Z : AC := .run [(.op (some 25) none (.mv (.s 0))), (.call (some 26) none n_parse_reader_name [(.s 25), (.k (.bool true))]), (.op (some 27) none (.faddr (.s 5) 1)), (.op none none (.store (.s 27) (.k (.int .i64 10)) 1)), (.op (some 28) none (.faddr (.s 5) 3)), (.op none none (.store (.s 28) (.s 26) 1))]
abbrev Q130 : AC := .run [(.op (some 30) none (.bin .eql (.s 6) (.k (.str [114, 101, 97, 100])))), (.op (some 29) none (.mv (.s 30)))]
abbrev Q131 : AC := .run [(.op (some 31) none (.mv (.s 0))), (.call (some 32) none n_parse_reader_name [(.s 31), (.k (.bool true))]), (.op (some 33) none (.faddr (.s 5) 1)), (.op none none (.store (.s 33) (.k (.int .i64 2)) 1)), (.op (some 34) none (.faddr (.s 5) 3)), (.op none none (.store (.s 34) (.s 32) 1))]
abbrev Q132 : AC := .run [(.op (some 36) none (.bin .eql (.s 6) (.k (.str [112, 114, 105, 110, 116])))), (.op (some 35) none (.mv (.s 36)))]
abbrev Q133 : AC := .run [(.op (some 37) none (.mv (.s 0))), (.call (some 38) none n_parse_reader_whole [(.s 37)]), (.op (some 39) none (.faddr (.s 5) 1)), (.op none none (.store (.s 39) (.k (.int .i64 3)) 1)), (.op (some 40) none (.faddr (.s 5) 5)), (.op none none (.store (.s 40) (.s 38) 4))]
abbrev Q134 : AC := .cond (.s 35) Q133 .skip
abbrev Q135 : AC := .seq Q132 Q134
abbrev Q136 : AC := .cond (.s 29) Q131 Q135
abbrev Q137 : AC := .seq Q130 Q136
abbrev Q138 : AC := .cond (.s 23) Q12Z Q137
abbrev Q139 : AC := .seq Q12Y Q138
abbrev Q13A : AC := .cond (.s 13) Q12X Q139
abbrev Q13B : AC := .seq Q12R Q13A
abbrev Q13C : AC := .cond (.s 10) Q12Q Q13B
abbrev Q13D : AC := .seq Q12P Q13C
abbrev Q13E : AC := .cond (.s 7) Q12O Q13D
abbrev Q13F : AC := .seq Q12N Q13E
abbrev Q13G : AC := .block 0 Q13F
abbrev Q13H : AC := .seq Q12M Q13G
abbrev Q13I : AC := .run [(.op (some 41) none (.load (.s 5) true 13)), (.op none none (.store (.s 4) (.s 41) 13))]
abbrev Q13J : AC := .seq Q13I .ret
abbrev Q13K : AC := .seq Q13H Q13J
abbrev Q13L : AC := .seq Q12L Q13K
abbrev Q13M : AC := .seq Q12K Q13L
abbrev Q13N : AC := .run [(.op (some 6) none (.alloc [(.int .i64 0), (.int .i64 0), (.slice .full 0 []), (.str []), (.str []), (.int .i64 0), (.int .i64 0), (.str []), (.slice .full 0 []), (.bool false), (.slice .full 0 []), (.slice .full 0 []), (.slice .full 0 [])]))]
abbrev Q13O : AC := .run [(.op (some 8) none (.mv (.s 1))), (.op (some 9) none (.mv (.s 2))), (.op (some 10) none (.build [(.int .i64 0), (.int .i64 0), (.slice .full 0 []), (.str []), (.str []), (.int .i64 0), (.int .i64 0), (.str []), (.slice .full 0 []), (.bool false), (.slice .full 0 []), (.slice .full 0 []), (.slice .full 0 [])] [(1, (1, (.k (.int .i64 4)))), (3, (1, (.s 8))), (4, (1, (.s 9)))])), (.op (some 7) none (.alloc [(.int .i64 0), (.int .i64 0), (.slice .full 0 []), (.str []), (.str []), (.int .i64 0), (.int .i64 0), (.str []), (.slice .full 0 []), (.bool false), (.slice .full 0 []), (.slice .full 0 []), (.slice .full 0 [])])), (.op none none (.store (.s 7) (.s 10) 13))]
abbrev Q13P : AC := .run [(.op (some 11) none (.mv (.s 0))), (.call (some 12) none n_parse_reader_want [(.s 11), (.k (.str [40]))])]
abbrev Q13Q : AC := .run [(.op (some 13) none (.mv (.s 0))), (.call (some 14) none n_parse_reader_good [(.s 13)]), (.op (some 15) none (.mv (.s 14))), (.op (some 16) (some (15, true)) (.mv (.s 0))), (.call (some 17) (some (15, true)) n_parse_reader_is [(.s 16), (.k (.str [41]))]), (.op (some 18) (some (15, true)) (.un .not (.s 17))), (.op (some 19) none (.pick (.s 15) (.s 18) (.k (.bool false))))]
abbrev Q13R : AC := .run [(.op (some 20) none (.mv (.s 0))), (.call (some 21) none n_parse_reader_good [(.s 20)])]
abbrev Q13S : AC := .cond (.s 21) .skip (.exit 0)
abbrev Q13T : AC := .seq Q13R Q13S
abbrev Q13U : AC := .run [(.op (some 22) none (.mv (.s 0))), (.call (some 23) none n_parse_reader_take [(.s 22), (.k (.str [114, 101, 102]))])]
abbrev Q13V : AC := .par [(.op (some 24) none (.faddr (.s 7) 10)), (.op (some 25) none (.load (.s 24) false 1)), (.op (some 26) none (.mv (.s 0))), (.call (some 27) none n_parse_reader_name [(.s 26), (.k (.bool true))]), (.op (some 28) none (.build [(.bool false), (.str []), (.int .i64 0), (.int .i64 0), (.str []), (.slice .full 0 [])] [(0, (1, (.k (.bool true)))), (1, (1, (.s 27)))])), (.op (some 29) none (.bslice [(.bool false), (.str []), (.int .i64 0), (.int .i64 0), (.str []), (.slice .full 0 [])] 6 1 [(0, (.s 28))])), (.op (some 30) none (.app 6 80 (.s 25) (.s 29))), (.op (some 31) none (.faddr (.s 7) 10)), (.op none none (.store (.s 31) (.s 30) 1))] [(2, 0), (3, 0), (0, 0), (1, 1), (4, 0), (5, 0), (6, 0), (7, 0), (8, 0)]
abbrev Q13W : AC := .par [(.op (some 32) none (.faddr (.s 7) 10)), (.op (some 33) none (.load (.s 32) false 1)), (.op (some 34) none (.mv (.s 0))), (.call (some 35) none n_parse_reader_whole [(.s 34)]), (.op (some 36) none (.build [(.bool false), (.str []), (.int .i64 0), (.int .i64 0), (.str []), (.slice .full 0 [])] [(2, (4, (.s 35)))])), (.op (some 37) none (.bslice [(.bool false), (.str []), (.int .i64 0), (.int .i64 0), (.str []), (.slice .full 0 [])] 6 1 [(0, (.s 36))])), (.op (some 38) none (.app 6 80 (.s 33) (.s 37))), (.op (some 39) none (.faddr (.s 7) 10)), (.op none none (.store (.s 39) (.s 38) 1))] [(2, 0), (3, 0), (0, 0), (1, 1), (4, 0), (5, 0), (6, 0), (7, 0), (8, 0)]
abbrev Q13X : AC := .cond (.s 23) Q13V Q13W
abbrev Q13Y : AC := .seq Q13U Q13X
abbrev Q13Z : AC := .run [(.op (some 40) none (.mv (.s 0))), (.call (some 41) none n_parse_reader_take [(.s 40), (.k (.str [44]))]), (.op (some 42) none (.un .not (.s 41)))]
abbrev Q140 : AC := .cond (.s 42) (.exit 0) .skip
abbrev Q141 : AC := .seq Q13Z Q140
abbrev Q142 : AC := .seq Q13Y Q141
abbrev Q143 : AC := .block 1 Q142
abbrev Q144 : AC := .seq Q13T Q143
abbrev Q145 : AC := .loop Q144
abbrev Q146 : AC := .block 0 Q145
abbrev Q147 : AC := .cond (.s 19) Q146 .skip
abbrev Q148 : AC := .seq Q13Q Q147
abbrev Q149 : AC := .run [(.op (some 43) none (.mv (.s 0))), (.call (some 44) none n_parse_reader_want [(.s 43), (.k (.str [41]))])]
abbrev Q14A : AC := .run [(.op (some 45) none (.mv (.s 0))), (.call (some 46) none n_parse_reader_want [(.s 45), (.k (.str [59]))])]
abbrev Q14B : AC := .run [(.op (some 47) none (.load (.s 7) true 13)), (.op none none (.store (.s 6) (.s 47) 13))]
abbrev Q14C : AC := .seq Q14B .ret
abbrev Q14D : AC := .seq Q14A Q14C
abbrev Q14E : AC := .seq Q149 Q14D
abbrev Q14F : AC := .seq Q148 Q14E
abbrev Q14G : AC := .seq Q13P Q14F
abbrev Q14H : AC := .seq Q13O Q14G
abbrev Q14I : AC := .seq Q13N Q14H

end Go.Abs

/-! Have3 -/

namespace Go.Abs
open Go.Proofs

theorem has_parse_reader_name : Has Try.prog n_parse_reader_name 31 [(4, none)] QSL := ⟨Try.f100, by kernel_rfl, by kernel_rfl⟩
theorem has_parse_reader_want : Has Try.prog n_parse_reader_want 10 [] QSP := ⟨Try.f101, by kernel_rfl, by kernel_rfl⟩
theorem has_parse_reader_rows : Has Try.prog n_parse_reader_rows 43 [(6, none), (7, none)] QTI := ⟨Try.f102, by kernel_rfl, by kernel_rfl⟩
theorem has_tree_expr : Has Try.prog n_tree_expr 24 [(2, (some (true, 4)))] QU5 := ⟨Try.f103, by kernel_rfl, by kernel_rfl⟩
theorem has_parse_reader_one : Has Try.prog n_parse_reader_one 64 [(2, (some (true, 4)))] QVI := ⟨Try.f108, by kernel_rfl, by kernel_rfl⟩
theorem has_parse_op : Has Try.prog n_parse_op 35 [(2, none), (3, none)] QXP := ⟨Try.f109, by kernel_rfl, by kernel_rfl⟩
theorem has_parse_reader_labels : Has Try.prog n_parse_reader_labels 56 [(2, none)] QY6 := ⟨Try.f112, by kernel_rfl, by kernel_rfl⟩
theorem has_parse_reader_stmt : Has Try.prog n_parse_reader_stmt 71 [(4, (some (true, 13)))] QZO := ⟨Try.f113, by kernel_rfl, by kernel_rfl⟩
theorem has_parse_reader_begins : Has Try.prog n_parse_reader_begins 23 [(2, none)] Q110 := ⟨Try.f116, by kernel_rfl, by kernel_rfl⟩
theorem has_parse_reader_named : Has Try.prog n_parse_reader_named 64 [(2, (some (true, 13)))] Q11O := ⟨Try.f117, by kernel_rfl, by kernel_rfl⟩
theorem has_parse_reader_choice : Has Try.prog n_parse_reader_choice 20 [(4, (some (true, 13)))] Q121 := ⟨Try.f118, by kernel_rfl, by kernel_rfl⟩
theorem has_parse_reader_head : Has Try.prog n_parse_reader_head 11 [(2, (some (true, 4)))] Q12B := ⟨Try.f119, by kernel_rfl, by kernel_rfl⟩
theorem has_parse_reader_block : Has Try.prog n_parse_reader_block 17 [(4, none)] Q12J := ⟨Try.f120, by kernel_rfl, by kernel_rfl⟩
theorem has_parse_reader_plain : Has Try.prog n_parse_reader_plain 42 [(4, (some (true, 13)))] Q13M := ⟨Try.f121, by kernel_rfl, by kernel_rfl⟩
theorem has_parse_reader_call : Has Try.prog n_parse_reader_call 48 [(6, (some (true, 13)))] Q14I := ⟨Try.f123, by kernel_rfl, by kernel_rfl⟩
end Go.Abs

/-! Prs -/

namespace Go.Abs

set_option maxRecDepth 8000
set_option linter.unusedSimpArgs false
set_option linter.unusedVariables false
open Go.Proofs

@[go_sem] def encRd (r : Rd) : List D := [.slice .shared 4 (r.l.map encTok), .int .i64 r.i, .int .i64 r.code, .int .i64 r.fat, .int .i64 r.n]
theorem okRd (r : Rd) : D.oks 0 0 (encRd r) = true := by simp [encRd, D.oks, D.ok, Tag.ok, okrTok]

theorem peek_lt {r : Rd} {t : Tok} (h : r.peek = some t) : r.i < 4611686018427387904 := (peek_get h).1
theorem is_lt {r : Rd} {s : Str} {t : Bool} (h : r.is s = some t) : r.i < 4611686018427387904 := by
  obtain ⟨t, h1, h⟩ := Option.bind_eq_some_iff.1 h
  exact peek_lt h1

-- good
theorem good_0 (l : List Tok) (i c f n : Int) : Fun Try.prog n_parse_reader_good [.ptr 0 0] ⟨[[.slice .shared 4 (l.map encTok), .int .i64 i, .int .i64 c, .int .i64 f, .int .i64 n]], []⟩ (.bool (c == 0)) ⟨[[.slice .shared 4 (l.map encTok), .int .i64 i, .int .i64 c, .int .i64 f, .int .i64 n]], []⟩ := by
  refine Fun.go has_parse_reader_good rfl fun B Q hB hQ => ?_
  have hlt : 0 < 1 := Nat.zero_lt_one
  have hget : 0 < 1 := Nat.zero_lt_one
  have hpu : 0 < 1 := Nat.zero_lt_one
  have hinc : 0 < 1 := Nat.zero_lt_one
  repeat' (first
 | simp only [go_sem, hlt, hget, hpu, hinc, Int.reduceLE, ↓reduceIte, reduceCtorEq, Nat.reduceEqDiff, Nat.reduceLeDiff, Nat.reduceAdd, Nat.reduceMul, Nat.reduceSub, Nat.reduceLT, fgrTok]
 | (with_reducible first | refine CB_ofT (by assumption) fun hc => ?_ | refine CB_ofF (by assumption) fun hc => ?_ | refine CB_split (fun hc => ?_) fun hc => ?_) <;> (try simp only [hc, bs, ↓reduceIte] at h) <;> (try simp only [hc])
 | ((with_reducible first | refine leafR hQ ?_ | refine leafN hQ ?_); (try cases h); simp only [resL, oneD, Option.some.injEq, exists_eq_left', go_sem, hlt, hget, hpu, hinc, Int.reduceLE, ↓reduceIte, reduceCtorEq, Nat.reduceEqDiff, Nat.reduceLeDiff, Nat.reduceAdd, Nat.reduceMul, Nat.reduceSub, Nat.reduceLT, fgrTok]; repeat' (first | exact Ok.out | with_reducible refine And.intro ?_ ?_ | (simp; done)))
 | (cases h; replace h := hr; clear hr; (try simp only [bs, ↓reduceIte] at h))
 | (cases h; done))
theorem good_s {l : List Tok} {i c f n : Int} {s : St} {o : Nat} (ho : s.objs[o]? = some [.slice .shared 4 (l.map encTok), .int .i64 i, .int .i64 c, .int .i64 f, .int .i64 n]) : Fun Try.prog n_parse_reader_good [.ptr o 0] s (.bool (c == 0)) ⟨s.objs.set o [.slice .shared 4 (l.map encTok), .int .i64 i, .int .i64 c, .int .i64 f, .int .i64 n], s.toks⟩ :=
  have hk : D.oks 0 0 [.slice .shared 4 (l.map encTok), .int .i64 i, .int .i64 c, .int .i64 f, .int .i64 n] = true := by simp [D.oks, D.ok, Tag.ok, okrTok]
  Fun.meth (good_0 l i c f n) rfl hk hk rfl ho
theorem peek_0 {r : Rd} {t : Tok} (h : r.peek = some t) : Fun Try.prog n_parse_reader_peek [.ptr 0 0] ⟨[encRd r], []⟩ (.agg (encTok t)) ⟨[encRd r], []⟩ := by
  obtain ⟨h2, h, _, _⟩ := peek_get h
  refine Fun.go has_parse_reader_peek rfl fun B Q hB hQ => ?_
  have hlt : 0 < 1 := Nat.zero_lt_one
  have hget : 0 < 1 := Nat.zero_lt_one
  have hpu : 0 < 1 := Nat.zero_lt_one
  have hinc : 0 < 1 := Nat.zero_lt_one
  repeat' (first
 | simp only [go_sem, hlt, hget, hpu, hinc, Int.reduceLE, ↓reduceIte, reduceCtorEq, Nat.reduceEqDiff, Nat.reduceLeDiff, Nat.reduceAdd, Nat.reduceMul, Nat.reduceSub, Nat.reduceLT, fgrTok, h]
 | (with_reducible first | refine CB_ofT (by assumption) fun hc => ?_ | refine CB_ofF (by assumption) fun hc => ?_ | refine CB_split (fun hc => ?_) fun hc => ?_) <;> (try simp only [hc, bs, ↓reduceIte] at h) <;> (try simp only [hc])
 | ((with_reducible first | refine leafR hQ ?_ | refine leafN hQ ?_); (try cases h); simp only [resL, oneD, Option.some.injEq, exists_eq_left', go_sem, hlt, hget, hpu, hinc, Int.reduceLE, ↓reduceIte, reduceCtorEq, Nat.reduceEqDiff, Nat.reduceLeDiff, Nat.reduceAdd, Nat.reduceMul, Nat.reduceSub, Nat.reduceLT, fgrTok, h]; repeat' (first | exact Ok.out | with_reducible refine And.intro ?_ ?_ | (simp; done)))
 | (cases h; replace h := hr; clear hr; (try simp only [bs, ↓reduceIte] at h))
 | (cases h; done))
theorem peek_s {r : Rd} {t : Tok} (h : r.peek = some t) {s : St} {o : Nat} (ho : s.objs[o]? = some (encRd r)) : Fun Try.prog n_parse_reader_peek [.ptr o 0] s (.agg (encTok t)) ⟨s.objs.set o (encRd r), s.toks⟩ :=
  (peek_0 h).meth rfl (okRd r) (okRd r) (okTok t) ho
theorem is_0 {r : Rd} {text : Str} {b : Bool} (h : r.is text = some b) : Fun Try.prog n_parse_reader_is [.ptr 0 0, .str text] ⟨[encRd r], []⟩ (.bool b) ⟨[encRd r], []⟩ := by
  unfold Rd.is at h
  refine Fun.go has_parse_reader_is rfl fun B Q hB hQ => ?_
  have hlt : 0 < 1 := Nat.zero_lt_one
  have hget : 0 < 1 := Nat.zero_lt_one
  have hpu : 0 < 1 := Nat.zero_lt_one
  have hinc : 0 < 1 := Nat.zero_lt_one
  repeat' (first
 | simp only [go_sem, hlt, hget, hpu, hinc, Int.reduceLE, ↓reduceIte, reduceCtorEq, Nat.reduceEqDiff, Nat.reduceLeDiff, Nat.reduceAdd, Nat.reduceMul, Nat.reduceSub, Nat.reduceLT, fgrTok]
 | (rw [Option.bind_eq_some_iff] at h; obtain ⟨_, h1, h⟩ := h; first | (with_reducible refine CU (peek_s h1 (by with_unfolding_all rfl)) ?_))
 | (with_reducible first | refine CB_ofT (by assumption) fun hc => ?_ | refine CB_ofF (by assumption) fun hc => ?_ | refine CB_split (fun hc => ?_) fun hc => ?_) <;> (try simp only [hc, bs, ↓reduceIte] at h) <;> (try simp only [hc])
 | ((with_reducible first | refine leafR hQ ?_ | refine leafN hQ ?_); (try cases h); simp only [resL, oneD, Option.some.injEq, exists_eq_left', go_sem, hlt, hget, hpu, hinc, Int.reduceLE, ↓reduceIte, reduceCtorEq, Nat.reduceEqDiff, Nat.reduceLeDiff, Nat.reduceAdd, Nat.reduceMul, Nat.reduceSub, Nat.reduceLT, fgrTok]; repeat' (first | exact Ok.out | with_reducible refine And.intro ?_ ?_ | (simp; done)))
 | (cases h; replace h := hr; clear hr; (try simp only [bs, ↓reduceIte] at h))
 | (cases h; done))
theorem is_s {r : Rd} {text : Str} {b : Bool} (h : r.is text = some b) {s : St} {o : Nat} (ho : s.objs[o]? = some (encRd r)) : Fun Try.prog n_parse_reader_is [.ptr o 0, .str text] s (.bool b) ⟨s.objs.set o (encRd r), s.toks⟩ :=
  (is_0 h).meth rfl (okRd r) (okRd r) rfl ho
theorem bad_0 {r r' : Rd} {c : Int} (h : r.bad c = some r') : Fun Try.prog n_parse_reader_bad [.ptr 0 0, .int .i64 c] ⟨[encRd r], []⟩ (.tuple []) ⟨[encRd r'], []⟩ := by
  unfold Rd.bad at h
  refine Fun.go has_parse_reader_bad rfl fun B Q hB hQ => ?_
  have hlt : 0 < 1 := Nat.zero_lt_one
  have hget : 0 < 1 := Nat.zero_lt_one
  have hpu : 0 < 1 := Nat.zero_lt_one
  have hinc : 0 < 1 := Nat.zero_lt_one
  repeat' (first
 | simp only [go_sem, hlt, hget, hpu, hinc, Int.reduceLE, ↓reduceIte, reduceCtorEq, Nat.reduceEqDiff, Nat.reduceLeDiff, Nat.reduceAdd, Nat.reduceMul, Nat.reduceSub, Nat.reduceLT, fgrTok]
 | (rw [Option.bind_eq_some_iff] at h; obtain ⟨_, h1, h⟩ := h; first | (with_reducible refine CU (peek_s h1 (by with_unfolding_all rfl)) ?_))
 | (with_reducible refine CU (good_s (by with_unfolding_all rfl)) ?_)
 | (with_reducible first | refine CB_ofT (by assumption) fun hc => ?_ | refine CB_ofF (by assumption) fun hc => ?_ | refine CB_split (fun hc => ?_) fun hc => ?_) <;> (try simp only [hc, bs, ↓reduceIte] at h) <;> (try simp only [hc])
 | ((with_reducible first | refine leafR hQ ?_ | refine leafN hQ ?_); (try cases h); simp only [resL, oneD, Option.some.injEq, exists_eq_left', go_sem, hlt, hget, hpu, hinc, Int.reduceLE, ↓reduceIte, reduceCtorEq, Nat.reduceEqDiff, Nat.reduceLeDiff, Nat.reduceAdd, Nat.reduceMul, Nat.reduceSub, Nat.reduceLT, fgrTok]; repeat' (first | exact Ok.out | with_reducible refine And.intro ?_ ?_ | (simp; done)))
 | (cases h; replace h := hr; clear hr; (try simp only [bs, ↓reduceIte] at h))
 | (cases h; done))
theorem bad_s {r r' : Rd} {c : Int} (h : r.bad c = some r') {s : St} {o : Nat} (ho : s.objs[o]? = some (encRd r)) : Fun Try.prog n_parse_reader_bad [.ptr o 0, .int .i64 c] s (.tuple []) ⟨s.objs.set o (encRd r'), s.toks⟩ :=
  (bad_0 h).meth rfl (okRd r) (okRd r') rfl ho
theorem take_0 {r : Rd} {text : Str} {p : Bool × Rd} (h : r.take text = some p) : Fun Try.prog n_parse_reader_take [.ptr 0 0, .str text] ⟨[encRd r], []⟩ (.bool p.1) ⟨[encRd p.2], []⟩ := by
  unfold Rd.take at h
  refine Fun.go has_parse_reader_take rfl fun B Q hB hQ => ?_
  have hlt : 0 < 1 := Nat.zero_lt_one
  have hget : 0 < 1 := Nat.zero_lt_one
  have hpu : 0 < 1 := Nat.zero_lt_one
  have hinc : 0 < 1 := Nat.zero_lt_one
  repeat' (first
 | simp only [go_sem, hlt, hget, hpu, hinc, Int.reduceLE, ↓reduceIte, reduceCtorEq, Nat.reduceEqDiff, Nat.reduceLeDiff, Nat.reduceAdd, Nat.reduceMul, Nat.reduceSub, Nat.reduceLT, fgrTok]
 | (rw [Option.bind_eq_some_iff] at h; obtain ⟨_, h1, h⟩ := h; first | (with_reducible refine CU (is_s h1 (by with_unfolding_all rfl)) ?_; have hlt := is_lt h1))
 | (with_reducible refine CU (good_s (by with_unfolding_all rfl)) ?_)
 | (with_reducible first | refine CB_ofT (by assumption) fun hc => ?_ | refine CB_ofF (by assumption) fun hc => ?_ | refine CB_split (fun hc => ?_) fun hc => ?_) <;> (try simp only [hc, bs, ↓reduceIte] at h) <;> (try simp only [hc])
 | ((with_reducible first | refine leafR hQ ?_ | refine leafN hQ ?_); (try cases h); simp only [resL, oneD, Option.some.injEq, exists_eq_left', go_sem, hlt, hget, hpu, hinc, Int.reduceLE, ↓reduceIte, reduceCtorEq, Nat.reduceEqDiff, Nat.reduceLeDiff, Nat.reduceAdd, Nat.reduceMul, Nat.reduceSub, Nat.reduceLT, fgrTok]; repeat' (first | exact Ok.out | with_reducible refine And.intro ?_ ?_ | (simp; done)))
 | (cases h; replace h := hr; clear hr; (try simp only [bs, ↓reduceIte] at h))
 | (cases h; done))
theorem take_s {r : Rd} {text : Str} {p : Bool × Rd} (h : r.take text = some p) {s : St} {o : Nat} (ho : s.objs[o]? = some (encRd r)) : Fun Try.prog n_parse_reader_take [.ptr o 0, .str text] s (.bool p.1) ⟨s.objs.set o (encRd p.2), s.toks⟩ :=
  (take_0 h).meth rfl (okRd r) (okRd p.2) rfl ho
theorem want_0 {r r' : Rd} {text : Str} (h : r.want text = some r') : Fun Try.prog n_parse_reader_want [.ptr 0 0, .str text] ⟨[encRd r], []⟩ (.tuple []) ⟨[encRd r'], []⟩ := by
  unfold Rd.want at h
  refine Fun.go has_parse_reader_want rfl fun B Q hB hQ => ?_
  have hlt : 0 < 1 := Nat.zero_lt_one
  have hget : 0 < 1 := Nat.zero_lt_one
  have hpu : 0 < 1 := Nat.zero_lt_one
  have hinc : 0 < 1 := Nat.zero_lt_one
  repeat' (first
 | simp only [go_sem, hlt, hget, hpu, hinc, Int.reduceLE, ↓reduceIte, reduceCtorEq, Nat.reduceEqDiff, Nat.reduceLeDiff, Nat.reduceAdd, Nat.reduceMul, Nat.reduceSub, Nat.reduceLT, fgrTok]
 | (rw [Option.bind_eq_some_iff] at h; obtain ⟨_, h1, h⟩ := h; first | (with_reducible refine CU (take_s h1 (by with_unfolding_all rfl)) ?_))
 | (with_reducible refine CU (bad_s h (by with_unfolding_all rfl)) ?_)
 | (with_reducible first | refine CB_ofT (by assumption) fun hc => ?_ | refine CB_ofF (by assumption) fun hc => ?_ | refine CB_split (fun hc => ?_) fun hc => ?_) <;> (try simp only [hc, bs, ↓reduceIte] at h) <;> (try simp only [hc])
 | ((with_reducible first | refine leafR hQ ?_ | refine leafN hQ ?_); (try cases h); simp only [resL, oneD, Option.some.injEq, exists_eq_left', go_sem, hlt, hget, hpu, hinc, Int.reduceLE, ↓reduceIte, reduceCtorEq, Nat.reduceEqDiff, Nat.reduceLeDiff, Nat.reduceAdd, Nat.reduceMul, Nat.reduceSub, Nat.reduceLT, fgrTok]; repeat' (first | exact Ok.out | with_reducible refine And.intro ?_ ?_ | (simp; done)))
 | (cases h; replace h := hr; clear hr; (try simp only [bs, ↓reduceIte] at h))
 | (cases h; done))
theorem want_s {r r' : Rd} {text : Str} (h : r.want text = some r') {s : St} {o : Nat} (ho : s.objs[o]? = some (encRd r)) : Fun Try.prog n_parse_reader_want [.ptr o 0, .str text] s (.tuple []) ⟨s.objs.set o (encRd r'), s.toks⟩ :=
  (want_0 h).meth rfl (okRd r) (okRd r') rfl ho
theorem name_0 {r : Rd} {room : Bool} {p : Str × Rd} (h : r.name room = some p) : Fun Try.prog n_parse_reader_name [.ptr 0 0, .bool room] ⟨[encRd r], []⟩ (.str p.1) ⟨[encRd p.2], []⟩ := by
  unfold Rd.name at h
  refine Fun.go has_parse_reader_name rfl fun B Q hB hQ => ?_
  have hlt : 0 < 1 := Nat.zero_lt_one
  have hget : 0 < 1 := Nat.zero_lt_one
  have hpu : 0 < 1 := Nat.zero_lt_one
  have hinc : 0 < 1 := Nat.zero_lt_one
  repeat' (first
 | simp only [go_sem, hlt, hget, hpu, hinc, Int.reduceLE, ↓reduceIte, reduceCtorEq, Nat.reduceEqDiff, Nat.reduceLeDiff, Nat.reduceAdd, Nat.reduceMul, Nat.reduceSub, Nat.reduceLT, fgrTok]
 | (rw [Option.bind_eq_some_iff] at h; obtain ⟨_, h1, h⟩ := h; first | (with_reducible refine CU (peek_s h1 (by with_unfolding_all rfl)) ?_; have hlt := peek_lt h1) | (with_reducible refine CU (bad_s h1 (by with_unfolding_all rfl)) ?_))
 | (with_reducible refine CU (good_s (by with_unfolding_all rfl)) ?_)
 | (with_reducible first | refine CB_ofT (by assumption) fun hc => ?_ | refine CB_ofF (by assumption) fun hc => ?_ | refine CB_split (fun hc => ?_) fun hc => ?_) <;> (try simp only [hc, bs, ↓reduceIte] at h) <;> (try simp only [hc])
 | ((with_reducible first | refine leafR hQ ?_ | refine leafN hQ ?_); (try cases h); simp only [resL, oneD, Option.some.injEq, exists_eq_left', go_sem, hlt, hget, hpu, hinc, Int.reduceLE, ↓reduceIte, reduceCtorEq, Nat.reduceEqDiff, Nat.reduceLeDiff, Nat.reduceAdd, Nat.reduceMul, Nat.reduceSub, Nat.reduceLT, fgrTok]; repeat' (first | exact Ok.out | with_reducible refine And.intro ?_ ?_ | (simp; done)))
 | (cases h; replace h := hr; clear hr; (try simp only [bs, ↓reduceIte] at h))
 | (cases h; done))
theorem name_s {r : Rd} {room : Bool} {p : Str × Rd} (h : r.name room = some p) {s : St} {o : Nat} (ho : s.objs[o]? = some (encRd r)) : Fun Try.prog n_parse_reader_name [.ptr o 0, .bool room] s (.str p.1) ⟨s.objs.set o (encRd p.2), s.toks⟩ :=
  (name_0 h).meth rfl (okRd r) (okRd p.2) rfl ho
end Go.Abs

/-! Prs2 -/

namespace Go.Abs

set_option maxRecDepth 8000
set_option linter.unusedSimpArgs false
set_option linter.unusedVariables false
open Go.Proofs

theorem op_0 {t : Tok} {p : Int × Int} (h : opOf t = p) : Fun Try.prog n_parse_op [.agg (encTok t)] S0 (.tuple [.int .i64 p.1, .int .i64 p.2]) S0 := by
  unfold opOf at h
  unfold S0
  refine Fun.go has_parse_op rfl fun B Q hB hQ => ?_
  have hlt : 0 < 1 := Nat.zero_lt_one
  have hget : 0 < 1 := Nat.zero_lt_one
  have hpu : 0 < 1 := Nat.zero_lt_one
  have hinc : 0 < 1 := Nat.zero_lt_one
  repeat' (first
 | simp only [go_sem, hlt, hget, hpu, hinc, Int.reduceLE, ↓reduceIte, reduceCtorEq, Nat.reduceEqDiff, Nat.reduceLeDiff, Nat.reduceAdd, Nat.reduceMul, Nat.reduceSub, Nat.reduceLT]
 | (with_reducible first | refine CB_ofT (by assumption) fun hc => ?_ | refine CB_ofF (by assumption) fun hc => ?_ | refine CB_split (fun hc => ?_) fun hc => ?_) <;> (try simp only [hc, bs, ↓reduceIte] at h) <;> (try simp only [hc])
 | ((with_reducible first | refine leafR hQ ?_ | refine leafN hQ ?_); (try cases h); simp only [resL, oneD, Option.some.injEq, exists_eq_left', go_sem, hlt, hget, hpu, hinc, Int.reduceLE, ↓reduceIte, reduceCtorEq, Nat.reduceEqDiff, Nat.reduceLeDiff, Nat.reduceAdd, Nat.reduceMul, Nat.reduceSub, Nat.reduceLT]; repeat' (first | exact Ok.out | with_reducible refine And.intro ?_ ?_ | (simp; done)))
 | (cases h; replace h := hr; clear hr; (try simp only [bs, ↓reduceIte] at h))
 | (cases h; done))

theorem depth_n : ∀ n, n < 4611686018427387904 → ∀ x : Ex, x.size ≤ n → Fun Try.prog n_parse_depth [.agg (encEx x)] S0 (.int .i64 (x.depth : Int)) S0 := by
  intro n
  induction n with
  | zero => rintro _ ⟨op, m, name, kids⟩ h; simp only [Ex.size] at h; omega
  | succ n ihn =>
  rintro hn ⟨op, m, name, kids⟩ hx
  have hk : ∀ y ∈ kids, Fun Try.prog n_parse_depth [.agg (encEx y)] S0 (.int .i64 (y.depth : Int)) S0 := fun y hy => ihn (by omega) y (by simp only [Ex.size] at hx; have := Ex.sizes_mem hy; omega)
  have hlen : kids.length < 4611686018427387904 := by simp only [Ex.size] at hx; have := Ex.sizes_len kids; omega
  have hdep : Ex.depths kids < 4611686018427387904 := by have := Ex.depth_size _ _ hx; simp only [Ex.depth] at this; omega
  unfold S0
  refine Fun.go has_parse_depth rfl fun B Q hB hQ => ?_
  have hlt : 0 < 1 := Nat.zero_lt_one
  have hget : 0 < 1 := Nat.zero_lt_one
  have hpu : 0 < 1 := Nat.zero_lt_one
  have hinc : 0 < 1 := Nat.zero_lt_one
  repeat' (first
 | simp only [go_sem, hlt, hget, hpu, hinc, Int.reduceLE, ↓reduceIte, reduceCtorEq, Nat.reduceEqDiff, Nat.reduceLeDiff, Nat.reduceAdd, Nat.reduceMul, Nat.reduceSub, Nat.reduceLT]
 | (with_reducible first | refine CB_ofT (by assumption) fun hc => ?_ | refine CB_ofF (by assumption) fun hc => ?_ | refine CB_split (fun hc => ?_) fun hc => ?_) <;> (try simp only [hc, bs, ↓reduceIte] at h) <;> (try simp only [hc])
 | ((with_reducible first | refine leafR hQ ?_ | refine leafN hQ ?_); (try cases h); simp only [resL, oneD, Option.some.injEq, exists_eq_left', go_sem, hlt, hget, hpu, hinc, Int.reduceLE, ↓reduceIte, reduceCtorEq, Nat.reduceEqDiff, Nat.reduceLeDiff, Nat.reduceAdd, Nat.reduceMul, Nat.reduceSub, Nat.reduceLT]; repeat' (first | exact Ok.out | with_reducible refine And.intro ?_ ?_ | (simp; done)))
 | (cases h; replace h := hr; clear hr; (try simp only [bs, ↓reduceIte] at h))
 | (cases h; done))
  refine SemL.re _ _ 0 0 (by rw [hB]; exact Nat.le_of_ble_eq_true rfl) (by rw [hB]; exact Nat.le_of_ble_eq_true rfl) ?_ ?_ (SemL.ind (ι := List Ex × Nat × Nat) (fun i => kids.drop i.2.1 = i.1 ∧ max i.2.2 (Ex.depths i.1) = Ex.depths kids) (fun i => i.1.length)
    (fun i => [(3, .int .i64 (i.2.2 : Int)), (7, .slice .shared 4 (kids.map encEx)), (8, .int .i64 (kids.length : Int)), (9, .int .i64 (i.2.1 : Int))]) (fun _ => S0) ?_ (kids, 0, 0) ⟨rfl, by simp⟩)
  · (simp only [go_sem, hlt, hget, hpu, hinc, Int.reduceLE, ↓reduceIte, reduceCtorEq, Nat.reduceEqDiff, Nat.reduceLeDiff, Nat.reduceAdd, Nat.reduceMul, Nat.reduceSub, Nat.reduceLT]; repeat' (first | exact Ok.out | with_reducible refine And.intro ?_ ?_))
  · (simp only [go_sem, hlt, hget, hpu, hinc, Int.reduceLE, ↓reduceIte, reduceCtorEq, Nat.reduceEqDiff, Nat.reduceLeDiff, Nat.reduceAdd, Nat.reduceMul, Nat.reduceSub, Nat.reduceLT]; repeat' (first | exact Ok.out | with_reducible refine And.intro ?_ ?_))
  rintro ⟨rest, k, acc⟩ ⟨h1, h2⟩ IH
  unfold S0
  cases rest with
  | nil =>
    have hlt := drop_nil h1
    simp only [Ex.depths, Nat.max_zero] at h2
    subst h2
    repeat' (first
 | simp only [go_sem, hlt, hget, hpu, hinc, Int.reduceLE, ↓reduceIte, reduceCtorEq, Nat.reduceEqDiff, Nat.reduceLeDiff, Nat.reduceAdd, Nat.reduceMul, Nat.reduceSub, Nat.reduceLT, wrap_inc hdep, Ex.depth]
 | (with_reducible first | refine CB_ofT (by assumption) fun hc => ?_ | refine CB_ofF (by assumption) fun hc => ?_ | refine CB_split (fun hc => ?_) fun hc => ?_) <;> (try simp only [hc, bs, ↓reduceIte] at h) <;> (try simp only [hc])
 | ((with_reducible first | refine leafR hQ ?_ | refine leafN hQ ?_); (try cases h); simp only [resL, oneD, Option.some.injEq, exists_eq_left', go_sem, hlt, hget, hpu, hinc, Int.reduceLE, ↓reduceIte, reduceCtorEq, Nat.reduceEqDiff, Nat.reduceLeDiff, Nat.reduceAdd, Nat.reduceMul, Nat.reduceSub, Nat.reduceLT, wrap_inc hdep, Ex.depth]; repeat' (first | exact Ok.out | with_reducible refine And.intro ?_ ?_ | (simp; done)))
 | (cases h; replace h := hr; clear hr; (try simp only [bs, ↓reduceIte] at h))
 | (cases h; done))
  | cons y rest =>
    obtain ⟨g1, g2, hlt, g4⟩ := drop_cons h1
    simp only [Ex.depths] at h2
    have hy := fun s => (hk y (List.mem_of_getElem? g1)).pure (by simp [D.oks, D.ok, okEx]) rfl s
    dsimp only at g1 g2 hlt g4 h2
    repeat' (first
 | simp only [go_sem, hlt, hget, hpu, hinc, Int.reduceLE, ↓reduceIte, reduceCtorEq, Nat.reduceEqDiff, Nat.reduceLeDiff, Nat.reduceAdd, Nat.reduceMul, Nat.reduceSub, Nat.reduceLT, g1]
 | (with_reducible refine CU (hy _) ?_)
 | (with_reducible first | refine CB_ofT (by assumption) fun hc => ?_ | refine CB_ofF (by assumption) fun hc => ?_ | refine CB_split (fun hc => ?_) fun hc => ?_) <;> (try simp only [hc, bs, ↓reduceIte] at h) <;> (try simp only [hc])
 | ((with_reducible first | refine leafR hQ ?_ | refine leafN hQ ?_); (try cases h); simp only [resL, oneD, Option.some.injEq, exists_eq_left', go_sem, hlt, hget, hpu, hinc, Int.reduceLE, ↓reduceIte, reduceCtorEq, Nat.reduceEqDiff, Nat.reduceLeDiff, Nat.reduceAdd, Nat.reduceMul, Nat.reduceSub, Nat.reduceLT, g1]; repeat' (first | exact Ok.out | with_reducible refine And.intro ?_ ?_ | (simp; done)))
 | (cases h; replace h := hr; clear hr; (try simp only [bs, ↓reduceIte] at h))
 | (cases h; done))
    refine SemL.re _ _ 0 0 (by rw [hB]; exact Nat.le_of_ble_eq_true rfl) (by rw [hB]; exact Nat.le_of_ble_eq_true rfl) ?_ ?_ (IH (rest, k + 1, max acc y.depth) ⟨g2, by dsimp only; omega⟩ (by simp))
    · (simp only [go_sem, hlt, hget, hpu, hinc, Int.reduceLE, ↓reduceIte, reduceCtorEq, Nat.reduceEqDiff, Nat.reduceLeDiff, Nat.reduceAdd, Nat.reduceMul, Nat.reduceSub, Nat.reduceLT, mx, wrap_inc (show k < 4611686018427387904 by omega)]; repeat' (first | exact Ok.out | with_reducible refine And.intro ?_ ?_))
    · (simp only [go_sem, hlt, hget, hpu, hinc, Int.reduceLE, ↓reduceIte, reduceCtorEq, Nat.reduceEqDiff, Nat.reduceLeDiff, Nat.reduceAdd, Nat.reduceMul, Nat.reduceSub, Nat.reduceLT, mx, wrap_inc (show k < 4611686018427387904 by omega)]; repeat' (first | exact Ok.out | with_reducible refine And.intro ?_ ?_))

theorem depth_s {x : Ex} {d : Int} (h : depthO x = some d) (s : St) : Fun Try.prog n_parse_depth [.agg (encEx x)] s (.int .i64 d) s := by
  unfold depthO at h
  split at h
  · cases h; exact (depth_n x.size ‹_› x (Nat.le_refl _)).pure (by simp [D.oks, D.ok, okEx]) rfl s
  · cases h

theorem op_s (t : Tok) (s : St) : Fun Try.prog n_parse_op [.agg (encTok t)] s (.tuple [.int .i64 (opOf t).1, .int .i64 (opOf t).2]) s := (op_0 rfl).pure rfl rfl s


theorem ite_p {c : Prop} [Decidable c] {α : Type} {P : α → Prop} {a b : α} (ha : P a) (hb : P b) : P (if c then a else b) := by
  by_cases h : c
  · rw [if_pos h]; exact ha
  · rw [if_neg h]; exact hb
def OpR (p : Int × Int) : Prop := 0 ≤ p.2 ∧ p.2 ≤ 6
theorem op_range (t : Tok) : OpR (opOf t) := by
  unfold opOf
  repeat' with_reducible refine ite_p (P := OpR) ?_ ?_
  all_goals exact ⟨by decide, by decide⟩
theorem op_wrap (t : Tok) : IntKind.wrap .i64 ((opOf t).2 + 1) = (opOf t).2 + 1 := by
  have : 0 ≤ (opOf t).2 ∧ (opOf t).2 ≤ 6 := op_range t
  rw [wrap_ok] <;> omega

abbrev C_one (m : Nat) : Prop := ∀ {r : Rd} {p : Ex × Rd}, Rd.one m r = some p → ∀ {s : St} {o : Nat}, s.objs[o]? = some (encRd r) → Fun Try.prog n_parse_reader_one [.ptr o 0] s (.agg (encEx p.1)) ⟨s.objs.set o (encRd p.2), s.toks⟩
abbrev C_two (m : Nat) : Prop := ∀ {k : Int} {r : Rd} {p : Ex × Rd}, Rd.two m k r = some p → ∀ {s : St} {o : Nat}, s.objs[o]? = some (encRd r) → Fun Try.prog n_parse_reader_two [.ptr o 0, .int .i64 k] s (.agg (encEx p.1)) ⟨s.objs.set o (encRd p.2), s.toks⟩

theorem one_step {m : Nat} (one_s : C_one m) (two_s : C_two m) : C_one (m + 1) := by
  intro r p h s o ho
  refine Fun.meth ?_ rfl (okRd r) (okRd p.2) (by simp [D.ok, okEx]) ho
  unfold Rd.one at h
  refine Fun.go has_parse_reader_one rfl fun B Q hB hQ => ?_
  have hlt : 0 < 1 := Nat.zero_lt_one
  have hget : 0 < 1 := Nat.zero_lt_one
  have hpu : 0 < 1 := Nat.zero_lt_one
  have hinc : 0 < 1 := Nat.zero_lt_one
  repeat' (first
 | simp only [go_sem, hlt, hget, hpu, hinc, Int.reduceLE, ↓reduceIte, reduceCtorEq, Nat.reduceEqDiff, Nat.reduceLeDiff, Nat.reduceAdd, Nat.reduceMul, Nat.reduceSub, Nat.reduceLT]
 | (rw [Option.bind_eq_some_iff] at h; obtain ⟨_, h1, h⟩ := h; first | (with_reducible refine CU (peek_s h1 (by with_unfolding_all rfl)) ?_; have hlt := peek_lt h1) | (with_reducible refine CU (take_s h1 (by with_unfolding_all rfl)) ?_) | (with_reducible refine CU (two_s h1 (by with_unfolding_all rfl)) ?_) | (with_reducible refine CU (want_s h1 (by with_unfolding_all rfl)) ?_) | (with_reducible refine CU (one_s h1 (by with_unfolding_all rfl)) ?_) | (with_reducible refine CU (bad_s h1 (by with_unfolding_all rfl)) ?_))
 | (with_reducible refine CU (good_s (by with_unfolding_all rfl)) ?_)
 | (with_reducible first | refine CB_ofT (by assumption) fun hc => ?_ | refine CB_ofF (by assumption) fun hc => ?_ | refine CB_split (fun hc => ?_) fun hc => ?_) <;> (try simp only [hc, bs, ↓reduceIte] at h) <;> (try simp only [hc])
 | ((with_reducible first | refine leafR hQ ?_ | refine leafN hQ ?_); (try cases h); simp only [resL, oneD, Option.some.injEq, exists_eq_left', go_sem, hlt, hget, hpu, hinc, Int.reduceLE, ↓reduceIte, reduceCtorEq, Nat.reduceEqDiff, Nat.reduceLeDiff, Nat.reduceAdd, Nat.reduceMul, Nat.reduceSub, Nat.reduceLT]; repeat' (first | exact Ok.out | with_reducible refine And.intro ?_ ?_ | (simp; done)))
 | (cases h; replace h := hr; clear hr; (try simp only [bs, ↓reduceIte] at h))
 | (cases h; done))

theorem two_step {m : Nat} (one_s : C_one m) (two_s : ∀ j < m, C_two j) : C_two (m + 1) := by
  intro k r p h s o ho
  refine Fun.meth ?_ rfl (okRd r) (okRd p.2) (by simp [D.ok, okEx]) ho
  unfold Rd.two at h
  refine Fun.go has_parse_reader_two rfl fun B Q hB hQ => ?_
  have hlt : 0 < 1 := Nat.zero_lt_one
  have hget : 0 < 1 := Nat.zero_lt_one
  have hpu : 0 < 1 := Nat.zero_lt_one
  have hinc : 0 < 1 := Nat.zero_lt_one
  repeat' (first
 | simp only [go_sem, hlt, hget, hpu, hinc, Int.reduceLE, ↓reduceIte, reduceCtorEq, Nat.reduceEqDiff, Nat.reduceLeDiff, Nat.reduceAdd, Nat.reduceMul, Nat.reduceSub, Nat.reduceLT]
 | (rw [Option.bind_eq_some_iff] at h; obtain ⟨_, h1, h⟩ := h; first | (with_reducible refine CU (one_s h1 (by with_unfolding_all rfl)) ?_))
 | (with_reducible first | refine CB_ofT (by assumption) fun hc => ?_ | refine CB_ofF (by assumption) fun hc => ?_ | refine CB_split (fun hc => ?_) fun hc => ?_) <;> (try simp only [hc, bs, ↓reduceIte] at h) <;> (try simp only [hc])
 | ((with_reducible first | refine leafR hQ ?_ | refine leafN hQ ?_); (try cases h); simp only [resL, oneD, Option.some.injEq, exists_eq_left', go_sem, hlt, hget, hpu, hinc, Int.reduceLE, ↓reduceIte, reduceCtorEq, Nat.reduceEqDiff, Nat.reduceLeDiff, Nat.reduceAdd, Nat.reduceMul, Nat.reduceSub, Nat.reduceLT]; repeat' (first | exact Ok.out | with_reducible refine And.intro ?_ ?_ | (simp; done)))
 | (cases h; replace h := hr; clear hr; (try simp only [bs, ↓reduceIte] at h))
 | (cases h; done))
  refine SemL.re _ _ 3 0 (by rw [hB]; exact Nat.le_of_ble_eq_true rfl) (by rw [hB]; exact Nat.le_of_ble_eq_true rfl) ?_ ?_ (SemL.ind (ι := Nat × Ex × Rd) (fun i => Rd.twoL i.1 k i.2.1 i.2.2 = some p ∧ i.1 ≤ m) (fun i => i.1)
    (fun i => [(0, .ptr 0 0), (1, .int .i64 k), (4, .ptr 1 0), (5, .ptr 2 0)]) (fun i => ⟨[encRd i.2.2, encEx ex0, encEx i.2.1], []⟩) ?_ (m, _, _) ⟨h, Nat.le_refl _⟩)
  · (simp only [go_sem, hlt, hget, hpu, hinc, Int.reduceLE, ↓reduceIte, reduceCtorEq, Nat.reduceEqDiff, Nat.reduceLeDiff, Nat.reduceAdd, Nat.reduceMul, Nat.reduceSub, Nat.reduceLT]; repeat' (first | exact Ok.out | with_reducible refine And.intro ?_ ?_))
  · (simp only [go_sem, hlt, hget, hpu, hinc, Int.reduceLE, ↓reduceIte, reduceCtorEq, Nat.reduceEqDiff, Nat.reduceLeDiff, Nat.reduceAdd, Nat.reduceMul, Nat.reduceSub, Nat.reduceLT]; repeat' (first | exact Ok.out | with_reducible refine And.intro ?_ ?_))
  rintro ⟨n, x, r⟩ ⟨h, hn⟩ IH
  cases n with
  | zero => simp only [Rd.twoL] at h; cases h
  | succ n =>
    have two_n := @two_s n (by omega)
    simp only [Rd.twoL] at h
    repeat' (first
 | simp only [go_sem, hlt, hget, hpu, hinc, Int.reduceLE, ↓reduceIte, reduceCtorEq, Nat.reduceEqDiff, Nat.reduceLeDiff, Nat.reduceAdd, Nat.reduceMul, Nat.reduceSub, Nat.reduceLT, op_wrap]
 | (rw [Option.bind_eq_some_iff] at h; obtain ⟨_, h1, h⟩ := h; first | (with_reducible refine CU (peek_s h1 (by with_unfolding_all rfl)) ?_; have hlt := peek_lt h1) | (with_reducible refine CU (two_n h1 (by with_unfolding_all rfl)) ?_))
 | (with_reducible refine CU (good_s (by with_unfolding_all rfl)) ?_)
 | (with_reducible refine CU (op_s _ _) ?_)
 | (with_reducible first | refine CB_ofT (by assumption) fun hc => ?_ | refine CB_ofF (by assumption) fun hc => ?_ | refine CB_split (fun hc => ?_) fun hc => ?_) <;> (try simp only [hc, bs, ↓reduceIte] at h) <;> (try simp only [hc])
 | ((with_reducible first | refine leafR hQ ?_ | refine leafN hQ ?_); (try cases h); simp only [resL, oneD, Option.some.injEq, exists_eq_left', go_sem, hlt, hget, hpu, hinc, Int.reduceLE, ↓reduceIte, reduceCtorEq, Nat.reduceEqDiff, Nat.reduceLeDiff, Nat.reduceAdd, Nat.reduceMul, Nat.reduceSub, Nat.reduceLT, op_wrap]; repeat' (first | exact Ok.out | with_reducible refine And.intro ?_ ?_ | (simp; done)))
 | (cases h; replace h := hr; clear hr; (try simp only [bs, ↓reduceIte] at h))
 | (cases h; done))
    refine SemL.re _ _ 3 0 (by rw [hB]; exact Nat.le_of_ble_eq_true rfl) (by rw [hB]; exact Nat.le_of_ble_eq_true rfl) ?_ ?_ (IH (n, _, _) ⟨h, by dsimp only at hn ⊢; omega⟩ (Nat.lt_succ_self _))
    · (simp only [go_sem, hlt, hget, hpu, hinc, Int.reduceLE, ↓reduceIte, reduceCtorEq, Nat.reduceEqDiff, Nat.reduceLeDiff, Nat.reduceAdd, Nat.reduceMul, Nat.reduceSub, Nat.reduceLT]; repeat' (first | exact Ok.out | with_reducible refine And.intro ?_ ?_))
    · (simp only [go_sem, hlt, hget, hpu, hinc, Int.reduceLE, ↓reduceIte, reduceCtorEq, Nat.reduceEqDiff, Nat.reduceLeDiff, Nat.reduceAdd, Nat.reduceMul, Nat.reduceSub, Nat.reduceLT]; repeat' (first | exact Ok.out | with_reducible refine And.intro ?_ ?_))

theorem one_two : ∀ n, ∀ m < n, C_one m ∧ C_two m := by
  intro n
  induction n with
  | zero => intro m h; exact absurd h (Nat.not_lt_zero _)
  | succ n ih =>
    intro m h
    cases m with
    | zero =>
      refine ⟨?_, ?_⟩
      · intro r p h; simp only [Rd.one] at h; cases h
      · intro k r p h; simp only [Rd.two] at h; cases h
    | succ m =>
      have hm := ih m (by omega)
      exact ⟨one_step hm.1 hm.2, two_step hm.1 fun j hj => (ih j (by omega)).2⟩

theorem two_s {m : Nat} {k : Int} {r : Rd} {p : Ex × Rd} (h : Rd.two m k r = some p) {s : St} {o : Nat} (ho : s.objs[o]? = some (encRd r)) :
    Fun Try.prog n_parse_reader_two [.ptr o 0, .int .i64 k] s (.agg (encEx p.1)) ⟨s.objs.set o (encRd p.2), s.toks⟩ := (one_two (m + 1) m (Nat.lt_succ_self _)).2 h ho

theorem whole_s {n : Nat} {r : Rd} {p : Ex × Rd} (h : Rd.whole n r = some p) {s : St} {o : Nat} (ho : s.objs[o]? = some (encRd r)) :
    Fun Try.prog n_parse_reader_whole [.ptr o 0] s (.agg (encEx p.1)) ⟨s.objs.set o (encRd p.2), s.toks⟩ := by
  refine Fun.meth ?_ rfl (okRd r) (okRd p.2) (by simp [D.ok, okEx]) ho
  unfold Rd.whole at h
  refine Fun.go has_parse_reader_whole rfl fun B Q hB hQ => ?_
  have hlt : 0 < 1 := Nat.zero_lt_one
  have hget : 0 < 1 := Nat.zero_lt_one
  have hpu : 0 < 1 := Nat.zero_lt_one
  have hinc : 0 < 1 := Nat.zero_lt_one
  repeat' (first
 | simp only [go_sem, hlt, hget, hpu, hinc, Int.reduceLE, ↓reduceIte, reduceCtorEq, Nat.reduceEqDiff, Nat.reduceLeDiff, Nat.reduceAdd, Nat.reduceMul, Nat.reduceSub, Nat.reduceLT]
 | (rw [Option.bind_eq_some_iff] at h; obtain ⟨_, h1, h⟩ := h; first | (with_reducible refine CU (peek_s h1 (by with_unfolding_all rfl)) ?_) | (with_reducible refine CU (depth_s h1 _) ?_) | (with_reducible refine CU (two_s h1 (by with_unfolding_all rfl)) ?_))
 | (with_reducible refine CU (good_s (by with_unfolding_all rfl)) ?_)
 | (with_reducible first | refine CB_ofT (by assumption) fun hc => ?_ | refine CB_ofF (by assumption) fun hc => ?_ | refine CB_split (fun hc => ?_) fun hc => ?_) <;> (try simp only [hc, bs, ↓reduceIte] at h) <;> (try simp only [hc])
 | ((with_reducible first | refine leafR hQ ?_ | refine leafN hQ ?_); (try cases h); simp only [resL, oneD, Option.some.injEq, exists_eq_left', go_sem, hlt, hget, hpu, hinc, Int.reduceLE, ↓reduceIte, reduceCtorEq, Nat.reduceEqDiff, Nat.reduceLeDiff, Nat.reduceAdd, Nat.reduceMul, Nat.reduceSub, Nat.reduceLT]; repeat' (first | exact Ok.out | with_reducible refine And.intro ?_ ?_ | (simp; done)))
 | (cases h; replace h := hr; clear hr; (try simp only [bs, ↓reduceIte] at h))
 | (cases h; done))

end Go.Abs

/-! Ref1 -/

namespace Go.Abs

set_option maxRecDepth 8000
set_option linter.unusedSimpArgs false
set_option linter.unusedVariables false
open Go.Proofs

/-- The reader's cells; what the last one holds is left open. -/
@[go_sem] def encRc (z : D) (r : Rd) : List D := [.slice .shared 4 (r.l.map encTok), .int .i64 r.i, .int .i64 r.code, .int .i64 r.fat, z]
/-- A plain cell. -/
class Cell (z : D) : Prop where
  ok : D.ok 0 0 z = true
  fg : ∀ n m, D.fg n m z = z
instance (n : Int) : Cell (.int .i64 n) := ⟨rfl, fun _ _ => rfl⟩
instance : Cell .junk := ⟨rfl, fun _ _ => rfl⟩
theorem Cell_fg (z : D) [h : Cell z] (n m : Nat) : D.fg n m z = z := h.fg n m
attribute [go_sem] Cell_fg
/-- Does a word or a sign come, and has there been no fault? -/
def Rd.isO (text : Str) (r : Rd) : Option Bool := if r.good then r.is text else some false

end Go.Abs

/-! Ref2 -/

namespace Go.Abs

set_option maxRecDepth 8000
set_option linter.unusedSimpArgs false
set_option linter.unusedVariables false
open Go.Proofs

def bindsR (s : Str) : Int × Int :=
  if [42] == s then (6, 5) else if [47] == s then (6, 6) else if [37] == s then (6, 7) else if [43] == s then (5, 8) else if [45] == s then (5, 9)
  else if [60] == s then (4, 10) else if [60, 61] == s then (4, 11) else if [62] == s then (4, 12) else if [62, 61] == s then (4, 13)
  else if [61, 61] == s then (3, 14) else if [33, 61] == s then (3, 15) else if [38, 38] == s then (2, 16) else if [124, 124] == s then (1, 17) else (0, 0)

theorem Binds_s (text : Str) (s : St) : Fun Try.prog n_ref3_Binds [.str text] s (.tuple [.int .i64 (bindsR text).1, .int .i64 (bindsR text).2]) s := by
  refine Fun.pure ?_ rfl rfl s
  generalize h : bindsR text = p
  unfold bindsR at h
  unfold S0
  refine Fun.go has_ref3_Binds rfl fun B Q hB hQ => ?_
  have hlt : 0 < 1 := Nat.zero_lt_one
  have hget : 0 < 1 := Nat.zero_lt_one
  have hpu : 0 < 1 := Nat.zero_lt_one
  have hinc : 0 < 1 := Nat.zero_lt_one
  repeat' (first
 | simp only [go_sem, hlt, hget, hpu, hinc, Int.reduceLE, ↓reduceIte, reduceCtorEq, Nat.reduceEqDiff, Nat.reduceLeDiff, Nat.reduceAdd, Nat.reduceMul, Nat.reduceSub, Nat.reduceLT, Int.cast_ofNat_Int, wrap_ok, Int.reduceAdd, Int.reduceLT, Int.reduceNeg, decide_true, decide_false, Int.reduceToNat]
 | (with_reducible refine SemL.onceW ?_)
 | (with_reducible first | refine CB_ofT (by assumption) fun hc => ?_ | refine CB_ofF (by assumption) fun hc => ?_ | refine CB_split (fun hc => ?_) fun hc => ?_) <;> (try simp only [hc, bs, ↓reduceIte] at h) <;> (try simp only [hc])
 | ((with_reducible first | refine leafR hQ ?_ | refine leafN hQ ?_); (try cases h); simp only [resL, oneD, Option.some.injEq, exists_eq_left', go_sem, hlt, hget, hpu, hinc, Int.reduceLE, ↓reduceIte, reduceCtorEq, Nat.reduceEqDiff, Nat.reduceLeDiff, Nat.reduceAdd, Nat.reduceMul, Nat.reduceSub, Nat.reduceLT, Int.cast_ofNat_Int, wrap_ok, Int.reduceAdd, Int.reduceLT, Int.reduceNeg, decide_true, decide_false, Int.reduceToNat]; repeat' (first | exact Ok.out | with_reducible refine And.intro ?_ ?_ | (simp; done)))
 | (cases h; replace h := hr; clear hr; (try simp only [bs, ↓reduceIte] at h))
 | (cases h; done))

/-- The same signs in the program's order. -/
theorem binds_op (t : Tok) (hk : t.kind = 4) : opOf t = ((bindsR t.text).2, (bindsR t.text).1) := by
  obtain ⟨kind, text, n, pos⟩ := t
  dsimp only at hk
  subst hk
  simp only [opOf]
  by_cases h1 : text = [42]
  · subst h1; rfl
  by_cases h2 : text = [47]
  · subst h2; rfl
  by_cases h3 : text = [37]
  · subst h3; rfl
  by_cases h4 : text = [43]
  · subst h4; rfl
  by_cases h5 : text = [45]
  · subst h5; rfl
  by_cases h6 : text = [60]
  · subst h6; rfl
  by_cases h7 : text = [60, 61]
  · subst h7; rfl
  by_cases h8 : text = [62]
  · subst h8; rfl
  by_cases h9 : text = [62, 61]
  · subst h9; rfl
  by_cases h10 : text = [61, 61]
  · subst h10; rfl
  by_cases h11 : text = [33, 61]
  · subst h11; rfl
  by_cases h12 : text = [38, 38]
  · subst h12; rfl
  by_cases h13 : text = [124, 124]
  · subst h13; rfl
  have e : ∀ c : Str, ¬ text = c → (text == c) = false := fun c h => by simpa using h
  have e' : ∀ c : Str, ¬ text = c → (c == text) = false := fun c h => by simpa using fun h' => h h'.symm
  simp only [bindsR, e _ h1, e _ h2, e _ h3, e _ h4, e _ h5, e _ h6, e _ h7, e _ h8, e _ h9, e _ h10, e _ h11, e _ h12, e _ h13, e' _ h1, e' _ h2, e' _ h3, e' _ h4, e' _ h5, e' _ h6, e' _ h7, e' _ h8, e' _ h9, e' _ h10, e' _ h11, e' _ h12, e' _ h13,
    Bool.false_eq_true, ↓reduceIte]
  rfl
abbrev C_first (m : Nat) : Prop := ∀ {z : D} [Cell z] {r : Rd} {p : Ex × Rd}, Rd.one m r = some p → ∀ {s : St} {o : Nat}, s.objs[o]? = some (encRc z r) → Fun Try.prog n_ref3_P_first [.ptr o 0] s (.agg (encEx p.1)) ⟨s.objs.set o (encRc z p.2), s.toks⟩
abbrev C_rest (m : Nat) : Prop := ∀ {z : D} [Cell z] {k : Int} {x : Ex} {r : Rd} {p : Ex × Rd}, Rd.twoL m k x r = some p → ∀ {s : St} {o : Nat}, s.objs[o]? = some (encRc z r) → Fun Try.prog n_ref3_P_rest [.ptr o 0, .agg (encEx x), .int .i64 k] s (.agg (encEx p.1)) ⟨s.objs.set o (encRc z p.2), s.toks⟩

def BZ (p : Int × Int) : Prop := (p.2 == 0) = (p.1 == 0)
end Go.Abs

/-! Ref3 -/

namespace Go.Abs

set_option maxRecDepth 8000
set_option linter.unusedSimpArgs false
set_option linter.unusedVariables false
open Go.Proofs

theorem EqExpr_n : ∀ N, N < 4611686018427387904 → ∀ x y : Ex, x.size ≤ N → ∀ s : St, Fun Try.prog n_ref3_EqExpr [.agg (encEx x), .agg (encEx y)] s (.bool (Ex.beq x y)) s := by
  intro N
  induction N with
  | zero => rintro _ ⟨op, m, name, kids⟩ y h; simp only [Ex.size] at h; omega
  | succ N ih =>
  rintro hN ⟨op, m, name, kids⟩ ⟨op', m', name', kids'⟩ hx s
  refine Fun.pure ?_ (by simp [D.oks, D.ok, okEx]) rfl s
  have hk : ∀ a ∈ kids, ∀ b s, Fun Try.prog n_ref3_EqExpr [.agg (encEx a), .agg (encEx b)] s (.bool (Ex.beq a b)) s := fun a ha b s =>
    ih (by omega) a b (by simp only [Ex.size] at hx; have := Ex.sizes_mem ha; omega) s
  have hlen : kids.length < 4611686018427387904 := by simp only [Ex.size] at hx; have := Ex.sizes_len kids; omega
  generalize h : Ex.beq ⟨op, m, name, kids⟩ ⟨op', m', name', kids'⟩ = p
  simp only [Ex.beq] at h
  unfold S0
  refine Fun.go has_ref3_EqExpr rfl fun B Q hB hQ => ?_
  have hlt : 0 < 1 := Nat.zero_lt_one
  have hget : 0 < 1 := Nat.zero_lt_one
  have hpu : 0 < 1 := Nat.zero_lt_one
  have hinc : 0 < 1 := Nat.zero_lt_one
  repeat' (first
 | simp only [go_sem, hlt, hget, hpu, hinc, Int.reduceLE, ↓reduceIte, reduceCtorEq, Nat.reduceEqDiff, Nat.reduceLeDiff, Nat.reduceAdd, Nat.reduceMul, Nat.reduceSub, Nat.reduceLT]
 | (with_reducible first | refine CB_ofT (by assumption) fun hc => ?_ | refine CB_ofF (by assumption) fun hc => ?_ | refine CB_split (fun hc => ?_) fun hc => ?_) <;> (try simp only [hc, bs, ↓reduceIte] at h) <;> (try simp only [hc])
 | ((with_reducible first | refine leafR hQ ?_ | refine leafN hQ ?_); (try cases h); simp only [resL, oneD, Option.some.injEq, exists_eq_left', go_sem, hlt, hget, hpu, hinc, Int.reduceLE, ↓reduceIte, reduceCtorEq, Nat.reduceEqDiff, Nat.reduceLeDiff, Nat.reduceAdd, Nat.reduceMul, Nat.reduceSub, Nat.reduceLT]; repeat' (first | exact Ok.out | with_reducible refine And.intro ?_ ?_ | (simp; done)))
 | (cases h; replace h := hr; clear hr; (try simp only [bs, ↓reduceIte] at h))
 | (cases h; done))
  rename_i hl4
  have hl5 : kids.length = kids'.length := by
    have : ((kids.length : Int) != (kids'.length : Int)) = false := by assumption
    simp only [bne_eq_false_iff_eq] at this
    omega
  refine SemL.re _ _ 2 0 (by rw [hB]; exact Nat.le_of_ble_eq_true rfl) (by rw [hB]; exact Nat.le_of_ble_eq_true rfl) ?_ ?_ (SemL.ind (ι := List Ex × List Ex × Nat) (fun i => kids.drop i.2.2 = i.1 ∧ kids'.drop i.2.2 = i.2.1 ∧ Ex.beqs i.1 i.2.1 = p) (fun i => i.1.length)
    (fun i => [(2, .ptr 0 0), (3, .ptr 1 0), (36, .int .i64 (kids.length : Int)), (37, .int .i64 (i.2.2 : Int))]) (fun i => ⟨[encEx ⟨op, m, name, kids⟩, encEx ⟨op', m', name', kids'⟩], []⟩) ?_ (kids, kids', 0) ⟨rfl, rfl, h⟩)
  · (simp only [go_sem, hlt, hget, hpu, hinc, Int.reduceLE, ↓reduceIte, reduceCtorEq, Nat.reduceEqDiff, Nat.reduceLeDiff, Nat.reduceAdd, Nat.reduceMul, Nat.reduceSub, Nat.reduceLT]; repeat' (first | exact Ok.out | with_reducible refine And.intro ?_ ?_))
  · (simp only [go_sem, hlt, hget, hpu, hinc, Int.reduceLE, ↓reduceIte, reduceCtorEq, Nat.reduceEqDiff, Nat.reduceLeDiff, Nat.reduceAdd, Nat.reduceMul, Nat.reduceSub, Nat.reduceLT]; repeat' (first | exact Ok.out | with_reducible refine And.intro ?_ ?_))
  rintro ⟨r1, r2, k⟩ ⟨h1, h2, h⟩ IH
  dsimp only at h1 h2 h
  cases r1 with
  | nil =>
    have hlt := drop_nil h1
    simp only [Ex.beqs] at h
    repeat' (first
 | simp only [go_sem, hlt, hget, hpu, hinc, Int.reduceLE, ↓reduceIte, reduceCtorEq, Nat.reduceEqDiff, Nat.reduceLeDiff, Nat.reduceAdd, Nat.reduceMul, Nat.reduceSub, Nat.reduceLT]
 | (with_reducible first | refine CB_ofT (by assumption) fun hc => ?_ | refine CB_ofF (by assumption) fun hc => ?_ | refine CB_split (fun hc => ?_) fun hc => ?_) <;> (try simp only [hc, bs, ↓reduceIte] at h) <;> (try simp only [hc])
 | ((with_reducible first | refine leafR hQ ?_ | refine leafN hQ ?_); (try cases h); simp only [resL, oneD, Option.some.injEq, exists_eq_left', go_sem, hlt, hget, hpu, hinc, Int.reduceLE, ↓reduceIte, reduceCtorEq, Nat.reduceEqDiff, Nat.reduceLeDiff, Nat.reduceAdd, Nat.reduceMul, Nat.reduceSub, Nat.reduceLT]; repeat' (first | exact Ok.out | with_reducible refine And.intro ?_ ?_ | (simp; done)))
 | (cases h; replace h := hr; clear hr; (try simp only [bs, ↓reduceIte] at h))
 | (cases h; done))
  | cons a r1 =>
    obtain ⟨hget, g2, hlt, g4⟩ := drop_cons h1
    cases r2 with
    | nil => have := List.drop_eq_nil_iff.1 h2; omega
    | cons b r2 =>
      obtain ⟨hgb, b2, _, _⟩ := drop_cons h2
      have hk2 : k < 4611686018427387904 := by omega
      have hab := hk a (List.mem_of_getElem? hget)
      simp only [Ex.beqs] at h
      repeat' (first
 | simp only [go_sem, hlt, hget, hpu, hinc, Int.reduceLE, ↓reduceIte, reduceCtorEq, Nat.reduceEqDiff, Nat.reduceLeDiff, Nat.reduceAdd, Nat.reduceMul, Nat.reduceSub, Nat.reduceLT, hgb]
 | (with_reducible refine CU (hab _ _) ?_)
 | (with_reducible first | refine CB_ofT (by assumption) fun hc => ?_ | refine CB_ofF (by assumption) fun hc => ?_ | refine CB_split (fun hc => ?_) fun hc => ?_) <;> (try simp only [hc, bs, ↓reduceIte] at h) <;> (try simp only [hc])
 | ((with_reducible first | refine leafR hQ ?_ | refine leafN hQ ?_); (try cases h); simp only [resL, oneD, Option.some.injEq, exists_eq_left', go_sem, hlt, hget, hpu, hinc, Int.reduceLE, ↓reduceIte, reduceCtorEq, Nat.reduceEqDiff, Nat.reduceLeDiff, Nat.reduceAdd, Nat.reduceMul, Nat.reduceSub, Nat.reduceLT, hgb]; repeat' (first | exact Ok.out | with_reducible refine And.intro ?_ ?_ | (simp; done)))
 | (cases h; replace h := hr; clear hr; (try simp only [bs, ↓reduceIte] at h))
 | (cases h; done))
      refine SemL.re _ _ 2 0 (by rw [hB]; exact Nat.le_of_ble_eq_true rfl) (by rw [hB]; exact Nat.le_of_ble_eq_true rfl) ?_ ?_ (IH (r1, r2, k + 1) ⟨g2, b2, h⟩ (Nat.lt_succ_self _))
      · (simp only [go_sem, hlt, hget, hpu, hinc, Int.reduceLE, ↓reduceIte, reduceCtorEq, Nat.reduceEqDiff, Nat.reduceLeDiff, Nat.reduceAdd, Nat.reduceMul, Nat.reduceSub, Nat.reduceLT, wrap_inc hk2]; repeat' (first | exact Ok.out | with_reducible refine And.intro ?_ ?_))
      · (simp only [go_sem, hlt, hget, hpu, hinc, Int.reduceLE, ↓reduceIte, reduceCtorEq, Nat.reduceEqDiff, Nat.reduceLeDiff, Nat.reduceAdd, Nat.reduceMul, Nat.reduceSub, Nat.reduceLT, wrap_inc hk2]; repeat' (first | exact Ok.out | with_reducible refine And.intro ?_ ?_))

theorem EqExpr_s {x y : Ex} (hx : x.size < 4611686018427387904) (s : St) : Fun Try.prog n_ref3_EqExpr [.agg (encEx x), .agg (encEx y)] s (.bool (Ex.beq x y)) s := EqExpr_n _ hx x y (Nat.le_refl _) s

end Go.Abs

/-! MirTree -/

namespace Go.Abs

def Ar.sizes : List Ar → Nat
  | [] => 0
  | a :: l => 1 + a.x.size + Ar.sizes l
mutual
def Sm.size : Sm → Nat
  | ⟨_, _, labels, _, _, x, _, args, thn, els⟩ => 1 + labels.length + x.size + Ar.sizes args + Sm.sizes thn + Sm.sizes els
def Sm.sizes : List Sm → Nat
  | [] => 0
  | s :: l => 1 + s.size + Sm.sizes l
end
def Pc.size (f : Pc) : Nat := 1 + f.params.length + f.vars.length + f.fin.length + Sm.sizes f.body
def Pc.sizes : List Pc → Nat
  | [] => 0
  | f :: l => 1 + f.size + Pc.sizes l
def Pg.size (p : Pg) : Nat := 1 + p.globals.length + Pc.sizes p.procs

mutual
/-- A statement with its id; how many there are so far. -/
def Sm.num (b : Bool) (n : Nat) : Sm → Sm × Nat
  | ⟨id, kind, labels, name, proc, x, has, args, thn, els⟩ =>
    (⟨if b then ((n + 1 : Nat) : Int) else id, kind, labels, name, proc, x, has, args, (Sm.nums b (n + 1) thn).1, (Sm.nums b (Sm.nums b (n + 1) thn).2 els).1⟩, (Sm.nums b (Sm.nums b (n + 1) thn).2 els).2)
def Sm.nums (b : Bool) (n : Nat) : List Sm → List Sm × Nat
  | [] => ([], n)
  | s :: l => ((Sm.num b n s).1 :: (Sm.nums b (Sm.num b n s).2 l).1, (Sm.nums b (Sm.num b n s).2 l).2)
end

def Pc.nums (n : Nat) : List Pc → List Pc
  | [] => []
  | f :: l => { f with body := (Sm.nums true n f.body).1 } :: Pc.nums (Sm.nums true n f.body).2 l
def Pg.number (p : Pg) : Pg := { p with procs := Pc.nums 0 p.procs }
def Pg.numberO (p : Pg) : Option Pg := if p.size < 1073741824 then some p.number else none

mutual
theorem Sm.num_le (b : Bool) (n : Nat) : ∀ s : Sm, (Sm.num b n s).2 ≤ n + s.size
  | ⟨id, kind, labels, name, proc, x, has, args, thn, els⟩ => by
    simp only [Sm.num, Sm.size]
    have h1 := Sm.nums_le b (n + 1) thn
    have h2 := Sm.nums_le b (Sm.nums b (n + 1) thn).2 els
    omega
theorem Sm.nums_le (b : Bool) (n : Nat) : ∀ l : List Sm, (Sm.nums b n l).2 ≤ n + Sm.sizes l
  | [] => by simp [Sm.nums, Sm.sizes]
  | s :: l => by
    simp only [Sm.nums, Sm.sizes]
    have h1 := Sm.num_le b n s
    have h2 := Sm.nums_le b (Sm.num b n s).2 l
    omega
end
theorem Sm.sizes_len : ∀ (l : List Sm), l.length ≤ Sm.sizes l
  | [] => Nat.le_refl _
  | x :: l => by simp only [Sm.sizes, List.length_cons]; have := Sm.sizes_len l; omega
theorem Ar.sizes_len : ∀ (l : List Ar), l.length ≤ Ar.sizes l
  | [] => Nat.le_refl _
  | x :: l => by simp only [Ar.sizes, List.length_cons]; have := Ar.sizes_len l; omega
theorem Pc.sizes_len : ∀ (l : List Pc), l.length ≤ Pc.sizes l
  | [] => Nat.le_refl _
  | x :: l => by simp only [Pc.sizes, List.length_cons]; have := Pc.sizes_len l; omega
theorem Ar.sizes_mem {x : Ar} : ∀ {l : List Ar}, x ∈ l → x.x.size < Ar.sizes l
  | y :: l, h => by
    simp only [Ar.sizes]
    rcases List.mem_cons.1 h with rfl | h
    · omega
    · have := Ar.sizes_mem h; omega
theorem Sm.sizes_mem {x : Sm} : ∀ {l : List Sm}, x ∈ l → x.size < Sm.sizes l
  | y :: l, h => by
    simp only [Sm.sizes]
    rcases List.mem_cons.1 h with rfl | h
    · omega
    · have := Sm.sizes_mem h; omega
theorem Pc.sizes_mem {x : Pc} : ∀ {l : List Pc}, x ∈ l → x.size < Pc.sizes l
  | y :: l, h => by
    simp only [Pc.sizes]
    rcases List.mem_cons.1 h with rfl | h
    · omega
    · have := Pc.sizes_mem h; omega
end Go.Abs

/-! MirEq -/

namespace Go.Abs

def eqTs : List Str → List Str → Bool
  | [], _ => true
  | _ :: _, [] => true
  | x :: l, y :: l' => if !(x == y) then false else eqTs l l'
def eqT (l l' : List Str) : Bool := if (l.length : Int) != (l'.length : Int) then false else eqTs l l'

def Ar.beqs : List Ar → List Ar → Bool
  | [], _ => true
  | _ :: _, [] => true
  | a :: l, b :: l' => if !(a.ref == b.ref) || !(a.name == b.name) || !(Ex.beq a.x b.x) then false else Ar.beqs l l'

mutual
def Sm.beq : Sm → Sm → Bool
  | ⟨id, kind, labels, name, proc, x, has, args, thn, els⟩, ⟨id', kind', labels', name', proc', x', has', args', thn', els'⟩ =>
    if id != id' || kind != kind' || !(name == name') || !(proc == proc') || !(has == has') || !(eqT labels labels') || !(Ex.beq x x') || (args.length : Int) != (args'.length : Int) then false
    else if !(Ar.beqs args args') then false
    else if (if (thn.length : Int) != (thn'.length : Int) then false else Sm.beqs thn thn') then (if (els.length : Int) != (els'.length : Int) then false else Sm.beqs els els') else false
def Sm.beqs : List Sm → List Sm → Bool
  | [], _ => true
  | _ :: _, [] => true
  | s :: l, t :: l' => if !(Sm.beq s t) then false else Sm.beqs l l'
end
def Sm.beqL (l l' : List Sm) : Bool := if (l.length : Int) != (l'.length : Int) then false else Sm.beqs l l'

def Pm.beqs : List Pm → List Pm → Bool
  | [], _ => true
  | _ :: _, [] => true
  | a :: l, b :: l' => if !((a.name == b.name) && (a.ref == b.ref)) then false else Pm.beqs l l'

def Pc.beqs : List Pc → List Pc → Bool
  | [], _ => true
  | _ :: _, [] => true
  | f :: l, g :: l' =>
    if !(f.name == g.name) || (f.params.length : Int) != (g.params.length : Int) || !(eqT f.vars g.vars) || !(eqT f.fin g.fin) || !(Sm.beqL f.body g.body) then false
    else if !(Pm.beqs f.params g.params) then false else Pc.beqs l l'

def Pg.beq (p q : Pg) : Bool := if !(eqT p.globals q.globals) || (p.procs.length : Int) != (q.procs.length : Int) then false else Pc.beqs p.procs q.procs

/-! ### What is the same is the same -/

theorem eqTs_refl : ∀ l, eqTs l l = true
  | [] => rfl
  | x :: l => by simp [eqTs, eqTs_refl l]
theorem eqT_refl (l : List Str) : eqT l l = true := by simp [eqT, eqTs_refl]
theorem Ar.beqs_refl : ∀ l, Ar.beqs l l = true
  | [] => rfl
  | x :: l => by simp [Ar.beqs, Ar.beqs_refl l, Ex.beq_refl]
mutual
theorem Sm.beq_refl : ∀ s, Sm.beq s s = true
  | ⟨id, kind, labels, name, proc, x, has, args, thn, els⟩ => by simp [Sm.beq, eqT_refl, Ex.beq_refl, Ar.beqs_refl, Sm.beqs_refl thn, Sm.beqs_refl els]
theorem Sm.beqs_refl : ∀ l, Sm.beqs l l = true
  | [] => rfl
  | x :: l => by simp [Sm.beqs, Sm.beq_refl x, Sm.beqs_refl l]
end
theorem Sm.beqL_refl (l : List Sm) : Sm.beqL l l = true := by simp [Sm.beqL, Sm.beqs_refl]
theorem Pm.beqs_refl : ∀ l, Pm.beqs l l = true
  | [] => rfl
  | x :: l => by simp [Pm.beqs, Pm.beqs_refl l]
theorem Pc.beqs_refl : ∀ l, Pc.beqs l l = true
  | [] => rfl
  | x :: l => by simp [Pc.beqs, Pc.beqs_refl l, eqT_refl, Sm.beqL_refl, Pm.beqs_refl]
theorem Pg.beq_refl (p : Pg) : Pg.beq p p = true := by simp [Pg.beq, eqT_refl, Pc.beqs_refl]

end Go.Abs

/-! RefEq -/

namespace Go.Abs

set_option maxRecDepth 8000
set_option linter.unusedSimpArgs false
set_option linter.unusedVariables false
open Go.Proofs

theorem EqTexts_s {l l' : List Str} (hl : l.length < 4611686018427387904) (s : St) : Fun Try.prog n_ref3_EqTexts [.slice .shared 1 (l.map encStr), .slice .shared 1 (l'.map encStr)] s (.bool (eqT l l')) s := by
  refine Fun.pure ?_ (by simp [D.oks, D.ok, Tag.ok, okrStr]) rfl s
  generalize h : eqT l l' = p
  simp only [eqT] at h
  unfold S0
  refine Fun.go has_ref3_EqTexts rfl fun B Q hB hQ => ?_
  have hlt : 0 < 1 := Nat.zero_lt_one
  have hget : 0 < 1 := Nat.zero_lt_one
  have hpu : 0 < 1 := Nat.zero_lt_one
  have hinc : 0 < 1 := Nat.zero_lt_one
  repeat' (first
 | simp only [go_sem, hlt, hget, hpu, hinc, Int.reduceLE, ↓reduceIte, reduceCtorEq, Nat.reduceEqDiff, Nat.reduceLeDiff, Nat.reduceAdd, Nat.reduceMul, Nat.reduceSub, Nat.reduceLT]
 | (with_reducible first | refine CB_ofT (by assumption) fun hc => ?_ | refine CB_ofF (by assumption) fun hc => ?_ | refine CB_split (fun hc => ?_) fun hc => ?_) <;> (try simp only [hc, bs, ↓reduceIte] at h) <;> (try simp only [hc])
 | ((with_reducible first | refine leafR hQ ?_ | refine leafN hQ ?_); (try cases h); simp only [resL, oneD, Option.some.injEq, exists_eq_left', go_sem, hlt, hget, hpu, hinc, Int.reduceLE, ↓reduceIte, reduceCtorEq, Nat.reduceEqDiff, Nat.reduceLeDiff, Nat.reduceAdd, Nat.reduceMul, Nat.reduceSub, Nat.reduceLT]; repeat' (first | exact Ok.out | with_reducible refine And.intro ?_ ?_ | (simp; done)))
 | (cases h; replace h := hr; clear hr; (try simp only [bs, ↓reduceIte] at h))
 | (cases h; done))
  have hl5 : l.length = l'.length := by
    have : ((l.length : Int) != (l'.length : Int)) = false := by assumption
    simp only [bne_eq_false_iff_eq] at this
    omega
  refine SemL.re _ _ 0 0 (by rw [hB]; exact Nat.le_of_ble_eq_true rfl) (by rw [hB]; exact Nat.le_of_ble_eq_true rfl) ?_ ?_ (SemL.ind (ι := List Str × List Str × Nat) (fun i => l.drop i.2.2 = i.1 ∧ l'.drop i.2.2 = i.2.1 ∧ eqTs i.1 i.2.1 = p) (fun i => i.1.length)
    (fun i => [(0, .slice .shared 1 (l.map encStr)), (1, .slice .shared 1 (l'.map encStr)), (12, .int .i64 (l.length : Int)), (13, .int .i64 (i.2.2 : Int))]) (fun i => ⟨[], []⟩) ?_ (l, l', 0) ⟨rfl, rfl, h⟩)
  · (simp only [go_sem, hlt, hget, hpu, hinc, Int.reduceLE, ↓reduceIte, reduceCtorEq, Nat.reduceEqDiff, Nat.reduceLeDiff, Nat.reduceAdd, Nat.reduceMul, Nat.reduceSub, Nat.reduceLT]; repeat' (first | exact Ok.out | with_reducible refine And.intro ?_ ?_))
  · (simp only [go_sem, hlt, hget, hpu, hinc, Int.reduceLE, ↓reduceIte, reduceCtorEq, Nat.reduceEqDiff, Nat.reduceLeDiff, Nat.reduceAdd, Nat.reduceMul, Nat.reduceSub, Nat.reduceLT]; repeat' (first | exact Ok.out | with_reducible refine And.intro ?_ ?_))
  rintro ⟨r1, r2, k⟩ ⟨h1, h2, h⟩ IH
  dsimp only at h1 h2 h
  cases r1 with
  | nil =>
    have hlt := drop_nil h1
    simp only [eqTs] at h
    repeat' (first
 | simp only [go_sem, hlt, hget, hpu, hinc, Int.reduceLE, ↓reduceIte, reduceCtorEq, Nat.reduceEqDiff, Nat.reduceLeDiff, Nat.reduceAdd, Nat.reduceMul, Nat.reduceSub, Nat.reduceLT]
 | (with_reducible first | refine CB_ofT (by assumption) fun hc => ?_ | refine CB_ofF (by assumption) fun hc => ?_ | refine CB_split (fun hc => ?_) fun hc => ?_) <;> (try simp only [hc, bs, ↓reduceIte] at h) <;> (try simp only [hc])
 | ((with_reducible first | refine leafR hQ ?_ | refine leafN hQ ?_); (try cases h); simp only [resL, oneD, Option.some.injEq, exists_eq_left', go_sem, hlt, hget, hpu, hinc, Int.reduceLE, ↓reduceIte, reduceCtorEq, Nat.reduceEqDiff, Nat.reduceLeDiff, Nat.reduceAdd, Nat.reduceMul, Nat.reduceSub, Nat.reduceLT]; repeat' (first | exact Ok.out | with_reducible refine And.intro ?_ ?_ | (simp; done)))
 | (cases h; replace h := hr; clear hr; (try simp only [bs, ↓reduceIte] at h))
 | (cases h; done))
  | cons a r1 =>
    obtain ⟨hget, g2, hlt, g4⟩ := drop_cons h1
    cases r2 with
    | nil => have := List.drop_eq_nil_iff.1 h2; omega
    | cons b r2 =>
      obtain ⟨hgb, b2, _, _⟩ := drop_cons h2
      have hk2 : k < 4611686018427387904 := by omega
      simp only [eqTs] at h
      repeat' (first
 | simp only [go_sem, hlt, hget, hpu, hinc, Int.reduceLE, ↓reduceIte, reduceCtorEq, Nat.reduceEqDiff, Nat.reduceLeDiff, Nat.reduceAdd, Nat.reduceMul, Nat.reduceSub, Nat.reduceLT, hgb]
 | (with_reducible first | refine CB_ofT (by assumption) fun hc => ?_ | refine CB_ofF (by assumption) fun hc => ?_ | refine CB_split (fun hc => ?_) fun hc => ?_) <;> (try simp only [hc, bs, ↓reduceIte] at h) <;> (try simp only [hc])
 | ((with_reducible first | refine leafR hQ ?_ | refine leafN hQ ?_); (try cases h); simp only [resL, oneD, Option.some.injEq, exists_eq_left', go_sem, hlt, hget, hpu, hinc, Int.reduceLE, ↓reduceIte, reduceCtorEq, Nat.reduceEqDiff, Nat.reduceLeDiff, Nat.reduceAdd, Nat.reduceMul, Nat.reduceSub, Nat.reduceLT, hgb]; repeat' (first | exact Ok.out | with_reducible refine And.intro ?_ ?_ | (simp; done)))
 | (cases h; replace h := hr; clear hr; (try simp only [bs, ↓reduceIte] at h))
 | (cases h; done))
      refine SemL.re _ _ 0 0 (by rw [hB]; exact Nat.le_of_ble_eq_true rfl) (by rw [hB]; exact Nat.le_of_ble_eq_true rfl) ?_ ?_ (IH (r1, r2, k + 1) ⟨g2, b2, h⟩ (Nat.lt_succ_self _))
      · (simp only [go_sem, hlt, hget, hpu, hinc, Int.reduceLE, ↓reduceIte, reduceCtorEq, Nat.reduceEqDiff, Nat.reduceLeDiff, Nat.reduceAdd, Nat.reduceMul, Nat.reduceSub, Nat.reduceLT, wrap_inc hk2]; repeat' (first | exact Ok.out | with_reducible refine And.intro ?_ ?_))
      · (simp only [go_sem, hlt, hget, hpu, hinc, Int.reduceLE, ↓reduceIte, reduceCtorEq, Nat.reduceEqDiff, Nat.reduceLeDiff, Nat.reduceAdd, Nat.reduceMul, Nat.reduceSub, Nat.reduceLT, wrap_inc hk2]; repeat' (first | exact Ok.out | with_reducible refine And.intro ?_ ?_))

abbrev C_eqOne (N : Nat) : Prop := ∀ s t : Sm, s.size < N → ∀ st : St, Fun Try.prog n_ref3_eqOne [.agg (encSm s), .agg (encSm t)] st (.bool (Sm.beq s t)) st
abbrev C_eqL (N : Nat) : Prop := ∀ l l' : List Sm, Sm.sizes l < N → ∀ st : St, Fun Try.prog n_ref3_EqStmts [.slice .shared 13 (l.map encSm), .slice .shared 13 (l'.map encSm)] st (.bool (Sm.beqL l l')) st

theorem eqL_step {N : Nat} (hN : N < 4611686018427387904) (one : C_eqOne N) : C_eqL (N + 1) := by
  intro l l' hs st
  have hl : l.length < 4611686018427387904 := by have := Sm.sizes_len l; omega
  have hk : ∀ a ∈ l, ∀ b s, Fun Try.prog n_ref3_eqOne [.agg (encSm a), .agg (encSm b)] s (.bool (Sm.beq a b)) s := fun a ha b s =>
    one a b (by have := Sm.sizes_mem ha; omega) s
  refine Fun.pure ?_ (by simp [D.oks, D.ok, Tag.ok, okrSm]) rfl st
  generalize h : Sm.beqL l l' = p
  simp only [Sm.beqL] at h
  unfold S0
  refine Fun.go has_ref3_EqStmts rfl fun B Q hB hQ => ?_
  have hlt : 0 < 1 := Nat.zero_lt_one
  have hget : 0 < 1 := Nat.zero_lt_one
  have hpu : 0 < 1 := Nat.zero_lt_one
  have hinc : 0 < 1 := Nat.zero_lt_one
  repeat' (first
 | simp only [go_sem, hlt, hget, hpu, hinc, Int.reduceLE, ↓reduceIte, reduceCtorEq, Nat.reduceEqDiff, Nat.reduceLeDiff, Nat.reduceAdd, Nat.reduceMul, Nat.reduceSub, Nat.reduceLT]
 | (with_reducible first | refine CB_ofT (by assumption) fun hc => ?_ | refine CB_ofF (by assumption) fun hc => ?_ | refine CB_split (fun hc => ?_) fun hc => ?_) <;> (try simp only [hc, bs, ↓reduceIte] at h) <;> (try simp only [hc])
 | ((with_reducible first | refine leafR hQ ?_ | refine leafN hQ ?_); (try cases h); simp only [resL, oneD, Option.some.injEq, exists_eq_left', go_sem, hlt, hget, hpu, hinc, Int.reduceLE, ↓reduceIte, reduceCtorEq, Nat.reduceEqDiff, Nat.reduceLeDiff, Nat.reduceAdd, Nat.reduceMul, Nat.reduceSub, Nat.reduceLT]; repeat' (first | exact Ok.out | with_reducible refine And.intro ?_ ?_ | (simp; done)))
 | (cases h; replace h := hr; clear hr; (try simp only [bs, ↓reduceIte] at h))
 | (cases h; done))
  have hl5 : l.length = l'.length := by
    have : ((l.length : Int) != (l'.length : Int)) = false := by assumption
    simp only [bne_eq_false_iff_eq] at this
    omega
  refine SemL.re _ _ 0 0 (by rw [hB]; exact Nat.le_of_ble_eq_true rfl) (by rw [hB]; exact Nat.le_of_ble_eq_true rfl) ?_ ?_ (SemL.ind (ι := List Sm × List Sm × Nat) (fun i => l.drop i.2.2 = i.1 ∧ l'.drop i.2.2 = i.2.1 ∧ Sm.beqs i.1 i.2.1 = p) (fun i => i.1.length)
    (fun i => [(0, .slice .shared 13 (l.map encSm)), (1, .slice .shared 13 (l'.map encSm)), (12, .int .i64 (l.length : Int)), (13, .int .i64 (i.2.2 : Int))]) (fun i => ⟨[], []⟩) ?_ (l, l', 0) ⟨rfl, rfl, h⟩)
  · (simp only [go_sem, hlt, hget, hpu, hinc, Int.reduceLE, ↓reduceIte, reduceCtorEq, Nat.reduceEqDiff, Nat.reduceLeDiff, Nat.reduceAdd, Nat.reduceMul, Nat.reduceSub, Nat.reduceLT]; repeat' (first | exact Ok.out | with_reducible refine And.intro ?_ ?_))
  · (simp only [go_sem, hlt, hget, hpu, hinc, Int.reduceLE, ↓reduceIte, reduceCtorEq, Nat.reduceEqDiff, Nat.reduceLeDiff, Nat.reduceAdd, Nat.reduceMul, Nat.reduceSub, Nat.reduceLT]; repeat' (first | exact Ok.out | with_reducible refine And.intro ?_ ?_))
  rintro ⟨r1, r2, k⟩ ⟨h1, h2, h⟩ IH
  dsimp only at h1 h2 h
  cases r1 with
  | nil =>
    have hlt := drop_nil h1
    simp only [Sm.beqs] at h
    repeat' (first
 | simp only [go_sem, hlt, hget, hpu, hinc, Int.reduceLE, ↓reduceIte, reduceCtorEq, Nat.reduceEqDiff, Nat.reduceLeDiff, Nat.reduceAdd, Nat.reduceMul, Nat.reduceSub, Nat.reduceLT]
 | (with_reducible first | refine CB_ofT (by assumption) fun hc => ?_ | refine CB_ofF (by assumption) fun hc => ?_ | refine CB_split (fun hc => ?_) fun hc => ?_) <;> (try simp only [hc, bs, ↓reduceIte] at h) <;> (try simp only [hc])
 | ((with_reducible first | refine leafR hQ ?_ | refine leafN hQ ?_); (try cases h); simp only [resL, oneD, Option.some.injEq, exists_eq_left', go_sem, hlt, hget, hpu, hinc, Int.reduceLE, ↓reduceIte, reduceCtorEq, Nat.reduceEqDiff, Nat.reduceLeDiff, Nat.reduceAdd, Nat.reduceMul, Nat.reduceSub, Nat.reduceLT]; repeat' (first | exact Ok.out | with_reducible refine And.intro ?_ ?_ | (simp; done)))
 | (cases h; replace h := hr; clear hr; (try simp only [bs, ↓reduceIte] at h))
 | (cases h; done))
  | cons a r1 =>
    obtain ⟨hget, g2, hlt, g4⟩ := drop_cons h1
    cases r2 with
    | nil => have := List.drop_eq_nil_iff.1 h2; omega
    | cons b r2 =>
      obtain ⟨hgb, b2, _, _⟩ := drop_cons h2
      have hk2 : k < 4611686018427387904 := by omega
      have hab := hk a (List.mem_of_getElem? hget)
      simp only [Sm.beqs] at h
      repeat' (first
 | simp only [go_sem, hlt, hget, hpu, hinc, Int.reduceLE, ↓reduceIte, reduceCtorEq, Nat.reduceEqDiff, Nat.reduceLeDiff, Nat.reduceAdd, Nat.reduceMul, Nat.reduceSub, Nat.reduceLT, hgb]
 | (with_reducible refine CU (hab _ _) ?_)
 | (with_reducible first | refine CB_ofT (by assumption) fun hc => ?_ | refine CB_ofF (by assumption) fun hc => ?_ | refine CB_split (fun hc => ?_) fun hc => ?_) <;> (try simp only [hc, bs, ↓reduceIte] at h) <;> (try simp only [hc])
 | ((with_reducible first | refine leafR hQ ?_ | refine leafN hQ ?_); (try cases h); simp only [resL, oneD, Option.some.injEq, exists_eq_left', go_sem, hlt, hget, hpu, hinc, Int.reduceLE, ↓reduceIte, reduceCtorEq, Nat.reduceEqDiff, Nat.reduceLeDiff, Nat.reduceAdd, Nat.reduceMul, Nat.reduceSub, Nat.reduceLT, hgb]; repeat' (first | exact Ok.out | with_reducible refine And.intro ?_ ?_ | (simp; done)))
 | (cases h; replace h := hr; clear hr; (try simp only [bs, ↓reduceIte] at h))
 | (cases h; done))
      refine SemL.re _ _ 0 0 (by rw [hB]; exact Nat.le_of_ble_eq_true rfl) (by rw [hB]; exact Nat.le_of_ble_eq_true rfl) ?_ ?_ (IH (r1, r2, k + 1) ⟨g2, b2, h⟩ (Nat.lt_succ_self _))
      · (simp only [go_sem, hlt, hget, hpu, hinc, Int.reduceLE, ↓reduceIte, reduceCtorEq, Nat.reduceEqDiff, Nat.reduceLeDiff, Nat.reduceAdd, Nat.reduceMul, Nat.reduceSub, Nat.reduceLT, wrap_inc hk2]; repeat' (first | exact Ok.out | with_reducible refine And.intro ?_ ?_))
      · (simp only [go_sem, hlt, hget, hpu, hinc, Int.reduceLE, ↓reduceIte, reduceCtorEq, Nat.reduceEqDiff, Nat.reduceLeDiff, Nat.reduceAdd, Nat.reduceMul, Nat.reduceSub, Nat.reduceLT, wrap_inc hk2]; repeat' (first | exact Ok.out | with_reducible refine And.intro ?_ ?_))

theorem eqOne_step {N : Nat} (hN : N < 4611686018427387904) (eql : C_eqL N) : C_eqOne (N + 1) := by
  rintro ⟨id, kind, labels, name, proc, x, has, args, thn, els⟩ ⟨id', kind', labels', name', proc', x', has', args', thn', els'⟩ hs st
  simp only [Sm.size] at hs
  refine Fun.pure ?_ (by simp [D.oks, D.ok, okSm]) rfl st
  have hal := Ar.sizes_len args
  have hT := fun s => EqTexts_s (l := labels) (l' := labels') (by omega) s
  have hX := fun s => EqExpr_s (x := x) (y := x') (by omega) s
  simp only [encEx_eq] at hX
  have h1 := eql thn thn' (by omega)
  have h2 := eql els els' (by omega)
  generalize h : Sm.beq ⟨id, kind, labels, name, proc, x, has, args, thn, els⟩ ⟨id', kind', labels', name', proc', x', has', args', thn', els'⟩ = p
  simp only [Sm.beq] at h
  change (if id != id' || kind != kind' || !(name == name') || !(proc == proc') || !(has == has') || !(eqT labels labels') || !(Ex.beq x x') || (args.length : Int) != (args'.length : Int) then false
    else if !(Ar.beqs args args') then false else if Sm.beqL thn thn' then Sm.beqL els els' else false) = p at h
  unfold S0
  refine Fun.go has_ref3_eqOne rfl fun B Q hB hQ => ?_
  have hlt : 0 < 1 := Nat.zero_lt_one
  have hget : 0 < 1 := Nat.zero_lt_one
  have hpu : 0 < 1 := Nat.zero_lt_one
  have hinc : 0 < 1 := Nat.zero_lt_one
  repeat' (first
 | simp only [go_sem, hlt, hget, hpu, hinc, Int.reduceLE, ↓reduceIte, reduceCtorEq, Nat.reduceEqDiff, Nat.reduceLeDiff, Nat.reduceAdd, Nat.reduceMul, Nat.reduceSub, Nat.reduceLT]
 | (with_reducible refine CU (hT _) ?_)
 | (with_reducible refine CU (hX _) ?_)
 | (with_reducible first | refine CB_ofT (by assumption) fun hc => ?_ | refine CB_ofF (by assumption) fun hc => ?_ | refine CB_split (fun hc => ?_) fun hc => ?_) <;> (try simp only [hc, bs, ↓reduceIte] at h) <;> (try simp only [hc])
 | ((with_reducible first | refine leafR hQ ?_ | refine leafN hQ ?_); (try cases h); simp only [resL, oneD, Option.some.injEq, exists_eq_left', go_sem, hlt, hget, hpu, hinc, Int.reduceLE, ↓reduceIte, reduceCtorEq, Nat.reduceEqDiff, Nat.reduceLeDiff, Nat.reduceAdd, Nat.reduceMul, Nat.reduceSub, Nat.reduceLT]; repeat' (first | exact Ok.out | with_reducible refine And.intro ?_ ?_ | (simp; done)))
 | (cases h; replace h := hr; clear hr; (try simp only [bs, ↓reduceIte] at h))
 | (cases h; done))
  have hl5 : args.length = args'.length := by
    have : ((args.length : Int) != (args'.length : Int)) = false := by assumption
    simp only [bne_eq_false_iff_eq] at this
    omega
  refine SemL.re _ _ 2 0 (by rw [hB]; exact Nat.le_of_ble_eq_true rfl) (by rw [hB]; exact Nat.le_of_ble_eq_true rfl) ?_ ?_ (SemL.ind (ι := List Ar × List Ar × Nat) (fun i => args.drop i.2.2 = i.1 ∧ args'.drop i.2.2 = i.2.1 ∧ (if !(Ar.beqs i.1 i.2.1) then false else if Sm.beqL thn thn' then Sm.beqL els els' else false) = p) (fun i => i.1.length)
    (fun i => [(2, .ptr 0 0), (3, .ptr 1 0), (66, .int .i64 (args.length : Int)), (67, .int .i64 (i.2.2 : Int))]) (fun i => ⟨[encSm ⟨id, kind, labels, name, proc, x, has, args, thn, els⟩, encSm ⟨id', kind', labels', name', proc', x', has', args', thn', els'⟩], []⟩) ?_ (args, args', 0) ⟨rfl, rfl, h⟩)
  · (simp only [go_sem, hlt, hget, hpu, hinc, Int.reduceLE, ↓reduceIte, reduceCtorEq, Nat.reduceEqDiff, Nat.reduceLeDiff, Nat.reduceAdd, Nat.reduceMul, Nat.reduceSub, Nat.reduceLT]; repeat' (first | exact Ok.out | with_reducible refine And.intro ?_ ?_))
  · (simp only [go_sem, hlt, hget, hpu, hinc, Int.reduceLE, ↓reduceIte, reduceCtorEq, Nat.reduceEqDiff, Nat.reduceLeDiff, Nat.reduceAdd, Nat.reduceMul, Nat.reduceSub, Nat.reduceLT]; repeat' (first | exact Ok.out | with_reducible refine And.intro ?_ ?_))
  rintro ⟨r1, r2, k⟩ ⟨j1, j2, h⟩ IH
  dsimp only at j1 j2 h
  cases r1 with
  | nil =>
    have hlt := drop_nil j1
    simp only [Ar.beqs, Bool.not_true, Bool.false_eq_true, ↓reduceIte] at h
    repeat' (first
 | simp only [go_sem, hlt, hget, hpu, hinc, Int.reduceLE, ↓reduceIte, reduceCtorEq, Nat.reduceEqDiff, Nat.reduceLeDiff, Nat.reduceAdd, Nat.reduceMul, Nat.reduceSub, Nat.reduceLT]
 | (with_reducible refine CU (h1 _) ?_)
 | (with_reducible refine CU (h2 _) ?_)
 | (with_reducible first | refine CB_ofT (by assumption) fun hc => ?_ | refine CB_ofF (by assumption) fun hc => ?_ | refine CB_split (fun hc => ?_) fun hc => ?_) <;> (try simp only [hc, bs, ↓reduceIte] at h) <;> (try simp only [hc])
 | ((with_reducible first | refine leafR hQ ?_ | refine leafN hQ ?_); (try cases h); simp only [resL, oneD, Option.some.injEq, exists_eq_left', go_sem, hlt, hget, hpu, hinc, Int.reduceLE, ↓reduceIte, reduceCtorEq, Nat.reduceEqDiff, Nat.reduceLeDiff, Nat.reduceAdd, Nat.reduceMul, Nat.reduceSub, Nat.reduceLT]; repeat' (first | exact Ok.out | with_reducible refine And.intro ?_ ?_ | (simp; done)))
 | (cases h; replace h := hr; clear hr; (try simp only [bs, ↓reduceIte] at h))
 | (cases h; done))
  | cons a r1 =>
    obtain ⟨hget, g2, hlt, g4⟩ := drop_cons j1
    cases r2 with
    | nil => have := List.drop_eq_nil_iff.1 j2; omega
    | cons b r2 =>
      obtain ⟨hgb, b2, _, _⟩ := drop_cons j2
      have hk2 : k < 4611686018427387904 := by omega
      have hax : a.x.size < 4611686018427387904 := by have := Ar.sizes_mem (List.mem_of_getElem? hget); omega
      have hab := fun s => EqExpr_s (x := a.x) (y := b.x) hax s
      simp only [Ar.beqs] at h
      repeat' (first
 | simp only [go_sem, hlt, hget, hpu, hinc, Int.reduceLE, ↓reduceIte, reduceCtorEq, Nat.reduceEqDiff, Nat.reduceLeDiff, Nat.reduceAdd, Nat.reduceMul, Nat.reduceSub, Nat.reduceLT, hgb]
 | (with_reducible refine CU (hab _) ?_)
 | (with_reducible first | refine CB_ofT (by assumption) fun hc => ?_ | refine CB_ofF (by assumption) fun hc => ?_ | refine CB_split (fun hc => ?_) fun hc => ?_) <;> (try simp only [hc, bs, ↓reduceIte] at h) <;> (try simp only [hc])
 | ((with_reducible first | refine leafR hQ ?_ | refine leafN hQ ?_); (try cases h); simp only [resL, oneD, Option.some.injEq, exists_eq_left', go_sem, hlt, hget, hpu, hinc, Int.reduceLE, ↓reduceIte, reduceCtorEq, Nat.reduceEqDiff, Nat.reduceLeDiff, Nat.reduceAdd, Nat.reduceMul, Nat.reduceSub, Nat.reduceLT, hgb]; repeat' (first | exact Ok.out | with_reducible refine And.intro ?_ ?_ | (simp; done)))
 | (cases h; replace h := hr; clear hr; (try simp only [bs, ↓reduceIte] at h))
 | (cases h; done))
      refine SemL.re _ _ 2 0 (by rw [hB]; exact Nat.le_of_ble_eq_true rfl) (by rw [hB]; exact Nat.le_of_ble_eq_true rfl) ?_ ?_ (IH (r1, r2, k + 1) ⟨g2, b2, h⟩ (Nat.lt_succ_self _))
      · (simp only [go_sem, hlt, hget, hpu, hinc, Int.reduceLE, ↓reduceIte, reduceCtorEq, Nat.reduceEqDiff, Nat.reduceLeDiff, Nat.reduceAdd, Nat.reduceMul, Nat.reduceSub, Nat.reduceLT, wrap_inc hk2]; repeat' (first | exact Ok.out | with_reducible refine And.intro ?_ ?_))
      · (simp only [go_sem, hlt, hget, hpu, hinc, Int.reduceLE, ↓reduceIte, reduceCtorEq, Nat.reduceEqDiff, Nat.reduceLeDiff, Nat.reduceAdd, Nat.reduceMul, Nat.reduceSub, Nat.reduceLT, wrap_inc hk2]; repeat' (first | exact Ok.out | with_reducible refine And.intro ?_ ?_))

theorem eq_all : ∀ N, N < 4611686018427387904 → C_eqOne N ∧ C_eqL N := by
  intro N
  induction N with
  | zero => exact fun _ => ⟨fun s t h => absurd h (Nat.not_lt_zero _), fun l l' h => absurd h (Nat.not_lt_zero _)⟩
  | succ N ih =>
    intro h
    have := ih (by omega)
    exact ⟨eqOne_step (by omega) this.2, eqL_step (by omega) this.1⟩

theorem EqStmts_s {l l' : List Sm} (h : Sm.sizes l < 4611686018427387000) (st : St) : Fun Try.prog n_ref3_EqStmts [.slice .shared 13 (l.map encSm), .slice .shared 13 (l'.map encSm)] st (.bool (Sm.beqL l l')) st :=
  (eq_all (Sm.sizes l + 1) (by omega)).2 l l' (Nat.lt_succ_self _) st

end Go.Abs

/-! RefEq2 -/

namespace Go.Abs

set_option maxRecDepth 8000
set_option linter.unusedSimpArgs false
set_option linter.unusedVariables false
open Go.Proofs

theorem Eq_s {a b : Pg} (hs : a.size < 1073741824) (st : St) : Fun Try.prog n_ref3_Eq [.agg (encPg a), .agg (encPg b)] st (.bool (Pg.beq a b)) st := by
  obtain ⟨g, ps⟩ := a
  obtain ⟨g', ps'⟩ := b
  simp only [Pg.size] at hs
  have hpl := Pc.sizes_len ps
  refine Fun.pure ?_ (by simp [D.oks, D.ok, okPg]) rfl st
  have hT := fun s => EqTexts_s (l := g) (l' := g') (by omega) s
  generalize h : Pg.beq ⟨g, ps⟩ ⟨g', ps'⟩ = p
  simp only [Pg.beq] at h
  unfold S0
  refine Fun.go has_ref3_Eq rfl fun B Q hB hQ => ?_
  have hlt : 0 < 1 := Nat.zero_lt_one
  have hget : 0 < 1 := Nat.zero_lt_one
  have hpu : 0 < 1 := Nat.zero_lt_one
  have hinc : 0 < 1 := Nat.zero_lt_one
  repeat' (first
 | simp only [go_sem, hlt, hget, hpu, hinc, Int.reduceLE, ↓reduceIte, reduceCtorEq, Nat.reduceEqDiff, Nat.reduceLeDiff, Nat.reduceAdd, Nat.reduceMul, Nat.reduceSub, Nat.reduceLT]
 | (with_reducible refine CU (hT _) ?_)
 | (with_reducible first | refine CB_ofT (by assumption) fun hc => ?_ | refine CB_ofF (by assumption) fun hc => ?_ | refine CB_split (fun hc => ?_) fun hc => ?_) <;> (try simp only [hc, bs, ↓reduceIte] at h) <;> (try simp only [hc])
 | ((with_reducible first | refine leafR hQ ?_ | refine leafN hQ ?_); (try cases h); simp only [resL, oneD, Option.some.injEq, exists_eq_left', go_sem, hlt, hget, hpu, hinc, Int.reduceLE, ↓reduceIte, reduceCtorEq, Nat.reduceEqDiff, Nat.reduceLeDiff, Nat.reduceAdd, Nat.reduceMul, Nat.reduceSub, Nat.reduceLT]; repeat' (first | exact Ok.out | with_reducible refine And.intro ?_ ?_ | (simp; done)))
 | (cases h; replace h := hr; clear hr; (try simp only [bs, ↓reduceIte] at h))
 | (cases h; done))
  have hl5 : ps.length = ps'.length := by
    have : ((ps.length : Int) != (ps'.length : Int)) = false := by assumption
    simp only [bne_eq_false_iff_eq] at this
    omega
  refine SemL.re _ _ 2 0 (by rw [hB]; exact Nat.le_of_ble_eq_true rfl) (by rw [hB]; exact Nat.le_of_ble_eq_true rfl) ?_ ?_ (SemL.ind (ι := List Pc × List Pc × Nat) (fun i => ps.drop i.2.2 = i.1 ∧ ps'.drop i.2.2 = i.2.1 ∧ Pc.beqs i.1 i.2.1 = p) (fun i => i.1.length)
    (fun i => [(2, .ptr 0 0), (3, .ptr 1 0), (26, .int .i64 (ps.length : Int)), (27, .int .i64 (i.2.2 : Int))]) (fun i => ⟨[encPg ⟨g, ps⟩, encPg ⟨g', ps'⟩], []⟩) ?_ (ps, ps', 0) ⟨rfl, rfl, h⟩)
  · (simp only [go_sem, hlt, hget, hpu, hinc, Int.reduceLE, ↓reduceIte, reduceCtorEq, Nat.reduceEqDiff, Nat.reduceLeDiff, Nat.reduceAdd, Nat.reduceMul, Nat.reduceSub, Nat.reduceLT]; repeat' (first | exact Ok.out | with_reducible refine And.intro ?_ ?_))
  · (simp only [go_sem, hlt, hget, hpu, hinc, Int.reduceLE, ↓reduceIte, reduceCtorEq, Nat.reduceEqDiff, Nat.reduceLeDiff, Nat.reduceAdd, Nat.reduceMul, Nat.reduceSub, Nat.reduceLT]; repeat' (first | exact Ok.out | with_reducible refine And.intro ?_ ?_))
  rintro ⟨r1, r2, k⟩ ⟨j1, j2, h⟩ IH
  dsimp only at j1 j2 h
  cases r1 with
  | nil =>
    have hlt := drop_nil j1
    simp only [Pc.beqs] at h
    repeat' (first
 | simp only [go_sem, hlt, hget, hpu, hinc, Int.reduceLE, ↓reduceIte, reduceCtorEq, Nat.reduceEqDiff, Nat.reduceLeDiff, Nat.reduceAdd, Nat.reduceMul, Nat.reduceSub, Nat.reduceLT]
 | (with_reducible first | refine CB_ofT (by assumption) fun hc => ?_ | refine CB_ofF (by assumption) fun hc => ?_ | refine CB_split (fun hc => ?_) fun hc => ?_) <;> (try simp only [hc, bs, ↓reduceIte] at h) <;> (try simp only [hc])
 | ((with_reducible first | refine leafR hQ ?_ | refine leafN hQ ?_); (try cases h); simp only [resL, oneD, Option.some.injEq, exists_eq_left', go_sem, hlt, hget, hpu, hinc, Int.reduceLE, ↓reduceIte, reduceCtorEq, Nat.reduceEqDiff, Nat.reduceLeDiff, Nat.reduceAdd, Nat.reduceMul, Nat.reduceSub, Nat.reduceLT]; repeat' (first | exact Ok.out | with_reducible refine And.intro ?_ ?_ | (simp; done)))
 | (cases h; replace h := hr; clear hr; (try simp only [bs, ↓reduceIte] at h))
 | (cases h; done))
  | cons x r1 =>
    obtain ⟨hget, g2, hlt, g4⟩ := drop_cons j1
    cases r2 with
    | nil => have := List.drop_eq_nil_iff.1 j2; omega
    | cons y r2 =>
      obtain ⟨hgb, b2, _, _⟩ := drop_cons j2
      have hk2 : k < 4611686018427387904 := by omega
      have hsz := Pc.sizes_mem (List.mem_of_getElem? hget)
      obtain ⟨name, params, vars, body, fin⟩ := x
      obtain ⟨name', params', vars', body', fin'⟩ := y
      simp only [Pc.size] at hsz
      have h1 := fun s => EqTexts_s (l := vars) (l' := vars') (by omega) s
      have h2 := fun s => EqTexts_s (l := fin) (l' := fin') (by omega) s
      have h3 := fun s => EqStmts_s (l := body) (l' := body') (by omega) s
      simp only [Pc.beqs] at h
      repeat' (first
 | simp only [go_sem, hlt, hget, hpu, hinc, Int.reduceLE, ↓reduceIte, reduceCtorEq, Nat.reduceEqDiff, Nat.reduceLeDiff, Nat.reduceAdd, Nat.reduceMul, Nat.reduceSub, Nat.reduceLT, hgb]
 | (with_reducible refine CU (h1 _) ?_)
 | (with_reducible refine CU (h2 _) ?_)
 | (with_reducible refine CU (h3 _) ?_)
 | (with_reducible first | refine CB_ofT (by assumption) fun hc => ?_ | refine CB_ofF (by assumption) fun hc => ?_ | refine CB_split (fun hc => ?_) fun hc => ?_) <;> (try simp only [hc, bs, ↓reduceIte] at h) <;> (try simp only [hc])
 | ((with_reducible first | refine leafR hQ ?_ | refine leafN hQ ?_); (try cases h); simp only [resL, oneD, Option.some.injEq, exists_eq_left', go_sem, hlt, hget, hpu, hinc, Int.reduceLE, ↓reduceIte, reduceCtorEq, Nat.reduceEqDiff, Nat.reduceLeDiff, Nat.reduceAdd, Nat.reduceMul, Nat.reduceSub, Nat.reduceLT, hgb]; repeat' (first | exact Ok.out | with_reducible refine And.intro ?_ ?_ | (simp; done)))
 | (cases h; replace h := hr; clear hr; (try simp only [bs, ↓reduceIte] at h))
 | (cases h; done))
      have hm5 : params.length = params'.length := by
        have : ((params.length : Int) != (params'.length : Int)) = false := by assumption
        simp only [bne_eq_false_iff_eq] at this
        omega
      refine SemL.re _ _ 4 0 (by rw [hB]; exact Nat.le_of_ble_eq_true rfl) (by rw [hB]; exact Nat.le_of_ble_eq_true rfl) ?_ ?_ (SemL.ind (ι := List Pm × List Pm × Nat) (fun i => params.drop i.2.2 = i.1 ∧ params'.drop i.2.2 = i.2.1 ∧ (if !(Pm.beqs i.1 i.2.1) then false else Pc.beqs r1 r2) = p) (fun i => i.1.length)
        (fun i => [(2, .ptr 0 0), (3, .ptr 1 0), (6, .ptr 2 0), (7, .ptr 3 0), (26, .int .i64 (ps.length : Int)), (27, .int .i64 (k : Int)), (80, .int .i64 (params.length : Int)), (81, .int .i64 (i.2.2 : Int))])
        (fun i => ⟨[encPg ⟨g, ps⟩, encPg ⟨g', ps'⟩, encPc ⟨name, params, vars, body, fin⟩, encPc ⟨name', params', vars', body', fin'⟩], []⟩) ?_ (params, params', 0) ⟨rfl, rfl, h⟩)
      · (simp only [go_sem, hlt, hget, hpu, hinc, Int.reduceLE, ↓reduceIte, reduceCtorEq, Nat.reduceEqDiff, Nat.reduceLeDiff, Nat.reduceAdd, Nat.reduceMul, Nat.reduceSub, Nat.reduceLT]; repeat' (first | exact Ok.out | with_reducible refine And.intro ?_ ?_))
      · (simp only [go_sem, hlt, hget, hpu, hinc, Int.reduceLE, ↓reduceIte, reduceCtorEq, Nat.reduceEqDiff, Nat.reduceLeDiff, Nat.reduceAdd, Nat.reduceMul, Nat.reduceSub, Nat.reduceLT]; repeat' (first | exact Ok.out | with_reducible refine And.intro ?_ ?_))
      rintro ⟨s1, s2, q⟩ ⟨i1, i2, h⟩ IHm
      dsimp only at i1 i2 h
      cases s1 with
      | nil =>
        have hlt := drop_nil i1
        simp only [Pm.beqs, Bool.not_true, Bool.false_eq_true, ↓reduceIte] at h
        repeat' (first
 | simp only [go_sem, hlt, hget, hpu, hinc, Int.reduceLE, ↓reduceIte, reduceCtorEq, Nat.reduceEqDiff, Nat.reduceLeDiff, Nat.reduceAdd, Nat.reduceMul, Nat.reduceSub, Nat.reduceLT]
 | (with_reducible first | refine CB_ofT (by assumption) fun hc => ?_ | refine CB_ofF (by assumption) fun hc => ?_ | refine CB_split (fun hc => ?_) fun hc => ?_) <;> (try simp only [hc, bs, ↓reduceIte] at h) <;> (try simp only [hc])
 | ((with_reducible first | refine leafR hQ ?_ | refine leafN hQ ?_); (try cases h); simp only [resL, oneD, Option.some.injEq, exists_eq_left', go_sem, hlt, hget, hpu, hinc, Int.reduceLE, ↓reduceIte, reduceCtorEq, Nat.reduceEqDiff, Nat.reduceLeDiff, Nat.reduceAdd, Nat.reduceMul, Nat.reduceSub, Nat.reduceLT]; repeat' (first | exact Ok.out | with_reducible refine And.intro ?_ ?_ | (simp; done)))
 | (cases h; replace h := hr; clear hr; (try simp only [bs, ↓reduceIte] at h))
 | (cases h; done))
        refine SemL.re _ _ 2 0 (by rw [hB]; exact Nat.le_of_ble_eq_true rfl) (by rw [hB]; exact Nat.le_of_ble_eq_true rfl) ?_ ?_ (IH (r1, r2, k + 1) ⟨g2, b2, h⟩ (Nat.lt_succ_self _))
        · (simp only [go_sem, hlt, hget, hpu, hinc, Int.reduceLE, ↓reduceIte, reduceCtorEq, Nat.reduceEqDiff, Nat.reduceLeDiff, Nat.reduceAdd, Nat.reduceMul, Nat.reduceSub, Nat.reduceLT, wrap_inc hk2]; repeat' (first | exact Ok.out | with_reducible refine And.intro ?_ ?_))
        · (simp only [go_sem, hlt, hget, hpu, hinc, Int.reduceLE, ↓reduceIte, reduceCtorEq, Nat.reduceEqDiff, Nat.reduceLeDiff, Nat.reduceAdd, Nat.reduceMul, Nat.reduceSub, Nat.reduceLT, wrap_inc hk2]; repeat' (first | exact Ok.out | with_reducible refine And.intro ?_ ?_))
      | cons u s1 =>
        obtain ⟨hget, u2, hlt, u4⟩ := drop_cons i1
        cases s2 with
        | nil => have := List.drop_eq_nil_iff.1 i2; omega
        | cons v s2 =>
          obtain ⟨hgb, v2, _, _⟩ := drop_cons i2
          have hq2 : q < 4611686018427387904 := by omega
          simp only [Pm.beqs] at h
          cases e1 : (u.name == v.name)
          · simp only [e1, Bool.false_and, Bool.not_false, ↓reduceIte] at h
            repeat' (first
 | simp only [go_sem, hlt, hget, hpu, hinc, Int.reduceLE, ↓reduceIte, reduceCtorEq, Nat.reduceEqDiff, Nat.reduceLeDiff, Nat.reduceAdd, Nat.reduceMul, Nat.reduceSub, Nat.reduceLT, hgb, encPm, e1]
 | (with_reducible first | refine CB_ofT (by assumption) fun hc => ?_ | refine CB_ofF (by assumption) fun hc => ?_ | refine CB_split (fun hc => ?_) fun hc => ?_) <;> (try simp only [hc, bs, ↓reduceIte] at h) <;> (try simp only [hc])
 | ((with_reducible first | refine leafR hQ ?_ | refine leafN hQ ?_); (try cases h); simp only [resL, oneD, Option.some.injEq, exists_eq_left', go_sem, hlt, hget, hpu, hinc, Int.reduceLE, ↓reduceIte, reduceCtorEq, Nat.reduceEqDiff, Nat.reduceLeDiff, Nat.reduceAdd, Nat.reduceMul, Nat.reduceSub, Nat.reduceLT, hgb, encPm, e1]; repeat' (first | exact Ok.out | with_reducible refine And.intro ?_ ?_ | (simp; done)))
 | (cases h; replace h := hr; clear hr; (try simp only [bs, ↓reduceIte] at h))
 | (cases h; done))
          · cases e2 : (u.ref == v.ref)
            · simp only [e1, e2, Bool.and_false, Bool.not_false, ↓reduceIte] at h
              repeat' (first
 | simp only [go_sem, hlt, hget, hpu, hinc, Int.reduceLE, ↓reduceIte, reduceCtorEq, Nat.reduceEqDiff, Nat.reduceLeDiff, Nat.reduceAdd, Nat.reduceMul, Nat.reduceSub, Nat.reduceLT, hgb, encPm, e1, e2]
 | (with_reducible first | refine CB_ofT (by assumption) fun hc => ?_ | refine CB_ofF (by assumption) fun hc => ?_ | refine CB_split (fun hc => ?_) fun hc => ?_) <;> (try simp only [hc, bs, ↓reduceIte] at h) <;> (try simp only [hc])
 | ((with_reducible first | refine leafR hQ ?_ | refine leafN hQ ?_); (try cases h); simp only [resL, oneD, Option.some.injEq, exists_eq_left', go_sem, hlt, hget, hpu, hinc, Int.reduceLE, ↓reduceIte, reduceCtorEq, Nat.reduceEqDiff, Nat.reduceLeDiff, Nat.reduceAdd, Nat.reduceMul, Nat.reduceSub, Nat.reduceLT, hgb, encPm, e1, e2]; repeat' (first | exact Ok.out | with_reducible refine And.intro ?_ ?_ | (simp; done)))
 | (cases h; replace h := hr; clear hr; (try simp only [bs, ↓reduceIte] at h))
 | (cases h; done))
            · simp only [e1, e2, Bool.and_true, Bool.not_true, Bool.false_eq_true, ↓reduceIte] at h
              repeat' (first
 | simp only [go_sem, hlt, hget, hpu, hinc, Int.reduceLE, ↓reduceIte, reduceCtorEq, Nat.reduceEqDiff, Nat.reduceLeDiff, Nat.reduceAdd, Nat.reduceMul, Nat.reduceSub, Nat.reduceLT, hgb, encPm, e1, e2]
 | (with_reducible first | refine CB_ofT (by assumption) fun hc => ?_ | refine CB_ofF (by assumption) fun hc => ?_ | refine CB_split (fun hc => ?_) fun hc => ?_) <;> (try simp only [hc, bs, ↓reduceIte] at h) <;> (try simp only [hc])
 | ((with_reducible first | refine leafR hQ ?_ | refine leafN hQ ?_); (try cases h); simp only [resL, oneD, Option.some.injEq, exists_eq_left', go_sem, hlt, hget, hpu, hinc, Int.reduceLE, ↓reduceIte, reduceCtorEq, Nat.reduceEqDiff, Nat.reduceLeDiff, Nat.reduceAdd, Nat.reduceMul, Nat.reduceSub, Nat.reduceLT, hgb, encPm, e1, e2]; repeat' (first | exact Ok.out | with_reducible refine And.intro ?_ ?_ | (simp; done)))
 | (cases h; replace h := hr; clear hr; (try simp only [bs, ↓reduceIte] at h))
 | (cases h; done))
              refine SemL.re _ _ 4 0 (by rw [hB]; exact Nat.le_of_ble_eq_true rfl) (by rw [hB]; exact Nat.le_of_ble_eq_true rfl) ?_ ?_ (IHm (s1, s2, q + 1) ⟨u2, v2, h⟩ (Nat.lt_succ_self _))
              · (simp only [go_sem, hlt, hget, hpu, hinc, Int.reduceLE, ↓reduceIte, reduceCtorEq, Nat.reduceEqDiff, Nat.reduceLeDiff, Nat.reduceAdd, Nat.reduceMul, Nat.reduceSub, Nat.reduceLT, wrap_inc hq2]; repeat' (first | exact Ok.out | with_reducible refine And.intro ?_ ?_))
              · (simp only [go_sem, hlt, hget, hpu, hinc, Int.reduceLE, ↓reduceIte, reduceCtorEq, Nat.reduceEqDiff, Nat.reduceLeDiff, Nat.reduceAdd, Nat.reduceMul, Nat.reduceSub, Nat.reduceLT, wrap_inc hq2]; repeat' (first | exact Ok.out | with_reducible refine And.intro ?_ ?_))

/-! ### The sample -/

def exNum (n : Int) : Ex := ⟨1, n, [], []⟩
def exName (s : Str) : Ex := ⟨2, 0, s, []⟩
def exTwo (op : Int) (a b : Ex) : Ex := ⟨op, 0, [], [a, b]⟩

theorem num_s (n : Int) (s : St) : Fun Try.prog n_ref3_num [.int .i64 n] s (.agg (encEx (exNum n))) s := by
  refine Fun.pure ?_ rfl (by simp [D.ok, okEx]) s
  unfold S0
  refine Fun.go has_ref3_num rfl fun B Q hB hQ => ?_
  have hlt : 0 < 1 := Nat.zero_lt_one
  have hget : 0 < 1 := Nat.zero_lt_one
  have hpu : 0 < 1 := Nat.zero_lt_one
  have hinc : 0 < 1 := Nat.zero_lt_one
  repeat' (first
 | simp only [go_sem, hlt, hget, hpu, hinc, Int.reduceLE, ↓reduceIte, reduceCtorEq, Nat.reduceEqDiff, Nat.reduceLeDiff, Nat.reduceAdd, Nat.reduceMul, Nat.reduceSub, Nat.reduceLT, exNum]
 | (with_reducible first | refine CB_ofT (by assumption) fun hc => ?_ | refine CB_ofF (by assumption) fun hc => ?_ | refine CB_split (fun hc => ?_) fun hc => ?_) <;> (try simp only [hc, bs, ↓reduceIte] at h) <;> (try simp only [hc])
 | ((with_reducible first | refine leafR hQ ?_ | refine leafN hQ ?_); (try cases h); simp only [resL, oneD, Option.some.injEq, exists_eq_left', go_sem, hlt, hget, hpu, hinc, Int.reduceLE, ↓reduceIte, reduceCtorEq, Nat.reduceEqDiff, Nat.reduceLeDiff, Nat.reduceAdd, Nat.reduceMul, Nat.reduceSub, Nat.reduceLT, exNum]; repeat' (first | exact Ok.out | with_reducible refine And.intro ?_ ?_ | (simp; done)))
 | (cases h; replace h := hr; clear hr; (try simp only [bs, ↓reduceIte] at h))
 | (cases h; done))
theorem name_ref_s (t : Str) (s : St) : Fun Try.prog n_ref3_name [.str t] s (.agg (encEx (exName t))) s := by
  refine Fun.pure ?_ rfl (by simp [D.ok, okEx]) s
  unfold S0
  refine Fun.go has_ref3_name rfl fun B Q hB hQ => ?_
  have hlt : 0 < 1 := Nat.zero_lt_one
  have hget : 0 < 1 := Nat.zero_lt_one
  have hpu : 0 < 1 := Nat.zero_lt_one
  have hinc : 0 < 1 := Nat.zero_lt_one
  repeat' (first
 | simp only [go_sem, hlt, hget, hpu, hinc, Int.reduceLE, ↓reduceIte, reduceCtorEq, Nat.reduceEqDiff, Nat.reduceLeDiff, Nat.reduceAdd, Nat.reduceMul, Nat.reduceSub, Nat.reduceLT, exName]
 | (with_reducible first | refine CB_ofT (by assumption) fun hc => ?_ | refine CB_ofF (by assumption) fun hc => ?_ | refine CB_split (fun hc => ?_) fun hc => ?_) <;> (try simp only [hc, bs, ↓reduceIte] at h) <;> (try simp only [hc])
 | ((with_reducible first | refine leafR hQ ?_ | refine leafN hQ ?_); (try cases h); simp only [resL, oneD, Option.some.injEq, exists_eq_left', go_sem, hlt, hget, hpu, hinc, Int.reduceLE, ↓reduceIte, reduceCtorEq, Nat.reduceEqDiff, Nat.reduceLeDiff, Nat.reduceAdd, Nat.reduceMul, Nat.reduceSub, Nat.reduceLT, exName]; repeat' (first | exact Ok.out | with_reducible refine And.intro ?_ ?_ | (simp; done)))
 | (cases h; replace h := hr; clear hr; (try simp only [bs, ↓reduceIte] at h))
 | (cases h; done))
theorem two_ref_s (op : Int) (a b : Ex) (s : St) : Fun Try.prog n_ref3_two [.int .i64 op, .agg (encEx a), .agg (encEx b)] s (.agg (encEx (exTwo op a b))) s := by
  refine Fun.pure ?_ (by simp [D.oks, D.ok, okEx]) (by simp [D.ok, okEx]) s
  unfold S0
  refine Fun.go has_ref3_two rfl fun B Q hB hQ => ?_
  have hlt : 0 < 1 := Nat.zero_lt_one
  have hget : 0 < 1 := Nat.zero_lt_one
  have hpu : 0 < 1 := Nat.zero_lt_one
  have hinc : 0 < 1 := Nat.zero_lt_one
  repeat' (first
 | simp only [go_sem, hlt, hget, hpu, hinc, Int.reduceLE, ↓reduceIte, reduceCtorEq, Nat.reduceEqDiff, Nat.reduceLeDiff, Nat.reduceAdd, Nat.reduceMul, Nat.reduceSub, Nat.reduceLT, exTwo]
 | (with_reducible first | refine CB_ofT (by assumption) fun hc => ?_ | refine CB_ofF (by assumption) fun hc => ?_ | refine CB_split (fun hc => ?_) fun hc => ?_) <;> (try simp only [hc, bs, ↓reduceIte] at h) <;> (try simp only [hc])
 | ((with_reducible first | refine leafR hQ ?_ | refine leafN hQ ?_); (try cases h); simp only [resL, oneD, Option.some.injEq, exists_eq_left', go_sem, hlt, hget, hpu, hinc, Int.reduceLE, ↓reduceIte, reduceCtorEq, Nat.reduceEqDiff, Nat.reduceLeDiff, Nat.reduceAdd, Nat.reduceMul, Nat.reduceSub, Nat.reduceLT, exTwo]; repeat' (first | exact Ok.out | with_reducible refine And.intro ?_ ?_ | (simp; done)))
 | (cases h; replace h := hr; clear hr; (try simp only [bs, ↓reduceIte] at h))
 | (cases h; done))

def source : Str := [103, 108, 111, 98, 97, 108, 32, 103, 59, 10, 112, 114, 111, 99, 32, 109, 97, 105, 110, 40, 41, 32, 123, 10, 32, 118, 97, 114, 32, 118, 59, 10, 32, 118, 32, 61, 32, 50, 59, 10, 32, 103, 32, 61, 32, 112, 40, 51, 44, 32, 114, 101, 102, 32, 118, 41, 59, 10, 32, 112, 114, 105, 110, 116, 32, 118, 59, 10, 32, 112, 114, 105, 110, 116, 32, 103, 59, 10, 125, 10, 112, 114, 111, 99, 32, 112, 40, 120, 44, 32, 114, 101, 102, 32, 121, 41, 32, 123, 10, 32, 121, 32, 61, 32, 121, 32, 43, 32, 120, 59, 10, 32, 105, 102, 32, 40, 121, 32, 62, 32, 57, 41, 32, 123, 10, 32, 32, 103, 111, 116, 111, 32, 101, 59, 10, 32, 125, 10, 32, 114, 101, 116, 117, 114, 110, 32, 121, 59, 10, 101, 58, 32, 125, 10]

theorem Source_s (s : St) : Fun Try.prog n_ref3_Source [] s (.str source) s := by
  refine Fun.pure ?_ rfl rfl s
  unfold S0
  refine Fun.go has_ref3_Source rfl fun B Q hB hQ => ?_
  have hlt : 0 < 1 := Nat.zero_lt_one
  have hget : 0 < 1 := Nat.zero_lt_one
  have hpu : 0 < 1 := Nat.zero_lt_one
  have hinc : 0 < 1 := Nat.zero_lt_one
  repeat' (first
 | simp only [go_sem, hlt, hget, hpu, hinc, Int.reduceLE, ↓reduceIte, reduceCtorEq, Nat.reduceEqDiff, Nat.reduceLeDiff, Nat.reduceAdd, Nat.reduceMul, Nat.reduceSub, Nat.reduceLT, source]
 | (with_reducible first | refine CB_ofT (by assumption) fun hc => ?_ | refine CB_ofF (by assumption) fun hc => ?_ | refine CB_split (fun hc => ?_) fun hc => ?_) <;> (try simp only [hc, bs, ↓reduceIte] at h) <;> (try simp only [hc])
 | ((with_reducible first | refine leafR hQ ?_ | refine leafN hQ ?_); (try cases h); simp only [resL, oneD, Option.some.injEq, exists_eq_left', go_sem, hlt, hget, hpu, hinc, Int.reduceLE, ↓reduceIte, reduceCtorEq, Nat.reduceEqDiff, Nat.reduceLeDiff, Nat.reduceAdd, Nat.reduceMul, Nat.reduceSub, Nat.reduceLT, source]; repeat' (first | exact Ok.out | with_reducible refine And.intro ?_ ?_ | (simp; done)))
 | (cases h; replace h := hr; clear hr; (try simp only [bs, ↓reduceIte] at h))
 | (cases h; done))

def some0 : Pg := ⟨[[103]], [
  ⟨[109, 97, 105, 110], [], [[118]], [
    ⟨1, 1, [], [118], [], exNum 2, false, [], [], []⟩,
    ⟨2, 4, [], [103], [112], ex0, false, [⟨false, [], exNum 3⟩, ⟨true, [118], ex0⟩], [], []⟩,
    ⟨3, 3, [], [], [], exName [118], false, [], [], []⟩,
    ⟨4, 3, [], [], [], exName [103], false, [], [], []⟩], []⟩,
  ⟨[112], [⟨[120], false⟩, ⟨[121], true⟩], [], [
    ⟨5, 1, [], [121], [], exTwo 8 (exName [121]) (exName [120]), false, [], [], []⟩,
    ⟨6, 5, [], [], [], exTwo 12 (exName [121]) (exNum 9), false, [], [⟨7, 10, [], [101], [], ex0, false, [], [], []⟩], []⟩,
    ⟨8, 9, [], [], [], exName [121], true, [], [], []⟩], [[101]]⟩]⟩

theorem Some_s (s : St) : Fun Try.prog n_ref3_Some [] s (.agg (encPg some0)) s := by
  refine Fun.pure ?_ rfl (by simp [D.ok, okPg]) s
  unfold S0
  refine Fun.go has_ref3_Some rfl fun B Q hB hQ => ?_
  have hlt : 0 < 1 := Nat.zero_lt_one
  have hget : 0 < 1 := Nat.zero_lt_one
  have hpu : 0 < 1 := Nat.zero_lt_one
  have hinc : 0 < 1 := Nat.zero_lt_one
  repeat' (first
 | simp only [go_sem, hlt, hget, hpu, hinc, Int.reduceLE, ↓reduceIte, reduceCtorEq, Nat.reduceEqDiff, Nat.reduceLeDiff, Nat.reduceAdd, Nat.reduceMul, Nat.reduceSub, Nat.reduceLT, some0]
 | (with_reducible refine CU (num_s _ _) ?_)
 | (with_reducible refine CU (name_ref_s _ _) ?_)
 | (with_reducible refine CU (two_ref_s _ _ _ _) ?_)
 | (with_reducible first | refine CB_ofT (by assumption) fun hc => ?_ | refine CB_ofF (by assumption) fun hc => ?_ | refine CB_split (fun hc => ?_) fun hc => ?_) <;> (try simp only [hc, bs, ↓reduceIte] at h) <;> (try simp only [hc])
 | ((with_reducible first | refine leafR hQ ?_ | refine leafN hQ ?_); (try cases h); simp only [resL, oneD, Option.some.injEq, exists_eq_left', go_sem, hlt, hget, hpu, hinc, Int.reduceLE, ↓reduceIte, reduceCtorEq, Nat.reduceEqDiff, Nat.reduceLeDiff, Nat.reduceAdd, Nat.reduceMul, Nat.reduceSub, Nat.reduceLT, some0]; repeat' (first | exact Ok.out | with_reducible refine And.intro ?_ ?_ | (simp; done)))
 | (cases h; replace h := hr; clear hr; (try simp only [bs, ↓reduceIte] at h))
 | (cases h; done))
  repeat' (first | exact Ok.out | with_reducible refine Wk.agg ?_ | with_reducible refine Wk.rows ?_ | with_reducible refine Wk.slice ?_ | with_reducible refine WkR.cons ?_ ?_ | with_reducible refine WkL.cons ?_ ?_)

end Go.Abs

/-! Prs3 -/

namespace Go.Abs

set_option maxRecDepth 8000
set_option linter.unusedSimpArgs false
set_option linter.unusedVariables false
open Go.Proofs

theorem names_0 {n : Nat} {l : List Str} {most : Int} {r : Rd} {p : List Str × Rd} (h : Rd.names n l most r = some p) :
    Fun Try.prog n_parse_reader_names [.ptr 0 0, .slice (.tok 0) 1 (l.map encStr), .int .i64 most] ⟨[encRd r], [some l.length]⟩ (.slice (.tok 0) 1 (p.1.map encStr)) ⟨[encRd p.2], [some p.1.length]⟩ := by
  refine Fun.go has_parse_reader_names rfl fun B Q hB hQ => ?_
  have hlt : 0 < 1 := Nat.zero_lt_one
  have hget : 0 < 1 := Nat.zero_lt_one
  have hpu : 0 < 1 := Nat.zero_lt_one
  have hinc : 0 < 1 := Nat.zero_lt_one
  repeat' (first
 | simp only [go_sem, hlt, hget, hpu, hinc, Int.reduceLE, ↓reduceIte, reduceCtorEq, Nat.reduceEqDiff, Nat.reduceLeDiff, Nat.reduceAdd, Nat.reduceMul, Nat.reduceSub, Nat.reduceLT]
 | (with_reducible first | refine CB_ofT (by assumption) fun hc => ?_ | refine CB_ofF (by assumption) fun hc => ?_ | refine CB_split (fun hc => ?_) fun hc => ?_) <;> (try simp only [hc, bs, ↓reduceIte] at h) <;> (try simp only [hc])
 | ((with_reducible first | refine leafR hQ ?_ | refine leafN hQ ?_); (try cases h); simp only [resL, oneD, Option.some.injEq, exists_eq_left', go_sem, hlt, hget, hpu, hinc, Int.reduceLE, ↓reduceIte, reduceCtorEq, Nat.reduceEqDiff, Nat.reduceLeDiff, Nat.reduceAdd, Nat.reduceMul, Nat.reduceSub, Nat.reduceLT]; repeat' (first | exact Ok.out | with_reducible refine And.intro ?_ ?_ | (simp; done)))
 | (cases h; replace h := hr; clear hr; (try simp only [bs, ↓reduceIte] at h))
 | (cases h; done))
  refine SemL.re _ _ 1 1 (by rw [hB]; exact Nat.le_of_ble_eq_true rfl) (by rw [hB]; exact Nat.le_of_ble_eq_true rfl) ?_ ?_ (SemL.ind (ι := Nat × List Str × Rd × Nat) (fun i => Rd.names i.1 i.2.1 most i.2.2.1 = some p ∧ i.2.2.2 = i.2.1.length) (fun i => i.1)
    (fun i => [(0, .ptr 0 0), (1, .slice (.tok 0) 1 (i.2.1.map encStr)), (2, .int .i64 most)]) (fun i => ⟨[encRd i.2.2.1], [some i.2.2.2]⟩) ?_ (n, l, r, l.length) ⟨h, rfl⟩)
  · (simp only [go_sem, hlt, hget, hpu, hinc, Int.reduceLE, ↓reduceIte, reduceCtorEq, Nat.reduceEqDiff, Nat.reduceLeDiff, Nat.reduceAdd, Nat.reduceMul, Nat.reduceSub, Nat.reduceLT]; repeat' (first | exact Ok.out | with_reducible refine And.intro ?_ ?_))
  · (simp only [go_sem, hlt, hget, hpu, hinc, Int.reduceLE, ↓reduceIte, reduceCtorEq, Nat.reduceEqDiff, Nat.reduceLeDiff, Nat.reduceAdd, Nat.reduceMul, Nat.reduceSub, Nat.reduceLT]; repeat' (first | exact Ok.out | with_reducible refine And.intro ?_ ?_))
  rintro ⟨n, l, r, k⟩ ⟨h, hk⟩ IH
  dsimp only at hk; subst hk
  cases n with
  | zero => simp only [Rd.names] at h; cases h
  | succ n =>
    simp only [Rd.names] at h
    repeat' (first
 | simp only [go_sem, hlt, hget, hpu, hinc, Int.reduceLE, ↓reduceIte, reduceCtorEq, Nat.reduceEqDiff, Nat.reduceLeDiff, Nat.reduceAdd, Nat.reduceMul, Nat.reduceSub, Nat.reduceLT]
 | (rw [Option.bind_eq_some_iff] at h; obtain ⟨_, h1, h⟩ := h; first | (with_reducible refine CU (name_s h1 (by with_unfolding_all rfl)) ?_) | (obtain ⟨hpu, hpush⟩ := push_some h1; subst hpush; simp only [go_sem, hlt, hget, hpu, hinc, Int.reduceLE, ↓reduceIte, reduceCtorEq, Nat.reduceEqDiff, Nat.reduceLeDiff, Nat.reduceAdd, Nat.reduceMul, Nat.reduceSub, Nat.reduceLT]) | (with_reducible refine CU (take_s h1 (by with_unfolding_all rfl)) ?_) | (with_reducible refine CU (want_s h1 (by with_unfolding_all rfl)) ?_))
 | (with_reducible refine CU (good_s (by with_unfolding_all rfl)) ?_)
 | (with_reducible first | refine CB_ofT (by assumption) fun hc => ?_ | refine CB_ofF (by assumption) fun hc => ?_ | refine CB_split (fun hc => ?_) fun hc => ?_) <;> (try simp only [hc, bs, ↓reduceIte] at h) <;> (try simp only [hc])
 | ((with_reducible first | refine leafR hQ ?_ | refine leafN hQ ?_); (try cases h); simp only [resL, oneD, Option.some.injEq, exists_eq_left', go_sem, hlt, hget, hpu, hinc, Int.reduceLE, ↓reduceIte, reduceCtorEq, Nat.reduceEqDiff, Nat.reduceLeDiff, Nat.reduceAdd, Nat.reduceMul, Nat.reduceSub, Nat.reduceLT]; repeat' (first | exact Ok.out | with_reducible refine And.intro ?_ ?_ | (simp; done)))
 | (cases h; replace h := hr; clear hr; (try simp only [bs, ↓reduceIte] at h))
 | (cases h; done))
    refine SemL.re _ _ 1 1 (by rw [hB]; exact Nat.le_of_ble_eq_true rfl) (by rw [hB]; exact Nat.le_of_ble_eq_true rfl) ?_ ?_ (IH (n, _, _, l.length + 1) ⟨h, by simp⟩ (Nat.lt_succ_self _))
    · (simp only [go_sem, hlt, hget, hpu, hinc, Int.reduceLE, ↓reduceIte, reduceCtorEq, Nat.reduceEqDiff, Nat.reduceLeDiff, Nat.reduceAdd, Nat.reduceMul, Nat.reduceSub, Nat.reduceLT]; repeat' (first | exact Ok.out | with_reducible refine And.intro ?_ ?_))
    · (simp only [go_sem, hlt, hget, hpu, hinc, Int.reduceLE, ↓reduceIte, reduceCtorEq, Nat.reduceEqDiff, Nat.reduceLeDiff, Nat.reduceAdd, Nat.reduceMul, Nat.reduceSub, Nat.reduceLT]; repeat' (first | exact Ok.out | with_reducible refine And.intro ?_ ?_))

theorem names_s {n : Nat} {l : List Str} {most : Int} {r : Rd} {p : List Str × Rd} (h : Rd.names n l most r = some p) {s : St} {o t : Nat} (ho : s.objs[o]? = some (encRd r)) (ht : s.toks[t]? = some (some l.length)) :
    Fun Try.prog n_parse_reader_names [.ptr o 0, .slice (.tok t) 1 (l.map encStr), .int .i64 most] s (.slice (.tok t) 1 (p.1.map encStr)) ⟨s.objs.set o (encRd p.2), s.toks.set t (some p.1.length)⟩ :=
  (names_0 h).methT rfl (okRd r) (okRd p.2) (okrStr l) (okrStr p.1) ho ht

theorem labels_s {n : Nat} {r : Rd} {p : List Str × Rd} (h : Rd.labels n [] r = some p) {s : St} {o : Nat} (ho : s.objs[o]? = some (encRd r)) :
    Fun Try.prog n_parse_reader_labels [.ptr o 0] s (.slice .shared 1 (p.1.map encStr)) ⟨s.objs.set o (encRd p.2), s.toks⟩ := by
  refine Fun.meth ?_ rfl (okRd r) (okRd p.2) (by simp [D.ok, okrStr, Tag.ok]) ho
  refine Fun.go has_parse_reader_labels rfl fun B Q hB hQ => ?_
  have hlt : 0 < 1 := Nat.zero_lt_one
  have hget : 0 < 1 := Nat.zero_lt_one
  have hpu : 0 < 1 := Nat.zero_lt_one
  have hinc : 0 < 1 := Nat.zero_lt_one
  repeat' (first
 | simp only [go_sem, hlt, hget, hpu, hinc, Int.reduceLE, ↓reduceIte, reduceCtorEq, Nat.reduceEqDiff, Nat.reduceLeDiff, Nat.reduceAdd, Nat.reduceMul, Nat.reduceSub, Nat.reduceLT]
 | (with_reducible first | refine CB_ofT (by assumption) fun hc => ?_ | refine CB_ofF (by assumption) fun hc => ?_ | refine CB_split (fun hc => ?_) fun hc => ?_) <;> (try simp only [hc, bs, ↓reduceIte] at h) <;> (try simp only [hc])
 | ((with_reducible first | refine leafR hQ ?_ | refine leafN hQ ?_); (try cases h); simp only [resL, oneD, Option.some.injEq, exists_eq_left', go_sem, hlt, hget, hpu, hinc, Int.reduceLE, ↓reduceIte, reduceCtorEq, Nat.reduceEqDiff, Nat.reduceLeDiff, Nat.reduceAdd, Nat.reduceMul, Nat.reduceSub, Nat.reduceLT]; repeat' (first | exact Ok.out | with_reducible refine And.intro ?_ ?_ | (simp; done)))
 | (cases h; replace h := hr; clear hr; (try simp only [bs, ↓reduceIte] at h))
 | (cases h; done))
  refine SemL.tokT 3 1 rfl ?_
  simp only [go_sem, hlt, hget, hpu, hinc, Int.reduceLE, ↓reduceIte, reduceCtorEq, Nat.reduceEqDiff, Nat.reduceLeDiff, Nat.reduceAdd, Nat.reduceMul, Nat.reduceSub, Nat.reduceLT]
  refine SemL.re _ _ 1 1 (by rw [hB]; exact Nat.le_of_ble_eq_true rfl) (by rw [hB]; exact Nat.le_of_ble_eq_true rfl) ?_ ?_ (SemL.ind (ι := Nat × List Str × Rd × Nat) (fun i => Rd.labels i.1 i.2.1 i.2.2.1 = some p ∧ i.2.2.2 = i.2.1.length) (fun i => i.1)
    (fun i => [(0, .ptr 0 0), (3, .slice (.tok 0) 1 (i.2.1.map encStr))]) (fun i => ⟨[encRd i.2.2.1], [some i.2.2.2]⟩) ?_ (n, [], r, 0) ⟨h, rfl⟩)
  · (simp only [go_sem, hlt, hget, hpu, hinc, Int.reduceLE, ↓reduceIte, reduceCtorEq, Nat.reduceEqDiff, Nat.reduceLeDiff, Nat.reduceAdd, Nat.reduceMul, Nat.reduceSub, Nat.reduceLT]; repeat' (first | exact Ok.out | with_reducible refine And.intro ?_ ?_))
  · (simp only [go_sem, hlt, hget, hpu, hinc, Int.reduceLE, ↓reduceIte, reduceCtorEq, Nat.reduceEqDiff, Nat.reduceLeDiff, Nat.reduceAdd, Nat.reduceMul, Nat.reduceSub, Nat.reduceLT]; repeat' (first | exact Ok.out | with_reducible refine And.intro ?_ ?_))
  rintro ⟨n, l, r, k⟩ ⟨h, hk⟩ IH
  dsimp only at hk; subst hk
  cases n with
  | zero => simp only [Rd.labels] at h; cases h
  | succ n =>
    simp only [Rd.labels, Rd.ahead] at h
    repeat' (first
 | simp only [go_sem, hlt, hget, hpu, hinc, Int.reduceLE, ↓reduceIte, reduceCtorEq, Nat.reduceEqDiff, Nat.reduceLeDiff, Nat.reduceAdd, Nat.reduceMul, Nat.reduceSub, Nat.reduceLT]
 | (rw [Option.bind_eq_some_iff] at h; obtain ⟨_, h1, h⟩ := h; first | (with_reducible refine CU (peek_s h1 (by with_unfolding_all rfl)) ?_; have hlt := peek_lt h1) | (obtain ⟨hpu, hpush⟩ := push_some h1; subst hpush; simp only [go_sem, hlt, hget, hpu, hinc, Int.reduceLE, ↓reduceIte, reduceCtorEq, Nat.reduceEqDiff, Nat.reduceLeDiff, Nat.reduceAdd, Nat.reduceMul, Nat.reduceSub, Nat.reduceLT]) | (obtain ⟨hltq, hget⟩ := getO_some h1; simp only [go_sem, hget, hlt, hget, hpu, hinc, Int.reduceLE, ↓reduceIte, reduceCtorEq, Nat.reduceEqDiff, Nat.reduceLeDiff, Nat.reduceAdd, Nat.reduceMul, Nat.reduceSub, Nat.reduceLT]))
 | (with_reducible refine CU (good_s (by with_unfolding_all rfl)) ?_)
 | (with_reducible first | refine CB_ofT (by assumption) fun hc => ?_ | refine CB_ofF (by assumption) fun hc => ?_ | refine CB_split (fun hc => ?_) fun hc => ?_) <;> (try simp only [hc, bs, ↓reduceIte] at h) <;> (try simp only [hc])
 | ((with_reducible first | refine leafR hQ ?_ | refine leafN hQ ?_); (try cases h); simp only [resL, oneD, Option.some.injEq, exists_eq_left', go_sem, hlt, hget, hpu, hinc, Int.reduceLE, ↓reduceIte, reduceCtorEq, Nat.reduceEqDiff, Nat.reduceLeDiff, Nat.reduceAdd, Nat.reduceMul, Nat.reduceSub, Nat.reduceLT]; repeat' (first | exact Ok.out | with_reducible refine And.intro ?_ ?_ | (simp; done)))
 | (cases h; replace h := hr; clear hr; (try simp only [bs, ↓reduceIte] at h))
 | (cases h; done))
    refine SemL.re _ _ 1 1 (by rw [hB]; exact Nat.le_of_ble_eq_true rfl) (by rw [hB]; exact Nat.le_of_ble_eq_true rfl) ?_ ?_ (IH (n, _, _, l.length + 1) ⟨h, by simp⟩ (Nat.lt_succ_self _))
    · (simp only [go_sem, hlt, hget, hpu, hinc, Int.reduceLE, ↓reduceIte, reduceCtorEq, Nat.reduceEqDiff, Nat.reduceLeDiff, Nat.reduceAdd, Nat.reduceMul, Nat.reduceSub, Nat.reduceLT]; repeat' (first | exact Ok.out | with_reducible refine And.intro ?_ ?_))
    · (simp only [go_sem, hlt, hget, hpu, hinc, Int.reduceLE, ↓reduceIte, reduceCtorEq, Nat.reduceEqDiff, Nat.reduceLeDiff, Nat.reduceAdd, Nat.reduceMul, Nat.reduceSub, Nat.reduceLT]; repeat' (first | exact Ok.out | with_reducible refine And.intro ?_ ?_))

end Go.Abs

/-! Prs4 -/

namespace Go.Abs

set_option maxRecDepth 8000
set_option linter.unusedSimpArgs false
set_option linter.unusedVariables false
open Go.Proofs

theorem begins_s {r : Rd} {b : Bool} (h : r.begins = some b) {s : St} {o : Nat} (ho : s.objs[o]? = some (encRd r)) :
    Fun Try.prog n_parse_reader_begins [.ptr o 0] s (.bool b) ⟨s.objs.set o (encRd r), s.toks⟩ := by
  refine Fun.meth ?_ rfl (okRd r) (okRd r) rfl ho
  unfold Rd.begins at h
  refine Fun.go has_parse_reader_begins rfl fun B Q hB hQ => ?_
  have hlt : 0 < 1 := Nat.zero_lt_one
  have hget : 0 < 1 := Nat.zero_lt_one
  have hpu : 0 < 1 := Nat.zero_lt_one
  have hinc : 0 < 1 := Nat.zero_lt_one
  repeat' (first
 | simp only [go_sem, hlt, hget, hpu, hinc, Int.reduceLE, ↓reduceIte, reduceCtorEq, Nat.reduceEqDiff, Nat.reduceLeDiff, Nat.reduceAdd, Nat.reduceMul, Nat.reduceSub, Nat.reduceLT]
 | (rw [Option.bind_eq_some_iff] at h; obtain ⟨_, h1, h⟩ := h; first | (with_reducible refine CU (peek_s h1 (by with_unfolding_all rfl)) ?_))
 | (with_reducible first | refine CB_ofT (by assumption) fun hc => ?_ | refine CB_ofF (by assumption) fun hc => ?_ | refine CB_split (fun hc => ?_) fun hc => ?_) <;> (try simp only [hc, bs, ↓reduceIte] at h) <;> (try simp only [hc])
 | ((with_reducible first | refine leafR hQ ?_ | refine leafN hQ ?_); (try cases h); simp only [resL, oneD, Option.some.injEq, exists_eq_left', go_sem, hlt, hget, hpu, hinc, Int.reduceLE, ↓reduceIte, reduceCtorEq, Nat.reduceEqDiff, Nat.reduceLeDiff, Nat.reduceAdd, Nat.reduceMul, Nat.reduceSub, Nat.reduceLT]; repeat' (first | exact Ok.out | with_reducible refine And.intro ?_ ?_ | (simp; done)))
 | (cases h; replace h := hr; clear hr; (try simp only [bs, ↓reduceIte] at h))
 | (cases h; done))

theorem call_s {m : Nat} {name proc : Str} {r : Rd} {p : Sm × Rd} (h : Rd.call m name proc r = some p) {s : St} {o : Nat} (ho : s.objs[o]? = some (encRd r)) :
    Fun Try.prog n_parse_reader_call [.ptr o 0, .str name, .str proc] s (.agg (encSm p.1)) ⟨s.objs.set o (encRd p.2), s.toks⟩ := by
  refine Fun.meth ?_ rfl (okRd r) (okRd p.2) (by simp [D.ok, okSm]) ho
  unfold Rd.call Rd.other at h
  refine Fun.go has_parse_reader_call rfl fun B Q hB hQ => ?_
  have hlt : 0 < 1 := Nat.zero_lt_one
  have hget : 0 < 1 := Nat.zero_lt_one
  have hpu : 0 < 1 := Nat.zero_lt_one
  have hinc : 0 < 1 := Nat.zero_lt_one
  repeat' (first
 | simp only [go_sem, hlt, hget, hpu, hinc, Int.reduceLE, ↓reduceIte, reduceCtorEq, Nat.reduceEqDiff, Nat.reduceLeDiff, Nat.reduceAdd, Nat.reduceMul, Nat.reduceSub, Nat.reduceLT]
 | (rw [Option.bind_eq_some_iff] at h; obtain ⟨_, h1, h⟩ := h; first | (with_reducible refine CU (want_s h1 (by with_unfolding_all rfl)) ?_) | (with_reducible refine CU (is_s h1 (by with_unfolding_all rfl)) ?_))
 | (with_reducible refine CU (good_s (by with_unfolding_all rfl)) ?_)
 | (with_reducible first | refine CB_ofT (by assumption) fun hc => ?_ | refine CB_ofF (by assumption) fun hc => ?_ | refine CB_split (fun hc => ?_) fun hc => ?_) <;> (try simp only [hc, bs, ↓reduceIte] at h) <;> (try simp only [hc])
 | ((with_reducible first | refine leafR hQ ?_ | refine leafN hQ ?_); (try cases h); simp only [resL, oneD, Option.some.injEq, exists_eq_left', go_sem, hlt, hget, hpu, hinc, Int.reduceLE, ↓reduceIte, reduceCtorEq, Nat.reduceEqDiff, Nat.reduceLeDiff, Nat.reduceAdd, Nat.reduceMul, Nat.reduceSub, Nat.reduceLT]; repeat' (first | exact Ok.out | with_reducible refine And.intro ?_ ?_ | (simp; done)))
 | (cases h; replace h := hr; clear hr; (try simp only [bs, ↓reduceIte] at h))
 | (cases h; done))
  rw [Option.bind_eq_some_iff] at h
  obtain ⟨q, h, hr⟩ := h
  refine SemL.tokO 2 10 6 rfl rfl ?_
  simp only [go_sem, hlt, hget, hpu, hinc, Int.reduceLE, ↓reduceIte, reduceCtorEq, Nat.reduceEqDiff, Nat.reduceLeDiff, Nat.reduceAdd, Nat.reduceMul, Nat.reduceSub, Nat.reduceLT]
  refine SemL.re _ _ 3 1 (by rw [hB]; exact Nat.le_of_ble_eq_true rfl) (by rw [hB]; exact Nat.le_of_ble_eq_true rfl) ?_ ?_ (SemL.ind (ι := Nat × List Ar × Rd × Nat) (fun i => Rd.callL m i.1 i.2.1 i.2.2.1 = some q ∧ i.2.2.2 = i.2.1.length) (fun i => i.1)
    (fun i => [(0, .ptr 0 0), (6, .ptr 1 0), (7, .ptr 2 0)]) (fun i => ⟨[encRd i.2.2.1, encSm sm0, [.int .i64 0, .int .i64 4, .slice .shared 1 [], .str name, .str proc, .int .i64 0, .int .i64 0, .str [], .slice .shared 4 [], .bool false, .slice (.tok 0) 6 (i.2.1.map encAr), .slice .shared 13 [], .slice .shared 13 []]], [some i.2.2.2]⟩) ?_ (m, [], _, 0) ⟨h, rfl⟩)
  · (simp only [go_sem, hlt, hget, hpu, hinc, Int.reduceLE, ↓reduceIte, reduceCtorEq, Nat.reduceEqDiff, Nat.reduceLeDiff, Nat.reduceAdd, Nat.reduceMul, Nat.reduceSub, Nat.reduceLT]; repeat' (first | exact Ok.out | with_reducible refine And.intro ?_ ?_))
  · (simp only [go_sem, hlt, hget, hpu, hinc, Int.reduceLE, ↓reduceIte, reduceCtorEq, Nat.reduceEqDiff, Nat.reduceLeDiff, Nat.reduceAdd, Nat.reduceMul, Nat.reduceSub, Nat.reduceLT]; repeat' (first | exact Ok.out | with_reducible refine And.intro ?_ ?_))
  rintro ⟨n, l, r, k⟩ ⟨h, hk⟩ IH
  dsimp only at hk; subst hk
  cases n with
  | zero => simp only [Rd.callL] at h; cases h
  | succ n =>
    simp only [Rd.callL] at h
    repeat' (first
 | simp only [go_sem, hlt, hget, hpu, hinc, Int.reduceLE, ↓reduceIte, reduceCtorEq, Nat.reduceEqDiff, Nat.reduceLeDiff, Nat.reduceAdd, Nat.reduceMul, Nat.reduceSub, Nat.reduceLT]
 | (rw [Option.bind_eq_some_iff] at h; obtain ⟨_, h1, h⟩ := h; first | (with_reducible refine CU (take_s h1 (by with_unfolding_all rfl)) ?_) | (obtain ⟨hpu, hpush⟩ := push_some h1; subst hpush; simp only [go_sem, hlt, hget, hpu, hinc, Int.reduceLE, ↓reduceIte, reduceCtorEq, Nat.reduceEqDiff, Nat.reduceLeDiff, Nat.reduceAdd, Nat.reduceMul, Nat.reduceSub, Nat.reduceLT]) | (with_reducible refine CU (name_s h1 (by with_unfolding_all rfl)) ?_) | (with_reducible refine CU (whole_s h1 (by with_unfolding_all rfl)) ?_) | (with_reducible refine CU (want_s h1 (by with_unfolding_all rfl)) ?_))
 | (with_reducible refine CU (good_s (by with_unfolding_all rfl)) ?_)
 | (with_reducible first | refine CB_ofT (by assumption) fun hc => ?_ | refine CB_ofF (by assumption) fun hc => ?_ | refine CB_split (fun hc => ?_) fun hc => ?_) <;> (try simp only [hc, bs, ↓reduceIte] at h) <;> (try simp only [hc])
 | ((with_reducible first | refine leafR hQ ?_ | refine leafN hQ ?_); (try cases h); simp only [resL, oneD, Option.some.injEq, exists_eq_left', go_sem, hlt, hget, hpu, hinc, Int.reduceLE, ↓reduceIte, reduceCtorEq, Nat.reduceEqDiff, Nat.reduceLeDiff, Nat.reduceAdd, Nat.reduceMul, Nat.reduceSub, Nat.reduceLT]; repeat' (first | exact Ok.out | with_reducible refine And.intro ?_ ?_ | (simp; done)))
 | (cases h; replace h := hr; clear hr; (try simp only [bs, ↓reduceIte] at h))
 | (cases h; done))
    · refine SemL.re _ _ 3 1 (by rw [hB]; exact Nat.le_of_ble_eq_true rfl) (by rw [hB]; exact Nat.le_of_ble_eq_true rfl) ?_ ?_ (IH (n, _, _, l.length + 1) ⟨h, by simp⟩ (Nat.lt_succ_self _))
      · (simp only [go_sem, hlt, hget, hpu, hinc, Int.reduceLE, ↓reduceIte, reduceCtorEq, Nat.reduceEqDiff, Nat.reduceLeDiff, Nat.reduceAdd, Nat.reduceMul, Nat.reduceSub, Nat.reduceLT]; repeat' (first | exact Ok.out | with_reducible refine And.intro ?_ ?_))
      · (simp only [go_sem, hlt, hget, hpu, hinc, Int.reduceLE, ↓reduceIte, reduceCtorEq, Nat.reduceEqDiff, Nat.reduceLeDiff, Nat.reduceAdd, Nat.reduceMul, Nat.reduceSub, Nat.reduceLT]; repeat' (first | exact Ok.out | with_reducible refine And.intro ?_ ?_))
    · refine SemL.re _ _ 3 1 (by rw [hB]; exact Nat.le_of_ble_eq_true rfl) (by rw [hB]; exact Nat.le_of_ble_eq_true rfl) ?_ ?_ (IH (n, _, _, l.length + 1) ⟨h, by simp⟩ (Nat.lt_succ_self _))
      · (simp only [go_sem, hlt, hget, hpu, hinc, Int.reduceLE, ↓reduceIte, reduceCtorEq, Nat.reduceEqDiff, Nat.reduceLeDiff, Nat.reduceAdd, Nat.reduceMul, Nat.reduceSub, Nat.reduceLT]; repeat' (first | exact Ok.out | with_reducible refine And.intro ?_ ?_))
      · (simp only [go_sem, hlt, hget, hpu, hinc, Int.reduceLE, ↓reduceIte, reduceCtorEq, Nat.reduceEqDiff, Nat.reduceLeDiff, Nat.reduceAdd, Nat.reduceMul, Nat.reduceSub, Nat.reduceLT]; repeat' (first | exact Ok.out | with_reducible refine And.intro ?_ ?_))

theorem named_s {m : Nat} {r : Rd} {p : Sm × Rd} (h : Rd.named m r = some p) {s : St} {o : Nat} (ho : s.objs[o]? = some (encRd r)) :
    Fun Try.prog n_parse_reader_named [.ptr o 0] s (.agg (encSm p.1)) ⟨s.objs.set o (encRd p.2), s.toks⟩ := by
  refine Fun.meth ?_ rfl (okRd r) (okRd p.2) (by simp [D.ok, okSm]) ho
  unfold Rd.named Rd.ahead at h
  refine Fun.go has_parse_reader_named rfl fun B Q hB hQ => ?_
  have hlt : 0 < 1 := Nat.zero_lt_one
  have hget : 0 < 1 := Nat.zero_lt_one
  have hpu : 0 < 1 := Nat.zero_lt_one
  have hinc : 0 < 1 := Nat.zero_lt_one
  repeat' (first
 | simp only [go_sem, hlt, hget, hpu, hinc, Int.reduceLE, ↓reduceIte, reduceCtorEq, Nat.reduceEqDiff, Nat.reduceLeDiff, Nat.reduceAdd, Nat.reduceMul, Nat.reduceSub, Nat.reduceLT]
 | (rw [Option.bind_eq_some_iff] at h; obtain ⟨_, h1, h⟩ := h; first | (with_reducible refine CU (name_s h1 (by with_unfolding_all rfl)) ?_) | (with_reducible refine CU (want_s h1 (by with_unfolding_all rfl)) ?_) | (with_reducible refine CU (is_s h1 (by with_unfolding_all rfl)) ?_) | (with_reducible refine CU (peek_s h1 (by with_unfolding_all rfl)) ?_; have hlt := peek_lt h1) | (obtain ⟨hltq, hget⟩ := getO_some h1; simp only [go_sem, hget, hlt, hget, hpu, hinc, Int.reduceLE, ↓reduceIte, reduceCtorEq, Nat.reduceEqDiff, Nat.reduceLeDiff, Nat.reduceAdd, Nat.reduceMul, Nat.reduceSub, Nat.reduceLT]) | (with_reducible refine CU (whole_s h1 (by with_unfolding_all rfl)) ?_))
 | (with_reducible refine CU (good_s (by with_unfolding_all rfl)) ?_)
 | (with_reducible refine CU (call_s h (by with_unfolding_all rfl)) ?_)
 | (with_reducible first | refine CB_ofT (by assumption) fun hc => ?_ | refine CB_ofF (by assumption) fun hc => ?_ | refine CB_split (fun hc => ?_) fun hc => ?_) <;> (try simp only [hc, bs, ↓reduceIte] at h) <;> (try simp only [hc])
 | ((with_reducible first | refine leafR hQ ?_ | refine leafN hQ ?_); (try cases h); simp only [resL, oneD, Option.some.injEq, exists_eq_left', go_sem, hlt, hget, hpu, hinc, Int.reduceLE, ↓reduceIte, reduceCtorEq, Nat.reduceEqDiff, Nat.reduceLeDiff, Nat.reduceAdd, Nat.reduceMul, Nat.reduceSub, Nat.reduceLT]; repeat' (first | exact Ok.out | with_reducible refine And.intro ?_ ?_ | (simp; done)))
 | (cases h; replace h := hr; clear hr; (try simp only [bs, ↓reduceIte] at h))
 | (cases h; done))

theorem plain_s {m : Nat} {word : Str} {r : Rd} {p : Sm × Rd} (h : Rd.plain m word r = some p) {s : St} {o : Nat} (ho : s.objs[o]? = some (encRd r)) :
    Fun Try.prog n_parse_reader_plain [.ptr o 0, .str word] s (.agg (encSm p.1)) ⟨s.objs.set o (encRd p.2), s.toks⟩ := by
  refine Fun.meth ?_ rfl (okRd r) (okRd p.2) (by simp [D.ok, okSm]) ho
  unfold Rd.plain at h
  refine Fun.go has_parse_reader_plain rfl fun B Q hB hQ => ?_
  have hlt : 0 < 1 := Nat.zero_lt_one
  have hget : 0 < 1 := Nat.zero_lt_one
  have hpu : 0 < 1 := Nat.zero_lt_one
  have hinc : 0 < 1 := Nat.zero_lt_one
  repeat' (first
 | simp only [go_sem, hlt, hget, hpu, hinc, Int.reduceLE, ↓reduceIte, reduceCtorEq, Nat.reduceEqDiff, Nat.reduceLeDiff, Nat.reduceAdd, Nat.reduceMul, Nat.reduceSub, Nat.reduceLT]
 | (rw [Option.bind_eq_some_iff] at h; obtain ⟨_, h1, h⟩ := h; first | (with_reducible refine CU (name_s h1 (by with_unfolding_all rfl)) ?_) | (with_reducible refine CU (is_s h1 (by with_unfolding_all rfl)) ?_) | (with_reducible refine CU (whole_s h1 (by with_unfolding_all rfl)) ?_))
 | (with_reducible first | refine CB_ofT (by assumption) fun hc => ?_ | refine CB_ofF (by assumption) fun hc => ?_ | refine CB_split (fun hc => ?_) fun hc => ?_) <;> (try simp only [hc, bs, ↓reduceIte] at h) <;> (try simp only [hc])
 | ((with_reducible first | refine leafR hQ ?_ | refine leafN hQ ?_); (try cases h); simp only [resL, oneD, Option.some.injEq, exists_eq_left', go_sem, hlt, hget, hpu, hinc, Int.reduceLE, ↓reduceIte, reduceCtorEq, Nat.reduceEqDiff, Nat.reduceLeDiff, Nat.reduceAdd, Nat.reduceMul, Nat.reduceSub, Nat.reduceLT]; repeat' (first | exact Ok.out | with_reducible refine And.intro ?_ ?_ | (simp; done)))
 | (cases h; replace h := hr; clear hr; (try simp only [bs, ↓reduceIte] at h))
 | (cases h; done))

theorem head_s {m : Nat} {r : Rd} {p : Ex × Rd} (h : Rd.head m r = some p) {s : St} {o : Nat} (ho : s.objs[o]? = some (encRd r)) :
    Fun Try.prog n_parse_reader_head [.ptr o 0] s (.agg (encEx p.1)) ⟨s.objs.set o (encRd p.2), s.toks⟩ := by
  refine Fun.meth ?_ rfl (okRd r) (okRd p.2) (by simp [D.ok, okEx]) ho
  unfold Rd.head at h
  refine Fun.go has_parse_reader_head rfl fun B Q hB hQ => ?_
  have hlt : 0 < 1 := Nat.zero_lt_one
  have hget : 0 < 1 := Nat.zero_lt_one
  have hpu : 0 < 1 := Nat.zero_lt_one
  have hinc : 0 < 1 := Nat.zero_lt_one
  repeat' (first
 | simp only [go_sem, hlt, hget, hpu, hinc, Int.reduceLE, ↓reduceIte, reduceCtorEq, Nat.reduceEqDiff, Nat.reduceLeDiff, Nat.reduceAdd, Nat.reduceMul, Nat.reduceSub, Nat.reduceLT]
 | (rw [Option.bind_eq_some_iff] at h; obtain ⟨_, h1, h⟩ := h; first | (with_reducible refine CU (want_s h1 (by with_unfolding_all rfl)) ?_) | (with_reducible refine CU (whole_s h1 (by with_unfolding_all rfl)) ?_))
 | (with_reducible first | refine CB_ofT (by assumption) fun hc => ?_ | refine CB_ofF (by assumption) fun hc => ?_ | refine CB_split (fun hc => ?_) fun hc => ?_) <;> (try simp only [hc, bs, ↓reduceIte] at h) <;> (try simp only [hc])
 | ((with_reducible first | refine leafR hQ ?_ | refine leafN hQ ?_); (try cases h); simp only [resL, oneD, Option.some.injEq, exists_eq_left', go_sem, hlt, hget, hpu, hinc, Int.reduceLE, ↓reduceIte, reduceCtorEq, Nat.reduceEqDiff, Nat.reduceLeDiff, Nat.reduceAdd, Nat.reduceMul, Nat.reduceSub, Nat.reduceLT]; repeat' (first | exact Ok.out | with_reducible refine And.intro ?_ ?_ | (simp; done)))
 | (cases h; replace h := hr; clear hr; (try simp only [bs, ↓reduceIte] at h))
 | (cases h; done))

end Go.Abs

/-! Prs5 -/

namespace Go.Abs

set_option maxRecDepth 8000
set_option linter.unusedSimpArgs false
set_option linter.unusedVariables false
open Go.Proofs

abbrev C_rows (m n : Nat) : Prop := ∀ {nest : Int} {body : Bool} {r : Rd} {p : (List Sm × List Str) × Rd}, Rd.rows m n nest body r = some p → ∀ {s : St} {o : Nat}, s.objs[o]? = some (encRd r) →
  Fun Try.prog n_parse_reader_rows [.ptr o 0, .int .i64 nest, .bool body] s (.tuple [.slice .shared 13 (p.1.1.map encSm), .slice .shared 1 (p.1.2.map encStr)]) ⟨s.objs.set o (encRd p.2), s.toks⟩
abbrev C_stmt (m n : Nat) : Prop := ∀ {nest : Int} {r : Rd} {p : Sm × Rd}, Rd.stmt m n nest r = some p → ∀ {s : St} {o : Nat}, s.objs[o]? = some (encRd r) →
  Fun Try.prog n_parse_reader_stmt [.ptr o 0, .int .i64 nest] s (.agg (encSm p.1)) ⟨s.objs.set o (encRd p.2), s.toks⟩
abbrev C_block (m n : Nat) : Prop := ∀ {nest : Int} {r : Rd} {p : List Sm × Rd}, Rd.block m n nest r = some p → ∀ {s : St} {o : Nat}, s.objs[o]? = some (encRd r) →
  Fun Try.prog n_parse_reader_block [.ptr o 0, .int .i64 nest] s (.slice .shared 13 (p.1.map encSm)) ⟨s.objs.set o (encRd p.2), s.toks⟩
abbrev C_choice (m n : Nat) : Prop := ∀ {nest : Int} {r : Rd} {p : Sm × Rd}, Rd.choice m n nest r = some p → ∀ {s : St} {o : Nat}, s.objs[o]? = some (encRd r) →
  Fun Try.prog n_parse_reader_choice [.ptr o 0, .int .i64 nest] s (.agg (encSm p.1)) ⟨s.objs.set o (encRd p.2), s.toks⟩

theorem choice_step {m n : Nat} (block_s : C_block m n) : C_choice m (n + 1) := by
  intro nest r p h s o ho
  refine Fun.meth ?_ rfl (okRd r) (okRd p.2) (by simp [D.ok, okSm]) ho
  unfold Rd.choice at h
  refine Fun.go has_parse_reader_choice rfl fun B Q hB hQ => ?_
  have hlt : 0 < 1 := Nat.zero_lt_one
  have hget : 0 < 1 := Nat.zero_lt_one
  have hpu : 0 < 1 := Nat.zero_lt_one
  have hinc : 0 < 1 := Nat.zero_lt_one
  repeat' (first
 | simp only [go_sem, hlt, hget, hpu, hinc, Int.reduceLE, ↓reduceIte, reduceCtorEq, Nat.reduceEqDiff, Nat.reduceLeDiff, Nat.reduceAdd, Nat.reduceMul, Nat.reduceSub, Nat.reduceLT]
 | (rw [Option.bind_eq_some_iff] at h; obtain ⟨_, h1, h⟩ := h; first | (with_reducible refine CU (head_s h1 (by with_unfolding_all rfl)) ?_) | (with_reducible refine CU (block_s h1 (by with_unfolding_all rfl)) ?_) | (with_reducible refine CU (take_s h1 (by with_unfolding_all rfl)) ?_))
 | (with_reducible first | refine CB_ofT (by assumption) fun hc => ?_ | refine CB_ofF (by assumption) fun hc => ?_ | refine CB_split (fun hc => ?_) fun hc => ?_) <;> (try simp only [hc, bs, ↓reduceIte] at h) <;> (try simp only [hc])
 | ((with_reducible first | refine leafR hQ ?_ | refine leafN hQ ?_); (try cases h); simp only [resL, oneD, Option.some.injEq, exists_eq_left', go_sem, hlt, hget, hpu, hinc, Int.reduceLE, ↓reduceIte, reduceCtorEq, Nat.reduceEqDiff, Nat.reduceLeDiff, Nat.reduceAdd, Nat.reduceMul, Nat.reduceSub, Nat.reduceLT]; repeat' (first | exact Ok.out | with_reducible refine And.intro ?_ ?_ | (simp; done)))
 | (cases h; replace h := hr; clear hr; (try simp only [bs, ↓reduceIte] at h))
 | (cases h; done))

theorem block_step {m n : Nat} (rows_s : C_rows m n) : C_block m (n + 1) := by
  intro nest r p h s o ho
  refine Fun.meth ?_ rfl (okRd r) (okRd p.2) (by simp [D.ok, okrSm, Tag.ok]) ho
  unfold Rd.block at h
  refine Fun.go has_parse_reader_block rfl fun B Q hB hQ => ?_
  have hlt : 0 < 1 := Nat.zero_lt_one
  have hget : 0 < 1 := Nat.zero_lt_one
  have hpu : 0 < 1 := Nat.zero_lt_one
  have hinc : 0 < 1 := Nat.zero_lt_one
  repeat' (first
 | simp only [go_sem, hlt, hget, hpu, hinc, Int.reduceLE, ↓reduceIte, reduceCtorEq, Nat.reduceEqDiff, Nat.reduceLeDiff, Nat.reduceAdd, Nat.reduceMul, Nat.reduceSub, Nat.reduceLT]
 | (rw [Option.bind_eq_some_iff] at h; obtain ⟨_, h1, h⟩ := h; first | (with_reducible refine CU (want_s h1 (by with_unfolding_all rfl)) ?_) | (obtain ⟨hinc, hik⟩ := incI_some h1; subst hik; simp only [go_sem, hinc, hlt, hget, hpu, hinc, Int.reduceLE, ↓reduceIte, reduceCtorEq, Nat.reduceEqDiff, Nat.reduceLeDiff, Nat.reduceAdd, Nat.reduceMul, Nat.reduceSub, Nat.reduceLT]) | (with_reducible refine CU (rows_s h1 (by with_unfolding_all rfl)) ?_))
 | (with_reducible first | refine CB_ofT (by assumption) fun hc => ?_ | refine CB_ofF (by assumption) fun hc => ?_ | refine CB_split (fun hc => ?_) fun hc => ?_) <;> (try simp only [hc, bs, ↓reduceIte] at h) <;> (try simp only [hc])
 | ((with_reducible first | refine leafR hQ ?_ | refine leafN hQ ?_); (try cases h); simp only [resL, oneD, Option.some.injEq, exists_eq_left', go_sem, hlt, hget, hpu, hinc, Int.reduceLE, ↓reduceIte, reduceCtorEq, Nat.reduceEqDiff, Nat.reduceLeDiff, Nat.reduceAdd, Nat.reduceMul, Nat.reduceSub, Nat.reduceLT]; repeat' (first | exact Ok.out | with_reducible refine And.intro ?_ ?_ | (simp; done)))
 | (cases h; replace h := hr; clear hr; (try simp only [bs, ↓reduceIte] at h))
 | (cases h; done))

theorem stmt_step {m n : Nat} (block_s : C_block m n) (choice_s : C_choice m n) : C_stmt m (n + 1) := by
  intro nest r p h s o ho
  refine Fun.meth ?_ rfl (okRd r) (okRd p.2) (by simp [D.ok, okSm]) ho
  unfold Rd.stmt at h
  refine Fun.go has_parse_reader_stmt rfl fun B Q hB hQ => ?_
  have hlt : 0 < 1 := Nat.zero_lt_one
  have hget : 0 < 1 := Nat.zero_lt_one
  have hpu : 0 < 1 := Nat.zero_lt_one
  have hinc : 0 < 1 := Nat.zero_lt_one
  repeat' (first
 | simp only [go_sem, hlt, hget, hpu, hinc, Int.reduceLE, ↓reduceIte, reduceCtorEq, Nat.reduceEqDiff, Nat.reduceLeDiff, Nat.reduceAdd, Nat.reduceMul, Nat.reduceSub, Nat.reduceLT]
 | (rw [Option.bind_eq_some_iff] at h; obtain ⟨_, h1, h⟩ := h; first | (with_reducible refine CU (begins_s h1 (by with_unfolding_all rfl)) ?_) | (obtain ⟨hinc, hik⟩ := inc_some h1; subst hik; simp only [go_sem, hinc, hlt, hget, hpu, hinc, Int.reduceLE, ↓reduceIte, reduceCtorEq, Nat.reduceEqDiff, Nat.reduceLeDiff, Nat.reduceAdd, Nat.reduceMul, Nat.reduceSub, Nat.reduceLT]) | (with_reducible refine CU (peek_s h1 (by with_unfolding_all rfl)) ?_; have hlt := peek_lt h1) | (with_reducible refine CU (head_s h1 (by with_unfolding_all rfl)) ?_) | (with_reducible refine CU (block_s h1 (by with_unfolding_all rfl)) ?_) | (with_reducible refine CU (plain_s h1 (by with_unfolding_all rfl)) ?_) | (with_reducible refine CU (want_s h1 (by with_unfolding_all rfl)) ?_) | (with_reducible refine CU (bad_s h1 (by with_unfolding_all rfl)) ?_))
 | (with_reducible refine CU (choice_s h (by with_unfolding_all rfl)) ?_)
 | (with_reducible refine CU (named_s h (by with_unfolding_all rfl)) ?_)
 | (with_reducible first | refine CB_ofT (by assumption) fun hc => ?_ | refine CB_ofF (by assumption) fun hc => ?_ | refine CB_split (fun hc => ?_) fun hc => ?_) <;> (try simp only [hc, bs, ↓reduceIte] at h) <;> (try simp only [hc])
 | ((with_reducible first | refine leafR hQ ?_ | refine leafN hQ ?_); (try cases h); simp only [resL, oneD, Option.some.injEq, exists_eq_left', go_sem, hlt, hget, hpu, hinc, Int.reduceLE, ↓reduceIte, reduceCtorEq, Nat.reduceEqDiff, Nat.reduceLeDiff, Nat.reduceAdd, Nat.reduceMul, Nat.reduceSub, Nat.reduceLT]; repeat' (first | exact Ok.out | with_reducible refine And.intro ?_ ?_ | (simp; done)))
 | (cases h; replace h := hr; clear hr; (try simp only [bs, ↓reduceIte] at h))
 | (cases h; done))

theorem rows_true {m n : Nat} (stmt_s : ∀ j < n, C_stmt m j) {nest : Int} {r : Rd} {p : (List Sm × List Str) × Rd} (h : Rd.rows m (n + 1) nest true r = some p) :
    Fun Try.prog n_parse_reader_rows [.ptr 0 0, .int .i64 nest, .bool true] ⟨[encRd r], []⟩ (.tuple [.slice .shared 13 (p.1.1.map encSm), .slice .shared 1 (p.1.2.map encStr)]) ⟨[encRd p.2], []⟩ := by
  unfold Rd.rows at h
  refine Fun.go has_parse_reader_rows rfl fun B Q hB hQ => ?_
  have hlt : 0 < 1 := Nat.zero_lt_one
  have hget : 0 < 1 := Nat.zero_lt_one
  have hpu : 0 < 1 := Nat.zero_lt_one
  have hinc : 0 < 1 := Nat.zero_lt_one
  repeat' (first
 | simp only [go_sem, hlt, hget, hpu, hinc, Int.reduceLE, ↓reduceIte, reduceCtorEq, Nat.reduceEqDiff, Nat.reduceLeDiff, Nat.reduceAdd, Nat.reduceMul, Nat.reduceSub, Nat.reduceLT]
 | (with_reducible first | refine CB_ofT (by assumption) fun hc => ?_ | refine CB_ofF (by assumption) fun hc => ?_ | refine CB_split (fun hc => ?_) fun hc => ?_) <;> (try simp only [hc, bs, ↓reduceIte] at h) <;> (try simp only [hc])
 | ((with_reducible first | refine leafR hQ ?_ | refine leafN hQ ?_); (try cases h); simp only [resL, oneD, Option.some.injEq, exists_eq_left', go_sem, hlt, hget, hpu, hinc, Int.reduceLE, ↓reduceIte, reduceCtorEq, Nat.reduceEqDiff, Nat.reduceLeDiff, Nat.reduceAdd, Nat.reduceMul, Nat.reduceSub, Nat.reduceLT]; repeat' (first | exact Ok.out | with_reducible refine And.intro ?_ ?_ | (simp; done)))
 | (cases h; replace h := hr; clear hr; (try simp only [bs, ↓reduceIte] at h))
 | (cases h; done))
  refine SemL.tokT 8 13 rfl ?_
  simp only [go_sem, hlt, hget, hpu, hinc, Int.reduceLE, ↓reduceIte, reduceCtorEq, Nat.reduceEqDiff, Nat.reduceLeDiff, Nat.reduceAdd, Nat.reduceMul, Nat.reduceSub, Nat.reduceLT]
  refine SemL.re _ _ 1 1 (by rw [hB]; exact Nat.le_of_ble_eq_true rfl) (by rw [hB]; exact Nat.le_of_ble_eq_true rfl) ?_ ?_ (SemL.ind (ι := Nat × List Sm × Rd × Nat) (fun i => Rd.rowsL m i.1 nest true i.2.1 i.2.2.1 = some p ∧ i.2.2.2 = i.2.1.length ∧ i.1 ≤ n) (fun i => i.1)
    (fun i => [(0, .ptr 0 0), (1, .int .i64 nest), (2, .bool true), (8, .slice (.tok 0) 13 (i.2.1.map encSm))]) (fun i => ⟨[encRd i.2.2.1], [some i.2.2.2]⟩) ?_ (n, [], r, 0) ⟨h, rfl, Nat.le_refl _⟩)
  · (simp only [go_sem, hlt, hget, hpu, hinc, Int.reduceLE, ↓reduceIte, reduceCtorEq, Nat.reduceEqDiff, Nat.reduceLeDiff, Nat.reduceAdd, Nat.reduceMul, Nat.reduceSub, Nat.reduceLT]; repeat' (first | exact Ok.out | with_reducible refine And.intro ?_ ?_))
  · (simp only [go_sem, hlt, hget, hpu, hinc, Int.reduceLE, ↓reduceIte, reduceCtorEq, Nat.reduceEqDiff, Nat.reduceLeDiff, Nat.reduceAdd, Nat.reduceMul, Nat.reduceSub, Nat.reduceLT]; repeat' (first | exact Ok.out | with_reducible refine And.intro ?_ ?_))
  rintro ⟨j, l, r, k⟩ ⟨h, hk, hj⟩ IH
  dsimp only at hk hj; subst hk
  cases j with
  | zero => simp only [Rd.rowsL] at h; cases h
  | succ j =>
    have stmt_j := @stmt_s j (by omega)
    simp only [Rd.rowsL] at h
    repeat' (first
 | simp only [go_sem, hlt, hget, hpu, hinc, Int.reduceLE, ↓reduceIte, reduceCtorEq, Nat.reduceEqDiff, Nat.reduceLeDiff, Nat.reduceAdd, Nat.reduceMul, Nat.reduceSub, Nat.reduceLT, encSm_eq]
 | (rw [Option.bind_eq_some_iff] at h; obtain ⟨_, h1, h⟩ := h; first | (with_reducible refine CU (labels_s h1 (by with_unfolding_all rfl)) ?_) | (with_reducible refine CU (is_s h1 (by with_unfolding_all rfl)) ?_; have hlt := is_lt h1) | (obtain ⟨hpu, hpush⟩ := push_some h1; subst hpush; simp only [go_sem, hlt, hget, hpu, hinc, Int.reduceLE, ↓reduceIte, reduceCtorEq, Nat.reduceEqDiff, Nat.reduceLeDiff, Nat.reduceAdd, Nat.reduceMul, Nat.reduceSub, Nat.reduceLT]) | (with_reducible refine CU (stmt_j h1 (by with_unfolding_all rfl)) ?_))
 | (with_reducible refine CU (good_s (by with_unfolding_all rfl)) ?_)
 | (with_reducible first | refine CB_ofT (by assumption) fun hc => ?_ | refine CB_ofF (by assumption) fun hc => ?_ | refine CB_split (fun hc => ?_) fun hc => ?_) <;> (try simp only [hc, bs, ↓reduceIte] at h) <;> (try simp only [hc])
 | ((with_reducible first | refine leafR hQ ?_ | refine leafN hQ ?_); (try cases h); simp only [resL, oneD, Option.some.injEq, exists_eq_left', go_sem, hlt, hget, hpu, hinc, Int.reduceLE, ↓reduceIte, reduceCtorEq, Nat.reduceEqDiff, Nat.reduceLeDiff, Nat.reduceAdd, Nat.reduceMul, Nat.reduceSub, Nat.reduceLT, encSm_eq]; repeat' (first | exact Ok.out | with_reducible refine And.intro ?_ ?_ | (simp; done)))
 | (cases h; replace h := hr; clear hr; (try simp only [bs, ↓reduceIte] at h))
 | (cases h; done))
    · refine SemL.re _ _ 1 1 (by rw [hB]; exact Nat.le_of_ble_eq_true rfl) (by rw [hB]; exact Nat.le_of_ble_eq_true rfl) ?_ ?_ (IH (j, _, _, l.length + 1) ⟨h, by simp, by dsimp only; omega⟩ (Nat.lt_succ_self _))
      · (simp only [go_sem, hlt, hget, hpu, hinc, Int.reduceLE, ↓reduceIte, reduceCtorEq, Nat.reduceEqDiff, Nat.reduceLeDiff, Nat.reduceAdd, Nat.reduceMul, Nat.reduceSub, Nat.reduceLT, encSm_eq]; repeat' (first | exact Ok.out | with_reducible refine And.intro ?_ ?_))
      · (simp only [go_sem, hlt, hget, hpu, hinc, Int.reduceLE, ↓reduceIte, reduceCtorEq, Nat.reduceEqDiff, Nat.reduceLeDiff, Nat.reduceAdd, Nat.reduceMul, Nat.reduceSub, Nat.reduceLT, encSm_eq]; repeat' (first | exact Ok.out | with_reducible refine And.intro ?_ ?_))

theorem rows_false {m n : Nat} (stmt_s : ∀ j < n, C_stmt m j) {nest : Int} {r : Rd} {p : (List Sm × List Str) × Rd} (h : Rd.rows m (n + 1) nest false r = some p) :
    Fun Try.prog n_parse_reader_rows [.ptr 0 0, .int .i64 nest, .bool false] ⟨[encRd r], []⟩ (.tuple [.slice .shared 13 (p.1.1.map encSm), .slice .shared 1 (p.1.2.map encStr)]) ⟨[encRd p.2], []⟩ := by
  unfold Rd.rows at h
  refine Fun.go has_parse_reader_rows rfl fun B Q hB hQ => ?_
  have hlt : 0 < 1 := Nat.zero_lt_one
  have hget : 0 < 1 := Nat.zero_lt_one
  have hpu : 0 < 1 := Nat.zero_lt_one
  have hinc : 0 < 1 := Nat.zero_lt_one
  repeat' (first
 | simp only [go_sem, hlt, hget, hpu, hinc, Int.reduceLE, ↓reduceIte, reduceCtorEq, Nat.reduceEqDiff, Nat.reduceLeDiff, Nat.reduceAdd, Nat.reduceMul, Nat.reduceSub, Nat.reduceLT]
 | (with_reducible first | refine CB_ofT (by assumption) fun hc => ?_ | refine CB_ofF (by assumption) fun hc => ?_ | refine CB_split (fun hc => ?_) fun hc => ?_) <;> (try simp only [hc, bs, ↓reduceIte] at h) <;> (try simp only [hc])
 | ((with_reducible first | refine leafR hQ ?_ | refine leafN hQ ?_); (try cases h); simp only [resL, oneD, Option.some.injEq, exists_eq_left', go_sem, hlt, hget, hpu, hinc, Int.reduceLE, ↓reduceIte, reduceCtorEq, Nat.reduceEqDiff, Nat.reduceLeDiff, Nat.reduceAdd, Nat.reduceMul, Nat.reduceSub, Nat.reduceLT]; repeat' (first | exact Ok.out | with_reducible refine And.intro ?_ ?_ | (simp; done)))
 | (cases h; replace h := hr; clear hr; (try simp only [bs, ↓reduceIte] at h))
 | (cases h; done))
  refine SemL.tokT 8 13 rfl ?_
  simp only [go_sem, hlt, hget, hpu, hinc, Int.reduceLE, ↓reduceIte, reduceCtorEq, Nat.reduceEqDiff, Nat.reduceLeDiff, Nat.reduceAdd, Nat.reduceMul, Nat.reduceSub, Nat.reduceLT]
  refine SemL.re _ _ 1 1 (by rw [hB]; exact Nat.le_of_ble_eq_true rfl) (by rw [hB]; exact Nat.le_of_ble_eq_true rfl) ?_ ?_ (SemL.ind (ι := Nat × List Sm × Rd × Nat) (fun i => Rd.rowsL m i.1 nest false i.2.1 i.2.2.1 = some p ∧ i.2.2.2 = i.2.1.length ∧ i.1 ≤ n) (fun i => i.1)
    (fun i => [(0, .ptr 0 0), (1, .int .i64 nest), (2, .bool false), (8, .slice (.tok 0) 13 (i.2.1.map encSm))]) (fun i => ⟨[encRd i.2.2.1], [some i.2.2.2]⟩) ?_ (n, [], r, 0) ⟨h, rfl, Nat.le_refl _⟩)
  · (simp only [go_sem, hlt, hget, hpu, hinc, Int.reduceLE, ↓reduceIte, reduceCtorEq, Nat.reduceEqDiff, Nat.reduceLeDiff, Nat.reduceAdd, Nat.reduceMul, Nat.reduceSub, Nat.reduceLT]; repeat' (first | exact Ok.out | with_reducible refine And.intro ?_ ?_))
  · (simp only [go_sem, hlt, hget, hpu, hinc, Int.reduceLE, ↓reduceIte, reduceCtorEq, Nat.reduceEqDiff, Nat.reduceLeDiff, Nat.reduceAdd, Nat.reduceMul, Nat.reduceSub, Nat.reduceLT]; repeat' (first | exact Ok.out | with_reducible refine And.intro ?_ ?_))
  rintro ⟨j, l, r, k⟩ ⟨h, hk, hj⟩ IH
  dsimp only at hk hj; subst hk
  cases j with
  | zero => simp only [Rd.rowsL] at h; cases h
  | succ j =>
    have stmt_j := @stmt_s j (by omega)
    simp only [Rd.rowsL] at h
    repeat' (first
 | simp only [go_sem, hlt, hget, hpu, hinc, Int.reduceLE, ↓reduceIte, reduceCtorEq, Nat.reduceEqDiff, Nat.reduceLeDiff, Nat.reduceAdd, Nat.reduceMul, Nat.reduceSub, Nat.reduceLT, encSm_eq]
 | (rw [Option.bind_eq_some_iff] at h; obtain ⟨_, h1, h⟩ := h; first | (with_reducible refine CU (labels_s h1 (by with_unfolding_all rfl)) ?_) | (with_reducible refine CU (is_s h1 (by with_unfolding_all rfl)) ?_; have hlt := is_lt h1) | (obtain ⟨hpu, hpush⟩ := push_some h1; subst hpush; simp only [go_sem, hlt, hget, hpu, hinc, Int.reduceLE, ↓reduceIte, reduceCtorEq, Nat.reduceEqDiff, Nat.reduceLeDiff, Nat.reduceAdd, Nat.reduceMul, Nat.reduceSub, Nat.reduceLT]) | (with_reducible refine CU (stmt_j h1 (by with_unfolding_all rfl)) ?_))
 | (with_reducible refine CU (good_s (by with_unfolding_all rfl)) ?_)
 | (with_reducible first | refine CB_ofT (by assumption) fun hc => ?_ | refine CB_ofF (by assumption) fun hc => ?_ | refine CB_split (fun hc => ?_) fun hc => ?_) <;> (try simp only [hc, bs, ↓reduceIte] at h) <;> (try simp only [hc])
 | ((with_reducible first | refine leafR hQ ?_ | refine leafN hQ ?_); (try cases h); simp only [resL, oneD, Option.some.injEq, exists_eq_left', go_sem, hlt, hget, hpu, hinc, Int.reduceLE, ↓reduceIte, reduceCtorEq, Nat.reduceEqDiff, Nat.reduceLeDiff, Nat.reduceAdd, Nat.reduceMul, Nat.reduceSub, Nat.reduceLT, encSm_eq]; repeat' (first | exact Ok.out | with_reducible refine And.intro ?_ ?_ | (simp; done)))
 | (cases h; replace h := hr; clear hr; (try simp only [bs, ↓reduceIte] at h))
 | (cases h; done))
    · refine SemL.re _ _ 1 1 (by rw [hB]; exact Nat.le_of_ble_eq_true rfl) (by rw [hB]; exact Nat.le_of_ble_eq_true rfl) ?_ ?_ (IH (j, _, _, l.length + 1) ⟨h, by simp, by dsimp only; omega⟩ (Nat.lt_succ_self _))
      · (simp only [go_sem, hlt, hget, hpu, hinc, Int.reduceLE, ↓reduceIte, reduceCtorEq, Nat.reduceEqDiff, Nat.reduceLeDiff, Nat.reduceAdd, Nat.reduceMul, Nat.reduceSub, Nat.reduceLT, encSm_eq]; repeat' (first | exact Ok.out | with_reducible refine And.intro ?_ ?_))
      · (simp only [go_sem, hlt, hget, hpu, hinc, Int.reduceLE, ↓reduceIte, reduceCtorEq, Nat.reduceEqDiff, Nat.reduceLeDiff, Nat.reduceAdd, Nat.reduceMul, Nat.reduceSub, Nat.reduceLT, encSm_eq]; repeat' (first | exact Ok.out | with_reducible refine And.intro ?_ ?_))
    · refine SemL.re _ _ 1 1 (by rw [hB]; exact Nat.le_of_ble_eq_true rfl) (by rw [hB]; exact Nat.le_of_ble_eq_true rfl) ?_ ?_ (IH (j, _, _, l.length + 1) ⟨h, by simp, by dsimp only; omega⟩ (Nat.lt_succ_self _))
      · (simp only [go_sem, hlt, hget, hpu, hinc, Int.reduceLE, ↓reduceIte, reduceCtorEq, Nat.reduceEqDiff, Nat.reduceLeDiff, Nat.reduceAdd, Nat.reduceMul, Nat.reduceSub, Nat.reduceLT, encSm_eq]; repeat' (first | exact Ok.out | with_reducible refine And.intro ?_ ?_))
      · (simp only [go_sem, hlt, hget, hpu, hinc, Int.reduceLE, ↓reduceIte, reduceCtorEq, Nat.reduceEqDiff, Nat.reduceLeDiff, Nat.reduceAdd, Nat.reduceMul, Nat.reduceSub, Nat.reduceLT, encSm_eq]; repeat' (first | exact Ok.out | with_reducible refine And.intro ?_ ?_))

theorem rows_step {m n : Nat} (stmt_s : ∀ j < n, C_stmt m j) : C_rows m (n + 1) := by
  intro nest body r p h s o ho
  refine Fun.meth ?_ rfl (okRd r) (okRd p.2) (by simp [D.ok, D.oks, okrSm, okrStr, Tag.ok]) ho
  cases body
  · exact rows_false stmt_s h
  · exact rows_true stmt_s h

theorem allR_s (m : Nat) : ∀ n, ∀ k < n, C_rows m k ∧ C_stmt m k ∧ C_block m k ∧ C_choice m k := by
  intro n
  induction n with
  | zero => intro k h; exact absurd h (Nat.not_lt_zero _)
  | succ n ih =>
    intro k hk
    cases k with
    | zero =>
      refine ⟨?_, ?_, ?_, ?_⟩
      · intro nest body r p h; simp only [Rd.rows] at h; cases h
      · intro nest r p h; simp only [Rd.stmt] at h; cases h
      · intro nest r p h; simp only [Rd.block] at h; cases h
      · intro nest r p h; simp only [Rd.choice] at h; cases h
    | succ k =>
      obtain ⟨h1, h2, h3, h4⟩ := ih k (by omega)
      exact ⟨rows_step fun j hj => (ih j (by omega)).2.1, stmt_step h3 h4, block_step h1, choice_step h3⟩

theorem rows_s {m n : Nat} {nest : Int} {body : Bool} {r : Rd} {p : (List Sm × List Str) × Rd} (h : Rd.rows m n nest body r = some p) {s : St} {o : Nat} (ho : s.objs[o]? = some (encRd r)) :
    Fun Try.prog n_parse_reader_rows [.ptr o 0, .int .i64 nest, .bool body] s (.tuple [.slice .shared 13 (p.1.1.map encSm), .slice .shared 1 (p.1.2.map encStr)]) ⟨s.objs.set o (encRd p.2), s.toks⟩ :=
  (allR_s m (n + 1) n (Nat.lt_succ_self _)).1 h ho

end Go.Abs

/-! Prs6 -/

namespace Go.Abs

set_option maxRecDepth 8000
set_option linter.unusedSimpArgs false
set_option linter.unusedVariables false
open Go.Proofs

theorem proc_vars {m : Nat} {B : Base} {Q : Exit → Tm → St → Prop} {row : List D} {name : Str} {p : Pc × Rd} (hB : B.s = ⟨[row], []⟩) (hQ : retF 1 0 [(2, some (true, 5))] (.agg (encPc p.1)) ⟨[encRd p.2], []⟩ = Q)
    (ps : List Pm) (r : Rd) (h : Rd.procB m name ps r = some p) :
    SemL Try.prog B 56 QNE (inBlockQ 2 (thenQ (wpC Try.prog B 56 QNK Q) Q)) [(0, .ptr 0 0), (2, .ptr 1 0), (3, .ptr 2 0)]
      ⟨[encRd r, [.str [], .slice .full 0 [], .slice .full 0 [], .slice .full 0 [], .slice .full 0 []], [.str name, .slice .shared 2 (ps.map encPm), .slice .full 0 [], .slice .full 0 [], .slice .full 0 []]], []⟩ := by
  have hlt : 0 < 1 := Nat.zero_lt_one
  have hget : 0 < 1 := Nat.zero_lt_one
  have hpu : 0 < 1 := Nat.zero_lt_one
  have hinc : 0 < 1 := Nat.zero_lt_one
  unfold Rd.procB at h
  rw [Option.bind_eq_some_iff] at h
  obtain ⟨q, h, hr⟩ := h
  refine SemL.tokO 2 2 1 rfl rfl ?_
  simp only [go_sem, hlt, hget, hpu, hinc, Int.reduceLE, ↓reduceIte, reduceCtorEq, Nat.reduceEqDiff, Nat.reduceLeDiff, Nat.reduceAdd, Nat.reduceMul, Nat.reduceSub, Nat.reduceLT]
  refine SemL.re _ _ 3 1 (by rw [hB]; exact Nat.le_of_ble_eq_true rfl) (by rw [hB]; exact Nat.le_of_ble_eq_true rfl) ?_ ?_ (SemL.ind (ι := Nat × List Str × Rd × Nat) (fun i => Rd.vars m i.1 i.2.1 i.2.2.1 = some q ∧ i.2.2.2 = i.2.1.length) (fun i => i.1)
    (fun i => [(0, .ptr 0 0), (2, .ptr 1 0), (3, .ptr 2 0)]) (fun i => ⟨[encRd i.2.2.1, [.str [], .slice .full 0 [], .slice .full 0 [], .slice .full 0 [], .slice .full 0 []], [.str name, .slice .shared 2 (ps.map encPm), .slice (.tok 0) 1 (i.2.1.map encStr), .slice .full 0 [], .slice .full 0 []]], [some i.2.2.2]⟩) ?_ (m, [], r, 0) ⟨h, rfl⟩)
  · (simp only [go_sem, hlt, hget, hpu, hinc, Int.reduceLE, ↓reduceIte, reduceCtorEq, Nat.reduceEqDiff, Nat.reduceLeDiff, Nat.reduceAdd, Nat.reduceMul, Nat.reduceSub, Nat.reduceLT]; repeat' (first | exact Ok.out | with_reducible refine And.intro ?_ ?_))
  · (simp only [go_sem, hlt, hget, hpu, hinc, Int.reduceLE, ↓reduceIte, reduceCtorEq, Nat.reduceEqDiff, Nat.reduceLeDiff, Nat.reduceAdd, Nat.reduceMul, Nat.reduceSub, Nat.reduceLT]; repeat' (first | exact Ok.out | with_reducible refine And.intro ?_ ?_))
  rintro ⟨n, l, r, k⟩ ⟨h, hk⟩ IH
  dsimp only at hk; subst hk
  cases n with
  | zero => simp only [Rd.vars] at h; cases h
  | succ n =>
    simp only [Rd.vars] at h
    repeat' (first
 | simp only [go_sem, hlt, hget, hpu, hinc, Int.reduceLE, ↓reduceIte, reduceCtorEq, Nat.reduceEqDiff, Nat.reduceLeDiff, Nat.reduceAdd, Nat.reduceMul, Nat.reduceSub, Nat.reduceLT]
 | (rw [Option.bind_eq_some_iff] at h; obtain ⟨_, h1, h⟩ := h; first | (with_reducible refine CU (take_s h1 (by with_unfolding_all rfl)) ?_) | (with_reducible refine CU (names_s h1 (by with_unfolding_all rfl) (by with_unfolding_all rfl)) ?_) | (with_reducible refine CU (rows_s h1 (by with_unfolding_all rfl)) ?_))
 | (with_reducible first | refine CB_ofT (by assumption) fun hc => ?_ | refine CB_ofF (by assumption) fun hc => ?_ | refine CB_split (fun hc => ?_) fun hc => ?_) <;> (try simp only [hc, bs, ↓reduceIte] at h) <;> (try simp only [hc])
 | ((with_reducible first | refine leafR hQ ?_ | refine leafN hQ ?_); (try cases h); simp only [resL, oneD, Option.some.injEq, exists_eq_left', go_sem, hlt, hget, hpu, hinc, Int.reduceLE, ↓reduceIte, reduceCtorEq, Nat.reduceEqDiff, Nat.reduceLeDiff, Nat.reduceAdd, Nat.reduceMul, Nat.reduceSub, Nat.reduceLT]; repeat' (first | exact Ok.out | with_reducible refine And.intro ?_ ?_ | (simp; done)))
 | (cases h; replace h := hr; clear hr; (try simp only [bs, ↓reduceIte] at h))
 | (cases h; done))
    refine SemL.re _ _ 3 1 (by rw [hB]; exact Nat.le_of_ble_eq_true rfl) (by rw [hB]; exact Nat.le_of_ble_eq_true rfl) ?_ ?_ (IH (n, _, _, _) ⟨h, rfl⟩ (Nat.lt_succ_self _))
    · (simp only [go_sem, hlt, hget, hpu, hinc, Int.reduceLE, ↓reduceIte, reduceCtorEq, Nat.reduceEqDiff, Nat.reduceLeDiff, Nat.reduceAdd, Nat.reduceMul, Nat.reduceSub, Nat.reduceLT]; repeat' (first | exact Ok.out | with_reducible refine And.intro ?_ ?_))
    · (simp only [go_sem, hlt, hget, hpu, hinc, Int.reduceLE, ↓reduceIte, reduceCtorEq, Nat.reduceEqDiff, Nat.reduceLeDiff, Nat.reduceAdd, Nat.reduceMul, Nat.reduceSub, Nat.reduceLT]; repeat' (first | exact Ok.out | with_reducible refine And.intro ?_ ?_))

theorem proc_s {m : Nat} {r : Rd} {p : Pc × Rd} (h : Rd.proc m r = some p) {s : St} {o : Nat} (ho : s.objs[o]? = some (encRd r)) :
    Fun Try.prog n_parse_reader_proc [.ptr o 0] s (.agg (encPc p.1)) ⟨s.objs.set o (encRd p.2), s.toks⟩ := by
  refine Fun.meth ?_ rfl (okRd r) (okRd p.2) (by simp [D.ok, okPc]) ho
  unfold Rd.proc Rd.other at h
  refine Fun.go has_parse_reader_proc rfl fun B Q hB hQ => ?_
  have hlt : 0 < 1 := Nat.zero_lt_one
  have hget : 0 < 1 := Nat.zero_lt_one
  have hpu : 0 < 1 := Nat.zero_lt_one
  have hinc : 0 < 1 := Nat.zero_lt_one
  repeat' (first
 | simp only [go_sem, hlt, hget, hpu, hinc, Int.reduceLE, ↓reduceIte, reduceCtorEq, Nat.reduceEqDiff, Nat.reduceLeDiff, Nat.reduceAdd, Nat.reduceMul, Nat.reduceSub, Nat.reduceLT]
 | (rw [Option.bind_eq_some_iff] at h; obtain ⟨_, h1, h⟩ := h; first | (with_reducible refine CU (want_s h1 (by with_unfolding_all rfl)) ?_) | (with_reducible refine CU (is_s h1 (by with_unfolding_all rfl)) ?_) | (with_reducible refine CU (name_s h1 (by with_unfolding_all rfl)) ?_))
 | (with_reducible refine CU (good_s (by with_unfolding_all rfl)) ?_)
 | (with_reducible first | refine CB_ofT (by assumption) fun hc => ?_ | refine CB_ofF (by assumption) fun hc => ?_ | refine CB_split (fun hc => ?_) fun hc => ?_) <;> (try simp only [hc, bs, ↓reduceIte] at h) <;> (try simp only [hc])
 | ((with_reducible first | refine leafR hQ ?_ | refine leafN hQ ?_); (try cases h); simp only [resL, oneD, Option.some.injEq, exists_eq_left', go_sem, hlt, hget, hpu, hinc, Int.reduceLE, ↓reduceIte, reduceCtorEq, Nat.reduceEqDiff, Nat.reduceLeDiff, Nat.reduceAdd, Nat.reduceMul, Nat.reduceSub, Nat.reduceLT]; repeat' (first | exact Ok.out | with_reducible refine And.intro ?_ ?_ | (simp; done)))
 | (cases h; replace h := hr; clear hr; (try simp only [bs, ↓reduceIte] at h))
 | (cases h; done))
  · refine SemL.re _ _ 3 0 (by rw [hB]; exact Nat.le_of_ble_eq_true rfl) (by rw [hB]; exact Nat.le_of_ble_eq_true rfl) ?_ ?_ (proc_vars hB hQ [] _ h)
    · (simp only [go_sem, hlt, hget, hpu, hinc, Int.reduceLE, ↓reduceIte, reduceCtorEq, Nat.reduceEqDiff, Nat.reduceLeDiff, Nat.reduceAdd, Nat.reduceMul, Nat.reduceSub, Nat.reduceLT]; repeat' (first | exact Ok.out | with_reducible refine And.intro ?_ ?_))
    · (simp only [go_sem, hlt, hget, hpu, hinc, Int.reduceLE, ↓reduceIte, reduceCtorEq, Nat.reduceEqDiff, Nat.reduceLeDiff, Nat.reduceAdd, Nat.reduceMul, Nat.reduceSub, Nat.reduceLT]; repeat' (first | exact Ok.out | with_reducible refine And.intro ?_ ?_))
  · rename_i nm _ _ _ _ _
    rw [Option.bind_eq_some_iff] at h
    obtain ⟨q, h, hr⟩ := h
    refine SemL.tokO 2 1 2 rfl rfl ?_
    simp only [go_sem, hlt, hget, hpu, hinc, Int.reduceLE, ↓reduceIte, reduceCtorEq, Nat.reduceEqDiff, Nat.reduceLeDiff, Nat.reduceAdd, Nat.reduceMul, Nat.reduceSub, Nat.reduceLT]
    refine SemL.re _ _ 3 1 (by rw [hB]; exact Nat.le_of_ble_eq_true rfl) (by rw [hB]; exact Nat.le_of_ble_eq_true rfl) ?_ ?_ (SemL.ind (ι := Nat × List Pm × Rd × Nat) (fun i => Rd.params i.1 i.2.1 i.2.2.1 = some q ∧ i.2.2.2 = i.2.1.length) (fun i => i.1)
      (fun i => [(0, .ptr 0 0), (2, .ptr 1 0), (3, .ptr 2 0)]) (fun i => ⟨[encRd i.2.2.1, [.str [], .slice .full 0 [], .slice .full 0 [], .slice .full 0 [], .slice .full 0 []], [.str nm.1, .slice (.tok 0) 2 (i.2.1.map encPm), .slice .full 0 [], .slice .full 0 [], .slice .full 0 []]], [some i.2.2.2]⟩) ?_ (m, [], _, 0) ⟨h, rfl⟩)
    · (simp only [go_sem, hlt, hget, hpu, hinc, Int.reduceLE, ↓reduceIte, reduceCtorEq, Nat.reduceEqDiff, Nat.reduceLeDiff, Nat.reduceAdd, Nat.reduceMul, Nat.reduceSub, Nat.reduceLT]; repeat' (first | exact Ok.out | with_reducible refine And.intro ?_ ?_))
    · (simp only [go_sem, hlt, hget, hpu, hinc, Int.reduceLE, ↓reduceIte, reduceCtorEq, Nat.reduceEqDiff, Nat.reduceLeDiff, Nat.reduceAdd, Nat.reduceMul, Nat.reduceSub, Nat.reduceLT]; repeat' (first | exact Ok.out | with_reducible refine And.intro ?_ ?_))
    rintro ⟨n, l, r, k⟩ ⟨h, hk⟩ IH
    dsimp only at hk; subst hk
    cases n with
    | zero => simp only [Rd.params] at h; cases h
    | succ n =>
      simp only [Rd.params] at h
      repeat' (first
 | simp only [go_sem, hlt, hget, hpu, hinc, Int.reduceLE, ↓reduceIte, reduceCtorEq, Nat.reduceEqDiff, Nat.reduceLeDiff, Nat.reduceAdd, Nat.reduceMul, Nat.reduceSub, Nat.reduceLT]
 | (rw [Option.bind_eq_some_iff] at h; obtain ⟨_, h1, h⟩ := h; first | (with_reducible refine CU (take_s h1 (by with_unfolding_all rfl)) ?_) | (with_reducible refine CU (name_s h1 (by with_unfolding_all rfl)) ?_) | (obtain ⟨hpu, hpush⟩ := push_some h1; subst hpush; simp only [go_sem, hlt, hget, hpu, hinc, Int.reduceLE, ↓reduceIte, reduceCtorEq, Nat.reduceEqDiff, Nat.reduceLeDiff, Nat.reduceAdd, Nat.reduceMul, Nat.reduceSub, Nat.reduceLT]) | (with_reducible refine CU (want_s h1 (by with_unfolding_all rfl)) ?_))
 | (with_reducible refine CU (good_s (by with_unfolding_all rfl)) ?_)
 | (with_reducible first | refine CB_ofT (by assumption) fun hc => ?_ | refine CB_ofF (by assumption) fun hc => ?_ | refine CB_split (fun hc => ?_) fun hc => ?_) <;> (try simp only [hc, bs, ↓reduceIte] at h) <;> (try simp only [hc])
 | ((with_reducible first | refine leafR hQ ?_ | refine leafN hQ ?_); (try cases h); simp only [resL, oneD, Option.some.injEq, exists_eq_left', go_sem, hlt, hget, hpu, hinc, Int.reduceLE, ↓reduceIte, reduceCtorEq, Nat.reduceEqDiff, Nat.reduceLeDiff, Nat.reduceAdd, Nat.reduceMul, Nat.reduceSub, Nat.reduceLT]; repeat' (first | exact Ok.out | with_reducible refine And.intro ?_ ?_ | (simp; done)))
 | (cases h; replace h := hr; clear hr; (try simp only [bs, ↓reduceIte] at h))
 | (cases h; done))
      · refine SemL.re _ _ 3 1 (by rw [hB]; exact Nat.le_of_ble_eq_true rfl) (by rw [hB]; exact Nat.le_of_ble_eq_true rfl) ?_ ?_ (IH (n, _, _, l.length + 1) ⟨h, by simp⟩ (Nat.lt_succ_self _))
        · (simp only [go_sem, hlt, hget, hpu, hinc, Int.reduceLE, ↓reduceIte, reduceCtorEq, Nat.reduceEqDiff, Nat.reduceLeDiff, Nat.reduceAdd, Nat.reduceMul, Nat.reduceSub, Nat.reduceLT]; repeat' (first | exact Ok.out | with_reducible refine And.intro ?_ ?_))
        · (simp only [go_sem, hlt, hget, hpu, hinc, Int.reduceLE, ↓reduceIte, reduceCtorEq, Nat.reduceEqDiff, Nat.reduceLeDiff, Nat.reduceAdd, Nat.reduceMul, Nat.reduceSub, Nat.reduceLT]; repeat' (first | exact Ok.out | with_reducible refine And.intro ?_ ?_))
      · refine SemL.re _ _ 3 0 (by rw [hB]; exact Nat.le_of_ble_eq_true rfl) (by rw [hB]; exact Nat.le_of_ble_eq_true rfl) ?_ ?_ (proc_vars hB hQ _ _ h)
        · (simp only [go_sem, hlt, hget, hpu, hinc, Int.reduceLE, ↓reduceIte, reduceCtorEq, Nat.reduceEqDiff, Nat.reduceLeDiff, Nat.reduceAdd, Nat.reduceMul, Nat.reduceSub, Nat.reduceLT]; repeat' (first | exact Ok.out | with_reducible refine And.intro ?_ ?_))
        · (simp only [go_sem, hlt, hget, hpu, hinc, Int.reduceLE, ↓reduceIte, reduceCtorEq, Nat.reduceEqDiff, Nat.reduceLeDiff, Nat.reduceAdd, Nat.reduceMul, Nat.reduceSub, Nat.reduceLT]; repeat' (first | exact Ok.out | with_reducible refine And.intro ?_ ?_))
      · refine SemL.re _ _ 3 0 (by rw [hB]; exact Nat.le_of_ble_eq_true rfl) (by rw [hB]; exact Nat.le_of_ble_eq_true rfl) ?_ ?_ (proc_vars hB hQ _ _ h)
        · (simp only [go_sem, hlt, hget, hpu, hinc, Int.reduceLE, ↓reduceIte, reduceCtorEq, Nat.reduceEqDiff, Nat.reduceLeDiff, Nat.reduceAdd, Nat.reduceMul, Nat.reduceSub, Nat.reduceLT]; repeat' (first | exact Ok.out | with_reducible refine And.intro ?_ ?_))
        · (simp only [go_sem, hlt, hget, hpu, hinc, Int.reduceLE, ↓reduceIte, reduceCtorEq, Nat.reduceEqDiff, Nat.reduceLeDiff, Nat.reduceAdd, Nat.reduceMul, Nat.reduceSub, Nat.reduceLT]; repeat' (first | exact Ok.out | with_reducible refine And.intro ?_ ?_))
  · refine SemL.re _ _ 3 0 (by rw [hB]; exact Nat.le_of_ble_eq_true rfl) (by rw [hB]; exact Nat.le_of_ble_eq_true rfl) ?_ ?_ (proc_vars hB hQ [] _ h)
    · (simp only [go_sem, hlt, hget, hpu, hinc, Int.reduceLE, ↓reduceIte, reduceCtorEq, Nat.reduceEqDiff, Nat.reduceLeDiff, Nat.reduceAdd, Nat.reduceMul, Nat.reduceSub, Nat.reduceLT]; repeat' (first | exact Ok.out | with_reducible refine And.intro ?_ ?_))
    · (simp only [go_sem, hlt, hget, hpu, hinc, Int.reduceLE, ↓reduceIte, reduceCtorEq, Nat.reduceEqDiff, Nat.reduceLeDiff, Nat.reduceAdd, Nat.reduceMul, Nat.reduceSub, Nat.reduceLT]; repeat' (first | exact Ok.out | with_reducible refine And.intro ?_ ?_))

theorem program_tail {m : Nat} {B : Base} {Q : Exit → Tm → St → Prop} {row : List D} {g : List Str} {p : Pg × Rd} (hB : B.s = ⟨[row], []⟩) (hQ : retF 1 0 [(2, some (true, 2))] (.agg (encPg p.1)) ⟨[encRd p.2], []⟩ = Q)
    (r : Rd) {k : Nat} (h : ((Rd.procs m k [] r).bind fun q => some (⟨g, q.1⟩, q.2)) = some p) :
    SemL Try.prog B 49 QCO (inBlockQ 2 (thenQ (wpC Try.prog B 49 QCX Q) Q)) [(0, .ptr 0 0), (2, .ptr 1 0), (3, .ptr 2 0)]
      ⟨[encRd r, [.slice .full 0 [], .slice .full 0 []], [.slice .shared 1 (g.map encStr), .slice .full 0 []]], []⟩ := by
  have hlt : 0 < 1 := Nat.zero_lt_one
  have hget : 0 < 1 := Nat.zero_lt_one
  have hpu : 0 < 1 := Nat.zero_lt_one
  have hinc : 0 < 1 := Nat.zero_lt_one
  rw [Option.bind_eq_some_iff] at h
  obtain ⟨q, h, hr⟩ := h
  cases hr
  refine SemL.tokO 2 1 5 rfl rfl ?_
  simp only [go_sem, hlt, hget, hpu, hinc, Int.reduceLE, ↓reduceIte, reduceCtorEq, Nat.reduceEqDiff, Nat.reduceLeDiff, Nat.reduceAdd, Nat.reduceMul, Nat.reduceSub, Nat.reduceLT]
  refine SemL.re _ _ 3 1 (by rw [hB]; exact Nat.le_of_ble_eq_true rfl) (by rw [hB]; exact Nat.le_of_ble_eq_true rfl) ?_ ?_ (SemL.ind (ι := Nat × List Pc × Rd × Nat) (fun i => Rd.procs m i.1 i.2.1 i.2.2.1 = some q ∧ i.2.2.2 = i.2.1.length) (fun i => i.1)
    (fun i => [(0, .ptr 0 0), (2, .ptr 1 0), (3, .ptr 2 0)]) (fun i => ⟨[encRd i.2.2.1, [.slice .full 0 [], .slice .full 0 []], [.slice .shared 1 (g.map encStr), .slice (.tok 0) 5 (i.2.1.map encPc)]], [some i.2.2.2]⟩) ?_ (k, [], r, 0) ⟨h, rfl⟩)
  · (simp only [go_sem, hlt, hget, hpu, hinc, Int.reduceLE, ↓reduceIte, reduceCtorEq, Nat.reduceEqDiff, Nat.reduceLeDiff, Nat.reduceAdd, Nat.reduceMul, Nat.reduceSub, Nat.reduceLT]; repeat' (first | exact Ok.out | with_reducible refine And.intro ?_ ?_))
  · (simp only [go_sem, hlt, hget, hpu, hinc, Int.reduceLE, ↓reduceIte, reduceCtorEq, Nat.reduceEqDiff, Nat.reduceLeDiff, Nat.reduceAdd, Nat.reduceMul, Nat.reduceSub, Nat.reduceLT]; repeat' (first | exact Ok.out | with_reducible refine And.intro ?_ ?_))
  rintro ⟨n, l, r, k⟩ ⟨h, hk⟩ IH
  dsimp only at hk; subst hk
  cases n with
  | zero => simp only [Rd.procs] at h; cases h
  | succ n =>
    simp only [Rd.procs, Rd.isProc, Rd.notEnd] at h
    repeat' (first
 | simp only [go_sem, hlt, hget, hpu, hinc, Int.reduceLE, ↓reduceIte, reduceCtorEq, Nat.reduceEqDiff, Nat.reduceLeDiff, Nat.reduceAdd, Nat.reduceMul, Nat.reduceSub, Nat.reduceLT]
 | (rw [Option.bind_eq_some_iff] at h; obtain ⟨_, h1, h⟩ := h; first | (with_reducible refine CU (is_s h1 (by with_unfolding_all rfl)) ?_; have hlt := is_lt h1) | (with_reducible refine CU (bad_s h1 (by with_unfolding_all rfl)) ?_) | (with_reducible refine CU (proc_s h1 (by with_unfolding_all rfl)) ?_) | (obtain ⟨hpu, hpush⟩ := push_some h1; subst hpush; simp only [go_sem, hlt, hget, hpu, hinc, Int.reduceLE, ↓reduceIte, reduceCtorEq, Nat.reduceEqDiff, Nat.reduceLeDiff, Nat.reduceAdd, Nat.reduceMul, Nat.reduceSub, Nat.reduceLT]) | (with_reducible refine CU (peek_s h1 (by with_unfolding_all rfl)) ?_))
 | (with_reducible refine CU (good_s (by with_unfolding_all rfl)) ?_)
 | (with_reducible first | refine CB_ofT (by assumption) fun hc => ?_ | refine CB_ofF (by assumption) fun hc => ?_ | refine CB_split (fun hc => ?_) fun hc => ?_) <;> (try simp only [hc, bs, ↓reduceIte] at h) <;> (try simp only [hc])
 | ((with_reducible first | refine leafR hQ ?_ | refine leafN hQ ?_); (try cases h); simp only [resL, oneD, Option.some.injEq, exists_eq_left', go_sem, hlt, hget, hpu, hinc, Int.reduceLE, ↓reduceIte, reduceCtorEq, Nat.reduceEqDiff, Nat.reduceLeDiff, Nat.reduceAdd, Nat.reduceMul, Nat.reduceSub, Nat.reduceLT]; repeat' (first | exact Ok.out | with_reducible refine And.intro ?_ ?_ | (simp; done)))
 | (cases h; replace h := hr; clear hr; (try simp only [bs, ↓reduceIte] at h))
 | (cases h; done))
    · refine SemL.re _ _ 3 1 (by rw [hB]; exact Nat.le_of_ble_eq_true rfl) (by rw [hB]; exact Nat.le_of_ble_eq_true rfl) ?_ ?_ (IH (n, _, _, l.length + 1) ⟨h, by simp⟩ (Nat.lt_succ_self _))
      · (simp only [go_sem, hlt, hget, hpu, hinc, Int.reduceLE, ↓reduceIte, reduceCtorEq, Nat.reduceEqDiff, Nat.reduceLeDiff, Nat.reduceAdd, Nat.reduceMul, Nat.reduceSub, Nat.reduceLT]; repeat' (first | exact Ok.out | with_reducible refine And.intro ?_ ?_))
      · (simp only [go_sem, hlt, hget, hpu, hinc, Int.reduceLE, ↓reduceIte, reduceCtorEq, Nat.reduceEqDiff, Nat.reduceLeDiff, Nat.reduceAdd, Nat.reduceMul, Nat.reduceSub, Nat.reduceLT]; repeat' (first | exact Ok.out | with_reducible refine And.intro ?_ ?_))

end Go.Abs

/-! MirLex -/

namespace Go.Abs

def isL (c : UInt8) : Bool := decide ((c.toNat : Int) ≥ 97) && decide ((c.toNat : Int) ≤ 122)
def isD (c : UInt8) : Bool := decide ((c.toNat : Int) ≥ 48) && decide ((c.toNat : Int) ≤ 57)
def isB (c : UInt8) : Bool := (c.toNat : Int) == 32 || (c.toNat : Int) == 9 || (c.toNat : Int) == 10 || (c.toNat : Int) == 13

/-- How many letters and digits, digits, bytes of a line a text begins with. -/
def runL : Str → Nat
  | [] => 0
  | c :: r => if isL c || isD c then runL r + 1 else 0
def runD : Str → Nat
  | [] => 0
  | c :: r => if isD c then runD r + 1 else 0
def lineL : Str → Nat
  | [] => 0
  | c :: r => if (c.toNat : Int) != 10 then lineL r + 1 else 0

def isWord (s : Str) : Bool :=
  s == [103, 108, 111, 98, 97, 108] || s == [112, 114, 111, 99] || s == [118, 97, 114] || s == [114, 101, 102] || s == [105, 102] || s == [101, 108, 115, 101] || s == [119, 104, 105, 108, 101] || s == [98, 114, 101, 97, 107] || s == [99, 111, 110, 116, 105, 110, 117, 101] || s == [114, 101, 116, 117, 114, 110] || s == [103, 111, 116, 111] || s == [114, 101, 97, 100] || s == [112, 114, 105, 110, 116]

def sign2 (s : Str) : Bool := s == [61, 61] || s == [33, 61] || s == [60, 61] || s == [62, 61] || s == [38, 38] || s == [124, 124]
def sign1 (c : UInt8) : Bool :=
  (c.toNat : Int) == 40 || (c.toNat : Int) == 41 || (c.toNat : Int) == 123 || (c.toNat : Int) == 125 || (c.toNat : Int) == 44 || (c.toNat : Int) == 59 || (c.toNat : Int) == 58 || (c.toNat : Int) == 61 ||
  (c.toNat : Int) == 33 || (c.toNat : Int) == 60 || (c.toNat : Int) == 62 || (c.toNat : Int) == 43 || (c.toNat : Int) == 45 || (c.toNat : Int) == 42 || (c.toNat : Int) == 47 || (c.toNat : Int) == 37

/-- How many bytes the sign has with which a text begins. -/
def signL : Str → Nat
  | [] => 0
  | [c] => if sign1 c then 1 else 0
  | c :: d :: _ => if sign2 [c, d] then 2 else if sign1 c then 1 else 0

/-- What digits are worth; none: more than may be. -/
def worth : Int → Str → Option Int
  | n, [] => some n
  | n, c :: r => if n > (9223372036854775807 - ((c.toNat : Int) - 48)) / 10 then none else worth (n * 10 + ((c.toNat : Int) - 48)) r

/-- The token with which a text begins, or a fault's code. -/
def tokE (pos : Nat) : Str → Tok ⊕ Int
  | [] => .inr 2
  | c :: r =>
    if isL c then
      let s := (c :: r).take (runL (c :: r))
      if s.length > 8 then .inr 4 else .inl ⟨if isWord s then 3 else 1, s, 0, pos⟩
    else if isD c then
      let s := (c :: r).take (runD (c :: r))
      if s.length > 1 ∧ (c.toNat : Int) = 48 then .inr 2 else
      match worth 0 s with
      | some n => .inl ⟨2, s, n, pos⟩
      | none => .inr 4
    else
      if signL (c :: r) = 0 then .inr 2 else .inl ⟨4, (c :: r).take (signL (c :: r)), 0, pos⟩

/-- A text's tokens behind others, or a fault. -/
def lexF : Nat → Nat → Str → List Tok → List Tok × Int × Int
  | 0, _, _, _ => ([], 0, 0)
  | _ + 1, pos, [], out => (out ++ [⟨0, [], 0, pos⟩], 0, 0)
  | n + 1, pos, c :: r, out =>
    if isB c then lexF n (pos + 1) r out
    else if (c.toNat : Int) == 35 then lexF n (pos + lineL (c :: r)) ((c :: r).drop (lineL (c :: r))) out
    else match tokE pos (c :: r) with
      | .inr e => ([], e, pos)
      | .inl t => if out.length = 2000 then ([], 4, pos) else lexF n (pos + t.text.length) ((c :: r).drop t.text.length) (out ++ [t])

def lexAll (text : Str) : List Tok × Int × Int := if text.length > 100000 then ([], 4, 0) else lexF (text.length + 1) 0 text []

end Go.Abs

/-! Lex1 -/

namespace Go.Abs

set_option maxRecDepth 8000
set_option linter.unusedSimpArgs false
set_option linter.unusedVariables false
open Go.Proofs

theorem letter_s (c : UInt8) (s : St) : Fun Try.prog n_lex_letter [.int .u8 (c.toNat : Int)] s (.bool (isL c)) s := by
  refine Fun.pure ?_ rfl rfl s
  generalize h : isL c = b
  unfold isL at h
  unfold S0
  refine Fun.go has_lex_letter rfl fun B Q hB hQ => ?_
  have hlt : 0 < 1 := Nat.zero_lt_one
  have hget : 0 < 1 := Nat.zero_lt_one
  have hpu : 0 < 1 := Nat.zero_lt_one
  have hinc : 0 < 1 := Nat.zero_lt_one
  repeat' (first
 | simp only [go_sem, hlt, hget, hpu, hinc, Int.reduceLE, ↓reduceIte, reduceCtorEq, Nat.reduceEqDiff, Nat.reduceLeDiff, Nat.reduceAdd, Nat.reduceMul, Nat.reduceSub, Nat.reduceLT]
 | (with_reducible first | refine CB_ofT (by assumption) fun hc => ?_ | refine CB_ofF (by assumption) fun hc => ?_ | refine CB_split (fun hc => ?_) fun hc => ?_) <;> (try simp only [hc, bs, ↓reduceIte] at h) <;> (try simp only [hc])
 | ((with_reducible first | refine leafR hQ ?_ | refine leafN hQ ?_); (try cases h); simp only [resL, oneD, Option.some.injEq, exists_eq_left', go_sem, hlt, hget, hpu, hinc, Int.reduceLE, ↓reduceIte, reduceCtorEq, Nat.reduceEqDiff, Nat.reduceLeDiff, Nat.reduceAdd, Nat.reduceMul, Nat.reduceSub, Nat.reduceLT]; repeat' (first | exact Ok.out | with_reducible refine And.intro ?_ ?_ | (simp; done)))
 | (cases h; replace h := hr; clear hr; (try simp only [bs, ↓reduceIte] at h))
 | (cases h; done))

theorem digit_s (c : UInt8) (s : St) : Fun Try.prog n_lex_digit [.int .u8 (c.toNat : Int)] s (.bool (isD c)) s := by
  refine Fun.pure ?_ rfl rfl s
  generalize h : isD c = b
  unfold isD at h
  unfold S0
  refine Fun.go has_lex_digit rfl fun B Q hB hQ => ?_
  have hlt : 0 < 1 := Nat.zero_lt_one
  have hget : 0 < 1 := Nat.zero_lt_one
  have hpu : 0 < 1 := Nat.zero_lt_one
  have hinc : 0 < 1 := Nat.zero_lt_one
  repeat' (first
 | simp only [go_sem, hlt, hget, hpu, hinc, Int.reduceLE, ↓reduceIte, reduceCtorEq, Nat.reduceEqDiff, Nat.reduceLeDiff, Nat.reduceAdd, Nat.reduceMul, Nat.reduceSub, Nat.reduceLT]
 | (with_reducible first | refine CB_ofT (by assumption) fun hc => ?_ | refine CB_ofF (by assumption) fun hc => ?_ | refine CB_split (fun hc => ?_) fun hc => ?_) <;> (try simp only [hc, bs, ↓reduceIte] at h) <;> (try simp only [hc])
 | ((with_reducible first | refine leafR hQ ?_ | refine leafN hQ ?_); (try cases h); simp only [resL, oneD, Option.some.injEq, exists_eq_left', go_sem, hlt, hget, hpu, hinc, Int.reduceLE, ↓reduceIte, reduceCtorEq, Nat.reduceEqDiff, Nat.reduceLeDiff, Nat.reduceAdd, Nat.reduceMul, Nat.reduceSub, Nat.reduceLT]; repeat' (first | exact Ok.out | with_reducible refine And.intro ?_ ?_ | (simp; done)))
 | (cases h; replace h := hr; clear hr; (try simp only [bs, ↓reduceIte] at h))
 | (cases h; done))

theorem word_s (t : Str) (s : St) : Fun Try.prog n_lex_Word [.str t] s (.bool (isWord t)) s := by
  refine Fun.pure ?_ rfl rfl s
  generalize h : isWord t = b
  unfold isWord at h
  unfold S0
  refine Fun.go has_lex_Word rfl fun B Q hB hQ => ?_
  have hlt : 0 < 1 := Nat.zero_lt_one
  have hget : 0 < 1 := Nat.zero_lt_one
  have hpu : 0 < 1 := Nat.zero_lt_one
  have hinc : 0 < 1 := Nat.zero_lt_one
  repeat' (first
 | simp only [go_sem, hlt, hget, hpu, hinc, Int.reduceLE, ↓reduceIte, reduceCtorEq, Nat.reduceEqDiff, Nat.reduceLeDiff, Nat.reduceAdd, Nat.reduceMul, Nat.reduceSub, Nat.reduceLT]
 | (with_reducible first | refine CB_ofT (by assumption) fun hc => ?_ | refine CB_ofF (by assumption) fun hc => ?_ | refine CB_split (fun hc => ?_) fun hc => ?_) <;> (try simp only [hc, bs, ↓reduceIte] at h) <;> (try simp only [hc])
 | ((with_reducible first | refine leafR hQ ?_ | refine leafN hQ ?_); (try cases h); simp only [resL, oneD, Option.some.injEq, exists_eq_left', go_sem, hlt, hget, hpu, hinc, Int.reduceLE, ↓reduceIte, reduceCtorEq, Nat.reduceEqDiff, Nat.reduceLeDiff, Nat.reduceAdd, Nat.reduceMul, Nat.reduceSub, Nat.reduceLT]; repeat' (first | exact Ok.out | with_reducible refine And.intro ?_ ?_ | (simp; done)))
 | (cases h; replace h := hr; clear hr; (try simp only [bs, ↓reduceIte] at h))
 | (cases h; done))

theorem run_s {text : Str} {pos : Nat} (hl : text.length < 4611686018427387904) (s : St) : Fun Try.prog n_lex_run [.str text, .int .i64 (pos : Int)] s (.int .i64 ((pos + runL (text.drop pos) : Nat) : Int)) s := by
  refine Fun.pure ?_ rfl rfl s
  unfold S0
  refine Fun.go has_lex_run rfl fun B Q hB hQ => ?_
  have hlt : 0 < 1 := Nat.zero_lt_one
  have hget : 0 < 1 := Nat.zero_lt_one
  have hpu : 0 < 1 := Nat.zero_lt_one
  have hinc : 0 < 1 := Nat.zero_lt_one
  repeat' (first
 | simp only [go_sem, hlt, hget, hpu, hinc, Int.reduceLE, ↓reduceIte, reduceCtorEq, Nat.reduceEqDiff, Nat.reduceLeDiff, Nat.reduceAdd, Nat.reduceMul, Nat.reduceSub, Nat.reduceLT]
 | (with_reducible first | refine CB_ofT (by assumption) fun hc => ?_ | refine CB_ofF (by assumption) fun hc => ?_ | refine CB_split (fun hc => ?_) fun hc => ?_) <;> (try simp only [hc, bs, ↓reduceIte] at h) <;> (try simp only [hc])
 | ((with_reducible first | refine leafR hQ ?_ | refine leafN hQ ?_); (try cases h); simp only [resL, oneD, Option.some.injEq, exists_eq_left', go_sem, hlt, hget, hpu, hinc, Int.reduceLE, ↓reduceIte, reduceCtorEq, Nat.reduceEqDiff, Nat.reduceLeDiff, Nat.reduceAdd, Nat.reduceMul, Nat.reduceSub, Nat.reduceLT]; repeat' (first | exact Ok.out | with_reducible refine And.intro ?_ ?_ | (simp; done)))
 | (cases h; replace h := hr; clear hr; (try simp only [bs, ↓reduceIte] at h))
 | (cases h; done))
  refine SemL.re _ _ 0 0 (by rw [hB]; exact Nat.le_of_ble_eq_true rfl) (by rw [hB]; exact Nat.le_of_ble_eq_true rfl) ?_ ?_ (SemL.ind (ι := Str × Nat) (fun i => text.drop i.2 = i.1 ∧ i.2 + runL i.1 = pos + runL (text.drop pos)) (fun i => i.1.length)
    (fun i => [(0, .str text), (1, .int .i64 (i.2 : Int))]) (fun i => ⟨[], []⟩) ?_ (text.drop pos, pos) ⟨rfl, rfl⟩)
  · (simp only [go_sem, hlt, hget, hpu, hinc, Int.reduceLE, ↓reduceIte, reduceCtorEq, Nat.reduceEqDiff, Nat.reduceLeDiff, Nat.reduceAdd, Nat.reduceMul, Nat.reduceSub, Nat.reduceLT]; repeat' (first | exact Ok.out | with_reducible refine And.intro ?_ ?_))
  · (simp only [go_sem, hlt, hget, hpu, hinc, Int.reduceLE, ↓reduceIte, reduceCtorEq, Nat.reduceEqDiff, Nat.reduceLeDiff, Nat.reduceAdd, Nat.reduceMul, Nat.reduceSub, Nat.reduceLT]; repeat' (first | exact Ok.out | with_reducible refine And.intro ?_ ?_))
  rintro ⟨rest, k⟩ ⟨h1, h2⟩ IH
  dsimp only at h1 h2
  cases rest with
  | nil =>
    have hlt := drop_nil h1
    simp only [runL, Nat.add_zero] at h2
    rw [← h2] at hQ
    repeat' (first
 | simp only [go_sem, hlt, hget, hpu, hinc, Int.reduceLE, ↓reduceIte, reduceCtorEq, Nat.reduceEqDiff, Nat.reduceLeDiff, Nat.reduceAdd, Nat.reduceMul, Nat.reduceSub, Nat.reduceLT]
 | (with_reducible first | refine CB_ofT (by assumption) fun hc => ?_ | refine CB_ofF (by assumption) fun hc => ?_ | refine CB_split (fun hc => ?_) fun hc => ?_) <;> (try simp only [hc, bs, ↓reduceIte] at h) <;> (try simp only [hc])
 | ((with_reducible first | refine leafR hQ ?_ | refine leafN hQ ?_); (try cases h); simp only [resL, oneD, Option.some.injEq, exists_eq_left', go_sem, hlt, hget, hpu, hinc, Int.reduceLE, ↓reduceIte, reduceCtorEq, Nat.reduceEqDiff, Nat.reduceLeDiff, Nat.reduceAdd, Nat.reduceMul, Nat.reduceSub, Nat.reduceLT]; repeat' (first | exact Ok.out | with_reducible refine And.intro ?_ ?_ | (simp; done)))
 | (cases h; replace h := hr; clear hr; (try simp only [bs, ↓reduceIte] at h))
 | (cases h; done))
  | cons c rest =>
    obtain ⟨hget, g2, hlt, g4⟩ := drop_cons h1
    have hpu : k < 4611686018427387904 := by omega
    cases hb : (isL c || isD c)
    · simp only [runL, hb, Bool.false_eq_true, ↓reduceIte, Nat.add_zero] at h2
      rw [← h2] at hQ
      simp only [Bool.or_eq_false_iff] at hb
      repeat' (first
 | simp only [go_sem, hlt, hget, hpu, hinc, Int.reduceLE, ↓reduceIte, reduceCtorEq, Nat.reduceEqDiff, Nat.reduceLeDiff, Nat.reduceAdd, Nat.reduceMul, Nat.reduceSub, Nat.reduceLT, hb.1, hb.2]
 | (with_reducible refine CU (letter_s _ _) ?_)
 | (with_reducible refine CU (digit_s _ _) ?_)
 | (with_reducible first | refine CB_ofT (by assumption) fun hc => ?_ | refine CB_ofF (by assumption) fun hc => ?_ | refine CB_split (fun hc => ?_) fun hc => ?_) <;> (try simp only [hc, bs, ↓reduceIte] at h) <;> (try simp only [hc])
 | ((with_reducible first | refine leafR hQ ?_ | refine leafN hQ ?_); (try cases h); simp only [resL, oneD, Option.some.injEq, exists_eq_left', go_sem, hlt, hget, hpu, hinc, Int.reduceLE, ↓reduceIte, reduceCtorEq, Nat.reduceEqDiff, Nat.reduceLeDiff, Nat.reduceAdd, Nat.reduceMul, Nat.reduceSub, Nat.reduceLT, hb.1, hb.2]; repeat' (first | exact Ok.out | with_reducible refine And.intro ?_ ?_ | (simp; done)))
 | (cases h; replace h := hr; clear hr; (try simp only [bs, ↓reduceIte] at h))
 | (cases h; done))
    · simp only [runL, hb, ↓reduceIte] at h2
      cases hb1 : isL c
      · rw [hb1, Bool.false_or] at hb
        repeat' (first
 | simp only [go_sem, hlt, hget, hpu, hinc, Int.reduceLE, ↓reduceIte, reduceCtorEq, Nat.reduceEqDiff, Nat.reduceLeDiff, Nat.reduceAdd, Nat.reduceMul, Nat.reduceSub, Nat.reduceLT, hb, hb1]
 | (with_reducible refine CU (letter_s _ _) ?_)
 | (with_reducible refine CU (digit_s _ _) ?_)
 | (with_reducible first | refine CB_ofT (by assumption) fun hc => ?_ | refine CB_ofF (by assumption) fun hc => ?_ | refine CB_split (fun hc => ?_) fun hc => ?_) <;> (try simp only [hc, bs, ↓reduceIte] at h) <;> (try simp only [hc])
 | ((with_reducible first | refine leafR hQ ?_ | refine leafN hQ ?_); (try cases h); simp only [resL, oneD, Option.some.injEq, exists_eq_left', go_sem, hlt, hget, hpu, hinc, Int.reduceLE, ↓reduceIte, reduceCtorEq, Nat.reduceEqDiff, Nat.reduceLeDiff, Nat.reduceAdd, Nat.reduceMul, Nat.reduceSub, Nat.reduceLT, hb, hb1]; repeat' (first | exact Ok.out | with_reducible refine And.intro ?_ ?_ | (simp; done)))
 | (cases h; replace h := hr; clear hr; (try simp only [bs, ↓reduceIte] at h))
 | (cases h; done))
        refine SemL.re _ _ 0 0 (by rw [hB]; exact Nat.le_of_ble_eq_true rfl) (by rw [hB]; exact Nat.le_of_ble_eq_true rfl) ?_ ?_ (IH (rest, k + 1) ⟨g2, by dsimp only; omega⟩ (Nat.lt_succ_self _))
        · (simp only [go_sem, hlt, hget, hpu, hinc, Int.reduceLE, ↓reduceIte, reduceCtorEq, Nat.reduceEqDiff, Nat.reduceLeDiff, Nat.reduceAdd, Nat.reduceMul, Nat.reduceSub, Nat.reduceLT]; repeat' (first | exact Ok.out | with_reducible refine And.intro ?_ ?_))
        · (simp only [go_sem, hlt, hget, hpu, hinc, Int.reduceLE, ↓reduceIte, reduceCtorEq, Nat.reduceEqDiff, Nat.reduceLeDiff, Nat.reduceAdd, Nat.reduceMul, Nat.reduceSub, Nat.reduceLT]; repeat' (first | exact Ok.out | with_reducible refine And.intro ?_ ?_))
      · repeat' (first
 | simp only [go_sem, hlt, hget, hpu, hinc, Int.reduceLE, ↓reduceIte, reduceCtorEq, Nat.reduceEqDiff, Nat.reduceLeDiff, Nat.reduceAdd, Nat.reduceMul, Nat.reduceSub, Nat.reduceLT, hb1]
 | (with_reducible refine CU (letter_s _ _) ?_)
 | (with_reducible refine CU (digit_s _ _) ?_)
 | (with_reducible first | refine CB_ofT (by assumption) fun hc => ?_ | refine CB_ofF (by assumption) fun hc => ?_ | refine CB_split (fun hc => ?_) fun hc => ?_) <;> (try simp only [hc, bs, ↓reduceIte] at h) <;> (try simp only [hc])
 | ((with_reducible first | refine leafR hQ ?_ | refine leafN hQ ?_); (try cases h); simp only [resL, oneD, Option.some.injEq, exists_eq_left', go_sem, hlt, hget, hpu, hinc, Int.reduceLE, ↓reduceIte, reduceCtorEq, Nat.reduceEqDiff, Nat.reduceLeDiff, Nat.reduceAdd, Nat.reduceMul, Nat.reduceSub, Nat.reduceLT, hb1]; repeat' (first | exact Ok.out | with_reducible refine And.intro ?_ ?_ | (simp; done)))
 | (cases h; replace h := hr; clear hr; (try simp only [bs, ↓reduceIte] at h))
 | (cases h; done))
        refine SemL.re _ _ 0 0 (by rw [hB]; exact Nat.le_of_ble_eq_true rfl) (by rw [hB]; exact Nat.le_of_ble_eq_true rfl) ?_ ?_ (IH (rest, k + 1) ⟨g2, by dsimp only; omega⟩ (Nat.lt_succ_self _))
        · (simp only [go_sem, hlt, hget, hpu, hinc, Int.reduceLE, ↓reduceIte, reduceCtorEq, Nat.reduceEqDiff, Nat.reduceLeDiff, Nat.reduceAdd, Nat.reduceMul, Nat.reduceSub, Nat.reduceLT]; repeat' (first | exact Ok.out | with_reducible refine And.intro ?_ ?_))
        · (simp only [go_sem, hlt, hget, hpu, hinc, Int.reduceLE, ↓reduceIte, reduceCtorEq, Nat.reduceEqDiff, Nat.reduceLeDiff, Nat.reduceAdd, Nat.reduceMul, Nat.reduceSub, Nat.reduceLT]; repeat' (first | exact Ok.out | with_reducible refine And.intro ?_ ?_))

theorem slice_at (text : Str) (a b : Nat) : (text.take (a + b)).drop a = (text.drop a).take b := by rw [List.drop_take]; congr 1; omega

set_option maxRecDepth 20000 in
theorem sign_s {text : Str} {pos : Nat} {c : UInt8} {r : Str} (hd : text.drop pos = c :: r) (hl : text.length < 4611686018427387904) (s : St) :
    Fun Try.prog n_lex_sign [.str text, .int .i64 (pos : Int)] s (.int .i64 ((signL (c :: r) : Nat) : Int)) s := by
  refine Fun.pure ?_ rfl rfl s
  obtain ⟨hget, g2, g3, g4⟩ := drop_cons hd
  have hpu : pos < 4611686018427387904 := by omega
  have hinc : 0 < 1 := Nat.zero_lt_one
  generalize h : signL (c :: r) = k
  unfold S0
  cases r with
  | nil =>
    have hlt : decide (((pos + 1 : Nat) : Int) < (text.length : Int)) = false := drop_nil g2
    simp only [signL, sign1] at h
    refine Fun.go has_lex_sign rfl fun B Q hB hQ => ?_
    repeat' (first
 | simp only [go_sem, hlt, hget, hpu, hinc, Int.reduceLE, ↓reduceIte, reduceCtorEq, Nat.reduceEqDiff, Nat.reduceLeDiff, Nat.reduceAdd, Nat.reduceMul, Nat.reduceSub, Nat.reduceLT]
 | (with_reducible first | refine CB_ofT (by assumption) fun hc => ?_ | refine CB_ofF (by assumption) fun hc => ?_ | refine CB_split (fun hc => ?_) fun hc => ?_) <;> (try simp only [hc, bs, ↓reduceIte] at h) <;> (try simp only [hc])
 | ((with_reducible first | refine leafR hQ ?_ | refine leafN hQ ?_); (try cases h); simp only [resL, oneD, Option.some.injEq, exists_eq_left', go_sem, hlt, hget, hpu, hinc, Int.reduceLE, ↓reduceIte, reduceCtorEq, Nat.reduceEqDiff, Nat.reduceLeDiff, Nat.reduceAdd, Nat.reduceMul, Nat.reduceSub, Nat.reduceLT]; repeat' (first | exact Ok.out | with_reducible refine And.intro ?_ ?_ | (simp; done)))
 | (cases h; replace h := hr; clear hr; (try simp only [bs, ↓reduceIte] at h))
 | (cases h; done))
  | cons d r =>
    obtain ⟨_, _, hlt, _⟩ := drop_cons g2
    have e1 : (text.take (pos + 2)).drop pos = [c, d] := by rw [slice_at, hd]; rfl
    have e2 : (0 : Int) ≤ (pos : Int) ∧ (pos : Int) ≤ ((pos + 2 : Nat) : Int) ∧ ((pos + 2 : Nat) : Int) ≤ (text.length : Int) := by omega
    simp only [signL, sign1, sign2] at h
    refine Fun.go has_lex_sign rfl fun B Q hB hQ => ?_
    repeat' (first
 | simp only [go_sem, hlt, hget, hpu, hinc, Int.reduceLE, ↓reduceIte, reduceCtorEq, Nat.reduceEqDiff, Nat.reduceLeDiff, Nat.reduceAdd, Nat.reduceMul, Nat.reduceSub, Nat.reduceLT, e1, e2]
 | (with_reducible first | refine CB_ofT (by assumption) fun hc => ?_ | refine CB_ofF (by assumption) fun hc => ?_ | refine CB_split (fun hc => ?_) fun hc => ?_) <;> (try simp only [hc, bs, ↓reduceIte] at h) <;> (try simp only [hc])
 | ((with_reducible first | refine leafR hQ ?_ | refine leafN hQ ?_); (try cases h); simp only [resL, oneD, Option.some.injEq, exists_eq_left', go_sem, hlt, hget, hpu, hinc, Int.reduceLE, ↓reduceIte, reduceCtorEq, Nat.reduceEqDiff, Nat.reduceLeDiff, Nat.reduceAdd, Nat.reduceMul, Nat.reduceSub, Nat.reduceLT, e1, e2]; repeat' (first | exact Ok.out | with_reducible refine And.intro ?_ ?_ | (simp; done)))
 | (cases h; replace h := hr; clear hr; (try simp only [bs, ↓reduceIte] at h))
 | (cases h; done))

theorem isD_range {c : UInt8} (h : isD c = true) : 48 ≤ (c.toNat : Int) ∧ (c.toNat : Int) ≤ 57 := by
  simp only [isD, Bool.and_eq_true, decide_eq_true_eq] at h
  omega

/-- What a text of digits is worth. -/
def worthP (s : Str) : Int × Bool := match worth 0 s with | some n => (n, true) | none => (0, false)

theorem number_s {text : Str} (hd : ∀ c ∈ text, isD c = true) (hl : text.length < 4611686018427387904) (s : St) :
    Fun Try.prog n_lex_number [.str text] s (.tuple [.int .i64 (worthP text).1, .bool (worthP text).2]) s := by
  refine Fun.pure ?_ rfl rfl s
  generalize hw : worthP text = p
  unfold S0
  refine Fun.go has_lex_number rfl fun B Q hB hQ => ?_
  have hlt : 0 < 1 := Nat.zero_lt_one
  have hget : 0 < 1 := Nat.zero_lt_one
  have hpu : 0 < 1 := Nat.zero_lt_one
  have hinc : 0 < 1 := Nat.zero_lt_one
  repeat' (first
 | simp only [go_sem, hlt, hget, hpu, hinc, Int.reduceLE, ↓reduceIte, reduceCtorEq, Nat.reduceEqDiff, Nat.reduceLeDiff, Nat.reduceAdd, Nat.reduceMul, Nat.reduceSub, Nat.reduceLT]
 | (with_reducible first | refine CB_ofT (by assumption) fun hc => ?_ | refine CB_ofF (by assumption) fun hc => ?_ | refine CB_split (fun hc => ?_) fun hc => ?_) <;> (try simp only [hc, bs, ↓reduceIte] at h) <;> (try simp only [hc])
 | ((with_reducible first | refine leafR hQ ?_ | refine leafN hQ ?_); (try cases h); simp only [resL, oneD, Option.some.injEq, exists_eq_left', go_sem, hlt, hget, hpu, hinc, Int.reduceLE, ↓reduceIte, reduceCtorEq, Nat.reduceEqDiff, Nat.reduceLeDiff, Nat.reduceAdd, Nat.reduceMul, Nat.reduceSub, Nat.reduceLT]; repeat' (first | exact Ok.out | with_reducible refine And.intro ?_ ?_ | (simp; done)))
 | (cases h; replace h := hr; clear hr; (try simp only [bs, ↓reduceIte] at h))
 | (cases h; done))
  refine SemL.re _ _ 0 0 (by rw [hB]; exact Nat.le_of_ble_eq_true rfl) (by rw [hB]; exact Nat.le_of_ble_eq_true rfl) ?_ ?_ (SemL.ind (ι := Str × Nat × Int) (fun i => text.drop i.2.1 = i.1 ∧ 0 ≤ i.2.2 ∧ i.2.2 ≤ 9223372036854775807 ∧ (match worth i.2.2 i.1 with | some n => (n, true) | none => (0, false)) = p) (fun i => i.1.length)
    (fun i => [(0, .str text), (4, .int .i64 i.2.2), (5, .int .i64 (i.2.1 : Int))]) (fun i => ⟨[], []⟩) ?_ (text, 0, 0) ⟨rfl, Int.le_refl 0, by dsimp only; omega, hw⟩)
  · (simp only [go_sem, hlt, hget, hpu, hinc, Int.reduceLE, ↓reduceIte, reduceCtorEq, Nat.reduceEqDiff, Nat.reduceLeDiff, Nat.reduceAdd, Nat.reduceMul, Nat.reduceSub, Nat.reduceLT]; repeat' (first | exact Ok.out | with_reducible refine And.intro ?_ ?_))
  · (simp only [go_sem, hlt, hget, hpu, hinc, Int.reduceLE, ↓reduceIte, reduceCtorEq, Nat.reduceEqDiff, Nat.reduceLeDiff, Nat.reduceAdd, Nat.reduceMul, Nat.reduceSub, Nat.reduceLT]; repeat' (first | exact Ok.out | with_reducible refine And.intro ?_ ?_))
  rintro ⟨rest, k, n⟩ ⟨h1, h2, h3, h⟩ IH
  dsimp only at h1 h2 h3 h
  cases rest with
  | nil =>
    have hlt := drop_nil h1
    simp only [worth] at h
    repeat' (first
 | simp only [go_sem, hlt, hget, hpu, hinc, Int.reduceLE, ↓reduceIte, reduceCtorEq, Nat.reduceEqDiff, Nat.reduceLeDiff, Nat.reduceAdd, Nat.reduceMul, Nat.reduceSub, Nat.reduceLT]
 | (with_reducible first | refine CB_ofT (by assumption) fun hc => ?_ | refine CB_ofF (by assumption) fun hc => ?_ | refine CB_split (fun hc => ?_) fun hc => ?_) <;> (try simp only [hc, bs, ↓reduceIte] at h) <;> (try simp only [hc])
 | ((with_reducible first | refine leafR hQ ?_ | refine leafN hQ ?_); (try cases h); simp only [resL, oneD, Option.some.injEq, exists_eq_left', go_sem, hlt, hget, hpu, hinc, Int.reduceLE, ↓reduceIte, reduceCtorEq, Nat.reduceEqDiff, Nat.reduceLeDiff, Nat.reduceAdd, Nat.reduceMul, Nat.reduceSub, Nat.reduceLT]; repeat' (first | exact Ok.out | with_reducible refine And.intro ?_ ?_ | (simp; done)))
 | (cases h; replace h := hr; clear hr; (try simp only [bs, ↓reduceIte] at h))
 | (cases h; done))
  | cons c rest =>
    obtain ⟨hget, g2, hlt, g4⟩ := drop_cons h1
    have hpu : k < 4611686018427387904 := by omega
    have hc := isD_range (hd c (List.mem_of_getElem? hget))
    have w1 : IntKind.wrap .u8 ((c.toNat : Int) - 48) = (c.toNat : Int) - 48 := by rw [IntKind.wrap_u8]; omega
    have w2 : IntKind.wrap .i64 ((c.toNat : Int) - 48) = (c.toNat : Int) - 48 := wrap_ok (by omega) (by omega)
    have w3 : IntKind.wrap .i64 (9223372036854775807 - ((c.toNat : Int) - 48)) = 9223372036854775807 - ((c.toNat : Int) - 48) := wrap_ok (by omega) (by omega)
    have w4 : IntKind.wrap .i64 ((9223372036854775807 - ((c.toNat : Int) - 48)).tdiv 10) = (9223372036854775807 - ((c.toNat : Int) - 48)) / 10 := by
      rw [Int.tdiv_eq_ediv_of_nonneg (by omega)]; exact wrap_ok (by omega) (by omega)
    have t10 : ((10 : Int) = 0) = False := by simp
    simp only [worth] at h
    by_cases hn : n > (9223372036854775807 - ((c.toNat : Int) - 48)) / 10
    · have hn' : decide (n > (9223372036854775807 - ((c.toNat : Int) - 48)) / 10) = true := by simpa using hn
      rw [if_pos hn] at h
      repeat' (first
 | simp only [go_sem, hlt, hget, hpu, hinc, Int.reduceLE, ↓reduceIte, reduceCtorEq, Nat.reduceEqDiff, Nat.reduceLeDiff, Nat.reduceAdd, Nat.reduceMul, Nat.reduceSub, Nat.reduceLT, w1, w2, w3, w4, t10, hn']
 | (with_reducible first | refine CB_ofT (by assumption) fun hc => ?_ | refine CB_ofF (by assumption) fun hc => ?_ | refine CB_split (fun hc => ?_) fun hc => ?_) <;> (try simp only [hc, bs, ↓reduceIte] at h) <;> (try simp only [hc])
 | ((with_reducible first | refine leafR hQ ?_ | refine leafN hQ ?_); (try cases h); simp only [resL, oneD, Option.some.injEq, exists_eq_left', go_sem, hlt, hget, hpu, hinc, Int.reduceLE, ↓reduceIte, reduceCtorEq, Nat.reduceEqDiff, Nat.reduceLeDiff, Nat.reduceAdd, Nat.reduceMul, Nat.reduceSub, Nat.reduceLT, w1, w2, w3, w4, t10, hn']; repeat' (first | exact Ok.out | with_reducible refine And.intro ?_ ?_ | (simp; done)))
 | (cases h; replace h := hr; clear hr; (try simp only [bs, ↓reduceIte] at h))
 | (cases h; done))
    · have hn' : decide (n > (9223372036854775807 - ((c.toNat : Int) - 48)) / 10) = false := by simpa using hn
      rw [if_neg hn] at h
      have w5 : IntKind.wrap .i64 (n * 10) = n * 10 := wrap_ok (by omega) (by omega)
      have w6 : IntKind.wrap .i64 (n * 10 + ((c.toNat : Int) - 48)) = n * 10 + ((c.toNat : Int) - 48) := wrap_ok (by omega) (by omega)
      repeat' (first
 | simp only [go_sem, hlt, hget, hpu, hinc, Int.reduceLE, ↓reduceIte, reduceCtorEq, Nat.reduceEqDiff, Nat.reduceLeDiff, Nat.reduceAdd, Nat.reduceMul, Nat.reduceSub, Nat.reduceLT, w1, w2, w3, w4, t10, hn', w5, w6]
 | (with_reducible first | refine CB_ofT (by assumption) fun hc => ?_ | refine CB_ofF (by assumption) fun hc => ?_ | refine CB_split (fun hc => ?_) fun hc => ?_) <;> (try simp only [hc, bs, ↓reduceIte] at h) <;> (try simp only [hc])
 | ((with_reducible first | refine leafR hQ ?_ | refine leafN hQ ?_); (try cases h); simp only [resL, oneD, Option.some.injEq, exists_eq_left', go_sem, hlt, hget, hpu, hinc, Int.reduceLE, ↓reduceIte, reduceCtorEq, Nat.reduceEqDiff, Nat.reduceLeDiff, Nat.reduceAdd, Nat.reduceMul, Nat.reduceSub, Nat.reduceLT, w1, w2, w3, w4, t10, hn', w5, w6]; repeat' (first | exact Ok.out | with_reducible refine And.intro ?_ ?_ | (simp; done)))
 | (cases h; replace h := hr; clear hr; (try simp only [bs, ↓reduceIte] at h))
 | (cases h; done))
      refine SemL.re _ _ 0 0 (by rw [hB]; exact Nat.le_of_ble_eq_true rfl) (by rw [hB]; exact Nat.le_of_ble_eq_true rfl) ?_ ?_ (IH (rest, k + 1, n * 10 + ((c.toNat : Int) - 48)) ⟨g2, by dsimp only; omega, by dsimp only; omega, h⟩ (Nat.lt_succ_self _))
      · (simp only [go_sem, hlt, hget, hpu, hinc, Int.reduceLE, ↓reduceIte, reduceCtorEq, Nat.reduceEqDiff, Nat.reduceLeDiff, Nat.reduceAdd, Nat.reduceMul, Nat.reduceSub, Nat.reduceLT]; repeat' (first | exact Ok.out | with_reducible refine And.intro ?_ ?_))
      · (simp only [go_sem, hlt, hget, hpu, hinc, Int.reduceLE, ↓reduceIte, reduceCtorEq, Nat.reduceEqDiff, Nat.reduceLeDiff, Nat.reduceAdd, Nat.reduceMul, Nat.reduceSub, Nat.reduceLT]; repeat' (first | exact Ok.out | with_reducible refine And.intro ?_ ?_))

end Go.Abs
