/-
  What is proved here: part 2 of the road to the claim (Codes2, Have2, Codes3, Have3, Prs, Prs2, Ref1, Ref2, Ref3, MirTree, MirEq, RefEq).
  No conditions.
-/
import Derived.Test.YtecpopiacpckiaaPxA1
import Derived.Test.YtecpopiacpckiaaProg
import Derived.KernelRfl

/-! Codes2 -/

namespace Go.Abs

abbrev QL1 : AC := .run [(.op (some 2) none (.mv (.k (.bool false))))]
abbrev QL2 : AC := .run [(.op (some 3) none (.mv (.s 0)))]
abbrev QL3 : AC := .run [(.op (some 5) none (.bin .eql (.s 3) (.k (.str [103, 108, 111, 98, 97, 108])))), (.op (some 4) none (.mv (.s 5)))]
abbrev QL4 : AC := .run [(.op (some 6) none (.bin .eql (.s 3) (.k (.str [112, 114, 111, 99])))), (.op (some 4) none (.mv (.s 6)))]
abbrev QL5 : AC := .run [(.op (some 7) none (.bin .eql (.s 3) (.k (.str [118, 97, 114])))), (.op (some 4) none (.mv (.s 7)))]
abbrev QL6 : AC := .run [(.op (some 8) none (.bin .eql (.s 3) (.k (.str [114, 101, 102])))), (.op (some 4) none (.mv (.s 8)))]
abbrev QL7 : AC := .run [(.op (some 9) none (.bin .eql (.s 3) (.k (.str [105, 102])))), (.op (some 4) none (.mv (.s 9)))]
abbrev QL8 : AC := .run [(.op (some 10) none (.bin .eql (.s 3) (.k (.str [101, 108, 115, 101])))), (.op (some 4) none (.mv (.s 10)))]
abbrev QL9 : AC := .run [(.op (some 11) none (.bin .eql (.s 3) (.k (.str [119, 104, 105, 108, 101])))), (.op (some 4) none (.mv (.s 11)))]
abbrev QLA : AC := .run [(.op (some 12) none (.bin .eql (.s 3) (.k (.str [98, 114, 101, 97, 107])))), (.op (some 4) none (.mv (.s 12)))]
abbrev QLB : AC := .run [(.op (some 13) none (.bin .eql (.s 3) (.k (.str [99, 111, 110, 116, 105, 110, 117, 101])))), (.op (some 4) none (.mv (.s 13)))]
abbrev QLC : AC := .run [(.op (some 14) none (.bin .eql (.s 3) (.k (.str [114, 101, 116, 117, 114, 110])))), (.op (some 4) none (.mv (.s 14)))]
abbrev QLD : AC := .run [(.op (some 15) none (.bin .eql (.s 3) (.k (.str [103, 111, 116, 111])))), (.op (some 4) none (.mv (.s 15)))]
abbrev QLE : AC := .run [(.op (some 16) none (.bin .eql (.s 3) (.k (.str [114, 101, 97, 100])))), (.op (some 4) none (.mv (.s 16)))]
abbrev QLF : AC := .run [(.op (some 17) none (.bin .eql (.s 3) (.k (.str [112, 114, 105, 110, 116])))), (.op (some 4) none (.mv (.s 17)))]
abbrev QLG : AC := .cond (.s 4) .skip QLF
abbrev QLH : AC := .seq QLE QLG
abbrev QLI : AC := .cond (.s 4) .skip QLH
abbrev QLJ : AC := .seq QLD QLI
abbrev QLK : AC := .cond (.s 4) .skip QLJ
abbrev QLL : AC := .seq QLC QLK
abbrev QLM : AC := .cond (.s 4) .skip QLL
abbrev QLN : AC := .seq QLB QLM
abbrev QLO : AC := .cond (.s 4) .skip QLN
abbrev QLP : AC := .seq QLA QLO
abbrev QLQ : AC := .cond (.s 4) .skip QLP
abbrev QLR : AC := .seq QL9 QLQ
abbrev QLS : AC := .cond (.s 4) .skip QLR
abbrev QLT : AC := .seq QL8 QLS
abbrev QLU : AC := .cond (.s 4) .skip QLT
abbrev QLV : AC := .seq QL7 QLU
abbrev QLW : AC := .cond (.s 4) .skip QLV
abbrev QLX : AC := .seq QL6 QLW
abbrev QLY : AC := .cond (.s 4) .skip QLX
abbrev QLZ : AC := .seq QL5 QLY
abbrev QM0 : AC := .cond (.s 4) .skip QLZ
abbrev QM1 : AC := .seq QL4 QM0
abbrev QM2 : AC := .cond (.s 4) .skip QM1
abbrev QM3 : AC := .seq QL3 QM2
abbrev QM4 : AC := .run [(.op (some 2) none (.mv (.k (.bool true))))]
abbrev QM5 : AC := .seq QM4 .ret
abbrev QM6 : AC := .cond (.s 4) QM5 .skip
abbrev QM7 : AC := .seq QM3 QM6
abbrev QM8 : AC := .block 0 QM7
abbrev QM9 : AC := .seq QL2 QM8
abbrev QMA : AC := .run [(.op (some 2) none (.mv (.k (.bool false))))]
abbrev QMB : AC := .seq QMA .ret
abbrev QMC : AC := .seq QM9 QMB
abbrev QMD : AC := .seq QL1 QMC
abbrev QME : AC := .run [(.op (some 2) none (.mv (.k (.int .i64 0)))), (.op (some 3) none (.mv (.k (.bool false))))]
abbrev QMF : AC := .run [(.op (some 4) none (.mv (.k (.int .i64 0))))]
abbrev QMG : AC := .run [(.op (some 5) none (.mv (.k (.int .i64 0))))]
abbrev QMH : AC := .run [(.op (some 7) none (.mv (.s 5))), (.op (some 8) none (.mv (.s 0))), (.op (some 9) none (.slen (.s 8))), (.op (some 10) none (.bin .lss (.s 7) (.s 9)))]
abbrev QMI : AC := .cond (.s 10) .skip (.exit 0)
abbrev QMJ : AC := .seq QMH QMI
abbrev QMK : AC := .run [(.op (some 13) none (.mv (.s 0))), (.op (some 14) none (.mv (.s 5))), (.op (some 15) none (.sidx (.s 13) (.s 14))), (.op (some 16) none (.bin .sub (.s 15) (.k (.int .u8 48)))), (.op (some 17) none (.conv .i64 (.s 16))), (.op (some 6) none (.mv (.s 17)))]
abbrev QML : AC := .run [(.op (some 18) none (.mv (.s 4))), (.op (some 19) none (.mv (.s 6))), (.op (some 20) none (.bin .sub (.k (.int .i64 9223372036854775807)) (.s 19))), (.op (some 21) none (.bin .quo (.s 20) (.k (.int .i64 10)))), (.op (some 22) none (.bin .gtr (.s 18) (.s 21)))]
abbrev QMM : AC := .run [(.op (some 2) none (.mv (.k (.int .i64 0)))), (.op (some 3) none (.mv (.k (.bool false))))]
abbrev QMN : AC := .seq QMM .ret
abbrev QMO : AC := .cond (.s 22) QMN .skip
abbrev QMP : AC := .seq QML QMO
abbrev QMQ : AC := .run [(.op (some 23) none (.mv (.s 4))), (.op (some 24) none (.bin .mul (.s 23) (.k (.int .i64 10)))), (.op (some 25) none (.mv (.s 6))), (.op (some 26) none (.bin .add (.s 24) (.s 25))), (.op (some 4) none (.mv (.s 26)))]
abbrev QMR : AC := .seq QMP QMQ
abbrev QMS : AC := .seq QMK QMR
abbrev QMT : AC := .block 1 QMS
abbrev QMU : AC := .run [(.op (some 11) none (.mv (.s 5))), (.op (some 12) none (.bin .add (.s 11) (.k (.int .i64 1)))), (.op (some 5) none (.mv (.s 12)))]
abbrev QMV : AC := .seq QMT QMU
abbrev QMW : AC := .seq QMJ QMV
abbrev QMX : AC := .loop QMW
abbrev QMY : AC := .block 0 QMX
abbrev QMZ : AC := .seq QMG QMY
abbrev QN0 : AC := .run [(.op (some 27) none (.mv (.s 4))), (.op (some 2) none (.mv (.s 27))), (.op (some 3) none (.mv (.k (.bool true))))]
abbrev QN1 : AC := .seq QN0 .ret
abbrev QN2 : AC := .seq QMZ QN1
abbrev QN3 : AC := .seq QMF QN2
abbrev QN4 : AC := .seq QME QN3
abbrev QN5 : AC := .run [(.op (some 2) none (.box (.s 0))), (.op (some 4) none (.mv (.k (.int .i64 0))))]
abbrev QN6 : AC := .run [(.op (some 8) none (.mv (.s 1))), (.op (some 9) none (.bin .eql (.s 8) (.k (.int .i64 0))))]
abbrev QN7 : AC := .run [(.op (some 4) none (.mv (.k (.int .i64 1))))]
abbrev QN8 : AC := .seq QN7 .ret
abbrev QN9 : AC := .cond (.s 9) QN8 .skip
abbrev QNA : AC := .seq QN6 QN9
abbrev QNB : AC := .run [(.op (some 5) none (.mv (.k (.int .i64 0))))]
abbrev QNC : AC := .run [(.op (some 6) none (.mv (.k (.int .i64 0))))]
abbrev QND : AC := .run [(.op (some 10) none (.mv (.s 6))), (.op (some 11) none (.faddr (.s 2) 3)), (.op (some 12) none (.load (.s 11) false 1)), (.op (some 13) none (.len (.s 12))), (.op (some 14) none (.bin .lss (.s 10) (.s 13))), (.op (some 15) none (.mv (.s 14))), (.op (some 16) (some (15, true)) (.mv (.s 5))), (.op (some 17) (some (15, true)) (.mv (.s 1))), (.op (some 18) (some (15, true)) (.bin .lss (.s 16) (.s 17))), (.op (some 19) none (.pick (.s 15) (.s 18) (.k (.bool false))))]
abbrev QNE : AC := .cond (.s 19) .skip (.exit 0)
abbrev QNF : AC := .seq QND QNE
abbrev QNG : AC := .run [(.op (some 22) none (.faddr (.s 2) 3)), (.op (some 23) none (.load (.s 22) false 1)), (.op (some 24) none (.mv (.s 6))), (.op (some 25) none (.iaddr (.s 23) (.s 24) 4)), (.op (some 26) none (.load (.s 25) true 4)), (.op (some 27) none (.mv (.s 1))), (.op (some 28) none (.bin .sub (.s 27) (.k (.int .i64 1)))), (.call (some 29) none n_ref3_deep [(.s 26), (.s 28)]), (.op (some 7) none (.mv (.s 29)))]
abbrev QNH : AC := .run [(.op (some 30) none (.mv (.s 7))), (.op (some 31) none (.mv (.s 5))), (.op (some 32) none (.bin .gtr (.s 30) (.s 31)))]
abbrev QNI : AC := .run [(.op (some 33) none (.mv (.s 7))), (.op (some 5) none (.mv (.s 33)))]
abbrev QNJ : AC := .cond (.s 32) QNI .skip
abbrev QNK : AC := .seq QNH QNJ
abbrev QNL : AC := .seq QNG QNK
abbrev QNM : AC := .block 1 QNL
abbrev QNN : AC := .run [(.op (some 20) none (.mv (.s 6))), (.op (some 21) none (.bin .add (.s 20) (.k (.int .i64 1)))), (.op (some 6) none (.mv (.s 21)))]
abbrev QNO : AC := .seq QNM QNN
abbrev QNP : AC := .seq QNF QNO
abbrev QNQ : AC := .loop QNP
abbrev QNR : AC := .block 0 QNQ
abbrev QNS : AC := .seq QNC QNR
abbrev QNT : AC := .run [(.op (some 34) none (.mv (.s 5))), (.op (some 35) none (.bin .add (.s 34) (.k (.int .i64 1)))), (.op (some 4) none (.mv (.s 35)))]
abbrev QNU : AC := .seq QNT .ret
abbrev QNV : AC := .seq QNS QNU
abbrev QNW : AC := .seq QNB QNV
abbrev QNX : AC := .seq QNA QNW
abbrev QNY : AC := .seq QN5 QNX
abbrev QNZ : AC := .run [(.op (some 2) none (.alloc [(.int .i64 0), (.int .i64 0), (.str []), (.slice .full 0 [])]))]
abbrev QO0 : AC := .run [(.op (some 3) none (.mv (.s 0))), (.op (some 4) none (.build [(.int .i64 0), (.int .i64 0), (.str []), (.slice .full 0 [])] [(0, (1, (.k (.int .i64 2)))), (2, (1, (.s 3)))])), (.op none none (.store (.s 2) (.s 4) 4))]
abbrev QO1 : AC := .seq QO0 .ret
abbrev QO2 : AC := .seq QNZ QO1
abbrev QO3 : AC := .run [(.op (some 2) none (.mv (.k (.int .i64 0)))), (.op (some 3) none (.mv (.k (.int .i64 0))))]
abbrev QO4 : AC := .run [(.op (some 8) none (.bslice [(.str [])] 1 13 [(0, (.k (.str [42]))), (1, (.k (.str [47]))), (2, (.k (.str [37]))), (3, (.k (.str [43]))), (4, (.k (.str [45]))), (5, (.k (.str [60]))), (6, (.k (.str [60, 61]))), (7, (.k (.str [62]))), (8, (.k (.str [62, 61]))), (9, (.k (.str [61, 61]))), (10, (.k (.str [33, 61]))), (11, (.k (.str [38, 38]))), (12, (.k (.str [124, 124])))])), (.op (some 4) none (.mv (.s 8)))]
abbrev QO5 : AC := .run [(.op (some 9) none (.bslice [(.int .i64 0)] 1 13 [(0, (.k (.int .i64 6))), (1, (.k (.int .i64 6))), (2, (.k (.int .i64 6))), (3, (.k (.int .i64 5))), (4, (.k (.int .i64 5))), (5, (.k (.int .i64 4))), (6, (.k (.int .i64 4))), (7, (.k (.int .i64 4))), (8, (.k (.int .i64 4))), (9, (.k (.int .i64 3))), (10, (.k (.int .i64 3))), (11, (.k (.int .i64 2))), (12, (.k (.int .i64 1)))])), (.op (some 5) none (.mv (.s 9)))]
abbrev QO6 : AC := .run [(.op (some 10) none (.mv (.s 4))), (.op (some 11) none (.len (.s 10))), (.op (some 12) none (.mv (.k (.int .i64 0))))]
abbrev QO7 : AC := .run [(.op (some 13) none (.bin .lss (.s 12) (.s 11)))]
abbrev QO8 : AC := .cond (.s 13) .skip (.exit 0)
abbrev QO9 : AC := .run [(.op (some 14) none (.mv (.s 12))), (.op (some 15) none (.iaddr (.s 10) (.s 12) 1)), (.op (some 16) none (.load (.s 15) false 1)), (.op (some 6) none (.mv (.s 14))), (.op (some 7) none (.mv (.s 16)))]
abbrev QOA : AC := .run [(.op (some 17) none (.mv (.s 7))), (.op (some 18) none (.mv (.s 0))), (.op (some 19) none (.bin .eql (.s 17) (.s 18)))]
abbrev QOB : AC := .run [(.op (some 20) none (.mv (.s 5))), (.op (some 21) none (.mv (.s 6))), (.op (some 22) none (.iaddr (.s 20) (.s 21) 1)), (.op (some 23) none (.load (.s 22) false 1)), (.op (some 24) none (.mv (.s 6))), (.op (some 25) none (.bin .add (.k (.int .i64 5)) (.s 24))), (.op (some 2) none (.mv (.s 23))), (.op (some 3) none (.mv (.s 25)))]
abbrev QOC : AC := .seq QOB .ret
abbrev QOD : AC := .cond (.s 19) QOC .skip
abbrev QOE : AC := .seq QOA QOD
abbrev QOF : AC := .seq QO9 QOE
abbrev QOG : AC := .block 1 QOF
abbrev QOH : AC := .run [(.op (some 26) none (.bin .add (.s 12) (.k (.int .i64 1)))), (.op (some 12) none (.mv (.s 26)))]
abbrev QOI : AC := .seq QOG QOH
abbrev QOJ : AC := .seq QO8 QOI
abbrev QOK : AC := .seq QO7 QOJ
abbrev QOL : AC := .loop QOK
abbrev QOM : AC := .block 0 QOL
abbrev QON : AC := .seq QO6 QOM
abbrev QOO : AC := .run [(.op (some 2) none (.mv (.k (.int .i64 0)))), (.op (some 3) none (.mv (.k (.int .i64 0))))]
abbrev QOP : AC := .seq QOO .ret
abbrev QOQ : AC := .seq QON QOP
abbrev QOR : AC := .seq QO5 QOQ
abbrev QOS : AC := .seq QO4 QOR
abbrev QOT : AC := .seq QO3 QOS
abbrev QOU : AC := .run [(.op (some 4) none (.box (.s 1))), (.op (some 5) none (.box (.s 2))), (.op (some 6) none (.alloc [(.int .i64 0), (.int .i64 0), (.str []), (.slice .full 0 [])]))]
abbrev QOV : AC := .run [(.op (some 7) none (.mv (.s 0))), (.op (some 8) none (.load (.s 4) true 4)), (.op (some 9) none (.load (.s 5) true 4)), (.op (some 10) none (.bslice [(.int .i64 0), (.int .i64 0), (.str []), (.slice .full 0 [])] 4 2 [(0, (.s 8)), (1, (.s 9))])), (.op (some 11) none (.build [(.int .i64 0), (.int .i64 0), (.str []), (.slice .full 0 [])] [(0, (1, (.s 7))), (3, (1, (.s 10)))])), (.op none none (.store (.s 6) (.s 11) 4))]
abbrev QOW : AC := .seq QOV .ret
abbrev QOX : AC := .seq QOU QOW
abbrev QOY : AC := .run [(.op (some 2) none (.alloc [(.int .i64 0), (.int .i64 0), (.str []), (.slice .full 0 [])]))]
abbrev QOZ : AC := .run [(.op (some 3) none (.mv (.s 0))), (.op (some 4) none (.build [(.int .i64 0), (.int .i64 0), (.str []), (.slice .full 0 [])] [(0, (1, (.k (.int .i64 1)))), (1, (1, (.s 3)))])), (.op none none (.store (.s 2) (.s 4) 4))]
abbrev QP0 : AC := .seq QOZ .ret
abbrev QP1 : AC := .seq QOY QP0
abbrev QP2 : AC := .run [(.op (some 4) none (.mv (.k (.bool false))))]
abbrev QP3 : AC := .run [(.op (some 5) none (.mv (.s 0))), (.call (some 6) none n_parse_reader_good [(.s 5)]), (.op (some 7) none (.un .not (.s 6))), (.op (some 8) none (.mv (.s 7))), (.op (some 9) (some (8, false)) (.mv (.s 0))), (.op (some 10) (some (8, false)) (.mv (.s 1))), (.call (some 11) (some (8, false)) n_parse_reader_is [(.s 9), (.s 10)]), (.op (some 12) (some (8, false)) (.un .not (.s 11))), (.op (some 13) none (.pick (.s 8) (.k (.bool true)) (.s 12)))]
abbrev QP4 : AC := .run [(.op (some 4) none (.mv (.k (.bool false))))]
abbrev QP5 : AC := .seq QP4 .ret
abbrev QP6 : AC := .cond (.s 13) QP5 .skip
abbrev QP7 : AC := .seq QP3 QP6
abbrev QP8 : AC := .run [(.op (some 14) none (.mv (.s 0))), (.op (some 15) none (.nilck (.s 14))), (.op (some 16) none (.faddr (.s 15) 1)), (.op (some 17) none (.load (.s 16) false 1)), (.op (some 18) none (.bin .add (.s 17) (.k (.int .i64 1)))), (.op (some 19) none (.nilck (.s 14))), (.op (some 20) none (.faddr (.s 19) 1)), (.op none none (.store (.s 20) (.s 18) 1))]
abbrev QP9 : AC := .run [(.op (some 4) none (.mv (.k (.bool true))))]
abbrev QPA : AC := .seq QP9 .ret
abbrev QPB : AC := .seq QP8 QPA
abbrev QPC : AC := .seq QP7 QPB
abbrev QPD : AC := .seq QP2 QPC
abbrev QPE : AC := .run [(.op (some 6) none (.mv (.k (.slice .full 0 []))))]
abbrev QPF : AC := .run [(.op (some 7) none (.mv (.s 0))), (.call (some 8) none n_parse_reader_good [(.s 7)])]
abbrev QPG : AC := .cond (.s 8) .skip (.exit 0)
abbrev QPH : AC := .seq QPF QPG
abbrev QPI : AC := .run [(.op (some 9) none (.mv (.s 1))), (.op (some 10) none (.mv (.s 0))), (.op (some 11) none (.mv (.s 1))), (.op (some 12) none (.len (.s 11))), (.op (some 13) none (.mv (.s 2))), (.op (some 14) none (.bin .lss (.s 12) (.s 13))), (.call (some 15) none n_parse_reader_name [(.s 10), (.s 14)]), (.op (some 16) none (.bslice [(.str [])] 1 1 [(0, (.s 15))])), (.op (some 17) none (.app 1 16 (.s 9) (.s 16))), (.op (some 1) none (.mv (.s 17)))]
abbrev QPJ : AC := .run [(.op (some 18) none (.mv (.s 0))), (.call (some 19) none n_parse_reader_take [(.s 18), (.k (.str [44]))]), (.op (some 20) none (.un .not (.s 19)))]
abbrev QPK : AC := .run [(.op (some 21) none (.mv (.s 0))), (.call (some 22) none n_parse_reader_want [(.s 21), (.k (.str [59]))])]
abbrev QPL : AC := .run [(.op (some 23) none (.mv (.s 1))), (.op (some 6) none (.mv (.s 23)))]
abbrev QPM : AC := .seq QPL .ret
abbrev QPN : AC := .seq QPK QPM
abbrev QPO : AC := .cond (.s 20) QPN .skip
abbrev QPP : AC := .seq QPJ QPO
abbrev QPQ : AC := .seq QPI QPP
abbrev QPR : AC := .block 1 QPQ
abbrev QPS : AC := .seq QPH QPR
abbrev QPT : AC := .loop QPS
abbrev QPU : AC := .block 0 QPT
abbrev QPV : AC := .run [(.op (some 24) none (.mv (.s 1))), (.op (some 6) none (.mv (.s 24)))]
abbrev QPW : AC := .seq QPV .ret
abbrev QPX : AC := .seq QPU QPW
abbrev QPY : AC := .seq QPE QPX
abbrev QPZ : AC := .run [(.op (some 4) none (.mv (.k (.bool false))))]
abbrev QQ0 : AC := .run [(.op (some 6) none (.mv (.s 0))), (.call (some 7) none n_parse_reader_peek [(.s 6)]), (.op (some 5) none (.alloc [(.int .i64 0), (.str []), (.int .i64 0), (.int .i64 0)])), (.op none none (.store (.s 5) (.s 7) 4))]
abbrev QQ1 : AC := .run [(.op (some 8) none (.faddr (.s 5) 0)), (.op (some 9) none (.load (.s 8) false 1)), (.op (some 10) none (.bin .eql (.s 9) (.k (.int .i64 3)))), (.op (some 11) none (.mv (.s 10))), (.op (some 12) (some (11, false)) (.faddr (.s 5) 0)), (.op (some 13) (some (11, false)) (.load (.s 12) false 1)), (.op (some 14) (some (11, false)) (.bin .eql (.s 13) (.k (.int .i64 4)))), (.op (some 15) none (.pick (.s 11) (.k (.bool true)) (.s 14))), (.op (some 16) none (.mv (.s 15))), (.op (some 17) (some (16, true)) (.faddr (.s 5) 1)), (.op (some 18) (some (16, true)) (.load (.s 17) false 1)), (.op (some 19) (some (16, true)) (.mv (.s 1))), (.op (some 20) (some (16, true)) (.bin .eql (.s 18) (.s 19))), (.op (some 21) none (.pick (.s 16) (.s 20) (.k (.bool false)))), (.op (some 4) none (.mv (.s 21)))]
abbrev QQ2 : AC := .seq QQ1 .ret
abbrev QQ3 : AC := .seq QQ0 QQ2
abbrev QQ4 : AC := .seq QPZ QQ3
abbrev QQ5 : AC := .run [(.op (some 2) none (.alloc [(.str []), (.slice .full 0 []), (.slice .full 0 []), (.slice .full 0 []), (.slice .full 0 [])]))]
abbrev QQ6 : AC := .run [(.op (some 5) none (.mv (.s 0))), (.call (some 6) none n_parse_reader_name [(.s 5), (.k (.bool true))]), (.op (some 7) none (.build [(.str []), (.slice .full 0 []), (.slice .full 0 []), (.slice .full 0 []), (.slice .full 0 [])] [(0, (1, (.s 6)))])), (.op (some 3) none (.alloc [(.str []), (.slice .full 0 []), (.slice .full 0 []), (.slice .full 0 []), (.slice .full 0 [])])), (.op none none (.store (.s 3) (.s 7) 5))]
abbrev QQ7 : AC := .run [(.op (some 8) none (.mv (.s 0))), (.call (some 9) none n_parse_reader_want [(.s 8), (.k (.str [40]))])]
abbrev QQ8 : AC := .run [(.op (some 10) none (.mv (.s 0))), (.call (some 11) none n_parse_reader_good [(.s 10)]), (.op (some 12) none (.mv (.s 11))), (.op (some 13) (some (12, true)) (.mv (.s 0))), (.call (some 14) (some (12, true)) n_parse_reader_is [(.s 13), (.k (.str [41]))]), (.op (some 15) (some (12, true)) (.un .not (.s 14))), (.op (some 16) none (.pick (.s 12) (.s 15) (.k (.bool false))))]
abbrev QQ9 : AC := .run [(.op (some 17) none (.mv (.s 0))), (.call (some 18) none n_parse_reader_good [(.s 17)])]
abbrev QQA : AC := .cond (.s 18) .skip (.exit 0)
abbrev QQB : AC := .seq QQ9 QQA
abbrev QQC : AC := .run [(.op (some 19) none (.mv (.s 0))), (.call (some 20) none n_parse_reader_take [(.s 19), (.k (.str [114, 101, 102]))]), (.op (some 4) none (.mv (.s 20)))]
abbrev QQD : AC := .par [(.op (some 21) none (.faddr (.s 3) 1)), (.op (some 22) none (.load (.s 21) false 1)), (.op (some 23) none (.mv (.s 0))), (.op (some 24) none (.faddr (.s 3) 1)), (.op (some 25) none (.load (.s 24) false 1)), (.op (some 26) none (.len (.s 25))), (.op (some 27) none (.bin .lss (.s 26) (.k (.int .i64 8)))), (.call (some 28) none n_parse_reader_name [(.s 23), (.s 27)]), (.op (some 29) none (.mv (.s 4))), (.op (some 30) none (.build [(.str []), (.bool false)] [(0, (1, (.s 28))), (1, (1, (.s 29)))])), (.op (some 31) none (.bslice [(.str []), (.bool false)] 2 1 [(0, (.s 30))])), (.op (some 32) none (.app 2 24 (.s 22) (.s 31))), (.op (some 33) none (.faddr (.s 3) 1)), (.op none none (.store (.s 33) (.s 32) 1))] [(2, 0), (3, 0), (4, 0), (5, 0), (6, 0), (7, 0), (0, 0), (1, 1), (8, 0), (9, 0), (10, 0), (11, 0), (12, 0), (13, 0)]
abbrev QQE : AC := .run [(.op (some 34) none (.mv (.s 0))), (.call (some 35) none n_parse_reader_take [(.s 34), (.k (.str [44]))]), (.op (some 36) none (.un .not (.s 35)))]
abbrev QQF : AC := .cond (.s 36) (.exit 0) .skip
abbrev QQG : AC := .seq QQE QQF
abbrev QQH : AC := .seq QQD QQG
abbrev QQI : AC := .seq QQC QQH
abbrev QQJ : AC := .block 1 QQI
abbrev QQK : AC := .seq QQB QQJ
abbrev QQL : AC := .loop QQK
abbrev QQM : AC := .block 0 QQL
abbrev QQN : AC := .cond (.s 16) QQM .skip
abbrev QQO : AC := .seq QQ8 QQN
abbrev QQP : AC := .run [(.op (some 37) none (.mv (.s 0))), (.call (some 38) none n_parse_reader_want [(.s 37), (.k (.str [41]))])]
abbrev QQQ : AC := .run [(.op (some 39) none (.mv (.s 0))), (.call (some 40) none n_parse_reader_want [(.s 39), (.k (.str [123]))])]
abbrev QQR : AC := .run [(.op (some 41) none (.mv (.s 0))), (.call (some 42) none n_parse_reader_take [(.s 41), (.k (.str [118, 97, 114]))])]
abbrev QQS : AC := .cond (.s 42) .skip (.exit 2)
abbrev QQT : AC := .seq QQR QQS
abbrev QQU : AC := .run [(.op (some 43) none (.mv (.s 0))), (.op (some 44) none (.faddr (.s 3) 2)), (.op (some 45) none (.load (.s 44) false 1)), (.call (some 46) none n_parse_reader_names [(.s 43), (.s 45), (.k (.int .i64 16))]), (.op (some 47) none (.faddr (.s 3) 2)), (.op none none (.store (.s 47) (.s 46) 1))]
abbrev QQV : AC := .block 3 QQU
abbrev QQW : AC := .seq QQT QQV
abbrev QQX : AC := .loop QQW
abbrev QQY : AC := .block 2 QQX
abbrev QQZ : AC := .run [(.op (some 49) none (.mv (.s 0))), (.call (some 50) none n_parse_reader_rows [(.s 49), (.k (.int .i64 1)), (.k (.bool true))]), (.op (some 48) none (.mv (.s 50))), (.op (some 51) none (.ext (.s 48) 0)), (.op (some 52) none (.ext (.s 48) 1)), (.op (some 53) none (.faddr (.s 3) 3)), (.op none none (.store (.s 53) (.s 51) 1)), (.op (some 54) none (.faddr (.s 3) 4)), (.op none none (.store (.s 54) (.s 52) 1))]
abbrev QR0 : AC := .run [(.op (some 55) none (.load (.s 3) true 5)), (.op none none (.store (.s 2) (.s 55) 5))]
abbrev QR1 : AC := .seq QR0 .ret
abbrev QR2 : AC := .seq QQZ QR1
abbrev QR3 : AC := .seq QQY QR2
abbrev QR4 : AC := .seq QQQ QR3
abbrev QR5 : AC := .seq QQP QR4
abbrev QR6 : AC := .seq QQO QR5
abbrev QR7 : AC := .seq QQ7 QR6
abbrev QR8 : AC := .seq QQ6 QR7
abbrev QR9 : AC := .seq QQ5 QR8
abbrev QRA : AC := .run [(.op (some 2) none (.mv (.k (.slice .full 0 []))))]
abbrev QRB : AC := .run [(.op (some 3) none (.mv (.s 0))), (.nil (some 4) none false (.s 3))]
abbrev QRC : AC := .run [(.op (some 2) none (.mv (.k (.slice .full 0 []))))]
abbrev QRD : AC := .seq QRC .ret
abbrev QRE : AC := .cond (.s 4) QRD .skip
abbrev QRF : AC := .seq QRB QRE
abbrev QRG : AC := .run [(.op (some 5) none (.bslice [(.str [])] 1 0 [])), (.op (some 6) none (.mv (.s 0))), (.op (some 7) none (.app 1 16 (.s 5) (.s 6))), (.op (some 2) none (.mv (.s 7)))]
abbrev QRH : AC := .seq QRG .ret
abbrev QRI : AC := .seq QRF QRH
abbrev QRJ : AC := .seq QRA QRI
abbrev QRK : AC := .run [(.op (some 2) none (.mv (.k (.slice .full 0 []))))]
abbrev QRL : AC := .run [(.op (some 3) none (.mv (.s 0))), (.nil (some 4) none false (.s 3))]
abbrev QRM : AC := .run [(.op (some 2) none (.mv (.k (.slice .full 0 []))))]
abbrev QRN : AC := .seq QRM .ret
abbrev QRO : AC := .cond (.s 4) QRN .skip
abbrev QRP : AC := .seq QRL QRO
abbrev QRQ : AC := .run [(.op (some 5) none (.bslice [(.str []), (.bool false)] 2 0 [])), (.op (some 6) none (.mv (.s 0))), (.op (some 7) none (.app 2 24 (.s 5) (.s 6))), (.op (some 2) none (.mv (.s 7)))]
abbrev QRR : AC := .seq QRQ .ret
abbrev QRS : AC := .seq QRP QRR
abbrev QRT : AC := .seq QRK QRS
abbrev QRU : AC := .run [(.op (some 6) none (.mv (.k (.slice .full 0 [])))), (.op (some 7) none (.mv (.k (.int .i64 0))))]
abbrev QRV : AC := .run [(.op (some 8) none (.mv (.k (.slice .full 0 []))))]
abbrev QRW : AC := .run [(.op (some 14) none (.mv (.s 0))), (.op (some 15) none (.len (.s 14))), (.op (some 16) none (.mv (.k (.int .i64 0))))]
abbrev QRX : AC := .run [(.op (some 17) none (.bin .lss (.s 16) (.s 15)))]
abbrev QRY : AC := .cond (.s 17) .skip (.exit 0)
abbrev QRZ : AC := .run [(.op (some 18) none (.iaddr (.s 14) (.s 16) 13)), (.op (some 19) none (.load (.s 18) true 13)), (.op (some 10) none (.alloc [(.int .i64 0), (.int .i64 0), (.slice .full 0 []), (.str []), (.str []), (.int .i64 0), (.int .i64 0), (.str []), (.slice .full 0 []), (.bool false), (.slice .full 0 []), (.slice .full 0 []), (.slice .full 0 [])])), (.op none none (.store (.s 10) (.s 19) 13))]
abbrev QS0 : AC := .run [(.op (some 20) none (.mv (.s 1))), (.op (some 21) none (.bin .add (.s 20) (.k (.int .i64 1)))), (.op (some 1) none (.mv (.s 21)))]
abbrev QS1 : AC := .run [(.op (some 22) none (.load (.s 10) true 13)), (.op (some 11) none (.alloc [(.int .i64 0), (.int .i64 0), (.slice .full 0 []), (.str []), (.str []), (.int .i64 0), (.int .i64 0), (.str []), (.slice .full 0 []), (.bool false), (.slice .full 0 []), (.slice .full 0 []), (.slice .full 0 [])])), (.op none none (.store (.s 11) (.s 22) 13))]
abbrev QS2 : AC := .run [(.op (some 23) none (.mv (.s 2)))]
abbrev QS3 : AC := .run [(.op (some 24) none (.mv (.s 1))), (.op (some 25) none (.faddr (.s 11) 0)), (.op none none (.store (.s 25) (.s 24) 1))]
abbrev QS4 : AC := .cond (.s 23) QS3 .skip
abbrev QS5 : AC := .seq QS2 QS4
abbrev QS6 : AC := .par [(.op (some 26) none (.faddr (.s 10) 2)), (.op (some 27) none (.load (.s 26) false 1)), (.call (some 28) none n_slices_Clone_string [(.s 27)]), (.op (some 29) none (.faddr (.s 10) 5)), (.op (some 30) none (.load (.s 29) true 4)), (.call (some 31) none n_tree_expr [(.s 30)]), (.op (some 32) none (.faddr (.s 11) 2)), (.op none none (.store (.s 32) (.s 28) 1)), (.op (some 33) none (.faddr (.s 11) 5)), (.op none none (.store (.s 33) (.s 31) 4)), (.op (some 34) none (.faddr (.s 11) 10)), (.op none none (.store (.s 34) (.k (.slice .full 0 [])) 1))] [(0, 0), (1, 0), (2, 0), (3, 0), (4, 1), (5, 0), (6, 0), (7, 0), (8, 0), (9, 0), (10, 0), (11, 0)]
abbrev QS7 : AC := .run [(.op (some 35) none (.faddr (.s 10) 10)), (.op (some 36) none (.load (.s 35) false 1)), (.op (some 37) none (.len (.s 36))), (.op (some 38) none (.mv (.k (.int .i64 0))))]
abbrev QS8 : AC := .run [(.op (some 39) none (.bin .lss (.s 38) (.s 37)))]
abbrev QS9 : AC := .cond (.s 39) .skip (.exit 2)
abbrev QSA : AC := .run [(.op (some 40) none (.iaddr (.s 36) (.s 38) 6)), (.op (some 41) none (.load (.s 40) true 6)), (.op (some 13) none (.alloc [(.bool false), (.str []), (.int .i64 0), (.int .i64 0), (.str []), (.slice .full 0 [])])), (.op none none (.store (.s 13) (.s 41) 6))]
abbrev QSB : AC := .run [(.op (some 42) none (.faddr (.s 13) 2)), (.op (some 43) none (.load (.s 42) true 4)), (.call (some 44) none n_tree_expr [(.s 43)]), (.op (some 45) none (.faddr (.s 13) 2)), (.op none none (.store (.s 45) (.s 44) 4))]
abbrev QSC : AC := .run [(.op (some 46) none (.faddr (.s 11) 10)), (.op (some 47) none (.load (.s 46) false 1)), (.op (some 48) none (.load (.s 13) true 6)), (.op (some 49) none (.bslice [(.bool false), (.str []), (.int .i64 0), (.int .i64 0), (.str []), (.slice .full 0 [])] 6 1 [(0, (.s 48))])), (.op (some 50) none (.app 6 80 (.s 47) (.s 49))), (.op (some 51) none (.faddr (.s 11) 10)), (.op none none (.store (.s 51) (.s 50) 1))]
abbrev QSD : AC := .seq QSB QSC
abbrev QSE : AC := .seq QSA QSD
abbrev QSF : AC := .block 3 QSE
abbrev QSG : AC := .run [(.op (some 52) none (.bin .add (.s 38) (.k (.int .i64 1)))), (.op (some 38) none (.mv (.s 52)))]
abbrev QSH : AC := .seq QSF QSG
abbrev QSI : AC := .seq QS9 QSH
abbrev QSJ : AC := .seq QS8 QSI
abbrev QSK : AC := .loop QSJ
abbrev QSL : AC := .block 2 QSK
abbrev QSM : AC := .seq QS7 QSL
abbrev QSN : AC := .run [(.op (some 54) none (.faddr (.s 10) 11)), (.op (some 55) none (.load (.s 54) false 1)), (.op (some 56) none (.mv (.s 1))), (.op (some 57) none (.mv (.s 2))), (.call (some 58) none n_tree_copied [(.s 55), (.s 56), (.s 57)]), (.op (some 53) none (.mv (.s 58))), (.op (some 59) none (.ext (.s 53) 0)), (.op (some 60) none (.ext (.s 53) 1)), (.op (some 61) none (.faddr (.s 11) 11)), (.op none none (.store (.s 61) (.s 59) 1)), (.op (some 1) none (.mv (.s 60)))]
abbrev QSO : AC := .run [(.op (some 63) none (.faddr (.s 10) 12)), (.op (some 64) none (.load (.s 63) false 1)), (.op (some 65) none (.mv (.s 1))), (.op (some 66) none (.mv (.s 2))), (.call (some 67) none n_tree_copied [(.s 64), (.s 65), (.s 66)]), (.op (some 62) none (.mv (.s 67))), (.op (some 68) none (.ext (.s 62) 0)), (.op (some 69) none (.ext (.s 62) 1)), (.op (some 70) none (.faddr (.s 11) 12)), (.op none none (.store (.s 70) (.s 68) 1)), (.op (some 1) none (.mv (.s 69)))]
abbrev QSP : AC := .run [(.op (some 71) none (.mv (.s 8))), (.op (some 72) none (.load (.s 11) true 13)), (.op (some 73) none (.bslice [(.int .i64 0), (.int .i64 0), (.slice .full 0 []), (.str []), (.str []), (.int .i64 0), (.int .i64 0), (.str []), (.slice .full 0 []), (.bool false), (.slice .full 0 []), (.slice .full 0 []), (.slice .full 0 [])] 13 1 [(0, (.s 72))])), (.op (some 74) none (.app 13 208 (.s 71) (.s 73))), (.op (some 8) none (.mv (.s 74)))]
abbrev QSQ : AC := .seq QSO QSP
abbrev QSR : AC := .seq QSN QSQ
abbrev QSS : AC := .seq QSM QSR
abbrev QST : AC := .seq QS6 QSS
abbrev QSU : AC := .seq QS5 QST
abbrev QSV : AC := .seq QS1 QSU
abbrev QSW : AC := .seq QS0 QSV
abbrev QSX : AC := .seq QRZ QSW
abbrev QSY : AC := .block 1 QSX
abbrev QSZ : AC := .run [(.op (some 75) none (.bin .add (.s 16) (.k (.int .i64 1)))), (.op (some 16) none (.mv (.s 75)))]
abbrev QT0 : AC := .seq QSY QSZ
abbrev QT1 : AC := .seq QRY QT0
abbrev QT2 : AC := .seq QRX QT1
abbrev QT3 : AC := .loop QT2
abbrev QT4 : AC := .block 0 QT3
abbrev QT5 : AC := .seq QRW QT4
abbrev QT6 : AC := .run [(.op (some 76) none (.mv (.s 8))), (.op (some 77) none (.mv (.s 1))), (.op (some 6) none (.mv (.s 76))), (.op (some 7) none (.mv (.s 77)))]
abbrev QT7 : AC := .seq QT6 .ret
abbrev QT8 : AC := .seq QT5 QT7
abbrev QT9 : AC := .seq QRV QT8
abbrev QTA : AC := .seq QRU QT9
abbrev QTB : AC := .run [(.op (some 2) none (.mv (.k (.bool false))))]
abbrev QTC : AC := .run [(.op (some 3) none (.mv (.s 0))), (.op (some 4) none (.bin .eql (.s 3) (.k (.int .u8 32)))), (.op (some 5) none (.mv (.s 4))), (.op (some 6) (some (5, false)) (.mv (.s 0))), (.op (some 7) (some (5, false)) (.bin .eql (.s 6) (.k (.int .u8 9)))), (.op (some 8) none (.pick (.s 5) (.k (.bool true)) (.s 7))), (.op (some 9) none (.mv (.s 8))), (.op (some 10) (some (9, false)) (.mv (.s 0))), (.op (some 11) (some (9, false)) (.bin .eql (.s 10) (.k (.int .u8 10)))), (.op (some 12) none (.pick (.s 9) (.k (.bool true)) (.s 11))), (.op (some 13) none (.mv (.s 12))), (.op (some 14) (some (13, false)) (.mv (.s 0))), (.op (some 15) (some (13, false)) (.bin .eql (.s 14) (.k (.int .u8 13)))), (.op (some 16) none (.pick (.s 13) (.k (.bool true)) (.s 15))), (.op (some 2) none (.mv (.s 16)))]
abbrev QTD : AC := .seq QTC .ret
abbrev QTE : AC := .seq QTB QTD
abbrev QTF : AC := .run [(.op (some 4) none (.alloc [(.int .i64 0), (.str []), (.int .i64 0), (.int .i64 0)])), (.op (some 5) none (.mv (.k (.int .i64 0))))]
abbrev QTG : AC := .run [(.op (some 12) none (.mv (.s 0))), (.op (some 13) none (.sidx (.s 12) (.k (.int .i64 0)))), (.call (some 14) none n_ref1_small [(.s 13)]), (.op (some 11) none (.mv (.s 14)))]
abbrev QTH : AC := .run [(.op (some 15) none (.mv (.s 0))), (.op (some 16) none (.mv (.s 0))), (.call (some 17) none n_ref1_from [(.s 16), (.k (.bool true))]), (.op (some 18) none (.sslc (.s 15) none (some (.s 17)))), (.op (some 6) none (.mv (.s 18)))]
abbrev QTI : AC := .run [(.op (some 19) none (.mv (.s 6))), (.call (some 20) none n_ref1_Word [(.s 19)])]
abbrev QTJ : AC := .run [(.op (some 21) none (.mv (.s 6))), (.op (some 22) none (.mv (.s 1))), (.op (some 23) none (.build [(.int .i64 0), (.str []), (.int .i64 0), (.int .i64 0)] [(0, (1, (.k (.int .i64 3)))), (1, (1, (.s 21))), (3, (1, (.s 22)))])), (.op none none (.store (.s 4) (.s 23) 4)), (.op (some 5) none (.mv (.k (.int .i64 0))))]
abbrev QTK : AC := .seq QTJ .ret
abbrev QTL : AC := .cond (.s 20) QTK .skip
abbrev QTM : AC := .seq QTI QTL
abbrev QTN : AC := .run [(.op (some 24) none (.mv (.s 6))), (.op (some 25) none (.slen (.s 24))), (.op (some 26) none (.bin .gtr (.s 25) (.k (.int .i64 8))))]
abbrev QTO : AC := .run [(.op (some 27) none (.build [(.int .i64 0), (.str []), (.int .i64 0), (.int .i64 0)] [])), (.op none none (.store (.s 4) (.s 27) 4)), (.op (some 5) none (.mv (.k (.int .i64 4))))]
abbrev QTP : AC := .seq QTO .ret
abbrev QTQ : AC := .cond (.s 26) QTP .skip
abbrev QTR : AC := .seq QTN QTQ
abbrev QTS : AC := .run [(.op (some 28) none (.mv (.s 6))), (.op (some 29) none (.mv (.s 1))), (.op (some 30) none (.build [(.int .i64 0), (.str []), (.int .i64 0), (.int .i64 0)] [(0, (1, (.k (.int .i64 1)))), (1, (1, (.s 28))), (3, (1, (.s 29)))])), (.op none none (.store (.s 4) (.s 30) 4)), (.op (some 5) none (.mv (.k (.int .i64 0))))]
abbrev QTT : AC := .seq QTS .ret
abbrev QTU : AC := .seq QTR QTT
abbrev QTV : AC := .seq QTM QTU
abbrev QTW : AC := .seq QTH QTV
abbrev QTX : AC := .run [(.op (some 32) none (.mv (.s 0))), (.op (some 33) none (.sidx (.s 32) (.k (.int .i64 0)))), (.call (some 34) none n_ref1_digit [(.s 33)]), (.op (some 31) none (.mv (.s 34)))]
abbrev QTY : AC := .run [(.op (some 35) none (.mv (.s 0))), (.op (some 36) none (.mv (.s 0))), (.call (some 37) none n_ref1_from [(.s 36), (.k (.bool false))]), (.op (some 38) none (.sslc (.s 35) none (some (.s 37)))), (.op (some 7) none (.mv (.s 38)))]
abbrev QTZ : AC := .run [(.op (some 39) none (.mv (.s 7))), (.op (some 40) none (.slen (.s 39))), (.op (some 41) none (.bin .gtr (.s 40) (.k (.int .i64 1)))), (.op (some 42) none (.mv (.s 41))), (.op (some 43) (some (42, true)) (.mv (.s 7))), (.op (some 44) (some (42, true)) (.sidx (.s 43) (.k (.int .i64 0)))), (.op (some 45) (some (42, true)) (.bin .eql (.s 44) (.k (.int .u8 48)))), (.op (some 46) none (.pick (.s 42) (.s 45) (.k (.bool false))))]
abbrev QU0 : AC := .run [(.op (some 47) none (.build [(.int .i64 0), (.str []), (.int .i64 0), (.int .i64 0)] [])), (.op none none (.store (.s 4) (.s 47) 4)), (.op (some 5) none (.mv (.k (.int .i64 2))))]
abbrev QU1 : AC := .seq QU0 .ret
abbrev QU2 : AC := .cond (.s 46) QU1 .skip
abbrev QU3 : AC := .seq QTZ QU2
abbrev QU4 : AC := .run [(.op (some 49) none (.mv (.s 7))), (.call (some 50) none n_ref1_Worth [(.s 49)]), (.op (some 48) none (.mv (.s 50))), (.op (some 51) none (.ext (.s 48) 0)), (.op (some 52) none (.ext (.s 48) 1)), (.op (some 8) none (.mv (.s 51))), (.op (some 9) none (.mv (.s 52)))]
abbrev QU5 : AC := .run [(.op (some 53) none (.mv (.s 9))), (.op (some 54) none (.un .not (.s 53)))]
abbrev QU6 : AC := .run [(.op (some 55) none (.build [(.int .i64 0), (.str []), (.int .i64 0), (.int .i64 0)] [])), (.op none none (.store (.s 4) (.s 55) 4)), (.op (some 5) none (.mv (.k (.int .i64 4))))]
abbrev QU7 : AC := .seq QU6 .ret
abbrev QU8 : AC := .cond (.s 54) QU7 .skip
abbrev QU9 : AC := .seq QU5 QU8
abbrev QUA : AC := .run [(.op (some 56) none (.mv (.s 7))), (.op (some 57) none (.mv (.s 8))), (.op (some 58) none (.mv (.s 1))), (.op (some 59) none (.build [(.int .i64 0), (.str []), (.int .i64 0), (.int .i64 0)] [(0, (1, (.k (.int .i64 2)))), (1, (1, (.s 56))), (2, (1, (.s 57))), (3, (1, (.s 58)))])), (.op none none (.store (.s 4) (.s 59) 4)), (.op (some 5) none (.mv (.k (.int .i64 0))))]
abbrev QUB : AC := .seq QUA .ret
abbrev QUC : AC := .seq QU9 QUB
abbrev QUD : AC := .seq QU4 QUC
abbrev QUE : AC := .seq QU3 QUD
abbrev QUF : AC := .seq QTY QUE
abbrev QUG : AC := .cond (.s 31) QUF .skip
abbrev QUH : AC := .seq QTX QUG
abbrev QUI : AC := .cond (.s 11) QTW QUH
abbrev QUJ : AC := .seq QTG QUI
abbrev QUK : AC := .block 0 QUJ
abbrev QUL : AC := .run [(.op (some 60) none (.mv (.s 0))), (.call (some 61) none n_ref1_sign [(.s 60)]), (.op (some 10) none (.mv (.s 61)))]
abbrev QUM : AC := .run [(.op (some 62) none (.mv (.s 10))), (.op (some 63) none (.bin .eql (.s 62) (.k (.int .i64 0))))]
abbrev QUN : AC := .run [(.op (some 64) none (.build [(.int .i64 0), (.str []), (.int .i64 0), (.int .i64 0)] [])), (.op none none (.store (.s 4) (.s 64) 4)), (.op (some 5) none (.mv (.k (.int .i64 2))))]
abbrev QUO : AC := .seq QUN .ret
abbrev QUP : AC := .cond (.s 63) QUO .skip
abbrev QUQ : AC := .seq QUM QUP
abbrev QUR : AC := .run [(.op (some 65) none (.mv (.s 0))), (.op (some 66) none (.mv (.s 10))), (.op (some 67) none (.sslc (.s 65) none (some (.s 66)))), (.op (some 68) none (.mv (.s 1))), (.op (some 69) none (.build [(.int .i64 0), (.str []), (.int .i64 0), (.int .i64 0)] [(0, (1, (.k (.int .i64 4)))), (1, (1, (.s 67))), (3, (1, (.s 68)))])), (.op none none (.store (.s 4) (.s 69) 4)), (.op (some 5) none (.mv (.k (.int .i64 0))))]
abbrev QUS : AC := .seq QUR .ret
abbrev QUT : AC := .seq QUQ QUS
abbrev QUU : AC := .seq QUL QUT
abbrev QUV : AC := .seq QUK QUU
abbrev QUW : AC := .seq QTF QUV
abbrev QUX : AC := .run [(.op (some 4) none (.mv (.k (.str []))))]
abbrev QUY : AC := .run [(.op (some 6) none (.mv (.s 0))), (.call (some 7) none n_ref3_P_ok [(.s 6)]), (.op (some 8) none (.un .not (.s 7)))]
abbrev QUZ : AC := .run [(.op (some 4) none (.mv (.k (.str []))))]
abbrev QV0 : AC := .seq QUZ .ret
abbrev QV1 : AC := .cond (.s 8) QV0 .skip
abbrev QV2 : AC := .seq QUY QV1
abbrev QV3 : AC := .par [(.op (some 9) none (.mv (.s 0))), (.op (some 10) none (.nilck (.s 9))), (.op (some 11) none (.faddr (.s 10) 0)), (.op (some 12) none (.load (.s 11) false 1)), (.op (some 13) none (.mv (.s 0))), (.op (some 14) none (.nilck (.s 13))), (.op (some 15) none (.faddr (.s 14) 1)), (.op (some 16) none (.load (.s 15) false 1)), (.op (some 17) none (.iaddr (.s 12) (.s 16) 4)), (.op (some 18) none (.load (.s 17) true 4)), (.op (some 5) none (.alloc [(.int .i64 0), (.str []), (.int .i64 0), (.int .i64 0)])), (.op none none (.store (.s 5) (.s 18) 4))] [(10, 0), (0, 0), (1, 0), (2, 0), (3, 1), (4, 0), (5, 0), (6, 0), (7, 1), (8, 0), (9, 1), (11, 0)]
abbrev QV4 : AC := .run [(.op (some 19) none (.faddr (.s 5) 0)), (.op (some 20) none (.load (.s 19) false 1)), (.op (some 21) none (.bin .neq (.s 20) (.k (.int .i64 1))))]
abbrev QV5 : AC := .run [(.op (some 22) none (.mv (.s 0))), (.call (some 23) none n_ref3_P_fail [(.s 22), (.k (.int .i64 3))])]
abbrev QV6 : AC := .run [(.op (some 4) none (.mv (.k (.str []))))]
abbrev QV7 : AC := .seq QV6 .ret
abbrev QV8 : AC := .seq QV5 QV7
abbrev QV9 : AC := .cond (.s 21) QV8 .skip
abbrev QVA : AC := .seq QV4 QV9
abbrev QVB : AC := .run [(.op (some 24) none (.mv (.s 1)))]
abbrev QVC : AC := .run [(.op (some 25) none (.mv (.s 0))), (.call (some 26) none n_ref3_P_fail [(.s 25), (.k (.int .i64 4))])]
abbrev QVD : AC := .run [(.op (some 4) none (.mv (.k (.str []))))]
abbrev QVE : AC := .seq QVD .ret
abbrev QVF : AC := .seq QVC QVE
abbrev QVG : AC := .cond (.s 24) QVF .skip
abbrev QVH : AC := .seq QVB QVG
abbrev QVI : AC := .run [(.op (some 27) none (.mv (.s 0))), (.op (some 28) none (.nilck (.s 27))), (.op (some 29) none (.faddr (.s 28) 1)), (.op (some 30) none (.load (.s 29) false 1)), (.op (some 31) none (.bin .add (.s 30) (.k (.int .i64 1)))), (.op (some 32) none (.nilck (.s 27))), (.op (some 33) none (.faddr (.s 32) 1)), (.op none none (.store (.s 33) (.s 31) 1))]
abbrev QVJ : AC := .run [(.op (some 34) none (.faddr (.s 5) 1)), (.op (some 35) none (.load (.s 34) false 1)), (.op (some 4) none (.mv (.s 35)))]
abbrev QVK : AC := .seq QVJ .ret
abbrev QVL : AC := .seq QVI QVK
abbrev QVM : AC := .seq QVH QVL
abbrev QVN : AC := .seq QVA QVM
abbrev QVO : AC := .seq QV3 QVN
abbrev QVP : AC := .seq QV2 QVO
abbrev QVQ : AC := .seq QUX QVP
abbrev QVR : AC := .run [(.op (some 6) none (.mv (.k (.slice .full 0 [])))), (.op (some 7) none (.mv (.k (.slice .full 0 []))))]
abbrev QVS : AC := .run [(.op (some 8) none (.mv (.k (.slice .full 0 []))))]
abbrev QVT : AC := .run [(.op (some 10) none (.mv (.s 2))), (.op (some 11) none (.un .not (.s 10)))]
abbrev QVU : AC := .run [(.op (some 12) none (.mv (.s 0))), (.call (some 13) none n_ref3_P_want [(.s 12), (.k (.str [123]))])]
abbrev QVV : AC := .cond (.s 11) QVU .skip
abbrev QVW : AC := .seq QVT QVV
abbrev QVX : AC := .run [(.op (some 14) none (.mv (.s 0))), (.call (some 15) none n_ref3_P_ok [(.s 14)])]
abbrev QVY : AC := .cond (.s 15) .skip (.exit 0)
abbrev QVZ : AC := .seq QVX QVY
abbrev QW0 : AC := .run [(.op (some 9) none (.mv (.k (.slice .full 0 []))))]
abbrev QW1 : AC := .par [(.op (some 16) none (.mv (.s 0))), (.call (some 17) none n_ref3_P_ok [(.s 16)]), (.op (some 18) none (.mv (.s 17))), (.op (some 19) (some (18, true)) (.mv (.s 0))), (.op (some 20) (some (18, true)) (.nilck (.s 19))), (.op (some 21) (some (18, true)) (.faddr (.s 20) 0)), (.op (some 22) (some (18, true)) (.load (.s 21) false 1)), (.op (some 23) (some (18, true)) (.mv (.s 0))), (.op (some 24) (some (18, true)) (.nilck (.s 23))), (.op (some 25) (some (18, true)) (.faddr (.s 24) 1)), (.op (some 26) (some (18, true)) (.load (.s 25) false 1)), (.op (some 27) (some (18, true)) (.iaddr (.s 22) (.s 26) 4)), (.op (some 28) (some (18, true)) (.faddr (.s 27) 0)), (.op (some 29) (some (18, true)) (.load (.s 28) false 1)), (.op (some 30) (some (18, true)) (.bin .eql (.s 29) (.k (.int .i64 1)))), (.op (some 31) none (.pick (.s 18) (.s 30) (.k (.bool false)))), (.op (some 32) none (.mv (.s 31))), (.op (some 33) (some (32, true)) (.mv (.s 0))), (.op (some 34) (some (32, true)) (.nilck (.s 33))), (.op (some 35) (some (32, true)) (.faddr (.s 34) 0)), (.op (some 36) (some (32, true)) (.load (.s 35) false 1)), (.op (some 37) (some (32, true)) (.mv (.s 0))), (.op (some 38) (some (32, true)) (.nilck (.s 37))), (.op (some 39) (some (32, true)) (.faddr (.s 38) 1)), (.op (some 40) (some (32, true)) (.load (.s 39) false 1)), (.op (some 41) (some (32, true)) (.bin .add (.s 40) (.k (.int .i64 1)))), (.op (some 42) (some (32, true)) (.iaddr (.s 36) (.s 41) 4)), (.op (some 43) (some (32, true)) (.faddr (.s 42) 0)), (.op (some 44) (some (32, true)) (.load (.s 43) false 1)), (.op (some 45) (some (32, true)) (.bin .eql (.s 44) (.k (.int .i64 4)))), (.op (some 46) none (.pick (.s 32) (.s 45) (.k (.bool false)))), (.op (some 47) none (.mv (.s 46))), (.op (some 48) (some (47, true)) (.mv (.s 0))), (.op (some 49) (some (47, true)) (.nilck (.s 48))), (.op (some 50) (some (47, true)) (.faddr (.s 49) 0)), (.op (some 51) (some (47, true)) (.load (.s 50) false 1)), (.op (some 52) (some (47, true)) (.mv (.s 0))), (.op (some 53) (some (47, true)) (.nilck (.s 52))), (.op (some 54) (some (47, true)) (.faddr (.s 53) 1)), (.op (some 55) (some (47, true)) (.load (.s 54) false 1)), (.op (some 56) (some (47, true)) (.bin .add (.s 55) (.k (.int .i64 1)))), (.op (some 57) (some (47, true)) (.iaddr (.s 51) (.s 56) 4)), (.op (some 58) (some (47, true)) (.faddr (.s 57) 1)), (.op (some 59) (some (47, true)) (.load (.s 58) false 1)), (.op (some 60) (some (47, true)) (.bin .eql (.s 59) (.k (.str [58])))), (.op (some 61) none (.pick (.s 47) (.s 60) (.k (.bool false))))] [(0, 0), (1, 0), (2, 0), (3, 0), (4, 0), (5, 0), (6, 0), (7, 0), (8, 0), (9, 0), (10, 0), (11, 0), (12, 0), (13, 0), (14, 0), (15, 0), (16, 0), (17, 0), (18, 0), (19, 0), (20, 0), (21, 0), (22, 0), (23, 0), (24, 0), (25, 0), (26, 0), (27, 0), (28, 0), (29, 0), (30, 0), (31, 0), (32, 0), (33, 0), (34, 0), (35, 0), (36, 0), (37, 0), (38, 0), (39, 0), (40, 0), (41, 0), (42, 0), (43, 0), (44, 0), (45, 0)]
abbrev QW2 : AC := .cond (.s 61) .skip (.exit 2)
abbrev QW3 : AC := .seq QW1 QW2
abbrev QW4 : AC := .run [(.op (some 62) none (.mv (.s 9))), (.op (some 63) none (.mv (.s 0))), (.call (some 64) none n_ref3_P_name [(.s 63), (.k (.bool false))]), (.op (some 65) none (.bslice [(.str [])] 1 1 [(0, (.s 64))])), (.op (some 66) none (.app 1 16 (.s 62) (.s 65))), (.op (some 9) none (.mv (.s 66)))]
abbrev QW5 : AC := .run [(.op (some 67) none (.mv (.s 0))), (.op (some 68) none (.nilck (.s 67))), (.op (some 69) none (.faddr (.s 68) 1)), (.op (some 70) none (.load (.s 69) false 1)), (.op (some 71) none (.bin .add (.s 70) (.k (.int .i64 1)))), (.op (some 72) none (.nilck (.s 67))), (.op (some 73) none (.faddr (.s 72) 1)), (.op none none (.store (.s 73) (.s 71) 1))]
abbrev QW6 : AC := .seq QW4 QW5
abbrev QW7 : AC := .block 3 QW6
abbrev QW8 : AC := .seq QW3 QW7
abbrev QW9 : AC := .loop QW8
abbrev QWA : AC := .block 2 QW9
abbrev QWB : AC := .run [(.op (some 74) none (.mv (.s 0))), (.call (some 75) none n_ref3_P_is [(.s 74), (.k (.str [125]))]), (.op (some 76) none (.mv (.s 75))), (.op (some 77) (some (76, true)) (.mv (.s 2))), (.op (some 78) (some (76, true)) (.mv (.s 77))), (.op (some 79) (some (78, false)) (.mv (.s 9))), (.op (some 80) (some (78, false)) (.len (.s 79))), (.op (some 81) (some (78, false)) (.bin .eql (.s 80) (.k (.int .i64 0)))), (.op (some 82) (some (76, true)) (.pick (.s 78) (.k (.bool true)) (.s 81))), (.op (some 83) none (.pick (.s 76) (.s 82) (.k (.bool false))))]
abbrev QWC : AC := .run [(.op (some 84) none (.mv (.s 0))), (.op (some 85) none (.nilck (.s 84))), (.op (some 86) none (.faddr (.s 85) 1)), (.op (some 87) none (.load (.s 86) false 1)), (.op (some 88) none (.bin .add (.s 87) (.k (.int .i64 1)))), (.op (some 89) none (.nilck (.s 84))), (.op (some 90) none (.faddr (.s 89) 1)), (.op none none (.store (.s 90) (.s 88) 1))]
abbrev QWD : AC := .run [(.op (some 91) none (.mv (.s 8))), (.op (some 92) none (.mv (.s 9))), (.op (some 6) none (.mv (.s 91))), (.op (some 7) none (.mv (.s 92)))]
abbrev QWE : AC := .seq QWD .ret
abbrev QWF : AC := .seq QWC QWE
abbrev QWG : AC := .cond (.s 83) QWF .skip
abbrev QWH : AC := .seq QWB QWG
abbrev QWI : AC := .run [(.op (some 93) none (.mv (.s 8))), (.op (some 94) none (.mv (.s 0))), (.op (some 95) none (.mv (.s 9))), (.op (some 96) none (.mv (.s 1))), (.call (some 97) none n_ref3_P_stmt [(.s 94), (.s 95), (.s 96)]), (.op (some 98) none (.bslice [(.int .i64 0), (.int .i64 0), (.slice .full 0 []), (.str []), (.str []), (.int .i64 0), (.int .i64 0), (.str []), (.slice .full 0 []), (.bool false), (.slice .full 0 []), (.slice .full 0 []), (.slice .full 0 [])] 13 1 [(0, (.s 97))])), (.op (some 99) none (.app 13 208 (.s 93) (.s 98))), (.op (some 8) none (.mv (.s 99)))]
abbrev QWJ : AC := .seq QWH QWI
abbrev QWK : AC := .seq QWA QWJ
abbrev QWL : AC := .seq QW0 QWK
abbrev QWM : AC := .block 1 QWL
abbrev QWN : AC := .seq QVZ QWM
abbrev QWO : AC := .loop QWN
abbrev QWP : AC := .block 0 QWO
abbrev QWQ : AC := .run [(.op (some 6) none (.mv (.k (.slice .full 0 [])))), (.op (some 7) none (.mv (.k (.slice .full 0 []))))]
abbrev QWR : AC := .seq QWQ .ret
abbrev QWS : AC := .seq QWP QWR
abbrev QWT : AC := .seq QVW QWS
abbrev QWU : AC := .seq QVS QWT
abbrev QWV : AC := .seq QVR QWU
abbrev QWW : AC := .run [(.op (some 2) none (.box (.s 0))), (.op (some 3) none (.box (.s 1))), (.op (some 4) none (.mv (.k (.bool false))))]
abbrev QWX : AC := .run [(.op (some 6) none (.faddr (.s 2) 0)), (.op (some 7) none (.load (.s 6) false 1)), (.op (some 8) none (.faddr (.s 3) 0)), (.op (some 9) none (.load (.s 8) false 1)), (.op (some 10) none (.bin .neq (.s 7) (.s 9))), (.op (some 11) none (.mv (.s 10))), (.op (some 12) (some (11, false)) (.faddr (.s 2) 1)), (.op (some 13) (some (11, false)) (.load (.s 12) false 1)), (.op (some 14) (some (11, false)) (.faddr (.s 3) 1)), (.op (some 15) (some (11, false)) (.load (.s 14) false 1)), (.op (some 16) (some (11, false)) (.bin .neq (.s 13) (.s 15))), (.op (some 17) none (.pick (.s 11) (.k (.bool true)) (.s 16))), (.op (some 18) none (.mv (.s 17))), (.op (some 19) (some (18, false)) (.faddr (.s 2) 3)), (.op (some 20) (some (18, false)) (.load (.s 19) false 1)), (.op (some 21) (some (18, false)) (.faddr (.s 3) 3)), (.op (some 22) (some (18, false)) (.load (.s 21) false 1)), (.op (some 23) (some (18, false)) (.bin .neq (.s 20) (.s 22))), (.op (some 24) none (.pick (.s 18) (.k (.bool true)) (.s 23))), (.op (some 25) none (.mv (.s 24))), (.op (some 26) (some (25, false)) (.faddr (.s 2) 4)), (.op (some 27) (some (25, false)) (.load (.s 26) false 1)), (.op (some 28) (some (25, false)) (.faddr (.s 3) 4)), (.op (some 29) (some (25, false)) (.load (.s 28) false 1)), (.op (some 30) (some (25, false)) (.bin .neq (.s 27) (.s 29))), (.op (some 31) none (.pick (.s 25) (.k (.bool true)) (.s 30))), (.op (some 32) none (.mv (.s 31))), (.op (some 33) (some (32, false)) (.faddr (.s 2) 9)), (.op (some 34) (some (32, false)) (.load (.s 33) false 1)), (.op (some 35) (some (32, false)) (.faddr (.s 3) 9)), (.op (some 36) (some (32, false)) (.load (.s 35) false 1)), (.op (some 37) (some (32, false)) (.eqb true (.s 34) (.s 36))), (.op (some 38) none (.pick (.s 32) (.k (.bool true)) (.s 37))), (.op (some 39) none (.mv (.s 38))), (.op (some 40) (some (39, false)) (.faddr (.s 2) 2)), (.op (some 41) (some (39, false)) (.load (.s 40) false 1)), (.op (some 42) (some (39, false)) (.faddr (.s 3) 2)), (.op (some 43) (some (39, false)) (.load (.s 42) false 1)), (.call (some 44) (some (39, false)) n_ref3_EqTexts [(.s 41), (.s 43)]), (.op (some 45) (some (39, false)) (.un .not (.s 44))), (.op (some 46) none (.pick (.s 39) (.k (.bool true)) (.s 45))), (.op (some 47) none (.mv (.s 46))), (.op (some 48) (some (47, false)) (.faddr (.s 2) 5)), (.op (some 49) (some (47, false)) (.load (.s 48) true 4)), (.op (some 50) (some (47, false)) (.faddr (.s 3) 5)), (.op (some 51) (some (47, false)) (.load (.s 50) true 4)), (.call (some 52) (some (47, false)) n_ref3_EqExpr [(.s 49), (.s 51)]), (.op (some 53) (some (47, false)) (.un .not (.s 52))), (.op (some 54) none (.pick (.s 47) (.k (.bool true)) (.s 53))), (.op (some 55) none (.mv (.s 54))), (.op (some 56) (some (55, false)) (.faddr (.s 2) 10)), (.op (some 57) (some (55, false)) (.load (.s 56) false 1)), (.op (some 58) (some (55, false)) (.len (.s 57))), (.op (some 59) (some (55, false)) (.faddr (.s 3) 10)), (.op (some 60) (some (55, false)) (.load (.s 59) false 1)), (.op (some 61) (some (55, false)) (.len (.s 60))), (.op (some 62) (some (55, false)) (.bin .neq (.s 58) (.s 61))), (.op (some 63) none (.pick (.s 55) (.k (.bool true)) (.s 62)))]
abbrev QWY : AC := .run [(.op (some 4) none (.mv (.k (.bool false))))]
abbrev QWZ : AC := .seq QWY .ret
abbrev QX0 : AC := .cond (.s 63) QWZ .skip
abbrev QX1 : AC := .seq QWX QX0
abbrev QX2 : AC := .run [(.op (some 64) none (.faddr (.s 2) 10)), (.op (some 65) none (.load (.s 64) false 1)), (.op (some 66) none (.len (.s 65))), (.op (some 67) none (.mv (.k (.int .i64 0))))]
abbrev QX3 : AC := .run [(.op (some 68) none (.bin .lss (.s 67) (.s 66)))]
abbrev QX4 : AC := .cond (.s 68) .skip (.exit 0)
abbrev QX5 : AC := .run [(.op (some 69) none (.mv (.s 67))), (.op (some 5) none (.mv (.s 69)))]
abbrev QX6 : AC := .par [(.op (some 70) none (.faddr (.s 2) 10)), (.op (some 71) none (.load (.s 70) false 1)), (.op (some 72) none (.mv (.s 5))), (.op (some 73) none (.iaddr (.s 71) (.s 72) 6)), (.op (some 74) none (.faddr (.s 73) 0)), (.op (some 75) none (.load (.s 74) false 1)), (.op (some 76) none (.faddr (.s 3) 10)), (.op (some 77) none (.load (.s 76) false 1)), (.op (some 78) none (.mv (.s 5))), (.op (some 79) none (.iaddr (.s 77) (.s 78) 6)), (.op (some 80) none (.faddr (.s 79) 0)), (.op (some 81) none (.load (.s 80) false 1)), (.op (some 82) none (.eqb true (.s 75) (.s 81))), (.op (some 83) none (.mv (.s 82))), (.op (some 84) (some (83, false)) (.faddr (.s 2) 10)), (.op (some 85) (some (83, false)) (.load (.s 84) false 1)), (.op (some 86) (some (83, false)) (.mv (.s 5))), (.op (some 87) (some (83, false)) (.iaddr (.s 85) (.s 86) 6)), (.op (some 88) (some (83, false)) (.faddr (.s 87) 1)), (.op (some 89) (some (83, false)) (.load (.s 88) false 1)), (.op (some 90) (some (83, false)) (.faddr (.s 3) 10)), (.op (some 91) (some (83, false)) (.load (.s 90) false 1)), (.op (some 92) (some (83, false)) (.mv (.s 5))), (.op (some 93) (some (83, false)) (.iaddr (.s 91) (.s 92) 6)), (.op (some 94) (some (83, false)) (.faddr (.s 93) 1)), (.op (some 95) (some (83, false)) (.load (.s 94) false 1)), (.op (some 96) (some (83, false)) (.bin .neq (.s 89) (.s 95))), (.op (some 97) none (.pick (.s 83) (.k (.bool true)) (.s 96))), (.op (some 98) none (.mv (.s 97))), (.op (some 99) (some (98, false)) (.faddr (.s 2) 10)), (.op (some 100) (some (98, false)) (.load (.s 99) false 1)), (.op (some 101) (some (98, false)) (.mv (.s 5))), (.op (some 102) (some (98, false)) (.iaddr (.s 100) (.s 101) 6)), (.op (some 103) (some (98, false)) (.faddr (.s 102) 2)), (.op (some 104) (some (98, false)) (.load (.s 103) true 4)), (.op (some 105) (some (98, false)) (.faddr (.s 3) 10)), (.op (some 106) (some (98, false)) (.load (.s 105) false 1)), (.op (some 107) (some (98, false)) (.mv (.s 5))), (.op (some 108) (some (98, false)) (.iaddr (.s 106) (.s 107) 6)), (.op (some 109) (some (98, false)) (.faddr (.s 108) 2)), (.op (some 110) (some (98, false)) (.load (.s 109) true 4)), (.call (some 111) (some (98, false)) n_ref3_EqExpr [(.s 104), (.s 110)]), (.op (some 112) (some (98, false)) (.un .not (.s 111))), (.op (some 113) none (.pick (.s 98) (.k (.bool true)) (.s 112)))] [(0, 0), (1, 0), (2, 0), (3, 0), (4, 0), (5, 0), (6, 0), (7, 0), (8, 0), (9, 0), (10, 0), (11, 0), (12, 0), (13, 0), (14, 0), (15, 0), (16, 0), (17, 0), (18, 0), (19, 0), (20, 0), (21, 0), (22, 0), (23, 0), (24, 0), (25, 0), (26, 0), (27, 0), (28, 0), (29, 0), (30, 0), (31, 0), (32, 0), (33, 0), (34, 0), (35, 0), (36, 0), (37, 0), (38, 0), (39, 0), (40, 0), (41, 0), (42, 0), (43, 0)]
abbrev QX7 : AC := .run [(.op (some 4) none (.mv (.k (.bool false))))]
abbrev QX8 : AC := .seq QX7 .ret
abbrev QX9 : AC := .cond (.s 113) QX8 .skip
abbrev QXA : AC := .seq QX6 QX9
abbrev QXB : AC := .seq QX5 QXA
abbrev QXC : AC := .block 1 QXB
abbrev QXD : AC := .run [(.op (some 114) none (.bin .add (.s 67) (.k (.int .i64 1)))), (.op (some 67) none (.mv (.s 114)))]
abbrev QXE : AC := .seq QXC QXD
abbrev QXF : AC := .seq QX4 QXE
abbrev QXG : AC := .seq QX3 QXF
abbrev QXH : AC := .loop QXG
abbrev QXI : AC := .block 0 QXH
abbrev QXJ : AC := .seq QX2 QXI
abbrev QXK : AC := .run [(.op (some 115) none (.faddr (.s 2) 11)), (.op (some 116) none (.load (.s 115) false 1)), (.op (some 117) none (.faddr (.s 3) 11)), (.op (some 118) none (.load (.s 117) false 1)), (.call (some 119) none n_ref3_EqStmts [(.s 116), (.s 118)]), (.op (some 120) none (.mv (.s 119))), (.op (some 121) (some (120, true)) (.faddr (.s 2) 12)), (.op (some 122) (some (120, true)) (.load (.s 121) false 1)), (.op (some 123) (some (120, true)) (.faddr (.s 3) 12)), (.op (some 124) (some (120, true)) (.load (.s 123) false 1)), (.call (some 125) (some (120, true)) n_ref3_EqStmts [(.s 122), (.s 124)]), (.op (some 126) none (.pick (.s 120) (.s 125) (.k (.bool false)))), (.op (some 4) none (.mv (.s 126)))]
abbrev QXL : AC := .seq QXK .ret
abbrev QXM : AC := .seq QXJ QXL
abbrev QXN : AC := .seq QX1 QXM
abbrev QXO : AC := .seq QWW QXN
abbrev QXP : AC := .run [(.op (some 4) none (.alloc [(.int .i64 0), (.int .i64 0), (.str []), (.slice .full 0 [])]))]
abbrev QXQ : AC := .run [(.op (some 9) none (.mv (.s 0))), (.call (some 10) none n_parse_reader_one [(.s 9)]), (.op (some 5) none (.alloc [(.int .i64 0), (.int .i64 0), (.str []), (.slice .full 0 [])])), (.op none none (.store (.s 5) (.s 10) 4))]
abbrev QXR : AC := .run [(.op (some 11) none (.mv (.s 0))), (.call (some 12) none n_parse_reader_good [(.s 11)])]
abbrev QXS : AC := .cond (.s 12) .skip (.exit 0)
abbrev QXT : AC := .seq QXR QXS
abbrev QXU : AC := .run [(.op (some 14) none (.mv (.s 0))), (.call (some 15) none n_parse_reader_peek [(.s 14)]), (.call (some 16) none n_parse_op [(.s 15)]), (.op (some 13) none (.mv (.s 16))), (.op (some 17) none (.ext (.s 13) 0)), (.op (some 18) none (.ext (.s 13) 1)), (.op (some 6) none (.mv (.s 17))), (.op (some 7) none (.mv (.s 18)))]
abbrev QXV : AC := .run [(.op (some 19) none (.mv (.s 7))), (.op (some 20) none (.mv (.s 1))), (.op (some 21) none (.bin .lss (.s 19) (.s 20))), (.op (some 22) none (.mv (.s 21))), (.op (some 23) (some (22, false)) (.mv (.s 6))), (.op (some 24) (some (22, false)) (.bin .eql (.s 23) (.k (.int .i64 0)))), (.op (some 25) none (.pick (.s 22) (.k (.bool true)) (.s 24)))]
abbrev QXW : AC := .run [(.op (some 26) none (.load (.s 5) true 4)), (.op none none (.store (.s 4) (.s 26) 4))]
abbrev QXX : AC := .seq QXW .ret
abbrev QXY : AC := .cond (.s 25) QXX .skip
abbrev QXZ : AC := .seq QXV QXY
abbrev QY0 : AC := .run [(.op (some 27) none (.mv (.s 0))), (.op (some 28) none (.nilck (.s 27))), (.op (some 29) none (.faddr (.s 28) 1)), (.op (some 30) none (.load (.s 29) false 1)), (.op (some 31) none (.bin .add (.s 30) (.k (.int .i64 1)))), (.op (some 32) none (.nilck (.s 27))), (.op (some 33) none (.faddr (.s 32) 1)), (.op none none (.store (.s 33) (.s 31) 1))]
abbrev QY1 : AC := .run [(.op (some 34) none (.mv (.s 0))), (.op (some 35) none (.mv (.s 7))), (.op (some 36) none (.bin .add (.s 35) (.k (.int .i64 1)))), (.call (some 37) none n_parse_reader_two [(.s 34), (.s 36)]), (.op (some 8) none (.alloc [(.int .i64 0), (.int .i64 0), (.str []), (.slice .full 0 [])])), (.op none none (.store (.s 8) (.s 37) 4))]
abbrev QY2 : AC := .run [(.op (some 38) none (.mv (.s 6))), (.op (some 39) none (.load (.s 5) true 4)), (.op (some 40) none (.load (.s 8) true 4)), (.op (some 41) none (.bslice [(.int .i64 0), (.int .i64 0), (.str []), (.slice .full 0 [])] 4 2 [(0, (.s 39)), (1, (.s 40))])), (.op (some 42) none (.build [(.int .i64 0), (.int .i64 0), (.str []), (.slice .full 0 [])] [(0, (1, (.s 38))), (3, (1, (.s 41)))])), (.op none none (.store (.s 5) (.s 42) 4))]
abbrev QY3 : AC := .seq QY1 QY2
abbrev QY4 : AC := .seq QY0 QY3
abbrev QY5 : AC := .seq QXZ QY4
abbrev QY6 : AC := .seq QXU QY5
abbrev QY7 : AC := .block 1 QY6
abbrev QY8 : AC := .seq QXT QY7
abbrev QY9 : AC := .loop QY8
abbrev QYA : AC := .block 0 QY9
abbrev QYB : AC := .run [(.op (some 43) none (.load (.s 5) true 4)), (.op none none (.store (.s 4) (.s 43) 4))]
abbrev QYC : AC := .seq QYB .ret
abbrev QYD : AC := .seq QYA QYC
abbrev QYE : AC := .seq QXQ QYD
abbrev QYF : AC := .seq QXP QYE
abbrev QYG : AC := .run [(.op (some 1) none (.box (.s 0))), (.op (some 2) none (.mv (.k (.int .i64 0))))]
abbrev QYH : AC := .run [(.op (some 3) none (.mv (.k (.int .i64 0))))]
abbrev QYI : AC := .run [(.op (some 6) none (.faddr (.s 1) 3)), (.op (some 7) none (.load (.s 6) false 1)), (.op (some 8) none (.len (.s 7))), (.op (some 9) none (.mv (.k (.int .i64 0))))]
abbrev QYJ : AC := .run [(.op (some 10) none (.bin .lss (.s 9) (.s 8)))]
abbrev QYK : AC := .cond (.s 10) .skip (.exit 0)
abbrev QYL : AC := .run [(.op (some 11) none (.iaddr (.s 7) (.s 9) 4)), (.op (some 12) none (.load (.s 11) true 4)), (.op (some 5) none (.alloc [(.int .i64 0), (.int .i64 0), (.str []), (.slice .full 0 [])])), (.op none none (.store (.s 5) (.s 12) 4))]
abbrev QYM : AC := .run [(.op (some 13) none (.mv (.s 3))), (.op (some 14) none (.load (.s 5) true 4)), (.call (some 15) none n_parse_depth [(.s 14)]), (.op (some 16) none (.mm true (.s 13) (.s 15))), (.op (some 3) none (.mv (.s 16)))]
abbrev QYN : AC := .seq QYL QYM
abbrev QYO : AC := .block 1 QYN
abbrev QYP : AC := .run [(.op (some 17) none (.bin .add (.s 9) (.k (.int .i64 1)))), (.op (some 9) none (.mv (.s 17)))]
abbrev QYQ : AC := .seq QYO QYP
abbrev QYR : AC := .seq QYK QYQ
abbrev QYS : AC := .seq QYJ QYR
abbrev QYT : AC := .loop QYS
abbrev QYU : AC := .block 0 QYT
abbrev QYV : AC := .seq QYI QYU
abbrev QYW : AC := .run [(.op (some 18) none (.mv (.s 3))), (.op (some 19) none (.bin .add (.s 18) (.k (.int .i64 1)))), (.op (some 2) none (.mv (.s 19)))]
abbrev QYX : AC := .seq QYW .ret
abbrev QYY : AC := .seq QYV QYX
abbrev QYZ : AC := .seq QYH QYY
abbrev QZ0 : AC := .seq QYG QYZ
abbrev QZ1 : AC := .run [(.op (some 4) none (.box (.s 1))), (.op (some 6) none (.alloc [(.int .i64 0), (.int .i64 0), (.str []), (.slice .full 0 [])]))]
abbrev QZ2 : AC := .par [(.op (some 10) none (.mv (.s 0))), (.call (some 11) none n_ref3_P_ok [(.s 10)]), (.op (some 12) none (.mv (.s 11))), (.op (some 13) (some (12, true)) (.mv (.s 0))), (.op (some 14) (some (12, true)) (.nilck (.s 13))), (.op (some 15) (some (12, true)) (.faddr (.s 14) 0)), (.op (some 16) (some (12, true)) (.load (.s 15) false 1)), (.op (some 17) (some (12, true)) (.mv (.s 0))), (.op (some 18) (some (12, true)) (.nilck (.s 17))), (.op (some 19) (some (12, true)) (.faddr (.s 18) 1)), (.op (some 20) (some (12, true)) (.load (.s 19) false 1)), (.op (some 21) (some (12, true)) (.iaddr (.s 16) (.s 20) 4)), (.op (some 22) (some (12, true)) (.faddr (.s 21) 0)), (.op (some 23) (some (12, true)) (.load (.s 22) false 1)), (.op (some 24) (some (12, true)) (.bin .eql (.s 23) (.k (.int .i64 4)))), (.op (some 25) none (.pick (.s 12) (.s 24) (.k (.bool false))))] [(0, 0), (1, 0), (2, 0), (3, 0), (4, 0), (5, 0), (6, 0), (7, 0), (8, 0), (9, 0), (10, 0), (11, 0), (12, 0), (13, 0), (14, 0), (15, 0)]
abbrev QZ3 : AC := .cond (.s 25) .skip (.exit 0)
abbrev QZ4 : AC := .seq QZ2 QZ3
abbrev QZ5 : AC := .par [(.op (some 27) none (.mv (.s 0))), (.op (some 28) none (.nilck (.s 27))), (.op (some 29) none (.faddr (.s 28) 0)), (.op (some 30) none (.load (.s 29) false 1)), (.op (some 31) none (.mv (.s 0))), (.op (some 32) none (.nilck (.s 31))), (.op (some 33) none (.faddr (.s 32) 1)), (.op (some 34) none (.load (.s 33) false 1)), (.op (some 35) none (.iaddr (.s 30) (.s 34) 4)), (.op (some 36) none (.faddr (.s 35) 1)), (.op (some 37) none (.load (.s 36) false 1)), (.call (some 38) none n_ref3_Binds [(.s 37)]), (.op (some 26) none (.mv (.s 38))), (.op (some 39) none (.ext (.s 26) 0)), (.op (some 40) none (.ext (.s 26) 1)), (.op (some 7) none (.mv (.s 39))), (.op (some 8) none (.mv (.s 40)))] [(0, 0), (1, 0), (2, 0), (3, 0), (4, 0), (5, 0), (6, 0), (7, 0), (8, 0), (9, 0), (10, 0), (11, 0), (12, 0), (13, 0), (14, 0), (15, 0), (16, 0)]
abbrev QZ6 : AC := .run [(.op (some 41) none (.mv (.s 7))), (.op (some 42) none (.mv (.s 2))), (.op (some 43) none (.bin .lss (.s 41) (.s 42))), (.op (some 44) none (.mv (.s 43))), (.op (some 45) (some (44, false)) (.mv (.s 7))), (.op (some 46) (some (44, false)) (.bin .eql (.s 45) (.k (.int .i64 0)))), (.op (some 47) none (.pick (.s 44) (.k (.bool true)) (.s 46)))]
abbrev QZ7 : AC := .run [(.op (some 48) none (.load (.s 4) true 4)), (.op none none (.store (.s 6) (.s 48) 4))]
abbrev QZ8 : AC := .seq QZ7 .ret
abbrev QZ9 : AC := .cond (.s 47) QZ8 .skip
abbrev QZA : AC := .seq QZ6 QZ9
abbrev QZB : AC := .run [(.op (some 49) none (.mv (.s 0))), (.op (some 50) none (.nilck (.s 49))), (.op (some 51) none (.faddr (.s 50) 1)), (.op (some 52) none (.load (.s 51) false 1)), (.op (some 53) none (.bin .add (.s 52) (.k (.int .i64 1)))), (.op (some 54) none (.nilck (.s 49))), (.op (some 55) none (.faddr (.s 54) 1)), (.op none none (.store (.s 55) (.s 53) 1))]
abbrev QZC : AC := .run [(.op (some 56) none (.mv (.s 0))), (.op (some 57) none (.mv (.s 0))), (.call (some 58) none n_ref3_P_first [(.s 57)]), (.op (some 59) none (.mv (.s 7))), (.op (some 60) none (.bin .add (.s 59) (.k (.int .i64 1)))), (.call (some 61) none n_ref3_P_rest [(.s 56), (.s 58), (.s 60)]), (.op (some 9) none (.alloc [(.int .i64 0), (.int .i64 0), (.str []), (.slice .full 0 [])])), (.op none none (.store (.s 9) (.s 61) 4))]
abbrev QZD : AC := .run [(.op (some 62) none (.mv (.s 8))), (.op (some 63) none (.load (.s 4) true 4)), (.op (some 64) none (.load (.s 9) true 4)), (.op (some 65) none (.bslice [(.int .i64 0), (.int .i64 0), (.str []), (.slice .full 0 [])] 4 2 [(0, (.s 63)), (1, (.s 64))])), (.op (some 66) none (.build [(.int .i64 0), (.int .i64 0), (.str []), (.slice .full 0 [])] [(0, (1, (.s 62))), (3, (1, (.s 65)))])), (.op none none (.store (.s 4) (.s 66) 4))]
abbrev QZE : AC := .seq QZC QZD
abbrev QZF : AC := .seq QZB QZE
abbrev QZG : AC := .seq QZA QZF
abbrev QZH : AC := .seq QZ5 QZG
abbrev QZI : AC := .block 1 QZH
abbrev QZJ : AC := .seq QZ4 QZI
abbrev QZK : AC := .loop QZJ
abbrev QZL : AC := .block 0 QZK
abbrev QZM : AC := .run [(.op (some 67) none (.load (.s 4) true 4)), (.op none none (.store (.s 6) (.s 67) 4))]
abbrev QZN : AC := .seq QZM .ret
abbrev QZO : AC := .seq QZL QZN
abbrev QZP : AC := .seq QZ1 QZO
abbrev QZQ : AC := .run [(.op (some 2) none (.alloc [(.int .i64 0), (.int .i64 0), (.str []), (.slice .full 0 [])]))]
abbrev QZR : AC := .par [(.op (some 5) none (.mv (.s 0))), (.op (some 6) none (.nilck (.s 5))), (.op (some 7) none (.faddr (.s 6) 0)), (.op (some 8) none (.load (.s 7) false 1)), (.op (some 9) none (.mv (.s 0))), (.op (some 10) none (.nilck (.s 9))), (.op (some 11) none (.faddr (.s 10) 1)), (.op (some 12) none (.load (.s 11) false 1)), (.op (some 13) none (.iaddr (.s 8) (.s 12) 4)), (.op (some 14) none (.load (.s 13) true 4)), (.op (some 3) none (.alloc [(.int .i64 0), (.str []), (.int .i64 0), (.int .i64 0)])), (.op none none (.store (.s 3) (.s 14) 4))] [(10, 0), (0, 0), (1, 0), (2, 0), (3, 1), (4, 0), (5, 0), (6, 0), (7, 1), (8, 0), (9, 1), (11, 0)]
abbrev QZS : AC := .run [(.op (some 16) none (.mv (.s 0))), (.call (some 17) none n_ref3_P_ok [(.s 16)]), (.op (some 18) none (.un .not (.s 17))), (.op (some 15) none (.mv (.s 18)))]
abbrev QZT : AC := .run [(.op (some 19) none (.build [(.int .i64 0), (.int .i64 0), (.str []), (.slice .full 0 [])] [])), (.op none none (.store (.s 2) (.s 19) 4))]
abbrev QZU : AC := .seq QZT .ret
abbrev QZV : AC := .run [(.op (some 21) none (.faddr (.s 3) 0)), (.op (some 22) none (.load (.s 21) false 1)), (.op (some 23) none (.bin .eql (.s 22) (.k (.int .i64 2)))), (.op (some 20) none (.mv (.s 23)))]
abbrev QZW : AC := .run [(.op (some 24) none (.mv (.s 0))), (.op (some 25) none (.nilck (.s 24))), (.op (some 26) none (.faddr (.s 25) 1)), (.op (some 27) none (.load (.s 26) false 1)), (.op (some 28) none (.bin .add (.s 27) (.k (.int .i64 1)))), (.op (some 29) none (.nilck (.s 24))), (.op (some 30) none (.faddr (.s 29) 1)), (.op none none (.store (.s 30) (.s 28) 1))]
abbrev QZX : AC := .run [(.op (some 31) none (.faddr (.s 3) 2)), (.op (some 32) none (.load (.s 31) false 1)), (.op (some 33) none (.build [(.int .i64 0), (.int .i64 0), (.str []), (.slice .full 0 [])] [(0, (1, (.k (.int .i64 1)))), (1, (1, (.s 32)))])), (.op none none (.store (.s 2) (.s 33) 4))]
abbrev QZY : AC := .seq QZX .ret
abbrev QZZ : AC := .seq QZW QZY
abbrev Q100 : AC := .run [(.op (some 35) none (.faddr (.s 3) 0)), (.op (some 36) none (.load (.s 35) false 1)), (.op (some 37) none (.bin .eql (.s 36) (.k (.int .i64 1)))), (.op (some 34) none (.mv (.s 37)))]
abbrev Q101 : AC := .run [(.op (some 38) none (.mv (.s 0))), (.op (some 39) none (.nilck (.s 38))), (.op (some 40) none (.faddr (.s 39) 1)), (.op (some 41) none (.load (.s 40) false 1)), (.op (some 42) none (.bin .add (.s 41) (.k (.int .i64 1)))), (.op (some 43) none (.nilck (.s 38))), (.op (some 44) none (.faddr (.s 43) 1)), (.op none none (.store (.s 44) (.s 42) 1))]
abbrev Q102 : AC := .run [(.op (some 45) none (.faddr (.s 3) 1)), (.op (some 46) none (.load (.s 45) false 1)), (.op (some 47) none (.build [(.int .i64 0), (.int .i64 0), (.str []), (.slice .full 0 [])] [(0, (1, (.k (.int .i64 2)))), (2, (1, (.s 46)))])), (.op none none (.store (.s 2) (.s 47) 4))]
abbrev Q103 : AC := .seq Q102 .ret
abbrev Q104 : AC := .seq Q101 Q103
abbrev Q105 : AC := .run [(.op (some 49) none (.mv (.s 0))), (.call (some 50) none n_ref3_P_take [(.s 49), (.k (.str [40]))]), (.op (some 48) none (.mv (.s 50)))]
abbrev Q106 : AC := .run [(.op (some 51) none (.mv (.s 0))), (.op (some 52) none (.mv (.s 0))), (.call (some 53) none n_ref3_P_first [(.s 52)]), (.call (some 54) none n_ref3_P_rest [(.s 51), (.s 53), (.k (.int .i64 1))]), (.op (some 4) none (.alloc [(.int .i64 0), (.int .i64 0), (.str []), (.slice .full 0 [])])), (.op none none (.store (.s 4) (.s 54) 4))]
abbrev Q107 : AC := .run [(.op (some 55) none (.mv (.s 0))), (.call (some 56) none n_ref3_P_want [(.s 55), (.k (.str [41]))])]
abbrev Q108 : AC := .run [(.op (some 57) none (.load (.s 4) true 4)), (.op none none (.store (.s 2) (.s 57) 4))]
abbrev Q109 : AC := .seq Q108 .ret
abbrev Q10A : AC := .seq Q107 Q109
abbrev Q10B : AC := .seq Q106 Q10A
abbrev Q10C : AC := .run [(.op (some 59) none (.mv (.s 0))), (.call (some 60) none n_ref3_P_take [(.s 59), (.k (.str [45]))]), (.op (some 58) none (.mv (.s 60)))]
abbrev Q10D : AC := .run [(.op (some 61) none (.mv (.s 0))), (.call (some 62) none n_ref3_P_first [(.s 61)]), (.op (some 63) none (.bslice [(.int .i64 0), (.int .i64 0), (.str []), (.slice .full 0 [])] 4 1 [(0, (.s 62))])), (.op (some 64) none (.build [(.int .i64 0), (.int .i64 0), (.str []), (.slice .full 0 [])] [(0, (1, (.k (.int .i64 3)))), (3, (1, (.s 63)))])), (.op none none (.store (.s 2) (.s 64) 4))]
abbrev Q10E : AC := .seq Q10D .ret
abbrev Q10F : AC := .run [(.op (some 66) none (.mv (.s 0))), (.call (some 67) none n_ref3_P_take [(.s 66), (.k (.str [33]))]), (.op (some 65) none (.mv (.s 67)))]
abbrev Q10G : AC := .run [(.op (some 68) none (.mv (.s 0))), (.call (some 69) none n_ref3_P_first [(.s 68)]), (.op (some 70) none (.bslice [(.int .i64 0), (.int .i64 0), (.str []), (.slice .full 0 [])] 4 1 [(0, (.s 69))])), (.op (some 71) none (.build [(.int .i64 0), (.int .i64 0), (.str []), (.slice .full 0 [])] [(0, (1, (.k (.int .i64 4)))), (3, (1, (.s 70)))])), (.op none none (.store (.s 2) (.s 71) 4))]
abbrev Q10H : AC := .seq Q10G .ret
abbrev Q10I : AC := .cond (.s 65) Q10H .skip
abbrev Q10J : AC := .seq Q10F Q10I
abbrev Q10K : AC := .cond (.s 58) Q10E Q10J
abbrev Q10L : AC := .seq Q10C Q10K
abbrev Q10M : AC := .cond (.s 48) Q10B Q10L
abbrev Q10N : AC := .seq Q105 Q10M
abbrev Q10O : AC := .cond (.s 34) Q104 Q10N
abbrev Q10P : AC := .seq Q100 Q10O
abbrev Q10Q : AC := .cond (.s 20) QZZ Q10P
abbrev Q10R : AC := .seq QZV Q10Q
abbrev Q10S : AC := .cond (.s 15) QZU Q10R
abbrev Q10T : AC := .seq QZS Q10S
abbrev Q10U : AC := .block 0 Q10T
abbrev Q10V : AC := .run [(.op (some 72) none (.mv (.s 0))), (.call (some 73) none n_ref3_P_fail [(.s 72), (.k (.int .i64 3))])]
abbrev Q10W : AC := .run [(.op (some 74) none (.build [(.int .i64 0), (.int .i64 0), (.str []), (.slice .full 0 [])] [])), (.op none none (.store (.s 2) (.s 74) 4))]
abbrev Q10X : AC := .seq Q10W .ret
abbrev Q10Y : AC := .seq Q10V Q10X
abbrev Q10Z : AC := .seq Q10U Q10Y
abbrev Q110 : AC := .seq QZR Q10Z
abbrev Q111 : AC := .seq QZQ Q110

end Go.Abs

/-! Have2 -/

namespace Go.Abs
open Go.Proofs

theorem has_lex_Word : Has Try.prog n_lex_Word 18 [(2, none)] QMD := ⟨Try.f58, by kernel_rfl, by kernel_rfl⟩
theorem has_lex_number : Has Try.prog n_lex_number 28 [(2, none), (3, none)] QN4 := ⟨Try.f59, by kernel_rfl, by kernel_rfl⟩
theorem has_ref3_deep : Has Try.prog n_ref3_deep 36 [(4, none)] QNY := ⟨Try.f63, by kernel_rfl, by kernel_rfl⟩
theorem has_ref3_name : Has Try.prog n_ref3_name 5 [(2, (some (true, 4)))] QO2 := ⟨Try.f67, by kernel_rfl, by kernel_rfl⟩
theorem has_ref3_Binds : Has Try.prog n_ref3_Binds 27 [(2, none), (3, none)] QOT := ⟨Try.f68, by kernel_rfl, by kernel_rfl⟩
theorem has_ref3_two : Has Try.prog n_ref3_two 12 [(6, (some (true, 4)))] QOX := ⟨Try.f69, by kernel_rfl, by kernel_rfl⟩
theorem has_ref3_num : Has Try.prog n_ref3_num 5 [(2, (some (true, 4)))] QP1 := ⟨Try.f73, by kernel_rfl, by kernel_rfl⟩
theorem has_parse_reader_take : Has Try.prog n_parse_reader_take 21 [(4, none)] QPD := ⟨Try.f74, by kernel_rfl, by kernel_rfl⟩
theorem has_parse_reader_names : Has Try.prog n_parse_reader_names 25 [(6, none)] QPY := ⟨Try.f75, by kernel_rfl, by kernel_rfl⟩
theorem has_parse_reader_is : Has Try.prog n_parse_reader_is 22 [(4, none)] QQ4 := ⟨Try.f76, by kernel_rfl, by kernel_rfl⟩
theorem has_parse_reader_proc : Has Try.prog n_parse_reader_proc 56 [(2, (some (true, 5)))] QR9 := ⟨Try.f77, by kernel_rfl, by kernel_rfl⟩
theorem has_slices_Clone_string : Has Try.prog n_slices_Clone_string 8 [(2, none)] QRJ := ⟨Try.f78, by kernel_rfl, by kernel_rfl⟩
theorem has_slices_Clone_api_Param : Has Try.prog n_slices_Clone_api_Param 8 [(2, none)] QRT := ⟨Try.f79, by kernel_rfl, by kernel_rfl⟩
theorem has_tree_copied : Has Try.prog n_tree_copied 78 [(6, none), (7, none)] QTA := ⟨Try.f80, by kernel_rfl, by kernel_rfl⟩
theorem has_ref1_blank : Has Try.prog n_ref1_blank 17 [(2, none)] QTE := ⟨Try.f81, by kernel_rfl, by kernel_rfl⟩
theorem has_ref1_token : Has Try.prog n_ref1_token 70 [(4, (some (true, 4))), (5, none)] QUW := ⟨Try.f82, by kernel_rfl, by kernel_rfl⟩
theorem has_ref3_P_name : Has Try.prog n_ref3_P_name 36 [(4, none)] QVQ := ⟨Try.f83, by kernel_rfl, by kernel_rfl⟩
theorem has_ref3_P_block : Has Try.prog n_ref3_P_block 100 [(6, none), (7, none)] QWV := ⟨Try.f84, by kernel_rfl, by kernel_rfl⟩
theorem has_ref3_eqOne : Has Try.prog n_ref3_eqOne 127 [(4, none)] QXO := ⟨Try.f85, by kernel_rfl, by kernel_rfl⟩
theorem has_parse_reader_two : Has Try.prog n_parse_reader_two 44 [(4, (some (true, 4)))] QYF := ⟨Try.f86, by kernel_rfl, by kernel_rfl⟩
theorem has_parse_depth : Has Try.prog n_parse_depth 20 [(2, none)] QZ0 := ⟨Try.f87, by kernel_rfl, by kernel_rfl⟩
theorem has_ref3_P_rest : Has Try.prog n_ref3_P_rest 68 [(6, (some (true, 4)))] QZP := ⟨Try.f88, by kernel_rfl, by kernel_rfl⟩
theorem has_ref3_P_first : Has Try.prog n_ref3_P_first 75 [(2, (some (true, 4)))] Q111 := ⟨Try.f89, by kernel_rfl, by kernel_rfl⟩

end Go.Abs

/-! Codes3 -/

namespace Go.Abs

abbrev Q112 : AC := .run [(.op (some 2) none (.mv (.k (.bool false))))]
abbrev Q113 : AC := .run [(.op (some 3) none (.mv (.s 0))), (.op (some 4) none (.bin .geq (.s 3) (.k (.int .u8 97)))), (.op (some 5) none (.mv (.s 4))), (.op (some 6) (some (5, true)) (.mv (.s 0))), (.op (some 7) (some (5, true)) (.bin .leq (.s 6) (.k (.int .u8 122)))), (.op (some 8) none (.pick (.s 5) (.s 7) (.k (.bool false)))), (.op (some 2) none (.mv (.s 8)))]
abbrev Q114 : AC := .seq Q113 .ret
abbrev Q115 : AC := .seq Q112 Q114
abbrev Q116 : AC := .run [(.op (some 2) none (.mv (.k (.bool false))))]
abbrev Q117 : AC := .run [(.op (some 3) none (.mv (.s 0))), (.op (some 4) none (.bin .geq (.s 3) (.k (.int .u8 48)))), (.op (some 5) none (.mv (.s 4))), (.op (some 6) (some (5, true)) (.mv (.s 0))), (.op (some 7) (some (5, true)) (.bin .leq (.s 6) (.k (.int .u8 57)))), (.op (some 8) none (.pick (.s 5) (.s 7) (.k (.bool false)))), (.op (some 2) none (.mv (.s 8)))]
abbrev Q118 : AC := .seq Q117 .ret
abbrev Q119 : AC := .seq Q116 Q118
abbrev Q11A : AC := .run [(.op (some 2) none (.mv (.k (.bool false))))]
abbrev Q11B : AC := .run [(.call (some 5) none n_ref1_Words []), (.op (some 6) none (.len (.s 5))), (.op (some 7) none (.mv (.k (.int .i64 0))))]
abbrev Q11C : AC := .run [(.op (some 8) none (.bin .lss (.s 7) (.s 6)))]
abbrev Q11D : AC := .cond (.s 8) .skip (.exit 0)
abbrev Q11E : AC := .run [(.op (some 9) none (.iaddr (.s 5) (.s 7) 1)), (.op (some 10) none (.load (.s 9) false 1)), (.op (some 4) none (.mv (.s 10)))]
abbrev Q11F : AC := .run [(.op (some 11) none (.mv (.s 4))), (.op (some 12) none (.mv (.s 0))), (.op (some 13) none (.bin .eql (.s 11) (.s 12)))]
abbrev Q11G : AC := .run [(.op (some 2) none (.mv (.k (.bool true))))]
abbrev Q11H : AC := .seq Q11G .ret
abbrev Q11I : AC := .cond (.s 13) Q11H .skip
abbrev Q11J : AC := .seq Q11F Q11I
abbrev Q11K : AC := .seq Q11E Q11J
abbrev Q11L : AC := .block 1 Q11K
abbrev Q11M : AC := .run [(.op (some 14) none (.bin .add (.s 7) (.k (.int .i64 1)))), (.op (some 7) none (.mv (.s 14)))]
abbrev Q11N : AC := .seq Q11L Q11M
abbrev Q11O : AC := .seq Q11D Q11N
abbrev Q11P : AC := .seq Q11C Q11O
abbrev Q11Q : AC := .loop Q11P
abbrev Q11R : AC := .block 0 Q11Q
abbrev Q11S : AC := .seq Q11B Q11R
abbrev Q11T : AC := .run [(.op (some 2) none (.mv (.k (.bool false))))]
abbrev Q11U : AC := .seq Q11T .ret
abbrev Q11V : AC := .seq Q11S Q11U
abbrev Q11W : AC := .seq Q11A Q11V
abbrev Q11X : AC := .run [(.op (some 4) none (.mv (.k (.str []))))]
abbrev Q11Y : AC := .run [(.op (some 6) none (.mv (.s 0))), (.call (some 7) none n_parse_reader_peek [(.s 6)]), (.op (some 5) none (.alloc [(.int .i64 0), (.str []), (.int .i64 0), (.int .i64 0)])), (.op none none (.store (.s 5) (.s 7) 4))]
abbrev Q11Z : AC := .run [(.op (some 8) none (.mv (.s 0))), (.call (some 9) none n_parse_reader_good [(.s 8)]), (.op (some 10) none (.un .not (.s 9))), (.op (some 11) none (.mv (.s 10))), (.op (some 12) (some (11, false)) (.faddr (.s 5) 0)), (.op (some 13) (some (11, false)) (.load (.s 12) false 1)), (.op (some 14) (some (11, false)) (.bin .neq (.s 13) (.k (.int .i64 1)))), (.op (some 15) none (.pick (.s 11) (.k (.bool true)) (.s 14)))]
abbrev Q120 : AC := .run [(.op (some 16) none (.mv (.s 0))), (.call (some 17) none n_parse_reader_bad [(.s 16), (.k (.int .i64 3))])]
abbrev Q121 : AC := .run [(.op (some 4) none (.mv (.k (.str []))))]
abbrev Q122 : AC := .seq Q121 .ret
abbrev Q123 : AC := .seq Q120 Q122
abbrev Q124 : AC := .cond (.s 15) Q123 .skip
abbrev Q125 : AC := .seq Q11Z Q124
abbrev Q126 : AC := .run [(.op (some 18) none (.mv (.s 1))), (.op (some 19) none (.un .not (.s 18)))]
abbrev Q127 : AC := .run [(.op (some 20) none (.mv (.s 0))), (.call (some 21) none n_parse_reader_bad [(.s 20), (.k (.int .i64 4))])]
abbrev Q128 : AC := .run [(.op (some 4) none (.mv (.k (.str []))))]
abbrev Q129 : AC := .seq Q128 .ret
abbrev Q12A : AC := .seq Q127 Q129
abbrev Q12B : AC := .cond (.s 19) Q12A .skip
abbrev Q12C : AC := .seq Q126 Q12B
abbrev Q12D : AC := .run [(.op (some 22) none (.mv (.s 0))), (.op (some 23) none (.nilck (.s 22))), (.op (some 24) none (.faddr (.s 23) 1)), (.op (some 25) none (.load (.s 24) false 1)), (.op (some 26) none (.bin .add (.s 25) (.k (.int .i64 1)))), (.op (some 27) none (.nilck (.s 22))), (.op (some 28) none (.faddr (.s 27) 1)), (.op none none (.store (.s 28) (.s 26) 1))]
abbrev Q12E : AC := .run [(.op (some 29) none (.faddr (.s 5) 1)), (.op (some 30) none (.load (.s 29) false 1)), (.op (some 4) none (.mv (.s 30)))]
abbrev Q12F : AC := .seq Q12E .ret
abbrev Q12G : AC := .seq Q12D Q12F
abbrev Q12H : AC := .seq Q12C Q12G
abbrev Q12I : AC := .seq Q125 Q12H
abbrev Q12J : AC := .seq Q11Y Q12I
abbrev Q12K : AC := .seq Q11X Q12J
abbrev Q12L : AC := .run [(.op (some 4) none (.mv (.s 0))), (.op (some 5) none (.mv (.s 1))), (.call (some 6) none n_parse_reader_take [(.s 4), (.s 5)]), (.op (some 7) none (.un .not (.s 6)))]
abbrev Q12M : AC := .run [(.op (some 8) none (.mv (.s 0))), (.call (some 9) none n_parse_reader_bad [(.s 8), (.k (.int .i64 3))])]
abbrev Q12N : AC := .cond (.s 7) Q12M .skip
abbrev Q12O : AC := .seq Q12L Q12N
abbrev Q12P : AC := .run [(.op (some 6) none (.mv (.k (.slice .full 0 [])))), (.op (some 7) none (.mv (.k (.slice .full 0 []))))]
abbrev Q12Q : AC := .run [(.op (some 8) none (.mv (.k (.slice .full 0 []))))]
abbrev Q12R : AC := .run [(.op (some 11) none (.mv (.s 0))), (.call (some 12) none n_parse_reader_good [(.s 11)])]
abbrev Q12S : AC := .cond (.s 12) .skip (.exit 0)
abbrev Q12T : AC := .seq Q12R Q12S
abbrev Q12U : AC := .run [(.op (some 13) none (.mv (.s 0))), (.call (some 14) none n_parse_reader_labels [(.s 13)]), (.op (some 9) none (.mv (.s 14)))]
abbrev Q12V : AC := .run [(.op (some 15) none (.mv (.s 0))), (.call (some 16) none n_parse_reader_is [(.s 15), (.k (.str [125]))]), (.op (some 17) none (.mv (.s 16))), (.op (some 18) (some (17, true)) (.mv (.s 2))), (.op (some 19) (some (17, true)) (.mv (.s 18))), (.op (some 20) (some (19, false)) (.mv (.s 9))), (.op (some 21) (some (19, false)) (.len (.s 20))), (.op (some 22) (some (19, false)) (.bin .eql (.s 21) (.k (.int .i64 0)))), (.op (some 23) (some (17, true)) (.pick (.s 19) (.k (.bool true)) (.s 22))), (.op (some 24) none (.pick (.s 17) (.s 23) (.k (.bool false))))]
abbrev Q12W : AC := .run [(.op (some 25) none (.mv (.s 0))), (.op (some 26) none (.nilck (.s 25))), (.op (some 27) none (.faddr (.s 26) 1)), (.op (some 28) none (.load (.s 27) false 1)), (.op (some 29) none (.bin .add (.s 28) (.k (.int .i64 1)))), (.op (some 30) none (.nilck (.s 25))), (.op (some 31) none (.faddr (.s 30) 1)), (.op none none (.store (.s 31) (.s 29) 1))]
abbrev Q12X : AC := .run [(.op (some 32) none (.mv (.s 8))), (.op (some 33) none (.mv (.s 9))), (.op (some 6) none (.mv (.s 32))), (.op (some 7) none (.mv (.s 33)))]
abbrev Q12Y : AC := .seq Q12X .ret
abbrev Q12Z : AC := .seq Q12W Q12Y
abbrev Q130 : AC := .cond (.s 24) Q12Z .skip
abbrev Q131 : AC := .seq Q12V Q130
abbrev Q132 : AC := .run [(.op (some 34) none (.mv (.s 0))), (.op (some 35) none (.mv (.s 1))), (.call (some 36) none n_parse_reader_stmt [(.s 34), (.s 35)]), (.op (some 10) none (.alloc [(.int .i64 0), (.int .i64 0), (.slice .full 0 []), (.str []), (.str []), (.int .i64 0), (.int .i64 0), (.str []), (.slice .full 0 []), (.bool false), (.slice .full 0 []), (.slice .full 0 []), (.slice .full 0 [])])), (.op none none (.store (.s 10) (.s 36) 13))]
abbrev Q133 : AC := .run [(.op (some 37) none (.mv (.s 9))), (.op (some 38) none (.faddr (.s 10) 2)), (.op none none (.store (.s 38) (.s 37) 1))]
abbrev Q134 : AC := .run [(.op (some 39) none (.mv (.s 8))), (.op (some 40) none (.load (.s 10) true 13)), (.op (some 41) none (.bslice [(.int .i64 0), (.int .i64 0), (.slice .full 0 []), (.str []), (.str []), (.int .i64 0), (.int .i64 0), (.str []), (.slice .full 0 []), (.bool false), (.slice .full 0 []), (.slice .full 0 []), (.slice .full 0 [])] 13 1 [(0, (.s 40))])), (.op (some 42) none (.app 13 208 (.s 39) (.s 41))), (.op (some 8) none (.mv (.s 42)))]
abbrev Q135 : AC := .seq Q133 Q134
abbrev Q136 : AC := .seq Q132 Q135
abbrev Q137 : AC := .seq Q131 Q136
abbrev Q138 : AC := .seq Q12U Q137
abbrev Q139 : AC := .block 1 Q138
abbrev Q13A : AC := .seq Q12T Q139
abbrev Q13B : AC := .loop Q13A
abbrev Q13C : AC := .block 0 Q13B
abbrev Q13D : AC := .run [(.op (some 6) none (.mv (.k (.slice .full 0 [])))), (.op (some 7) none (.mv (.k (.slice .full 0 []))))]
abbrev Q13E : AC := .seq Q13D .ret
abbrev Q13F : AC := .seq Q13C Q13E
abbrev Q13G : AC := .seq Q12Q Q13F
abbrev Q13H : AC := .seq Q12P Q13G
abbrev Q13I : AC := .run [(.op (some 1) none (.box (.s 0))), (.op (some 2) none (.alloc [(.int .i64 0), (.int .i64 0), (.str []), (.slice .full 0 [])]))]
abbrev Q13J : AC := .run [(.op (some 6) none (.faddr (.s 1) 3)), (.op (some 7) none (.load (.s 6) false 1)), (.op (some 3) none (.mv (.s 7)))]
abbrev Q13K : AC := .run [(.op (some 8) none (.faddr (.s 1) 3)), (.op none none (.store (.s 8) (.k (.slice .full 0 [])) 1))]
abbrev Q13L : AC := .run [(.op (some 9) none (.mv (.s 3))), (.op (some 10) none (.len (.s 9))), (.op (some 11) none (.mv (.k (.int .i64 0))))]
abbrev Q13M : AC := .run [(.op (some 12) none (.bin .lss (.s 11) (.s 10)))]
abbrev Q13N : AC := .cond (.s 12) .skip (.exit 0)
abbrev Q13O : AC := .run [(.op (some 13) none (.iaddr (.s 9) (.s 11) 4)), (.op (some 14) none (.load (.s 13) true 4)), (.op (some 5) none (.alloc [(.int .i64 0), (.int .i64 0), (.str []), (.slice .full 0 [])])), (.op none none (.store (.s 5) (.s 14) 4))]
abbrev Q13P : AC := .par [(.op (some 15) none (.faddr (.s 1) 3)), (.op (some 16) none (.load (.s 15) false 1)), (.op (some 17) none (.load (.s 5) true 4)), (.call (some 18) none n_tree_expr [(.s 17)]), (.op (some 19) none (.bslice [(.int .i64 0), (.int .i64 0), (.str []), (.slice .full 0 [])] 4 1 [(0, (.s 18))])), (.op (some 20) none (.app 4 56 (.s 16) (.s 19))), (.op (some 21) none (.faddr (.s 1) 3)), (.op none none (.store (.s 21) (.s 20) 1))] [(2, 0), (3, 0), (0, 0), (1, 1), (4, 0), (5, 0), (6, 0), (7, 0)]
abbrev Q13Q : AC := .seq Q13O Q13P
abbrev Q13R : AC := .block 1 Q13Q
abbrev Q13S : AC := .run [(.op (some 22) none (.bin .add (.s 11) (.k (.int .i64 1)))), (.op (some 11) none (.mv (.s 22)))]
abbrev Q13T : AC := .seq Q13R Q13S
abbrev Q13U : AC := .seq Q13N Q13T
abbrev Q13V : AC := .seq Q13M Q13U
abbrev Q13W : AC := .loop Q13V
abbrev Q13X : AC := .block 0 Q13W
abbrev Q13Y : AC := .seq Q13L Q13X
abbrev Q13Z : AC := .run [(.op (some 23) none (.load (.s 1) true 4)), (.op none none (.store (.s 2) (.s 23) 4))]
abbrev Q140 : AC := .seq Q13Z .ret
abbrev Q141 : AC := .seq Q13Y Q140
abbrev Q142 : AC := .seq Q13K Q141
abbrev Q143 : AC := .seq Q13J Q142
abbrev Q144 : AC := .seq Q13I Q143
abbrev Q145 : AC := .run [(.op (some 4) none (.mv (.k (.int .i64 0))))]
abbrev Q146 : AC := .run [(.op (some 5) none (.mv (.k (.int .i64 0))))]
abbrev Q147 : AC := .run [(.op (some 6) none (.mv (.s 5))), (.op (some 7) none (.mv (.s 0))), (.op (some 8) none (.slen (.s 7))), (.op (some 9) none (.bin .lss (.s 6) (.s 8))), (.op (some 10) none (.mv (.s 9))), (.op (some 11) (some (10, true)) (.mv (.s 0))), (.op (some 12) (some (10, true)) (.mv (.s 5))), (.op (some 13) (some (10, true)) (.sidx (.s 11) (.s 12))), (.call (some 14) (some (10, true)) n_ref1_digit [(.s 13)]), (.op (some 15) (some (10, true)) (.mv (.s 14))), (.op (some 16) (some (15, false)) (.mv (.s 1))), (.op (some 17) (some (15, false)) (.mv (.s 16))), (.op (some 18) (some (17, true)) (.mv (.s 0))), (.op (some 19) (some (17, true)) (.mv (.s 5))), (.op (some 20) (some (17, true)) (.sidx (.s 18) (.s 19))), (.call (some 21) (some (17, true)) n_ref1_small [(.s 20)]), (.op (some 22) (some (15, false)) (.pick (.s 17) (.s 21) (.k (.bool false)))), (.op (some 23) (some (10, true)) (.pick (.s 15) (.k (.bool true)) (.s 22))), (.op (some 24) none (.pick (.s 10) (.s 23) (.k (.bool false))))]
abbrev Q148 : AC := .cond (.s 24) .skip (.exit 0)
abbrev Q149 : AC := .seq Q147 Q148
abbrev Q14A : AC := .run [(.op (some 25) none (.mv (.s 5))), (.op (some 26) none (.bin .add (.s 25) (.k (.int .i64 1)))), (.op (some 5) none (.mv (.s 26)))]
abbrev Q14B : AC := .block 1 Q14A
abbrev Q14C : AC := .seq Q149 Q14B
abbrev Q14D : AC := .loop Q14C
abbrev Q14E : AC := .block 0 Q14D
abbrev Q14F : AC := .run [(.op (some 27) none (.mv (.s 5))), (.op (some 4) none (.mv (.s 27)))]
abbrev Q14G : AC := .seq Q14F .ret
abbrev Q14H : AC := .seq Q14E Q14G
abbrev Q14I : AC := .seq Q146 Q14H
abbrev Q14J : AC := .seq Q145 Q14I
abbrev Q14K : AC := .run [(.op (some 2) none (.mv (.k (.int .i64 0)))), (.op (some 3) none (.mv (.k (.bool false))))]
abbrev Q14L : AC := .run [(.op (some 6) none (.mv (.s 0))), (.op (some 7) none (.slen (.s 6))), (.op (some 8) none (.bin .gtr (.s 7) (.k (.int .i64 19))))]
abbrev Q14M : AC := .run [(.op (some 2) none (.mv (.k (.int .i64 0)))), (.op (some 3) none (.mv (.k (.bool false))))]
abbrev Q14N : AC := .seq Q14M .ret
abbrev Q14O : AC := .cond (.s 8) Q14N .skip
abbrev Q14P : AC := .seq Q14L Q14O
abbrev Q14Q : AC := .run [(.op (some 4) none (.mv (.k (.int .u64 0))))]
abbrev Q14R : AC := .run [(.op (some 5) none (.mv (.k (.int .i64 0))))]
abbrev Q14S : AC := .run [(.op (some 9) none (.mv (.s 5))), (.op (some 10) none (.mv (.s 0))), (.op (some 11) none (.slen (.s 10))), (.op (some 12) none (.bin .lss (.s 9) (.s 11)))]
abbrev Q14T : AC := .cond (.s 12) .skip (.exit 0)
abbrev Q14U : AC := .seq Q14S Q14T
abbrev Q14V : AC := .run [(.op (some 15) none (.mv (.s 4))), (.op (some 16) none (.bin .mul (.s 15) (.k (.int .u64 10)))), (.op (some 17) none (.mv (.s 0))), (.op (some 18) none (.mv (.s 5))), (.op (some 19) none (.sidx (.s 17) (.s 18))), (.op (some 20) none (.bin .sub (.s 19) (.k (.int .u8 48)))), (.op (some 21) none (.conv .u64 (.s 20))), (.op (some 22) none (.bin .add (.s 16) (.s 21))), (.op (some 4) none (.mv (.s 22)))]
abbrev Q14W : AC := .block 1 Q14V
abbrev Q14X : AC := .run [(.op (some 13) none (.mv (.s 5))), (.op (some 14) none (.bin .add (.s 13) (.k (.int .i64 1)))), (.op (some 5) none (.mv (.s 14)))]
abbrev Q14Y : AC := .seq Q14W Q14X
abbrev Q14Z : AC := .seq Q14U Q14Y
abbrev Q150 : AC := .loop Q14Z
abbrev Q151 : AC := .block 0 Q150
abbrev Q152 : AC := .seq Q14R Q151
abbrev Q153 : AC := .run [(.op (some 23) none (.mv (.s 4))), (.op (some 24) none (.conv .i64 (.s 23))), (.op (some 25) none (.mv (.s 4))), (.op (some 26) none (.bin .leq (.s 25) (.k (.int .u64 9223372036854775807)))), (.op (some 2) none (.mv (.s 24))), (.op (some 3) none (.mv (.s 26)))]
abbrev Q154 : AC := .seq Q153 .ret
abbrev Q155 : AC := .seq Q152 Q154
abbrev Q156 : AC := .seq Q14Q Q155
abbrev Q157 : AC := .seq Q14P Q156
abbrev Q158 : AC := .seq Q14K Q157
abbrev Q159 : AC := .run [(.op (some 2) none (.mv (.k (.int .i64 0))))]
abbrev Q15A : AC := .run [(.op (some 7) none (.bslice [(.str [])] 1 6 [(0, (.k (.str [61, 61]))), (1, (.k (.str [33, 61]))), (2, (.k (.str [60, 61]))), (3, (.k (.str [62, 61]))), (4, (.k (.str [38, 38]))), (5, (.k (.str [124, 124])))])), (.op (some 8) none (.len (.s 7))), (.op (some 9) none (.mv (.k (.int .i64 0))))]
abbrev Q15B : AC := .run [(.op (some 10) none (.bin .lss (.s 9) (.s 8)))]
abbrev Q15C : AC := .cond (.s 10) .skip (.exit 0)
abbrev Q15D : AC := .run [(.op (some 11) none (.iaddr (.s 7) (.s 9) 1)), (.op (some 12) none (.load (.s 11) false 1)), (.op (some 4) none (.mv (.s 12)))]
abbrev Q15E : AC := .run [(.op (some 13) none (.mv (.s 0))), (.op (some 14) none (.slen (.s 13))), (.op (some 15) none (.bin .geq (.s 14) (.k (.int .i64 2)))), (.op (some 16) none (.mv (.s 15))), (.op (some 17) (some (16, true)) (.mv (.s 0))), (.op (some 18) (some (16, true)) (.sslc (.s 17) none (some (.k (.int .i64 2))))), (.op (some 19) (some (16, true)) (.mv (.s 4))), (.op (some 20) (some (16, true)) (.bin .eql (.s 18) (.s 19))), (.op (some 21) none (.pick (.s 16) (.s 20) (.k (.bool false))))]
abbrev Q15F : AC := .run [(.op (some 2) none (.mv (.k (.int .i64 2))))]
abbrev Q15G : AC := .seq Q15F .ret
abbrev Q15H : AC := .cond (.s 21) Q15G .skip
abbrev Q15I : AC := .seq Q15E Q15H
abbrev Q15J : AC := .seq Q15D Q15I
abbrev Q15K : AC := .block 1 Q15J
abbrev Q15L : AC := .run [(.op (some 22) none (.bin .add (.s 9) (.k (.int .i64 1)))), (.op (some 9) none (.mv (.s 22)))]
abbrev Q15M : AC := .seq Q15K Q15L
abbrev Q15N : AC := .seq Q15C Q15M
abbrev Q15O : AC := .seq Q15B Q15N
abbrev Q15P : AC := .loop Q15O
abbrev Q15Q : AC := .block 0 Q15P
abbrev Q15R : AC := .seq Q15A Q15Q
abbrev Q15S : AC := .run [(.op (some 23) none (.bslt [(.int .u8 0)] 1 16 [(0, (.k (.int .u8 40))), (1, (.k (.int .u8 41))), (2, (.k (.int .u8 123))), (3, (.k (.int .u8 125))), (4, (.k (.int .u8 44))), (5, (.k (.int .u8 59))), (6, (.k (.int .u8 58))), (7, (.k (.int .u8 61))), (8, (.k (.int .u8 33))), (9, (.k (.int .u8 60))), (10, (.k (.int .u8 62))), (11, (.k (.int .u8 43))), (12, (.k (.int .u8 45))), (13, (.k (.int .u8 42))), (14, (.k (.int .u8 47))), (15, (.k (.int .u8 37)))])), (.op (some 24) none (.frz (.s 23))), (.op (some 25) none (.len (.s 24))), (.op (some 26) none (.mv (.k (.int .i64 0))))]
abbrev Q15T : AC := .run [(.op (some 27) none (.bin .lss (.s 26) (.s 25)))]
abbrev Q15U : AC := .cond (.s 27) .skip (.exit 2)
abbrev Q15V : AC := .run [(.op (some 28) none (.iaddr (.s 24) (.s 26) 1)), (.op (some 29) none (.load (.s 28) false 1)), (.op (some 6) none (.mv (.s 29)))]
abbrev Q15W : AC := .run [(.op (some 30) none (.mv (.s 0))), (.op (some 31) none (.sidx (.s 30) (.k (.int .i64 0)))), (.op (some 32) none (.mv (.s 6))), (.op (some 33) none (.bin .eql (.s 31) (.s 32)))]
abbrev Q15X : AC := .run [(.op (some 2) none (.mv (.k (.int .i64 1))))]
abbrev Q15Y : AC := .seq Q15X .ret
abbrev Q15Z : AC := .cond (.s 33) Q15Y .skip
abbrev Q160 : AC := .seq Q15W Q15Z
abbrev Q161 : AC := .seq Q15V Q160
abbrev Q162 : AC := .block 3 Q161
abbrev Q163 : AC := .run [(.op (some 34) none (.bin .add (.s 26) (.k (.int .i64 1)))), (.op (some 26) none (.mv (.s 34)))]
abbrev Q164 : AC := .seq Q162 Q163
abbrev Q165 : AC := .seq Q15U Q164
abbrev Q166 : AC := .seq Q15T Q165
abbrev Q167 : AC := .loop Q166
abbrev Q168 : AC := .block 2 Q167
abbrev Q169 : AC := .seq Q15S Q168
abbrev Q16A : AC := .run [(.op (some 2) none (.mv (.k (.int .i64 0))))]
abbrev Q16B : AC := .seq Q16A .ret
abbrev Q16C : AC := .seq Q169 Q16B
abbrev Q16D : AC := .seq Q15R Q16C
abbrev Q16E : AC := .seq Q159 Q16D
abbrev Q16F : AC := .run [(.op (some 6) none (.alloc [(.int .i64 0), (.int .i64 0), (.slice .full 0 []), (.str []), (.str []), (.int .i64 0), (.int .i64 0), (.str []), (.slice .full 0 []), (.bool false), (.slice .full 0 []), (.slice .full 0 []), (.slice .full 0 [])]))]
abbrev Q16G : AC := .run [(.op (some 10) none (.mv (.s 0))), (.call (some 11) none n_ref3_P_begins [(.s 10)]), (.op (some 12) none (.un .not (.s 11)))]
abbrev Q16H : AC := .run [(.op (some 13) none (.mv (.s 0))), (.call (some 14) none n_ref3_P_fail [(.s 13), (.k (.int .i64 3))])]
abbrev Q16I : AC := .run [(.op (some 15) none (.build [(.int .i64 0), (.int .i64 0), (.slice .full 0 []), (.str []), (.str []), (.int .i64 0), (.int .i64 0), (.str []), (.slice .full 0 []), (.bool false), (.slice .full 0 []), (.slice .full 0 []), (.slice .full 0 [])] [])), (.op none none (.store (.s 6) (.s 15) 13))]
abbrev Q16J : AC := .seq Q16I .ret
abbrev Q16K : AC := .seq Q16H Q16J
abbrev Q16L : AC := .cond (.s 12) Q16K .skip
abbrev Q16M : AC := .seq Q16G Q16L
abbrev Q16N : AC := .run [(.op (some 16) none (.mv (.s 0))), (.op (some 17) none (.nilck (.s 16))), (.op (some 18) none (.faddr (.s 17) 4)), (.op (some 19) none (.load (.s 18) false 1)), (.op (some 20) none (.bin .eql (.s 19) (.k (.int .i64 200)))), (.op (some 21) none (.mv (.s 20))), (.op (some 22) (some (21, false)) (.mv (.s 2))), (.op (some 23) (some (21, false)) (.bin .gtr (.s 22) (.k (.int .i64 12)))), (.op (some 24) none (.pick (.s 21) (.k (.bool true)) (.s 23)))]
abbrev Q16O : AC := .run [(.op (some 25) none (.mv (.s 0))), (.call (some 26) none n_ref3_P_fail [(.s 25), (.k (.int .i64 4))])]
abbrev Q16P : AC := .run [(.op (some 27) none (.build [(.int .i64 0), (.int .i64 0), (.slice .full 0 []), (.str []), (.str []), (.int .i64 0), (.int .i64 0), (.str []), (.slice .full 0 []), (.bool false), (.slice .full 0 []), (.slice .full 0 []), (.slice .full 0 [])] [])), (.op none none (.store (.s 6) (.s 27) 13))]
abbrev Q16Q : AC := .seq Q16P .ret
abbrev Q16R : AC := .seq Q16O Q16Q
abbrev Q16S : AC := .cond (.s 24) Q16R .skip
abbrev Q16T : AC := .seq Q16N Q16S
abbrev Q16U : AC := .run [(.op (some 28) none (.mv (.s 0))), (.op (some 29) none (.nilck (.s 28))), (.op (some 30) none (.faddr (.s 29) 4)), (.op (some 31) none (.load (.s 30) false 1)), (.op (some 32) none (.bin .add (.s 31) (.k (.int .i64 1)))), (.op (some 33) none (.nilck (.s 28))), (.op (some 34) none (.faddr (.s 33) 4)), (.op none none (.store (.s 34) (.s 32) 1))]
abbrev Q16V : AC := .run [(.op (some 35) none (.build [(.int .i64 0), (.int .i64 0), (.slice .full 0 []), (.str []), (.str []), (.int .i64 0), (.int .i64 0), (.str []), (.slice .full 0 []), (.bool false), (.slice .full 0 []), (.slice .full 0 []), (.slice .full 0 [])] [])), (.op (some 7) none (.alloc [(.int .i64 0), (.int .i64 0), (.slice .full 0 []), (.str []), (.str []), (.int .i64 0), (.int .i64 0), (.str []), (.slice .full 0 []), (.bool false), (.slice .full 0 []), (.slice .full 0 []), (.slice .full 0 [])])), (.op none none (.store (.s 7) (.s 35) 13))]
abbrev Q16W : AC := .run [(.op (some 36) none (.mv (.s 0))), (.op (some 37) none (.nilck (.s 36))), (.op (some 38) none (.faddr (.s 37) 4)), (.op (some 39) none (.load (.s 38) false 1)), (.op (some 8) none (.mv (.s 39)))]
abbrev Q16X : AC := .run [(.op (some 40) none (.mv (.s 0))), (.call (some 41) none n_ref3_P_is [(.s 40), (.k (.str [119, 104, 105, 108, 101]))]), (.op (some 9) none (.mv (.s 41)))]
abbrev Q16Y : AC := .run [(.op (some 42) none (.mv (.s 0))), (.call (some 43) none n_ref3_P_take [(.s 42), (.k (.str [105, 102]))]), (.op (some 44) none (.mv (.s 43))), (.op (some 45) (some (44, false)) (.mv (.s 0))), (.call (some 46) (some (44, false)) n_ref3_P_take [(.s 45), (.k (.str [119, 104, 105, 108, 101]))]), (.op (some 47) none (.pick (.s 44) (.k (.bool true)) (.s 46)))]
abbrev Q16Z : AC := .run [(.op (some 48) none (.faddr (.s 7) 1)), (.op none none (.store (.s 48) (.k (.int .i64 5)) 1))]
abbrev Q170 : AC := .run [(.op (some 49) none (.mv (.s 0))), (.call (some 50) none n_ref3_P_want [(.s 49), (.k (.str [40]))])]
abbrev Q171 : AC := .run [(.op (some 51) none (.mv (.s 0))), (.call (some 52) none n_ref3_P_expr [(.s 51)]), (.op (some 53) none (.faddr (.s 7) 5)), (.op none none (.store (.s 53) (.s 52) 4))]
abbrev Q172 : AC := .run [(.op (some 54) none (.mv (.s 0))), (.call (some 55) none n_ref3_P_want [(.s 54), (.k (.str [41]))])]
abbrev Q173 : AC := .run [(.op (some 57) none (.mv (.s 0))), (.op (some 58) none (.mv (.s 2))), (.op (some 59) none (.bin .add (.s 58) (.k (.int .i64 1)))), (.call (some 60) none n_ref3_P_block [(.s 57), (.s 59), (.k (.bool false))]), (.op (some 56) none (.mv (.s 60))), (.op (some 61) none (.ext (.s 56) 0)), (.op (some 62) none (.ext (.s 56) 1)), (.op (some 63) none (.faddr (.s 7) 11)), (.op none none (.store (.s 63) (.s 61) 1))]
abbrev Q174 : AC := .run [(.op (some 64) none (.mv (.s 9)))]
abbrev Q175 : AC := .run [(.op (some 65) none (.faddr (.s 7) 1)), (.op none none (.store (.s 65) (.k (.int .i64 6)) 1))]
abbrev Q176 : AC := .run [(.op (some 66) none (.mv (.s 0))), (.call (some 67) none n_ref3_P_take [(.s 66), (.k (.str [101, 108, 115, 101]))])]
abbrev Q177 : AC := .run [(.op (some 69) none (.mv (.s 0))), (.op (some 70) none (.mv (.s 2))), (.op (some 71) none (.bin .add (.s 70) (.k (.int .i64 1)))), (.call (some 72) none n_ref3_P_block [(.s 69), (.s 71), (.k (.bool false))]), (.op (some 68) none (.mv (.s 72))), (.op (some 73) none (.ext (.s 68) 0)), (.op (some 74) none (.ext (.s 68) 1)), (.op (some 75) none (.faddr (.s 7) 12)), (.op none none (.store (.s 75) (.s 73) 1))]
abbrev Q178 : AC := .cond (.s 67) Q177 .skip
abbrev Q179 : AC := .seq Q176 Q178
abbrev Q17A : AC := .cond (.s 64) Q175 Q179
abbrev Q17B : AC := .seq Q174 Q17A
abbrev Q17C : AC := .seq Q173 Q17B
abbrev Q17D : AC := .seq Q172 Q17C
abbrev Q17E : AC := .seq Q171 Q17D
abbrev Q17F : AC := .seq Q170 Q17E
abbrev Q17G : AC := .seq Q16Z Q17F
abbrev Q17H : AC := .run [(.op (some 76) none (.mv (.s 0))), (.call (some 77) none n_ref3_P_small [(.s 76)]), (.op none none (.store (.s 7) (.s 77) 13))]
abbrev Q17I : AC := .run [(.op (some 78) none (.mv (.s 0))), (.call (some 79) none n_ref3_P_want [(.s 78), (.k (.str [59]))])]
abbrev Q17J : AC := .seq Q17H Q17I
abbrev Q17K : AC := .cond (.s 47) Q17G Q17J
abbrev Q17L : AC := .seq Q16Y Q17K
abbrev Q17M : AC := .run [(.op (some 80) none (.mv (.s 8))), (.op (some 81) none (.mv (.s 1))), (.op (some 82) none (.faddr (.s 7) 0)), (.op none none (.store (.s 82) (.s 80) 1)), (.op (some 83) none (.faddr (.s 7) 2)), (.op none none (.store (.s 83) (.s 81) 1))]
abbrev Q17N : AC := .run [(.op (some 84) none (.load (.s 7) true 13)), (.op none none (.store (.s 6) (.s 84) 13))]
abbrev Q17O : AC := .seq Q17N .ret
abbrev Q17P : AC := .seq Q17M Q17O
abbrev Q17Q : AC := .seq Q17L Q17P
abbrev Q17R : AC := .seq Q16X Q17Q
abbrev Q17S : AC := .seq Q16W Q17R
abbrev Q17T : AC := .seq Q16V Q17S
abbrev Q17U : AC := .seq Q16U Q17T
abbrev Q17V : AC := .seq Q16T Q17U
abbrev Q17W : AC := .seq Q16M Q17V
abbrev Q17X : AC := .seq Q16F Q17W
abbrev Q17Y : AC := .run [(.op (some 2) none (.alloc [(.int .i64 0), (.int .i64 0), (.str []), (.slice .full 0 [])]))]
abbrev Q17Z : AC := .run [(.op (some 5) none (.mv (.s 0))), (.call (some 6) none n_parse_reader_peek [(.s 5)]), (.op (some 3) none (.alloc [(.int .i64 0), (.str []), (.int .i64 0), (.int .i64 0)])), (.op none none (.store (.s 3) (.s 6) 4))]
abbrev Q180 : AC := .run [(.op (some 7) none (.mv (.s 0))), (.call (some 8) none n_parse_reader_good [(.s 7)]), (.op (some 9) none (.un .not (.s 8)))]
abbrev Q181 : AC := .run [(.op (some 10) none (.build [(.int .i64 0), (.int .i64 0), (.str []), (.slice .full 0 [])] [])), (.op none none (.store (.s 2) (.s 10) 4))]
abbrev Q182 : AC := .seq Q181 .ret
abbrev Q183 : AC := .cond (.s 9) Q182 .skip
abbrev Q184 : AC := .seq Q180 Q183
abbrev Q185 : AC := .run [(.op (some 12) none (.faddr (.s 3) 0)), (.op (some 13) none (.load (.s 12) false 1)), (.op (some 14) none (.bin .eql (.s 13) (.k (.int .i64 2)))), (.op (some 11) none (.mv (.s 14)))]
abbrev Q186 : AC := .run [(.op (some 15) none (.mv (.s 0))), (.op (some 16) none (.nilck (.s 15))), (.op (some 17) none (.faddr (.s 16) 1)), (.op (some 18) none (.load (.s 17) false 1)), (.op (some 19) none (.bin .add (.s 18) (.k (.int .i64 1)))), (.op (some 20) none (.nilck (.s 15))), (.op (some 21) none (.faddr (.s 20) 1)), (.op none none (.store (.s 21) (.s 19) 1))]
abbrev Q187 : AC := .run [(.op (some 22) none (.faddr (.s 3) 2)), (.op (some 23) none (.load (.s 22) false 1)), (.op (some 24) none (.build [(.int .i64 0), (.int .i64 0), (.str []), (.slice .full 0 [])] [(0, (1, (.k (.int .i64 1)))), (1, (1, (.s 23)))])), (.op none none (.store (.s 2) (.s 24) 4))]
abbrev Q188 : AC := .seq Q187 .ret
abbrev Q189 : AC := .seq Q186 Q188
abbrev Q18A : AC := .run [(.op (some 26) none (.faddr (.s 3) 0)), (.op (some 27) none (.load (.s 26) false 1)), (.op (some 28) none (.bin .eql (.s 27) (.k (.int .i64 1)))), (.op (some 25) none (.mv (.s 28)))]
abbrev Q18B : AC := .run [(.op (some 29) none (.mv (.s 0))), (.op (some 30) none (.nilck (.s 29))), (.op (some 31) none (.faddr (.s 30) 1)), (.op (some 32) none (.load (.s 31) false 1)), (.op (some 33) none (.bin .add (.s 32) (.k (.int .i64 1)))), (.op (some 34) none (.nilck (.s 29))), (.op (some 35) none (.faddr (.s 34) 1)), (.op none none (.store (.s 35) (.s 33) 1))]
abbrev Q18C : AC := .run [(.op (some 36) none (.faddr (.s 3) 1)), (.op (some 37) none (.load (.s 36) false 1)), (.op (some 38) none (.build [(.int .i64 0), (.int .i64 0), (.str []), (.slice .full 0 [])] [(0, (1, (.k (.int .i64 2)))), (2, (1, (.s 37)))])), (.op none none (.store (.s 2) (.s 38) 4))]
abbrev Q18D : AC := .seq Q18C .ret
abbrev Q18E : AC := .seq Q18B Q18D
abbrev Q18F : AC := .run [(.op (some 40) none (.mv (.s 0))), (.call (some 41) none n_parse_reader_take [(.s 40), (.k (.str [40]))]), (.op (some 39) none (.mv (.s 41)))]
abbrev Q18G : AC := .run [(.op (some 42) none (.mv (.s 0))), (.call (some 43) none n_parse_reader_two [(.s 42), (.k (.int .i64 1))]), (.op (some 4) none (.alloc [(.int .i64 0), (.int .i64 0), (.str []), (.slice .full 0 [])])), (.op none none (.store (.s 4) (.s 43) 4))]
abbrev Q18H : AC := .run [(.op (some 44) none (.mv (.s 0))), (.call (some 45) none n_parse_reader_want [(.s 44), (.k (.str [41]))])]
abbrev Q18I : AC := .run [(.op (some 46) none (.load (.s 4) true 4)), (.op none none (.store (.s 2) (.s 46) 4))]
abbrev Q18J : AC := .seq Q18I .ret
abbrev Q18K : AC := .seq Q18H Q18J
abbrev Q18L : AC := .seq Q18G Q18K
abbrev Q18M : AC := .run [(.op (some 48) none (.mv (.s 0))), (.call (some 49) none n_parse_reader_take [(.s 48), (.k (.str [45]))]), (.op (some 47) none (.mv (.s 49)))]
abbrev Q18N : AC := .run [(.op (some 50) none (.mv (.s 0))), (.call (some 51) none n_parse_reader_one [(.s 50)]), (.op (some 52) none (.bslice [(.int .i64 0), (.int .i64 0), (.str []), (.slice .full 0 [])] 4 1 [(0, (.s 51))])), (.op (some 53) none (.build [(.int .i64 0), (.int .i64 0), (.str []), (.slice .full 0 [])] [(0, (1, (.k (.int .i64 3)))), (3, (1, (.s 52)))])), (.op none none (.store (.s 2) (.s 53) 4))]
abbrev Q18O : AC := .seq Q18N .ret
abbrev Q18P : AC := .run [(.op (some 55) none (.mv (.s 0))), (.call (some 56) none n_parse_reader_take [(.s 55), (.k (.str [33]))]), (.op (some 54) none (.mv (.s 56)))]
abbrev Q18Q : AC := .run [(.op (some 57) none (.mv (.s 0))), (.call (some 58) none n_parse_reader_one [(.s 57)]), (.op (some 59) none (.bslice [(.int .i64 0), (.int .i64 0), (.str []), (.slice .full 0 [])] 4 1 [(0, (.s 58))])), (.op (some 60) none (.build [(.int .i64 0), (.int .i64 0), (.str []), (.slice .full 0 [])] [(0, (1, (.k (.int .i64 4)))), (3, (1, (.s 59)))])), (.op none none (.store (.s 2) (.s 60) 4))]
abbrev Q18R : AC := .seq Q18Q .ret
abbrev Q18S : AC := .cond (.s 54) Q18R .skip
abbrev Q18T : AC := .seq Q18P Q18S
abbrev Q18U : AC := .cond (.s 47) Q18O Q18T
abbrev Q18V : AC := .seq Q18M Q18U
abbrev Q18W : AC := .cond (.s 39) Q18L Q18V
abbrev Q18X : AC := .seq Q18F Q18W
abbrev Q18Y : AC := .cond (.s 25) Q18E Q18X
abbrev Q18Z : AC := .seq Q18A Q18Y
abbrev Q190 : AC := .cond (.s 11) Q189 Q18Z
abbrev Q191 : AC := .seq Q185 Q190
abbrev Q192 : AC := .block 0 Q191
abbrev Q193 : AC := .run [(.op (some 61) none (.mv (.s 0))), (.call (some 62) none n_parse_reader_bad [(.s 61), (.k (.int .i64 3))])]
abbrev Q194 : AC := .run [(.op (some 63) none (.build [(.int .i64 0), (.int .i64 0), (.str []), (.slice .full 0 [])] [])), (.op none none (.store (.s 2) (.s 63) 4))]
abbrev Q195 : AC := .seq Q194 .ret
abbrev Q196 : AC := .seq Q193 Q195
abbrev Q197 : AC := .seq Q192 Q196
abbrev Q198 : AC := .seq Q184 Q197
abbrev Q199 : AC := .seq Q17Z Q198
abbrev Q19A : AC := .seq Q17Y Q199
abbrev Q19B : AC := .run [(.op (some 1) none (.box (.s 0))), (.op (some 2) none (.mv (.k (.int .i64 0)))), (.op (some 3) none (.mv (.k (.int .i64 0))))]
abbrev Q19C : AC := .run [(.op (some 4) none (.faddr (.s 1) 0)), (.op (some 5) none (.load (.s 4) false 1)), (.op (some 6) none (.bin .neq (.s 5) (.k (.int .i64 4))))]
abbrev Q19D : AC := .run [(.op (some 2) none (.mv (.k (.int .i64 0)))), (.op (some 3) none (.mv (.k (.int .i64 0))))]
abbrev Q19E : AC := .seq Q19D .ret
abbrev Q19F : AC := .cond (.s 6) Q19E .skip
abbrev Q19G : AC := .seq Q19C Q19F
abbrev Q19H : AC := .run [(.op (some 7) none (.faddr (.s 1) 1)), (.op (some 8) none (.load (.s 7) false 1))]
abbrev Q19I : AC := .run [(.op (some 10) none (.bin .eql (.s 8) (.k (.str [124, 124])))), (.op (some 9) none (.mv (.s 10)))]
abbrev Q19J : AC := .run [(.op (some 2) none (.mv (.k (.int .i64 17)))), (.op (some 3) none (.mv (.k (.int .i64 1))))]
abbrev Q19K : AC := .seq Q19J .ret
abbrev Q19L : AC := .run [(.op (some 12) none (.bin .eql (.s 8) (.k (.str [38, 38])))), (.op (some 11) none (.mv (.s 12)))]
abbrev Q19M : AC := .run [(.op (some 2) none (.mv (.k (.int .i64 16)))), (.op (some 3) none (.mv (.k (.int .i64 2))))]
abbrev Q19N : AC := .seq Q19M .ret
abbrev Q19O : AC := .run [(.op (some 14) none (.bin .eql (.s 8) (.k (.str [61, 61])))), (.op (some 13) none (.mv (.s 14)))]
abbrev Q19P : AC := .run [(.op (some 2) none (.mv (.k (.int .i64 14)))), (.op (some 3) none (.mv (.k (.int .i64 3))))]
abbrev Q19Q : AC := .seq Q19P .ret
abbrev Q19R : AC := .run [(.op (some 16) none (.bin .eql (.s 8) (.k (.str [33, 61])))), (.op (some 15) none (.mv (.s 16)))]
abbrev Q19S : AC := .run [(.op (some 2) none (.mv (.k (.int .i64 15)))), (.op (some 3) none (.mv (.k (.int .i64 3))))]
abbrev Q19T : AC := .seq Q19S .ret
abbrev Q19U : AC := .run [(.op (some 18) none (.bin .eql (.s 8) (.k (.str [60])))), (.op (some 17) none (.mv (.s 18)))]
abbrev Q19V : AC := .run [(.op (some 2) none (.mv (.k (.int .i64 10)))), (.op (some 3) none (.mv (.k (.int .i64 4))))]
abbrev Q19W : AC := .seq Q19V .ret
abbrev Q19X : AC := .run [(.op (some 20) none (.bin .eql (.s 8) (.k (.str [60, 61])))), (.op (some 19) none (.mv (.s 20)))]
abbrev Q19Y : AC := .run [(.op (some 2) none (.mv (.k (.int .i64 11)))), (.op (some 3) none (.mv (.k (.int .i64 4))))]
abbrev Q19Z : AC := .seq Q19Y .ret
abbrev Q1A0 : AC := .run [(.op (some 22) none (.bin .eql (.s 8) (.k (.str [62])))), (.op (some 21) none (.mv (.s 22)))]
abbrev Q1A1 : AC := .run [(.op (some 2) none (.mv (.k (.int .i64 12)))), (.op (some 3) none (.mv (.k (.int .i64 4))))]
abbrev Q1A2 : AC := .seq Q1A1 .ret
abbrev Q1A3 : AC := .run [(.op (some 24) none (.bin .eql (.s 8) (.k (.str [62, 61])))), (.op (some 23) none (.mv (.s 24)))]
abbrev Q1A4 : AC := .run [(.op (some 2) none (.mv (.k (.int .i64 13)))), (.op (some 3) none (.mv (.k (.int .i64 4))))]
abbrev Q1A5 : AC := .seq Q1A4 .ret
abbrev Q1A6 : AC := .run [(.op (some 26) none (.bin .eql (.s 8) (.k (.str [43])))), (.op (some 25) none (.mv (.s 26)))]
abbrev Q1A7 : AC := .run [(.op (some 2) none (.mv (.k (.int .i64 8)))), (.op (some 3) none (.mv (.k (.int .i64 5))))]
abbrev Q1A8 : AC := .seq Q1A7 .ret
abbrev Q1A9 : AC := .run [(.op (some 28) none (.bin .eql (.s 8) (.k (.str [45])))), (.op (some 27) none (.mv (.s 28)))]
abbrev Q1AA : AC := .run [(.op (some 2) none (.mv (.k (.int .i64 9)))), (.op (some 3) none (.mv (.k (.int .i64 5))))]
abbrev Q1AB : AC := .seq Q1AA .ret
abbrev Q1AC : AC := .run [(.op (some 30) none (.bin .eql (.s 8) (.k (.str [42])))), (.op (some 29) none (.mv (.s 30)))]
abbrev Q1AD : AC := .run [(.op (some 2) none (.mv (.k (.int .i64 5)))), (.op (some 3) none (.mv (.k (.int .i64 6))))]
abbrev Q1AE : AC := .seq Q1AD .ret
abbrev Q1AF : AC := .run [(.op (some 32) none (.bin .eql (.s 8) (.k (.str [47])))), (.op (some 31) none (.mv (.s 32)))]
abbrev Q1AG : AC := .run [(.op (some 2) none (.mv (.k (.int .i64 6)))), (.op (some 3) none (.mv (.k (.int .i64 6))))]
abbrev Q1AH : AC := .seq Q1AG .ret
abbrev Q1AI : AC := .run [(.op (some 34) none (.bin .eql (.s 8) (.k (.str [37])))), (.op (some 33) none (.mv (.s 34)))]
abbrev Q1AJ : AC := .run [(.op (some 2) none (.mv (.k (.int .i64 7)))), (.op (some 3) none (.mv (.k (.int .i64 6))))]
abbrev Q1AK : AC := .seq Q1AJ .ret
abbrev Q1AL : AC := .cond (.s 33) Q1AK .skip
abbrev Q1AM : AC := .seq Q1AI Q1AL
abbrev Q1AN : AC := .cond (.s 31) Q1AH Q1AM
abbrev Q1AO : AC := .seq Q1AF Q1AN
abbrev Q1AP : AC := .cond (.s 29) Q1AE Q1AO
abbrev Q1AQ : AC := .seq Q1AC Q1AP
abbrev Q1AR : AC := .cond (.s 27) Q1AB Q1AQ
abbrev Q1AS : AC := .seq Q1A9 Q1AR
abbrev Q1AT : AC := .cond (.s 25) Q1A8 Q1AS
abbrev Q1AU : AC := .seq Q1A6 Q1AT
abbrev Q1AV : AC := .cond (.s 23) Q1A5 Q1AU
abbrev Q1AW : AC := .seq Q1A3 Q1AV
abbrev Q1AX : AC := .cond (.s 21) Q1A2 Q1AW
abbrev Q1AY : AC := .seq Q1A0 Q1AX
abbrev Q1AZ : AC := .cond (.s 19) Q19Z Q1AY
abbrev Q1B0 : AC := .seq Q19X Q1AZ
abbrev Q1B1 : AC := .cond (.s 17) Q19W Q1B0
abbrev Q1B2 : AC := .seq Q19U Q1B1
abbrev Q1B3 : AC := .cond (.s 15) Q19T Q1B2
abbrev Q1B4 : AC := .seq Q19R Q1B3
abbrev Q1B5 : AC := .cond (.s 13) Q19Q Q1B4
abbrev Q1B6 : AC := .seq Q19O Q1B5
abbrev Q1B7 : AC := .cond (.s 11) Q19N Q1B6
abbrev Q1B8 : AC := .seq Q19L Q1B7
abbrev Q1B9 : AC := .cond (.s 9) Q19K Q1B8
abbrev Q1BA : AC := .seq Q19I Q1B9
abbrev Q1BB : AC := .block 0 Q1BA
abbrev Q1BC : AC := .seq Q19H Q1BB
abbrev Q1BD : AC := .run [(.op (some 2) none (.mv (.k (.int .i64 0)))), (.op (some 3) none (.mv (.k (.int .i64 0))))]
abbrev Q1BE : AC := .seq Q1BD .ret
abbrev Q1BF : AC := .seq Q1BC Q1BE
abbrev Q1BG : AC := .seq Q19G Q1BF
abbrev Q1BH : AC := .seq Q19B Q1BG
abbrev Q1BI : AC := .run [(.op (some 0) none (.mv (.k (.slice .full 0 []))))]
abbrev Q1BJ : AC := .run [(.op (some 1) none (.bslice [(.str [])] 1 13 [(0, (.k (.str [103, 108, 111, 98, 97, 108]))), (1, (.k (.str [112, 114, 111, 99]))), (2, (.k (.str [118, 97, 114]))), (3, (.k (.str [114, 101, 102]))), (4, (.k (.str [105, 102]))), (5, (.k (.str [101, 108, 115, 101]))), (6, (.k (.str [119, 104, 105, 108, 101]))), (7, (.k (.str [98, 114, 101, 97, 107]))), (8, (.k (.str [99, 111, 110, 116, 105, 110, 117, 101]))), (9, (.k (.str [114, 101, 116, 117, 114, 110]))), (10, (.k (.str [103, 111, 116, 111]))), (11, (.k (.str [114, 101, 97, 100]))), (12, (.k (.str [112, 114, 105, 110, 116])))])), (.op (some 0) none (.mv (.s 1)))]
abbrev Q1BK : AC := .seq Q1BJ .ret
abbrev Q1BL : AC := .seq Q1BI Q1BK
abbrev Q1BM : AC := .run [(.op (some 2) none (.mv (.k (.slice .full 0 []))))]
abbrev Q1BN : AC := .run [(.op (some 3) none (.mv (.k (.slice .full 0 []))))]
abbrev Q1BO : AC := .par [(.op (some 4) none (.mv (.s 0))), (.call (some 5) none n_parse_reader_good [(.s 4)]), (.op (some 6) none (.mv (.s 5))), (.op (some 7) (some (6, true)) (.mv (.s 0))), (.call (some 8) (some (6, true)) n_parse_reader_peek [(.s 7)]), (.op (some 9) (some (6, true)) (.fld (.s 8) 0 false 1)), (.op (some 10) (some (6, true)) (.bin .eql (.s 9) (.k (.int .i64 1)))), (.op (some 11) none (.pick (.s 6) (.s 10) (.k (.bool false)))), (.op (some 12) none (.mv (.s 11))), (.op (some 13) (some (12, true)) (.mv (.s 0))), (.op (some 14) (some (12, true)) (.nilck (.s 13))), (.op (some 15) (some (12, true)) (.faddr (.s 14) 0)), (.op (some 16) (some (12, true)) (.load (.s 15) false 1)), (.op (some 17) (some (12, true)) (.mv (.s 0))), (.op (some 18) (some (12, true)) (.nilck (.s 17))), (.op (some 19) (some (12, true)) (.faddr (.s 18) 1)), (.op (some 20) (some (12, true)) (.load (.s 19) false 1)), (.op (some 21) (some (12, true)) (.bin .add (.s 20) (.k (.int .i64 1)))), (.op (some 22) (some (12, true)) (.iaddr (.s 16) (.s 21) 4)), (.op (some 23) (some (12, true)) (.faddr (.s 22) 0)), (.op (some 24) (some (12, true)) (.load (.s 23) false 1)), (.op (some 25) (some (12, true)) (.bin .eql (.s 24) (.k (.int .i64 4)))), (.op (some 26) none (.pick (.s 12) (.s 25) (.k (.bool false)))), (.op (some 27) none (.mv (.s 26))), (.op (some 28) (some (27, true)) (.mv (.s 0))), (.op (some 29) (some (27, true)) (.nilck (.s 28))), (.op (some 30) (some (27, true)) (.faddr (.s 29) 0)), (.op (some 31) (some (27, true)) (.load (.s 30) false 1)), (.op (some 32) (some (27, true)) (.mv (.s 0))), (.op (some 33) (some (27, true)) (.nilck (.s 32))), (.op (some 34) (some (27, true)) (.faddr (.s 33) 1)), (.op (some 35) (some (27, true)) (.load (.s 34) false 1)), (.op (some 36) (some (27, true)) (.bin .add (.s 35) (.k (.int .i64 1)))), (.op (some 37) (some (27, true)) (.iaddr (.s 31) (.s 36) 4)), (.op (some 38) (some (27, true)) (.faddr (.s 37) 1)), (.op (some 39) (some (27, true)) (.load (.s 38) false 1)), (.op (some 40) (some (27, true)) (.bin .eql (.s 39) (.k (.str [58])))), (.op (some 41) none (.pick (.s 27) (.s 40) (.k (.bool false))))] [(0, 0), (1, 0), (2, 0), (3, 0), (4, 0), (5, 0), (6, 0), (7, 0), (8, 0), (9, 0), (10, 0), (11, 0), (12, 0), (13, 0), (14, 0), (15, 0), (16, 0), (17, 0), (18, 0), (19, 0), (20, 0), (21, 0), (22, 0), (23, 0), (24, 0), (25, 0), (26, 0), (27, 0), (28, 0), (29, 0), (30, 0), (31, 0), (32, 0), (33, 0), (34, 0), (35, 0), (36, 0), (37, 0)]
abbrev Q1BP : AC := .cond (.s 41) .skip (.exit 0)
abbrev Q1BQ : AC := .seq Q1BO Q1BP
abbrev Q1BR : AC := .run [(.op (some 42) none (.mv (.s 3))), (.op (some 43) none (.mv (.s 0))), (.call (some 44) none n_parse_reader_peek [(.s 43)]), (.op (some 45) none (.fld (.s 44) 1 false 1)), (.op (some 46) none (.bslice [(.str [])] 1 1 [(0, (.s 45))])), (.op (some 47) none (.app 1 16 (.s 42) (.s 46))), (.op (some 3) none (.mv (.s 47)))]
abbrev Q1BS : AC := .run [(.op (some 48) none (.mv (.s 0))), (.op (some 49) none (.nilck (.s 48))), (.op (some 50) none (.faddr (.s 49) 1)), (.op (some 51) none (.load (.s 50) false 1)), (.op (some 52) none (.bin .add (.s 51) (.k (.int .i64 2)))), (.op (some 53) none (.nilck (.s 48))), (.op (some 54) none (.faddr (.s 53) 1)), (.op none none (.store (.s 54) (.s 52) 1))]
abbrev Q1BT : AC := .seq Q1BR Q1BS
abbrev Q1BU : AC := .block 1 Q1BT
abbrev Q1BV : AC := .seq Q1BQ Q1BU
abbrev Q1BW : AC := .loop Q1BV
abbrev Q1BX : AC := .block 0 Q1BW
abbrev Q1BY : AC := .run [(.op (some 55) none (.mv (.s 3))), (.op (some 2) none (.mv (.s 55)))]
abbrev Q1BZ : AC := .seq Q1BY .ret
abbrev Q1C0 : AC := .seq Q1BX Q1BZ
abbrev Q1C1 : AC := .seq Q1BN Q1C0
abbrev Q1C2 : AC := .seq Q1BM Q1C1
abbrev Q1C3 : AC := .run [(.op (some 4) none (.alloc [(.int .i64 0), (.int .i64 0), (.slice .full 0 []), (.str []), (.str []), (.int .i64 0), (.int .i64 0), (.str []), (.slice .full 0 []), (.bool false), (.slice .full 0 []), (.slice .full 0 []), (.slice .full 0 [])]))]
abbrev Q1C4 : AC := .run [(.op (some 8) none (.mv (.s 0))), (.call (some 9) none n_parse_reader_begins [(.s 8)]), (.op (some 10) none (.un .not (.s 9)))]
abbrev Q1C5 : AC := .run [(.op (some 11) none (.mv (.s 0))), (.call (some 12) none n_parse_reader_bad [(.s 11), (.k (.int .i64 3))])]
abbrev Q1C6 : AC := .run [(.op (some 13) none (.build [(.int .i64 0), (.int .i64 0), (.slice .full 0 []), (.str []), (.str []), (.int .i64 0), (.int .i64 0), (.str []), (.slice .full 0 []), (.bool false), (.slice .full 0 []), (.slice .full 0 []), (.slice .full 0 [])] [])), (.op none none (.store (.s 4) (.s 13) 13))]
abbrev Q1C7 : AC := .seq Q1C6 .ret
abbrev Q1C8 : AC := .seq Q1C5 Q1C7
abbrev Q1C9 : AC := .cond (.s 10) Q1C8 .skip
abbrev Q1CA : AC := .seq Q1C4 Q1C9
abbrev Q1CB : AC := .run [(.op (some 14) none (.mv (.s 0))), (.op (some 15) none (.nilck (.s 14))), (.op (some 16) none (.faddr (.s 15) 4)), (.op (some 17) none (.load (.s 16) false 1)), (.op (some 18) none (.bin .add (.s 17) (.k (.int .i64 1)))), (.op (some 19) none (.nilck (.s 14))), (.op (some 20) none (.faddr (.s 19) 4)), (.op none none (.store (.s 20) (.s 18) 1))]
abbrev Q1CC : AC := .run [(.op (some 21) none (.mv (.s 0))), (.op (some 22) none (.nilck (.s 21))), (.op (some 23) none (.faddr (.s 22) 4)), (.op (some 24) none (.load (.s 23) false 1)), (.op (some 25) none (.bin .gtr (.s 24) (.k (.int .i64 200)))), (.op (some 26) none (.mv (.s 25))), (.op (some 27) (some (26, false)) (.mv (.s 1))), (.op (some 28) (some (26, false)) (.bin .gtr (.s 27) (.k (.int .i64 12)))), (.op (some 29) none (.pick (.s 26) (.k (.bool true)) (.s 28)))]
abbrev Q1CD : AC := .run [(.op (some 30) none (.mv (.s 0))), (.call (some 31) none n_parse_reader_bad [(.s 30), (.k (.int .i64 4))])]
abbrev Q1CE : AC := .run [(.op (some 32) none (.build [(.int .i64 0), (.int .i64 0), (.slice .full 0 []), (.str []), (.str []), (.int .i64 0), (.int .i64 0), (.str []), (.slice .full 0 []), (.bool false), (.slice .full 0 []), (.slice .full 0 []), (.slice .full 0 [])] [])), (.op none none (.store (.s 4) (.s 32) 13))]
abbrev Q1CF : AC := .seq Q1CE .ret
abbrev Q1CG : AC := .seq Q1CD Q1CF
abbrev Q1CH : AC := .cond (.s 29) Q1CG .skip
abbrev Q1CI : AC := .seq Q1CC Q1CH
abbrev Q1CJ : AC := .run [(.op (some 33) none (.mv (.s 0))), (.call (some 34) none n_parse_reader_peek [(.s 33)]), (.op (some 5) none (.alloc [(.int .i64 0), (.str []), (.int .i64 0), (.int .i64 0)])), (.op none none (.store (.s 5) (.s 34) 4))]
abbrev Q1CK : AC := .run [(.op (some 35) none (.faddr (.s 5) 0)), (.op (some 36) none (.load (.s 35) false 1)), (.op (some 37) none (.bin .eql (.s 36) (.k (.int .i64 1))))]
abbrev Q1CL : AC := .run [(.op (some 38) none (.mv (.s 0))), (.call (some 39) none n_parse_reader_named [(.s 38)]), (.op none none (.store (.s 4) (.s 39) 13))]
abbrev Q1CM : AC := .seq Q1CL .ret
abbrev Q1CN : AC := .cond (.s 37) Q1CM .skip
abbrev Q1CO : AC := .seq Q1CK Q1CN
abbrev Q1CP : AC := .run [(.op (some 40) none (.mv (.s 0))), (.op (some 41) none (.nilck (.s 40))), (.op (some 42) none (.faddr (.s 41) 1)), (.op (some 43) none (.load (.s 42) false 1)), (.op (some 44) none (.bin .add (.s 43) (.k (.int .i64 1)))), (.op (some 45) none (.nilck (.s 40))), (.op (some 46) none (.faddr (.s 45) 1)), (.op none none (.store (.s 46) (.s 44) 1))]
abbrev Q1CQ : AC := .run [(.op (some 47) none (.faddr (.s 5) 1)), (.op (some 48) none (.load (.s 47) false 1))]
abbrev Q1CR : AC := .run [(.op (some 50) none (.bin .eql (.s 48) (.k (.str [105, 102])))), (.op (some 49) none (.mv (.s 50)))]
abbrev Q1CS : AC := .run [(.op (some 51) none (.mv (.s 0))), (.op (some 52) none (.mv (.s 1))), (.call (some 53) none n_parse_reader_choice [(.s 51), (.s 52)]), (.op none none (.store (.s 4) (.s 53) 13))]
abbrev Q1CT : AC := .seq Q1CS .ret
abbrev Q1CU : AC := .run [(.op (some 55) none (.bin .eql (.s 48) (.k (.str [119, 104, 105, 108, 101])))), (.op (some 54) none (.mv (.s 55)))]
abbrev Q1CV : AC := .run [(.op (some 56) none (.mv (.s 0))), (.call (some 57) none n_parse_reader_head [(.s 56)]), (.op (some 58) none (.build [(.int .i64 0), (.int .i64 0), (.slice .full 0 []), (.str []), (.str []), (.int .i64 0), (.int .i64 0), (.str []), (.slice .full 0 []), (.bool false), (.slice .full 0 []), (.slice .full 0 []), (.slice .full 0 [])] [(1, (1, (.k (.int .i64 6)))), (5, (4, (.s 57)))])), (.op (some 6) none (.alloc [(.int .i64 0), (.int .i64 0), (.slice .full 0 []), (.str []), (.str []), (.int .i64 0), (.int .i64 0), (.str []), (.slice .full 0 []), (.bool false), (.slice .full 0 []), (.slice .full 0 []), (.slice .full 0 [])])), (.op none none (.store (.s 6) (.s 58) 13))]
abbrev Q1CW : AC := .run [(.op (some 59) none (.mv (.s 0))), (.op (some 60) none (.mv (.s 1))), (.call (some 61) none n_parse_reader_block [(.s 59), (.s 60)]), (.op (some 62) none (.faddr (.s 6) 11)), (.op none none (.store (.s 62) (.s 61) 1))]
abbrev Q1CX : AC := .run [(.op (some 63) none (.load (.s 6) true 13)), (.op none none (.store (.s 4) (.s 63) 13))]
abbrev Q1CY : AC := .seq Q1CX .ret
abbrev Q1CZ : AC := .seq Q1CW Q1CY
abbrev Q1D0 : AC := .seq Q1CV Q1CZ
abbrev Q1D1 : AC := .cond (.s 54) Q1D0 .skip
abbrev Q1D2 : AC := .seq Q1CU Q1D1
abbrev Q1D3 : AC := .cond (.s 49) Q1CT Q1D2
abbrev Q1D4 : AC := .seq Q1CR Q1D3
abbrev Q1D5 : AC := .block 0 Q1D4
abbrev Q1D6 : AC := .seq Q1CQ Q1D5
abbrev Q1D7 : AC := .run [(.op (some 64) none (.mv (.s 0))), (.op (some 65) none (.faddr (.s 5) 1)), (.op (some 66) none (.load (.s 65) false 1)), (.call (some 67) none n_parse_reader_plain [(.s 64), (.s 66)]), (.op (some 7) none (.alloc [(.int .i64 0), (.int .i64 0), (.slice .full 0 []), (.str []), (.str []), (.int .i64 0), (.int .i64 0), (.str []), (.slice .full 0 []), (.bool false), (.slice .full 0 []), (.slice .full 0 []), (.slice .full 0 [])])), (.op none none (.store (.s 7) (.s 67) 13))]
abbrev Q1D8 : AC := .run [(.op (some 68) none (.mv (.s 0))), (.call (some 69) none n_parse_reader_want [(.s 68), (.k (.str [59]))])]
abbrev Q1D9 : AC := .run [(.op (some 70) none (.load (.s 7) true 13)), (.op none none (.store (.s 4) (.s 70) 13))]
abbrev Q1DA : AC := .seq Q1D9 .ret
abbrev Q1DB : AC := .seq Q1D8 Q1DA
abbrev Q1DC : AC := .seq Q1D7 Q1DB
abbrev Q1DD : AC := .seq Q1D6 Q1DC
abbrev Q1DE : AC := .seq Q1CP Q1DD
abbrev Q1DF : AC := .seq Q1CO Q1DE
abbrev Q1DG : AC := .seq Q1CJ Q1DF
abbrev Q1DH : AC := .seq Q1CI Q1DG
abbrev Q1DI : AC := .seq Q1CB Q1DH
abbrev Q1DJ : AC := .seq Q1CA Q1DI
abbrev Q1DK : AC := .seq Q1C3 Q1DJ
abbrev Q1DL : AC := .run [(.op (some 2) none (.mv (.k (.bool false))))]
abbrev Q1DM : AC := .par [(.op (some 5) none (.mv (.s 0))), (.call (some 6) none n_ref3_P_ok [(.s 5)]), (.op (some 7) none (.mv (.s 6))), (.op (some 8) (some (7, true)) (.mv (.s 0))), (.op (some 9) (some (7, true)) (.nilck (.s 8))), (.op (some 10) (some (7, true)) (.faddr (.s 9) 0)), (.op (some 11) (some (7, true)) (.load (.s 10) false 1)), (.op (some 12) (some (7, true)) (.mv (.s 0))), (.op (some 13) (some (7, true)) (.nilck (.s 12))), (.op (some 14) (some (7, true)) (.faddr (.s 13) 1)), (.op (some 15) (some (7, true)) (.load (.s 14) false 1)), (.op (some 16) (some (7, true)) (.iaddr (.s 11) (.s 15) 4)), (.op (some 17) (some (7, true)) (.faddr (.s 16) 0)), (.op (some 18) (some (7, true)) (.load (.s 17) false 1)), (.op (some 19) (some (7, true)) (.bin .eql (.s 18) (.k (.int .i64 1)))), (.op (some 20) none (.pick (.s 7) (.s 19) (.k (.bool false))))] [(0, 0), (1, 0), (2, 0), (3, 0), (4, 0), (5, 0), (6, 0), (7, 0), (8, 0), (9, 0), (10, 0), (11, 0), (12, 0), (13, 0), (14, 0), (15, 0)]
abbrev Q1DN : AC := .run [(.op (some 2) none (.mv (.k (.bool true))))]
abbrev Q1DO : AC := .seq Q1DN .ret
abbrev Q1DP : AC := .cond (.s 20) Q1DO .skip
abbrev Q1DQ : AC := .seq Q1DM Q1DP
abbrev Q1DR : AC := .run [(.op (some 21) none (.bslice [(.str [])] 1 8 [(0, (.k (.str [105, 102]))), (1, (.k (.str [119, 104, 105, 108, 101]))), (2, (.k (.str [98, 114, 101, 97, 107]))), (3, (.k (.str [99, 111, 110, 116, 105, 110, 117, 101]))), (4, (.k (.str [114, 101, 116, 117, 114, 110]))), (5, (.k (.str [103, 111, 116, 111]))), (6, (.k (.str [114, 101, 97, 100]))), (7, (.k (.str [112, 114, 105, 110, 116])))])), (.op (some 22) none (.len (.s 21))), (.op (some 23) none (.mv (.k (.int .i64 0))))]
abbrev Q1DS : AC := .run [(.op (some 24) none (.bin .lss (.s 23) (.s 22)))]
abbrev Q1DT : AC := .cond (.s 24) .skip (.exit 0)
abbrev Q1DU : AC := .run [(.op (some 25) none (.iaddr (.s 21) (.s 23) 1)), (.op (some 26) none (.load (.s 25) false 1)), (.op (some 4) none (.mv (.s 26)))]
abbrev Q1DV : AC := .run [(.op (some 27) none (.mv (.s 0))), (.op (some 28) none (.mv (.s 4))), (.call (some 29) none n_ref3_P_is [(.s 27), (.s 28)])]
abbrev Q1DW : AC := .run [(.op (some 2) none (.mv (.k (.bool true))))]
abbrev Q1DX : AC := .seq Q1DW .ret
abbrev Q1DY : AC := .cond (.s 29) Q1DX .skip
abbrev Q1DZ : AC := .seq Q1DV Q1DY
abbrev Q1E0 : AC := .seq Q1DU Q1DZ
abbrev Q1E1 : AC := .block 1 Q1E0
abbrev Q1E2 : AC := .run [(.op (some 30) none (.bin .add (.s 23) (.k (.int .i64 1)))), (.op (some 23) none (.mv (.s 30)))]
abbrev Q1E3 : AC := .seq Q1E1 Q1E2
abbrev Q1E4 : AC := .seq Q1DT Q1E3
abbrev Q1E5 : AC := .seq Q1DS Q1E4
abbrev Q1E6 : AC := .loop Q1E5
abbrev Q1E7 : AC := .block 0 Q1E6
abbrev Q1E8 : AC := .seq Q1DR Q1E7
abbrev Q1E9 : AC := .run [(.op (some 2) none (.mv (.k (.bool false))))]
abbrev Q1EA : AC := .seq Q1E9 .ret
abbrev Q1EB : AC := .seq Q1E8 Q1EA
abbrev Q1EC : AC := .seq Q1DQ Q1EB
abbrev Q1ED : AC := .seq Q1DL Q1EC
abbrev Q1EE : AC := .run [(.op (some 2) none (.alloc [(.int .i64 0), (.int .i64 0), (.slice .full 0 []), (.str []), (.str []), (.int .i64 0), (.int .i64 0), (.str []), (.slice .full 0 []), (.bool false), (.slice .full 0 []), (.slice .full 0 []), (.slice .full 0 [])]))]
abbrev Q1EF : AC := .run [(.op (some 4) none (.mv (.s 0))), (.call (some 5) none n_ref3_P_take [(.s 4), (.k (.str [98, 114, 101, 97, 107]))]), (.op (some 3) none (.mv (.s 5)))]
abbrev Q1EG : AC := .run [(.op (some 6) none (.build [(.int .i64 0), (.int .i64 0), (.slice .full 0 []), (.str []), (.str []), (.int .i64 0), (.int .i64 0), (.str []), (.slice .full 0 []), (.bool false), (.slice .full 0 []), (.slice .full 0 []), (.slice .full 0 [])] [(1, (1, (.k (.int .i64 7))))])), (.op none none (.store (.s 2) (.s 6) 13))]
abbrev Q1EH : AC := .seq Q1EG .ret
abbrev Q1EI : AC := .run [(.op (some 8) none (.mv (.s 0))), (.call (some 9) none n_ref3_P_take [(.s 8), (.k (.str [99, 111, 110, 116, 105, 110, 117, 101]))]), (.op (some 7) none (.mv (.s 9)))]
abbrev Q1EJ : AC := .run [(.op (some 10) none (.build [(.int .i64 0), (.int .i64 0), (.slice .full 0 []), (.str []), (.str []), (.int .i64 0), (.int .i64 0), (.str []), (.slice .full 0 []), (.bool false), (.slice .full 0 []), (.slice .full 0 []), (.slice .full 0 [])] [(1, (1, (.k (.int .i64 8))))])), (.op none none (.store (.s 2) (.s 10) 13))]
abbrev Q1EK : AC := .seq Q1EJ .ret
abbrev Q1EL : AC := .run [(.op (some 12) none (.mv (.s 0))), (.call (some 13) none n_ref3_P_take [(.s 12), (.k (.str [103, 111, 116, 111]))]), (.op (some 11) none (.mv (.s 13)))]
abbrev Q1EM : AC := .run [(.op (some 14) none (.mv (.s 0))), (.call (some 15) none n_ref3_P_name [(.s 14), (.k (.bool false))]), (.op (some 16) none (.build [(.int .i64 0), (.int .i64 0), (.slice .full 0 []), (.str []), (.str []), (.int .i64 0), (.int .i64 0), (.str []), (.slice .full 0 []), (.bool false), (.slice .full 0 []), (.slice .full 0 []), (.slice .full 0 [])] [(1, (1, (.k (.int .i64 10)))), (3, (1, (.s 15)))])), (.op none none (.store (.s 2) (.s 16) 13))]
abbrev Q1EN : AC := .seq Q1EM .ret
abbrev Q1EO : AC := .run [(.op (some 18) none (.mv (.s 0))), (.call (some 19) none n_ref3_P_take [(.s 18), (.k (.str [114, 101, 97, 100]))]), (.op (some 17) none (.mv (.s 19)))]
abbrev Q1EP : AC := .run [(.op (some 20) none (.mv (.s 0))), (.call (some 21) none n_ref3_P_name [(.s 20), (.k (.bool false))]), (.op (some 22) none (.build [(.int .i64 0), (.int .i64 0), (.slice .full 0 []), (.str []), (.str []), (.int .i64 0), (.int .i64 0), (.str []), (.slice .full 0 []), (.bool false), (.slice .full 0 []), (.slice .full 0 []), (.slice .full 0 [])] [(1, (1, (.k (.int .i64 2)))), (3, (1, (.s 21)))])), (.op none none (.store (.s 2) (.s 22) 13))]
abbrev Q1EQ : AC := .seq Q1EP .ret
abbrev Q1ER : AC := .run [(.op (some 24) none (.mv (.s 0))), (.call (some 25) none n_ref3_P_take [(.s 24), (.k (.str [112, 114, 105, 110, 116]))]), (.op (some 23) none (.mv (.s 25)))]
abbrev Q1ES : AC := .run [(.op (some 26) none (.mv (.s 0))), (.call (some 27) none n_ref3_P_expr [(.s 26)]), (.op (some 28) none (.build [(.int .i64 0), (.int .i64 0), (.slice .full 0 []), (.str []), (.str []), (.int .i64 0), (.int .i64 0), (.str []), (.slice .full 0 []), (.bool false), (.slice .full 0 []), (.slice .full 0 []), (.slice .full 0 [])] [(1, (1, (.k (.int .i64 3)))), (5, (4, (.s 27)))])), (.op none none (.store (.s 2) (.s 28) 13))]
abbrev Q1ET : AC := .seq Q1ES .ret
abbrev Q1EU : AC := .run [(.op (some 30) none (.mv (.s 0))), (.call (some 31) none n_ref3_P_take [(.s 30), (.k (.str [114, 101, 116, 117, 114, 110]))]), (.op (some 29) none (.mv (.s 31)))]
abbrev Q1EV : AC := .run [(.op (some 32) none (.mv (.s 0))), (.call (some 33) none n_ref3_P_is [(.s 32), (.k (.str [59]))])]
abbrev Q1EW : AC := .run [(.op (some 34) none (.build [(.int .i64 0), (.int .i64 0), (.slice .full 0 []), (.str []), (.str []), (.int .i64 0), (.int .i64 0), (.str []), (.slice .full 0 []), (.bool false), (.slice .full 0 []), (.slice .full 0 []), (.slice .full 0 [])] [(1, (1, (.k (.int .i64 9))))])), (.op none none (.store (.s 2) (.s 34) 13))]
abbrev Q1EX : AC := .seq Q1EW .ret
abbrev Q1EY : AC := .cond (.s 33) Q1EX .skip
abbrev Q1EZ : AC := .seq Q1EV Q1EY
abbrev Q1F0 : AC := .run [(.op (some 35) none (.mv (.s 0))), (.call (some 36) none n_ref3_P_expr [(.s 35)]), (.op (some 37) none (.build [(.int .i64 0), (.int .i64 0), (.slice .full 0 []), (.str []), (.str []), (.int .i64 0), (.int .i64 0), (.str []), (.slice .full 0 []), (.bool false), (.slice .full 0 []), (.slice .full 0 []), (.slice .full 0 [])] [(1, (1, (.k (.int .i64 9)))), (9, (1, (.k (.bool true)))), (5, (4, (.s 36)))])), (.op none none (.store (.s 2) (.s 37) 13))]
abbrev Q1F1 : AC := .seq Q1F0 .ret
abbrev Q1F2 : AC := .seq Q1EZ Q1F1
abbrev Q1F3 : AC := .cond (.s 29) Q1F2 .skip
abbrev Q1F4 : AC := .seq Q1EU Q1F3
abbrev Q1F5 : AC := .cond (.s 23) Q1ET Q1F4
abbrev Q1F6 : AC := .seq Q1ER Q1F5
abbrev Q1F7 : AC := .cond (.s 17) Q1EQ Q1F6
abbrev Q1F8 : AC := .seq Q1EO Q1F7
abbrev Q1F9 : AC := .cond (.s 11) Q1EN Q1F8
abbrev Q1FA : AC := .seq Q1EL Q1F9
abbrev Q1FB : AC := .cond (.s 7) Q1EK Q1FA
abbrev Q1FC : AC := .seq Q1EI Q1FB
abbrev Q1FD : AC := .cond (.s 3) Q1EH Q1FC
abbrev Q1FE : AC := .seq Q1EF Q1FD
abbrev Q1FF : AC := .block 0 Q1FE
abbrev Q1FG : AC := .run [(.op (some 38) none (.mv (.s 0))), (.op (some 39) none (.mv (.s 0))), (.call (some 40) none n_ref3_P_name [(.s 39), (.k (.bool false))]), (.call (some 41) none n_ref3_P_named [(.s 38), (.s 40)]), (.op none none (.store (.s 2) (.s 41) 13))]
abbrev Q1FH : AC := .seq Q1FG .ret
abbrev Q1FI : AC := .seq Q1FF Q1FH
abbrev Q1FJ : AC := .seq Q1EE Q1FI
abbrev Q1FK : AC := .run [(.op (some 2) none (.mv (.k (.bool false))))]
abbrev Q1FL : AC := .run [(.op (some 4) none (.mv (.s 0))), (.call (some 5) none n_parse_reader_peek [(.s 4)]), (.op (some 3) none (.alloc [(.int .i64 0), (.str []), (.int .i64 0), (.int .i64 0)])), (.op none none (.store (.s 3) (.s 5) 4))]
abbrev Q1FM : AC := .run [(.op (some 6) none (.faddr (.s 3) 0)), (.op (some 7) none (.load (.s 6) false 1)), (.op (some 8) none (.bin .eql (.s 7) (.k (.int .i64 1))))]
abbrev Q1FN : AC := .run [(.op (some 2) none (.mv (.k (.bool true))))]
abbrev Q1FO : AC := .seq Q1FN .ret
abbrev Q1FP : AC := .cond (.s 8) Q1FO .skip
abbrev Q1FQ : AC := .seq Q1FM Q1FP
abbrev Q1FR : AC := .run [(.op (some 9) none (.faddr (.s 3) 0)), (.op (some 10) none (.load (.s 9) false 1)), (.op (some 11) none (.bin .neq (.s 10) (.k (.int .i64 3))))]
abbrev Q1FS : AC := .run [(.op (some 2) none (.mv (.k (.bool false))))]
abbrev Q1FT : AC := .seq Q1FS .ret
abbrev Q1FU : AC := .cond (.s 11) Q1FT .skip
abbrev Q1FV : AC := .seq Q1FR Q1FU
abbrev Q1FW : AC := .run [(.op (some 12) none (.faddr (.s 3) 1)), (.op (some 13) none (.load (.s 12) false 1))]
abbrev Q1FX : AC := .run [(.op (some 15) none (.bin .eql (.s 13) (.k (.str [105, 102])))), (.op (some 14) none (.mv (.s 15)))]
abbrev Q1FY : AC := .run [(.op (some 16) none (.bin .eql (.s 13) (.k (.str [119, 104, 105, 108, 101])))), (.op (some 14) none (.mv (.s 16)))]
abbrev Q1FZ : AC := .run [(.op (some 17) none (.bin .eql (.s 13) (.k (.str [98, 114, 101, 97, 107])))), (.op (some 14) none (.mv (.s 17)))]
abbrev Q1G0 : AC := .run [(.op (some 18) none (.bin .eql (.s 13) (.k (.str [99, 111, 110, 116, 105, 110, 117, 101])))), (.op (some 14) none (.mv (.s 18)))]
abbrev Q1G1 : AC := .run [(.op (some 19) none (.bin .eql (.s 13) (.k (.str [114, 101, 116, 117, 114, 110])))), (.op (some 14) none (.mv (.s 19)))]
abbrev Q1G2 : AC := .run [(.op (some 20) none (.bin .eql (.s 13) (.k (.str [103, 111, 116, 111])))), (.op (some 14) none (.mv (.s 20)))]
abbrev Q1G3 : AC := .run [(.op (some 21) none (.bin .eql (.s 13) (.k (.str [114, 101, 97, 100])))), (.op (some 14) none (.mv (.s 21)))]
abbrev Q1G4 : AC := .run [(.op (some 22) none (.bin .eql (.s 13) (.k (.str [112, 114, 105, 110, 116])))), (.op (some 14) none (.mv (.s 22)))]
abbrev Q1G5 : AC := .cond (.s 14) .skip Q1G4
abbrev Q1G6 : AC := .seq Q1G3 Q1G5
abbrev Q1G7 : AC := .cond (.s 14) .skip Q1G6
abbrev Q1G8 : AC := .seq Q1G2 Q1G7
abbrev Q1G9 : AC := .cond (.s 14) .skip Q1G8
abbrev Q1GA : AC := .seq Q1G1 Q1G9
abbrev Q1GB : AC := .cond (.s 14) .skip Q1GA
abbrev Q1GC : AC := .seq Q1G0 Q1GB
abbrev Q1GD : AC := .cond (.s 14) .skip Q1GC
abbrev Q1GE : AC := .seq Q1FZ Q1GD
abbrev Q1GF : AC := .cond (.s 14) .skip Q1GE
abbrev Q1GG : AC := .seq Q1FY Q1GF
abbrev Q1GH : AC := .cond (.s 14) .skip Q1GG
abbrev Q1GI : AC := .seq Q1FX Q1GH
abbrev Q1GJ : AC := .run [(.op (some 2) none (.mv (.k (.bool true))))]
abbrev Q1GK : AC := .seq Q1GJ .ret
abbrev Q1GL : AC := .cond (.s 14) Q1GK .skip
abbrev Q1GM : AC := .seq Q1GI Q1GL
abbrev Q1GN : AC := .block 0 Q1GM
abbrev Q1GO : AC := .seq Q1FW Q1GN
abbrev Q1GP : AC := .run [(.op (some 2) none (.mv (.k (.bool false))))]
abbrev Q1GQ : AC := .seq Q1GP .ret
abbrev Q1GR : AC := .seq Q1GO Q1GQ
abbrev Q1GS : AC := .seq Q1FV Q1GR
abbrev Q1GT : AC := .seq Q1FQ Q1GS
abbrev Q1GU : AC := .seq Q1FL Q1GT
abbrev Q1GV : AC := .seq Q1FK Q1GU
abbrev Q1GW : AC := .run [(.op (some 2) none (.alloc [(.int .i64 0), (.int .i64 0), (.slice .full 0 []), (.str []), (.str []), (.int .i64 0), (.int .i64 0), (.str []), (.slice .full 0 []), (.bool false), (.slice .full 0 []), (.slice .full 0 []), (.slice .full 0 [])]))]
abbrev Q1GX : AC := .run [(.op (some 5) none (.mv (.s 0))), (.call (some 6) none n_parse_reader_name [(.s 5), (.k (.bool true))]), (.op (some 3) none (.mv (.s 6)))]
abbrev Q1GY : AC := .run [(.op (some 7) none (.mv (.s 0))), (.call (some 8) none n_parse_reader_is [(.s 7), (.k (.str [40]))])]
abbrev Q1GZ : AC := .run [(.op (some 9) none (.mv (.s 0))), (.op (some 10) none (.mv (.s 3))), (.call (some 11) none n_parse_reader_call [(.s 9), (.k (.str [])), (.s 10)]), (.op none none (.store (.s 2) (.s 11) 13))]
abbrev Q1H0 : AC := .seq Q1GZ .ret
abbrev Q1H1 : AC := .cond (.s 8) Q1H0 .skip
abbrev Q1H2 : AC := .seq Q1GY Q1H1
abbrev Q1H3 : AC := .run [(.op (some 12) none (.mv (.s 0))), (.call (some 13) none n_parse_reader_want [(.s 12), (.k (.str [61]))])]
abbrev Q1H4 : AC := .par [(.op (some 14) none (.mv (.s 0))), (.call (some 15) none n_parse_reader_good [(.s 14)]), (.op (some 16) none (.mv (.s 15))), (.op (some 17) (some (16, true)) (.mv (.s 0))), (.call (some 18) (some (16, true)) n_parse_reader_peek [(.s 17)]), (.op (some 19) (some (16, true)) (.fld (.s 18) 0 false 1)), (.op (some 20) (some (16, true)) (.bin .eql (.s 19) (.k (.int .i64 1)))), (.op (some 21) none (.pick (.s 16) (.s 20) (.k (.bool false)))), (.op (some 22) none (.mv (.s 21))), (.op (some 23) (some (22, true)) (.mv (.s 0))), (.op (some 24) (some (22, true)) (.nilck (.s 23))), (.op (some 25) (some (22, true)) (.faddr (.s 24) 0)), (.op (some 26) (some (22, true)) (.load (.s 25) false 1)), (.op (some 27) (some (22, true)) (.mv (.s 0))), (.op (some 28) (some (22, true)) (.nilck (.s 27))), (.op (some 29) (some (22, true)) (.faddr (.s 28) 1)), (.op (some 30) (some (22, true)) (.load (.s 29) false 1)), (.op (some 31) (some (22, true)) (.bin .add (.s 30) (.k (.int .i64 1)))), (.op (some 32) (some (22, true)) (.iaddr (.s 26) (.s 31) 4)), (.op (some 33) (some (22, true)) (.faddr (.s 32) 0)), (.op (some 34) (some (22, true)) (.load (.s 33) false 1)), (.op (some 35) (some (22, true)) (.bin .eql (.s 34) (.k (.int .i64 4)))), (.op (some 36) none (.pick (.s 22) (.s 35) (.k (.bool false)))), (.op (some 37) none (.mv (.s 36))), (.op (some 38) (some (37, true)) (.mv (.s 0))), (.op (some 39) (some (37, true)) (.nilck (.s 38))), (.op (some 40) (some (37, true)) (.faddr (.s 39) 0)), (.op (some 41) (some (37, true)) (.load (.s 40) false 1)), (.op (some 42) (some (37, true)) (.mv (.s 0))), (.op (some 43) (some (37, true)) (.nilck (.s 42))), (.op (some 44) (some (37, true)) (.faddr (.s 43) 1)), (.op (some 45) (some (37, true)) (.load (.s 44) false 1)), (.op (some 46) (some (37, true)) (.bin .add (.s 45) (.k (.int .i64 1)))), (.op (some 47) (some (37, true)) (.iaddr (.s 41) (.s 46) 4)), (.op (some 48) (some (37, true)) (.faddr (.s 47) 1)), (.op (some 49) (some (37, true)) (.load (.s 48) false 1)), (.op (some 50) (some (37, true)) (.bin .eql (.s 49) (.k (.str [40])))), (.op (some 51) none (.pick (.s 37) (.s 50) (.k (.bool false))))] [(0, 0), (1, 0), (2, 0), (3, 0), (4, 0), (5, 0), (6, 0), (7, 0), (8, 0), (9, 0), (10, 0), (11, 0), (12, 0), (13, 0), (14, 0), (15, 0), (16, 0), (17, 0), (18, 0), (19, 0), (20, 0), (21, 0), (22, 0), (23, 0), (24, 0), (25, 0), (26, 0), (27, 0), (28, 0), (29, 0), (30, 0), (31, 0), (32, 0), (33, 0), (34, 0), (35, 0), (36, 0), (37, 0)]
abbrev Q1H5 : AC := .run [(.op (some 52) none (.mv (.s 0))), (.op (some 53) none (.mv (.s 3))), (.op (some 54) none (.mv (.s 0))), (.call (some 55) none n_parse_reader_name [(.s 54), (.k (.bool true))]), (.call (some 56) none n_parse_reader_call [(.s 52), (.s 53), (.s 55)]), (.op none none (.store (.s 2) (.s 56) 13))]
abbrev Q1H6 : AC := .seq Q1H5 .ret
abbrev Q1H7 : AC := .cond (.s 51) Q1H6 .skip
abbrev Q1H8 : AC := .seq Q1H4 Q1H7
abbrev Q1H9 : AC := .run [(.op (some 57) none (.mv (.s 3))), (.op (some 58) none (.mv (.s 0))), (.call (some 59) none n_parse_reader_whole [(.s 58)]), (.op (some 60) none (.build [(.int .i64 0), (.int .i64 0), (.slice .full 0 []), (.str []), (.str []), (.int .i64 0), (.int .i64 0), (.str []), (.slice .full 0 []), (.bool false), (.slice .full 0 []), (.slice .full 0 []), (.slice .full 0 [])] [(1, (1, (.k (.int .i64 1)))), (3, (1, (.s 57))), (5, (4, (.s 59)))])), (.op (some 4) none (.alloc [(.int .i64 0), (.int .i64 0), (.slice .full 0 []), (.str []), (.str []), (.int .i64 0), (.int .i64 0), (.str []), (.slice .full 0 []), (.bool false), (.slice .full 0 []), (.slice .full 0 []), (.slice .full 0 [])])), (.op none none (.store (.s 4) (.s 60) 13))]
abbrev Q1HA : AC := .run [(.op (some 61) none (.mv (.s 0))), (.call (some 62) none n_parse_reader_want [(.s 61), (.k (.str [59]))])]
abbrev Q1HB : AC := .run [(.op (some 63) none (.load (.s 4) true 13)), (.op none none (.store (.s 2) (.s 63) 13))]
abbrev Q1HC : AC := .seq Q1HB .ret
abbrev Q1HD : AC := .seq Q1HA Q1HC
abbrev Q1HE : AC := .seq Q1H9 Q1HD
abbrev Q1HF : AC := .seq Q1H8 Q1HE
abbrev Q1HG : AC := .seq Q1H3 Q1HF
abbrev Q1HH : AC := .seq Q1H2 Q1HG
abbrev Q1HI : AC := .seq Q1GX Q1HH
abbrev Q1HJ : AC := .seq Q1GW Q1HI
abbrev Q1HK : AC := .run [(.op (some 4) none (.alloc [(.int .i64 0), (.int .i64 0), (.slice .full 0 []), (.str []), (.str []), (.int .i64 0), (.int .i64 0), (.str []), (.slice .full 0 []), (.bool false), (.slice .full 0 []), (.slice .full 0 []), (.slice .full 0 [])]))]
abbrev Q1HL : AC := .run [(.op (some 6) none (.mv (.s 0))), (.call (some 7) none n_parse_reader_head [(.s 6)]), (.op (some 8) none (.build [(.int .i64 0), (.int .i64 0), (.slice .full 0 []), (.str []), (.str []), (.int .i64 0), (.int .i64 0), (.str []), (.slice .full 0 []), (.bool false), (.slice .full 0 []), (.slice .full 0 []), (.slice .full 0 [])] [(1, (1, (.k (.int .i64 5)))), (5, (4, (.s 7)))])), (.op (some 5) none (.alloc [(.int .i64 0), (.int .i64 0), (.slice .full 0 []), (.str []), (.str []), (.int .i64 0), (.int .i64 0), (.str []), (.slice .full 0 []), (.bool false), (.slice .full 0 []), (.slice .full 0 []), (.slice .full 0 [])])), (.op none none (.store (.s 5) (.s 8) 13))]
abbrev Q1HM : AC := .run [(.op (some 9) none (.mv (.s 0))), (.op (some 10) none (.mv (.s 1))), (.call (some 11) none n_parse_reader_block [(.s 9), (.s 10)]), (.op (some 12) none (.faddr (.s 5) 11)), (.op none none (.store (.s 12) (.s 11) 1))]
abbrev Q1HN : AC := .run [(.op (some 13) none (.mv (.s 0))), (.call (some 14) none n_parse_reader_take [(.s 13), (.k (.str [101, 108, 115, 101]))])]
abbrev Q1HO : AC := .run [(.op (some 15) none (.mv (.s 0))), (.op (some 16) none (.mv (.s 1))), (.call (some 17) none n_parse_reader_block [(.s 15), (.s 16)]), (.op (some 18) none (.faddr (.s 5) 12)), (.op none none (.store (.s 18) (.s 17) 1))]
abbrev Q1HP : AC := .cond (.s 14) Q1HO .skip
abbrev Q1HQ : AC := .seq Q1HN Q1HP
abbrev Q1HR : AC := .run [(.op (some 19) none (.load (.s 5) true 13)), (.op none none (.store (.s 4) (.s 19) 13))]
abbrev Q1HS : AC := .seq Q1HR .ret
abbrev Q1HT : AC := .seq Q1HQ Q1HS
abbrev Q1HU : AC := .seq Q1HM Q1HT
abbrev Q1HV : AC := .seq Q1HL Q1HU
abbrev Q1HW : AC := .seq Q1HK Q1HV
abbrev Q1HX : AC := .run [(.op (some 2) none (.alloc [(.int .i64 0), (.int .i64 0), (.str []), (.slice .full 0 [])]))]
abbrev Q1HY : AC := .run [(.op (some 4) none (.mv (.s 0))), (.call (some 5) none n_parse_reader_want [(.s 4), (.k (.str [40]))])]
abbrev Q1HZ : AC := .run [(.op (some 6) none (.mv (.s 0))), (.call (some 7) none n_parse_reader_whole [(.s 6)]), (.op (some 3) none (.alloc [(.int .i64 0), (.int .i64 0), (.str []), (.slice .full 0 [])])), (.op none none (.store (.s 3) (.s 7) 4))]
abbrev Q1I0 : AC := .run [(.op (some 8) none (.mv (.s 0))), (.call (some 9) none n_parse_reader_want [(.s 8), (.k (.str [41]))])]
abbrev Q1I1 : AC := .run [(.op (some 10) none (.load (.s 3) true 4)), (.op none none (.store (.s 2) (.s 10) 4))]
abbrev Q1I2 : AC := .seq Q1I1 .ret
abbrev Q1I3 : AC := .seq Q1I0 Q1I2
abbrev Q1I4 : AC := .seq Q1HZ Q1I3
abbrev Q1I5 : AC := .seq Q1HY Q1I4
abbrev Q1I6 : AC := .seq Q1HX Q1I5
abbrev Q1I7 : AC := .run [(.op (some 4) none (.mv (.k (.slice .full 0 []))))]
abbrev Q1I8 : AC := .run [(.op (some 7) none (.mv (.s 0))), (.call (some 8) none n_parse_reader_want [(.s 7), (.k (.str [123]))])]
abbrev Q1I9 : AC := .run [(.op (some 10) none (.mv (.s 0))), (.op (some 11) none (.mv (.s 1))), (.op (some 12) none (.bin .add (.s 11) (.k (.int .i64 1)))), (.call (some 13) none n_parse_reader_rows [(.s 10), (.s 12), (.k (.bool false))]), (.op (some 9) none (.mv (.s 13))), (.op (some 14) none (.ext (.s 9) 0)), (.op (some 15) none (.ext (.s 9) 1)), (.op (some 5) none (.mv (.s 14))), (.op (some 6) none (.mv (.s 15)))]
abbrev Q1IA : AC := .run [(.op (some 16) none (.mv (.s 5))), (.op (some 4) none (.mv (.s 16)))]
abbrev Q1IB : AC := .seq Q1IA .ret
abbrev Q1IC : AC := .seq Q1I9 Q1IB
abbrev Q1ID : AC := .seq Q1I8 Q1IC
abbrev Q1IE : AC := .seq Q1I7 Q1ID
abbrev Q1IF : AC := .run [(.op (some 4) none (.alloc [(.int .i64 0), (.int .i64 0), (.slice .full 0 []), (.str []), (.str []), (.int .i64 0), (.int .i64 0), (.str []), (.slice .full 0 []), (.bool false), (.slice .full 0 []), (.slice .full 0 []), (.slice .full 0 [])]))]
abbrev Q1IG : AC := .run [(.op (some 5) none (.alloc [(.int .i64 0), (.int .i64 0), (.slice .full 0 []), (.str []), (.str []), (.int .i64 0), (.int .i64 0), (.str []), (.slice .full 0 []), (.bool false), (.slice .full 0 []), (.slice .full 0 []), (.slice .full 0 [])]))]
abbrev Q1IH : AC := .run [(.op (some 6) none (.mv (.s 1)))]
abbrev Q1II : AC := .run [(.op (some 8) none (.bin .eql (.s 6) (.k (.str [98, 114, 101, 97, 107])))), (.op (some 7) none (.mv (.s 8)))]
abbrev Q1IJ : AC := .run [(.op (some 9) none (.faddr (.s 5) 1)), (.op none none (.store (.s 9) (.k (.int .i64 7)) 1))]
abbrev Q1IK : AC := .run [(.op (some 11) none (.bin .eql (.s 6) (.k (.str [99, 111, 110, 116, 105, 110, 117, 101])))), (.op (some 10) none (.mv (.s 11)))]
abbrev Q1IL : AC := .run [(.op (some 12) none (.faddr (.s 5) 1)), (.op none none (.store (.s 12) (.k (.int .i64 8)) 1))]
abbrev Q1IM : AC := .run [(.op (some 14) none (.bin .eql (.s 6) (.k (.str [114, 101, 116, 117, 114, 110])))), (.op (some 13) none (.mv (.s 14)))]
abbrev Q1IN : AC := .run [(.op (some 15) none (.faddr (.s 5) 1)), (.op none none (.store (.s 15) (.k (.int .i64 9)) 1))]
abbrev Q1IO : AC := .run [(.op (some 16) none (.mv (.s 0))), (.call (some 17) none n_parse_reader_is [(.s 16), (.k (.str [59]))]), (.op (some 18) none (.un .not (.s 17)))]
abbrev Q1IP : AC := .run [(.op (some 19) none (.mv (.s 0))), (.call (some 20) none n_parse_reader_whole [(.s 19)]), (.op (some 21) none (.faddr (.s 5) 9)), (.op none none (.store (.s 21) (.k (.bool true)) 1)), (.op (some 22) none (.faddr (.s 5) 5)), (.op none none (.store (.s 22) (.s 20) 4))]
abbrev Q1IQ : AC := .cond (.s 18) Q1IP .skip
abbrev Q1IR : AC := .seq Q1IO Q1IQ
abbrev Q1IS : AC := .seq Q1IN Q1IR
abbrev Q1IT : AC := .run [(.op (some 24) none (.bin .eql (.s 6) (.k (.str [103, 111, 116, 111])))), (.op (some 23) none (.mv (.s 24)))]
abbrev Q1IU : AC := .run [(.op (some 25) none (.mv (.s 0))), (.call (some 26) none n_parse_reader_name [(.s 25), (.k (.bool true))]), (.op (some 27) none (.faddr (.s 5) 1)), (.op none none (.store (.s 27) (.k (.int .i64 10)) 1)), (.op (some 28) none (.faddr (.s 5) 3)), (.op none none (.store (.s 28) (.s 26) 1))]
abbrev Q1IV : AC := .run [(.op (some 30) none (.bin .eql (.s 6) (.k (.str [114, 101, 97, 100])))), (.op (some 29) none (.mv (.s 30)))]
abbrev Q1IW : AC := .run [(.op (some 31) none (.mv (.s 0))), (.call (some 32) none n_parse_reader_name [(.s 31), (.k (.bool true))]), (.op (some 33) none (.faddr (.s 5) 1)), (.op none none (.store (.s 33) (.k (.int .i64 2)) 1)), (.op (some 34) none (.faddr (.s 5) 3)), (.op none none (.store (.s 34) (.s 32) 1))]
abbrev Q1IX : AC := .run [(.op (some 36) none (.bin .eql (.s 6) (.k (.str [112, 114, 105, 110, 116])))), (.op (some 35) none (.mv (.s 36)))]
abbrev Q1IY : AC := .run [(.op (some 37) none (.mv (.s 0))), (.call (some 38) none n_parse_reader_whole [(.s 37)]), (.op (some 39) none (.faddr (.s 5) 1)), (.op none none (.store (.s 39) (.k (.int .i64 3)) 1)), (.op (some 40) none (.faddr (.s 5) 5)), (.op none none (.store (.s 40) (.s 38) 4))]
abbrev Q1IZ : AC := .cond (.s 35) Q1IY .skip
abbrev Q1J0 : AC := .seq Q1IX Q1IZ
abbrev Q1J1 : AC := .cond (.s 29) Q1IW Q1J0
abbrev Q1J2 : AC := .seq Q1IV Q1J1
abbrev Q1J3 : AC := .cond (.s 23) Q1IU Q1J2
abbrev Q1J4 : AC := .seq Q1IT Q1J3
abbrev Q1J5 : AC := .cond (.s 13) Q1IS Q1J4
abbrev Q1J6 : AC := .seq Q1IM Q1J5
abbrev Q1J7 : AC := .cond (.s 10) Q1IL Q1J6
abbrev Q1J8 : AC := .seq Q1IK Q1J7
abbrev Q1J9 : AC := .cond (.s 7) Q1IJ Q1J8
abbrev Q1JA : AC := .seq Q1II Q1J9
abbrev Q1JB : AC := .block 0 Q1JA
abbrev Q1JC : AC := .seq Q1IH Q1JB
abbrev Q1JD : AC := .run [(.op (some 41) none (.load (.s 5) true 13)), (.op none none (.store (.s 4) (.s 41) 13))]
abbrev Q1JE : AC := .seq Q1JD .ret
abbrev Q1JF : AC := .seq Q1JC Q1JE
abbrev Q1JG : AC := .seq Q1IG Q1JF
abbrev Q1JH : AC := .seq Q1IF Q1JG
abbrev Q1JI : AC := .run [(.op (some 4) none (.alloc [(.int .i64 0), (.int .i64 0), (.slice .full 0 []), (.str []), (.str []), (.int .i64 0), (.int .i64 0), (.str []), (.slice .full 0 []), (.bool false), (.slice .full 0 []), (.slice .full 0 []), (.slice .full 0 [])]))]
abbrev Q1JJ : AC := .run [(.op (some 6) none (.mv (.s 0))), (.call (some 7) none n_ref3_P_is [(.s 6), (.k (.str [40]))])]
abbrev Q1JK : AC := .run [(.op (some 8) none (.mv (.s 1))), (.op (some 9) none (.mv (.s 0))), (.call (some 10) none n_ref3_P_args [(.s 9)]), (.op (some 11) none (.build [(.int .i64 0), (.int .i64 0), (.slice .full 0 []), (.str []), (.str []), (.int .i64 0), (.int .i64 0), (.str []), (.slice .full 0 []), (.bool false), (.slice .full 0 []), (.slice .full 0 []), (.slice .full 0 [])] [(1, (1, (.k (.int .i64 4)))), (4, (1, (.s 8))), (10, (1, (.s 10)))])), (.op none none (.store (.s 4) (.s 11) 13))]
abbrev Q1JL : AC := .seq Q1JK .ret
abbrev Q1JM : AC := .cond (.s 7) Q1JL .skip
abbrev Q1JN : AC := .seq Q1JJ Q1JM
abbrev Q1JO : AC := .run [(.op (some 12) none (.mv (.s 0))), (.call (some 13) none n_ref3_P_want [(.s 12), (.k (.str [61]))])]
abbrev Q1JP : AC := .par [(.op (some 14) none (.mv (.s 0))), (.call (some 15) none n_ref3_P_ok [(.s 14)]), (.op (some 16) none (.mv (.s 15))), (.op (some 17) (some (16, true)) (.mv (.s 0))), (.op (some 18) (some (16, true)) (.nilck (.s 17))), (.op (some 19) (some (16, true)) (.faddr (.s 18) 0)), (.op (some 20) (some (16, true)) (.load (.s 19) false 1)), (.op (some 21) (some (16, true)) (.mv (.s 0))), (.op (some 22) (some (16, true)) (.nilck (.s 21))), (.op (some 23) (some (16, true)) (.faddr (.s 22) 1)), (.op (some 24) (some (16, true)) (.load (.s 23) false 1)), (.op (some 25) (some (16, true)) (.iaddr (.s 20) (.s 24) 4)), (.op (some 26) (some (16, true)) (.faddr (.s 25) 0)), (.op (some 27) (some (16, true)) (.load (.s 26) false 1)), (.op (some 28) (some (16, true)) (.bin .eql (.s 27) (.k (.int .i64 1)))), (.op (some 29) none (.pick (.s 16) (.s 28) (.k (.bool false)))), (.op (some 30) none (.mv (.s 29))), (.op (some 31) (some (30, true)) (.mv (.s 0))), (.op (some 32) (some (30, true)) (.nilck (.s 31))), (.op (some 33) (some (30, true)) (.faddr (.s 32) 0)), (.op (some 34) (some (30, true)) (.load (.s 33) false 1)), (.op (some 35) (some (30, true)) (.mv (.s 0))), (.op (some 36) (some (30, true)) (.nilck (.s 35))), (.op (some 37) (some (30, true)) (.faddr (.s 36) 1)), (.op (some 38) (some (30, true)) (.load (.s 37) false 1)), (.op (some 39) (some (30, true)) (.bin .add (.s 38) (.k (.int .i64 1)))), (.op (some 40) (some (30, true)) (.iaddr (.s 34) (.s 39) 4)), (.op (some 41) (some (30, true)) (.faddr (.s 40) 0)), (.op (some 42) (some (30, true)) (.load (.s 41) false 1)), (.op (some 43) (some (30, true)) (.bin .eql (.s 42) (.k (.int .i64 4)))), (.op (some 44) none (.pick (.s 30) (.s 43) (.k (.bool false)))), (.op (some 45) none (.mv (.s 44))), (.op (some 46) (some (45, true)) (.mv (.s 0))), (.op (some 47) (some (45, true)) (.nilck (.s 46))), (.op (some 48) (some (45, true)) (.faddr (.s 47) 0)), (.op (some 49) (some (45, true)) (.load (.s 48) false 1)), (.op (some 50) (some (45, true)) (.mv (.s 0))), (.op (some 51) (some (45, true)) (.nilck (.s 50))), (.op (some 52) (some (45, true)) (.faddr (.s 51) 1)), (.op (some 53) (some (45, true)) (.load (.s 52) false 1)), (.op (some 54) (some (45, true)) (.bin .add (.s 53) (.k (.int .i64 1)))), (.op (some 55) (some (45, true)) (.iaddr (.s 49) (.s 54) 4)), (.op (some 56) (some (45, true)) (.faddr (.s 55) 1)), (.op (some 57) (some (45, true)) (.load (.s 56) false 1)), (.op (some 58) (some (45, true)) (.bin .eql (.s 57) (.k (.str [40])))), (.op (some 59) none (.pick (.s 45) (.s 58) (.k (.bool false))))] [(0, 0), (1, 0), (2, 0), (3, 0), (4, 0), (5, 0), (6, 0), (7, 0), (8, 0), (9, 0), (10, 0), (11, 0), (12, 0), (13, 0), (14, 0), (15, 0), (16, 0), (17, 0), (18, 0), (19, 0), (20, 0), (21, 0), (22, 0), (23, 0), (24, 0), (25, 0), (26, 0), (27, 0), (28, 0), (29, 0), (30, 0), (31, 0), (32, 0), (33, 0), (34, 0), (35, 0), (36, 0), (37, 0), (38, 0), (39, 0), (40, 0), (41, 0), (42, 0), (43, 0), (44, 0), (45, 0)]
abbrev Q1JQ : AC := .run [(.op (some 60) none (.mv (.s 0))), (.call (some 61) none n_ref3_P_name [(.s 60), (.k (.bool false))]), (.op (some 5) none (.mv (.s 61)))]
abbrev Q1JR : AC := .run [(.op (some 62) none (.mv (.s 1))), (.op (some 63) none (.mv (.s 5))), (.op (some 64) none (.mv (.s 0))), (.call (some 65) none n_ref3_P_args [(.s 64)]), (.op (some 66) none (.build [(.int .i64 0), (.int .i64 0), (.slice .full 0 []), (.str []), (.str []), (.int .i64 0), (.int .i64 0), (.str []), (.slice .full 0 []), (.bool false), (.slice .full 0 []), (.slice .full 0 []), (.slice .full 0 [])] [(1, (1, (.k (.int .i64 4)))), (3, (1, (.s 62))), (4, (1, (.s 63))), (10, (1, (.s 65)))])), (.op none none (.store (.s 4) (.s 66) 13))]
abbrev Q1JS : AC := .seq Q1JR .ret
abbrev Q1JT : AC := .seq Q1JQ Q1JS
abbrev Q1JU : AC := .cond (.s 59) Q1JT .skip
abbrev Q1JV : AC := .seq Q1JP Q1JU
abbrev Q1JW : AC := .run [(.op (some 67) none (.mv (.s 1))), (.op (some 68) none (.mv (.s 0))), (.call (some 69) none n_ref3_P_expr [(.s 68)]), (.op (some 70) none (.build [(.int .i64 0), (.int .i64 0), (.slice .full 0 []), (.str []), (.str []), (.int .i64 0), (.int .i64 0), (.str []), (.slice .full 0 []), (.bool false), (.slice .full 0 []), (.slice .full 0 []), (.slice .full 0 [])] [(1, (1, (.k (.int .i64 1)))), (3, (1, (.s 67))), (5, (4, (.s 69)))])), (.op none none (.store (.s 4) (.s 70) 13))]
abbrev Q1JX : AC := .seq Q1JW .ret
abbrev Q1JY : AC := .seq Q1JV Q1JX
abbrev Q1JZ : AC := .seq Q1JO Q1JY
abbrev Q1K0 : AC := .seq Q1JN Q1JZ
abbrev Q1K1 : AC := .seq Q1JI Q1K0
abbrev Q1K2 : AC := .run [(.op (some 6) none (.alloc [(.int .i64 0), (.int .i64 0), (.slice .full 0 []), (.str []), (.str []), (.int .i64 0), (.int .i64 0), (.str []), (.slice .full 0 []), (.bool false), (.slice .full 0 []), (.slice .full 0 []), (.slice .full 0 [])]))]
abbrev Q1K3 : AC := .run [(.op (some 8) none (.mv (.s 1))), (.op (some 9) none (.mv (.s 2))), (.op (some 10) none (.build [(.int .i64 0), (.int .i64 0), (.slice .full 0 []), (.str []), (.str []), (.int .i64 0), (.int .i64 0), (.str []), (.slice .full 0 []), (.bool false), (.slice .full 0 []), (.slice .full 0 []), (.slice .full 0 [])] [(1, (1, (.k (.int .i64 4)))), (3, (1, (.s 8))), (4, (1, (.s 9)))])), (.op (some 7) none (.alloc [(.int .i64 0), (.int .i64 0), (.slice .full 0 []), (.str []), (.str []), (.int .i64 0), (.int .i64 0), (.str []), (.slice .full 0 []), (.bool false), (.slice .full 0 []), (.slice .full 0 []), (.slice .full 0 [])])), (.op none none (.store (.s 7) (.s 10) 13))]
abbrev Q1K4 : AC := .run [(.op (some 11) none (.mv (.s 0))), (.call (some 12) none n_parse_reader_want [(.s 11), (.k (.str [40]))])]
abbrev Q1K5 : AC := .run [(.op (some 13) none (.mv (.s 0))), (.call (some 14) none n_parse_reader_good [(.s 13)]), (.op (some 15) none (.mv (.s 14))), (.op (some 16) (some (15, true)) (.mv (.s 0))), (.call (some 17) (some (15, true)) n_parse_reader_is [(.s 16), (.k (.str [41]))]), (.op (some 18) (some (15, true)) (.un .not (.s 17))), (.op (some 19) none (.pick (.s 15) (.s 18) (.k (.bool false))))]
abbrev Q1K6 : AC := .run [(.op (some 20) none (.mv (.s 0))), (.call (some 21) none n_parse_reader_good [(.s 20)])]
abbrev Q1K7 : AC := .cond (.s 21) .skip (.exit 0)
abbrev Q1K8 : AC := .seq Q1K6 Q1K7
abbrev Q1K9 : AC := .run [(.op (some 22) none (.mv (.s 0))), (.call (some 23) none n_parse_reader_take [(.s 22), (.k (.str [114, 101, 102]))])]
abbrev Q1KA : AC := .par [(.op (some 24) none (.faddr (.s 7) 10)), (.op (some 25) none (.load (.s 24) false 1)), (.op (some 26) none (.mv (.s 0))), (.call (some 27) none n_parse_reader_name [(.s 26), (.k (.bool true))]), (.op (some 28) none (.build [(.bool false), (.str []), (.int .i64 0), (.int .i64 0), (.str []), (.slice .full 0 [])] [(0, (1, (.k (.bool true)))), (1, (1, (.s 27)))])), (.op (some 29) none (.bslice [(.bool false), (.str []), (.int .i64 0), (.int .i64 0), (.str []), (.slice .full 0 [])] 6 1 [(0, (.s 28))])), (.op (some 30) none (.app 6 80 (.s 25) (.s 29))), (.op (some 31) none (.faddr (.s 7) 10)), (.op none none (.store (.s 31) (.s 30) 1))] [(2, 0), (3, 0), (0, 0), (1, 1), (4, 0), (5, 0), (6, 0), (7, 0), (8, 0)]
abbrev Q1KB : AC := .par [(.op (some 32) none (.faddr (.s 7) 10)), (.op (some 33) none (.load (.s 32) false 1)), (.op (some 34) none (.mv (.s 0))), (.call (some 35) none n_parse_reader_whole [(.s 34)]), (.op (some 36) none (.build [(.bool false), (.str []), (.int .i64 0), (.int .i64 0), (.str []), (.slice .full 0 [])] [(2, (4, (.s 35)))])), (.op (some 37) none (.bslice [(.bool false), (.str []), (.int .i64 0), (.int .i64 0), (.str []), (.slice .full 0 [])] 6 1 [(0, (.s 36))])), (.op (some 38) none (.app 6 80 (.s 33) (.s 37))), (.op (some 39) none (.faddr (.s 7) 10)), (.op none none (.store (.s 39) (.s 38) 1))] [(2, 0), (3, 0), (0, 0), (1, 1), (4, 0), (5, 0), (6, 0), (7, 0), (8, 0)]
abbrev Q1KC : AC := .cond (.s 23) Q1KA Q1KB
abbrev Q1KD : AC := .seq Q1K9 Q1KC
abbrev Q1KE : AC := .run [(.op (some 40) none (.mv (.s 0))), (.call (some 41) none n_parse_reader_take [(.s 40), (.k (.str [44]))]), (.op (some 42) none (.un .not (.s 41)))]
abbrev Q1KF : AC := .cond (.s 42) (.exit 0) .skip
abbrev Q1KG : AC := .seq Q1KE Q1KF
abbrev Q1KH : AC := .seq Q1KD Q1KG
abbrev Q1KI : AC := .block 1 Q1KH
abbrev Q1KJ : AC := .seq Q1K8 Q1KI
abbrev Q1KK : AC := .loop Q1KJ
abbrev Q1KL : AC := .block 0 Q1KK
abbrev Q1KM : AC := .cond (.s 19) Q1KL .skip
abbrev Q1KN : AC := .seq Q1K5 Q1KM
abbrev Q1KO : AC := .run [(.op (some 43) none (.mv (.s 0))), (.call (some 44) none n_parse_reader_want [(.s 43), (.k (.str [41]))])]
abbrev Q1KP : AC := .run [(.op (some 45) none (.mv (.s 0))), (.call (some 46) none n_parse_reader_want [(.s 45), (.k (.str [59]))])]
abbrev Q1KQ : AC := .run [(.op (some 47) none (.load (.s 7) true 13)), (.op none none (.store (.s 6) (.s 47) 13))]
abbrev Q1KR : AC := .seq Q1KQ .ret
abbrev Q1KS : AC := .seq Q1KP Q1KR
abbrev Q1KT : AC := .seq Q1KO Q1KS
abbrev Q1KU : AC := .seq Q1KN Q1KT
abbrev Q1KV : AC := .seq Q1K4 Q1KU
abbrev Q1KW : AC := .seq Q1K3 Q1KV
abbrev Q1KX : AC := .seq Q1K2 Q1KW
abbrev Q1KY : AC := .run [(.op (some 2) none (.mv (.k (.slice .full 0 []))))]
abbrev Q1KZ : AC := .run [(.op (some 3) none (.mv (.k (.slice .full 0 []))))]
abbrev Q1L0 : AC := .run [(.op (some 4) none (.mv (.s 0))), (.call (some 5) none n_ref3_P_want [(.s 4), (.k (.str [40]))])]
abbrev Q1L1 : AC := .run [(.op (some 6) none (.mv (.s 0))), (.call (some 7) none n_ref3_P_take [(.s 6), (.k (.str [41]))])]
abbrev Q1L2 : AC := .run [(.op (some 2) none (.mv (.k (.slice .full 0 []))))]
abbrev Q1L3 : AC := .seq Q1L2 .ret
abbrev Q1L4 : AC := .cond (.s 7) Q1L3 .skip
abbrev Q1L5 : AC := .seq Q1L1 Q1L4
abbrev Q1L6 : AC := .run [(.op (some 8) none (.mv (.s 0))), (.call (some 9) none n_ref3_P_ok [(.s 8)])]
abbrev Q1L7 : AC := .cond (.s 9) .skip (.exit 0)
abbrev Q1L8 : AC := .seq Q1L6 Q1L7
abbrev Q1L9 : AC := .run [(.op (some 10) none (.mv (.s 0))), (.call (some 11) none n_ref3_P_take [(.s 10), (.k (.str [114, 101, 102]))])]
abbrev Q1LA : AC := .run [(.op (some 12) none (.mv (.s 3))), (.op (some 13) none (.mv (.s 0))), (.call (some 14) none n_ref3_P_name [(.s 13), (.k (.bool false))]), (.op (some 15) none (.build [(.bool false), (.str []), (.int .i64 0), (.int .i64 0), (.str []), (.slice .full 0 [])] [(0, (1, (.k (.bool true)))), (1, (1, (.s 14)))])), (.op (some 16) none (.bslice [(.bool false), (.str []), (.int .i64 0), (.int .i64 0), (.str []), (.slice .full 0 [])] 6 1 [(0, (.s 15))])), (.op (some 17) none (.app 6 80 (.s 12) (.s 16))), (.op (some 3) none (.mv (.s 17)))]
abbrev Q1LB : AC := .run [(.op (some 18) none (.mv (.s 3))), (.op (some 19) none (.mv (.s 0))), (.call (some 20) none n_ref3_P_expr [(.s 19)]), (.op (some 21) none (.build [(.bool false), (.str []), (.int .i64 0), (.int .i64 0), (.str []), (.slice .full 0 [])] [(2, (4, (.s 20)))])), (.op (some 22) none (.bslice [(.bool false), (.str []), (.int .i64 0), (.int .i64 0), (.str []), (.slice .full 0 [])] 6 1 [(0, (.s 21))])), (.op (some 23) none (.app 6 80 (.s 18) (.s 22))), (.op (some 3) none (.mv (.s 23)))]
abbrev Q1LC : AC := .cond (.s 11) Q1LA Q1LB
abbrev Q1LD : AC := .seq Q1L9 Q1LC
abbrev Q1LE : AC := .run [(.op (some 24) none (.mv (.s 0))), (.call (some 25) none n_ref3_P_take [(.s 24), (.k (.str [44]))]), (.op (some 26) none (.un .not (.s 25)))]
abbrev Q1LF : AC := .cond (.s 26) (.exit 0) .skip
abbrev Q1LG : AC := .seq Q1LE Q1LF
abbrev Q1LH : AC := .seq Q1LD Q1LG
abbrev Q1LI : AC := .block 1 Q1LH
abbrev Q1LJ : AC := .seq Q1L8 Q1LI
abbrev Q1LK : AC := .loop Q1LJ
abbrev Q1LL : AC := .block 0 Q1LK
abbrev Q1LM : AC := .run [(.op (some 27) none (.mv (.s 0))), (.call (some 28) none n_ref3_P_want [(.s 27), (.k (.str [41]))])]
abbrev Q1LN : AC := .run [(.op (some 29) none (.mv (.s 3))), (.op (some 2) none (.mv (.s 29)))]
abbrev Q1LO : AC := .seq Q1LN .ret
abbrev Q1LP : AC := .seq Q1LM Q1LO
abbrev Q1LQ : AC := .seq Q1LL Q1LP
abbrev Q1LR : AC := .seq Q1L5 Q1LQ
abbrev Q1LS : AC := .seq Q1L0 Q1LR
abbrev Q1LT : AC := .seq Q1KZ Q1LS
abbrev Q1LU : AC := .seq Q1KY Q1LT

end Go.Abs

/-! Have3 -/

namespace Go.Abs
open Go.Proofs

theorem has_ref1_small : Has Try.prog n_ref1_small 9 [(2, none)] Q115 := ⟨Try.f90, by kernel_rfl, by kernel_rfl⟩
theorem has_ref1_digit : Has Try.prog n_ref1_digit 9 [(2, none)] Q119 := ⟨Try.f91, by kernel_rfl, by kernel_rfl⟩
theorem has_ref1_Word : Has Try.prog n_ref1_Word 15 [(2, none)] Q11W := ⟨Try.f92, by kernel_rfl, by kernel_rfl⟩
theorem has_parse_reader_name : Has Try.prog n_parse_reader_name 31 [(4, none)] Q12K := ⟨Try.f100, by kernel_rfl, by kernel_rfl⟩
theorem has_parse_reader_want : Has Try.prog n_parse_reader_want 10 [] Q12O := ⟨Try.f101, by kernel_rfl, by kernel_rfl⟩
theorem has_parse_reader_rows : Has Try.prog n_parse_reader_rows 43 [(6, none), (7, none)] Q13H := ⟨Try.f102, by kernel_rfl, by kernel_rfl⟩
theorem has_tree_expr : Has Try.prog n_tree_expr 24 [(2, (some (true, 4)))] Q144 := ⟨Try.f103, by kernel_rfl, by kernel_rfl⟩
theorem has_ref1_from : Has Try.prog n_ref1_from 28 [(4, none)] Q14J := ⟨Try.f104, by kernel_rfl, by kernel_rfl⟩
theorem has_ref1_Worth : Has Try.prog n_ref1_Worth 27 [(2, none), (3, none)] Q158 := ⟨Try.f105, by kernel_rfl, by kernel_rfl⟩
theorem has_ref1_sign : Has Try.prog n_ref1_sign 35 [(2, none)] Q16E := ⟨Try.f106, by kernel_rfl, by kernel_rfl⟩
theorem has_ref3_P_stmt : Has Try.prog n_ref3_P_stmt 85 [(6, (some (true, 13)))] Q17X := ⟨Try.f107, by kernel_rfl, by kernel_rfl⟩
theorem has_parse_reader_one : Has Try.prog n_parse_reader_one 64 [(2, (some (true, 4)))] Q19A := ⟨Try.f108, by kernel_rfl, by kernel_rfl⟩
theorem has_parse_op : Has Try.prog n_parse_op 35 [(2, none), (3, none)] Q1BH := ⟨Try.f109, by kernel_rfl, by kernel_rfl⟩
theorem has_ref1_Words : Has Try.prog n_ref1_Words 2 [(0, none)] Q1BL := ⟨Try.f110, by kernel_rfl, by kernel_rfl⟩
theorem has_parse_reader_labels : Has Try.prog n_parse_reader_labels 56 [(2, none)] Q1C2 := ⟨Try.f112, by kernel_rfl, by kernel_rfl⟩
theorem has_parse_reader_stmt : Has Try.prog n_parse_reader_stmt 71 [(4, (some (true, 13)))] Q1DK := ⟨Try.f113, by kernel_rfl, by kernel_rfl⟩
theorem has_ref3_P_begins : Has Try.prog n_ref3_P_begins 31 [(2, none)] Q1ED := ⟨Try.f114, by kernel_rfl, by kernel_rfl⟩
theorem has_ref3_P_small : Has Try.prog n_ref3_P_small 42 [(2, (some (true, 13)))] Q1FJ := ⟨Try.f115, by kernel_rfl, by kernel_rfl⟩
theorem has_parse_reader_begins : Has Try.prog n_parse_reader_begins 23 [(2, none)] Q1GV := ⟨Try.f116, by kernel_rfl, by kernel_rfl⟩
theorem has_parse_reader_named : Has Try.prog n_parse_reader_named 64 [(2, (some (true, 13)))] Q1HJ := ⟨Try.f117, by kernel_rfl, by kernel_rfl⟩
theorem has_parse_reader_choice : Has Try.prog n_parse_reader_choice 20 [(4, (some (true, 13)))] Q1HW := ⟨Try.f118, by kernel_rfl, by kernel_rfl⟩
theorem has_parse_reader_head : Has Try.prog n_parse_reader_head 11 [(2, (some (true, 4)))] Q1I6 := ⟨Try.f119, by kernel_rfl, by kernel_rfl⟩
theorem has_parse_reader_block : Has Try.prog n_parse_reader_block 17 [(4, none)] Q1IE := ⟨Try.f120, by kernel_rfl, by kernel_rfl⟩
theorem has_parse_reader_plain : Has Try.prog n_parse_reader_plain 42 [(4, (some (true, 13)))] Q1JH := ⟨Try.f121, by kernel_rfl, by kernel_rfl⟩
theorem has_ref3_P_named : Has Try.prog n_ref3_P_named 71 [(4, (some (true, 13)))] Q1K1 := ⟨Try.f122, by kernel_rfl, by kernel_rfl⟩
theorem has_parse_reader_call : Has Try.prog n_parse_reader_call 48 [(6, (some (true, 13)))] Q1KX := ⟨Try.f123, by kernel_rfl, by kernel_rfl⟩
theorem has_ref3_P_args : Has Try.prog n_ref3_P_args 30 [(2, none)] Q1LU := ⟨Try.f124, by kernel_rfl, by kernel_rfl⟩

end Go.Abs

/-! Prs -/

namespace Go.Abs

set_option maxRecDepth 8000
set_option linter.unusedSimpArgs false
set_option linter.unusedVariables false
open Go.Proofs

@[go_sem] def encRd (r : Rd) : List D := [.slice .shared 4 (r.l.map encTok), .int .i64 r.i, .int .i64 r.code, .int .i64 r.fat, .int .i64 r.n]
theorem okRd (r : Rd) : D.oks 0 0 (encRd r) = true := by simp [encRd, D.oks, D.ok, Tag.ok, okrTok]

theorem peek_lt {r : Rd} {t : Tok} (h : r.peek = some t) : r.i < 4611686018427387904 := (peek_get h).1
theorem is_lt {r : Rd} {s : Str} {t : Bool} (h : r.is s = some t) : r.i < 4611686018427387904 := by
  obtain ⟨t, h1, h⟩ := Option.bind_eq_some_iff.1 h
  exact peek_lt h1

-- good
theorem good_0 (l : List Tok) (i c f n : Int) : Fun Try.prog n_parse_reader_good [.ptr 0 0] ⟨[[.slice .shared 4 (l.map encTok), .int .i64 i, .int .i64 c, .int .i64 f, .int .i64 n]], []⟩ (.bool (c == 0)) ⟨[[.slice .shared 4 (l.map encTok), .int .i64 i, .int .i64 c, .int .i64 f, .int .i64 n]], []⟩ := by
  refine Fun.go has_parse_reader_good rfl fun B Q hB hQ => ?_
  have hlt : 0 < 1 := Nat.zero_lt_one
  have hget : 0 < 1 := Nat.zero_lt_one
  have hpu : 0 < 1 := Nat.zero_lt_one
  have hinc : 0 < 1 := Nat.zero_lt_one
  repeat' (first
 | simp only [go_sem, hlt, hget, hpu, hinc, Int.reduceLE, ↓reduceIte, reduceCtorEq, Nat.reduceEqDiff, Nat.reduceLeDiff, Nat.reduceAdd, Nat.reduceMul, Nat.reduceSub, Nat.reduceLT, fgrTok]
 | (with_reducible first | refine CB_ofT (by assumption) fun hc => ?_ | refine CB_ofF (by assumption) fun hc => ?_ | refine CB_split (fun hc => ?_) fun hc => ?_) <;> (try simp only [hc, bs, ↓reduceIte] at h) <;> (try simp only [hc])
 | ((with_reducible first | refine leafR hQ ?_ | refine leafN hQ ?_); (try cases h); simp only [resL, oneD, Option.some.injEq, exists_eq_left', go_sem, hlt, hget, hpu, hinc, Int.reduceLE, ↓reduceIte, reduceCtorEq, Nat.reduceEqDiff, Nat.reduceLeDiff, Nat.reduceAdd, Nat.reduceMul, Nat.reduceSub, Nat.reduceLT, fgrTok]; repeat' (first | exact Ok.out | with_reducible refine And.intro ?_ ?_ | (simp; done)))
 | (cases h; replace h := hr; clear hr; (try simp only [bs, ↓reduceIte] at h))
 | (cases h; done))
theorem good_s {l : List Tok} {i c f n : Int} {s : St} {o : Nat} (ho : s.objs[o]? = some [.slice .shared 4 (l.map encTok), .int .i64 i, .int .i64 c, .int .i64 f, .int .i64 n]) : Fun Try.prog n_parse_reader_good [.ptr o 0] s (.bool (c == 0)) ⟨s.objs.set o [.slice .shared 4 (l.map encTok), .int .i64 i, .int .i64 c, .int .i64 f, .int .i64 n], s.toks⟩ :=
  have hk : D.oks 0 0 [.slice .shared 4 (l.map encTok), .int .i64 i, .int .i64 c, .int .i64 f, .int .i64 n] = true := by simp [D.oks, D.ok, Tag.ok, okrTok]
  Fun.meth (good_0 l i c f n) rfl hk hk rfl ho
theorem peek_0 {r : Rd} {t : Tok} (h : r.peek = some t) : Fun Try.prog n_parse_reader_peek [.ptr 0 0] ⟨[encRd r], []⟩ (.agg (encTok t)) ⟨[encRd r], []⟩ := by
  obtain ⟨h2, h, _, _⟩ := peek_get h
  refine Fun.go has_parse_reader_peek rfl fun B Q hB hQ => ?_
  have hlt : 0 < 1 := Nat.zero_lt_one
  have hget : 0 < 1 := Nat.zero_lt_one
  have hpu : 0 < 1 := Nat.zero_lt_one
  have hinc : 0 < 1 := Nat.zero_lt_one
  repeat' (first
 | simp only [go_sem, hlt, hget, hpu, hinc, Int.reduceLE, ↓reduceIte, reduceCtorEq, Nat.reduceEqDiff, Nat.reduceLeDiff, Nat.reduceAdd, Nat.reduceMul, Nat.reduceSub, Nat.reduceLT, fgrTok, h]
 | (with_reducible first | refine CB_ofT (by assumption) fun hc => ?_ | refine CB_ofF (by assumption) fun hc => ?_ | refine CB_split (fun hc => ?_) fun hc => ?_) <;> (try simp only [hc, bs, ↓reduceIte] at h) <;> (try simp only [hc])
 | ((with_reducible first | refine leafR hQ ?_ | refine leafN hQ ?_); (try cases h); simp only [resL, oneD, Option.some.injEq, exists_eq_left', go_sem, hlt, hget, hpu, hinc, Int.reduceLE, ↓reduceIte, reduceCtorEq, Nat.reduceEqDiff, Nat.reduceLeDiff, Nat.reduceAdd, Nat.reduceMul, Nat.reduceSub, Nat.reduceLT, fgrTok, h]; repeat' (first | exact Ok.out | with_reducible refine And.intro ?_ ?_ | (simp; done)))
 | (cases h; replace h := hr; clear hr; (try simp only [bs, ↓reduceIte] at h))
 | (cases h; done))
theorem peek_s {r : Rd} {t : Tok} (h : r.peek = some t) {s : St} {o : Nat} (ho : s.objs[o]? = some (encRd r)) : Fun Try.prog n_parse_reader_peek [.ptr o 0] s (.agg (encTok t)) ⟨s.objs.set o (encRd r), s.toks⟩ :=
  (peek_0 h).meth rfl (okRd r) (okRd r) (okTok t) ho
theorem is_0 {r : Rd} {text : Str} {b : Bool} (h : r.is text = some b) : Fun Try.prog n_parse_reader_is [.ptr 0 0, .str text] ⟨[encRd r], []⟩ (.bool b) ⟨[encRd r], []⟩ := by
  unfold Rd.is at h
  refine Fun.go has_parse_reader_is rfl fun B Q hB hQ => ?_
  have hlt : 0 < 1 := Nat.zero_lt_one
  have hget : 0 < 1 := Nat.zero_lt_one
  have hpu : 0 < 1 := Nat.zero_lt_one
  have hinc : 0 < 1 := Nat.zero_lt_one
  repeat' (first
 | simp only [go_sem, hlt, hget, hpu, hinc, Int.reduceLE, ↓reduceIte, reduceCtorEq, Nat.reduceEqDiff, Nat.reduceLeDiff, Nat.reduceAdd, Nat.reduceMul, Nat.reduceSub, Nat.reduceLT, fgrTok]
 | (rw [Option.bind_eq_some_iff] at h; obtain ⟨_, h1, h⟩ := h; first | (with_reducible refine CU (peek_s h1 (by with_unfolding_all rfl)) ?_))
 | (with_reducible first | refine CB_ofT (by assumption) fun hc => ?_ | refine CB_ofF (by assumption) fun hc => ?_ | refine CB_split (fun hc => ?_) fun hc => ?_) <;> (try simp only [hc, bs, ↓reduceIte] at h) <;> (try simp only [hc])
 | ((with_reducible first | refine leafR hQ ?_ | refine leafN hQ ?_); (try cases h); simp only [resL, oneD, Option.some.injEq, exists_eq_left', go_sem, hlt, hget, hpu, hinc, Int.reduceLE, ↓reduceIte, reduceCtorEq, Nat.reduceEqDiff, Nat.reduceLeDiff, Nat.reduceAdd, Nat.reduceMul, Nat.reduceSub, Nat.reduceLT, fgrTok]; repeat' (first | exact Ok.out | with_reducible refine And.intro ?_ ?_ | (simp; done)))
 | (cases h; replace h := hr; clear hr; (try simp only [bs, ↓reduceIte] at h))
 | (cases h; done))
theorem is_s {r : Rd} {text : Str} {b : Bool} (h : r.is text = some b) {s : St} {o : Nat} (ho : s.objs[o]? = some (encRd r)) : Fun Try.prog n_parse_reader_is [.ptr o 0, .str text] s (.bool b) ⟨s.objs.set o (encRd r), s.toks⟩ :=
  (is_0 h).meth rfl (okRd r) (okRd r) rfl ho
theorem bad_0 {r r' : Rd} {c : Int} (h : r.bad c = some r') : Fun Try.prog n_parse_reader_bad [.ptr 0 0, .int .i64 c] ⟨[encRd r], []⟩ (.tuple []) ⟨[encRd r'], []⟩ := by
  unfold Rd.bad at h
  refine Fun.go has_parse_reader_bad rfl fun B Q hB hQ => ?_
  have hlt : 0 < 1 := Nat.zero_lt_one
  have hget : 0 < 1 := Nat.zero_lt_one
  have hpu : 0 < 1 := Nat.zero_lt_one
  have hinc : 0 < 1 := Nat.zero_lt_one
  repeat' (first
 | simp only [go_sem, hlt, hget, hpu, hinc, Int.reduceLE, ↓reduceIte, reduceCtorEq, Nat.reduceEqDiff, Nat.reduceLeDiff, Nat.reduceAdd, Nat.reduceMul, Nat.reduceSub, Nat.reduceLT, fgrTok]
 | (rw [Option.bind_eq_some_iff] at h; obtain ⟨_, h1, h⟩ := h; first | (with_reducible refine CU (peek_s h1 (by with_unfolding_all rfl)) ?_))
 | (with_reducible refine CU (good_s (by with_unfolding_all rfl)) ?_)
 | (with_reducible first | refine CB_ofT (by assumption) fun hc => ?_ | refine CB_ofF (by assumption) fun hc => ?_ | refine CB_split (fun hc => ?_) fun hc => ?_) <;> (try simp only [hc, bs, ↓reduceIte] at h) <;> (try simp only [hc])
 | ((with_reducible first | refine leafR hQ ?_ | refine leafN hQ ?_); (try cases h); simp only [resL, oneD, Option.some.injEq, exists_eq_left', go_sem, hlt, hget, hpu, hinc, Int.reduceLE, ↓reduceIte, reduceCtorEq, Nat.reduceEqDiff, Nat.reduceLeDiff, Nat.reduceAdd, Nat.reduceMul, Nat.reduceSub, Nat.reduceLT, fgrTok]; repeat' (first | exact Ok.out | with_reducible refine And.intro ?_ ?_ | (simp; done)))
 | (cases h; replace h := hr; clear hr; (try simp only [bs, ↓reduceIte] at h))
 | (cases h; done))
theorem bad_s {r r' : Rd} {c : Int} (h : r.bad c = some r') {s : St} {o : Nat} (ho : s.objs[o]? = some (encRd r)) : Fun Try.prog n_parse_reader_bad [.ptr o 0, .int .i64 c] s (.tuple []) ⟨s.objs.set o (encRd r'), s.toks⟩ :=
  (bad_0 h).meth rfl (okRd r) (okRd r') rfl ho
theorem take_0 {r : Rd} {text : Str} {p : Bool × Rd} (h : r.take text = some p) : Fun Try.prog n_parse_reader_take [.ptr 0 0, .str text] ⟨[encRd r], []⟩ (.bool p.1) ⟨[encRd p.2], []⟩ := by
  unfold Rd.take at h
  refine Fun.go has_parse_reader_take rfl fun B Q hB hQ => ?_
  have hlt : 0 < 1 := Nat.zero_lt_one
  have hget : 0 < 1 := Nat.zero_lt_one
  have hpu : 0 < 1 := Nat.zero_lt_one
  have hinc : 0 < 1 := Nat.zero_lt_one
  repeat' (first
 | simp only [go_sem, hlt, hget, hpu, hinc, Int.reduceLE, ↓reduceIte, reduceCtorEq, Nat.reduceEqDiff, Nat.reduceLeDiff, Nat.reduceAdd, Nat.reduceMul, Nat.reduceSub, Nat.reduceLT, fgrTok]
 | (rw [Option.bind_eq_some_iff] at h; obtain ⟨_, h1, h⟩ := h; first | (with_reducible refine CU (is_s h1 (by with_unfolding_all rfl)) ?_; have hlt := is_lt h1))
 | (with_reducible refine CU (good_s (by with_unfolding_all rfl)) ?_)
 | (with_reducible first | refine CB_ofT (by assumption) fun hc => ?_ | refine CB_ofF (by assumption) fun hc => ?_ | refine CB_split (fun hc => ?_) fun hc => ?_) <;> (try simp only [hc, bs, ↓reduceIte] at h) <;> (try simp only [hc])
 | ((with_reducible first | refine leafR hQ ?_ | refine leafN hQ ?_); (try cases h); simp only [resL, oneD, Option.some.injEq, exists_eq_left', go_sem, hlt, hget, hpu, hinc, Int.reduceLE, ↓reduceIte, reduceCtorEq, Nat.reduceEqDiff, Nat.reduceLeDiff, Nat.reduceAdd, Nat.reduceMul, Nat.reduceSub, Nat.reduceLT, fgrTok]; repeat' (first | exact Ok.out | with_reducible refine And.intro ?_ ?_ | (simp; done)))
 | (cases h; replace h := hr; clear hr; (try simp only [bs, ↓reduceIte] at h))
 | (cases h; done))
theorem take_s {r : Rd} {text : Str} {p : Bool × Rd} (h : r.take text = some p) {s : St} {o : Nat} (ho : s.objs[o]? = some (encRd r)) : Fun Try.prog n_parse_reader_take [.ptr o 0, .str text] s (.bool p.1) ⟨s.objs.set o (encRd p.2), s.toks⟩ :=
  (take_0 h).meth rfl (okRd r) (okRd p.2) rfl ho
theorem want_0 {r r' : Rd} {text : Str} (h : r.want text = some r') : Fun Try.prog n_parse_reader_want [.ptr 0 0, .str text] ⟨[encRd r], []⟩ (.tuple []) ⟨[encRd r'], []⟩ := by
  unfold Rd.want at h
  refine Fun.go has_parse_reader_want rfl fun B Q hB hQ => ?_
  have hlt : 0 < 1 := Nat.zero_lt_one
  have hget : 0 < 1 := Nat.zero_lt_one
  have hpu : 0 < 1 := Nat.zero_lt_one
  have hinc : 0 < 1 := Nat.zero_lt_one
  repeat' (first
 | simp only [go_sem, hlt, hget, hpu, hinc, Int.reduceLE, ↓reduceIte, reduceCtorEq, Nat.reduceEqDiff, Nat.reduceLeDiff, Nat.reduceAdd, Nat.reduceMul, Nat.reduceSub, Nat.reduceLT, fgrTok]
 | (rw [Option.bind_eq_some_iff] at h; obtain ⟨_, h1, h⟩ := h; first | (with_reducible refine CU (take_s h1 (by with_unfolding_all rfl)) ?_))
 | (with_reducible refine CU (bad_s h (by with_unfolding_all rfl)) ?_)
 | (with_reducible first | refine CB_ofT (by assumption) fun hc => ?_ | refine CB_ofF (by assumption) fun hc => ?_ | refine CB_split (fun hc => ?_) fun hc => ?_) <;> (try simp only [hc, bs, ↓reduceIte] at h) <;> (try simp only [hc])
 | ((with_reducible first | refine leafR hQ ?_ | refine leafN hQ ?_); (try cases h); simp only [resL, oneD, Option.some.injEq, exists_eq_left', go_sem, hlt, hget, hpu, hinc, Int.reduceLE, ↓reduceIte, reduceCtorEq, Nat.reduceEqDiff, Nat.reduceLeDiff, Nat.reduceAdd, Nat.reduceMul, Nat.reduceSub, Nat.reduceLT, fgrTok]; repeat' (first | exact Ok.out | with_reducible refine And.intro ?_ ?_ | (simp; done)))
 | (cases h; replace h := hr; clear hr; (try simp only [bs, ↓reduceIte] at h))
 | (cases h; done))
theorem want_s {r r' : Rd} {text : Str} (h : r.want text = some r') {s : St} {o : Nat} (ho : s.objs[o]? = some (encRd r)) : Fun Try.prog n_parse_reader_want [.ptr o 0, .str text] s (.tuple []) ⟨s.objs.set o (encRd r'), s.toks⟩ :=
  (want_0 h).meth rfl (okRd r) (okRd r') rfl ho
theorem name_0 {r : Rd} {room : Bool} {p : Str × Rd} (h : r.name room = some p) : Fun Try.prog n_parse_reader_name [.ptr 0 0, .bool room] ⟨[encRd r], []⟩ (.str p.1) ⟨[encRd p.2], []⟩ := by
  unfold Rd.name at h
  refine Fun.go has_parse_reader_name rfl fun B Q hB hQ => ?_
  have hlt : 0 < 1 := Nat.zero_lt_one
  have hget : 0 < 1 := Nat.zero_lt_one
  have hpu : 0 < 1 := Nat.zero_lt_one
  have hinc : 0 < 1 := Nat.zero_lt_one
  repeat' (first
 | simp only [go_sem, hlt, hget, hpu, hinc, Int.reduceLE, ↓reduceIte, reduceCtorEq, Nat.reduceEqDiff, Nat.reduceLeDiff, Nat.reduceAdd, Nat.reduceMul, Nat.reduceSub, Nat.reduceLT, fgrTok]
 | (rw [Option.bind_eq_some_iff] at h; obtain ⟨_, h1, h⟩ := h; first | (with_reducible refine CU (peek_s h1 (by with_unfolding_all rfl)) ?_; have hlt := peek_lt h1) | (with_reducible refine CU (bad_s h1 (by with_unfolding_all rfl)) ?_))
 | (with_reducible refine CU (good_s (by with_unfolding_all rfl)) ?_)
 | (with_reducible first | refine CB_ofT (by assumption) fun hc => ?_ | refine CB_ofF (by assumption) fun hc => ?_ | refine CB_split (fun hc => ?_) fun hc => ?_) <;> (try simp only [hc, bs, ↓reduceIte] at h) <;> (try simp only [hc])
 | ((with_reducible first | refine leafR hQ ?_ | refine leafN hQ ?_); (try cases h); simp only [resL, oneD, Option.some.injEq, exists_eq_left', go_sem, hlt, hget, hpu, hinc, Int.reduceLE, ↓reduceIte, reduceCtorEq, Nat.reduceEqDiff, Nat.reduceLeDiff, Nat.reduceAdd, Nat.reduceMul, Nat.reduceSub, Nat.reduceLT, fgrTok]; repeat' (first | exact Ok.out | with_reducible refine And.intro ?_ ?_ | (simp; done)))
 | (cases h; replace h := hr; clear hr; (try simp only [bs, ↓reduceIte] at h))
 | (cases h; done))
theorem name_s {r : Rd} {room : Bool} {p : Str × Rd} (h : r.name room = some p) {s : St} {o : Nat} (ho : s.objs[o]? = some (encRd r)) : Fun Try.prog n_parse_reader_name [.ptr o 0, .bool room] s (.str p.1) ⟨s.objs.set o (encRd p.2), s.toks⟩ :=
  (name_0 h).meth rfl (okRd r) (okRd p.2) rfl ho
end Go.Abs

/-! Prs2 -/

namespace Go.Abs

set_option maxRecDepth 8000
set_option linter.unusedSimpArgs false
set_option linter.unusedVariables false
open Go.Proofs

theorem op_0 {t : Tok} {p : Int × Int} (h : opOf t = p) : Fun Try.prog n_parse_op [.agg (encTok t)] S0 (.tuple [.int .i64 p.1, .int .i64 p.2]) S0 := by
  unfold opOf at h
  unfold S0
  refine Fun.go has_parse_op rfl fun B Q hB hQ => ?_
  have hlt : 0 < 1 := Nat.zero_lt_one
  have hget : 0 < 1 := Nat.zero_lt_one
  have hpu : 0 < 1 := Nat.zero_lt_one
  have hinc : 0 < 1 := Nat.zero_lt_one
  repeat' (first
 | simp only [go_sem, hlt, hget, hpu, hinc, Int.reduceLE, ↓reduceIte, reduceCtorEq, Nat.reduceEqDiff, Nat.reduceLeDiff, Nat.reduceAdd, Nat.reduceMul, Nat.reduceSub, Nat.reduceLT]
 | (with_reducible first | refine CB_ofT (by assumption) fun hc => ?_ | refine CB_ofF (by assumption) fun hc => ?_ | refine CB_split (fun hc => ?_) fun hc => ?_) <;> (try simp only [hc, bs, ↓reduceIte] at h) <;> (try simp only [hc])
 | ((with_reducible first | refine leafR hQ ?_ | refine leafN hQ ?_); (try cases h); simp only [resL, oneD, Option.some.injEq, exists_eq_left', go_sem, hlt, hget, hpu, hinc, Int.reduceLE, ↓reduceIte, reduceCtorEq, Nat.reduceEqDiff, Nat.reduceLeDiff, Nat.reduceAdd, Nat.reduceMul, Nat.reduceSub, Nat.reduceLT]; repeat' (first | exact Ok.out | with_reducible refine And.intro ?_ ?_ | (simp; done)))
 | (cases h; replace h := hr; clear hr; (try simp only [bs, ↓reduceIte] at h))
 | (cases h; done))

theorem depth_n : ∀ n, n < 4611686018427387904 → ∀ x : Ex, x.size ≤ n → Fun Try.prog n_parse_depth [.agg (encEx x)] S0 (.int .i64 (x.depth : Int)) S0 := by
  intro n
  induction n with
  | zero => rintro _ ⟨op, m, name, kids⟩ h; simp only [Ex.size] at h; omega
  | succ n ihn =>
  rintro hn ⟨op, m, name, kids⟩ hx
  have hk : ∀ y ∈ kids, Fun Try.prog n_parse_depth [.agg (encEx y)] S0 (.int .i64 (y.depth : Int)) S0 := fun y hy => ihn (by omega) y (by simp only [Ex.size] at hx; have := Ex.sizes_mem hy; omega)
  have hlen : kids.length < 4611686018427387904 := by simp only [Ex.size] at hx; have := Ex.sizes_len kids; omega
  have hdep : Ex.depths kids < 4611686018427387904 := by have := Ex.depth_size _ _ hx; simp only [Ex.depth] at this; omega
  unfold S0
  refine Fun.go has_parse_depth rfl fun B Q hB hQ => ?_
  have hlt : 0 < 1 := Nat.zero_lt_one
  have hget : 0 < 1 := Nat.zero_lt_one
  have hpu : 0 < 1 := Nat.zero_lt_one
  have hinc : 0 < 1 := Nat.zero_lt_one
  repeat' (first
 | simp only [go_sem, hlt, hget, hpu, hinc, Int.reduceLE, ↓reduceIte, reduceCtorEq, Nat.reduceEqDiff, Nat.reduceLeDiff, Nat.reduceAdd, Nat.reduceMul, Nat.reduceSub, Nat.reduceLT]
 | (with_reducible first | refine CB_ofT (by assumption) fun hc => ?_ | refine CB_ofF (by assumption) fun hc => ?_ | refine CB_split (fun hc => ?_) fun hc => ?_) <;> (try simp only [hc, bs, ↓reduceIte] at h) <;> (try simp only [hc])
 | ((with_reducible first | refine leafR hQ ?_ | refine leafN hQ ?_); (try cases h); simp only [resL, oneD, Option.some.injEq, exists_eq_left', go_sem, hlt, hget, hpu, hinc, Int.reduceLE, ↓reduceIte, reduceCtorEq, Nat.reduceEqDiff, Nat.reduceLeDiff, Nat.reduceAdd, Nat.reduceMul, Nat.reduceSub, Nat.reduceLT]; repeat' (first | exact Ok.out | with_reducible refine And.intro ?_ ?_ | (simp; done)))
 | (cases h; replace h := hr; clear hr; (try simp only [bs, ↓reduceIte] at h))
 | (cases h; done))
  refine SemL.re _ _ 0 0 (by rw [hB]; exact Nat.le_of_ble_eq_true rfl) (by rw [hB]; exact Nat.le_of_ble_eq_true rfl) ?_ ?_ (SemL.ind (ι := List Ex × Nat × Nat) (fun i => kids.drop i.2.1 = i.1 ∧ max i.2.2 (Ex.depths i.1) = Ex.depths kids) (fun i => i.1.length)
    (fun i => [(3, .int .i64 (i.2.2 : Int)), (7, .slice .shared 4 (kids.map encEx)), (8, .int .i64 (kids.length : Int)), (9, .int .i64 (i.2.1 : Int))]) (fun _ => S0) ?_ (kids, 0, 0) ⟨rfl, by simp⟩)
  · (simp only [go_sem, hlt, hget, hpu, hinc, Int.reduceLE, ↓reduceIte, reduceCtorEq, Nat.reduceEqDiff, Nat.reduceLeDiff, Nat.reduceAdd, Nat.reduceMul, Nat.reduceSub, Nat.reduceLT]; repeat' (first | exact Ok.out | with_reducible refine And.intro ?_ ?_))
  · (simp only [go_sem, hlt, hget, hpu, hinc, Int.reduceLE, ↓reduceIte, reduceCtorEq, Nat.reduceEqDiff, Nat.reduceLeDiff, Nat.reduceAdd, Nat.reduceMul, Nat.reduceSub, Nat.reduceLT]; repeat' (first | exact Ok.out | with_reducible refine And.intro ?_ ?_))
  rintro ⟨rest, k, acc⟩ ⟨h1, h2⟩ IH
  unfold S0
  cases rest with
  | nil =>
    have hlt := drop_nil h1
    simp only [Ex.depths, Nat.max_zero] at h2
    subst h2
    repeat' (first
 | simp only [go_sem, hlt, hget, hpu, hinc, Int.reduceLE, ↓reduceIte, reduceCtorEq, Nat.reduceEqDiff, Nat.reduceLeDiff, Nat.reduceAdd, Nat.reduceMul, Nat.reduceSub, Nat.reduceLT, wrap_inc hdep, Ex.depth]
 | (with_reducible first | refine CB_ofT (by assumption) fun hc => ?_ | refine CB_ofF (by assumption) fun hc => ?_ | refine CB_split (fun hc => ?_) fun hc => ?_) <;> (try simp only [hc, bs, ↓reduceIte] at h) <;> (try simp only [hc])
 | ((with_reducible first | refine leafR hQ ?_ | refine leafN hQ ?_); (try cases h); simp only [resL, oneD, Option.some.injEq, exists_eq_left', go_sem, hlt, hget, hpu, hinc, Int.reduceLE, ↓reduceIte, reduceCtorEq, Nat.reduceEqDiff, Nat.reduceLeDiff, Nat.reduceAdd, Nat.reduceMul, Nat.reduceSub, Nat.reduceLT, wrap_inc hdep, Ex.depth]; repeat' (first | exact Ok.out | with_reducible refine And.intro ?_ ?_ | (simp; done)))
 | (cases h; replace h := hr; clear hr; (try simp only [bs, ↓reduceIte] at h))
 | (cases h; done))
  | cons y rest =>
    obtain ⟨g1, g2, hlt, g4⟩ := drop_cons h1
    simp only [Ex.depths] at h2
    have hy := fun s => (hk y (List.mem_of_getElem? g1)).pure (by simp [D.oks, D.ok, okEx]) rfl s
    dsimp only at g1 g2 hlt g4 h2
    repeat' (first
 | simp only [go_sem, hlt, hget, hpu, hinc, Int.reduceLE, ↓reduceIte, reduceCtorEq, Nat.reduceEqDiff, Nat.reduceLeDiff, Nat.reduceAdd, Nat.reduceMul, Nat.reduceSub, Nat.reduceLT, g1]
 | (with_reducible refine CU (hy _) ?_)
 | (with_reducible first | refine CB_ofT (by assumption) fun hc => ?_ | refine CB_ofF (by assumption) fun hc => ?_ | refine CB_split (fun hc => ?_) fun hc => ?_) <;> (try simp only [hc, bs, ↓reduceIte] at h) <;> (try simp only [hc])
 | ((with_reducible first | refine leafR hQ ?_ | refine leafN hQ ?_); (try cases h); simp only [resL, oneD, Option.some.injEq, exists_eq_left', go_sem, hlt, hget, hpu, hinc, Int.reduceLE, ↓reduceIte, reduceCtorEq, Nat.reduceEqDiff, Nat.reduceLeDiff, Nat.reduceAdd, Nat.reduceMul, Nat.reduceSub, Nat.reduceLT, g1]; repeat' (first | exact Ok.out | with_reducible refine And.intro ?_ ?_ | (simp; done)))
 | (cases h; replace h := hr; clear hr; (try simp only [bs, ↓reduceIte] at h))
 | (cases h; done))
    refine SemL.re _ _ 0 0 (by rw [hB]; exact Nat.le_of_ble_eq_true rfl) (by rw [hB]; exact Nat.le_of_ble_eq_true rfl) ?_ ?_ (IH (rest, k + 1, max acc y.depth) ⟨g2, by dsimp only; omega⟩ (by simp))
    · (simp only [go_sem, hlt, hget, hpu, hinc, Int.reduceLE, ↓reduceIte, reduceCtorEq, Nat.reduceEqDiff, Nat.reduceLeDiff, Nat.reduceAdd, Nat.reduceMul, Nat.reduceSub, Nat.reduceLT, mx, wrap_inc (show k < 4611686018427387904 by omega)]; repeat' (first | exact Ok.out | with_reducible refine And.intro ?_ ?_))
    · (simp only [go_sem, hlt, hget, hpu, hinc, Int.reduceLE, ↓reduceIte, reduceCtorEq, Nat.reduceEqDiff, Nat.reduceLeDiff, Nat.reduceAdd, Nat.reduceMul, Nat.reduceSub, Nat.reduceLT, mx, wrap_inc (show k < 4611686018427387904 by omega)]; repeat' (first | exact Ok.out | with_reducible refine And.intro ?_ ?_))

theorem depth_s {x : Ex} {d : Int} (h : depthO x = some d) (s : St) : Fun Try.prog n_parse_depth [.agg (encEx x)] s (.int .i64 d) s := by
  unfold depthO at h
  split at h
  · cases h; exact (depth_n x.size ‹_› x (Nat.le_refl _)).pure (by simp [D.oks, D.ok, okEx]) rfl s
  · cases h

theorem op_s (t : Tok) (s : St) : Fun Try.prog n_parse_op [.agg (encTok t)] s (.tuple [.int .i64 (opOf t).1, .int .i64 (opOf t).2]) s := (op_0 rfl).pure rfl rfl s


theorem ite_p {c : Prop} [Decidable c] {α : Type} {P : α → Prop} {a b : α} (ha : P a) (hb : P b) : P (if c then a else b) := by
  by_cases h : c
  · rw [if_pos h]; exact ha
  · rw [if_neg h]; exact hb
def OpR (p : Int × Int) : Prop := 0 ≤ p.2 ∧ p.2 ≤ 6
theorem op_range (t : Tok) : OpR (opOf t) := by
  unfold opOf
  repeat' with_reducible refine ite_p (P := OpR) ?_ ?_
  all_goals exact ⟨by decide, by decide⟩
theorem op_wrap (t : Tok) : IntKind.wrap .i64 ((opOf t).2 + 1) = (opOf t).2 + 1 := by
  have : 0 ≤ (opOf t).2 ∧ (opOf t).2 ≤ 6 := op_range t
  rw [wrap_ok] <;> omega

abbrev C_one (m : Nat) : Prop := ∀ {r : Rd} {p : Ex × Rd}, Rd.one m r = some p → ∀ {s : St} {o : Nat}, s.objs[o]? = some (encRd r) → Fun Try.prog n_parse_reader_one [.ptr o 0] s (.agg (encEx p.1)) ⟨s.objs.set o (encRd p.2), s.toks⟩
abbrev C_two (m : Nat) : Prop := ∀ {k : Int} {r : Rd} {p : Ex × Rd}, Rd.two m k r = some p → ∀ {s : St} {o : Nat}, s.objs[o]? = some (encRd r) → Fun Try.prog n_parse_reader_two [.ptr o 0, .int .i64 k] s (.agg (encEx p.1)) ⟨s.objs.set o (encRd p.2), s.toks⟩

theorem one_step {m : Nat} (one_s : C_one m) (two_s : C_two m) : C_one (m + 1) := by
  intro r p h s o ho
  refine Fun.meth ?_ rfl (okRd r) (okRd p.2) (by simp [D.ok, okEx]) ho
  unfold Rd.one at h
  refine Fun.go has_parse_reader_one rfl fun B Q hB hQ => ?_
  have hlt : 0 < 1 := Nat.zero_lt_one
  have hget : 0 < 1 := Nat.zero_lt_one
  have hpu : 0 < 1 := Nat.zero_lt_one
  have hinc : 0 < 1 := Nat.zero_lt_one
  repeat' (first
 | simp only [go_sem, hlt, hget, hpu, hinc, Int.reduceLE, ↓reduceIte, reduceCtorEq, Nat.reduceEqDiff, Nat.reduceLeDiff, Nat.reduceAdd, Nat.reduceMul, Nat.reduceSub, Nat.reduceLT]
 | (rw [Option.bind_eq_some_iff] at h; obtain ⟨_, h1, h⟩ := h; first | (with_reducible refine CU (peek_s h1 (by with_unfolding_all rfl)) ?_; have hlt := peek_lt h1) | (with_reducible refine CU (take_s h1 (by with_unfolding_all rfl)) ?_) | (with_reducible refine CU (two_s h1 (by with_unfolding_all rfl)) ?_) | (with_reducible refine CU (want_s h1 (by with_unfolding_all rfl)) ?_) | (with_reducible refine CU (one_s h1 (by with_unfolding_all rfl)) ?_) | (with_reducible refine CU (bad_s h1 (by with_unfolding_all rfl)) ?_))
 | (with_reducible refine CU (good_s (by with_unfolding_all rfl)) ?_)
 | (with_reducible first | refine CB_ofT (by assumption) fun hc => ?_ | refine CB_ofF (by assumption) fun hc => ?_ | refine CB_split (fun hc => ?_) fun hc => ?_) <;> (try simp only [hc, bs, ↓reduceIte] at h) <;> (try simp only [hc])
 | ((with_reducible first | refine leafR hQ ?_ | refine leafN hQ ?_); (try cases h); simp only [resL, oneD, Option.some.injEq, exists_eq_left', go_sem, hlt, hget, hpu, hinc, Int.reduceLE, ↓reduceIte, reduceCtorEq, Nat.reduceEqDiff, Nat.reduceLeDiff, Nat.reduceAdd, Nat.reduceMul, Nat.reduceSub, Nat.reduceLT]; repeat' (first | exact Ok.out | with_reducible refine And.intro ?_ ?_ | (simp; done)))
 | (cases h; replace h := hr; clear hr; (try simp only [bs, ↓reduceIte] at h))
 | (cases h; done))

theorem two_step {m : Nat} (one_s : C_one m) (two_s : ∀ j < m, C_two j) : C_two (m + 1) := by
  intro k r p h s o ho
  refine Fun.meth ?_ rfl (okRd r) (okRd p.2) (by simp [D.ok, okEx]) ho
  unfold Rd.two at h
  refine Fun.go has_parse_reader_two rfl fun B Q hB hQ => ?_
  have hlt : 0 < 1 := Nat.zero_lt_one
  have hget : 0 < 1 := Nat.zero_lt_one
  have hpu : 0 < 1 := Nat.zero_lt_one
  have hinc : 0 < 1 := Nat.zero_lt_one
  repeat' (first
 | simp only [go_sem, hlt, hget, hpu, hinc, Int.reduceLE, ↓reduceIte, reduceCtorEq, Nat.reduceEqDiff, Nat.reduceLeDiff, Nat.reduceAdd, Nat.reduceMul, Nat.reduceSub, Nat.reduceLT]
 | (rw [Option.bind_eq_some_iff] at h; obtain ⟨_, h1, h⟩ := h; first | (with_reducible refine CU (one_s h1 (by with_unfolding_all rfl)) ?_))
 | (with_reducible first | refine CB_ofT (by assumption) fun hc => ?_ | refine CB_ofF (by assumption) fun hc => ?_ | refine CB_split (fun hc => ?_) fun hc => ?_) <;> (try simp only [hc, bs, ↓reduceIte] at h) <;> (try simp only [hc])
 | ((with_reducible first | refine leafR hQ ?_ | refine leafN hQ ?_); (try cases h); simp only [resL, oneD, Option.some.injEq, exists_eq_left', go_sem, hlt, hget, hpu, hinc, Int.reduceLE, ↓reduceIte, reduceCtorEq, Nat.reduceEqDiff, Nat.reduceLeDiff, Nat.reduceAdd, Nat.reduceMul, Nat.reduceSub, Nat.reduceLT]; repeat' (first | exact Ok.out | with_reducible refine And.intro ?_ ?_ | (simp; done)))
 | (cases h; replace h := hr; clear hr; (try simp only [bs, ↓reduceIte] at h))
 | (cases h; done))
  refine SemL.re _ _ 3 0 (by rw [hB]; exact Nat.le_of_ble_eq_true rfl) (by rw [hB]; exact Nat.le_of_ble_eq_true rfl) ?_ ?_ (SemL.ind (ι := Nat × Ex × Rd) (fun i => Rd.twoL i.1 k i.2.1 i.2.2 = some p ∧ i.1 ≤ m) (fun i => i.1)
    (fun i => [(0, .ptr 0 0), (1, .int .i64 k), (4, .ptr 1 0), (5, .ptr 2 0)]) (fun i => ⟨[encRd i.2.2, encEx ex0, encEx i.2.1], []⟩) ?_ (m, _, _) ⟨h, Nat.le_refl _⟩)
  · (simp only [go_sem, hlt, hget, hpu, hinc, Int.reduceLE, ↓reduceIte, reduceCtorEq, Nat.reduceEqDiff, Nat.reduceLeDiff, Nat.reduceAdd, Nat.reduceMul, Nat.reduceSub, Nat.reduceLT]; repeat' (first | exact Ok.out | with_reducible refine And.intro ?_ ?_))
  · (simp only [go_sem, hlt, hget, hpu, hinc, Int.reduceLE, ↓reduceIte, reduceCtorEq, Nat.reduceEqDiff, Nat.reduceLeDiff, Nat.reduceAdd, Nat.reduceMul, Nat.reduceSub, Nat.reduceLT]; repeat' (first | exact Ok.out | with_reducible refine And.intro ?_ ?_))
  rintro ⟨n, x, r⟩ ⟨h, hn⟩ IH
  cases n with
  | zero => simp only [Rd.twoL] at h; cases h
  | succ n =>
    have two_n := @two_s n (by omega)
    simp only [Rd.twoL] at h
    repeat' (first
 | simp only [go_sem, hlt, hget, hpu, hinc, Int.reduceLE, ↓reduceIte, reduceCtorEq, Nat.reduceEqDiff, Nat.reduceLeDiff, Nat.reduceAdd, Nat.reduceMul, Nat.reduceSub, Nat.reduceLT, op_wrap]
 | (rw [Option.bind_eq_some_iff] at h; obtain ⟨_, h1, h⟩ := h; first | (with_reducible refine CU (peek_s h1 (by with_unfolding_all rfl)) ?_; have hlt := peek_lt h1) | (with_reducible refine CU (two_n h1 (by with_unfolding_all rfl)) ?_))
 | (with_reducible refine CU (good_s (by with_unfolding_all rfl)) ?_)
 | (with_reducible refine CU (op_s _ _) ?_)
 | (with_reducible first | refine CB_ofT (by assumption) fun hc => ?_ | refine CB_ofF (by assumption) fun hc => ?_ | refine CB_split (fun hc => ?_) fun hc => ?_) <;> (try simp only [hc, bs, ↓reduceIte] at h) <;> (try simp only [hc])
 | ((with_reducible first | refine leafR hQ ?_ | refine leafN hQ ?_); (try cases h); simp only [resL, oneD, Option.some.injEq, exists_eq_left', go_sem, hlt, hget, hpu, hinc, Int.reduceLE, ↓reduceIte, reduceCtorEq, Nat.reduceEqDiff, Nat.reduceLeDiff, Nat.reduceAdd, Nat.reduceMul, Nat.reduceSub, Nat.reduceLT, op_wrap]; repeat' (first | exact Ok.out | with_reducible refine And.intro ?_ ?_ | (simp; done)))
 | (cases h; replace h := hr; clear hr; (try simp only [bs, ↓reduceIte] at h))
 | (cases h; done))
    refine SemL.re _ _ 3 0 (by rw [hB]; exact Nat.le_of_ble_eq_true rfl) (by rw [hB]; exact Nat.le_of_ble_eq_true rfl) ?_ ?_ (IH (n, _, _) ⟨h, by dsimp only at hn ⊢; omega⟩ (Nat.lt_succ_self _))
    · (simp only [go_sem, hlt, hget, hpu, hinc, Int.reduceLE, ↓reduceIte, reduceCtorEq, Nat.reduceEqDiff, Nat.reduceLeDiff, Nat.reduceAdd, Nat.reduceMul, Nat.reduceSub, Nat.reduceLT]; repeat' (first | exact Ok.out | with_reducible refine And.intro ?_ ?_))
    · (simp only [go_sem, hlt, hget, hpu, hinc, Int.reduceLE, ↓reduceIte, reduceCtorEq, Nat.reduceEqDiff, Nat.reduceLeDiff, Nat.reduceAdd, Nat.reduceMul, Nat.reduceSub, Nat.reduceLT]; repeat' (first | exact Ok.out | with_reducible refine And.intro ?_ ?_))

theorem one_two : ∀ n, ∀ m < n, C_one m ∧ C_two m := by
  intro n
  induction n with
  | zero => intro m h; exact absurd h (Nat.not_lt_zero _)
  | succ n ih =>
    intro m h
    cases m with
    | zero =>
      refine ⟨?_, ?_⟩
      · intro r p h; simp only [Rd.one] at h; cases h
      · intro k r p h; simp only [Rd.two] at h; cases h
    | succ m =>
      have hm := ih m (by omega)
      exact ⟨one_step hm.1 hm.2, two_step hm.1 fun j hj => (ih j (by omega)).2⟩

theorem two_s {m : Nat} {k : Int} {r : Rd} {p : Ex × Rd} (h : Rd.two m k r = some p) {s : St} {o : Nat} (ho : s.objs[o]? = some (encRd r)) :
    Fun Try.prog n_parse_reader_two [.ptr o 0, .int .i64 k] s (.agg (encEx p.1)) ⟨s.objs.set o (encRd p.2), s.toks⟩ := (one_two (m + 1) m (Nat.lt_succ_self _)).2 h ho

theorem whole_s {n : Nat} {r : Rd} {p : Ex × Rd} (h : Rd.whole n r = some p) {s : St} {o : Nat} (ho : s.objs[o]? = some (encRd r)) :
    Fun Try.prog n_parse_reader_whole [.ptr o 0] s (.agg (encEx p.1)) ⟨s.objs.set o (encRd p.2), s.toks⟩ := by
  refine Fun.meth ?_ rfl (okRd r) (okRd p.2) (by simp [D.ok, okEx]) ho
  unfold Rd.whole at h
  refine Fun.go has_parse_reader_whole rfl fun B Q hB hQ => ?_
  have hlt : 0 < 1 := Nat.zero_lt_one
  have hget : 0 < 1 := Nat.zero_lt_one
  have hpu : 0 < 1 := Nat.zero_lt_one
  have hinc : 0 < 1 := Nat.zero_lt_one
  repeat' (first
 | simp only [go_sem, hlt, hget, hpu, hinc, Int.reduceLE, ↓reduceIte, reduceCtorEq, Nat.reduceEqDiff, Nat.reduceLeDiff, Nat.reduceAdd, Nat.reduceMul, Nat.reduceSub, Nat.reduceLT]
 | (rw [Option.bind_eq_some_iff] at h; obtain ⟨_, h1, h⟩ := h; first | (with_reducible refine CU (peek_s h1 (by with_unfolding_all rfl)) ?_) | (with_reducible refine CU (depth_s h1 _) ?_) | (with_reducible refine CU (two_s h1 (by with_unfolding_all rfl)) ?_))
 | (with_reducible refine CU (good_s (by with_unfolding_all rfl)) ?_)
 | (with_reducible first | refine CB_ofT (by assumption) fun hc => ?_ | refine CB_ofF (by assumption) fun hc => ?_ | refine CB_split (fun hc => ?_) fun hc => ?_) <;> (try simp only [hc, bs, ↓reduceIte] at h) <;> (try simp only [hc])
 | ((with_reducible first | refine leafR hQ ?_ | refine leafN hQ ?_); (try cases h); simp only [resL, oneD, Option.some.injEq, exists_eq_left', go_sem, hlt, hget, hpu, hinc, Int.reduceLE, ↓reduceIte, reduceCtorEq, Nat.reduceEqDiff, Nat.reduceLeDiff, Nat.reduceAdd, Nat.reduceMul, Nat.reduceSub, Nat.reduceLT]; repeat' (first | exact Ok.out | with_reducible refine And.intro ?_ ?_ | (simp; done)))
 | (cases h; replace h := hr; clear hr; (try simp only [bs, ↓reduceIte] at h))
 | (cases h; done))

end Go.Abs

/-! Ref1 -/

namespace Go.Abs

set_option maxRecDepth 8000
set_option linter.unusedSimpArgs false
set_option linter.unusedVariables false
open Go.Proofs

/-- The reader's cells; what the last one holds is left open. -/
@[go_sem] def encRc (z : D) (r : Rd) : List D := [.slice .shared 4 (r.l.map encTok), .int .i64 r.i, .int .i64 r.code, .int .i64 r.fat, z]
/-- A plain cell. -/
class Cell (z : D) : Prop where
  ok : D.ok 0 0 z = true
  fg : ∀ n m, D.fg n m z = z
instance (n : Int) : Cell (.int .i64 n) := ⟨rfl, fun _ _ => rfl⟩
instance : Cell .junk := ⟨rfl, fun _ _ => rfl⟩
theorem Cell_fg (z : D) [h : Cell z] (n m : Nat) : D.fg n m z = z := h.fg n m
attribute [go_sem] Cell_fg
theorem okRc (z : D) [h : Cell z] (r : Rd) : D.oks 0 0 (encRc z r) = true := by simp [encRc, D.oks, D.ok, Tag.ok, okrTok, h.ok]

theorem Pok_0 (l : List Tok) (i c f : Int) (z : D) [hz : Cell z] : Fun Try.prog n_ref3_P_ok [.ptr 0 0] ⟨[[.slice .shared 4 (l.map encTok), .int .i64 i, .int .i64 c, .int .i64 f, z]], []⟩ (.bool (c == 0)) ⟨[[.slice .shared 4 (l.map encTok), .int .i64 i, .int .i64 c, .int .i64 f, z]], []⟩ := by
  refine Fun.go has_ref3_P_ok rfl fun B Q hB hQ => ?_
  have hlt : 0 < 1 := Nat.zero_lt_one
  have hget : 0 < 1 := Nat.zero_lt_one
  have hpu : 0 < 1 := Nat.zero_lt_one
  have hinc : 0 < 1 := Nat.zero_lt_one
  repeat' (first
 | simp only [go_sem, hlt, hget, hpu, hinc, Int.reduceLE, ↓reduceIte, reduceCtorEq, Nat.reduceEqDiff, Nat.reduceLeDiff, Nat.reduceAdd, Nat.reduceMul, Nat.reduceSub, Nat.reduceLT]
 | (with_reducible first | refine CB_ofT (by assumption) fun hc => ?_ | refine CB_ofF (by assumption) fun hc => ?_ | refine CB_split (fun hc => ?_) fun hc => ?_) <;> (try simp only [hc, bs, ↓reduceIte] at h) <;> (try simp only [hc])
 | ((with_reducible first | refine leafR hQ ?_ | refine leafN hQ ?_); (try cases h); simp only [resL, oneD, Option.some.injEq, exists_eq_left', go_sem, hlt, hget, hpu, hinc, Int.reduceLE, ↓reduceIte, reduceCtorEq, Nat.reduceEqDiff, Nat.reduceLeDiff, Nat.reduceAdd, Nat.reduceMul, Nat.reduceSub, Nat.reduceLT]; repeat' (first | exact Ok.out | with_reducible refine And.intro ?_ ?_ | (simp; done)))
 | (cases h; replace h := hr; clear hr; (try simp only [bs, ↓reduceIte] at h))
 | (cases h; done))
theorem Pok_s {l : List Tok} {i c f : Int} {z : D} [hz : Cell z] {s : St} {o : Nat} (ho : s.objs[o]? = some [.slice .shared 4 (l.map encTok), .int .i64 i, .int .i64 c, .int .i64 f, z]) : Fun Try.prog n_ref3_P_ok [.ptr o 0] s (.bool (c == 0)) ⟨s.objs.set o [.slice .shared 4 (l.map encTok), .int .i64 i, .int .i64 c, .int .i64 f, z], s.toks⟩ :=
  have hk : D.oks 0 0 [.slice .shared 4 (l.map encTok), .int .i64 i, .int .i64 c, .int .i64 f, z] = true := by simp [D.oks, D.ok, Tag.ok, okrTok, hz.ok]
  Fun.meth (Pok_0 l i c f z) rfl hk hk rfl ho

theorem Pfail_s {z : D} [Cell z] {r r' : Rd} {c : Int} (h : r.bad c = some r') {s : St} {o : Nat} (ho : s.objs[o]? = some (encRc z r)) : Fun Try.prog n_ref3_P_fail [.ptr o 0, .int .i64 c] s (.tuple []) ⟨s.objs.set o (encRc z r'), s.toks⟩ := by
  refine Fun.meth ?_ rfl (okRc z r) (okRc z r') rfl ho
  unfold Rd.bad at h
  refine Fun.go has_ref3_P_fail rfl fun B Q hB hQ => ?_
  have hlt : 0 < 1 := Nat.zero_lt_one
  have hget : 0 < 1 := Nat.zero_lt_one
  have hpu : 0 < 1 := Nat.zero_lt_one
  have hinc : 0 < 1 := Nat.zero_lt_one
  repeat' (first
 | simp only [go_sem, hlt, hget, hpu, hinc, Int.reduceLE, ↓reduceIte, reduceCtorEq, Nat.reduceEqDiff, Nat.reduceLeDiff, Nat.reduceAdd, Nat.reduceMul, Nat.reduceSub, Nat.reduceLT]
 | (rw [Option.bind_eq_some_iff] at h; obtain ⟨_, h1, h⟩ := h; first | (obtain ⟨hlt, hget, hkl, hkh⟩ := peek_get h1; simp only [go_sem, hget, hlt, hget, hpu, hinc, Int.reduceLE, ↓reduceIte, reduceCtorEq, Nat.reduceEqDiff, Nat.reduceLeDiff, Nat.reduceAdd, Nat.reduceMul, Nat.reduceSub, Nat.reduceLT]))
 | (with_reducible refine CU (Pok_s (by with_unfolding_all rfl)) ?_)
 | (with_reducible first | refine CB_ofT (by assumption) fun hc => ?_ | refine CB_ofF (by assumption) fun hc => ?_ | refine CB_split (fun hc => ?_) fun hc => ?_) <;> (try simp only [hc, bs, ↓reduceIte] at h) <;> (try simp only [hc])
 | ((with_reducible first | refine leafR hQ ?_ | refine leafN hQ ?_); (try cases h); simp only [resL, oneD, Option.some.injEq, exists_eq_left', go_sem, hlt, hget, hpu, hinc, Int.reduceLE, ↓reduceIte, reduceCtorEq, Nat.reduceEqDiff, Nat.reduceLeDiff, Nat.reduceAdd, Nat.reduceMul, Nat.reduceSub, Nat.reduceLT]; repeat' (first | exact Ok.out | with_reducible refine And.intro ?_ ?_ | (simp; done)))
 | (cases h; replace h := hr; clear hr; (try simp only [bs, ↓reduceIte] at h))
 | (cases h; done))

/-- Does a word or a sign come, and has there been no fault? -/
def Rd.isO (text : Str) (r : Rd) : Option Bool := if r.good then r.is text else some false

theorem Pis_s {z : D} [Cell z] {r : Rd} {text : Str} {b : Bool} (h : r.isO text = some b) {s : St} {o : Nat} (ho : s.objs[o]? = some (encRc z r)) : Fun Try.prog n_ref3_P_is [.ptr o 0, .str text] s (.bool b) ⟨s.objs.set o (encRc z r), s.toks⟩ := by
  refine Fun.meth ?_ rfl (okRc z r) (okRc z r) rfl ho
  unfold Rd.isO Rd.is at h
  refine Fun.go has_ref3_P_is rfl fun B Q hB hQ => ?_
  have hlt : 0 < 1 := Nat.zero_lt_one
  have hget : 0 < 1 := Nat.zero_lt_one
  have hpu : 0 < 1 := Nat.zero_lt_one
  have hinc : 0 < 1 := Nat.zero_lt_one
  cases hg : r.good
  · simp only [hg, Bool.false_eq_true, ↓reduceIte] at h
    repeat' (first
 | simp only [go_sem, hlt, hget, hpu, hinc, Int.reduceLE, ↓reduceIte, reduceCtorEq, Nat.reduceEqDiff, Nat.reduceLeDiff, Nat.reduceAdd, Nat.reduceMul, Nat.reduceSub, Nat.reduceLT]
 | (with_reducible refine CU (Pok_s (by with_unfolding_all rfl)) ?_)
 | (with_reducible first | refine CB_ofT (by assumption) fun hc => ?_ | refine CB_ofF (by assumption) fun hc => ?_ | refine CB_split (fun hc => ?_) fun hc => ?_) <;> (try simp only [hc, bs, ↓reduceIte] at h) <;> (try simp only [hc])
 | ((with_reducible first | refine leafR hQ ?_ | refine leafN hQ ?_); (try cases h); simp only [resL, oneD, Option.some.injEq, exists_eq_left', go_sem, hlt, hget, hpu, hinc, Int.reduceLE, ↓reduceIte, reduceCtorEq, Nat.reduceEqDiff, Nat.reduceLeDiff, Nat.reduceAdd, Nat.reduceMul, Nat.reduceSub, Nat.reduceLT]; repeat' (first | exact Ok.out | with_reducible refine And.intro ?_ ?_ | (simp; done)))
 | (cases h; replace h := hr; clear hr; (try simp only [bs, ↓reduceIte] at h))
 | (cases h; done))
  · simp only [hg, ↓reduceIte] at h
    rw [Option.bind_eq_some_iff] at h
    obtain ⟨t, h1, h⟩ := h
    obtain ⟨hlt, hget, hkl, hkh⟩ := peek_get h1
    have e : decide (t.kind ≥ 3) = (t.kind == 3 || t.kind == 4) := by
      have : t.kind = 0 ∨ t.kind = 1 ∨ t.kind = 2 ∨ t.kind = 3 ∨ t.kind = 4 := by omega
      rcases this with h | h | h | h | h <;> rw [h] <;> rfl
    cases hk : (t.kind == 3 || t.kind == 4)
    · simp only [hk, Bool.false_and] at h
      rw [hk] at e
      repeat' (first
 | simp only [go_sem, hlt, hget, hpu, hinc, Int.reduceLE, ↓reduceIte, reduceCtorEq, Nat.reduceEqDiff, Nat.reduceLeDiff, Nat.reduceAdd, Nat.reduceMul, Nat.reduceSub, Nat.reduceLT, e]
 | (with_reducible refine CU (Pok_s (by with_unfolding_all rfl)) ?_)
 | (with_reducible first | refine CB_ofT (by assumption) fun hc => ?_ | refine CB_ofF (by assumption) fun hc => ?_ | refine CB_split (fun hc => ?_) fun hc => ?_) <;> (try simp only [hc, bs, ↓reduceIte] at h) <;> (try simp only [hc])
 | ((with_reducible first | refine leafR hQ ?_ | refine leafN hQ ?_); (try cases h); simp only [resL, oneD, Option.some.injEq, exists_eq_left', go_sem, hlt, hget, hpu, hinc, Int.reduceLE, ↓reduceIte, reduceCtorEq, Nat.reduceEqDiff, Nat.reduceLeDiff, Nat.reduceAdd, Nat.reduceMul, Nat.reduceSub, Nat.reduceLT, e]; repeat' (first | exact Ok.out | with_reducible refine And.intro ?_ ?_ | (simp; done)))
 | (cases h; replace h := hr; clear hr; (try simp only [bs, ↓reduceIte] at h))
 | (cases h; done))
    · simp only [hk, Bool.true_and] at h
      rw [hk] at e
      repeat' (first
 | simp only [go_sem, hlt, hget, hpu, hinc, Int.reduceLE, ↓reduceIte, reduceCtorEq, Nat.reduceEqDiff, Nat.reduceLeDiff, Nat.reduceAdd, Nat.reduceMul, Nat.reduceSub, Nat.reduceLT, e]
 | (with_reducible refine CU (Pok_s (by with_unfolding_all rfl)) ?_)
 | (with_reducible first | refine CB_ofT (by assumption) fun hc => ?_ | refine CB_ofF (by assumption) fun hc => ?_ | refine CB_split (fun hc => ?_) fun hc => ?_) <;> (try simp only [hc, bs, ↓reduceIte] at h) <;> (try simp only [hc])
 | ((with_reducible first | refine leafR hQ ?_ | refine leafN hQ ?_); (try cases h); simp only [resL, oneD, Option.some.injEq, exists_eq_left', go_sem, hlt, hget, hpu, hinc, Int.reduceLE, ↓reduceIte, reduceCtorEq, Nat.reduceEqDiff, Nat.reduceLeDiff, Nat.reduceAdd, Nat.reduceMul, Nat.reduceSub, Nat.reduceLT, e]; repeat' (first | exact Ok.out | with_reducible refine And.intro ?_ ?_ | (simp; done)))
 | (cases h; replace h := hr; clear hr; (try simp only [bs, ↓reduceIte] at h))
 | (cases h; done))

theorem Ptake_s {z : D} [Cell z] {r : Rd} {text : Str} {p : Bool × Rd} (h : r.take text = some p) {s : St} {o : Nat} (ho : s.objs[o]? = some (encRc z r)) : Fun Try.prog n_ref3_P_take [.ptr o 0, .str text] s (.bool p.1) ⟨s.objs.set o (encRc z p.2), s.toks⟩ := by
  refine Fun.meth ?_ rfl (okRc z r) (okRc z p.2) rfl ho
  have h' : ((r.isO text).bind fun b => if !b then some (false, r) else some (true, { r with i := r.i + 1 })) = some p := by
    unfold Rd.take at h
    unfold Rd.isO
    cases hg : r.good
    · simpa [hg] using h
    · simpa [hg] using h
  have hlt' : ∀ b, r.isO text = some b → b = true → r.i < 4611686018427387904 := by
    intro b hb hb'
    unfold Rd.isO at hb
    split at hb
    · exact is_lt hb
    · cases hb; cases hb'
  rw [Option.bind_eq_some_iff] at h'
  obtain ⟨b, h1, h⟩ := h'
  have his := fun {s : St} {o : Nat} (ho : s.objs[o]? = some (encRc z r)) => Pis_s h1 ho
  refine Fun.go has_ref3_P_take rfl fun B Q hB hQ => ?_
  have hlt : 0 < 1 := Nat.zero_lt_one
  have hget : 0 < 1 := Nat.zero_lt_one
  have hpu : 0 < 1 := Nat.zero_lt_one
  have hinc : 0 < 1 := Nat.zero_lt_one
  cases b
  · repeat' (first
 | simp only [go_sem, hlt, hget, hpu, hinc, Int.reduceLE, ↓reduceIte, reduceCtorEq, Nat.reduceEqDiff, Nat.reduceLeDiff, Nat.reduceAdd, Nat.reduceMul, Nat.reduceSub, Nat.reduceLT]
 | (with_reducible refine CU (his (by with_unfolding_all rfl)) ?_)
 | (with_reducible first | refine CB_ofT (by assumption) fun hc => ?_ | refine CB_ofF (by assumption) fun hc => ?_ | refine CB_split (fun hc => ?_) fun hc => ?_) <;> (try simp only [hc, bs, ↓reduceIte] at h) <;> (try simp only [hc])
 | ((with_reducible first | refine leafR hQ ?_ | refine leafN hQ ?_); (try cases h); simp only [resL, oneD, Option.some.injEq, exists_eq_left', go_sem, hlt, hget, hpu, hinc, Int.reduceLE, ↓reduceIte, reduceCtorEq, Nat.reduceEqDiff, Nat.reduceLeDiff, Nat.reduceAdd, Nat.reduceMul, Nat.reduceSub, Nat.reduceLT]; repeat' (first | exact Ok.out | with_reducible refine And.intro ?_ ?_ | (simp; done)))
 | (cases h; replace h := hr; clear hr; (try simp only [bs, ↓reduceIte] at h))
 | (cases h; done))
  · have hlt := hlt' true h1 rfl
    repeat' (first
 | simp only [go_sem, hlt, hget, hpu, hinc, Int.reduceLE, ↓reduceIte, reduceCtorEq, Nat.reduceEqDiff, Nat.reduceLeDiff, Nat.reduceAdd, Nat.reduceMul, Nat.reduceSub, Nat.reduceLT]
 | (with_reducible refine CU (his (by with_unfolding_all rfl)) ?_)
 | (with_reducible first | refine CB_ofT (by assumption) fun hc => ?_ | refine CB_ofF (by assumption) fun hc => ?_ | refine CB_split (fun hc => ?_) fun hc => ?_) <;> (try simp only [hc, bs, ↓reduceIte] at h) <;> (try simp only [hc])
 | ((with_reducible first | refine leafR hQ ?_ | refine leafN hQ ?_); (try cases h); simp only [resL, oneD, Option.some.injEq, exists_eq_left', go_sem, hlt, hget, hpu, hinc, Int.reduceLE, ↓reduceIte, reduceCtorEq, Nat.reduceEqDiff, Nat.reduceLeDiff, Nat.reduceAdd, Nat.reduceMul, Nat.reduceSub, Nat.reduceLT]; repeat' (first | exact Ok.out | with_reducible refine And.intro ?_ ?_ | (simp; done)))
 | (cases h; replace h := hr; clear hr; (try simp only [bs, ↓reduceIte] at h))
 | (cases h; done))

theorem Pwant_s {z : D} [Cell z] {r r' : Rd} {text : Str} (h : r.want text = some r') {s : St} {o : Nat} (ho : s.objs[o]? = some (encRc z r)) : Fun Try.prog n_ref3_P_want [.ptr o 0, .str text] s (.tuple []) ⟨s.objs.set o (encRc z r'), s.toks⟩ := by
  refine Fun.meth ?_ rfl (okRc z r) (okRc z r') rfl ho
  unfold Rd.want at h
  refine Fun.go has_ref3_P_want rfl fun B Q hB hQ => ?_
  have hlt : 0 < 1 := Nat.zero_lt_one
  have hget : 0 < 1 := Nat.zero_lt_one
  have hpu : 0 < 1 := Nat.zero_lt_one
  have hinc : 0 < 1 := Nat.zero_lt_one
  cases hg : r.good
  · have h2 : r' = r := by
      unfold Rd.take at h
      simp only [hg, Bool.not_false, ↓reduceIte, Option.bind_some, Rd.bad, Bool.false_eq_true] at h
      exact (Option.some.inj h).symm
    subst h2
    repeat' (first
 | simp only [go_sem, hlt, hget, hpu, hinc, Int.reduceLE, ↓reduceIte, reduceCtorEq, Nat.reduceEqDiff, Nat.reduceLeDiff, Nat.reduceAdd, Nat.reduceMul, Nat.reduceSub, Nat.reduceLT]
 | (with_reducible refine CU (Pok_s (by with_unfolding_all rfl)) ?_)
 | (with_reducible first | refine CB_ofT (by assumption) fun hc => ?_ | refine CB_ofF (by assumption) fun hc => ?_ | refine CB_split (fun hc => ?_) fun hc => ?_) <;> (try simp only [hc, bs, ↓reduceIte] at h) <;> (try simp only [hc])
 | ((with_reducible first | refine leafR hQ ?_ | refine leafN hQ ?_); (try cases h); simp only [resL, oneD, Option.some.injEq, exists_eq_left', go_sem, hlt, hget, hpu, hinc, Int.reduceLE, ↓reduceIte, reduceCtorEq, Nat.reduceEqDiff, Nat.reduceLeDiff, Nat.reduceAdd, Nat.reduceMul, Nat.reduceSub, Nat.reduceLT]; repeat' (first | exact Ok.out | with_reducible refine And.intro ?_ ?_ | (simp; done)))
 | (cases h; replace h := hr; clear hr; (try simp only [bs, ↓reduceIte] at h))
 | (cases h; done))
  · repeat' (first
 | simp only [go_sem, hlt, hget, hpu, hinc, Int.reduceLE, ↓reduceIte, reduceCtorEq, Nat.reduceEqDiff, Nat.reduceLeDiff, Nat.reduceAdd, Nat.reduceMul, Nat.reduceSub, Nat.reduceLT]
 | (rw [Option.bind_eq_some_iff] at h; obtain ⟨_, h1, h⟩ := h; first | (with_reducible refine CU (Ptake_s h1 (by with_unfolding_all rfl)) ?_))
 | (with_reducible refine CU (Pfail_s h (by with_unfolding_all rfl)) ?_)
 | (with_reducible refine CU (Pok_s (by with_unfolding_all rfl)) ?_)
 | (with_reducible first | refine CB_ofT (by assumption) fun hc => ?_ | refine CB_ofF (by assumption) fun hc => ?_ | refine CB_split (fun hc => ?_) fun hc => ?_) <;> (try simp only [hc, bs, ↓reduceIte] at h) <;> (try simp only [hc])
 | ((with_reducible first | refine leafR hQ ?_ | refine leafN hQ ?_); (try cases h); simp only [resL, oneD, Option.some.injEq, exists_eq_left', go_sem, hlt, hget, hpu, hinc, Int.reduceLE, ↓reduceIte, reduceCtorEq, Nat.reduceEqDiff, Nat.reduceLeDiff, Nat.reduceAdd, Nat.reduceMul, Nat.reduceSub, Nat.reduceLT]; repeat' (first | exact Ok.out | with_reducible refine And.intro ?_ ?_ | (simp; done)))
 | (cases h; replace h := hr; clear hr; (try simp only [bs, ↓reduceIte] at h))
 | (cases h; done))

end Go.Abs

/-! Ref2 -/

namespace Go.Abs

set_option maxRecDepth 8000
set_option linter.unusedSimpArgs false
set_option linter.unusedVariables false
open Go.Proofs

def bindsR (s : Str) : Int × Int :=
  if [42] == s then (6, 5) else if [47] == s then (6, 6) else if [37] == s then (6, 7) else if [43] == s then (5, 8) else if [45] == s then (5, 9)
  else if [60] == s then (4, 10) else if [60, 61] == s then (4, 11) else if [62] == s then (4, 12) else if [62, 61] == s then (4, 13)
  else if [61, 61] == s then (3, 14) else if [33, 61] == s then (3, 15) else if [38, 38] == s then (2, 16) else if [124, 124] == s then (1, 17) else (0, 0)

theorem Binds_s (text : Str) (s : St) : Fun Try.prog n_ref3_Binds [.str text] s (.tuple [.int .i64 (bindsR text).1, .int .i64 (bindsR text).2]) s := by
  refine Fun.pure ?_ rfl rfl s
  generalize h : bindsR text = p
  unfold bindsR at h
  unfold S0
  refine Fun.go has_ref3_Binds rfl fun B Q hB hQ => ?_
  have hlt : 0 < 1 := Nat.zero_lt_one
  have hget : 0 < 1 := Nat.zero_lt_one
  have hpu : 0 < 1 := Nat.zero_lt_one
  have hinc : 0 < 1 := Nat.zero_lt_one
  repeat' (first
 | simp only [go_sem, hlt, hget, hpu, hinc, Int.reduceLE, ↓reduceIte, reduceCtorEq, Nat.reduceEqDiff, Nat.reduceLeDiff, Nat.reduceAdd, Nat.reduceMul, Nat.reduceSub, Nat.reduceLT, Int.cast_ofNat_Int, wrap_ok, Int.reduceAdd, Int.reduceLT, Int.reduceNeg, decide_true, decide_false, Int.reduceToNat]
 | (with_reducible refine SemL.onceW ?_)
 | (with_reducible first | refine CB_ofT (by assumption) fun hc => ?_ | refine CB_ofF (by assumption) fun hc => ?_ | refine CB_split (fun hc => ?_) fun hc => ?_) <;> (try simp only [hc, bs, ↓reduceIte] at h) <;> (try simp only [hc])
 | ((with_reducible first | refine leafR hQ ?_ | refine leafN hQ ?_); (try cases h); simp only [resL, oneD, Option.some.injEq, exists_eq_left', go_sem, hlt, hget, hpu, hinc, Int.reduceLE, ↓reduceIte, reduceCtorEq, Nat.reduceEqDiff, Nat.reduceLeDiff, Nat.reduceAdd, Nat.reduceMul, Nat.reduceSub, Nat.reduceLT, Int.cast_ofNat_Int, wrap_ok, Int.reduceAdd, Int.reduceLT, Int.reduceNeg, decide_true, decide_false, Int.reduceToNat]; repeat' (first | exact Ok.out | with_reducible refine And.intro ?_ ?_ | (simp; done)))
 | (cases h; replace h := hr; clear hr; (try simp only [bs, ↓reduceIte] at h))
 | (cases h; done))

/-- The same signs in the program's order. -/
theorem binds_op (t : Tok) (hk : t.kind = 4) : opOf t = ((bindsR t.text).2, (bindsR t.text).1) := by
  obtain ⟨kind, text, n, pos⟩ := t
  dsimp only at hk
  subst hk
  simp only [opOf]
  by_cases h1 : text = [42]
  · subst h1; rfl
  by_cases h2 : text = [47]
  · subst h2; rfl
  by_cases h3 : text = [37]
  · subst h3; rfl
  by_cases h4 : text = [43]
  · subst h4; rfl
  by_cases h5 : text = [45]
  · subst h5; rfl
  by_cases h6 : text = [60]
  · subst h6; rfl
  by_cases h7 : text = [60, 61]
  · subst h7; rfl
  by_cases h8 : text = [62]
  · subst h8; rfl
  by_cases h9 : text = [62, 61]
  · subst h9; rfl
  by_cases h10 : text = [61, 61]
  · subst h10; rfl
  by_cases h11 : text = [33, 61]
  · subst h11; rfl
  by_cases h12 : text = [38, 38]
  · subst h12; rfl
  by_cases h13 : text = [124, 124]
  · subst h13; rfl
  have e : ∀ c : Str, ¬ text = c → (text == c) = false := fun c h => by simpa using h
  have e' : ∀ c : Str, ¬ text = c → (c == text) = false := fun c h => by simpa using fun h' => h h'.symm
  simp only [bindsR, e _ h1, e _ h2, e _ h3, e _ h4, e _ h5, e _ h6, e _ h7, e _ h8, e _ h9, e _ h10, e _ h11, e _ h12, e _ h13, e' _ h1, e' _ h2, e' _ h3, e' _ h4, e' _ h5, e' _ h6, e' _ h7, e' _ h8, e' _ h9, e' _ h10, e' _ h11, e' _ h12, e' _ h13,
    Bool.false_eq_true, ↓reduceIte]
  rfl
theorem op_other (t : Tok) (hk : ¬ t.kind = 4) : opOf t = (0, 0) := by
  have : (t.kind != 4) = true := by simpa using hk
  simp [opOf, this]

abbrev C_first (m : Nat) : Prop := ∀ {z : D} [Cell z] {r : Rd} {p : Ex × Rd}, Rd.one m r = some p → ∀ {s : St} {o : Nat}, s.objs[o]? = some (encRc z r) → Fun Try.prog n_ref3_P_first [.ptr o 0] s (.agg (encEx p.1)) ⟨s.objs.set o (encRc z p.2), s.toks⟩
abbrev C_rest (m : Nat) : Prop := ∀ {z : D} [Cell z] {k : Int} {x : Ex} {r : Rd} {p : Ex × Rd}, Rd.twoL m k x r = some p → ∀ {s : St} {o : Nat}, s.objs[o]? = some (encRc z r) → Fun Try.prog n_ref3_P_rest [.ptr o 0, .agg (encEx x), .int .i64 k] s (.agg (encEx p.1)) ⟨s.objs.set o (encRc z p.2), s.toks⟩

theorem first_step {m : Nat} (first_s : ∀ j ≤ m, C_first j) (rest_s : ∀ j ≤ m, C_rest j) : C_first (m + 1) := by
  intro z _ r p h s o ho
  refine Fun.meth ?_ rfl (okRc z r) (okRc z p.2) (by simp [D.ok, okEx]) ho
  unfold Rd.one at h
  have first_m := @first_s m (Nat.le_refl _)
  cases m with
  | zero =>
    simp only [Rd.two, Rd.one, Option.bind_none] at h
    refine Fun.go has_ref3_P_first rfl fun B Q hB hQ => ?_
    have hlt : 0 < 1 := Nat.zero_lt_one
    have hget : 0 < 1 := Nat.zero_lt_one
    have hpu : 0 < 1 := Nat.zero_lt_one
    have hinc : 0 < 1 := Nat.zero_lt_one
    repeat' (first
 | simp only [go_sem, hlt, hget, hpu, hinc, Int.reduceLE, ↓reduceIte, reduceCtorEq, Nat.reduceEqDiff, Nat.reduceLeDiff, Nat.reduceAdd, Nat.reduceMul, Nat.reduceSub, Nat.reduceLT]
 | (rw [Option.bind_eq_some_iff] at h; obtain ⟨_, h1, h⟩ := h; first | (obtain ⟨hlt, hget, hkl, hkh⟩ := peek_get h1; simp only [go_sem, hget, hlt, hget, hpu, hinc, Int.reduceLE, ↓reduceIte, reduceCtorEq, Nat.reduceEqDiff, Nat.reduceLeDiff, Nat.reduceAdd, Nat.reduceMul, Nat.reduceSub, Nat.reduceLT]) | (with_reducible refine CU (Ptake_s h1 (by with_unfolding_all rfl)) ?_) | (with_reducible refine CU (Pfail_s h1 (by with_unfolding_all rfl)) ?_))
 | (with_reducible refine CU (Pok_s (by with_unfolding_all rfl)) ?_)
 | (with_reducible first | refine CB_ofT (by assumption) fun hc => ?_ | refine CB_ofF (by assumption) fun hc => ?_ | refine CB_split (fun hc => ?_) fun hc => ?_) <;> (try simp only [hc, bs, ↓reduceIte] at h) <;> (try simp only [hc])
 | ((with_reducible first | refine leafR hQ ?_ | refine leafN hQ ?_); (try cases h); simp only [resL, oneD, Option.some.injEq, exists_eq_left', go_sem, hlt, hget, hpu, hinc, Int.reduceLE, ↓reduceIte, reduceCtorEq, Nat.reduceEqDiff, Nat.reduceLeDiff, Nat.reduceAdd, Nat.reduceMul, Nat.reduceSub, Nat.reduceLT]; repeat' (first | exact Ok.out | with_reducible refine And.intro ?_ ?_ | (simp; done)))
 | (cases h; replace h := hr; clear hr; (try simp only [bs, ↓reduceIte] at h))
 | (cases h; done))
  | succ m =>
    have rest_m := @rest_s m (by omega)
    have first_k := @first_s m (by omega)
    simp only [Rd.two] at h
    refine Fun.go has_ref3_P_first rfl fun B Q hB hQ => ?_
    have hlt : 0 < 1 := Nat.zero_lt_one
    have hget : 0 < 1 := Nat.zero_lt_one
    have hpu : 0 < 1 := Nat.zero_lt_one
    have hinc : 0 < 1 := Nat.zero_lt_one
    repeat' (first
 | simp only [go_sem, hlt, hget, hpu, hinc, Int.reduceLE, ↓reduceIte, reduceCtorEq, Nat.reduceEqDiff, Nat.reduceLeDiff, Nat.reduceAdd, Nat.reduceMul, Nat.reduceSub, Nat.reduceLT]
 | (rw [Option.bind_eq_some_iff] at h; obtain ⟨_, h1, h⟩ := h; first | (obtain ⟨hlt, hget, hkl, hkh⟩ := peek_get h1; simp only [go_sem, hget, hlt, hget, hpu, hinc, Int.reduceLE, ↓reduceIte, reduceCtorEq, Nat.reduceEqDiff, Nat.reduceLeDiff, Nat.reduceAdd, Nat.reduceMul, Nat.reduceSub, Nat.reduceLT]) | (with_reducible refine CU (Ptake_s h1 (by with_unfolding_all rfl)) ?_) | (with_reducible refine CU (Pwant_s h1 (by with_unfolding_all rfl)) ?_) | (with_reducible refine CU (first_m h1 (by with_unfolding_all rfl)) ?_) | (with_reducible refine CU (first_k h1 (by with_unfolding_all rfl)) ?_) | (with_reducible refine CU (rest_m h1 (by with_unfolding_all rfl)) ?_) | (with_reducible refine CU (Pfail_s h1 (by with_unfolding_all rfl)) ?_))
 | (with_reducible refine CU (Pok_s (by with_unfolding_all rfl)) ?_)
 | (with_reducible first | refine CB_ofT (by assumption) fun hc => ?_ | refine CB_ofF (by assumption) fun hc => ?_ | refine CB_split (fun hc => ?_) fun hc => ?_) <;> (try simp only [hc, bs, ↓reduceIte] at h) <;> (try simp only [hc])
 | ((with_reducible first | refine leafR hQ ?_ | refine leafN hQ ?_); (try cases h); simp only [resL, oneD, Option.some.injEq, exists_eq_left', go_sem, hlt, hget, hpu, hinc, Int.reduceLE, ↓reduceIte, reduceCtorEq, Nat.reduceEqDiff, Nat.reduceLeDiff, Nat.reduceAdd, Nat.reduceMul, Nat.reduceSub, Nat.reduceLT]; repeat' (first | exact Ok.out | with_reducible refine And.intro ?_ ?_ | (simp; done)))
 | (cases h; replace h := hr; clear hr; (try simp only [bs, ↓reduceIte] at h))
 | (cases h; done))

theorem binds_wrap (s : Str) : IntKind.wrap .i64 ((bindsR s).1 + 1) = (bindsR s).1 + 1 := by
  have h := op_wrap ⟨4, s, 0, 0⟩
  rw [binds_op _ rfl] at h
  exact h

def BZ (p : Int × Int) : Prop := (p.2 == 0) = (p.1 == 0)
theorem binds_zero (s : Str) : ((bindsR s).2 == 0) = ((bindsR s).1 == 0) := by
  show BZ (bindsR s)
  unfold bindsR
  repeat' with_reducible refine ite_p (P := BZ) ?_ ?_
  all_goals rfl

theorem rest_step {m : Nat} (first_s : ∀ j < m, C_first j) (rest_s : ∀ j < m, C_rest j) : C_rest m := by
  intro z _ k x r p h s o ho
  refine Fun.meth ?_ (by simp [D.oks, D.ok, okEx]) (okRc z r) (okRc z p.2) (by simp [D.ok, okEx]) ho
  refine Fun.go has_ref3_P_rest rfl fun B Q hB hQ => ?_
  have hlt : 0 < 1 := Nat.zero_lt_one
  have hget : 0 < 1 := Nat.zero_lt_one
  have hpu : 0 < 1 := Nat.zero_lt_one
  have hinc : 0 < 1 := Nat.zero_lt_one
  repeat' (first
 | simp only [go_sem, hlt, hget, hpu, hinc, Int.reduceLE, ↓reduceIte, reduceCtorEq, Nat.reduceEqDiff, Nat.reduceLeDiff, Nat.reduceAdd, Nat.reduceMul, Nat.reduceSub, Nat.reduceLT]
 | (with_reducible first | refine CB_ofT (by assumption) fun hc => ?_ | refine CB_ofF (by assumption) fun hc => ?_ | refine CB_split (fun hc => ?_) fun hc => ?_) <;> (try simp only [hc, bs, ↓reduceIte] at h) <;> (try simp only [hc])
 | ((with_reducible first | refine leafR hQ ?_ | refine leafN hQ ?_); (try cases h); simp only [resL, oneD, Option.some.injEq, exists_eq_left', go_sem, hlt, hget, hpu, hinc, Int.reduceLE, ↓reduceIte, reduceCtorEq, Nat.reduceEqDiff, Nat.reduceLeDiff, Nat.reduceAdd, Nat.reduceMul, Nat.reduceSub, Nat.reduceLT]; repeat' (first | exact Ok.out | with_reducible refine And.intro ?_ ?_ | (simp; done)))
 | (cases h; replace h := hr; clear hr; (try simp only [bs, ↓reduceIte] at h))
 | (cases h; done))
  refine SemL.re _ _ 3 0 (by rw [hB]; exact Nat.le_of_ble_eq_true rfl) (by rw [hB]; exact Nat.le_of_ble_eq_true rfl) ?_ ?_ (SemL.ind (ι := Nat × Ex × Rd) (fun i => Rd.twoL i.1 k i.2.1 i.2.2 = some p ∧ i.1 ≤ m) (fun i => i.1)
    (fun i => [(0, .ptr 0 0), (2, .int .i64 k), (4, .ptr 1 0), (6, .ptr 2 0)]) (fun i => ⟨[encRc z i.2.2, encEx i.2.1, encEx ex0], []⟩) ?_ (m, _, _) ⟨h, Nat.le_refl _⟩)
  · (simp only [go_sem, hlt, hget, hpu, hinc, Int.reduceLE, ↓reduceIte, reduceCtorEq, Nat.reduceEqDiff, Nat.reduceLeDiff, Nat.reduceAdd, Nat.reduceMul, Nat.reduceSub, Nat.reduceLT]; repeat' (first | exact Ok.out | with_reducible refine And.intro ?_ ?_))
  · (simp only [go_sem, hlt, hget, hpu, hinc, Int.reduceLE, ↓reduceIte, reduceCtorEq, Nat.reduceEqDiff, Nat.reduceLeDiff, Nat.reduceAdd, Nat.reduceMul, Nat.reduceSub, Nat.reduceLT]; repeat' (first | exact Ok.out | with_reducible refine And.intro ?_ ?_))
  rintro ⟨n, x, r⟩ ⟨h, hn⟩ IH
  dsimp only at hn
  cases n with
  | zero => simp only [Rd.twoL] at h; cases h
  | succ n =>
    simp only [Rd.twoL] at h
    cases hg : r.good
    · simp only [hg, Bool.false_eq_true, ↓reduceIte] at h
      repeat' (first
 | simp only [go_sem, hlt, hget, hpu, hinc, Int.reduceLE, ↓reduceIte, reduceCtorEq, Nat.reduceEqDiff, Nat.reduceLeDiff, Nat.reduceAdd, Nat.reduceMul, Nat.reduceSub, Nat.reduceLT]
 | (with_reducible refine CU (Pok_s (by with_unfolding_all rfl)) ?_)
 | (with_reducible first | refine CB_ofT (by assumption) fun hc => ?_ | refine CB_ofF (by assumption) fun hc => ?_ | refine CB_split (fun hc => ?_) fun hc => ?_) <;> (try simp only [hc, bs, ↓reduceIte] at h) <;> (try simp only [hc])
 | ((with_reducible first | refine leafR hQ ?_ | refine leafN hQ ?_); (try cases h); simp only [resL, oneD, Option.some.injEq, exists_eq_left', go_sem, hlt, hget, hpu, hinc, Int.reduceLE, ↓reduceIte, reduceCtorEq, Nat.reduceEqDiff, Nat.reduceLeDiff, Nat.reduceAdd, Nat.reduceMul, Nat.reduceSub, Nat.reduceLT]; repeat' (first | exact Ok.out | with_reducible refine And.intro ?_ ?_ | (simp; done)))
 | (cases h; replace h := hr; clear hr; (try simp only [bs, ↓reduceIte] at h))
 | (cases h; done))
    · simp only [hg, ↓reduceIte] at h
      rw [Option.bind_eq_some_iff] at h
      obtain ⟨t, h1, h⟩ := h
      obtain ⟨hlt, hget, hkl, hkh⟩ := peek_get h1
      by_cases hk : t.kind = 4
      · have hk' : (t.kind == 4) = true := by simp [hk]
        rw [binds_op t hk] at h
        dsimp only at h
        rw [binds_zero] at h
        cases n with
        | zero =>
          simp only [Rd.two, Option.bind_none] at h
          repeat' (first
 | simp only [go_sem, hlt, hget, hpu, hinc, Int.reduceLE, ↓reduceIte, reduceCtorEq, Nat.reduceEqDiff, Nat.reduceLeDiff, Nat.reduceAdd, Nat.reduceMul, Nat.reduceSub, Nat.reduceLT, hk', binds_wrap]
 | (with_reducible refine CU (Pok_s (by with_unfolding_all rfl)) ?_)
 | (with_reducible refine CU (Binds_s _ _) ?_)
 | (with_reducible first | refine CB_ofT (by assumption) fun hc => ?_ | refine CB_ofF (by assumption) fun hc => ?_ | refine CB_split (fun hc => ?_) fun hc => ?_) <;> (try simp only [hc, bs, ↓reduceIte] at h) <;> (try simp only [hc])
 | ((with_reducible first | refine leafR hQ ?_ | refine leafN hQ ?_); (try cases h); simp only [resL, oneD, Option.some.injEq, exists_eq_left', go_sem, hlt, hget, hpu, hinc, Int.reduceLE, ↓reduceIte, reduceCtorEq, Nat.reduceEqDiff, Nat.reduceLeDiff, Nat.reduceAdd, Nat.reduceMul, Nat.reduceSub, Nat.reduceLT, hk', binds_wrap]; repeat' (first | exact Ok.out | with_reducible refine And.intro ?_ ?_ | (simp; done)))
 | (cases h; replace h := hr; clear hr; (try simp only [bs, ↓reduceIte] at h))
 | (cases h; done))
        | succ n =>
          have first_n := @first_s n (by omega)
          have rest_n := @rest_s n (by omega)
          simp only [Rd.two] at h
          repeat' (first
 | simp only [go_sem, hlt, hget, hpu, hinc, Int.reduceLE, ↓reduceIte, reduceCtorEq, Nat.reduceEqDiff, Nat.reduceLeDiff, Nat.reduceAdd, Nat.reduceMul, Nat.reduceSub, Nat.reduceLT, hk', binds_wrap]
 | (rw [Option.bind_eq_some_iff] at h; obtain ⟨_, h1, h⟩ := h; first | (with_reducible refine CU (first_n h1 (by with_unfolding_all rfl)) ?_) | (with_reducible refine CU (rest_n h1 (by with_unfolding_all rfl)) ?_))
 | (with_reducible refine CU (Pok_s (by with_unfolding_all rfl)) ?_)
 | (with_reducible refine CU (Binds_s _ _) ?_)
 | (with_reducible first | refine CB_ofT (by assumption) fun hc => ?_ | refine CB_ofF (by assumption) fun hc => ?_ | refine CB_split (fun hc => ?_) fun hc => ?_) <;> (try simp only [hc, bs, ↓reduceIte] at h) <;> (try simp only [hc])
 | ((with_reducible first | refine leafR hQ ?_ | refine leafN hQ ?_); (try cases h); simp only [resL, oneD, Option.some.injEq, exists_eq_left', go_sem, hlt, hget, hpu, hinc, Int.reduceLE, ↓reduceIte, reduceCtorEq, Nat.reduceEqDiff, Nat.reduceLeDiff, Nat.reduceAdd, Nat.reduceMul, Nat.reduceSub, Nat.reduceLT, hk', binds_wrap]; repeat' (first | exact Ok.out | with_reducible refine And.intro ?_ ?_ | (simp; done)))
 | (cases h; replace h := hr; clear hr; (try simp only [bs, ↓reduceIte] at h))
 | (cases h; done))
          refine SemL.re _ _ 3 0 (by rw [hB]; exact Nat.le_of_ble_eq_true rfl) (by rw [hB]; exact Nat.le_of_ble_eq_true rfl) ?_ ?_ (IH (n + 1, _, _) ⟨h, by dsimp only; omega⟩ (Nat.lt_succ_self _))
          · (simp only [go_sem, hlt, hget, hpu, hinc, Int.reduceLE, ↓reduceIte, reduceCtorEq, Nat.reduceEqDiff, Nat.reduceLeDiff, Nat.reduceAdd, Nat.reduceMul, Nat.reduceSub, Nat.reduceLT]; repeat' (first | exact Ok.out | with_reducible refine And.intro ?_ ?_))
          · (simp only [go_sem, hlt, hget, hpu, hinc, Int.reduceLE, ↓reduceIte, reduceCtorEq, Nat.reduceEqDiff, Nat.reduceLeDiff, Nat.reduceAdd, Nat.reduceMul, Nat.reduceSub, Nat.reduceLT]; repeat' (first | exact Ok.out | with_reducible refine And.intro ?_ ?_))
      · have hk' : (t.kind == 4) = false := by simp [hk]
        have e : (decide ((0 : Int) < k) || (0 : Int) == 0) = true := by simp
        simp only [op_other t hk, e, ↓reduceIte] at h
        repeat' (first
 | simp only [go_sem, hlt, hget, hpu, hinc, Int.reduceLE, ↓reduceIte, reduceCtorEq, Nat.reduceEqDiff, Nat.reduceLeDiff, Nat.reduceAdd, Nat.reduceMul, Nat.reduceSub, Nat.reduceLT, hk']
 | (with_reducible refine CU (Pok_s (by with_unfolding_all rfl)) ?_)
 | (with_reducible first | refine CB_ofT (by assumption) fun hc => ?_ | refine CB_ofF (by assumption) fun hc => ?_ | refine CB_split (fun hc => ?_) fun hc => ?_) <;> (try simp only [hc, bs, ↓reduceIte] at h) <;> (try simp only [hc])
 | ((with_reducible first | refine leafR hQ ?_ | refine leafN hQ ?_); (try cases h); simp only [resL, oneD, Option.some.injEq, exists_eq_left', go_sem, hlt, hget, hpu, hinc, Int.reduceLE, ↓reduceIte, reduceCtorEq, Nat.reduceEqDiff, Nat.reduceLeDiff, Nat.reduceAdd, Nat.reduceMul, Nat.reduceSub, Nat.reduceLT, hk']; repeat' (first | exact Ok.out | with_reducible refine And.intro ?_ ?_ | (simp; done)))
 | (cases h; replace h := hr; clear hr; (try simp only [bs, ↓reduceIte] at h))
 | (cases h; done))

theorem first_rest : ∀ n, ∀ m < n, C_first m ∧ C_rest m := by
  intro n
  induction n with
  | zero => intro m h; exact absurd h (Nat.not_lt_zero _)
  | succ n ih =>
    intro m h
    have hr : C_rest m := rest_step (fun j hj => (ih j (by omega)).1) (fun j hj => (ih j (by omega)).2)
    refine ⟨?_, hr⟩
    cases m with
    | zero => intro z _ r p h; simp only [Rd.one] at h; cases h
    | succ m => exact first_step (fun j hj => (ih j (by omega)).1) (fun j hj => (ih j (by omega)).2)

theorem Pfirst_s {m : Nat} : C_first m := (first_rest (m + 1) m (Nat.lt_succ_self _)).1
theorem Prest_s {m : Nat} : C_rest m := (first_rest (m + 1) m (Nat.lt_succ_self _)).2

end Go.Abs

/-! Ref3 -/

namespace Go.Abs

set_option maxRecDepth 8000
set_option linter.unusedSimpArgs false
set_option linter.unusedVariables false
open Go.Proofs

theorem deep_n : ∀ (most : Nat), most < 1000000 → ∀ x : Ex, x.size < 4611686018427387904 → ∀ s : St, Fun Try.prog n_ref3_deep [.agg (encEx x), .int .i64 (most : Int)] s (.int .i64 ((min x.depth (most + 1) : Nat) : Int)) s := by
  intro most
  induction most with
  | zero =>
    rintro _ ⟨op, m, name, kids⟩ hx s
    refine Fun.pure ?_ (by simp [D.oks, D.ok, okEx]) rfl s
    have hz : ((0 : Int) == 0) = true := rfl
    have e : min (Ex.depth ⟨op, m, name, kids⟩) (0 + 1) = 1 := by simp only [Ex.depth]; omega
    rw [e]
    unfold S0
    refine Fun.go has_ref3_deep rfl fun B Q hB hQ => ?_
    have hlt : 0 < 1 := Nat.zero_lt_one
    have hget : 0 < 1 := Nat.zero_lt_one
    have hpu : 0 < 1 := Nat.zero_lt_one
    have hinc : 0 < 1 := Nat.zero_lt_one
    repeat' (first
 | simp only [go_sem, hlt, hget, hpu, hinc, Int.reduceLE, ↓reduceIte, reduceCtorEq, Nat.reduceEqDiff, Nat.reduceLeDiff, Nat.reduceAdd, Nat.reduceMul, Nat.reduceSub, Nat.reduceLT, hz]
 | (with_reducible first | refine CB_ofT (by assumption) fun hc => ?_ | refine CB_ofF (by assumption) fun hc => ?_ | refine CB_split (fun hc => ?_) fun hc => ?_) <;> (try simp only [hc, bs, ↓reduceIte] at h) <;> (try simp only [hc])
 | ((with_reducible first | refine leafR hQ ?_ | refine leafN hQ ?_); (try cases h); simp only [resL, oneD, Option.some.injEq, exists_eq_left', go_sem, hlt, hget, hpu, hinc, Int.reduceLE, ↓reduceIte, reduceCtorEq, Nat.reduceEqDiff, Nat.reduceLeDiff, Nat.reduceAdd, Nat.reduceMul, Nat.reduceSub, Nat.reduceLT, hz]; repeat' (first | exact Ok.out | with_reducible refine And.intro ?_ ?_ | (simp; done)))
 | (cases h; replace h := hr; clear hr; (try simp only [bs, ↓reduceIte] at h))
 | (cases h; done))
  | succ most ih =>
    rintro hmost ⟨op, m, name, kids⟩ hx s
    refine Fun.pure ?_ (by simp [D.oks, D.ok, okEx]) rfl s
    have hlen : kids.length < 4611686018427387904 := by simp only [Ex.size] at hx; have := Ex.sizes_len kids; omega
    have hk : ∀ y ∈ kids, ∀ s, Fun Try.prog n_ref3_deep [.agg (encEx y), .int .i64 (most : Int)] s (.int .i64 ((min y.depth (most + 1) : Nat) : Int)) s := fun y hy s =>
      ih (by omega) y (by simp only [Ex.size] at hx; have := Ex.sizes_mem hy; omega) s
    have hz : (((most + 1 : Nat) : Int) == 0) = false := by simp; omega
    have w1 : IntKind.wrap .i64 (((most + 1 : Nat) : Int) - 1) = (most : Int) := by rw [wrap_ok] <;> omega
    unfold S0
    refine Fun.go has_ref3_deep rfl fun B Q hB hQ => ?_
    have hlt : 0 < 1 := Nat.zero_lt_one
    have hget : 0 < 1 := Nat.zero_lt_one
    have hpu : 0 < 1 := Nat.zero_lt_one
    have hinc : 0 < 1 := Nat.zero_lt_one
    repeat' (first
 | simp only [go_sem, hlt, hget, hpu, hinc, Int.reduceLE, ↓reduceIte, reduceCtorEq, Nat.reduceEqDiff, Nat.reduceLeDiff, Nat.reduceAdd, Nat.reduceMul, Nat.reduceSub, Nat.reduceLT, hz]
 | (with_reducible first | refine CB_ofT (by assumption) fun hc => ?_ | refine CB_ofF (by assumption) fun hc => ?_ | refine CB_split (fun hc => ?_) fun hc => ?_) <;> (try simp only [hc, bs, ↓reduceIte] at h) <;> (try simp only [hc])
 | ((with_reducible first | refine leafR hQ ?_ | refine leafN hQ ?_); (try cases h); simp only [resL, oneD, Option.some.injEq, exists_eq_left', go_sem, hlt, hget, hpu, hinc, Int.reduceLE, ↓reduceIte, reduceCtorEq, Nat.reduceEqDiff, Nat.reduceLeDiff, Nat.reduceAdd, Nat.reduceMul, Nat.reduceSub, Nat.reduceLT, hz]; repeat' (first | exact Ok.out | with_reducible refine And.intro ?_ ?_ | (simp; done)))
 | (cases h; replace h := hr; clear hr; (try simp only [bs, ↓reduceIte] at h))
 | (cases h; done))
    refine SemL.re _ _ 1 0 (by rw [hB]; exact Nat.le_of_ble_eq_true rfl) (by rw [hB]; exact Nat.le_of_ble_eq_true rfl) ?_ ?_ (SemL.ind (ι := List Ex × Nat × Nat) (fun i => kids.drop i.2.1 = i.1 ∧ i.2.2 ≤ most + 1 ∧ min (max i.2.2 (Ex.depths i.1)) (most + 1) = min (Ex.depths kids) (most + 1)) (fun i => i.1.length)
      (fun i => [(1, .int .i64 ((most + 1 : Nat) : Int)), (2, .ptr 0 0), (5, .int .i64 (i.2.2 : Int)), (6, .int .i64 (i.2.1 : Int))]) (fun i => ⟨[encEx ⟨op, m, name, kids⟩], []⟩) ?_ (kids, 0, 0) ⟨rfl, Nat.zero_le _, by simp⟩)
    · (simp only [go_sem, hlt, hget, hpu, hinc, Int.reduceLE, ↓reduceIte, reduceCtorEq, Nat.reduceEqDiff, Nat.reduceLeDiff, Nat.reduceAdd, Nat.reduceMul, Nat.reduceSub, Nat.reduceLT]; repeat' (first | exact Ok.out | with_reducible refine And.intro ?_ ?_))
    · (simp only [go_sem, hlt, hget, hpu, hinc, Int.reduceLE, ↓reduceIte, reduceCtorEq, Nat.reduceEqDiff, Nat.reduceLeDiff, Nat.reduceAdd, Nat.reduceMul, Nat.reduceSub, Nat.reduceLT]; repeat' (first | exact Ok.out | with_reducible refine And.intro ?_ ?_))
    rintro ⟨rest, k, d⟩ ⟨h1, h2, h3⟩ IH
    dsimp only at h1 h2 h3
    have hd : min (Ex.depth ⟨op, m, name, kids⟩) (most + 1 + 1) = min (Ex.depths kids) (most + 1) + 1 := by simp only [Ex.depth]; omega
    rw [hd, ← h3] at hQ
    have w2 : IntKind.wrap .i64 ((d : Int) + 1) = ((d + 1 : Nat) : Int) := by rw [wrap_ok] <;> omega
    by_cases hmax : d < most + 1
    · have c2 : decide ((d : Int) < ((most + 1 : Nat) : Int)) = true := by simp; omega
      cases rest with
      | nil =>
        have hlt := drop_nil h1
        simp only [Ex.depths, Nat.max_zero] at hQ
        have e : min d (most + 1) = d := by omega
        rw [e] at hQ
        repeat' (first
 | simp only [go_sem, hlt, hget, hpu, hinc, Int.reduceLE, ↓reduceIte, reduceCtorEq, Nat.reduceEqDiff, Nat.reduceLeDiff, Nat.reduceAdd, Nat.reduceMul, Nat.reduceSub, Nat.reduceLT, c2, w2]
 | (with_reducible first | refine CB_ofT (by assumption) fun hc => ?_ | refine CB_ofF (by assumption) fun hc => ?_ | refine CB_split (fun hc => ?_) fun hc => ?_) <;> (try simp only [hc, bs, ↓reduceIte] at h) <;> (try simp only [hc])
 | ((with_reducible first | refine leafR hQ ?_ | refine leafN hQ ?_); (try cases h); simp only [resL, oneD, Option.some.injEq, exists_eq_left', go_sem, hlt, hget, hpu, hinc, Int.reduceLE, ↓reduceIte, reduceCtorEq, Nat.reduceEqDiff, Nat.reduceLeDiff, Nat.reduceAdd, Nat.reduceMul, Nat.reduceSub, Nat.reduceLT, c2, w2]; repeat' (first | exact Ok.out | with_reducible refine And.intro ?_ ?_ | (simp; done)))
 | (cases h; replace h := hr; clear hr; (try simp only [bs, ↓reduceIte] at h))
 | (cases h; done))
      | cons y rest =>
        obtain ⟨hget, g2, hlt, g4⟩ := drop_cons h1
        have hy := hk y (List.mem_of_getElem? hget)
        simp only [Ex.depths] at h3
        have hk2 : k < 4611686018427387904 := by omega
        by_cases hgt : min y.depth (most + 1) > d
        · have c3 : decide (((min y.depth (most + 1) : Nat) : Int) > (d : Int)) = true := by simp only [decide_eq_true_eq]; omega
          repeat' (first
 | simp only [go_sem, hlt, hget, hpu, hinc, Int.reduceLE, ↓reduceIte, reduceCtorEq, Nat.reduceEqDiff, Nat.reduceLeDiff, Nat.reduceAdd, Nat.reduceMul, Nat.reduceSub, Nat.reduceLT, c2, w1, c3]
 | (with_reducible refine CU (hy _) ?_)
 | (with_reducible first | refine CB_ofT (by assumption) fun hc => ?_ | refine CB_ofF (by assumption) fun hc => ?_ | refine CB_split (fun hc => ?_) fun hc => ?_) <;> (try simp only [hc, bs, ↓reduceIte] at h) <;> (try simp only [hc])
 | ((with_reducible first | refine leafR hQ ?_ | refine leafN hQ ?_); (try cases h); simp only [resL, oneD, Option.some.injEq, exists_eq_left', go_sem, hlt, hget, hpu, hinc, Int.reduceLE, ↓reduceIte, reduceCtorEq, Nat.reduceEqDiff, Nat.reduceLeDiff, Nat.reduceAdd, Nat.reduceMul, Nat.reduceSub, Nat.reduceLT, c2, w1, c3]; repeat' (first | exact Ok.out | with_reducible refine And.intro ?_ ?_ | (simp; done)))
 | (cases h; replace h := hr; clear hr; (try simp only [bs, ↓reduceIte] at h))
 | (cases h; done))
          refine SemL.re _ _ 1 0 (by rw [hB]; exact Nat.le_of_ble_eq_true rfl) (by rw [hB]; exact Nat.le_of_ble_eq_true rfl) ?_ ?_ (IH (rest, k + 1, min y.depth (most + 1)) ⟨g2, by dsimp only; omega, by dsimp only; omega⟩ (Nat.lt_succ_self _))
          · (simp only [go_sem, hlt, hget, hpu, hinc, Int.reduceLE, ↓reduceIte, reduceCtorEq, Nat.reduceEqDiff, Nat.reduceLeDiff, Nat.reduceAdd, Nat.reduceMul, Nat.reduceSub, Nat.reduceLT, wrap_inc hk2]; repeat' (first | exact Ok.out | with_reducible refine And.intro ?_ ?_))
          · (simp only [go_sem, hlt, hget, hpu, hinc, Int.reduceLE, ↓reduceIte, reduceCtorEq, Nat.reduceEqDiff, Nat.reduceLeDiff, Nat.reduceAdd, Nat.reduceMul, Nat.reduceSub, Nat.reduceLT, wrap_inc hk2]; repeat' (first | exact Ok.out | with_reducible refine And.intro ?_ ?_))
        · have c3 : decide (((min y.depth (most + 1) : Nat) : Int) > (d : Int)) = false := by simp only [decide_eq_false_iff_not]; omega
          repeat' (first
 | simp only [go_sem, hlt, hget, hpu, hinc, Int.reduceLE, ↓reduceIte, reduceCtorEq, Nat.reduceEqDiff, Nat.reduceLeDiff, Nat.reduceAdd, Nat.reduceMul, Nat.reduceSub, Nat.reduceLT, c2, w1, c3]
 | (with_reducible refine CU (hy _) ?_)
 | (with_reducible first | refine CB_ofT (by assumption) fun hc => ?_ | refine CB_ofF (by assumption) fun hc => ?_ | refine CB_split (fun hc => ?_) fun hc => ?_) <;> (try simp only [hc, bs, ↓reduceIte] at h) <;> (try simp only [hc])
 | ((with_reducible first | refine leafR hQ ?_ | refine leafN hQ ?_); (try cases h); simp only [resL, oneD, Option.some.injEq, exists_eq_left', go_sem, hlt, hget, hpu, hinc, Int.reduceLE, ↓reduceIte, reduceCtorEq, Nat.reduceEqDiff, Nat.reduceLeDiff, Nat.reduceAdd, Nat.reduceMul, Nat.reduceSub, Nat.reduceLT, c2, w1, c3]; repeat' (first | exact Ok.out | with_reducible refine And.intro ?_ ?_ | (simp; done)))
 | (cases h; replace h := hr; clear hr; (try simp only [bs, ↓reduceIte] at h))
 | (cases h; done))
          refine SemL.re _ _ 1 0 (by rw [hB]; exact Nat.le_of_ble_eq_true rfl) (by rw [hB]; exact Nat.le_of_ble_eq_true rfl) ?_ ?_ (IH (rest, k + 1, d) ⟨g2, h2, by dsimp only; omega⟩ (Nat.lt_succ_self _))
          · (simp only [go_sem, hlt, hget, hpu, hinc, Int.reduceLE, ↓reduceIte, reduceCtorEq, Nat.reduceEqDiff, Nat.reduceLeDiff, Nat.reduceAdd, Nat.reduceMul, Nat.reduceSub, Nat.reduceLT, wrap_inc hk2]; repeat' (first | exact Ok.out | with_reducible refine And.intro ?_ ?_))
          · (simp only [go_sem, hlt, hget, hpu, hinc, Int.reduceLE, ↓reduceIte, reduceCtorEq, Nat.reduceEqDiff, Nat.reduceLeDiff, Nat.reduceAdd, Nat.reduceMul, Nat.reduceSub, Nat.reduceLT, wrap_inc hk2]; repeat' (first | exact Ok.out | with_reducible refine And.intro ?_ ?_))
    · have c2 : decide ((d : Int) < ((most + 1 : Nat) : Int)) = false := by simp; omega
      have e : min (max d (Ex.depths rest)) (most + 1) = d := by omega
      rw [e] at hQ
      cases rest with
      | nil =>
        have hlt := drop_nil h1
        repeat' (first
 | simp only [go_sem, hlt, hget, hpu, hinc, Int.reduceLE, ↓reduceIte, reduceCtorEq, Nat.reduceEqDiff, Nat.reduceLeDiff, Nat.reduceAdd, Nat.reduceMul, Nat.reduceSub, Nat.reduceLT, c2, w2]
 | (with_reducible first | refine CB_ofT (by assumption) fun hc => ?_ | refine CB_ofF (by assumption) fun hc => ?_ | refine CB_split (fun hc => ?_) fun hc => ?_) <;> (try simp only [hc, bs, ↓reduceIte] at h) <;> (try simp only [hc])
 | ((with_reducible first | refine leafR hQ ?_ | refine leafN hQ ?_); (try cases h); simp only [resL, oneD, Option.some.injEq, exists_eq_left', go_sem, hlt, hget, hpu, hinc, Int.reduceLE, ↓reduceIte, reduceCtorEq, Nat.reduceEqDiff, Nat.reduceLeDiff, Nat.reduceAdd, Nat.reduceMul, Nat.reduceSub, Nat.reduceLT, c2, w2]; repeat' (first | exact Ok.out | with_reducible refine And.intro ?_ ?_ | (simp; done)))
 | (cases h; replace h := hr; clear hr; (try simp only [bs, ↓reduceIte] at h))
 | (cases h; done))
      | cons y rest =>
        obtain ⟨hget, g2, hlt, g4⟩ := drop_cons h1
        repeat' (first
 | simp only [go_sem, hlt, hget, hpu, hinc, Int.reduceLE, ↓reduceIte, reduceCtorEq, Nat.reduceEqDiff, Nat.reduceLeDiff, Nat.reduceAdd, Nat.reduceMul, Nat.reduceSub, Nat.reduceLT, c2, w2]
 | (with_reducible first | refine CB_ofT (by assumption) fun hc => ?_ | refine CB_ofF (by assumption) fun hc => ?_ | refine CB_split (fun hc => ?_) fun hc => ?_) <;> (try simp only [hc, bs, ↓reduceIte] at h) <;> (try simp only [hc])
 | ((with_reducible first | refine leafR hQ ?_ | refine leafN hQ ?_); (try cases h); simp only [resL, oneD, Option.some.injEq, exists_eq_left', go_sem, hlt, hget, hpu, hinc, Int.reduceLE, ↓reduceIte, reduceCtorEq, Nat.reduceEqDiff, Nat.reduceLeDiff, Nat.reduceAdd, Nat.reduceMul, Nat.reduceSub, Nat.reduceLT, c2, w2]; repeat' (first | exact Ok.out | with_reducible refine And.intro ?_ ?_ | (simp; done)))
 | (cases h; replace h := hr; clear hr; (try simp only [bs, ↓reduceIte] at h))
 | (cases h; done))

theorem Pexpr_s {z : D} [Cell z] {n : Nat} {r : Rd} {p : Ex × Rd} (h : Rd.whole n r = some p) {s : St} {o : Nat} (ho : s.objs[o]? = some (encRc z r)) :
    Fun Try.prog n_ref3_P_expr [.ptr o 0] s (.agg (encEx p.1)) ⟨s.objs.set o (encRc z p.2), s.toks⟩ := by
  refine Fun.meth ?_ rfl (okRc z r) (okRc z p.2) (by simp [D.ok, okEx]) ho
  unfold Rd.whole at h
  rw [Option.bind_eq_some_iff] at h
  obtain ⟨t, h1, h⟩ := h
  obtain ⟨hlx, hgx, hkl, hkh⟩ := peek_get h1
  cases n with
  | zero => simp [Rd.two] at h
  | succ n =>
  cases n with
  | zero => simp [Rd.two, Rd.one] at h
  | succ n =>
  simp only [Rd.two] at h
  cases hg : r.good
  · have h2 : Rd.one (n + 1) r = some (ex0, r) := by simp only [Rd.one, h1, Option.bind_some, hg, Bool.not_false, ↓reduceIte]
    have h3 : ∀ k, Rd.twoL (n + 1) k ex0 r = some (ex0, r) := by intro k; simp only [Rd.twoL, hg, Bool.false_eq_true, ↓reduceIte]
    simp only [h2, h3, Option.bind_some, hg, Bool.false_eq_true, ↓reduceIte] at h
    refine Fun.go has_ref3_P_expr rfl fun B Q hB hQ => ?_
    have hlt : 0 < 1 := Nat.zero_lt_one
    have hget : 0 < 1 := Nat.zero_lt_one
    have hpu : 0 < 1 := Nat.zero_lt_one
    have hinc : 0 < 1 := Nat.zero_lt_one
    repeat' (first
 | simp only [go_sem, hlt, hget, hpu, hinc, Int.reduceLE, ↓reduceIte, reduceCtorEq, Nat.reduceEqDiff, Nat.reduceLeDiff, Nat.reduceAdd, Nat.reduceMul, Nat.reduceSub, Nat.reduceLT]
 | (with_reducible refine CU (Pok_s (by with_unfolding_all rfl)) ?_)
 | (with_reducible first | refine CB_ofT (by assumption) fun hc => ?_ | refine CB_ofF (by assumption) fun hc => ?_ | refine CB_split (fun hc => ?_) fun hc => ?_) <;> (try simp only [hc, bs, ↓reduceIte] at h) <;> (try simp only [hc])
 | ((with_reducible first | refine leafR hQ ?_ | refine leafN hQ ?_); (try cases h); simp only [resL, oneD, Option.some.injEq, exists_eq_left', go_sem, hlt, hget, hpu, hinc, Int.reduceLE, ↓reduceIte, reduceCtorEq, Nat.reduceEqDiff, Nat.reduceLeDiff, Nat.reduceAdd, Nat.reduceMul, Nat.reduceSub, Nat.reduceLT]; repeat' (first | exact Ok.out | with_reducible refine And.intro ?_ ?_ | (simp; done)))
 | (cases h; replace h := hr; clear hr; (try simp only [bs, ↓reduceIte] at h))
 | (cases h; done))
  · rw [Option.bind_assoc] at h
    rw [Option.bind_eq_some_iff] at h
    obtain ⟨a, ha, h⟩ := h
    rw [Option.bind_eq_some_iff] at h
    obtain ⟨b, hb, h⟩ := h
    have fa := fun {s : St} {o : Nat} (ho : s.objs[o]? = some (encRc z r)) => Pfirst_s ha ho
    have fb := fun {s : St} {o : Nat} (ho : s.objs[o]? = some (encRc z a.2)) => Prest_s hb ho
    refine Fun.go has_ref3_P_expr rfl fun B Q hB hQ => ?_
    have hlt : 0 < 1 := Nat.zero_lt_one
    have hget : 0 < 1 := Nat.zero_lt_one
    have hpu : 0 < 1 := Nat.zero_lt_one
    have hinc : 0 < 1 := Nat.zero_lt_one
    cases hg2 : b.2.good
    · simp only [hg2, Bool.false_eq_true, ↓reduceIte] at h
      repeat' (first
 | simp only [go_sem, hlt, hget, hpu, hinc, Int.reduceLE, ↓reduceIte, reduceCtorEq, Nat.reduceEqDiff, Nat.reduceLeDiff, Nat.reduceAdd, Nat.reduceMul, Nat.reduceSub, Nat.reduceLT, hgx]
 | (with_reducible refine CU (Pok_s (by with_unfolding_all rfl)) ?_)
 | (with_reducible refine CU (fa (by with_unfolding_all rfl)) ?_)
 | (with_reducible refine CU (fb (by with_unfolding_all rfl)) ?_)
 | (with_reducible first | refine CB_ofT (by assumption) fun hc => ?_ | refine CB_ofF (by assumption) fun hc => ?_ | refine CB_split (fun hc => ?_) fun hc => ?_) <;> (try simp only [hc, bs, ↓reduceIte] at h) <;> (try simp only [hc])
 | ((with_reducible first | refine leafR hQ ?_ | refine leafN hQ ?_); (try cases h); simp only [resL, oneD, Option.some.injEq, exists_eq_left', go_sem, hlt, hget, hpu, hinc, Int.reduceLE, ↓reduceIte, reduceCtorEq, Nat.reduceEqDiff, Nat.reduceLeDiff, Nat.reduceAdd, Nat.reduceMul, Nat.reduceSub, Nat.reduceLT, hgx]; repeat' (first | exact Ok.out | with_reducible refine And.intro ?_ ?_ | (simp; done)))
 | (cases h; replace h := hr; clear hr; (try simp only [bs, ↓reduceIte] at h))
 | (cases h; done))
    · simp only [hg2, ↓reduceIte] at h
      rw [Option.bind_eq_some_iff] at h
      obtain ⟨d, hd, h⟩ := h
      unfold depthO at hd
      split at hd
      · rename_i hsz
        cases hd
        have hdeep := fun s => deep_n 20 (by decide) b.1 hsz s
        have c20 : (((20 : Nat) : Int)) = 20 := rfl
        rw [c20] at hdeep
        by_cases hx : b.1.depth > 20
        · have c1 : decide ((b.1.depth : Int) > 20) = true := by simp; omega
          have c2 : decide (((min b.1.depth (20 + 1) : Nat) : Int) > 20) = true := by simp only [decide_eq_true_eq]; omega
          simp only [c1, ↓reduceIte] at h
          repeat' (first
 | simp only [go_sem, hlt, hget, hpu, hinc, Int.reduceLE, ↓reduceIte, reduceCtorEq, Nat.reduceEqDiff, Nat.reduceLeDiff, Nat.reduceAdd, Nat.reduceMul, Nat.reduceSub, Nat.reduceLT, c2, hgx]
 | (with_reducible refine CU (Pok_s (by with_unfolding_all rfl)) ?_)
 | (with_reducible refine CU (fa (by with_unfolding_all rfl)) ?_)
 | (with_reducible refine CU (fb (by with_unfolding_all rfl)) ?_)
 | (with_reducible refine CU (hdeep _) ?_)
 | (with_reducible first | refine CB_ofT (by assumption) fun hc => ?_ | refine CB_ofF (by assumption) fun hc => ?_ | refine CB_split (fun hc => ?_) fun hc => ?_) <;> (try simp only [hc, bs, ↓reduceIte] at h) <;> (try simp only [hc])
 | ((with_reducible first | refine leafR hQ ?_ | refine leafN hQ ?_); (try cases h); simp only [resL, oneD, Option.some.injEq, exists_eq_left', go_sem, hlt, hget, hpu, hinc, Int.reduceLE, ↓reduceIte, reduceCtorEq, Nat.reduceEqDiff, Nat.reduceLeDiff, Nat.reduceAdd, Nat.reduceMul, Nat.reduceSub, Nat.reduceLT, c2, hgx]; repeat' (first | exact Ok.out | with_reducible refine And.intro ?_ ?_ | (simp; done)))
 | (cases h; replace h := hr; clear hr; (try simp only [bs, ↓reduceIte] at h))
 | (cases h; done))
        · have c1 : decide ((b.1.depth : Int) > 20) = false := by simp; omega
          have c2 : decide (((min b.1.depth (20 + 1) : Nat) : Int) > 20) = false := by simp only [decide_eq_false_iff_not]; omega
          simp only [c1, Bool.false_eq_true, ↓reduceIte] at h
          repeat' (first
 | simp only [go_sem, hlt, hget, hpu, hinc, Int.reduceLE, ↓reduceIte, reduceCtorEq, Nat.reduceEqDiff, Nat.reduceLeDiff, Nat.reduceAdd, Nat.reduceMul, Nat.reduceSub, Nat.reduceLT, c2, hgx]
 | (with_reducible refine CU (Pok_s (by with_unfolding_all rfl)) ?_)
 | (with_reducible refine CU (fa (by with_unfolding_all rfl)) ?_)
 | (with_reducible refine CU (fb (by with_unfolding_all rfl)) ?_)
 | (with_reducible refine CU (hdeep _) ?_)
 | (with_reducible first | refine CB_ofT (by assumption) fun hc => ?_ | refine CB_ofF (by assumption) fun hc => ?_ | refine CB_split (fun hc => ?_) fun hc => ?_) <;> (try simp only [hc, bs, ↓reduceIte] at h) <;> (try simp only [hc])
 | ((with_reducible first | refine leafR hQ ?_ | refine leafN hQ ?_); (try cases h); simp only [resL, oneD, Option.some.injEq, exists_eq_left', go_sem, hlt, hget, hpu, hinc, Int.reduceLE, ↓reduceIte, reduceCtorEq, Nat.reduceEqDiff, Nat.reduceLeDiff, Nat.reduceAdd, Nat.reduceMul, Nat.reduceSub, Nat.reduceLT, c2, hgx]; repeat' (first | exact Ok.out | with_reducible refine And.intro ?_ ?_ | (simp; done)))
 | (cases h; replace h := hr; clear hr; (try simp only [bs, ↓reduceIte] at h))
 | (cases h; done))
      · cases hd

theorem EqExpr_n : ∀ N, N < 4611686018427387904 → ∀ x y : Ex, x.size ≤ N → ∀ s : St, Fun Try.prog n_ref3_EqExpr [.agg (encEx x), .agg (encEx y)] s (.bool (Ex.beq x y)) s := by
  intro N
  induction N with
  | zero => rintro _ ⟨op, m, name, kids⟩ y h; simp only [Ex.size] at h; omega
  | succ N ih =>
  rintro hN ⟨op, m, name, kids⟩ ⟨op', m', name', kids'⟩ hx s
  refine Fun.pure ?_ (by simp [D.oks, D.ok, okEx]) rfl s
  have hk : ∀ a ∈ kids, ∀ b s, Fun Try.prog n_ref3_EqExpr [.agg (encEx a), .agg (encEx b)] s (.bool (Ex.beq a b)) s := fun a ha b s =>
    ih (by omega) a b (by simp only [Ex.size] at hx; have := Ex.sizes_mem ha; omega) s
  have hlen : kids.length < 4611686018427387904 := by simp only [Ex.size] at hx; have := Ex.sizes_len kids; omega
  generalize h : Ex.beq ⟨op, m, name, kids⟩ ⟨op', m', name', kids'⟩ = p
  simp only [Ex.beq] at h
  unfold S0
  refine Fun.go has_ref3_EqExpr rfl fun B Q hB hQ => ?_
  have hlt : 0 < 1 := Nat.zero_lt_one
  have hget : 0 < 1 := Nat.zero_lt_one
  have hpu : 0 < 1 := Nat.zero_lt_one
  have hinc : 0 < 1 := Nat.zero_lt_one
  repeat' (first
 | simp only [go_sem, hlt, hget, hpu, hinc, Int.reduceLE, ↓reduceIte, reduceCtorEq, Nat.reduceEqDiff, Nat.reduceLeDiff, Nat.reduceAdd, Nat.reduceMul, Nat.reduceSub, Nat.reduceLT]
 | (with_reducible first | refine CB_ofT (by assumption) fun hc => ?_ | refine CB_ofF (by assumption) fun hc => ?_ | refine CB_split (fun hc => ?_) fun hc => ?_) <;> (try simp only [hc, bs, ↓reduceIte] at h) <;> (try simp only [hc])
 | ((with_reducible first | refine leafR hQ ?_ | refine leafN hQ ?_); (try cases h); simp only [resL, oneD, Option.some.injEq, exists_eq_left', go_sem, hlt, hget, hpu, hinc, Int.reduceLE, ↓reduceIte, reduceCtorEq, Nat.reduceEqDiff, Nat.reduceLeDiff, Nat.reduceAdd, Nat.reduceMul, Nat.reduceSub, Nat.reduceLT]; repeat' (first | exact Ok.out | with_reducible refine And.intro ?_ ?_ | (simp; done)))
 | (cases h; replace h := hr; clear hr; (try simp only [bs, ↓reduceIte] at h))
 | (cases h; done))
  rename_i hl4
  have hl5 : kids.length = kids'.length := by
    have : ((kids.length : Int) != (kids'.length : Int)) = false := by assumption
    simp only [bne_eq_false_iff_eq] at this
    omega
  refine SemL.re _ _ 2 0 (by rw [hB]; exact Nat.le_of_ble_eq_true rfl) (by rw [hB]; exact Nat.le_of_ble_eq_true rfl) ?_ ?_ (SemL.ind (ι := List Ex × List Ex × Nat) (fun i => kids.drop i.2.2 = i.1 ∧ kids'.drop i.2.2 = i.2.1 ∧ Ex.beqs i.1 i.2.1 = p) (fun i => i.1.length)
    (fun i => [(2, .ptr 0 0), (3, .ptr 1 0), (36, .int .i64 (kids.length : Int)), (37, .int .i64 (i.2.2 : Int))]) (fun i => ⟨[encEx ⟨op, m, name, kids⟩, encEx ⟨op', m', name', kids'⟩], []⟩) ?_ (kids, kids', 0) ⟨rfl, rfl, h⟩)
  · (simp only [go_sem, hlt, hget, hpu, hinc, Int.reduceLE, ↓reduceIte, reduceCtorEq, Nat.reduceEqDiff, Nat.reduceLeDiff, Nat.reduceAdd, Nat.reduceMul, Nat.reduceSub, Nat.reduceLT]; repeat' (first | exact Ok.out | with_reducible refine And.intro ?_ ?_))
  · (simp only [go_sem, hlt, hget, hpu, hinc, Int.reduceLE, ↓reduceIte, reduceCtorEq, Nat.reduceEqDiff, Nat.reduceLeDiff, Nat.reduceAdd, Nat.reduceMul, Nat.reduceSub, Nat.reduceLT]; repeat' (first | exact Ok.out | with_reducible refine And.intro ?_ ?_))
  rintro ⟨r1, r2, k⟩ ⟨h1, h2, h⟩ IH
  dsimp only at h1 h2 h
  cases r1 with
  | nil =>
    have hlt := drop_nil h1
    simp only [Ex.beqs] at h
    repeat' (first
 | simp only [go_sem, hlt, hget, hpu, hinc, Int.reduceLE, ↓reduceIte, reduceCtorEq, Nat.reduceEqDiff, Nat.reduceLeDiff, Nat.reduceAdd, Nat.reduceMul, Nat.reduceSub, Nat.reduceLT]
 | (with_reducible first | refine CB_ofT (by assumption) fun hc => ?_ | refine CB_ofF (by assumption) fun hc => ?_ | refine CB_split (fun hc => ?_) fun hc => ?_) <;> (try simp only [hc, bs, ↓reduceIte] at h) <;> (try simp only [hc])
 | ((with_reducible first | refine leafR hQ ?_ | refine leafN hQ ?_); (try cases h); simp only [resL, oneD, Option.some.injEq, exists_eq_left', go_sem, hlt, hget, hpu, hinc, Int.reduceLE, ↓reduceIte, reduceCtorEq, Nat.reduceEqDiff, Nat.reduceLeDiff, Nat.reduceAdd, Nat.reduceMul, Nat.reduceSub, Nat.reduceLT]; repeat' (first | exact Ok.out | with_reducible refine And.intro ?_ ?_ | (simp; done)))
 | (cases h; replace h := hr; clear hr; (try simp only [bs, ↓reduceIte] at h))
 | (cases h; done))
  | cons a r1 =>
    obtain ⟨hget, g2, hlt, g4⟩ := drop_cons h1
    cases r2 with
    | nil => have := List.drop_eq_nil_iff.1 h2; omega
    | cons b r2 =>
      obtain ⟨hgb, b2, _, _⟩ := drop_cons h2
      have hk2 : k < 4611686018427387904 := by omega
      have hab := hk a (List.mem_of_getElem? hget)
      simp only [Ex.beqs] at h
      repeat' (first
 | simp only [go_sem, hlt, hget, hpu, hinc, Int.reduceLE, ↓reduceIte, reduceCtorEq, Nat.reduceEqDiff, Nat.reduceLeDiff, Nat.reduceAdd, Nat.reduceMul, Nat.reduceSub, Nat.reduceLT, hgb]
 | (with_reducible refine CU (hab _ _) ?_)
 | (with_reducible first | refine CB_ofT (by assumption) fun hc => ?_ | refine CB_ofF (by assumption) fun hc => ?_ | refine CB_split (fun hc => ?_) fun hc => ?_) <;> (try simp only [hc, bs, ↓reduceIte] at h) <;> (try simp only [hc])
 | ((with_reducible first | refine leafR hQ ?_ | refine leafN hQ ?_); (try cases h); simp only [resL, oneD, Option.some.injEq, exists_eq_left', go_sem, hlt, hget, hpu, hinc, Int.reduceLE, ↓reduceIte, reduceCtorEq, Nat.reduceEqDiff, Nat.reduceLeDiff, Nat.reduceAdd, Nat.reduceMul, Nat.reduceSub, Nat.reduceLT, hgb]; repeat' (first | exact Ok.out | with_reducible refine And.intro ?_ ?_ | (simp; done)))
 | (cases h; replace h := hr; clear hr; (try simp only [bs, ↓reduceIte] at h))
 | (cases h; done))
      refine SemL.re _ _ 2 0 (by rw [hB]; exact Nat.le_of_ble_eq_true rfl) (by rw [hB]; exact Nat.le_of_ble_eq_true rfl) ?_ ?_ (IH (r1, r2, k + 1) ⟨g2, b2, h⟩ (Nat.lt_succ_self _))
      · (simp only [go_sem, hlt, hget, hpu, hinc, Int.reduceLE, ↓reduceIte, reduceCtorEq, Nat.reduceEqDiff, Nat.reduceLeDiff, Nat.reduceAdd, Nat.reduceMul, Nat.reduceSub, Nat.reduceLT, wrap_inc hk2]; repeat' (first | exact Ok.out | with_reducible refine And.intro ?_ ?_))
      · (simp only [go_sem, hlt, hget, hpu, hinc, Int.reduceLE, ↓reduceIte, reduceCtorEq, Nat.reduceEqDiff, Nat.reduceLeDiff, Nat.reduceAdd, Nat.reduceMul, Nat.reduceSub, Nat.reduceLT, wrap_inc hk2]; repeat' (first | exact Ok.out | with_reducible refine And.intro ?_ ?_))

theorem EqExpr_s {x y : Ex} (hx : x.size < 4611686018427387904) (s : St) : Fun Try.prog n_ref3_EqExpr [.agg (encEx x), .agg (encEx y)] s (.bool (Ex.beq x y)) s := EqExpr_n _ hx x y (Nat.le_refl _) s

end Go.Abs

/-! MirTree -/

namespace Go.Abs

def Ar.sizes : List Ar → Nat
  | [] => 0
  | a :: l => 1 + a.x.size + Ar.sizes l
mutual
def Sm.size : Sm → Nat
  | ⟨_, _, labels, _, _, x, _, args, thn, els⟩ => 1 + labels.length + x.size + Ar.sizes args + Sm.sizes thn + Sm.sizes els
def Sm.sizes : List Sm → Nat
  | [] => 0
  | s :: l => 1 + s.size + Sm.sizes l
end
def Pc.size (f : Pc) : Nat := 1 + f.params.length + f.vars.length + f.fin.length + Sm.sizes f.body
def Pc.sizes : List Pc → Nat
  | [] => 0
  | f :: l => 1 + f.size + Pc.sizes l
def Pg.size (p : Pg) : Nat := 1 + p.globals.length + Pc.sizes p.procs

mutual
/-- A statement with its id; how many there are so far. -/
def Sm.num (b : Bool) (n : Nat) : Sm → Sm × Nat
  | ⟨id, kind, labels, name, proc, x, has, args, thn, els⟩ =>
    (⟨if b then ((n + 1 : Nat) : Int) else id, kind, labels, name, proc, x, has, args, (Sm.nums b (n + 1) thn).1, (Sm.nums b (Sm.nums b (n + 1) thn).2 els).1⟩, (Sm.nums b (Sm.nums b (n + 1) thn).2 els).2)
def Sm.nums (b : Bool) (n : Nat) : List Sm → List Sm × Nat
  | [] => ([], n)
  | s :: l => ((Sm.num b n s).1 :: (Sm.nums b (Sm.num b n s).2 l).1, (Sm.nums b (Sm.num b n s).2 l).2)
end

def Pc.nums (n : Nat) : List Pc → List Pc
  | [] => []
  | f :: l => { f with body := (Sm.nums true n f.body).1 } :: Pc.nums (Sm.nums true n f.body).2 l
def Pg.number (p : Pg) : Pg := { p with procs := Pc.nums 0 p.procs }
def Pg.numberO (p : Pg) : Option Pg := if p.size < 1073741824 then some p.number else none

mutual
theorem Sm.num_le (b : Bool) (n : Nat) : ∀ s : Sm, (Sm.num b n s).2 ≤ n + s.size
  | ⟨id, kind, labels, name, proc, x, has, args, thn, els⟩ => by
    simp only [Sm.num, Sm.size]
    have h1 := Sm.nums_le b (n + 1) thn
    have h2 := Sm.nums_le b (Sm.nums b (n + 1) thn).2 els
    omega
theorem Sm.nums_le (b : Bool) (n : Nat) : ∀ l : List Sm, (Sm.nums b n l).2 ≤ n + Sm.sizes l
  | [] => by simp [Sm.nums, Sm.sizes]
  | s :: l => by
    simp only [Sm.nums, Sm.sizes]
    have h1 := Sm.num_le b n s
    have h2 := Sm.nums_le b (Sm.num b n s).2 l
    omega
end
theorem Sm.sizes_len : ∀ (l : List Sm), l.length ≤ Sm.sizes l
  | [] => Nat.le_refl _
  | x :: l => by simp only [Sm.sizes, List.length_cons]; have := Sm.sizes_len l; omega
theorem Ar.sizes_len : ∀ (l : List Ar), l.length ≤ Ar.sizes l
  | [] => Nat.le_refl _
  | x :: l => by simp only [Ar.sizes, List.length_cons]; have := Ar.sizes_len l; omega
theorem Pc.sizes_len : ∀ (l : List Pc), l.length ≤ Pc.sizes l
  | [] => Nat.le_refl _
  | x :: l => by simp only [Pc.sizes, List.length_cons]; have := Pc.sizes_len l; omega
theorem Ar.sizes_mem {x : Ar} : ∀ {l : List Ar}, x ∈ l → x.x.size < Ar.sizes l
  | y :: l, h => by
    simp only [Ar.sizes]
    rcases List.mem_cons.1 h with rfl | h
    · omega
    · have := Ar.sizes_mem h; omega
theorem Sm.sizes_mem {x : Sm} : ∀ {l : List Sm}, x ∈ l → x.size < Sm.sizes l
  | y :: l, h => by
    simp only [Sm.sizes]
    rcases List.mem_cons.1 h with rfl | h
    · omega
    · have := Sm.sizes_mem h; omega
theorem Pc.sizes_mem {x : Pc} : ∀ {l : List Pc}, x ∈ l → x.size < Pc.sizes l
  | y :: l, h => by
    simp only [Pc.sizes]
    rcases List.mem_cons.1 h with rfl | h
    · omega
    · have := Pc.sizes_mem h; omega
theorem Sm.nums_len (b : Bool) (n : Nat) : ∀ l : List Sm, (Sm.nums b n l).1.length = l.length
  | [] => rfl
  | s :: l => by simp only [Sm.nums, List.length_cons, Sm.nums_len b _ l]

end Go.Abs

/-! MirEq -/

namespace Go.Abs

def eqTs : List Str → List Str → Bool
  | [], _ => true
  | _ :: _, [] => true
  | x :: l, y :: l' => if !(x == y) then false else eqTs l l'
def eqT (l l' : List Str) : Bool := if (l.length : Int) != (l'.length : Int) then false else eqTs l l'

def Ar.beqs : List Ar → List Ar → Bool
  | [], _ => true
  | _ :: _, [] => true
  | a :: l, b :: l' => if !(a.ref == b.ref) || !(a.name == b.name) || !(Ex.beq a.x b.x) then false else Ar.beqs l l'

mutual
def Sm.beq : Sm → Sm → Bool
  | ⟨id, kind, labels, name, proc, x, has, args, thn, els⟩, ⟨id', kind', labels', name', proc', x', has', args', thn', els'⟩ =>
    if id != id' || kind != kind' || !(name == name') || !(proc == proc') || !(has == has') || !(eqT labels labels') || !(Ex.beq x x') || (args.length : Int) != (args'.length : Int) then false
    else if !(Ar.beqs args args') then false
    else if (if (thn.length : Int) != (thn'.length : Int) then false else Sm.beqs thn thn') then (if (els.length : Int) != (els'.length : Int) then false else Sm.beqs els els') else false
def Sm.beqs : List Sm → List Sm → Bool
  | [], _ => true
  | _ :: _, [] => true
  | s :: l, t :: l' => if !(Sm.beq s t) then false else Sm.beqs l l'
end
def Sm.beqL (l l' : List Sm) : Bool := if (l.length : Int) != (l'.length : Int) then false else Sm.beqs l l'

def Pm.beqs : List Pm → List Pm → Bool
  | [], _ => true
  | _ :: _, [] => true
  | a :: l, b :: l' => if !((a.name == b.name) && (a.ref == b.ref)) then false else Pm.beqs l l'

def Pc.beqs : List Pc → List Pc → Bool
  | [], _ => true
  | _ :: _, [] => true
  | f :: l, g :: l' =>
    if !(f.name == g.name) || (f.params.length : Int) != (g.params.length : Int) || !(eqT f.vars g.vars) || !(eqT f.fin g.fin) || !(Sm.beqL f.body g.body) then false
    else if !(Pm.beqs f.params g.params) then false else Pc.beqs l l'

def Pg.beq (p q : Pg) : Bool := if !(eqT p.globals q.globals) || (p.procs.length : Int) != (q.procs.length : Int) then false else Pc.beqs p.procs q.procs

/-! ### What is the same is the same -/

theorem eqTs_refl : ∀ l, eqTs l l = true
  | [] => rfl
  | x :: l => by simp [eqTs, eqTs_refl l]
theorem eqT_refl (l : List Str) : eqT l l = true := by simp [eqT, eqTs_refl]
theorem Ar.beqs_refl : ∀ l, Ar.beqs l l = true
  | [] => rfl
  | x :: l => by simp [Ar.beqs, Ar.beqs_refl l, Ex.beq_refl]
mutual
theorem Sm.beq_refl : ∀ s, Sm.beq s s = true
  | ⟨id, kind, labels, name, proc, x, has, args, thn, els⟩ => by simp [Sm.beq, eqT_refl, Ex.beq_refl, Ar.beqs_refl, Sm.beqs_refl thn, Sm.beqs_refl els]
theorem Sm.beqs_refl : ∀ l, Sm.beqs l l = true
  | [] => rfl
  | x :: l => by simp [Sm.beqs, Sm.beq_refl x, Sm.beqs_refl l]
end
theorem Sm.beqL_refl (l : List Sm) : Sm.beqL l l = true := by simp [Sm.beqL, Sm.beqs_refl]
theorem Pm.beqs_refl : ∀ l, Pm.beqs l l = true
  | [] => rfl
  | x :: l => by simp [Pm.beqs, Pm.beqs_refl l]
theorem Pc.beqs_refl : ∀ l, Pc.beqs l l = true
  | [] => rfl
  | x :: l => by simp [Pc.beqs, Pc.beqs_refl l, eqT_refl, Sm.beqL_refl, Pm.beqs_refl]
theorem Pg.beq_refl (p : Pg) : Pg.beq p p = true := by simp [Pg.beq, eqT_refl, Pc.beqs_refl]

end Go.Abs

/-! RefEq -/

namespace Go.Abs

set_option maxRecDepth 8000
set_option linter.unusedSimpArgs false
set_option linter.unusedVariables false
open Go.Proofs

theorem EqTexts_s {l l' : List Str} (hl : l.length < 4611686018427387904) (s : St) : Fun Try.prog n_ref3_EqTexts [.slice .shared 1 (l.map encStr), .slice .shared 1 (l'.map encStr)] s (.bool (eqT l l')) s := by
  refine Fun.pure ?_ (by simp [D.oks, D.ok, Tag.ok, okrStr]) rfl s
  generalize h : eqT l l' = p
  simp only [eqT] at h
  unfold S0
  refine Fun.go has_ref3_EqTexts rfl fun B Q hB hQ => ?_
  have hlt : 0 < 1 := Nat.zero_lt_one
  have hget : 0 < 1 := Nat.zero_lt_one
  have hpu : 0 < 1 := Nat.zero_lt_one
  have hinc : 0 < 1 := Nat.zero_lt_one
  repeat' (first
 | simp only [go_sem, hlt, hget, hpu, hinc, Int.reduceLE, ↓reduceIte, reduceCtorEq, Nat.reduceEqDiff, Nat.reduceLeDiff, Nat.reduceAdd, Nat.reduceMul, Nat.reduceSub, Nat.reduceLT]
 | (with_reducible first | refine CB_ofT (by assumption) fun hc => ?_ | refine CB_ofF (by assumption) fun hc => ?_ | refine CB_split (fun hc => ?_) fun hc => ?_) <;> (try simp only [hc, bs, ↓reduceIte] at h) <;> (try simp only [hc])
 | ((with_reducible first | refine leafR hQ ?_ | refine leafN hQ ?_); (try cases h); simp only [resL, oneD, Option.some.injEq, exists_eq_left', go_sem, hlt, hget, hpu, hinc, Int.reduceLE, ↓reduceIte, reduceCtorEq, Nat.reduceEqDiff, Nat.reduceLeDiff, Nat.reduceAdd, Nat.reduceMul, Nat.reduceSub, Nat.reduceLT]; repeat' (first | exact Ok.out | with_reducible refine And.intro ?_ ?_ | (simp; done)))
 | (cases h; replace h := hr; clear hr; (try simp only [bs, ↓reduceIte] at h))
 | (cases h; done))
  have hl5 : l.length = l'.length := by
    have : ((l.length : Int) != (l'.length : Int)) = false := by assumption
    simp only [bne_eq_false_iff_eq] at this
    omega
  refine SemL.re _ _ 0 0 (by rw [hB]; exact Nat.le_of_ble_eq_true rfl) (by rw [hB]; exact Nat.le_of_ble_eq_true rfl) ?_ ?_ (SemL.ind (ι := List Str × List Str × Nat) (fun i => l.drop i.2.2 = i.1 ∧ l'.drop i.2.2 = i.2.1 ∧ eqTs i.1 i.2.1 = p) (fun i => i.1.length)
    (fun i => [(0, .slice .shared 1 (l.map encStr)), (1, .slice .shared 1 (l'.map encStr)), (12, .int .i64 (l.length : Int)), (13, .int .i64 (i.2.2 : Int))]) (fun i => ⟨[], []⟩) ?_ (l, l', 0) ⟨rfl, rfl, h⟩)
  · (simp only [go_sem, hlt, hget, hpu, hinc, Int.reduceLE, ↓reduceIte, reduceCtorEq, Nat.reduceEqDiff, Nat.reduceLeDiff, Nat.reduceAdd, Nat.reduceMul, Nat.reduceSub, Nat.reduceLT]; repeat' (first | exact Ok.out | with_reducible refine And.intro ?_ ?_))
  · (simp only [go_sem, hlt, hget, hpu, hinc, Int.reduceLE, ↓reduceIte, reduceCtorEq, Nat.reduceEqDiff, Nat.reduceLeDiff, Nat.reduceAdd, Nat.reduceMul, Nat.reduceSub, Nat.reduceLT]; repeat' (first | exact Ok.out | with_reducible refine And.intro ?_ ?_))
  rintro ⟨r1, r2, k⟩ ⟨h1, h2, h⟩ IH
  dsimp only at h1 h2 h
  cases r1 with
  | nil =>
    have hlt := drop_nil h1
    simp only [eqTs] at h
    repeat' (first
 | simp only [go_sem, hlt, hget, hpu, hinc, Int.reduceLE, ↓reduceIte, reduceCtorEq, Nat.reduceEqDiff, Nat.reduceLeDiff, Nat.reduceAdd, Nat.reduceMul, Nat.reduceSub, Nat.reduceLT]
 | (with_reducible first | refine CB_ofT (by assumption) fun hc => ?_ | refine CB_ofF (by assumption) fun hc => ?_ | refine CB_split (fun hc => ?_) fun hc => ?_) <;> (try simp only [hc, bs, ↓reduceIte] at h) <;> (try simp only [hc])
 | ((with_reducible first | refine leafR hQ ?_ | refine leafN hQ ?_); (try cases h); simp only [resL, oneD, Option.some.injEq, exists_eq_left', go_sem, hlt, hget, hpu, hinc, Int.reduceLE, ↓reduceIte, reduceCtorEq, Nat.reduceEqDiff, Nat.reduceLeDiff, Nat.reduceAdd, Nat.reduceMul, Nat.reduceSub, Nat.reduceLT]; repeat' (first | exact Ok.out | with_reducible refine And.intro ?_ ?_ | (simp; done)))
 | (cases h; replace h := hr; clear hr; (try simp only [bs, ↓reduceIte] at h))
 | (cases h; done))
  | cons a r1 =>
    obtain ⟨hget, g2, hlt, g4⟩ := drop_cons h1
    cases r2 with
    | nil => have := List.drop_eq_nil_iff.1 h2; omega
    | cons b r2 =>
      obtain ⟨hgb, b2, _, _⟩ := drop_cons h2
      have hk2 : k < 4611686018427387904 := by omega
      simp only [eqTs] at h
      repeat' (first
 | simp only [go_sem, hlt, hget, hpu, hinc, Int.reduceLE, ↓reduceIte, reduceCtorEq, Nat.reduceEqDiff, Nat.reduceLeDiff, Nat.reduceAdd, Nat.reduceMul, Nat.reduceSub, Nat.reduceLT, hgb]
 | (with_reducible first | refine CB_ofT (by assumption) fun hc => ?_ | refine CB_ofF (by assumption) fun hc => ?_ | refine CB_split (fun hc => ?_) fun hc => ?_) <;> (try simp only [hc, bs, ↓reduceIte] at h) <;> (try simp only [hc])
 | ((with_reducible first | refine leafR hQ ?_ | refine leafN hQ ?_); (try cases h); simp only [resL, oneD, Option.some.injEq, exists_eq_left', go_sem, hlt, hget, hpu, hinc, Int.reduceLE, ↓reduceIte, reduceCtorEq, Nat.reduceEqDiff, Nat.reduceLeDiff, Nat.reduceAdd, Nat.reduceMul, Nat.reduceSub, Nat.reduceLT, hgb]; repeat' (first | exact Ok.out | with_reducible refine And.intro ?_ ?_ | (simp; done)))
 | (cases h; replace h := hr; clear hr; (try simp only [bs, ↓reduceIte] at h))
 | (cases h; done))
      refine SemL.re _ _ 0 0 (by rw [hB]; exact Nat.le_of_ble_eq_true rfl) (by rw [hB]; exact Nat.le_of_ble_eq_true rfl) ?_ ?_ (IH (r1, r2, k + 1) ⟨g2, b2, h⟩ (Nat.lt_succ_self _))
      · (simp only [go_sem, hlt, hget, hpu, hinc, Int.reduceLE, ↓reduceIte, reduceCtorEq, Nat.reduceEqDiff, Nat.reduceLeDiff, Nat.reduceAdd, Nat.reduceMul, Nat.reduceSub, Nat.reduceLT, wrap_inc hk2]; repeat' (first | exact Ok.out | with_reducible refine And.intro ?_ ?_))
      · (simp only [go_sem, hlt, hget, hpu, hinc, Int.reduceLE, ↓reduceIte, reduceCtorEq, Nat.reduceEqDiff, Nat.reduceLeDiff, Nat.reduceAdd, Nat.reduceMul, Nat.reduceSub, Nat.reduceLT, wrap_inc hk2]; repeat' (first | exact Ok.out | with_reducible refine And.intro ?_ ?_))

abbrev C_eqOne (N : Nat) : Prop := ∀ s t : Sm, s.size < N → ∀ st : St, Fun Try.prog n_ref3_eqOne [.agg (encSm s), .agg (encSm t)] st (.bool (Sm.beq s t)) st
abbrev C_eqL (N : Nat) : Prop := ∀ l l' : List Sm, Sm.sizes l < N → ∀ st : St, Fun Try.prog n_ref3_EqStmts [.slice .shared 13 (l.map encSm), .slice .shared 13 (l'.map encSm)] st (.bool (Sm.beqL l l')) st

theorem eqL_step {N : Nat} (hN : N < 4611686018427387904) (one : C_eqOne N) : C_eqL (N + 1) := by
  intro l l' hs st
  have hl : l.length < 4611686018427387904 := by have := Sm.sizes_len l; omega
  have hk : ∀ a ∈ l, ∀ b s, Fun Try.prog n_ref3_eqOne [.agg (encSm a), .agg (encSm b)] s (.bool (Sm.beq a b)) s := fun a ha b s =>
    one a b (by have := Sm.sizes_mem ha; omega) s
  refine Fun.pure ?_ (by simp [D.oks, D.ok, Tag.ok, okrSm]) rfl st
  generalize h : Sm.beqL l l' = p
  simp only [Sm.beqL] at h
  unfold S0
  refine Fun.go has_ref3_EqStmts rfl fun B Q hB hQ => ?_
  have hlt : 0 < 1 := Nat.zero_lt_one
  have hget : 0 < 1 := Nat.zero_lt_one
  have hpu : 0 < 1 := Nat.zero_lt_one
  have hinc : 0 < 1 := Nat.zero_lt_one
  repeat' (first
 | simp only [go_sem, hlt, hget, hpu, hinc, Int.reduceLE, ↓reduceIte, reduceCtorEq, Nat.reduceEqDiff, Nat.reduceLeDiff, Nat.reduceAdd, Nat.reduceMul, Nat.reduceSub, Nat.reduceLT]
 | (with_reducible first | refine CB_ofT (by assumption) fun hc => ?_ | refine CB_ofF (by assumption) fun hc => ?_ | refine CB_split (fun hc => ?_) fun hc => ?_) <;> (try simp only [hc, bs, ↓reduceIte] at h) <;> (try simp only [hc])
 | ((with_reducible first | refine leafR hQ ?_ | refine leafN hQ ?_); (try cases h); simp only [resL, oneD, Option.some.injEq, exists_eq_left', go_sem, hlt, hget, hpu, hinc, Int.reduceLE, ↓reduceIte, reduceCtorEq, Nat.reduceEqDiff, Nat.reduceLeDiff, Nat.reduceAdd, Nat.reduceMul, Nat.reduceSub, Nat.reduceLT]; repeat' (first | exact Ok.out | with_reducible refine And.intro ?_ ?_ | (simp; done)))
 | (cases h; replace h := hr; clear hr; (try simp only [bs, ↓reduceIte] at h))
 | (cases h; done))
  have hl5 : l.length = l'.length := by
    have : ((l.length : Int) != (l'.length : Int)) = false := by assumption
    simp only [bne_eq_false_iff_eq] at this
    omega
  refine SemL.re _ _ 0 0 (by rw [hB]; exact Nat.le_of_ble_eq_true rfl) (by rw [hB]; exact Nat.le_of_ble_eq_true rfl) ?_ ?_ (SemL.ind (ι := List Sm × List Sm × Nat) (fun i => l.drop i.2.2 = i.1 ∧ l'.drop i.2.2 = i.2.1 ∧ Sm.beqs i.1 i.2.1 = p) (fun i => i.1.length)
    (fun i => [(0, .slice .shared 13 (l.map encSm)), (1, .slice .shared 13 (l'.map encSm)), (12, .int .i64 (l.length : Int)), (13, .int .i64 (i.2.2 : Int))]) (fun i => ⟨[], []⟩) ?_ (l, l', 0) ⟨rfl, rfl, h⟩)
  · (simp only [go_sem, hlt, hget, hpu, hinc, Int.reduceLE, ↓reduceIte, reduceCtorEq, Nat.reduceEqDiff, Nat.reduceLeDiff, Nat.reduceAdd, Nat.reduceMul, Nat.reduceSub, Nat.reduceLT]; repeat' (first | exact Ok.out | with_reducible refine And.intro ?_ ?_))
  · (simp only [go_sem, hlt, hget, hpu, hinc, Int.reduceLE, ↓reduceIte, reduceCtorEq, Nat.reduceEqDiff, Nat.reduceLeDiff, Nat.reduceAdd, Nat.reduceMul, Nat.reduceSub, Nat.reduceLT]; repeat' (first | exact Ok.out | with_reducible refine And.intro ?_ ?_))
  rintro ⟨r1, r2, k⟩ ⟨h1, h2, h⟩ IH
  dsimp only at h1 h2 h
  cases r1 with
  | nil =>
    have hlt := drop_nil h1
    simp only [Sm.beqs] at h
    repeat' (first
 | simp only [go_sem, hlt, hget, hpu, hinc, Int.reduceLE, ↓reduceIte, reduceCtorEq, Nat.reduceEqDiff, Nat.reduceLeDiff, Nat.reduceAdd, Nat.reduceMul, Nat.reduceSub, Nat.reduceLT]
 | (with_reducible first | refine CB_ofT (by assumption) fun hc => ?_ | refine CB_ofF (by assumption) fun hc => ?_ | refine CB_split (fun hc => ?_) fun hc => ?_) <;> (try simp only [hc, bs, ↓reduceIte] at h) <;> (try simp only [hc])
 | ((with_reducible first | refine leafR hQ ?_ | refine leafN hQ ?_); (try cases h); simp only [resL, oneD, Option.some.injEq, exists_eq_left', go_sem, hlt, hget, hpu, hinc, Int.reduceLE, ↓reduceIte, reduceCtorEq, Nat.reduceEqDiff, Nat.reduceLeDiff, Nat.reduceAdd, Nat.reduceMul, Nat.reduceSub, Nat.reduceLT]; repeat' (first | exact Ok.out | with_reducible refine And.intro ?_ ?_ | (simp; done)))
 | (cases h; replace h := hr; clear hr; (try simp only [bs, ↓reduceIte] at h))
 | (cases h; done))
  | cons a r1 =>
    obtain ⟨hget, g2, hlt, g4⟩ := drop_cons h1
    cases r2 with
    | nil => have := List.drop_eq_nil_iff.1 h2; omega
    | cons b r2 =>
      obtain ⟨hgb, b2, _, _⟩ := drop_cons h2
      have hk2 : k < 4611686018427387904 := by omega
      have hab := hk a (List.mem_of_getElem? hget)
      simp only [Sm.beqs] at h
      repeat' (first
 | simp only [go_sem, hlt, hget, hpu, hinc, Int.reduceLE, ↓reduceIte, reduceCtorEq, Nat.reduceEqDiff, Nat.reduceLeDiff, Nat.reduceAdd, Nat.reduceMul, Nat.reduceSub, Nat.reduceLT, hgb]
 | (with_reducible refine CU (hab _ _) ?_)
 | (with_reducible first | refine CB_ofT (by assumption) fun hc => ?_ | refine CB_ofF (by assumption) fun hc => ?_ | refine CB_split (fun hc => ?_) fun hc => ?_) <;> (try simp only [hc, bs, ↓reduceIte] at h) <;> (try simp only [hc])
 | ((with_reducible first | refine leafR hQ ?_ | refine leafN hQ ?_); (try cases h); simp only [resL, oneD, Option.some.injEq, exists_eq_left', go_sem, hlt, hget, hpu, hinc, Int.reduceLE, ↓reduceIte, reduceCtorEq, Nat.reduceEqDiff, Nat.reduceLeDiff, Nat.reduceAdd, Nat.reduceMul, Nat.reduceSub, Nat.reduceLT, hgb]; repeat' (first | exact Ok.out | with_reducible refine And.intro ?_ ?_ | (simp; done)))
 | (cases h; replace h := hr; clear hr; (try simp only [bs, ↓reduceIte] at h))
 | (cases h; done))
      refine SemL.re _ _ 0 0 (by rw [hB]; exact Nat.le_of_ble_eq_true rfl) (by rw [hB]; exact Nat.le_of_ble_eq_true rfl) ?_ ?_ (IH (r1, r2, k + 1) ⟨g2, b2, h⟩ (Nat.lt_succ_self _))
      · (simp only [go_sem, hlt, hget, hpu, hinc, Int.reduceLE, ↓reduceIte, reduceCtorEq, Nat.reduceEqDiff, Nat.reduceLeDiff, Nat.reduceAdd, Nat.reduceMul, Nat.reduceSub, Nat.reduceLT, wrap_inc hk2]; repeat' (first | exact Ok.out | with_reducible refine And.intro ?_ ?_))
      · (simp only [go_sem, hlt, hget, hpu, hinc, Int.reduceLE, ↓reduceIte, reduceCtorEq, Nat.reduceEqDiff, Nat.reduceLeDiff, Nat.reduceAdd, Nat.reduceMul, Nat.reduceSub, Nat.reduceLT, wrap_inc hk2]; repeat' (first | exact Ok.out | with_reducible refine And.intro ?_ ?_))

theorem eqOne_step {N : Nat} (hN : N < 4611686018427387904) (eql : C_eqL N) : C_eqOne (N + 1) := by
  rintro ⟨id, kind, labels, name, proc, x, has, args, thn, els⟩ ⟨id', kind', labels', name', proc', x', has', args', thn', els'⟩ hs st
  simp only [Sm.size] at hs
  refine Fun.pure ?_ (by simp [D.oks, D.ok, okSm]) rfl st
  have hal := Ar.sizes_len args
  have hT := fun s => EqTexts_s (l := labels) (l' := labels') (by omega) s
  have hX := fun s => EqExpr_s (x := x) (y := x') (by omega) s
  simp only [encEx_eq] at hX
  have h1 := eql thn thn' (by omega)
  have h2 := eql els els' (by omega)
  generalize h : Sm.beq ⟨id, kind, labels, name, proc, x, has, args, thn, els⟩ ⟨id', kind', labels', name', proc', x', has', args', thn', els'⟩ = p
  simp only [Sm.beq] at h
  change (if id != id' || kind != kind' || !(name == name') || !(proc == proc') || !(has == has') || !(eqT labels labels') || !(Ex.beq x x') || (args.length : Int) != (args'.length : Int) then false
    else if !(Ar.beqs args args') then false else if Sm.beqL thn thn' then Sm.beqL els els' else false) = p at h
  unfold S0
  refine Fun.go has_ref3_eqOne rfl fun B Q hB hQ => ?_
  have hlt : 0 < 1 := Nat.zero_lt_one
  have hget : 0 < 1 := Nat.zero_lt_one
  have hpu : 0 < 1 := Nat.zero_lt_one
  have hinc : 0 < 1 := Nat.zero_lt_one
  repeat' (first
 | simp only [go_sem, hlt, hget, hpu, hinc, Int.reduceLE, ↓reduceIte, reduceCtorEq, Nat.reduceEqDiff, Nat.reduceLeDiff, Nat.reduceAdd, Nat.reduceMul, Nat.reduceSub, Nat.reduceLT]
 | (with_reducible refine CU (hT _) ?_)
 | (with_reducible refine CU (hX _) ?_)
 | (with_reducible first | refine CB_ofT (by assumption) fun hc => ?_ | refine CB_ofF (by assumption) fun hc => ?_ | refine CB_split (fun hc => ?_) fun hc => ?_) <;> (try simp only [hc, bs, ↓reduceIte] at h) <;> (try simp only [hc])
 | ((with_reducible first | refine leafR hQ ?_ | refine leafN hQ ?_); (try cases h); simp only [resL, oneD, Option.some.injEq, exists_eq_left', go_sem, hlt, hget, hpu, hinc, Int.reduceLE, ↓reduceIte, reduceCtorEq, Nat.reduceEqDiff, Nat.reduceLeDiff, Nat.reduceAdd, Nat.reduceMul, Nat.reduceSub, Nat.reduceLT]; repeat' (first | exact Ok.out | with_reducible refine And.intro ?_ ?_ | (simp; done)))
 | (cases h; replace h := hr; clear hr; (try simp only [bs, ↓reduceIte] at h))
 | (cases h; done))
  have hl5 : args.length = args'.length := by
    have : ((args.length : Int) != (args'.length : Int)) = false := by assumption
    simp only [bne_eq_false_iff_eq] at this
    omega
  refine SemL.re _ _ 2 0 (by rw [hB]; exact Nat.le_of_ble_eq_true rfl) (by rw [hB]; exact Nat.le_of_ble_eq_true rfl) ?_ ?_ (SemL.ind (ι := List Ar × List Ar × Nat) (fun i => args.drop i.2.2 = i.1 ∧ args'.drop i.2.2 = i.2.1 ∧ (if !(Ar.beqs i.1 i.2.1) then false else if Sm.beqL thn thn' then Sm.beqL els els' else false) = p) (fun i => i.1.length)
    (fun i => [(2, .ptr 0 0), (3, .ptr 1 0), (66, .int .i64 (args.length : Int)), (67, .int .i64 (i.2.2 : Int))]) (fun i => ⟨[encSm ⟨id, kind, labels, name, proc, x, has, args, thn, els⟩, encSm ⟨id', kind', labels', name', proc', x', has', args', thn', els'⟩], []⟩) ?_ (args, args', 0) ⟨rfl, rfl, h⟩)
  · (simp only [go_sem, hlt, hget, hpu, hinc, Int.reduceLE, ↓reduceIte, reduceCtorEq, Nat.reduceEqDiff, Nat.reduceLeDiff, Nat.reduceAdd, Nat.reduceMul, Nat.reduceSub, Nat.reduceLT]; repeat' (first | exact Ok.out | with_reducible refine And.intro ?_ ?_))
  · (simp only [go_sem, hlt, hget, hpu, hinc, Int.reduceLE, ↓reduceIte, reduceCtorEq, Nat.reduceEqDiff, Nat.reduceLeDiff, Nat.reduceAdd, Nat.reduceMul, Nat.reduceSub, Nat.reduceLT]; repeat' (first | exact Ok.out | with_reducible refine And.intro ?_ ?_))
  rintro ⟨r1, r2, k⟩ ⟨j1, j2, h⟩ IH
  dsimp only at j1 j2 h
  cases r1 with
  | nil =>
    have hlt := drop_nil j1
    simp only [Ar.beqs, Bool.not_true, Bool.false_eq_true, ↓reduceIte] at h
    repeat' (first
 | simp only [go_sem, hlt, hget, hpu, hinc, Int.reduceLE, ↓reduceIte, reduceCtorEq, Nat.reduceEqDiff, Nat.reduceLeDiff, Nat.reduceAdd, Nat.reduceMul, Nat.reduceSub, Nat.reduceLT]
 | (with_reducible refine CU (h1 _) ?_)
 | (with_reducible refine CU (h2 _) ?_)
 | (with_reducible first | refine CB_ofT (by assumption) fun hc => ?_ | refine CB_ofF (by assumption) fun hc => ?_ | refine CB_split (fun hc => ?_) fun hc => ?_) <;> (try simp only [hc, bs, ↓reduceIte] at h) <;> (try simp only [hc])
 | ((with_reducible first | refine leafR hQ ?_ | refine leafN hQ ?_); (try cases h); simp only [resL, oneD, Option.some.injEq, exists_eq_left', go_sem, hlt, hget, hpu, hinc, Int.reduceLE, ↓reduceIte, reduceCtorEq, Nat.reduceEqDiff, Nat.reduceLeDiff, Nat.reduceAdd, Nat.reduceMul, Nat.reduceSub, Nat.reduceLT]; repeat' (first | exact Ok.out | with_reducible refine And.intro ?_ ?_ | (simp; done)))
 | (cases h; replace h := hr; clear hr; (try simp only [bs, ↓reduceIte] at h))
 | (cases h; done))
  | cons a r1 =>
    obtain ⟨hget, g2, hlt, g4⟩ := drop_cons j1
    cases r2 with
    | nil => have := List.drop_eq_nil_iff.1 j2; omega
    | cons b r2 =>
      obtain ⟨hgb, b2, _, _⟩ := drop_cons j2
      have hk2 : k < 4611686018427387904 := by omega
      have hax : a.x.size < 4611686018427387904 := by have := Ar.sizes_mem (List.mem_of_getElem? hget); omega
      have hab := fun s => EqExpr_s (x := a.x) (y := b.x) hax s
      simp only [Ar.beqs] at h
      repeat' (first
 | simp only [go_sem, hlt, hget, hpu, hinc, Int.reduceLE, ↓reduceIte, reduceCtorEq, Nat.reduceEqDiff, Nat.reduceLeDiff, Nat.reduceAdd, Nat.reduceMul, Nat.reduceSub, Nat.reduceLT, hgb]
 | (with_reducible refine CU (hab _) ?_)
 | (with_reducible first | refine CB_ofT (by assumption) fun hc => ?_ | refine CB_ofF (by assumption) fun hc => ?_ | refine CB_split (fun hc => ?_) fun hc => ?_) <;> (try simp only [hc, bs, ↓reduceIte] at h) <;> (try simp only [hc])
 | ((with_reducible first | refine leafR hQ ?_ | refine leafN hQ ?_); (try cases h); simp only [resL, oneD, Option.some.injEq, exists_eq_left', go_sem, hlt, hget, hpu, hinc, Int.reduceLE, ↓reduceIte, reduceCtorEq, Nat.reduceEqDiff, Nat.reduceLeDiff, Nat.reduceAdd, Nat.reduceMul, Nat.reduceSub, Nat.reduceLT, hgb]; repeat' (first | exact Ok.out | with_reducible refine And.intro ?_ ?_ | (simp; done)))
 | (cases h; replace h := hr; clear hr; (try simp only [bs, ↓reduceIte] at h))
 | (cases h; done))
      refine SemL.re _ _ 2 0 (by rw [hB]; exact Nat.le_of_ble_eq_true rfl) (by rw [hB]; exact Nat.le_of_ble_eq_true rfl) ?_ ?_ (IH (r1, r2, k + 1) ⟨g2, b2, h⟩ (Nat.lt_succ_self _))
      · (simp only [go_sem, hlt, hget, hpu, hinc, Int.reduceLE, ↓reduceIte, reduceCtorEq, Nat.reduceEqDiff, Nat.reduceLeDiff, Nat.reduceAdd, Nat.reduceMul, Nat.reduceSub, Nat.reduceLT, wrap_inc hk2]; repeat' (first | exact Ok.out | with_reducible refine And.intro ?_ ?_))
      · (simp only [go_sem, hlt, hget, hpu, hinc, Int.reduceLE, ↓reduceIte, reduceCtorEq, Nat.reduceEqDiff, Nat.reduceLeDiff, Nat.reduceAdd, Nat.reduceMul, Nat.reduceSub, Nat.reduceLT, wrap_inc hk2]; repeat' (first | exact Ok.out | with_reducible refine And.intro ?_ ?_))

theorem eq_all : ∀ N, N < 4611686018427387904 → C_eqOne N ∧ C_eqL N := by
  intro N
  induction N with
  | zero => exact fun _ => ⟨fun s t h => absurd h (Nat.not_lt_zero _), fun l l' h => absurd h (Nat.not_lt_zero _)⟩
  | succ N ih =>
    intro h
    have := ih (by omega)
    exact ⟨eqOne_step (by omega) this.2, eqL_step (by omega) this.1⟩

theorem EqStmts_s {l l' : List Sm} (h : Sm.sizes l < 4611686018427387000) (st : St) : Fun Try.prog n_ref3_EqStmts [.slice .shared 13 (l.map encSm), .slice .shared 13 (l'.map encSm)] st (.bool (Sm.beqL l l')) st :=
  (eq_all (Sm.sizes l + 1) (by omega)).2 l l' (Nat.lt_succ_self _) st

end Go.Abs
