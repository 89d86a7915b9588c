/- Texts put together: Da5, Za, Tg, Dd, Zz, Zc, Zb, Zd, Ze, Zf, Zg, Zh, Zi, Zj, Zk, Ed, Fz, Ee, Ef, Eg, Eh, Ei, Ej, Ek, El, Em, En, Eo, Er, Et, Eu, Ev. -/
import Derived.Test.YtalaebjjleddaaaGreatFlt7
import Derived.Test.YtalaebjjleddaaaGreatFlt11
import Derived.Test.YtalaebjjleddaaaGreatFlt9
import Derived.Test.YtalaebjjleddaaaGreatFlt6
import Derived.Test.YtalaebjjleddaaaGreatFlt10
import Derived.Test.YtalaebjjleddaaaGreatFlt8
set_option linter.unusedVariables false
set_option linter.unusedSimpArgs false
namespace Go.Proofs
open Go Go.Abs
def c121:RC :=
 (.seq (.ops [(oP 1 (.box 46 (.t 0))),(oH 2 0)])
 (.seq (.seq (.ops [(oC 9 0 1),(oA 10 9),(oK 11 10),(oJ 12 .lss 11 1),(mV 13 12),(oF 14 13 false 0 1),(oD 15 13 false 14),(oG 16 13 false (.lenL (.t 15))),(oG 17 13 false (.bin .gtr (.t 16) (.c (.int .i64 32768)))),(oM 18 13 17),(mV 19 18),(oF 20 19 false 1 1),(oD 21 19 false 20),(oG 22 19 false (.lenL (.t 21))),(oG 23 19 false (.bin .gtr (.t 22) (.c (.int .i64 40000)))),(oM 24 19 23)])
 (.cond (.t 24)
 (.seq (.ops [(oH 2 2)])
 .ret)
 .skip))
 (.seq (.seq (.ops [(oC 25 0 1),(oA 26 25),(oK 27 26),(oH 28 0)])
 (.block 0
 (.loop
 (.seq (.ops [(oI 29 .lss 28 27)])
 (.seq (.cond (.t 29)
 .skip
 (.exit 0))
 (.seq (.block 1
 (.seq (.ops [(oS 30 1 26 28),(oA 31 30),(mV 4 31)])
 (.seq (.ops [(mV 32 4),(oP 33 (.lenS (.t 32))),(oJ 34 .neq 33 64)])
 (.cond (.t 34)
 (.seq (.ops [(oH 2 2)])
 .ret)
 .skip))))
 (.ops [(oJ 35 .add 28 1),(mV 28 35)])))))))
 (.cut (.seq (.seq (.ops [(oC 36 1 1),(oA 37 36),(oK 38 37),(oH 39 0)])
 (.block 2
 (.loop
 (.seq (.ops [(oI 40 .lss 39 38)])
 (.seq (.cond (.t 40)
 .skip
 (.exit 2))
 (.seq (.block 3
 (.seq (.ops [(oS 41 2 37 39),(oB 42 2 41),(oP 6 (.alloc 52 [(.int .i64 0),(.str [])])),(oT 2 6 42)])
 (.seq (.ops [(oB 43 3 1),(oC 44 0 6),(oA 45 44),(oW 46 131 43 45),(oP 47 (.un .not (.t 46))),(mV 48 47),(oF 49 48 false 1 6),(oD 50 48 false 49),(oG 51 48 false (.lenS (.t 50))),(oG 52 48 false (.bin .neq (.t 51) (.c (.int .i64 64)))),(oM 53 48 52)])
 (.cond (.t 53)
 (.seq (.ops [(oH 2 2)])
 .ret)
 .skip))))
 (.ops [(oJ 54 .add 39 1),(mV 39 54)])))))))
 (.cut (.seq (.seq (.ops [(oC 55 2 1),(oA 56 55),(oK 57 56),(oH 58 0)])
 (.block 4
 (.loop
 (.seq (.ops [(oI 59 .lss 58 57)])
 (.seq (.cond (.t 59)
 .skip
 (.exit 4))
 (.seq (.block 5
 (.seq (.ops [(mV 60 58),(oS 61 1 56 58),(oA 62 61),(mV 7 60),(mV 8 62)])
 (.seq (.ops [(oB 63 3 1),(mV 64 8),(oW 65 131 63 64),(oP 66 (.un .not (.t 65))),(mV 67 66),(oE 68 67 false 7),(oG 69 67 false (.bin .gtr (.t 68) (.c (.int .i64 0)))),(oE 70 67 false 69),(oE 71 70 true 8),(oF 72 70 true 2 1),(oD 73 70 true 72),(oE 74 70 true 7),(oG 75 70 true (.bin .sub (.t 74) (.c (.int .i64 1)))),(oG 76 70 true (.indexAddrL 1 (.t 73) (.t 75))),(oD 77 70 true 76),(oG 78 70 true (.bin .leq (.t 71) (.t 77))),(oG 79 67 false (.pick (.t 70) (.t 78) (.c (.bool false)))),(oM 80 67 79)])
 (.cond (.t 80)
 (.seq (.ops [(oH 2 2)])
 .ret)
 .skip))))
 (.ops [(oJ 81 .add 58 1),(mV 58 81)])))))))
 (.cut (.seq (.ops [(oH 2 0)])
 .ret)))))))))
theorem F121:FI 121 1 82 7 [.tmp 2] c121:=mkF Tryz.f121 Tryz.func121
def c131:RC :=
 (.seq (.ops [(oP 2 (.box 46 (.t 0))),(oP 4 (.mv (.c (.bool false))))])
 (.seq (.ops [(mV 5 1),(oJ 6 .geq 5 0),(mV 7 6),(oE 8 7 true 1),(oF 9 7 true 0 2),(oD 10 7 true 9),(oG 11 7 true (.lenL (.t 10))),(oG 12 7 true (.bin .lss (.t 8) (.t 11))),(oN 13 7 12),(mV 4 13)])
 .ret))
theorem F131:FI 131 2 14 4 [.tmp 4] c131:=mkF Tryz.f131 Tryz.func131
def c87:RC :=
 (.seq (.ops [(mV 4 0),(oK 5 4),(oH 6 0)])
 (.block 0
 (.loop
 (.seq (.ops [(oI 7 .lss 6 5)])
 (.seq (.cond (.t 7)
 .skip
 (.exit 0))
 (.seq (.block 1
 (.seq (.ops [(oS 8 3 4 6),(oB 9 3 8),(oP 3 (.alloc 46 [(.lst 0 [] true),(.lst 0 [] true),(.lst 0 [] true)])),(oT 3 3 9)])
 (.ops [(oB 10 3 3),(oV 11 121 10),(oJ 12 .eql 11 0),(oP 13 (.callF 130 [(.t 12),(.c (.int .i64 2))]))])))
 (.ops [(oJ 14 .add 6 1),(mV 6 14)])))))))
theorem F87:FI 87 1 15 5 [] c87:=mkF Tryz.f87 Tryz.func87
def c130:RC :=
 (.seq (.ops [(mV 4 0),(oP 5 (.un .not (.t 4)))])
 (.cond (.t 5)
 (.ops [(mV 6 1),(oP 7 (.build [(.int .i64 0)] [(0,1,(.t 6))])),(oP 8 (.mkIfc 231 (.t 7))),
 ⟨none,none,.pan (.t 8)⟩])
 .skip))
theorem F130:FI 130 2 9 4 [] c130:=mkF Tryz.f130 Tryz.func130
def c86:RC :=
 (.seq (.ops [(oP 5 (.raw { dst:=(some 5),op:=(.call { callee:=.builtin .recover,args:=#[],argTypes:=#[] }),type:=20,pos := "disk.go:25",after:=#[],guard:=none }))])
 (.block 0
 (.seq (.ops [(oP 7 (.isNilI false (.t 5)))])
 (.cond (.t 7)
 (.ops [(mV 2 5)])
 (.seq (.ops [(oP 8 (.asrt 231 true true (.t 5))),(oQ 9 8 1),(oQ 10 8 0)])
 (.cond (.t 9)
 (.seq (.ops [(oP 3 (.alloc 231 [(.int .i64 0)])),(oT 1 3 10)])
 (.ops [(mV 11 0),(oC 12 0 3),(oA 13 12),(oR 14 11),(oT 1 14 13)]))
 (.seq (.ops [(mV 4 5)])
 (.ops [(mV 6 4),
 ⟨none,none,.pan (.t 6)⟩]))))))))
def c161:RC :=
 (.seq (.ops [(oP 3 (.box 46 (.t 0))),(oP 6 (.mv (.c (.str [])))),(oP 7 (.alloc 29 [(.int .i64 0)]))])
 (.seq (.ops [⟨none,none,.dfr { callee:=.value (.func 86),args:=#[(.tmp 7)],argTypes:=#[172] }⟩])
 (.seq (.ops [(oB 16 3 3),(oP 17 (.mkLst 3 true 1 [(.lst 0 [] true),(.lst 0 [] true),(.lst 0 [] true)] [(0,3,(.t 16))])),(oV 18 87 17)])
 (.seq (.ops [(mV 19 1),(oJ 20 .geq 19 0),(mV 21 20),(oE 22 21 true 2),(oG 23 21 true (.bin .geq (.t 22) (.c (.int .i64 1)))),(oN 24 21 23),(mV 25 24),(oE 26 25 true 1),(oF 27 25 true 0 3),(oD 28 25 true 27),(oG 29 25 true (.lenL (.t 28))),(oG 30 25 true (.bin .lss (.t 26) (.t 29))),(oN 31 25 30),(mV 32 31),(oE 33 32 true 2),(oF 34 32 true 0 3),(oD 35 32 true 34),(oG 36 32 true (.lenL (.t 35))),(oE 37 32 true 1),(oG 38 32 true (.bin .sub (.t 36) (.t 37))),(oG 39 32 true (.bin .leq (.t 33) (.t 38))),(oN 40 32 39),(oP 41 (.callF 130 [(.t 40),(.c (.int .i64 1))]))])
 (.seq (.ops [(oC 42 0 3),(oA 43 42),(mV 44 1),(mV 45 1),(mV 46 2),(oI 47 .add 45 46),(oP 48 (.sliceL 1 (.t 43) (some (.t 44)) (some (.t 47)) none)),(oV 49 126 48),(mV 8 49)])
 (.seq (.ops [(mV 50 2),(oP 51 (.mkSl 4 1 [(.bool false)] (.t 50) (.t 50))),(mV 9 51)])
 (.seq (.seq (.ops [(oC 52 1 3),(oA 53 52),(oK 54 53),(oH 55 0)])
 (.block 0
 (.loop
 (.seq (.ops [(oI 56 .lss 55 54)])
 (.seq (.cond (.t 56)
 .skip
 (.exit 0))
 (.seq (.block 1
 (.seq (.ops [(oS 57 2 53 55),(oB 58 2 57),(oP 11 (.alloc 52 [(.int .i64 0),(.str [])])),(oT 2 11 58)])
 (.seq (.ops [(oC 59 0 11),(oA 60 59),(mV 61 1),(oI 62 .sub 60 61),(mV 12 62)])
 (.seq (.ops [(mV 63 12),(oJ 64 .geq 63 0),(mV 65 64),(oE 66 65 true 12),(oE 67 65 true 2),(oG 68 65 true (.bin .lss (.t 66) (.t 67))),(oN 69 65 68)])
 (.cond (.t 69)
 (.seq (.ops [(mV 70 8),(mV 71 12),(oC 72 1 11),(oA 73 72),(oS 74 1 70 71),(oT 1 74 73)])
 (.ops [(mV 75 9),(mV 76 12),(oS 77 1 75 76),(oU (.store 1 (.t 77) (.c (.bool true))))]))
 .skip)))))
 (.ops [(oJ 78 .add 55 1),(mV 55 78)])))))))
 (.cut (.seq (.seq (.ops [(oC 79 2 3),(oA 80 79),(oK 81 80),(oH 82 0)])
 (.block 2
 (.loop
 (.seq (.ops [(oI 83 .lss 82 81)])
 (.seq (.cond (.t 83)
 .skip
 (.exit 2))
 (.seq (.block 3
 (.seq (.ops [(oS 84 1 80 82),(oA 85 84),(mV 14 85)])
 (.seq (.ops [(mV 86 14),(mV 87 1),(oI 88 .sub 86 87),(mV 15 88)])
 (.ops [(mV 89 15),(oJ 90 .lss 89 0),(mV 91 90),(oE 92 91 false 15),(oE 93 91 false 2),(oG 94 91 false (.bin .geq (.t 92) (.t 93))),(oM 95 91 94),(mV 96 95),(oE 97 96 false 9),(oE 98 96 false 15),(oG 99 96 false (.indexAddrL 1 (.t 97) (.t 98))),(oD 100 96 false 99),(oM 101 96 100),(oP 102 (.callF 130 [(.t 101),(.c (.int .i64 8))]))]))))
 (.ops [(oJ 103 .add 82 1),(mV 82 103)])))))))
 (.cut (.seq (.ops [(mV 104 8),(oP 105 (.callF 204 [(.t 104),(.c (.str []))])),(mV 6 105),(oU (.store 1 (.t 7) (.c (.int .i64 0))))])
 .ret)))))))))))
theorem F161:FI 161 3 106 7 [.tmp 6,.cell 7 29] c161:=mkF Tryz.f161 Tryz.func161
def c204:RC :=
 (.seq (.ops [(oP 4 (.mv (.c (.str []))))])
 (.seq (.seq (.ops [(mV 11 0),(oK 12 11)])
 (.block 0
 (.seq (.ops [(oJ 14 .eql 12 0),(mV 13 14)])
 (.cond (.t 13)
 (.seq (.ops [(oP 4 (.mv (.c (.str []))))])
 .ret)
 (.seq (.ops [(oJ 16 .eql 12 1),(mV 15 16)])
 (.cond (.t 15)
 (.seq (.ops [(mV 17 0),(oP 18 (.indexAddrL 1 (.t 17) (.c (.int .i64 0)))),(oA 19 18),(mV 4 19)])
 .ret)
 .skip))))))
 (.seq (.ops [(oH 5 0)])
 (.seq (.seq (.ops [(mV 20 1),(oP 21 (.lenS (.t 20))),(oJ 22 .gtr 21 0)])
 (.cond (.t 22)
 (.seq (.seq (.ops [(mV 23 1),(oP 24 (.lenS (.t 23))),(mV 25 0),(oK 26 25),(oJ 27 .sub 26 1),(oP 28 (.bin .quo (.c (.int .i64 9223372036854775807)) (.t 27))),(oI 29 .geq 24 28)])
 (.cond (.t 29)
 (.ops [(oP 30 (.mkIfc 9 (.c (.str [115,116,114,105,110,103,115,58,32,74,111,105,110,32,111,117,116,112,117,116,32,108,101,110,103,116,104,32,111,118,101,114,102,108,111,119])))),
 ⟨none,none,.pan (.t 30)⟩])
 .skip))
 (.ops [(mV 31 5),(mV 32 1),(oP 33 (.lenS (.t 32))),(mV 34 0),(oK 35 34),(oJ 36 .sub 35 1),(oI 37 .mul 33 36),(oI 38 .add 31 37),(mV 5 38)]))
 .skip))
 (.seq (.seq (.ops [(mV 39 0),(oK 40 39),(oH 41 0)])
 (.block 1
 (.loop
 (.seq (.ops [(oI 42 .lss 41 40)])
 (.seq (.cond (.t 42)
 .skip
 (.exit 1))
 (.seq (.block 2
 (.seq (.ops [(oS 43 1 39 41),(oA 44 43),(mV 7 44)])
 (.seq (.seq (.ops [(mV 45 7),(oP 46 (.lenS (.t 45))),(mV 47 5),(oP 48 (.bin .sub (.c (.int .i64 9223372036854775807)) (.t 47))),(oI 49 .gtr 46 48)])
 (.cond (.t 49)
 (.ops [(oP 50 (.mkIfc 9 (.c (.str [115,116,114,105,110,103,115,58,32,74,111,105,110,32,111,117,116,112,117,116,32,108,101,110,103,116,104,32,111,118,101,114,102,108,111,119])))),
 ⟨none,none,.pan (.t 50)⟩])
 .skip))
 (.ops [(mV 51 5),(mV 52 7),(oP 53 (.lenS (.t 52))),(oI 54 .add 51 53),(mV 5 54)]))))
 (.ops [(oJ 55 .add 41 1),(mV 41 55)])))))))
 (.cut (.seq (.ops [(oP 8 (.alloc 246 [.nilp,(.lst 0 [] true)]))])
 (.seq (.ops [(mV 56 5),(oW 57 217 8 56)])
 (.seq (.ops [(mV 58 0),(oP 59 (.indexAddrL 1 (.t 58) (.c (.int .i64 0)))),(oA 60 59),(oW 61 176 8 60)])
 (.seq (.seq (.ops [(mV 62 0),(oP 63 (.sliceL 1 (.t 62) (some (.c (.int .i64 1))) none none)),(oK 64 63),(oH 65 0)])
 (.block 3
 (.loop
 (.seq (.ops [(oI 66 .lss 65 64)])
 (.seq (.cond (.t 66)
 .skip
 (.exit 3))
 (.seq (.block 4
 (.seq (.ops [(oS 67 1 63 65),(oA 68 67),(mV 10 68)])
 (.seq (.ops [(mV 69 1),(oW 70 176 8 69)])
 (.ops [(mV 71 10),(oW 72 176 8 71)]))))
 (.ops [(oJ 73 .add 65 1),(mV 65 73)])))))))
 (.cut (.seq (.ops [(oV 74 180 8),(mV 4 74)])
 .ret))))))))))))
theorem F204:FI 204 2 75 7 [.tmp 4] c204:=mkF Tryz.f204 Tryz.func204
def c126:RC :=
 (.seq (.ops [(oP 2 (.mv (.c (.lst 0 [] true))))])
 (.seq (.seq (.ops [(mV 3 0),
 ⟨some 4,none,.op (.raw { dst:=(some 4),op:=(.binOp .eql 42 (.tmp 3) (.const (.slice none 0 0)) 42),type:=4,pos := "slices.go:357",after:=#[⟨0,.data⟩],guard:=none })⟩])
 (.cond (.t 4)
 (.seq (.ops [(oP 2 (.mv (.c (.lst 0 [] true))))])
 .ret)
 .skip))
 (.seq (.ops [(oP 5 (.mkLst 1 false 0 [(.str [])] [])),(mV 6 0),(oP 7 (.app 9 1 (.t 5) (.t 6))),(mV 2 7)])
 .ret)))
theorem F126:FI 126 1 8 4 [.tmp 2] c126:=mkF Tryz.f126 Tryz.func126
def c74:RC :=
 (.seq (.ops [(oP 1 (.box 46 (.t 0))),(oP 2 (.mv (.c (.bool false))))])
 (.seq (.ops [(oC 7 0 1),(oA 8 7),(oK 9 8),(mV 3 9)])
 (.seq (.seq (.ops [(mV 10 3),(oJ 11 .lss 10 1),(mV 12 11),(oE 13 12 false 3),(oG 14 12 false (.bin .gtr (.t 13) (.c (.int .i64 32768)))),(oM 15 12 14),(mV 16 15),(oF 17 16 false 1 1),(oD 18 16 false 17),(oG 19 16 false (.lenL (.t 18))),(oG 20 16 false (.bin .gtr (.t 19) (.c (.int .i64 40000)))),(oM 21 16 20)])
 (.cond (.t 21)
 (.seq (.ops [(oP 2 (.mv (.c (.bool false))))])
 .ret)
 .skip))
 (.seq (.seq (.ops [(oH 4 0)])
 (.block 0
 (.loop
 (.seq (.seq (.ops [(mV 22 4),(mV 23 3),(oI 24 .lss 22 23)])
 (.cond (.t 24)
 .skip
 (.exit 0)))
 (.seq (.block 1
 (.seq (.ops [(oC 27 0 1),(oA 28 27),(mV 29 4),(oS 30 1 28 29),(oA 31 30),(oP 32 (.lenS (.t 31))),(oJ 33 .neq 32 64)])
 (.cond (.t 33)
 (.seq (.ops [(oP 2 (.mv (.c (.bool false))))])
 .ret)
 .skip)))
 (.ops [(mV 25 4),(oJ 26 .add 25 1),(mV 4 26)]))))))
 (.cut (.seq (.seq (.ops [(oH 5 0)])
 (.block 2
 (.loop
 (.seq (.seq (.ops [(mV 34 5),(oC 35 1 1),(oA 36 35),(oK 37 36),(oI 38 .lss 34 37)])
 (.cond (.t 38)
 .skip
 (.exit 2)))
 (.seq (.block 3
 (.seq (.ops [(oC 41 1 1),(oA 42 41),(mV 43 5),(oS 44 2 42 43),(oC 45 0 44),(oA 46 45),(oJ 47 .lss 46 0),(mV 48 47),(oF 49 48 false 1 1),(oD 50 48 false 49),(oE 51 48 false 5),(oG 52 48 false (.indexAddrL 2 (.t 50) (.t 51))),(oF 53 48 false 0 52),(oD 54 48 false 53),(oE 55 48 false 3),(oG 56 48 false (.bin .geq (.t 54) (.t 55))),(oM 57 48 56),(mV 58 57),(oF 59 58 false 1 1),(oD 60 58 false 59),(oE 61 58 false 5),(oG 62 58 false (.indexAddrL 2 (.t 60) (.t 61))),(oF 63 58 false 1 62),(oD 64 58 false 63),(oG 65 58 false (.lenS (.t 64))),(oG 66 58 false (.bin .neq (.t 65) (.c (.int .i64 64)))),(oM 67 58 66)])
 (.cond (.t 67)
 (.seq (.ops [(oP 2 (.mv (.c (.bool false))))])
 .ret)
 .skip)))
 (.ops [(mV 39 5),(oJ 40 .add 39 1),(mV 5 40)]))))))
 (.cut (.seq (.seq (.ops [(oH 6 0)])
 (.block 4
 (.loop
 (.seq (.seq (.ops [(mV 68 6),(oC 69 2 1),(oA 70 69),(oK 71 70),(oI 72 .lss 68 71)])
 (.cond (.t 72)
 .skip
 (.exit 4)))
 (.seq (.block 5
 (.seq (.draw [((oC 75 2 1),0),((oA 76 75),1),((mV 77 6),0),((oS 78 1 76 77),0),((oA 79 78),1),((oJ 80 .lss 79 0),0),((mV 81 80),0),((oF 82 81 false 2 1),0),((oD 83 81 false 82),1),((oE 84 81 false 6),0),((oG 85 81 false (.indexAddrL 1 (.t 83) (.t 84))),0),((oD 86 81 false 85),1),((oE 87 81 false 3),0),((oG 88 81 false (.bin .geq (.t 86) (.t 87))),0),((oM 89 81 88),0),((mV 90 89),0),((oE 91 90 false 6),0),((oG 92 90 false (.bin .gtr (.t 91) (.c (.int .i64 0)))),0),((oE 93 90 false 92),0),((oF 94 93 true 2 1),0),((oD 95 93 true 94),1),((oE 96 93 true 6),0),((oG 97 93 true (.indexAddrL 1 (.t 95) (.t 96))),0),((oD 98 93 true 97),1),((oF 99 93 true 2 1),0),((oD 100 93 true 99),1),((oE 101 93 true 6),0),((oG 102 93 true (.bin .sub (.t 101) (.c (.int .i64 1)))),0),((oG 103 93 true (.indexAddrL 1 (.t 100) (.t 102))),0),((oD 104 93 true 103),1),((oG 105 93 true (.bin .leq (.t 98) (.t 104))),0),((oG 106 90 false (.pick (.t 93) (.t 105) (.c (.bool false)))),0),((oM 107 90 106),0)])
 (.cond (.t 107)
 (.seq (.ops [(oP 2 (.mv (.c (.bool false))))])
 .ret)
 .skip)))
 (.ops [(mV 73 6),(oJ 74 .add 73 1),(mV 6 74)]))))))
 (.cut (.seq (.ops [(oP 2 (.mv (.c (.bool true))))])
 .ret))))))))))
theorem F74:FI 74 1 108 7 [.tmp 2] c74:=mkF Tryz.f74 Tryz.func74
def c102:RC :=
 (.seq (.ops [(oP 3 (.box 46 (.t 0))),(oP 6 (.alloc 187 [(.str []),(.int .i64 0)]))])
 (.seq (.seq (.ops [(oB 10 3 3),(oV 11 74 10),(oP 12 (.un .not (.t 11)))])
 (.cond (.t 12)
 (.seq (.ops [(oP 13 (.build [(.str []),(.int .i64 0)] [(1,1,(.c (.int .i64 2)))])),(oT 2 6 13)])
 .ret)
 .skip))
 (.seq (.seq (.ops [(mV 14 1),(oJ 15 .lss 14 0),(mV 16 15),(oE 17 16 false 2),(oG 18 16 false (.bin .lss (.t 17) (.c (.int .i64 1)))),(oM 19 16 18),(mV 20 19),(oE 21 20 false 2),(oF 22 20 false 0 3),(oD 23 20 false 22),(oG 24 20 false (.lenL (.t 23))),(oG 25 20 false (.bin .gtr (.t 21) (.t 24))),(oM 26 20 25),(mV 27 26),(oE 28 27 false 1),(oF 29 27 false 0 3),(oD 30 27 false 29),(oG 31 27 false (.lenL (.t 30))),(oE 32 27 false 2),(oG 33 27 false (.bin .sub (.t 31) (.t 32))),(oG 34 27 false (.bin .gtr (.t 28) (.t 33))),(oM 35 27 34)])
 (.cond (.t 35)
 (.seq (.ops [(oP 36 (.build [(.str []),(.int .i64 0)] [(1,1,(.c (.int .i64 1)))])),(oT 2 6 36)])
 .ret)
 .skip))
 (.seq (.ops [(oP 7 (.mv (.c (.str []))))])
 (.seq (.seq (.ops [(oH 8 0)])
 (.block 0
 (.loop
 (.seq (.seq (.ops [(mV 37 8),(mV 38 2),(oI 39 .lss 37 38)])
 (.cond (.t 39)
 .skip
 (.exit 0)))
 (.seq (.block 1
 (.seq (.ops [(oB 42 3 3),(mV 43 1),(mV 44 8),(oI 45 .add 43 44),(oW 46 166 42 45),(oP 9 (.alloc 238 [(.str []),(.bool false)])),(oT 2 9 46)])
 (.seq (.seq (.ops [(oC 47 1 9),(oA 48 47),(oP 49 (.un .not (.t 48)))])
 (.cond (.t 49)
 (.seq (.ops [(oP 50 (.build [(.str []),(.int .i64 0)] [(1,1,(.c (.int .i64 8)))])),(oT 2 6 50)])
 .ret)
 .skip))
 (.ops [(mV 51 7),(oC 52 0 9),(oA 53 52),(oI 54 .add 51 53),(mV 7 54)]))))
 (.ops [(mV 40 8),(oJ 41 .add 40 1),(mV 8 41)]))))))
 (.cut (.seq (.ops [(mV 55 7),(oP 56 (.build [(.str []),(.int .i64 0)] [(0,1,(.t 55))])),(oT 2 6 56)])
 .ret)))))))
theorem F102:FI 102 3 57 6 [.cell 6 187] c102:=mkF Tryz.f102 Tryz.func102
def c166:RC :=
 (.seq (.ops [(oP 2 (.box 46 (.t 0))),(oP 4 (.alloc 238 [(.str []),(.bool false)]))])
 (.seq (.seq (.ops [(oC 6 1 2),(oA 7 6),(oK 8 7),(oJ 9 .sub 8 1),(mV 5 9)])
 (.block 0
 (.loop
 (.seq (.seq (.ops [(mV 10 5),(oJ 11 .geq 10 0)])
 (.cond (.t 11)
 .skip
 (.exit 0)))
 (.seq (.block 1
 (.seq (.ops [(oC 14 1 2),(oA 15 14),(mV 16 5),(oS 17 2 15 16),(oC 18 0 17),(oA 19 18),(mV 20 1),(oI 21 .eql 19 20)])
 (.cond (.t 21)
 (.seq (.ops [(oC 22 1 2),(oA 23 22),(mV 24 5),(oS 25 2 23 24),(oC 26 1 25),(oA 27 26),(oP 28 (.build [(.str []),(.bool false)] [(0,1,(.t 27)),(1,1,(.c (.bool true)))])),(oT 2 4 28)])
 .ret)
 .skip)))
 (.ops [(mV 12 5),(oJ 13 .sub 12 1),(mV 5 13)]))))))
 (.cut (.seq (.draw [((oC 29 0 2),0),((oA 30 29),1),((mV 31 1),0),((oS 32 1 30 31),0),((oA 33 32),1),((oC 34 2 2),0),((oA 35 34),1),((mV 36 1),0),((oW 37 208 35 36),4),((oP 38 (.un .not (.t 37))),0),((oP 39 (.build [(.str []),(.bool false)] [(0,1,(.t 33)),(1,1,(.t 38))])),0),((oT 2 4 39),3)])
 .ret))))
theorem F166:FI 166 2 40 6 [.cell 4 238] c166:=mkF Tryz.f166 Tryz.func166
def c208:RC :=
 (.seq (.ops [(oP 4 (.mv (.c (.bool false))))])
 (.seq (.seq (.ops [(oH 5 0)])
 (.block 0
 (.loop
 (.seq (.seq (.ops [(mV 6 5),(mV 7 0),(oK 8 7),(oI 9 .lss 6 8)])
 (.cond (.t 9)
 .skip
 (.exit 0)))
 (.seq (.block 1
 (.seq (.ops [(mV 12 0),(mV 13 5),(oS 14 1 12 13),(oA 15 14),(mV 16 1),(oI 17 .eql 15 16)])
 (.cond (.t 17)
 (.seq (.ops [(oP 4 (.mv (.c (.bool true))))])
 .ret)
 .skip)))
 (.ops [(mV 10 5),(oJ 11 .add 10 1),(mV 5 11)]))))))
 (.cut (.seq (.ops [(oP 4 (.mv (.c (.bool false))))])
 .ret))))
theorem F208:FI 208 2 18 5 [.tmp 4] c208:=mkF Tryz.f208 Tryz.func208
structure Wr where
 sec:Int
 data:Str
def Wr.cells (w:Wr):List AV:=[i64 w.sec,.str w.data]
def Wr.av (w:Wr):AV:=.agg w.cells
structure Dk where
 ssh:Sh
 secs:List Str
 wsh:Sh
 ws:List Wr
 bsh:Sh
 bad:List Int
abbrev z1t (d:Dk):AV:=.lst d.ssh.sz (d.secs.map .str) d.ssh.c
abbrev wsA (d:Dk):AV:=.lst d.wsh.sz (d.ws.map Wr.av) d.wsh.c
abbrev badA (d:Dk):AV:=.lst d.bsh.sz (d.bad.map i64) d.bsh.c
def Dk.cells (d:Dk):List AV:=[z1t d,wsA d,badA d]
def Dk.av (d:Dk):AV:=.agg d.cells
structure Dk.Ok (d:Dk):Prop where
 ss:d.secs≠[] → d.ssh.sz=1
 sw:d.ws≠[] → d.wsh.sz=2
 sb:d.bad≠[] → d.bsh.sz=1
 nb:d.bad.length<KK
abbrev zdi:Nat:=46
abbrev dkC (d:Dk):AB:=.cells 0 (some zdi) d.cells 0
theorem zgt (s:Str):(AV.str s).cells?=some [.str s]:=rfl
theorem zc2 (w:Wr):w.av.cells?=some w.cells:=rfl
theorem zyx (s:Str):(AV.str s).pureB=true:=rfl
theorem z1o (w:Wr):w.av.pureB=true:=rfl
theorem zry (k:Int):(i64 k).pureB=true:=rfl
theorem zb0 (d:Dk):d.av.pureB=true:=by
 show zan d.cells=true
 simp [Dk.cells,zan,AV.pureB,zc6 zyx,zc6 z1o,zc6 zry]
def wrOk (n:Nat) (w:Wr):Bool:=decide (0 ≤ w.sec)&&(decide (w.sec<n)&&decide (w.data.length=64))
def zcg (n:Nat) (l:List Int) (i:Nat):Bool:=decide (0 ≤ l.getD i 0)&&(decide (l.getD i 0<n)&&(decide (i=0)||decide (l.getD (i-1) 0<l.getD i 0)))
def z0w (n:Nat) (l:List Int):Bool:=(List.range l.length).all (zcg n l)
def zap (d:Dk):Bool:=(decide (1 ≤ d.secs.length)&&(decide (d.secs.length ≤ 32768)&&decide (d.ws.length ≤ 40000)))&&(d.secs.all (fun s=>decide (s.length=64))&&(d.ws.all (wrOk d.secs.length)&&z0w d.secs.length d.bad))
theorem rightD_iff {d:Dk}:zap d=true ↔ (1 ≤ d.secs.length ∧ d.secs.length ≤ 32768 ∧ d.ws.length ≤ 40000) ∧ (∀ s∈d.secs,s.length=64) ∧ (∀ w∈d.ws,wrOk d.secs.length w=true) ∧ ∀ i,i<d.bad.length → zcg d.secs.length d.bad i=true:=by
 simp [zap,z0w,and_assoc]
theorem znt {d:Dk}{j:Nat}(hj:j<d.secs.length) (h:d.secs[j].length≠64):zap d=false:=by
 cases e:zap d with
 | false=>rfl
 | true=>exact absurd ((rightD_iff.1 e).2.1 _ (List.getElem_mem hj)) h
theorem zl9 {d:Dk}{j:Nat}(hj:j<d.ws.length) (h:wrOk d.secs.length d.ws[j]=false):zap d=false:=by
 cases e:zap d with
 | false=>rfl
 | true=>rw [(rightD_iff.1 e).2.2.1 _ (List.getElem_mem hj)] at h;cases h
theorem zi2 {d:Dk}{j:Nat}(hj:j<d.bad.length) (h:zcg d.secs.length d.bad j=false):zap d=false:=by
 cases e:zap d with
 | false=>rfl
 | true=>rw [(rightD_iff.1 e).2.2.2 _ hj] at h;cases h
theorem zk6 {d:Dk}(h:¬ (1 ≤ d.secs.length ∧ d.secs.length ≤ 32768 ∧ d.ws.length ≤ 40000)):zap d=false:=by
 cases e:zap d with
 | false=>rfl
 | true=>exact absurd (rightD_iff.1 e).1 h
section
variable {n:Nat}{h:zaa}
theorem zmz (hn:1 ≤ n) (d:Dk) (k:Int):C n 131 [d.av,i64 k] h=some (.ret (.bool (decide (0 ≤ k)&&decide (k<d.secs.length))),h):=by
 obtain ⟨m,rfl⟩:=pre1 n
 refine zak F131 rfl rfl rfl (by simp [zan,zb0,AV.pureB]) ?_
 repeat' (conv=>whnf);first
  | refine brd (fun _=>?_) (fun _=>?_)
  | refine ldI rfl ?_
  | refine retP rfl (zas ?_)
 all_goals simp_all
 all_goals omega
theorem zqr {m:Nat}(d:Dk) (ok:d.Ok) (hl:d.secs.length ≤ 32768) {Q:Ex → LS → Prop}{s:LS}
  (hs:LS.sub ⟨[(1,.ptr 0 0 0),(26,z1t d),(27,i64 d.secs.length),(28,i64 0)],[dkC d],[]⟩ s)
  (hE:(∀ s∈d.secs,s.length=64) → ∀ L,subL [(1,.ptr 0 0 0)] L → Q (.exit 0) ⟨L,[dkC d],[]⟩) (hR:zap d=false → ∀ L,lk L 2=some (i64 2) → Q .ret ⟨L,[dkC d],[]⟩) :
  OkR Tryz.prog (C m) cfg0.inl KK 82 7 (.loop (c121.lp 0)) s Q:=by
 refine za7 (by decide) rfl (α:=Nat) (fun j=>⟨[(1,.ptr 0 0 0),(26,z1t d),(27,i64 d.secs.length),(28,i64 j)],[dkC d],[]⟩) (fun j=>j ≤ d.secs.length ∧ ∀ i (hi:i<d.secs.length),i<j → d.secs[i].length=64) (fun j=>d.secs.length-j) 0 hs ⟨Nat.zero_le _,fun i _ hi=>absurd hi (Nat.not_lt_zero _)⟩ (by simp only [KK];omega) ?_
 rintro j ⟨g1,g2⟩
 conv=>whnf
 refine brd (fun a=>?_) (fun a=>?_)
 ·have hj:j<d.secs.length:=by omega
  conv=>whnf
  refine ixL zgt hj ok.ss ?_
  conv=>whnf
  refine brq (fun q=>?_) (fun q=>?_)
  ·conv=>whnf
   exact hR (znt hj (by omega)) _ rfl
  ·conv=>whnf
   refine zJ j ?_
   refine nxI (j+1) ⟨hj,fun i hi hi2=>?_⟩ (by omega) ⟨⟨rfl,rfl,rfl,rfl⟩,rfl,rfl⟩
   by_cases e:i=j
   ·subst e;omega
   ·exact g2 i hi (by omega)
 ·conv=>whnf
  refine hE (fun s hs=>?_) _ rfl
  obtain ⟨i,hi,rfl⟩:=List.getElem_of_mem hs
  exact g2 i hi (by omega)
theorem zqq {m:Nat}(hm:1 ≤ m) (d:Dk) (ok:d.Ok) (hl:d.ws.length ≤ 40000) {Q:Ex → LS → Prop}{s:LS}
  (hs:LS.sub ⟨[(1,.ptr 0 0 0),(37,wsA d),(38,i64 d.ws.length),(39,i64 0)],[dkC d],[]⟩ s)
  (hE:(∀ w∈d.ws,wrOk d.secs.length w=true) → ∀ L h,h[0]?=some (dkC d) → subL [(1,.ptr 0 0 0)] L → Q (.exit 2) ⟨L,h,[]⟩) (hR:zap d=false → ∀ L h,lk L 2=some (i64 2) → Q .ret ⟨L,h,[]⟩) :
  OkR Tryz.prog (C m) cfg0.inl KK 82 7 (.loop (c121.lp 1)) s Q:=by
 refine za7 (by decide) rfl (α:=Nat × zaa) (fun x=>⟨[(1,.ptr 0 0 0),(37,wsA d),(38,i64 d.ws.length),(39,i64 x.1)],x.2,[]⟩) (fun x=>(x.1 ≤ d.ws.length ∧ x.2[0]?=some (dkC d)) ∧ ∀ i (hi:i<d.ws.length),i<x.1 → wrOk d.secs.length d.ws[i]=true) (fun x=>d.ws.length-x.1) (0,[dkC d]) hs ⟨⟨Nat.zero_le _,rfl⟩,fun i _ hi=>absurd hi (Nat.not_lt_zero _)⟩ (by simp only [KK];omega) ?_
 rintro ⟨j,h⟩ ⟨⟨g1,g3⟩,g2⟩
 simp only at g1 g2 g3
 have hlt:=zac g3
 conv=>whnf
 refine brd (fun a=>?_) (fun a=>?_)
 ·have hj:j<d.ws.length:=by omega
  have k1:∀ x y:AB,((h++[x]).set h.length y)[0]?=some (dkC d):=fun x y=>by rw [List.getElem?_set_ne (by omega),List.getElem?_append_left hlt];exact g3
  conv=>whnf
  refine ixL zc2 hj ok.sw ?_
  conv=>whnf
  refine stJ (zag _ _) ?_
  conv=>whnf
  refine ldI (k1 _ _) ?_
  conv=>whnf
  refine ldI (zae _ _ _) ?_
  conv=>whnf
  refine clI (zmz (by omega) d _) ?_
  conv=>whnf
  refine brn (fun q=>?_) (fun q=>?_)
  ·conv=>whnf
   refine hR (zl9 hj ?_) _ _ rfl
   unfold wrOk
   rw [← Bool.and_assoc,q,Bool.false_and]
  ·conv=>whnf
   refine ldI (zae _ _ _) ?_
   conv=>whnf
   refine brq (fun q2=>?_) (fun q2=>?_)
   ·conv=>whnf
    refine hR (zl9 hj ?_) _ _ rfl
    unfold wrOk
    rw [show decide (d.ws[j].data.length=64)=false by rw [decide_eq_false_iff_not];omega,Bool.and_false,Bool.and_false]
   ·conv=>whnf
    refine zJ j ?_
    refine nxI (j+1,_) ⟨⟨hj,k1 _ _⟩,fun i hi hi2=>?_⟩ (by simp only;omega) ⟨⟨rfl,rfl,rfl,rfl⟩,rfl,rfl⟩
    by_cases e:i=j
    ·subst e
     unfold wrOk
     rw [← Bool.and_assoc,q,show decide (d.ws[i].data.length=64)=true by rw [decide_eq_true_iff];omega]
     rfl
    ·exact g2 i hi (by simp only at hi2;omega)
 ·conv=>whnf
  refine hE (fun w hw=>?_) _ _ g3 rfl
  obtain ⟨i,hi,rfl⟩:=List.getElem_of_mem hw
  exact g2 i hi (by omega)
theorem zfg {l:List Int}{j:Nat}(hj:j<l.length):l.getD j 0=l[j]:=by simp [List.getD_eq_getElem?_getD,hj]
theorem zqp {m:Nat}(hm:1 ≤ m) (d:Dk) (ok:d.Ok) (hl:d.secs.length ≤ 32768) {Q:Ex → LS → Prop}{s:LS}{h:zaa}(h0:h[0]?=some (dkC d))
  (hs:LS.sub ⟨[(1,.ptr 0 0 0),(56,badA d),(57,i64 d.bad.length),(58,i64 0)],h,[]⟩ s)
  (hE:(∀ i,i<d.bad.length → zcg d.secs.length d.bad i=true) → ∀ L,Q (.exit 4) ⟨L,h,[]⟩) (hR:zap d=false → ∀ L,lk L 2=some (i64 2) → Q .ret ⟨L,h,[]⟩) :
  OkR Tryz.prog (C m) cfg0.inl KK 82 7 (.loop (c121.lp 2)) s Q:=by
 have hbad:∀ j,j ≤ d.bad.length → (∀ i,i<d.bad.length → i<j → zcg d.secs.length d.bad i=true) → j ≤ 32768:=fun j hj g=>by
  have inc:∀ i,i<j → (i:Int) ≤ d.bad.getD i 0 ∧ d.bad.getD i 0<d.secs.length:=fun i=>by
   induction i with
   | zero =>
    intro hi
    have:=g 0 (by omega) hi
    simp only [zcg,Bool.and_eq_true,decide_eq_true_eq] at this
    omega
   | succ k ih =>
    intro hi
    have:=g (k+1) (by omega) hi
    simp only [zcg,Bool.and_eq_true,Bool.or_eq_true,decide_eq_true_eq,Nat.add_sub_cancel] at this
    have:=ih (by omega)
    omega
  rcases Nat.eq_zero_or_pos j with e | e
  ·omega
  ·have:=inc (j-1) (by omega);omega
 refine za7 (by decide) rfl (α:=Nat) (fun j=>⟨[(1,.ptr 0 0 0),(56,badA d),(57,i64 d.bad.length),(58,i64 j)],h,[]⟩) (fun j=>j ≤ d.bad.length ∧ ∀ i,i<d.bad.length → i<j → zcg d.secs.length d.bad i=true) (fun j=>d.bad.length-j) 0 hs ⟨Nat.zero_le _,fun i _ hi=>absurd hi (Nat.not_lt_zero _)⟩ (by simpa using ok.nb) ?_
 rintro j ⟨g1,g2⟩
 have hj3:=hbad j g1 g2
 conv=>whnf
 refine brd (fun a=>?_) (fun a=>?_)
 ·have hj:j<d.bad.length:=by omega
  have nxt:zcg d.secs.length d.bad j=true → ∀ i,i<d.bad.length → i<j+1 → zcg d.secs.length d.bad i=true:=fun e i hi hi2=>by
   by_cases c:i=j
   ·subst c;exact e
   ·exact g2 i hi (by omega)
  conv=>whnf
  refine ixL zcv hj ok.sb ?_
  conv=>whnf
  refine ldI h0 ?_
  conv=>whnf
  refine clI (zmz (by omega) d _) ?_
  conv=>whnf
  refine brn (fun q=>?_) (fun q=>?_)
  ·conv=>whnf
   refine hR (zi2 hj ?_) _ rfl
   unfold zcg
   rw [zfg hj,← Bool.and_assoc,q,Bool.false_and]
  ·have q':0 ≤ d.bad[j] ∧ d.bad[j]<d.secs.length:=by simpa using q
   conv=>whnf
   refine brd (fun q2=>?_) (fun q2=>?_)
   ·have hj1:j-1<d.bad.length:=by omega
    have hbj:zcg d.secs.length d.bad j=decide (d.bad[j-1]<d.bad[j]):=by
     unfold zcg
     rw [zfg hj,zfg hj1]
     simp [q'.1,q'.2,show j≠0 by omega]
    conv=>whnf
    refine ldI h0 ?_
    conv=>whnf
    refine zI (z:=((j-1:Nat):Int)) (by rw [zad (by omega) (by omega)];omega) ?_
    conv=>whnf
    refine ixL zcv hj1 ok.sb ?_
    conv=>whnf
    refine brd (fun q3=>?_) (fun q3=>?_)
    ·conv=>whnf
     refine hR (zi2 hj ?_) _ rfl
     rw [hbj,decide_eq_false_iff_not];omega
    ·conv=>whnf
     refine zJ j ?_
     exact nxI (j+1) ⟨hj,nxt (by rw [hbj,decide_eq_true_iff];omega)⟩ (by omega) ⟨⟨rfl,rfl,rfl,rfl⟩,rfl,rfl⟩
   ·conv=>whnf
    refine zJ j ?_
    refine nxI (j+1) ⟨hj,nxt ?_⟩ (by omega) ⟨⟨rfl,rfl,rfl,rfl⟩,rfl,rfl⟩
    unfold zcg
    rw [zfg hj]
    rw [show decide (0 ≤ d.bad[j])=true by simpa using q'.1,show decide (d.bad[j]<d.secs.length)=true by simpa using q'.2,show decide (j=0)=true by rw [decide_eq_true_iff];omega]
    rfl
 ·conv=>whnf
  exact hE (fun i hi=>g2 i hi (by omega)) _
theorem zjz (hn:2 ≤ n) (d:Dk) (ok:d.Ok):C n 121 [d.av] h=some (.ret (i64 (if zap d then 0 else 2)),h):=by
 obtain ⟨m,rfl⟩:=pre1 n
 have e1:(d.secs.map AV.str).length=d.secs.length:=List.length_map ..
 have e2:(d.ws.map Wr.av).length=d.ws.length:=List.length_map ..
 refine zak F121 rfl rfl rfl (by simp [zan,zb0]) ?_
 by_cases hz:1 ≤ d.secs.length ∧ d.secs.length ≤ 32768 ∧ d.ws.length ≤ 40000
 ·conv=>whnf
  refine ldI rfl ?_
  conv=>whnf
  refine brd (fun a=>absurd a (by omega)) (fun _=>?_)
  conv=>whnf
  refine ldI rfl ?_
  conv=>whnf
  refine brd (fun a=>absurd a (by omega)) (fun _=>?_)
  conv=>whnf
  refine ldI rfl ?_
  conv=>whnf
  refine brd (fun a=>absurd a (by omega)) (fun _=>?_)
  conv=>whnf
  refine ldI rfl ?_
  conv=>whnf
  refine zqr d ok hz.2.1 ⟨⟨rfl,rfl,lenI AV.str _,rfl⟩,rfl,rfl⟩ (fun w0 L hL=>?_) (fun e L hk=>by rw [e];exact retK hk rfl)
  conv=>whnf
  refine cutI (by decide) rfl (t:=⟨[(1,.ptr 0 0 0)],[dkC d],[]⟩) ⟨hL,rfl,rfl⟩ ?_
  conv=>whnf
  refine ldI rfl ?_
  conv=>whnf
  refine zqq (by omega) d ok hz.2.2 ⟨⟨rfl,rfl,lenI Wr.av _,rfl⟩,rfl,rfl⟩ (fun w1 L h g0 hL=>?_) (fun e L h hk=>by rw [e];exact retK hk rfl)
  conv=>whnf
  refine cutI (by decide) rfl (t:=⟨[(1,.ptr 0 0 0)],h,[]⟩) ⟨hL,rfl,rfl⟩ ?_
  conv=>whnf
  refine ldI g0 ?_
  conv=>whnf
  refine zqp (by omega) d ok hz.2.1 g0 ⟨⟨rfl,rfl,lenI i64 _,rfl⟩,rfl,rfl⟩ (fun w2 L=>?_) (fun e L hk=>by rw [e];exact retK hk rfl)
  conv=>whnf
  refine cutI (by decide) rfl (t:=⟨[],h,[]⟩) ⟨trivial,rfl,rfl⟩ ?_
  conv=>whnf
  rw [rightD_iff.2 ⟨hz,w0,w1,w2⟩]
  exact retP rfl rfl
 ·rw [zk6 hz]
  repeat' (conv=>whnf);first
   | (exfalso;omega)
   | refine brd (fun _=>?_) (fun _=>?_)
   | refine bre (fun _=>?_) (fun _=>?_)
   | refine brq (fun _=>?_) (fun _=>?_)
   | refine brn (fun _=>?_) (fun _=>?_)
   | refine br (fun _=>?_) (fun _=>?_)
   | refine ldI (by rfl) ?_
   | refine ldI (zae _ _ _) ?_
   | refine ldI (zag _ _) ?_
   | refine stJ (by rfl) ?_
   | refine stJ (zag _ _) ?_
   | refine zI (zad (by omega) (by omega)) ?_
   | refine cutS (by decide) rfl ?_
  all_goals exact retP rfl rfl
end
end Go.Proofs
namespace Go.Proofs
open Go Go.Abs Go.ChangeShapes Go.WideShapes Go.ChangeAt Go.RowKit
theorem ty3:Tryz.prog.underlying 3=some (.int .i64):=by kernel_rfl
theorem ty5:Tryz.prog.underlying 5=some (.int .u8):=by kernel_rfl
theorem ty9:Tryz.prog.underlying 9=some .string:=by kernel_rfl
theorem ty4:Tryz.prog.underlying 4=some .bool:=by kernel_rfl
theorem own:ownKnob Tryz.prog.godebug=none:=by kernel_rfl
theorem laid:laidOutB Tryz.prog=true:=by kernel_rfl
section
variable {H:Type}{enc:TypeId × Value → H}{W:World}{base:Nat}{sp:Nat → Bool}{held:Bool}{fuel:Nat}{cs:List Value}{x:DataW H × List MemPlace}
theorem zgs {i:Nat}{v:Value}(h:(cs.drop i).take 1=[v]):cs[i]?=some v:=by
 have:((cs.drop i).take 1)[0]?=some v:=by rw [h];rfl
 simpa using this
end
theorem tyInts:Tryz.prog.underlying 44=some (.slice 3):=by kernel_rfl
theorem s3:Tryz.prog.cellsOf 3=1:=by kernel_rfl
theorem s4:Tryz.prog.cellsOf 4=1:=by kernel_rfl
theorem s9:Tryz.prog.cellsOf 9=1:=by kernel_rfl
theorem sIs:Tryz.prog.cellsOf 44=1:=by kernel_rfl
theorem zya {S:SM}{m:BM}{sz:Nat}:∀ {l:List Int}{B q:Nat},(∀ i k,l[i]?=some k → S B (q+i*sz)=some (.int .i64 k)) → ER S m sz (l.map i64) B q
 | [],_,_,_=>by unfold ER;trivial
 | k::l,B,q,h=>by
  show ER S m sz (i64 k::l.map i64) B q
  unfold ER
  refine ⟨⟨_,by simpa using h 0 k rfl,by unfold VR;rfl⟩,zya fun i k' he=>?_⟩
  have:=h (i+1) k' (by simpa using he)
  rwa [show q+(i+1)*sz=q+sz+i*sz by rw [Nat.add_mul];omega] at this
section
variable {H:Type}{enc:TypeId × Value → H}{W:World}{base:Nat}{sp:Nat → Bool}{held:Bool}{fuel:Nat}{cs:List Value}{x:DataW H × List MemPlace}
theorem z19 (h:DataW.trod enc Tryz.prog W base sp held fuel 44 cs=some x):∃ (l:List Int) (v:Value),cs=[v] ∧ VR (zes W) noBM (.lst 1 (l.map i64) false) v ∧ l.length<9223372036854775808:=by
 rcases DataW.trod_slice tyInts h with ⟨rfl,_⟩ | ⟨a,len,cap,elems,rest,n,_,rfl,_,hb,hlc,hcm,hel,hi,_,_⟩
 ·exact ⟨[],_,rfl,by unfold VR;exact ⟨none,0,rfl,Nat.le_refl _,(fun h=>by cases h),fun h=>(h rfl).elim⟩,by decide⟩
 ·rw [s3] at hi
  obtain ⟨l,hl,hg⟩:=zmn (p:=fun i (k:Int)=>W.cells? base (a.add (i*1)) 1=some [.int .i64 k]) len fun i hil=>by
   have h1:=hi i hil
   have h2:elems[i]?=some (elems[i]'(by omega)):=List.getElem?_eq_getElem (by omega)
   rw [h2] at h1
   obtain ⟨cs',h3,h4⟩:=Option.bind_eq_some_iff.1 h1
   obtain ⟨k,rfl,_⟩:=zvh ty3 h4
   exact ⟨k,h3⟩
  refine ⟨l,_,rfl,?_,by rw [hl];unfold maxLen at hcm;omega⟩
  unfold VR
  refine ⟨some a,cap,by simp [hl],by simpa [hl] using hlc,(fun h=>by cases h),fun hne=>?_⟩
  have hpos:0<len:=by
   rcases Nat.eq_zero_or_pos len with h | h
   ·subst h
    have:l=[]:=List.length_eq_zero_iff.1 hl
    subst this
    exact (hne rfl).elim
   ·exact h
  have hspot:a.spot=none:=by
   have h1:=hg 0 l[0] (List.getElem?_eq_getElem (by omega))
   obtain ⟨_,h3,h4⟩:=World.cells?_some h1
   have h5:=h4 0 (by decide)
   have:=World.cell?_spot h5
   simpa [Addr.add] using this
  obtain ⟨B,q,spot⟩:=a
  simp only at hspot
  subst hspot
  refine ⟨B,q,rfl,zya fun i k hk=>?_⟩
  have h1:=hg i k hk
  obtain ⟨_,h3,h4⟩:=World.cells?_some h1
  have h6:=h4 0 (by decide)
  have e7:((⟨B,q,none⟩ : Addr).add (i*1)).add 0=⟨B,q+i*1,none⟩:=by
   unfold Addr.add
   by_cases e1:i=0<;>simp [e1]
  rw [e7] at h6
  exact h6
theorem two_of {v0 v1:Value}(hl:cs.length=2) (g0:cs[0]?=some v0) (g1:cs[1]?=some v1):cs=[v0,v1]:=by
 match cs,hl with
 | [a,b],_=>simp at g0 g1;rw [g0,g1]
end
theorem tyWr:∃ fs:Array Field,Tryz.prog.underlying 52=some (.struct fs) ∧ ∃ (f0 f1:Field),fs[0]?=some f0 ∧ fs[1]?=some f1 ∧ f0.type=3 ∧ f1.type=9 ∧ f0.offset=0 ∧ f1.offset=1 :=
 ⟨_,Tryz.underlying52,_,_,rfl,rfl,rfl,rfl,rfl,rfl⟩
theorem z02:∃ fs:Array Field,Tryz.prog.underlying 46=some (.struct fs) ∧ ∃ (f0 f1 f2:Field),fs[0]?=some f0 ∧ fs[1]?=some f1 ∧ fs[2]?=some f2 ∧ f0.type=42 ∧ f1.type=43 ∧ f2.type=44 ∧ f0.offset=0 ∧ f1.offset=1 ∧ f2.offset=2 :=
 ⟨_,Tryz.underlying46,_,_,_,rfl,rfl,rfl,rfl,rfl,rfl,rfl,rfl,rfl⟩
theorem tyStrs:Tryz.prog.underlying 42=some (.slice 9):=by kernel_rfl
theorem tyWrs:Tryz.prog.underlying 43=some (.slice 52):=by kernel_rfl
theorem szWr:Tryz.prog.cellsOf 52=2:=by kernel_rfl
theorem szDisk:Tryz.prog.cellsOf 46=3:=by kernel_rfl
theorem sSs:Tryz.prog.cellsOf 42=1:=by kernel_rfl
theorem sWs:Tryz.prog.cellsOf 43=1:=by kernel_rfl
theorem zx9 {S:SM}{m:BM}{sz:Nat}:∀ {l:List Str}{B q:Nat},(∀ i k,l[i]?=some k → S B (q+i*sz)=some (.string ⟨k.toArray⟩)) → ER S m sz (l.map .str) B q
 | [],_,_,_=>by unfold ER;trivial
 | k::l,B,q,h=>by
  show ER S m sz (.str k::l.map .str) B q
  unfold ER
  refine ⟨⟨_,by simpa using h 0 k rfl,by unfold VR;rfl⟩,zx9 fun i k' he=>?_⟩
  have:=h (i+1) k' (by simpa using he)
  rwa [show q+(i+1)*sz=q+sz+i*sz by rw [Nat.add_mul];omega] at this
section
variable {H:Type}{enc:TypeId × Value → H}{W:World}{base:Nat}{sp:Nat → Bool}{held:Bool}{fuel:Nat}{cs:List Value}{x:DataW H × List MemPlace}
theorem z18 (h:DataW.trod enc Tryz.prog W base sp held fuel 42 cs=some x):∃ (l:List Str) (v:Value),cs=[v] ∧ VR (zes W) noBM (.lst 1 (l.map .str) false) v:=by
 rcases DataW.trod_slice tyStrs h with ⟨rfl,_⟩ | ⟨a,len,cap,elems,rest,n,_,rfl,_,hb,hlc,hcm,hel,hi,_,_⟩
 ·exact ⟨[],_,rfl,by unfold VR;exact ⟨none,0,rfl,Nat.le_refl _,(fun h=>by cases h),fun h=>(h rfl).elim⟩⟩
 ·rw [s9] at hi
  obtain ⟨l,hl,hg⟩:=zmn (p:=fun i (k:Str)=>W.cells? base (a.add (i*1)) 1=some [.string ⟨k.toArray⟩]) len fun i hil=>by
   have h1:=hi i hil
   have h2:elems[i]?=some (elems[i]'(by omega)):=List.getElem?_eq_getElem (by omega)
   rw [h2] at h1
   obtain ⟨cs',h3,h4⟩:=Option.bind_eq_some_iff.1 h1
   obtain ⟨k,rfl⟩:=z04 ty9 h4
   exact ⟨k,h3⟩
  refine ⟨l,_,rfl,?_⟩
  unfold VR
  refine ⟨some a,cap,by simp [hl],by simpa [hl] using hlc,(fun h=>by cases h),fun hne=>?_⟩
  have hpos:0<len:=by
   rcases Nat.eq_zero_or_pos len with h | h
   ·subst h
    have:l=[]:=List.length_eq_zero_iff.1 hl
    subst this
    exact (hne rfl).elim
   ·exact h
  have hspot:a.spot=none:=by
   have h1:=hg 0 l[0] (List.getElem?_eq_getElem (by omega))
   obtain ⟨_,h3,h4⟩:=World.cells?_some h1
   have h5:=h4 0 (by decide)
   have:=World.cell?_spot h5
   simpa [Addr.add] using this
  obtain ⟨B,q,spot⟩:=a
  simp only at hspot
  subst hspot
  refine ⟨B,q,rfl,zx9 fun i k hk=>?_⟩
  have h1:=hg i k hk
  obtain ⟨_,h3,h4⟩:=World.cells?_some h1
  have h6:=h4 0 (by decide)
  have e7:((⟨B,q,none⟩ : Addr).add (i*1)).add 0=⟨B,q+i*1,none⟩:=by
   unfold Addr.add
   by_cases e1:i=0<;>simp [e1]
  rw [e7] at h6
  exact h6
theorem rd_wr (h:DataW.trod enc Tryz.prog W base sp held fuel 52 cs=some x):∃ f:Wr,VRs (zes W) noBM f.cells cs ∧ True:=by
 obtain ⟨fs,hfs,f0,f1,h0,h1,t0,t1,o0,o1⟩:=tyWr
 obtain ⟨xs,n,_,_,hl,hx,hi⟩:=DataW.trod_struct hfs h
 rw [szWr] at hl
 have get:∀ (i:Nat) (f:Field),fs[i]?=some f → ∃ y,DataW.trod enc Tryz.prog W base sp held n f.type ((cs.drop f.offset).take (Tryz.prog.cellsOf f.type))=some y:=fun i f hf=>by
  have h:=hi i f hf
  have:i<fs.size:=(Array.getElem?_eq_some_iff.1 hf).1
  rw [List.getElem?_eq_getElem (by omega)] at h
  exact ⟨_,h⟩
 obtain ⟨_,y0⟩:=get 0 f0 h0
 obtain ⟨_,y1⟩:=get 1 f1 h1
 rw [t0,o0,s3] at y0
 rw [t1,o1,s9] at y1
 obtain ⟨k,e0,_⟩:=zvh ty3 y0
 obtain ⟨s,e1⟩:=z04 ty9 y1
 have hcs:=two_of hl (zgs e0) (zgs e1)
 refine ⟨⟨k,s⟩,?_,trivial⟩
 rw [hcs]
 exact @zki _ _ [_] _ [_] _ (zgn (a:=i64 k) (by unfold VR;rfl)) (zgn (a:=.str s) (by unfold VR;rfl))
theorem zyo {v0 v1 v2:Value}(hl:cs.length=3) (g0:cs[0]?=some v0) (g1:cs[1]?=some v1) (g2:cs[2]?=some v2):cs=[v0,v1,v2]:=by
 match cs,hl with
 | [a,b,c],_=>simp at g0 g1 g2;rw [g0,g1,g2]
theorem z2a (h:DataW.trod enc Tryz.prog W base sp held fuel 46 cs=some x):∃ d:Dk,VRs (zes W) noBM d.cells cs ∧ d.Ok:=by
 obtain ⟨fs,hfs,f0,f1,f2,h0,h1,h2,t0,t1,t2,o0,o1,o2⟩:=z02
 obtain ⟨xs,n,_,_,hl,hx,hi⟩:=DataW.trod_struct hfs h
 rw [szDisk] at hl
 have get:∀ (i:Nat) (f:Field),fs[i]?=some f → ∃ y,DataW.trod enc Tryz.prog W base sp held n f.type ((cs.drop f.offset).take (Tryz.prog.cellsOf f.type))=some y:=fun i f hf=>by
  have h:=hi i f hf
  have:i<fs.size:=(Array.getElem?_eq_some_iff.1 hf).1
  rw [List.getElem?_eq_getElem (by omega)] at h
  exact ⟨_,h⟩
 obtain ⟨_,y0⟩:=get 0 f0 h0
 obtain ⟨_,y1⟩:=get 1 f1 h1
 obtain ⟨_,y2⟩:=get 2 f2 h2
 rw [t0,o0,sSs] at y0
 rw [t1,o1,sWs] at y1
 rw [t2,o2,sIs] at y2
 obtain ⟨ss,v0,e0,g0⟩:=z18 y0
 obtain ⟨ws,v1,e1,g1,_⟩:=zzb (g:=Wr.cells) (ok:=fun _=>True) tyWrs szWr (by decide) (fun fuel cs x h=>rd_wr h) y1
 obtain ⟨bs,v2,e2,g2,l2⟩:=z19 y2
 have hcs:=zyo hl (zgs e0) (zgs e1) (zgs e2)
 refine ⟨⟨⟨1,false⟩,ss,⟨2,false⟩,ws,⟨1,false⟩,bs⟩,?_,fun _=>rfl,fun _=>rfl,fun _=>rfl,by simp only [KK];omega⟩
 rw [hcs]
 exact @zki _ _ [_] _ [_] _ (zgn g0) (@zki _ _ [_] _ [_] _ (zgn g1) (zgn g2))
end
end Go.Proofs
namespace Go.Proofs
open Go Go.Abs
section
variable {n:Nat}{h:zaa}
theorem zno {m:Nat}(d:Dk) (ok:d.Ok) (hl:d.secs.length ≤ 32768) {Q:Ex → LS → Prop}{s:LS}
  (hs:LS.sub ⟨[(1,.ptr 0 0 0),(3,i64 d.secs.length),(4,i64 0)],[dkC d],[]⟩ s)
  (hE:(∀ s∈d.secs,s.length=64) → ∀ L,subL [(1,.ptr 0 0 0),(3,i64 d.secs.length)] L → Q (.exit 0) ⟨L,[dkC d],[]⟩) (hR:zap d=false → ∀ L,lk L 2=some (.bool false) → Q .ret ⟨L,[dkC d],[]⟩) :
  OkR Tryz.prog (C m) cfg0.inl KK 108 7 (.loop (c74.lp 0)) s Q:=by
 refine za7 (by decide) rfl (α:=Nat) (fun j=>⟨[(1,.ptr 0 0 0),(3,i64 d.secs.length),(4,i64 j)],[dkC d],[]⟩) (fun j=>j ≤ d.secs.length ∧ ∀ i (hi:i<d.secs.length),i<j → d.secs[i].length=64) (fun j=>d.secs.length-j) 0 hs ⟨Nat.zero_le _,fun i _ hi=>absurd hi (Nat.not_lt_zero _)⟩ (by simp only [KK];omega) ?_
 rintro j ⟨g1,g2⟩
 conv=>whnf
 refine brd (fun a=>?_) (fun a=>?_)
 ·have hj:j<d.secs.length:=by omega
  conv=>whnf
  refine ldI rfl ?_
  conv=>whnf
  refine ixL zgt hj ok.ss ?_
  conv=>whnf
  refine brq (fun q=>?_) (fun q=>?_)
  ·conv=>whnf
   exact hR (znt hj (by omega)) _ rfl
  ·conv=>whnf
   refine zJ j ?_
   refine nxI (j+1) ⟨hj,fun i hi hi2=>?_⟩ (by omega) ⟨⟨rfl,rfl,rfl⟩,rfl,rfl⟩
   by_cases e:i=j
   ·subst e;omega
   ·exact g2 i hi (by omega)
 ·conv=>whnf
  refine hE (fun s hs=>?_) _ ⟨rfl,rfl⟩
  obtain ⟨i,hi,rfl⟩:=List.getElem_of_mem hs
  exact g2 i hi (by omega)
theorem znn {m:Nat}(d:Dk) (ok:d.Ok) (hl:d.ws.length ≤ 40000) {Q:Ex → LS → Prop}{s:LS}
  (hs:LS.sub ⟨[(1,.ptr 0 0 0),(3,i64 d.secs.length),(5,i64 0)],[dkC d],[]⟩ s)
  (hE:(∀ w∈d.ws,wrOk d.secs.length w=true) → ∀ L,subL [(1,.ptr 0 0 0),(3,i64 d.secs.length)] L → Q (.exit 2) ⟨L,[dkC d],[]⟩) (hR:zap d=false → ∀ L,lk L 2=some (.bool false) → Q .ret ⟨L,[dkC d],[]⟩) :
  OkR Tryz.prog (C m) cfg0.inl KK 108 7 (.loop (c74.lp 1)) s Q:=by
 refine za7 (by decide) rfl (α:=Nat) (fun j=>⟨[(1,.ptr 0 0 0),(3,i64 d.secs.length),(5,i64 j)],[dkC d],[]⟩) (fun j=>j ≤ d.ws.length ∧ ∀ i (hi:i<d.ws.length),i<j → wrOk d.secs.length d.ws[i]=true) (fun j=>d.ws.length-j) 0 hs ⟨Nat.zero_le _,fun i _ hi=>absurd hi (Nat.not_lt_zero _)⟩ (by simp only [KK];omega) ?_
 rintro j ⟨g1,g2⟩
 have e2:(d.ws.map Wr.av).length=d.ws.length:=List.length_map ..
 conv=>whnf
 refine ldI rfl ?_
 conv=>whnf
 refine brd (fun a=>?_) (fun a=>?_)
 ·have hj:j<d.ws.length:=by omega
  have bad:wrOk d.secs.length d.ws[j]=false → ∀ L,lk L 2=some (.bool false) → Q .ret ⟨L,[dkC d],[]⟩:=fun e=>hR (zl9 hj e)
  conv=>whnf
  refine ldI rfl ?_
  conv=>whnf
  refine ixL zc2 hj ok.sw ?_
  conv=>whnf
  refine brd (fun q=>?_) (fun q=>?_)
  ·conv=>whnf
   exact bad (by unfold wrOk;rw [show decide (0 ≤ d.ws[j].sec)=false by rw [decide_eq_false_iff_not];omega,Bool.false_and]) _ rfl
  conv=>whnf
  refine ldI rfl ?_
  conv=>whnf
  refine ixL zc2 hj ok.sw ?_
  conv=>whnf
  refine brd (fun q1=>?_) (fun q1=>?_)
  ·conv=>whnf
   exact bad (by unfold wrOk;rw [show decide (d.ws[j].sec<d.secs.length)=false by rw [decide_eq_false_iff_not];omega,Bool.false_and,Bool.and_false]) _ rfl
  conv=>whnf
  refine ldI rfl ?_
  conv=>whnf
  refine ixL zc2 hj ok.sw ?_
  conv=>whnf
  refine brq (fun q2=>?_) (fun q2=>?_)
  ·conv=>whnf
   exact bad (by unfold wrOk;rw [show decide (d.ws[j].data.length=64)=false by rw [decide_eq_false_iff_not];omega,Bool.and_false,Bool.and_false]) _ rfl
  ·conv=>whnf
   refine zJ j ?_
   refine nxI (j+1) ⟨hj,fun i hi hi2=>?_⟩ (by omega) ⟨⟨rfl,rfl,rfl⟩,rfl,rfl⟩
   by_cases e:i=j
   ·subst e
    unfold wrOk
    simp only [Bool.and_eq_true,decide_eq_true_eq]
    omega
   ·exact g2 i hi (by omega)
 ·conv=>whnf
  refine hE (fun w hw=>?_) _ ⟨rfl,rfl⟩
  obtain ⟨i,hi,rfl⟩:=List.getElem_of_mem hw
  exact g2 i hi (by omega)
theorem zj8 {d:Dk}(hl:d.secs.length ≤ 32768) {j:Nat}(hj:j ≤ d.bad.length) (g:∀ i,i<d.bad.length → i<j → zcg d.secs.length d.bad i=true):j ≤ 32768:=by
 have inc:∀ i,i<j → (i:Int) ≤ d.bad.getD i 0 ∧ d.bad.getD i 0<d.secs.length:=fun i=>by
  induction i with
  | zero =>
   intro hi
   have:=g 0 (by omega) hi
   simp only [zcg,Bool.and_eq_true,decide_eq_true_eq] at this
   omega
  | succ k ih =>
   intro hi
   have:=g (k+1) (by omega) hi
   simp only [zcg,Bool.and_eq_true,Bool.or_eq_true,decide_eq_true_eq,Nat.add_sub_cancel] at this
   have:=ih (by omega)
   omega
 rcases Nat.eq_zero_or_pos j with e | e
 ·omega
 ·have:=inc (j-1) (by omega);omega
end
def curW (ws:List Wr) (s:Str) (x:Int):Str:=ws.foldl (fun a w=>if w.sec=x then w.data else a) s
def frW (ws:List Wr) (x:Int):Bool:=ws.foldl (fun a w=>a||decide (w.sec=x)) false
theorem zhb (ws:List Wr) (w:Wr) (s:Str) (x:Int):curW (ws++[w]) s x=if w.sec=x then w.data else curW ws s x:=by simp [curW,List.foldl_append]
theorem zin (ws:List Wr) (w:Wr) (x:Int):frW (ws++[w]) x=(frW ws x||decide (w.sec=x)):=by simp [frW,List.foldl_append]
theorem zdh {α:Type}{l:List α}{j:Nat}(hj:j<l.length):l.take (j+1)=l.take j++[l[j]]:=List.take_succ_eq_append_getElem hj
def nowL (d:Dk) (k n j:Nat):List Str:=(List.range n).map fun i=>curW (d.ws.take j) (d.secs.getD (k+i) []) ((k+i:Nat):Int)
def frL (d:Dk) (k n j:Nat):List Bool:=(List.range n).map fun i=>frW (d.ws.take j) ((k+i:Nat):Int)
theorem zbj (d:Dk) (k n j:Nat):(nowL d k n j).length=n:=by simp [nowL]
theorem zel (d:Dk) (k n j:Nat):(frL d k n j).length=n:=by simp [frL]
theorem zvy {d:Dk}{k n:Nat}(h:k+n ≤ d.secs.length):nowL d k n 0=(d.secs.take (k+n)).drop k:=by
 apply List.ext_getElem
 ·rw [zbj,List.length_drop,List.length_take];omega
 ·intro i h1 h2
  rw [zbj] at h1
  simp [nowL,curW,List.getD_eq_getElem?_getD,List.getElem?_eq_getElem (show k+i<d.secs.length by omega)]
theorem zz9 {d:Dk}{k n:Nat}:frL d k n 0=List.replicate n false:=by
 apply List.ext_getElem
 ·rw [zel,List.length_replicate]
 ·intro i h1 h2
  simp [frL,frW]
theorem zrm {d:Dk}{k n j i:Nat}(hi:i<(nowL d k n j).length):(nowL d k n j)[i]=curW (d.ws.take j) (d.secs.getD (k+i) []) ((k+i:Nat):Int):=by
 simp [nowL]
theorem zwt {d:Dk}{k n j i:Nat}(hi:i<(frL d k n j).length):(frL d k n j)[i]=frW (d.ws.take j) ((k+i:Nat):Int):=by
 simp [frL]
theorem zzm {d:Dk}{k n j i:Nat}(hj:j<d.ws.length) (e:d.ws[j].sec=((k+i:Nat):Int)):nowL d k n (j+1)=(nowL d k n j).set i d.ws[j].data:=by
 apply List.ext_getElem
 ·rw [List.length_set,zbj,zbj]
 ·intro x h1 h2
  rw [zrm,List.getElem_set,zdh hj,zhb,e]
  by_cases c:i=x
  ·subst c;rw [if_pos rfl,if_pos rfl]
  ·rw [if_neg (by omega),if_neg c,zrm]
theorem zv0 {d:Dk}{k n j:Nat}(hj:j<d.ws.length) (e:∀ i,i<n → d.ws[j].sec≠((k+i:Nat):Int)):nowL d k n (j+1)=nowL d k n j:=by
 apply List.ext_getElem
 ·rw [zbj,zbj]
 ·intro x h1 h2
  rw [zbj] at h1
  rw [zrm,zrm,zdh hj,zhb,if_neg (e x h1)]
theorem z3a {d:Dk}{k n j i:Nat}(hj:j<d.ws.length) (e:d.ws[j].sec=((k+i:Nat):Int)):frL d k n (j+1)=(frL d k n j).set i true:=by
 apply List.ext_getElem
 ·rw [List.length_set,zel,zel]
 ·intro x h1 h2
  rw [zwt,List.getElem_set,zdh hj,zin,e]
  by_cases c:i=x
  ·subst c;rw [if_pos rfl];simp
  ·rw [if_neg c,zwt,decide_eq_false (by omega),Bool.or_false]
theorem z0a {d:Dk}{k n j:Nat}(hj:j<d.ws.length) (e:∀ i,i<n → d.ws[j].sec≠((k+i:Nat):Int)):frL d k n (j+1)=frL d k n j:=by
 apply List.ext_getElem
 ·rw [zel,zel]
 ·intro x h1 h2
  rw [zel] at h1
  rw [zwt,zwt,zdh hj,zin,decide_eq_false (e x h1),Bool.or_false]
def curD (d:Dk) (x:Nat):Str:=curW d.ws (d.secs.getD x []) (x:Int)
def canD (d:Dk) (x:Nat):Bool:=frW d.ws (x:Int)||!(d.bad.contains (x:Int))
def za1 (d:Dk) (k n:Nat):Bool:=(List.range n).all fun i=>canD d (k+i)
def zbt (d:Dk) (k n:Nat):Str:=(List.range n).flatMap fun i=>curD d (k+i)
theorem allCan_iff {d:Dk}{k n:Nat}:za1 d k n=true ↔ ∀ i,i<n → canD d (k+i)=true:=by simp [za1]
theorem zzn (d:Dk) (k n:Nat):nowL d k n d.ws.length=(List.range n).map fun i=>curD d (k+i):=by
 simp only [nowL,curD,List.take_length]
theorem zvz (d:Dk) (k n:Nat):(nowL d k n d.ws.length).flatten=zbt d k n:=by
 rw [zzn,zbt,List.flatMap_def]
theorem z3l {d:Dk}{k n:Nat}(h:∀ j (hj:j<d.bad.length),d.bad[j]<k ∨ (k+n:Nat) ≤ d.bad[j] ∨ frW d.ws d.bad[j]=true):za1 d k n=true:=by
 rw [allCan_iff]
 intro i hi
 unfold canD
 cases c:d.bad.contains ((k+i:Nat):Int) with
 | false=>simp
 | true =>
  have:=List.contains_iff_mem.1 c
  obtain ⟨j,hj,e⟩:=List.getElem_of_mem this
  rcases h j hj with q | q | q
  ·omega
  ·omega
  ·rw [e] at q;rw [q];rfl
theorem z3r {d:Dk}{k n j:Nat}(hj:j<d.bad.length) (h1:((k:Nat):Int) ≤ d.bad[j]) (h2:d.bad[j]<(k+n:Nat)) (h3:frW d.ws d.bad[j]=false):za1 d k n=false:=by
 cases c:za1 d k n with
 | false=>rfl
 | true =>
  rw [allCan_iff] at c
  have:=c (d.bad[j] - k).toNat (by omega)
  unfold canD at this
  rw [show ((k+(d.bad[j] - (k:Int)).toNat:Nat):Int)=d.bad[j] by omega,h3,List.contains_iff_mem.2 (List.getElem_mem hj)] at this
  cases this
theorem zw9 {d:Dk}(hr:zap d=true) {x:Nat}(hx:x<d.secs.length):(curD d x).length=64:=by
 have g:=rightD_iff.1 hr
 have:∀ ws:List Wr,(∀ w∈ws,w.data.length=64) → ∀ s:Str,s.length=64 → (curW ws s x).length=64:=fun ws=>by
  unfold curW
  induction ws with
  | nil=>intro _ s hs;exact hs
  | cons w ws ih =>
   intro hw s hs
   refine ih (fun v hv=>hw v (by simp [hv])) _ ?_
   show (if w.sec=(x:Int) then w.data else s).length=64
   split
   ·exact hw w (by simp)
   ·exact hs
 refine this d.ws (fun w hw=>?_) _ ?_
 ·have:=g.2.2.1 w hw
  unfold wrOk at this
  simp only [Bool.and_eq_true,decide_eq_true_eq] at this
  exact this.2.2
 ·rw [List.getD_eq_getElem?_getD,List.getElem?_eq_getElem hx]
  exact g.2.1 _ (List.getElem_mem hx)
theorem ziv {d:Dk}(hr:zap d=true) {k n:Nat}(h:k+n ≤ d.secs.length):(zbt d k n).length=64*n:=by
 induction n with
 | zero=>rfl
 | succ n ih =>
  unfold zbt at ih ⊢
  rw [List.range_succ,List.flatMap_append,List.length_append,ih (by omega),List.flatMap_singleton,zw9 hr (by omega)]
  omega
theorem zsn (d:Dk) (k n:Nat):zbt d k (n+1)=zbt d k n++curD d (k+n):=by
 unfold zbt
 rw [List.range_succ,List.flatMap_append,List.flatMap_singleton]
theorem z0m {ws:List Wr}{s:Str}{x:Int}{i:Nat}(hi:i<ws.length) (e:ws[i].sec=x) (h:∀ j (hj:j<ws.length),i<j → ws[j].sec≠x):curW ws s x=ws[i].data ∧ frW ws x=true:=by
 have step:∀ m,i<m → m ≤ ws.length → curW (ws.take m) s x=ws[i].data ∧ frW (ws.take m) x=true:=fun m=>by
  induction m with
  | zero=>intro h;omega
  | succ m ih =>
   intro h1 h2
   rw [zdh (show m<ws.length by omega),zhb,zin]
   by_cases c:i=m
   ·subst c;rw [if_pos e,decide_eq_true e];simp
   ·have:=ih (by omega) (by omega)
    rw [if_neg (h m (by omega) (by omega)),this.1,this.2]
    exact ⟨rfl,rfl⟩
 have:=step ws.length hi (Nat.le_refl _)
 rwa [List.take_length] at this
theorem z0l {ws:List Wr}{s:Str}{x:Int}(h:∀ j (hj:j<ws.length),ws[j].sec≠x):curW ws s x=s ∧ frW ws x=false:=by
 have step:∀ m,m ≤ ws.length → curW (ws.take m) s x=s ∧ frW (ws.take m) x=false:=fun m=>by
  induction m with
  | zero=>intro _;exact ⟨rfl,rfl⟩
  | succ m ih =>
   intro h2
   rw [zdh (show m<ws.length by omega),zhb,zin,if_neg (h m (by omega)),decide_eq_false (h m (by omega)),(ih (by omega)).1,(ih (by omega)).2]
   exact ⟨rfl,rfl⟩
 have:=step ws.length (Nat.le_refl _)
 rwa [List.take_length] at this
theorem zfe {α:Type}{l:List α}{j:Nat}(hj:j<l.length):l≠[]:=fun e=>by subst e;simp at hj
theorem zjj {α:Type}(f:α → AV) {l:List α}{j:Nat}(hj:j<l.length):(l.map f)[(j:Int).toNat]?=some (f l[j]):=by simp [hj]
section
variable {n:Nat}{h:zaa}
theorem znm {m:Nat}(d:Dk) (ok:d.Ok) (hl:d.secs.length ≤ 32768) {Q:Ex → LS → Prop}{s:LS}
  (hs:LS.sub ⟨[(1,.ptr 0 0 0),(3,i64 d.secs.length),(6,i64 0)],[dkC d],[]⟩ s)
  (hE:(∀ i,i<d.bad.length → zcg d.secs.length d.bad i=true) → ∀ L,Q (.exit 4) ⟨L,[dkC d],[]⟩) (hR:zap d=false → ∀ L,lk L 2=some (.bool false) → Q .ret ⟨L,[dkC d],[]⟩) :
  OkR Tryz.prog (C m) cfg0.inl KK 108 7 (.loop (c74.lp 2)) s Q:=by
 refine za7 (by decide) rfl (α:=Nat) (fun j=>⟨[(1,.ptr 0 0 0),(3,i64 d.secs.length),(6,i64 j)],[dkC d],[]⟩) (fun j=>j ≤ d.bad.length ∧ ∀ i,i<d.bad.length → i<j → zcg d.secs.length d.bad i=true) (fun j=>d.bad.length-j) 0 hs ⟨Nat.zero_le _,fun i _ hi=>absurd hi (Nat.not_lt_zero _)⟩ (by simpa using ok.nb) ?_
 rintro j ⟨g1,g2⟩
 have hj3:=zj8 hl g1 g2
 have e2:(d.bad.map i64).length=d.bad.length:=List.length_map ..
 conv=>whnf
 refine ldI rfl ?_
 conv=>whnf
 refine brd (fun a=>?_) (fun a=>?_)
 ·have hj:j<d.bad.length:=by omega
  have nxt:zcg d.secs.length d.bad j=true → ∀ i,i<d.bad.length → i<j+1 → zcg d.secs.length d.bad i=true:=fun e i hi hi2=>by
   by_cases c:i=j
   ·subst c;exact e
   ·exact g2 i hi (by omega)
  have bad:zcg d.secs.length d.bad j=false → ∀ L,lk L 2=some (.bool false) → Q .ret ⟨L,[dkC d],[]⟩:=fun e=>hR (zi2 hj e)
  have ej:=zfg hj
  conv=>whnf
  refine ldI rfl ?_
  conv=>whnf
  refine ⟨by omega,ok.sb (zfe hj),i64 d.bad[j],zjj i64 hj,[i64 d.bad[j]],rfl,?_⟩
  conv=>whnf
  refine brd (fun q=>?_) (fun q=>?_)
  ·conv=>whnf
   exact bad (by unfold zcg;rw [ej,show decide (0 ≤ d.bad[j])=false by rw [decide_eq_false_iff_not];omega,Bool.false_and]) _ rfl
  conv=>whnf
  refine ldI rfl ?_
  conv=>whnf
  refine ⟨by omega,ok.sb (zfe hj),i64 d.bad[j],zjj i64 hj,[i64 d.bad[j]],rfl,?_⟩
  conv=>whnf
  refine brd (fun q1=>?_) (fun q1=>?_)
  ·conv=>whnf
   exact bad (by unfold zcg;rw [ej,show decide (d.bad[j]<d.secs.length)=false by rw [decide_eq_false_iff_not];omega,Bool.false_and,Bool.and_false]) _ rfl
  have hbj:zcg d.secs.length d.bad j=(decide (j=0)||decide (d.bad.getD (j-1) 0<d.bad[j])):=by
   unfold zcg
   rw [ej,show decide (0 ≤ d.bad[j])=true by rw [decide_eq_true_iff];omega,show decide (d.bad[j]<d.secs.length)=true by rw [decide_eq_true_iff];omega]
   rfl
  conv=>whnf
  refine brd (fun q2=>?_) (fun q2=>?_)
  ·have hj1:j-1<d.bad.length:=by omega
   rw [zfg hj1,show decide (j=0)=false by rw [decide_eq_false_iff_not];omega,Bool.false_or] at hbj
   conv=>whnf
   refine ldI rfl ?_
   conv=>whnf
   refine ⟨by omega,ok.sb (zfe hj),i64 d.bad[j],zjj i64 hj,[i64 d.bad[j]],rfl,?_⟩
   conv=>whnf
   refine ldI rfl ?_
   conv=>whnf
   refine zI (z:=((j-1:Nat):Int)) (by rw [zad (by omega) (by omega)];omega) ?_
   conv=>whnf
   refine ⟨by omega,ok.sb (zfe hj1),i64 d.bad[j-1],zjj i64 hj1,[i64 d.bad[j-1]],rfl,?_⟩
   conv=>whnf
   refine brd (fun q3=>?_) (fun q3=>?_)
   ·conv=>whnf
    exact bad (by rw [hbj,decide_eq_false_iff_not];omega) _ rfl
   ·conv=>whnf
    refine zJ j ?_
    exact nxI (j+1) ⟨hj,nxt (by rw [hbj,decide_eq_true_iff];omega)⟩ (by omega) ⟨⟨rfl,rfl,rfl⟩,rfl,rfl⟩
  ·conv=>whnf
   refine zJ j ?_
   exact nxI (j+1) ⟨hj,nxt (by rw [hbj,show decide (j=0)=true by rw [decide_eq_true_iff];omega];rfl)⟩ (by omega) ⟨⟨rfl,rfl,rfl⟩,rfl,rfl⟩
 ·conv=>whnf
  exact hE (fun i hi=>g2 i hi (by omega)) _
theorem zu6 (hn:1 ≤ n) (d:Dk) (ok:d.Ok):C n 74 [d.av] h=some (.ret (.bool (zap d)),h):=by
 obtain ⟨m,rfl⟩:=pre1 n
 have e1:(d.secs.map AV.str).length=d.secs.length:=List.length_map ..
 have e2:(d.ws.map Wr.av).length=d.ws.length:=List.length_map ..
 refine zak F74 rfl rfl rfl (by simp [zan,zb0]) ?_
 by_cases hz:1 ≤ d.secs.length ∧ d.secs.length ≤ 32768 ∧ d.ws.length ≤ 40000
 ·conv=>whnf
  refine ldI rfl ?_
  conv=>whnf
  refine brd (fun a=>absurd a (by omega)) (fun _=>?_)
  conv=>whnf
  refine brd (fun a=>absurd a (by omega)) (fun _=>?_)
  conv=>whnf
  refine ldI rfl ?_
  conv=>whnf
  refine brd (fun a=>absurd a (by omega)) (fun _=>?_)
  conv=>whnf
  refine zno d ok hz.2.1 ⟨⟨rfl,lenI AV.str _,rfl⟩,rfl,rfl⟩ (fun w0 L hL=>?_) (fun e L hk=>by rw [e];exact retK hk rfl)
  conv=>whnf
  refine cutI (by decide) rfl (t:=⟨[(1,.ptr 0 0 0),(3,i64 d.secs.length)],[dkC d],[]⟩) ⟨hL,rfl,rfl⟩ ?_
  conv=>whnf
  refine znn d ok hz.2.2 ⟨⟨rfl,rfl,rfl⟩,rfl,rfl⟩ (fun w1 L hL=>?_) (fun e L hk=>by rw [e];exact retK hk rfl)
  conv=>whnf
  refine cutI (by decide) rfl (t:=⟨[(1,.ptr 0 0 0),(3,i64 d.secs.length)],[dkC d],[]⟩) ⟨hL,rfl,rfl⟩ ?_
  conv=>whnf
  refine znm d ok hz.2.1 ⟨⟨rfl,rfl,rfl⟩,rfl,rfl⟩ (fun w2 L=>?_) (fun e L hk=>by rw [e];exact retK hk rfl)
  conv=>whnf
  refine cutI (by decide) rfl (t:=⟨[],[dkC d],[]⟩) ⟨trivial,rfl,rfl⟩ ?_
  conv=>whnf
  rw [rightD_iff.2 ⟨hz,w0,w1,w2⟩]
  exact retP rfl rfl
 ·rw [zk6 hz]
  repeat' (conv=>whnf);first
   | (exfalso;omega)
   | refine brd (fun _=>?_) (fun _=>?_)
   | refine bre (fun _=>?_) (fun _=>?_)
   | refine brq (fun _=>?_) (fun _=>?_)
   | refine brn (fun _=>?_) (fun _=>?_)
   | refine br (fun _=>?_) (fun _=>?_)
   | refine ldI (by rfl) ?_
   | refine ldI (zae _ _ _) ?_
   | refine ldI (zag _ _) ?_
   | refine stJ (by rfl) ?_
   | refine stJ (zag _ _) ?_
   | refine zI (zad (by omega) (by omega)) ?_
   | refine cutS (by decide) rfl ?_
  all_goals exact retP rfl rfl
end
section
variable {n:Nat}{h:zaa}
theorem z13 (hn:1 ≤ n) (l:List Int) (hl:l.length ≤ 32768) (sz:Nat) (hz:l≠[] → sz=1) (c:Bool) (x:Int):C n 208 [.lst sz (l.map i64) c,i64 x] h=some (.ret (.bool (l.contains x)),h):=by
 obtain ⟨m,rfl⟩:=pre1 n
 have e1:(l.map i64).length=l.length:=List.length_map ..
 refine zak F208 rfl rfl rfl (by simp [zan,AV.pureB,zc6 zry]) ?_
 conv=>whnf
 refine za7 (by decide) rfl (α:=Nat) (fun j=>⟨[(0,.lst sz (l.map i64) c),(1,i64 x),(5,i64 j)],[],[]⟩) (fun j=>j ≤ l.length ∧ ∀ i (hi:i<l.length),i<j → l[i]≠x) (fun j=>l.length-j) 0 ⟨⟨rfl,rfl,rfl⟩,rfl,rfl⟩ ⟨Nat.zero_le _,fun i _ hi=>absurd hi (Nat.not_lt_zero _)⟩ (by simp only [KK];omega) ?_
 rintro j ⟨g1,g2⟩
 conv=>whnf
 refine brd (fun a=>?_) (fun a=>?_)
 ·have hj:j<l.length:=by omega
  conv=>whnf
  refine ixL zcv hj hz ?_
  conv=>whnf
  refine bre (fun q=>?_) (fun q=>?_)
  ·conv=>whnf
   refine retP rfl (zas ?_)
   rw [List.contains_iff_mem.2 (q ▸ List.getElem_mem hj)]
  ·conv=>whnf
   refine zJ j ?_
   refine nxI (j+1) ⟨hj,fun i hi hi2=>?_⟩ (by omega) ⟨⟨rfl,rfl,rfl⟩,rfl,rfl⟩
   by_cases e:i=j
   ·subst e;exact q
   ·exact g2 i hi (by omega)
 ·conv=>whnf
  refine cutI (by decide) rfl (t:=⟨[],[],[]⟩) ⟨trivial,rfl,rfl⟩ ?_
  conv=>whnf
  refine retP rfl (zas ?_)
  cases e:l.contains x with
  | false=>rfl
  | true =>
   obtain ⟨i,hi,q⟩:=List.getElem_of_mem (List.contains_iff_mem.1 e)
   exact absurd q (g2 i hi (by omega))
def curA (d:Dk) (x:Nat):List AV:=[.str (curD d x),.bool (canD d x)]
abbrev tCur:Nat:=238
theorem zce {P:Program}{L:LT}{h:zaa}{t:Tmp}{ty:TypeId}{p v:AV}(hk:lk L t=some p) (hl:zbv P h ty p=some v):zb3 P L h [.cell t ty]=some [v]:=by simp only [zb3,hk,hl]
theorem z1c {h:zaa}{b:Nat}{cs:List AV}(hl:cs.length=2) (hb:h[b]?=some (.cells 0 (some tCur) cs 0)):zbv Tryz.prog h tCur (.ptr b 0 0)=some (.agg cs):=zbk (N:=2) (by kernel_rfl) hl hb
def ztq (j:Nat):AV:=match j with
 | 0=>.int .i64 (-1)
 | i+1=>i64 i
theorem zo1 {m:Nat}(d:Dk) (ok:d.Ok) (hl:d.ws.length ≤ 40000) (x:Nat) {Q:Ex → LS → Prop}{s:LS}
  (hs:LS.sub ⟨[(1,i64 x),(2,.ptr 0 0 0),(4,.ptr 1 0 0),(5,ztq d.ws.length)],[dkC d,.cells 0 (some tCur) [.str [],.bool false] 0],[]⟩ s)
  (hE:(∀ j (hj:j<d.ws.length),d.ws[j].sec≠(x:Int)) → ∀ L,subL [(1,i64 x),(2,.ptr 0 0 0),(4,.ptr 1 0 0)] L → Q (.exit 0) ⟨L,[dkC d,.cells 0 (some tCur) [.str [],.bool false] 0],[]⟩)
  (hR:∀ i (hi:i<d.ws.length),d.ws[i].sec=(x:Int) → (∀ j (hj:j<d.ws.length),i<j → d.ws[j].sec≠(x:Int)) → ∀ L,lk L 4=some (.ptr 1 0 0) → Q .ret ⟨L,[dkC d,.cells 0 (some tCur) [.str d.ws[i].data,.bool true] 0],[]⟩) :
  OkR Tryz.prog (C m) cfg0.inl KK 40 6 (.loop (c166.lp 0)) s Q:=by
 refine za7 (by decide) rfl (α:=Nat) (fun j=>⟨[(1,i64 x),(2,.ptr 0 0 0),(4,.ptr 1 0 0),(5,ztq j)],[dkC d,.cells 0 (some tCur) [.str [],.bool false] 0],[]⟩) (fun j=>j ≤ d.ws.length ∧ ∀ i (hi:i<d.ws.length),j ≤ i → d.ws[i].sec≠(x:Int)) (fun j=>j) d.ws.length hs ⟨Nat.le_refl _,fun i hi h=>absurd hi (by omega)⟩ (by simp only [KK];omega) ?_
 rintro j ⟨g1,g2⟩
 have e2:(d.ws.map Wr.av).length=d.ws.length:=List.length_map ..
 cases j with
 | zero =>
  conv=>whnf
  exact hE (fun j hj=>g2 j hj (Nat.zero_le _)) _ ⟨rfl,rfl,rfl⟩
 | succ j =>
  have hj:j<d.ws.length:=by omega
  conv=>whnf
  refine ldI rfl ?_
  conv=>whnf
  refine ixL zc2 hj ok.sw ?_
  conv=>whnf
  refine bre (fun q=>?_) (fun q=>?_)
  ·conv=>whnf
   refine ldI rfl ?_
   conv=>whnf
   refine ixL zc2 hj ok.sw ?_
   conv=>whnf
   refine stJ (xs:=[.str d.ws[j].data,.bool true]) (by rfl) ?_
   exact hR j hj q (fun i hi hi2=>g2 i hi (by omega)) _ rfl
  ·conv=>whnf
   refine zI (z:=(j:Int)-1) (by rw [zad (by omega) (by omega)]) ?_
   refine nxI j ⟨by omega,fun i hi hi2=>?_⟩ (by omega) ⟨⟨rfl,rfl,rfl,?_⟩,rfl,rfl⟩
   ·by_cases e:i=j
    ·subst e;exact q
    ·exact g2 i hi (by omega)
   ·show some (AV.int .i64 ((j:Int)-1))=some (ztq j)
    cases j with
    | zero=>rfl
    | succ k=>simp only [ztq];congr 2;omega
theorem ztt (hn:2 ≤ n) (d:Dk) (ok:d.Ok) (hr:zap d=true) (x:Nat) (hx:x<d.secs.length):C n 166 [d.av,i64 x] h=some (.ret (.agg (curA d x)),h):=by
 obtain ⟨m,rfl⟩:=pre1 n
 obtain ⟨⟨z1,z2,z3⟩,-,-,z4⟩:=rightD_iff.1 hr
 have hb:d.bad.length ≤ 32768:=zj8 z2 (Nat.le_refl _) fun i hi _=>z4 i hi
 have e1:(d.secs.map AV.str).length=d.secs.length:=List.length_map ..
 have e2:(d.ws.map Wr.av).length=d.ws.length:=List.length_map ..
 refine zak F166 rfl rfl rfl (by simp [zan,zb0,AV.pureB]) ?_
 conv=>whnf
 refine ldI rfl ?_
 conv=>whnf
 refine zI (z:=(d.ws.length:Int)-1) (by rw [e2,zad (by omega) (by omega)]) ?_
 conv=>whnf
 refine zo1 d ok z3 x ⟨⟨rfl,rfl,rfl,?_⟩,rfl,rfl⟩ (fun w0 L hL=>?_) (fun i hi q q2 L hk=>?_)
 ·show some (AV.int .i64 ((d.ws.length:Int)-1))=some (ztq d.ws.length)
  cases d.ws.length with
  | zero=>rfl
  | succ k=>simp only [ztq];congr 2;omega
 ·conv=>whnf
  refine cutI (by decide) rfl (t:=⟨[(1,i64 x),(2,.ptr 0 0 0),(4,.ptr 1 0 0)],[dkC d,.cells 0 (some tCur) [.str [],.bool false] 0],[]⟩) ⟨hL,rfl,rfl⟩ ?_
  conv=>whnf
  refine ldI rfl ?_
  conv=>whnf
  refine ⟨by omega,ok.ss (zfe hx),.str d.secs[x],zjj _ hx,[.str d.secs[x]],rfl,?_⟩
  conv=>whnf
  refine ldI rfl ?_
  conv=>whnf
  refine clI (z13 (by omega) d.bad hb _ ok.sb _ _) ?_
  conv=>whnf
  refine stJ (xs:=[.str d.secs[x],.bool (!d.bad.contains (x:Int))]) (by rfl) ?_
  have e:=z0l (s:=d.secs.getD x []) w0
  have e3:curA d x=[.str d.secs[x],.bool (!d.bad.contains (x:Int))]:=by
   unfold curA curD canD
   rw [e.1,e.2,List.getD_eq_getElem?_getD,List.getElem?_eq_getElem hx]
   rfl
  rw [e3]
  exact ⟨rfl,_,zce rfl (z1c rfl rfl),rfl⟩
 ·have e:=z0m (s:=d.secs.getD x []) hi q q2
  have e3:curA d x=[.str d.ws[i].data,.bool true]:=by
   unfold curA curD canD
   rw [e.1,e.2]
   rfl
  rw [e3]
  exact ⟨rfl,_,zce hk (z1c rfl rfl),rfl⟩
end
section
variable {n:Nat}{h:zaa}
def zg0 (d:Dk) (k n:Nat):List AV:=if za1 d k n=true then [.str (zbt d k n),i64 0] else [.str [],i64 8]
abbrev zyu:Nat:=187
theorem zuq {h:zaa}{b:Nat}{cs:List AV}(hl:cs.length=2) (hb:h[b]?=some (.cells 0 (some zyu) cs 0)):zbv Tryz.prog h zyu (.ptr b 0 0)=some (.agg cs):=zbk (N:=2) (by kernel_rfl) hl hb
theorem cant {d:Dk}{k m j:Nat}(hj:j<m) (e:canD d (k+j)=false):za1 d k m=false:=by
 cases c:za1 d k m with
 | false=>rfl
 | true=>rw [allCan_iff.1 c j hj] at e;cases e
theorem zrf (hn:4 ≤ n) (d:Dk) (ok:d.Ok) (hr:zap d=true) (k m:Nat) (hm:1 ≤ m) (hk:k+m ≤ d.secs.length):C n 102 [d.av,i64 k,i64 m] h=some (.ret (.agg (zg0 d k m)),h):=by
 obtain ⟨n',rfl⟩ : ∃ n',n=n'+1:=⟨n-1,by omega⟩
 have hz:=(rightD_iff.1 hr).1
 have e1:(d.secs.map AV.str).length=d.secs.length:=List.length_map ..
 have cR:∀ h,C n' 74 [d.av] h=some (.ret (.bool (zap d)),h):=fun h=>zu6 (by omega) d ok
 rw [hr] at cR
 refine zak F102 rfl rfl rfl (by simp [zan,zb0,AV.pureB]) ?_
 conv=>whnf
 refine ldI rfl ?_
 conv=>whnf
 refine clI (cR _) ?_
 conv=>whnf
 refine brd (fun a=>absurd a (by omega)) (fun _=>?_)
 conv=>whnf
 refine ldI rfl ?_
 conv=>whnf
 refine brd (fun a=>absurd a (by omega)) (fun _=>?_)
 conv=>whnf
 refine ldI rfl ?_
 conv=>whnf
 refine zI (z:=((d.secs.length-m:Nat):Int)) (by rw [e1,zad (by omega) (by omega)];omega) ?_
 conv=>whnf
 refine brd (fun a=>absurd a (by omega)) (fun _=>?_)
 conv=>whnf
 refine za7 (by decide) rfl (α:=Nat × zaa) (fun x=>⟨[(1,i64 k),(2,i64 m),(3,.ptr 0 0 0),(6,.ptr 1 0 0),(7,.str (zbt d k x.1)),(8,i64 x.1)],x.2,[]⟩) (fun x=>(x.1 ≤ m ∧ ∀ i,i<x.1 → canD d (k+i)=true) ∧ x.2[0]?=some (dkC d) ∧ x.2[1]?=some (.cells 0 (some zyu) [.str [],i64 0] 0)) (fun x=>m-x.1) (0,_) ⟨⟨rfl,rfl,rfl,rfl,rfl,rfl⟩,rfl,rfl⟩ ⟨⟨Nat.zero_le _,fun i hi=>absurd hi (Nat.not_lt_zero _)⟩,rfl,rfl⟩ (by simp only [KK];omega) ?_
 rintro ⟨j,hp⟩ ⟨⟨g1,g2⟩,g3,g4⟩
 simp only at g1 g2 g3 g4
 have l3:=zac g4
 conv=>whnf
 refine brd (fun a=>?_) (fun a=>?_)
 ·have hj:j<m:=by omega
  have cC:=fun h=>ztt (n:=n') (h:=h) (by omega) d ok hr (k+j) (by omega)
  conv=>whnf
  refine ldI g3 ?_
  conv=>whnf
  refine zI (z:=((k+j:Nat):Int)) (by rw [zad (by omega) (by omega)];rfl) ?_
  conv=>whnf
  refine clI (cC _) ?_
  conv=>whnf
  refine stJ (xs:=curA d (k+j)) (zag _ _) ?_
  have k0:∀ x y:AB,((hp++[x]).set hp.length y)[0]?=some (dkC d):=fun x y=>by rw [List.getElem?_set_ne (by omega),List.getElem?_append_left (by omega)];exact g3
  have k1:∀ x y:AB,((hp++[x]).set hp.length y)[1]?=some (.cells 0 (some zyu) [.str [],i64 0] 0):=fun x y=>by rw [List.getElem?_set_ne (by omega),List.getElem?_append_left (by omega)];exact g4
  conv=>whnf
  refine ldI (zae _ _ _) ?_
  conv=>whnf
  refine brn (fun q=>?_) (fun q=>?_)
  ·conv=>whnf
   refine stJ (xs:=[.str [],i64 8]) (k1 _ _) ?_
   have e3:zg0 d k m=[.str [],i64 8]:=by unfold zg0;rw [if_neg (by rw [cant hj q];simp)]
   rw [e3]
   exact ⟨rfl,_,zce rfl (zuq rfl (List.getElem?_set_self (zac (k1 _ _)))),rfl⟩
  ·conv=>whnf
   refine ldI (zae _ _ _) ?_
   conv=>whnf
   refine ⟨by show (zbt d k j).length+(curD d (k+j)).length ≤ _;rw [ziv hr (by omega),zw9 hr (by omega)];omega,?_⟩
   conv=>whnf
   refine zJ j ?_
   refine nxI (j+1,_) ⟨⟨hj,fun i hi=>?_⟩,k0 _ _,k1 _ _⟩ (by simp only;omega) ⟨⟨rfl,rfl,rfl,rfl,?_,rfl⟩,rfl,rfl⟩
   ·by_cases e:i=j
    ·subst e;exact q
    ·exact g2 i (by omega)
   ·show some (AV.str (zbt d k j++curD d (k+j)))=some (.str (zbt d k (j+1)))
    rw [zsn]
 ·have hj:j=m:=by omega
  subst hj
  conv=>whnf
  refine cutI (by decide) rfl (t:=⟨[(6,.ptr 1 0 0),(7,.str (zbt d k j))],hp,[]⟩) ⟨⟨rfl,rfl⟩,rfl,rfl⟩ ?_
  conv=>whnf
  refine stJ (xs:=[.str (zbt d k j),i64 0]) g4 ?_
  have e3:zg0 d k j=[.str (zbt d k j),i64 0]:=by unfold zg0;rw [if_pos (allCan_iff.2 g2)]
  rw [e3]
  exact ⟨rfl,_,zce rfl (zuq rfl (List.getElem?_set_self (zac g4))),rfl⟩
end
abbrev tDF:Nat:=231
abbrev zhx (e:Nat):AV:=.ifc tDF (.agg [i64 e])
section
variable {n:Nat}{h hp:zaa}
theorem zmk (hn:1 ≤ n) (e:Nat):C n 130 [.bool true,i64 e] h=some (.ret (.tup []),h):=by
 obtain ⟨m,rfl⟩:=pre1 n
 refine zak F130 rfl rfl rfl rfl ?_
 conv=>whnf
 exact ⟨rfl,[],rfl,rfl⟩
theorem zpz (hn:1 ≤ n) (e:Nat):C n 130 [.bool false,i64 e] h=some (.pan (zhx e),h):=by
 obtain ⟨m,rfl⟩:=pre1 n
 refine zcw F130 rfl rfl rfl rfl ?_
 conv=>whnf
 exact ⟨zhx e,rfl,rfl⟩
theorem zjn (hn:3 ≤ n) (d:Dk) (ok:d.Ok) (hr:zap d=true) (c:Bool):C n 87 [.lst 3 [d.av] c] h=some (.ret (.tup []),h):=by
 obtain ⟨m,rfl⟩:=pre1 n
 have cK:∀ h,C m 121 [d.av] h=some (.ret (i64 (if zap d then 0 else 2)),h):=fun h=>zjz (by omega) d ok
 rw [hr] at cK
 have cN:∀ h,C m 130 [.bool true,i64 2] h=some (.ret (.tup []),h):=fun h=>zmk (by omega) 2
 refine zak F87 rfl rfl rfl (by simp [zan,AV.pureB,zb0]) ?_
 conv=>whnf
 refine za7 (by decide) rfl (α:=Nat × zaa) (fun x=>⟨[(4,.lst 3 [d.av] c),(5,i64 1),(6,i64 x.1)],x.2,[]⟩) (fun x=>x.1 ≤ 1) (fun x=>1-x.1) (0,[]) ⟨⟨rfl,rfl,rfl⟩,rfl,rfl⟩ (Nat.zero_le _) (by simp only [KK];omega) ?_
 rintro ⟨j,h1⟩ g1
 simp only at g1
 obtain rfl | rfl:j=0 ∨ j=1:=by omega
 ·conv=>whnf
  refine ⟨by show (0:Int) ≤ 0;decide,rfl,d.av,rfl,d.cells,rfl,?_⟩
  conv=>whnf
  refine stJ (xs:=d.cells) (zag _ _) ?_
  conv=>whnf
  refine ldI (zae _ _ _) ?_
  conv=>whnf
  refine clI (cK _) ?_
  conv=>whnf
  refine clI (cN _) ?_
  conv=>whnf
  refine zI (z:=1) (by rfl) ?_
  exact nxI (1,_) (Nat.le_refl _) (by show 1-1<1-0;decide) ⟨⟨rfl,rfl,rfl⟩,rfl,rfl⟩
 ·conv=>whnf
  exact ⟨rfl,[],rfl,rfl⟩
theorem zwu (hn:3 ≤ n) (d:Dk) (ok:d.Ok) (hr:zap d=false) (c:Bool):C n 87 [.lst 3 [d.av] c] h=some (.pan (zhx 2),h):=by
 obtain ⟨m,rfl⟩:=pre1 n
 have cK:∀ h,C m 121 [d.av] h=some (.ret (i64 (if zap d then 0 else 2)),h):=fun h=>zjz (by omega) d ok
 rw [hr] at cK
 have cN:∀ h,C m 130 [.bool false,i64 2] h=some (.pan (zhx 2),h):=fun h=>zpz (by omega) 2
 refine zcw F87 rfl rfl rfl (by simp [zan,AV.pureB,zb0]) ?_
 conv=>whnf
 refine za7 (by decide) rfl (α:=Unit) (fun x=>⟨[(4,.lst 3 [d.av] c),(5,i64 1),(6,i64 0)],[],[]⟩) (fun x=>True) (fun x=>0) () ⟨⟨rfl,rfl,rfl⟩,rfl,rfl⟩ trivial (by simp only [KK];omega) ?_
 rintro - -
 conv=>whnf
 refine ⟨by show (0:Int) ≤ 0;decide,rfl,d.av,rfl,d.cells,rfl,?_⟩
 conv=>whnf
 refine stJ (xs:=d.cells) (zag _ _) ?_
 conv=>whnf
 refine ldI (zae _ _ _) ?_
 conv=>whnf
 refine clI (cK _) ?_
 conv=>whnf
 refine clP (cN _) ?_
 exact ⟨zhx 2,rfl,rfl⟩
end
abbrev tErr:Nat:=29
def cRecD:RC:=match c86 with
 | .seq _ r=>r
 | _=>.skip
theorem D86:DefI 86 1 15 5 [] (some 5) [] cRecD :=
 ⟨⟨Tryz.f86,Tryz.func86,by kernel_rfl,by kernel_rfl,by kernel_rfl⟩,by kernel_rfl,by decide,by kernel_rfl,by kernel_rfl,by kernel_rfl⟩
theorem zfi:fnOk Tryz.prog 86=true:=D86.fine
section
variable {n m:Nat}{h hp:zaa}
theorem zr6 {P:Nat}:∃ h',zca Tryz.prog (C m) (zcf Tryz.prog cfg0.inl (C m)) KK 86 [.ptr P 0 0] .ret h=some (.ret,h') ∧ h'=h:=by
 refine zha D86 rfl ?_
 conv=>whnf
 exact ⟨rfl,⟨[],rfl⟩,rfl⟩
theorem z0j {P e:Nat}{a:AV}(hP:h[P]?=some (.cells 0 (some tErr) [a] 0)):∃ h',zca Tryz.prog (C m) (zcf Tryz.prog cfg0.inl (C m)) KK 86 [.ptr P 0 0] (.pan (zhx e) false) h=some (.pan (zhx e) true,h') ∧ h'[P]?=some (.cells 0 (some tErr) [i64 e] 0):=by
 refine zha D86 rfl ?_
 have lP:=zac hP
 conv=>whnf
 refine stJ (xs:=[i64 e]) (zag _ _) ?_
 conv=>whnf
 refine ldI (zae _ _ _) ?_
 conv=>whnf
 have e1:((h++[AB.cells 0 (some tDF) [i64 0] 0]).set h.length (AB.cells 0 (some tDF) (putAt [i64 0] 0 [i64 e]) 0))[P]?=some (.cells 0 (some tErr) [a] 0):=by
  rw [List.getElem?_set_ne (by omega),List.getElem?_append_left lP];exact hP
 refine stJ (xs:=[i64 e]) e1 ?_
 exact ⟨rfl,⟨[],rfl⟩,List.getElem?_set_self (zac e1)⟩
theorem zuy {ls:List Str}{j:Nat}(hj:j<ls.length):(ls.map AV.str)[j]?=some (.str ls[j]):=by simp [hj]
theorem zjq (ls:List Str) (j:Nat):(ls.take j).flatten.length ≤ ls.flatten.length:=by
 have:ls.flatten=(ls.take j).flatten++(ls.drop j).flatten:=by rw [← List.flatten_append,List.take_append_drop]
 rw [this,List.length_append];omega
theorem zd7 {ls:List Str}{j:Nat}(hj:j<ls.length):(ls.take (j+1)).flatten=(ls.take j).flatten++ls[j]:=by
 rw [zdh hj,List.flatten_append,List.flatten_singleton]
theorem zz1 (hn:1 ≤ n) {b fz:Nat}{el:Option TypeId}(s:Str) (hb:hp[b]?=some (.cells 0 el [.str s] fz)):C n 204 [.sl 1 b 0 0 1,.str []] hp=some (.ret (.str s),hp):=by
 obtain ⟨m,rfl⟩:=pre1 n
 refine za2 F204 rfl rfl ?_
 conv=>whnf
 refine ⟨by show (0:Int) ≤ 0;decide,by show (0:Int)<1;decide,rfl,?_⟩
 conv=>whnf
 refine ldI hb ?_
 exact ⟨rfl,_,rfl,rfl,rfl⟩
theorem z23 (hn:4 ≤ n) {b fz:Nat}{el:Option TypeId}(ls:List Str) (h2:2 ≤ ls.length) (hne:ls.flatten≠[]) (hl:ls.flatten.length<1048576) (hls:ls.length<1048576) (hb:hp[b]?=some (.cells 0 el (ls.map .str) fz)) :
  ∃ v h',C n 204 [.sl 1 b 0 0 ls.length,.str []] hp=some (.ret v,h') ∧ v=.str ls.flatten ∧ Keep hp h' []:=by
 obtain ⟨m,rfl⟩:=pre1 n
 have hpos:0<ls.flatten.length:=List.length_pos_iff.2 hne
 refine zcp F204 rfl rfl ?_
 conv=>whnf
 refine bre (fun a=>absurd a (by omega)) (fun _=>?_)
 conv=>whnf
 refine bre (fun a=>absurd a (by omega)) (fun _=>?_)
 conv=>whnf
 refine za7 (by decide) rfl (α:=Nat) (fun j=>⟨[(0,.sl 1 b 0 0 ls.length),(1,.str []),(5,i64 (ls.take j).flatten.length),(39,.sl 1 b 0 0 ls.length),(40,i64 ls.length),(41,i64 j)],hp,[]⟩) (fun j=>j ≤ ls.length) (fun j=>ls.length-j) 0 ⟨⟨rfl,rfl,rfl,rfl,rfl,rfl⟩,rfl,rfl⟩ (Nat.zero_le _) (by simp only [KK];omega) ?_
 intro j g1
 have fl:=zjq ls j
 conv=>whnf
 refine brd (fun a=>?_) (fun a=>?_)
 ·have hj:j<ls.length:=by omega
  have fl2:=zjq ls (j+1)
  rw [zd7 hj,List.length_append] at fl2
  conv=>whnf
  refine ⟨by omega,by omega,rfl,?_⟩
  conv=>whnf
  refine ldI hb ?_
  refine zdp (v:=.str ls[j]) (by show (ls.map AV.str)[0+(j:Int).toNat*1]?=_;rw [Nat.zero_add,Nat.mul_one,Int.toNat_natCast];exact zuy hj) ?_
  conv=>whnf
  refine zI (z:=9223372036854775807-((ls.take j).flatten.length:Int)) (zad (by omega) (by omega)) ?_
  conv=>whnf
  refine brd (fun a=>absurd a (by omega)) (fun _=>?_)
  conv=>whnf
  refine zI (z:=(((ls.take j).flatten.length+ls[j].length:Nat):Int)) (by rw [zad (by omega) (by omega)];omega) ?_
  conv=>whnf
  refine zJ j ?_
  refine nxI (j+1) hj (by omega) ⟨⟨rfl,rfl,?_,rfl,rfl,rfl⟩,rfl,rfl⟩
  rw [zd7 hj,List.length_append]
  rfl
 ·have hj:j=ls.length:=by omega
  subst hj
  rw [List.take_length]
  conv=>whnf
  refine cutI (by decide) rfl (t:=⟨[(0,.sl 1 b 0 0 ls.length),(1,.str []),(5,i64 ls.flatten.length)],hp,[]⟩) ⟨⟨rfl,rfl,rfl⟩,rfl,rfl⟩ ?_
  conv=>whnf
  obtain ⟨h2',F2,e2,w2⟩:=zx8 (n:=m) (hp:=hp++[AB.cells 0 (some tBld) [.nilp,.lst 0 [] true] 0]) (b:=hp.length) (by omega) (zag _ _) ls.flatten.length (by omega) (by omega)
  have l2:hp.length<h2'.length:=by have:=w2.2.1.1;simp at this;omega
  have k2:Keep hp h2' []:=(Keep.app hp _ []).trans w2.2.1 (by simp)
  have hF2:∀ x∈F2,hp.length ≤ x:=fun x hx=>by
   rcases w2.2.2 x hx with q | q
   ·simp at q;omega
   ·simp at q;omega
  refine clI e2 ?_
  conv=>whnf
  refine ⟨by show (0:Int) ≤ 0;decide,by show (0:Int)<_;omega,rfl,?_⟩
  conv=>whnf
  refine ldI (k2.get hb (by simp)) ?_
  refine zdp (v:=.str ls[0]) (zuy (by omega)) ?_
  have fl1:=zjq ls 1
  rw [zd7 (show 0<ls.length by omega),List.length_append] at fl1
  obtain ⟨h3,F3,e3,w3⟩:=zbi (n:=m) (by omega) w2.1 ls[0] (by simp;omega)
  conv=>whnf
  refine clI e3 ?_
  conv=>whnf
  have hsl:zbm 1 (.sl 1 b 0 0 ls.length) (some 1) none none=some (.sl 1 b 0 1 (ls.length-1)):=by
   unfold zbm
   simp only [Option.getD_some,Option.getD_none]
   rw [if_pos ⟨by omega,by omega,by omega,trivial⟩,if_neg (by omega)]
   congr 2
   omega
  refine slI hsl ?_
  conv=>whnf
  have k3:Keep hp h3 []:=k2.trans w3.2.1 (fun x hx=>.inr (hF2 x hx))
  refine za7 (by decide) rfl (α:=Nat × List Nat × zaa) (fun x=>⟨[(1,.str []),(8,.ptr hp.length 0 0),(63,.sl 1 b 0 1 (ls.length-1)),(64,i64 (ls.length-1:Nat)),(65,i64 x.1)],x.2.2,[]⟩) (fun x=>(x.1 ≤ ls.length-1 ∧ BW x.2.2 hp.length (ls.take (x.1+1)).flatten x.2.1) ∧ Keep hp x.2.2 [] ∧ ∀ y∈x.2.1,hp.length ≤ y) (fun x=>ls.length-1-x.1) (0,F3,h3) ⟨⟨rfl,rfl,rfl,rfl,rfl⟩,rfl,rfl⟩ ⟨⟨Nat.zero_le _,by rw [zd7 (show 0<ls.length by omega)];exact w3.1⟩,k3,fun y hy=>?_⟩ (by show ls.length-1-0<KK;simp only [KK];omega) ?_
  ·rcases w3.2.2 y hy with q | q
   ·exact hF2 y q
   ·omega
  rintro ⟨j,G,h4⟩ ⟨⟨g1,g2⟩,g3,g4⟩
  simp only at g1 g2 g3 g4
  have fl:=zjq ls (j+1)
  conv=>whnf
  refine brd (fun a=>?_) (fun a=>?_)
  ·have hj:j<ls.length-1:=by omega
   have hj1:j+1<ls.length:=by omega
   have fl2:=zjq ls (j+1+1)
   rw [zd7 hj1,List.length_append] at fl2
   obtain ⟨h5,F5,e5,w5⟩:=zbi (n:=m) (by omega) g2 [] (by rw [List.length_nil];omega)
   rw [List.append_nil] at w5
   obtain ⟨h6,F6,e6,w6⟩:=zbi (n:=m) (by omega) w5.1 ls[j+1] (by omega)
   rw [← zd7 hj1] at w6
   conv=>whnf
   refine ⟨by omega,by omega,rfl,?_⟩
   conv=>whnf
   refine ldI (g3.get hb (by simp)) ?_
   refine zdp (v:=.str ls[j+1]) (by show (ls.map AV.str)[1+(j:Int).toNat*1]?=_;rw [Nat.mul_one,Int.toNat_natCast,Nat.add_comm];exact zuy hj1) ?_
   conv=>whnf
   refine clI e5 ?_
   conv=>whnf
   refine clI e6 ?_
   conv=>whnf
   refine zJ j ?_
   have k5:Keep hp h5 []:=g3.trans w5.2.1 (fun x hx=>.inr (g4 x hx))
   have f5:∀ y∈F5,hp.length ≤ y:=fun y hy=>(w5.2.2 y hy).elim (g4 y) fun q=>Nat.le_trans g3.1 q
   refine nxI (j+1,F6,h6) ⟨⟨by simp only;omega,w6.1⟩,k5.trans w6.2.1 (fun x hx=>.inr (f5 x hx)),fun y hy=>(w6.2.2 y hy).elim (f5 y) fun q=>Nat.le_trans k5.1 q⟩ (by simp only;omega) ⟨⟨rfl,rfl,rfl,rfl,rfl⟩,rfl,rfl⟩
  ·have hj:j+1=ls.length:=by omega
   rw [hj,List.take_length] at g2
   obtain ⟨h5,e5,w5⟩:=zfq (n:=m) (by omega) g2 hne (by omega)
   conv=>whnf
   refine cutI (by decide) rfl (t:=⟨[(8,.ptr hp.length 0 0)],h4,[]⟩) ⟨rfl,rfl,rfl⟩ ?_
   conv=>whnf
   refine clI e5 ?_
   exact ⟨rfl,_,rfl,rfl,g3.trans w5.2.1 (fun x hx=>.inr (g4 x hx))⟩
end
theorem apI5 {h:zaa}{e:TypeId}{sz:Nat}{a b v:AV}{h':zaa}{K:AV → zaa → Prop}(h1:appR h e sz a b=some (v,some h')) (h2:K v h'):∃ r,appR h e sz a b=r ∧ WpA K h r:=⟨_,h1,h2⟩
theorem zkc {α:Type}{f:α → AV}{g:α → List AV}{sz:Nat}(hc:∀ a,(f a).cells?=some (g a)) (hg:∀ a,(g a).length=sz) (hs:∀ a,(g a).all AV.scal=true) (h:zaa) (el:TypeId) (l:List α) (sz':Nat) (hz:l≠[] → sz'=sz) (c:Bool) (hne:l≠[]) (hl:l.length ≤ 1073741824) :
  appR h el sz (.lst sz [] true) (.lst sz' (l.map f) c)=some (.sl sz h.length 0 0 l.length,some (h++[.cells 0 (some el) (l.flatMap g) 0])):=by
 have hn:l.length≠0:=fun e=>hne (List.length_eq_zero_iff.1 e)
 obtain rfl:=hz hne
 have h5:(l.flatMap g).all AV.scal=true:=by
  rw [List.all_eq_true];intro x hx
  obtain ⟨a,_,ha⟩:=List.mem_flatMap.1 hx
  exact List.all_eq_true.1 (hs a) x ha
 unfold appR
 have h1:lenA (.lst sz' (l.map f) c)=some l.length:=by simp [lenA]
 rw [h1]
 simp only
 have h3:zax h sz' l.length (.lst sz' (l.map f) c)=some (l.flatMap g):=by
  unfold zax
  simp only [List.length_map]
  rw [if_pos ⟨Nat.le_refl _,.inl trivial⟩]
  have h1:(l.map f).take l.length=l.map f:=List.take_of_length_le (by simp)
  rw [h1]
  have h2:(l.map f).map AV.cells?=l.map fun e=>some (g e):=by rw [List.map_map];exact List.map_congr_left fun a _=>hc a
  rw [h2]
  rw [if_pos (by rw [List.all_eq_true];intro x hx;obtain ⟨e,_,rfl⟩:=List.mem_map.1 hx;simp [hg])]
  congr 1
  rw [List.flatMap_map]
  rfl
 rw [h3]
 simp only
 rw [if_neg (by simp [h5]),if_neg hn]
 have h2:zax h sz' ([]:List AV).length (.lst sz' [] true)=some []:=by simp [zax]
 rw [h2]
 simp only
 rw [if_pos ⟨by simpa using hl,rfl⟩]
 simp
theorem zww (l:List Str):(l.flatMap fun s=>[AV.str s])=l.map .str:=by
 induction l with
 | nil=>rfl
 | cons a r ih=>simp [List.flatMap_cons] at ih ⊢;exact ih
theorem sl_lh {α:Type}(f:α → AV) (l:List α) {sz sz':Nat}(hz:l≠[] → sz'=sz) (c:Bool) (k u:Nat) (hk:k ≤ u) (hu:u ≤ l.length) :
  zbm sz (.lst sz' (l.map f) c) (some (k:Int)) (some (u:Int)) none=some (.lst sz (((l.take u).drop k).map f) (sz != 0&&(c&&((u:Int)==(l.length:Nat))))):=by
 unfold zbm
 simp only [Option.getD_some,List.length_map]
 rw [if_pos ⟨by omega,by omega,by omega,by by_cases e:l=[];exact .inr (by simp [e]);exact .inl (hz e)⟩]
 simp [List.map_take,List.map_drop]
abbrev tStr:Nat:=9
section
variable {n:Nat}{h hp:zaa}
theorem zo4 (hn:1 ≤ n) (l:List Str) (hne:l≠[]) (hl:l.length ≤ 1073741824) (c:Bool):C n 126 [.lst 1 (l.map .str) c] hp=some (.ret (.sl 1 hp.length 0 0 l.length),hp++[.cells 0 (some tStr) (l.map .str) 0]):=by
 obtain ⟨m,rfl⟩:=pre1 n
 obtain ⟨a,r,rfl⟩ : ∃ a r,l=a::r:=by cases l with | nil=>exact (hne rfl).elim | cons a r=>exact ⟨a,r,rfl⟩
 refine za2 F126 rfl rfl ?_
 conv=>whnf
 refine rawI (v:=.bool false) (h':=hp) (by rfl) (by kernel_rfl) ?_
 conv=>whnf
 refine ⟨rfl,?_⟩
 conv=>whnf
 have e:=zkc (f:=AV.str) (g:=fun s=>[AV.str s]) (sz:=1) zgt (fun _=>rfl) (fun _=>rfl) hp tStr (a::r) 1 (fun _=>rfl) c hne hl
 rw [zww] at e
 refine apI5 e ?_
 conv=>whnf
 exact ⟨rfl,_,rfl,rfl,rfl⟩
end
theorem zny {α:Type}{f:α → AV}{l:List α}{i:Nat}{a:α}(hi:i<l.length):putAt (l.map f) i [f a]=(l.set i a).map f:=by
 unfold putAt
 apply List.ext_getElem?
 intro j
 rw [List.getElem?_map,List.getElem?_set]
 simp only [List.length_singleton,List.append_assoc]
 rcases Nat.lt_trichotomy j i with q | q | q
 ·rw [if_neg (by omega),List.getElem?_append_left (by simp;omega),List.getElem?_take,if_pos q,List.getElem?_map]
 ·subst q
  rw [if_pos rfl,if_pos hi,List.getElem?_append_right (by simp;omega)]
  simp [Nat.min_eq_left (Nat.le_of_lt hi)]
 ·rw [if_neg (by omega),List.getElem?_append_right (by simp;omega)]
  simp only [List.length_take,List.length_map,Nat.min_eq_left (Nat.le_of_lt hi)]
  rw [List.getElem?_append_right (by simp;omega)]
  simp only [List.length_singleton,List.getElem?_drop,List.getElem?_map]
  rw [show i+1+(j-i-1)=j by omega]
abbrev errC (e:Nat):AB:=.cells 0 (some tErr) [i64 e] 0
theorem zg9 {h:zaa}{b:Nat}{v:AV}(hb:h[b]?=some (.cells 0 (some tErr) [v] 0)):zbv Tryz.prog h tErr (.ptr b 0 0)=some v:=zrs (N:=1) (by kernel_rfl) hb
abbrev dfD (b:Nat):List DI:=[.fn 86 [.ptr b 0 0]]
section
variable {n m:Nat}{h hp:zaa}
abbrev TQ (m:Nat) (s:Str) (e:Nat):Ex → LS → Prop:=EndQ Tryz.prog (C m) cfg0.inl [.tmp 6,.cell 7 tErr] (OutR (.ret (.tup [.str s,i64 e])))
theorem zy9 {L:LT}{s:Str}{e:Nat}(h6:lk L 6=some (.str s)) (h7:lk L 7=some (.ptr 1 0 0)) (h1:h[1]?=some (errC e)):TQ m s e .ret ⟨L,h,dfD 1⟩:=by
 obtain ⟨h',e1,rfl⟩:=zr6 (m:=m) (h:=h) (P:=1)
 refine ⟨zfi,_,h',e1,[.str s,i64 e],?_,_,rfl,rfl⟩
 simp only [zb3,h6,h7,zg9 h1]
theorem zza {L:LT}{s:Str}{e a:Nat}(h6:lk L 6=some (.str s)) (h7:lk L 7=some (.ptr 1 0 0)) (h1:h[1]?=some (errC a)):TQ m s e (.pan (zhx e)) ⟨L,h,dfD 1⟩:=by
 obtain ⟨h',e1,g⟩:=z0j (m:=m) (h:=h) (P:=1) (e:=e) h1
 refine ⟨zfi,_,h',e1,[.str s,i64 e],?_,_,rfl,rfl⟩
 simp only [zb3,h6,h7,zg9 g]
structure RH (d:Dk) (k m j:Nat) (h:zaa):Prop where
 d0:h[0]?=some (dkC d)
 d1:h[1]?=some (errC 0)
 d2:h[2]?=some (.cells 0 (some tStr) ((nowL d k m j).map .str) 0)
 d3:h[3]?=some (.cells 0 (some 4) ((frL d k m j).map .bool) 0)
theorem RH.lt {d:Dk}{k m j:Nat}{h:zaa}(a:RH d k m j h):3<h.length:=zac a.d3
theorem RH.app {d:Dk}{k m j:Nat}{h:zaa}(a:RH d k m j h) (x y:AB):RH d k m j ((h++[x]).set h.length y):=by
 have l:=a.lt
 have g:∀ i,i ≤ 3 → ((h++[x]).set h.length y)[i]?=h[i]?:=fun i hi=>by rw [List.getElem?_set_ne (by omega),List.getElem?_append_left (by omega)]
 exact ⟨by rw [g 0 (by omega)];exact a.d0,by rw [g 1 (by omega)];exact a.d1,by rw [g 2 (by omega)];exact a.d2,by rw [g 3 (by omega)];exact a.d3⟩
theorem zsx (d:Dk) (ok:d.Ok) (hr:zap d=true) (k m':Nat) (hk:k+m' ≤ d.secs.length) {Q:Ex → LS → Prop}{s:LS}(h0:zaa) (g0:RH d k m' 0 h0)
  (hs:LS.sub ⟨[(1,i64 k),(2,i64 m'),(3,.ptr 0 0 0),(6,.str []),(7,.ptr 1 0 0),(8,.sl 1 2 0 0 m'),(9,.sl 1 3 0 0 m'),(53,wsA d),(54,i64 d.ws.length),(55,i64 0)],h0,dfD 1⟩ s)
  (hE:∀ L h,RH d k m' d.ws.length h → subL [(1,i64 k),(2,i64 m'),(3,.ptr 0 0 0),(6,.str []),(7,.ptr 1 0 0),(8,.sl 1 2 0 0 m'),(9,.sl 1 3 0 0 m')] L → Q (.exit 0) ⟨L,h,dfD 1⟩) :
  OkR Tryz.prog (C m) cfg0.inl KK 106 7 (.loop (c161.lp 0)) s Q:=by
 have hz:=rightD_iff.1 hr
 refine za7 (by decide) rfl (α:=Nat × zaa) (fun x=>⟨[(1,i64 k),(2,i64 m'),(3,.ptr 0 0 0),(6,.str []),(7,.ptr 1 0 0),(8,.sl 1 2 0 0 m'),(9,.sl 1 3 0 0 m'),(53,wsA d),(54,i64 d.ws.length),(55,i64 x.1)],x.2,dfD 1⟩) (fun x=>x.1 ≤ d.ws.length ∧ RH d k m' x.1 x.2) (fun x=>d.ws.length-x.1) (0,h0) hs ⟨Nat.zero_le _,g0⟩ (by simp only [KK];omega) ?_
 rintro ⟨j,hp⟩ ⟨g1,g2⟩
 simp only at g1 g2
 conv=>whnf
 refine brd (fun a=>?_) (fun a=>?_)
 ·have hj:j<d.ws.length:=by omega
  have hw:=hz.2.2.1 _ (List.getElem_mem hj)
  unfold wrOk at hw
  simp only [Bool.and_eq_true,decide_eq_true_eq] at hw
  conv=>whnf
  refine ixL zc2 hj ok.sw ?_
  conv=>whnf
  refine stJ (xs:=d.ws[j].cells) (zag _ _) ?_
  have g3:=g2.app (.cells 0 (some 52) [.int .i64 0,.str []] 0) (.cells 0 (some 52) (putAt [.int .i64 0,.str []] 0 d.ws[j].cells) 0)
  have gl:=zae hp (.cells 0 (some 52) [.int .i64 0,.str []] 0) (.cells 0 (some 52) (putAt [.int .i64 0,.str []] 0 d.ws[j].cells) 0)
  have nl:3<hp.length:=g2.lt
  conv=>whnf
  refine ldI gl ?_
  by_cases hc:∃ i,i<m' ∧ d.ws[j].sec=((k+i:Nat):Int)
  ·obtain ⟨i,hi,e⟩:=hc
   conv=>whnf
   refine zI (z:=(i:Int)) (by rw [zad (by omega) (by omega)];omega) ?_
   conv=>whnf
   refine brd (fun _=>?_) (fun a=>absurd hi (by omega))
   conv=>whnf
   refine ldI gl ?_
   conv=>whnf
   refine ⟨by omega,by omega,rfl,?_⟩
   conv=>whnf
   refine stI (xs:=[.str d.ws[j].data]) g3.d2 (by rfl) (by rfl) (by rw [Nat.ble_eq,List.length_map,zbj];simp;omega) (by rfl) ?_
   conv=>whnf
   refine ⟨by omega,by omega,rfl,?_⟩
   conv=>whnf
   refine stI (xs:=[.bool true]) (by rw [List.getElem?_set_ne (by decide)];exact g3.d3) (by rfl) (by rfl) (by rw [Nat.ble_eq,List.length_map,zel];simp;omega) (by rfl) ?_
   conv=>whnf
   refine zJ j ?_
   have l3:=g3.lt
   refine nxI (j+1,_) ⟨hj,?_,?_,?_,?_⟩ (by simp only;omega) ⟨⟨rfl,rfl,rfl,rfl,rfl,rfl,rfl,rfl,rfl,rfl⟩,rfl,rfl⟩
   ·rw [List.getElem?_set_ne (by decide),List.getElem?_set_ne (by decide)];exact g3.d0
   ·rw [List.getElem?_set_ne (by decide),List.getElem?_set_ne (by decide)];exact g3.d1
   ·rw [List.getElem?_set_ne (by decide),List.getElem?_set_self (zac g3.d2),zzm hj e,← zny (by rw [zbj];exact hi)]
    simp
   ·rw [List.getElem?_set_self (by rw [List.length_set];exact l3),z3a hj e,← zny (by rw [zel];exact hi)]
    simp
  ·have hno:∀ i,i<m' → d.ws[j].sec≠((k+i:Nat):Int):=fun i hi e=>hc ⟨i,hi,e⟩
   have e1:=zv0 hj hno
   have e2:=z0a hj hno
   have nx:RH d k m' (j+1) ((hp++[AB.cells 0 (some 52) [.int .i64 0,.str []] 0]).set hp.length (AB.cells 0 (some 52) (putAt [.int .i64 0,.str []] 0 d.ws[j].cells) 0)):=⟨g3.d0,g3.d1,by rw [e1];exact g3.d2,by rw [e2];exact g3.d3⟩
   conv=>whnf
   refine zI (z:=d.ws[j].sec-(k:Int)) (zad (by omega) (by omega)) ?_
   conv=>whnf
   refine brd (fun a=>?_) (fun a=>?_)
   ·conv=>whnf
    refine brd (fun a2=>absurd (hno (d.ws[j].sec-k).toNat (by omega)) (by simp;omega)) (fun a2=>?_)
    conv=>whnf
    refine zJ j ?_
    exact nxI (j+1,_) ⟨hj,nx⟩ (by simp only;omega) ⟨⟨rfl,rfl,rfl,rfl,rfl,rfl,rfl,rfl,rfl,rfl⟩,rfl,rfl⟩
   ·conv=>whnf
    refine zJ j ?_
    exact nxI (j+1,_) ⟨hj,nx⟩ (by simp only;omega) ⟨⟨rfl,rfl,rfl,rfl,rfl,rfl,rfl,rfl,rfl,rfl⟩,rfl,rfl⟩
 ·have hj:j=d.ws.length:=by omega
  subst hj
  conv=>whnf
  exact hE _ _ g2 ⟨rfl,rfl,rfl,rfl,rfl,rfl,rfl⟩
theorem fr_get {d:Dk}{k m j i:Nat}(hi:i<m):((frL d k m j).map AV.bool)[i]?=some (.bool (frW (d.ws.take j) ((k+i:Nat):Int))):=by
 rw [List.getElem?_map,List.getElem?_eq_getElem (by rw [zel];exact hi),zwt]
 rfl
theorem zsw (hm:1 ≤ m) (d:Dk) (ok:d.Ok) (hr:zap d=true) (k m':Nat) (hk:k+m' ≤ d.secs.length) {Q:Ex → LS → Prop}{s:LS}(h0:zaa) (g0:RH d k m' d.ws.length h0)
  (hs:LS.sub ⟨[(1,i64 k),(2,i64 m'),(6,.str []),(7,.ptr 1 0 0),(8,.sl 1 2 0 0 m'),(9,.sl 1 3 0 0 m'),(80,badA d),(81,i64 d.bad.length),(82,i64 0)],h0,dfD 1⟩ s)
  (hE:za1 d k m'=true → ∀ L,subL [(7,.ptr 1 0 0),(8,.sl 1 2 0 0 m')] L → Q (.exit 2) ⟨L,h0,dfD 1⟩) (hP:za1 d k m'=false → ∀ L,lk L 6=some (.str []) → lk L 7=some (.ptr 1 0 0) → Q (.pan (zhx 8)) ⟨L,h0,dfD 1⟩) :
  OkR Tryz.prog (C m) cfg0.inl KK 106 7 (.loop (c161.lp 1)) s Q:=by
 obtain ⟨⟨z1,z2,z3⟩,-,-,z4⟩:=rightD_iff.1 hr
 have hb:d.bad.length ≤ 32768:=zj8 z2 (Nat.le_refl _) fun i hi _=>z4 i hi
 have cN:∀ h,C m 130 [.bool true,i64 8] h=some (.ret (.tup []),h):=fun h=>zmk hm 8
 have cP:∀ h,C m 130 [.bool false,i64 8] h=some (.pan (zhx 8),h):=fun h=>zpz hm 8
 refine za7 (by decide) rfl (α:=Nat) (fun j=>⟨[(1,i64 k),(2,i64 m'),(6,.str []),(7,.ptr 1 0 0),(8,.sl 1 2 0 0 m'),(9,.sl 1 3 0 0 m'),(80,badA d),(81,i64 d.bad.length),(82,i64 j)],h0,dfD 1⟩) (fun j=>j ≤ d.bad.length ∧ ∀ i (hi:i<d.bad.length),i<j → d.bad[i]<k ∨ (k+m':Nat) ≤ d.bad[i] ∨ frW d.ws d.bad[i]=true) (fun j=>d.bad.length-j) 0 hs ⟨Nat.zero_le _,fun i _ hi=>absurd hi (Nat.not_lt_zero _)⟩ (by simp only [KK];omega) ?_
 rintro j ⟨g1,g2⟩
 conv=>whnf
 refine brd (fun a=>?_) (fun a=>?_)
 ·have hj:j<d.bad.length:=by omega
  have hbj:=z4 j hj
  unfold zcg at hbj
  rw [zfg hj] at hbj
  simp only [Bool.and_eq_true,decide_eq_true_eq] at hbj
  have nx:(d.bad[j]<k ∨ (k+m':Nat) ≤ d.bad[j] ∨ frW d.ws d.bad[j]=true) → ∀ i (hi:i<d.bad.length),i<j+1 → d.bad[i]<k ∨ (k+m':Nat) ≤ d.bad[i] ∨ frW d.ws d.bad[i]=true:=fun e i hi hi2=>by
   by_cases c:i=j
   ·subst c;exact e
   ·exact g2 i hi (by omega)
  conv=>whnf
  refine ixL zcv hj ok.sb ?_
  by_cases hc:∃ i,i<m' ∧ d.bad[j]=((k+i:Nat):Int)
  ·obtain ⟨i,hi,e⟩:=hc
   conv=>whnf
   refine zI (z:=(i:Int)) (by rw [zad (by omega) (by omega)];omega) ?_
   conv=>whnf
   refine brd (fun a=>absurd hi (by omega)) (fun _=>?_)
   conv=>whnf
   refine ⟨by omega,by omega,rfl,?_⟩
   conv=>whnf
   refine ldI g0.d3 ?_
   refine zdp (v:=.bool (frW d.ws d.bad[j])) (by show ((frL d k m' d.ws.length).map AV.bool)[0+(i:Int).toNat*1]?=_;rw [Nat.zero_add,Nat.mul_one,Int.toNat_natCast,fr_get hi,List.take_length,e]) ?_
   cases hf:frW d.ws d.bad[j] with
   | true =>
    conv=>whnf
    refine clI (cN _) ?_
    conv=>whnf
    refine zJ j ?_
    exact nxI (j+1) ⟨hj,nx (.inr (.inr hf))⟩ (by omega) ⟨⟨rfl,rfl,rfl,rfl,rfl,rfl,rfl,rfl,rfl⟩,rfl,rfl⟩
   | false =>
    conv=>whnf
    refine clP (cP _) ?_
    conv=>whnf
    exact hP (z3r hj (by omega) (by omega) hf) _ rfl rfl
  ·have hno:∀ i,i<m' → d.bad[j]≠((k+i:Nat):Int):=fun i hi e=>hc ⟨i,hi,e⟩
   conv=>whnf
   refine zI (z:=d.bad[j] - (k:Int)) (zad (by omega) (by omega)) ?_
   conv=>whnf
   refine brd (fun a=>?_) (fun a=>?_)
   ·conv=>whnf
    refine clI (cN _) ?_
    conv=>whnf
    refine zJ j ?_
    exact nxI (j+1) ⟨hj,nx (.inl (by omega))⟩ (by omega) ⟨⟨rfl,rfl,rfl,rfl,rfl,rfl,rfl,rfl,rfl⟩,rfl,rfl⟩
   ·conv=>whnf
    refine brd (fun a2=>?_) (fun a2=>absurd (hno (d.bad[j] - k).toNat (by omega)) (by simp;omega))
    conv=>whnf
    refine clI (cN _) ?_
    conv=>whnf
    refine zJ j ?_
    exact nxI (j+1) ⟨hj,nx (.inr (.inl (by omega)))⟩ (by omega) ⟨⟨rfl,rfl,rfl,rfl,rfl,rfl,rfl,rfl,rfl⟩,rfl,rfl⟩
 ·conv=>whnf
  exact hE (z3l fun i hi=>g2 i hi (by omega)) _ ⟨rfl,rfl⟩
end
section
variable {n:Nat}{h:zaa}
theorem zvg (m:Nat):rep m [AV.bool false]=(List.replicate m false).map .bool:=by
 induction m with
 | zero=>rfl
 | succ m ih=>rw [List.replicate_succ,List.map_cons,← ih];rfl
theorem zio (hn:6 ≤ n) (d:Dk) (ok:d.Ok) (hr:zap d=true) (k m':Nat) (hm:1 ≤ m') (hm8:m' ≤ 1000) (hk:k+m' ≤ d.secs.length):C n 161 [d.av,i64 k,i64 m'] h=some (.ret (.tup (zg0 d k m')),h):=by
 obtain ⟨m,rfl⟩:=pre1 n
 have hz:=(rightD_iff.1 hr).1
 have e1:(d.secs.map AV.str).length=d.secs.length:=List.length_map ..
 have cN:∀ h,C m 130 [.bool true,i64 1] h=some (.ret (.tup []),h):=fun h=>zmk (by omega) 1
 have hT:zbt d k m'=(nowL d k m' d.ws.length).flatten:=(zvz d k m').symm
 have hl:=ziv hr hk
 have eS:∃ s e,zg0 d k m'=[.str s,i64 (e:Nat)] ∧ (za1 d k m'=true → s=zbt d k m' ∧ e=0) ∧ (za1 d k m'=false → s=[] ∧ e=8):=by
  unfold zg0
  cases za1 d k m' with
  | true=>exact ⟨_,0,rfl,fun _=>⟨rfl,rfl⟩,fun h=>by cases h⟩
  | false=>exact ⟨_,8,rfl,(fun h=>by cases h),fun _=>⟨rfl,rfl⟩⟩
 obtain ⟨s,e,eR,eY,eN⟩:=eS
 rw [eR]
 refine zcw F161 rfl rfl rfl (by simp [zan,zb0,AV.pureB]) ?_
 conv=>whnf
 refine ⟨rfl,.fn 86 [.ptr 1 0 0],by kernel_rfl,?_⟩
 conv=>whnf
 refine ldI rfl ?_
 conv=>whnf
 refine ⟨rfl,?_⟩
 conv=>whnf
 refine clI (zjn (by omega) d ok hr _) ?_
 conv=>whnf
 refine brd (fun _=>?_) (fun a=>absurd hm (by omega))
 conv=>whnf
 refine ldI rfl ?_
 conv=>whnf
 refine brd (fun _=>?_) (fun a=>absurd hm (by omega))
 conv=>whnf
 refine ldI rfl ?_
 conv=>whnf
 refine zI (z:=((d.secs.length-k:Nat):Int)) (by rw [e1,zad (by omega) (by omega)];omega) ?_
 conv=>whnf
 rw [show decide ((m':Int) ≤ ((d.secs.length-k:Nat):Int))=true by rw [decide_eq_true_iff];omega]
 refine clI (cN _) ?_
 conv=>whnf
 refine ldI rfl ?_
 conv=>whnf
 refine zI (z:=((k+m':Nat):Int)) (by rw [zad (by omega) (by omega)];rfl) ?_
 conv=>whnf
 refine slI (sl_lh AV.str d.secs ok.ss d.ssh.c k (k+m') (by omega) hk) ?_
 conv=>whnf
 rw [← zvy hk]
 refine clI (zo4 (by omega) (nowL d k m' 0) (fun e=>by have:=congrArg List.length e;rw [zbj] at this;simp at this;omega) (by rw [zbj];omega) _) ?_
 rw [zbj]
 conv=>whnf
 refine ⟨by omega,by omega,by omega,?_⟩
 conv=>whnf
 refine ldI rfl ?_
 conv=>whnf
 refine zsx d ok hr k m' hk _ ⟨rfl,rfl,rfl,?_⟩ ⟨⟨rfl,rfl,rfl,rfl,rfl,rfl,rfl,rfl,lenI Wr.av _,rfl⟩,rfl,rfl⟩ (fun L h1 g1 hL=>?_)
 ·show some (AB.cells 0 (some 4) (rep (m':Int).toNat [AV.bool false]) 0)=_
  rw [Int.toNat_natCast,zvg,zz9]
 conv=>whnf
 refine cutI (by decide) rfl (t:=⟨[(1,i64 k),(2,i64 m'),(3,.ptr 0 0 0),(6,.str []),(7,.ptr 1 0 0),(8,.sl 1 2 0 0 m'),(9,.sl 1 3 0 0 m')],h1,dfD 1⟩) ⟨hL,rfl,rfl⟩ ?_
 conv=>whnf
 refine ldI g1.d0 ?_
 conv=>whnf
 refine zsw (by omega) d ok hr k m' hk _ g1 ⟨⟨rfl,rfl,rfl,rfl,rfl,rfl,rfl,lenI i64 _,rfl⟩,rfl,rfl⟩ (fun hc L hL=>?_) (fun hc L h6 h7=>?_)
 ·obtain ⟨rfl,rfl⟩:=eY hc
  conv=>whnf
  refine cutI (by decide) rfl (t:=⟨[(7,.ptr 1 0 0),(8,.sl 1 2 0 0 m')],h1,dfD 1⟩) ⟨hL,rfl,rfl⟩ ?_
  conv=>whnf
  have hne:(nowL d k m' d.ws.length).flatten≠[]:=fun e=>by rw [← hT] at e;rw [e] at hl;simp at hl;omega
  have hj:∃ v h2,C m 204 [.sl 1 2 0 0 m',.str []] h1=some (.ret v,h2) ∧ v=.str (zbt d k m') ∧ Keep h1 h2 []:=by
   rcases Nat.lt_or_ge m' 2 with q | q
   ·have q1:m'=1:=by omega
    subst q1
    obtain ⟨x,hx⟩ : ∃ x,nowL d k 1 d.ws.length=[x]:=List.length_eq_one_iff.1 (zbj ..)
    have g2:=g1.d2
    rw [hx] at g2
    refine ⟨_,_,zz1 (by omega) x g2,?_,Keep.refl _ _⟩
    rw [hT,hx]
    simp
   ·have:=z23 (n:=m) (hp:=h1) (b:=2) (fz:=0) (el:=some tStr) (by omega) (nowL d k m' d.ws.length) (by rw [zbj];exact q) hne (by rw [← hT,hl];omega) (by rw [zbj];omega) g1.d2
    rw [zbj,← hT] at this
    exact this
  obtain ⟨v,h2,e2,rfl,k2⟩:=hj
  refine clI e2 ?_
  conv=>whnf
  refine stJ (xs:=[i64 0]) (k2.get g1.d1 (by simp)) ?_
  exact zy9 rfl rfl (List.getElem?_set_self (zac (k2.get g1.d1 (by simp))))
 ·obtain ⟨rfl,rfl⟩:=eN hc
  conv=>whnf
  exact zza h6 h7 g1.d1
end
section
variable {n:Nat}{h:zaa}
end
theorem eq_ent (e:Entry):eqA Tryz.prog 20 147 (.agg e.cells) (.agg e.cells)=some true:=by
 have e1:eqA Tryz.prog 20 147 (.agg e.cells) (.agg e.cells)=zcz (eqA Tryz.prog 19) [(9,.str e.key,.str e.key),(9,.str e.val,.str e.val),(3,i64 e.over,i64 e.over),(3,i64 e.len,i64 e.len),(3,i64 e.child,i64 e.child),(3,i64 e.count,i64 e.count),(23,.agg e.sum.cells,.agg e.sum.cells)]:=by kernel_rfl
 have e2:∀ (s:Str),eqA Tryz.prog 19 9 (.str s) (.str s)=some (s==s):=fun s=>by kernel_rfl
 have e3:∀ (k:Int),eqA Tryz.prog 19 3 (i64 k) (i64 k)=some (k==k):=fun k=>by kernel_rfl
 have e4:eqA Tryz.prog 19 23 (.agg e.sum.cells) (.agg e.sum.cells)=zcz (eqA Tryz.prog 18) (zipE 5 (e.sum.list.map u8) (e.sum.list.map u8)):=by kernel_rfl
 have e5:∀ (x y:UInt8),eqA Tryz.prog 18 5 (.int .u8 x.toNat) (.int .u8 y.toNat)=some (((x.toNat:Nat):Int)==y.toNat):=fun x y=>by kernel_rfl
 have e6:eqA Tryz.prog 19 23 (.agg e.sum.cells) (.agg e.sum.cells)=some true:=by
  rw [e4,zep (fun x y=>by rw [e5,zqi]) e.sum.list e.sum.list rfl]
  simp
 rw [e1]
 simp only [zcz,e2,e3,e6,beq_self_eq_true]
section
variable {n:Nat}{h:zaa}
end
section
variable {n:Nat}{h:zaa}
end
section
variable {n:Nat}{h:zaa}
end
section
variable {n:Nat}{h:zaa}
end
section
variable {n:Nat}{h:zaa}
end
section
variable {n:Nat}{h:zaa}
end
section
variable {n:Nat}{h:zaa}
end
abbrev tRef:Nat:=287
def rcell (t:RT):AB:=.cells 0 (some tRef) [.str t.1,.bool t.2] 0
def RRd (hp:zaa) (b:Nat) (t:RT):Prop:=hp[b]?=some (rcell t)
theorem RRd.stays {hp hp':zaa}{b:Nat}{t:RT}{F:List Nat}(r:RRd hp b t) (k:Keep hp hp' F) (hb:b ∉ F):RRd hp' b t:=k.get r hb
theorem RRd.lt {hp:zaa}{b:Nat}{t:RT}(r:RRd hp b t):b<hp.length:=zac r
theorem RRd.set {hp:zaa}{b:Nat}{t t':RT}(r:RRd hp b t):RRd (hp.set b (rcell t')) b t':=by
 unfold RRd;rw [List.getElem?_set_self r.lt]
section
variable {n:Nat}{hp h:zaa}{b:Nat}{t:RT}
end
section
variable {n:Nat}{hp h:zaa}{b:Nat}{t:RT}
end
abbrev tEn:Nat:=147
structure ES (h0 h:zaa) (b A B:Nat) (cs:List AV) (t:RT):Prop where
 r:RRd h b t
 a:h[A]?=some (.cells 0 (some tEn) (keyE []).cells 0)
 e:h[B]?=some (.cells 0 (some tEn) cs 0)
 k:Keep h0 h [b]
 ne:b<A ∧ A<B ∧ h0.length ≤ A
theorem ES.next {h0 h h':zaa}{b A B:Nat}{cs:List AV}{t t':RT}(s:ES h0 h b A B cs t) (k:Keep h h' [b]) (r:RRd h' b t'):ES h0 h' b A B cs t':=by
 obtain ⟨n1,n2,n3⟩:=s.ne
 exact ⟨r,k.get s.a (by simp;omega),k.get s.e (by simp;omega),s.k.trans k (fun x hx=>.inl hx),s.ne⟩
theorem ES.set {h0 h:zaa}{b A B:Nat}{cs cs':List AV}{t:RT}(s:ES h0 h b A B cs t):ES h0 (h.set B (.cells 0 (some tEn) cs' 0)) b A B cs' t:=by
 obtain ⟨n1,n2,n3⟩:=s.ne
 refine ⟨?_,?_,?_,?_,s.ne⟩
 ·unfold RRd;rw [List.getElem?_set_ne (by omega)];exact s.r
 ·rw [List.getElem?_set_ne (by omega)];exact s.a
 ·rw [List.getElem?_set_self (zac s.e)]
 ·exact s.k.set' (.inr (by omega))
theorem ES.done {h0 h:zaa}{b A B:Nat}{cs cs':List AV}{t:RT}(s:ES h0 h b A B cs t):(h.set A (.cells 0 (some tEn) cs' 0))[A]?=some (.cells 0 (some tEn) cs' 0) ∧ RRd (h.set A (.cells 0 (some tEn) cs' 0)) b t ∧ Keep h0 (h.set A (.cells 0 (some tEn) cs' 0)) [b]:=by
 obtain ⟨n1,n2,n3⟩:=s.ne
 refine ⟨?_,?_,?_⟩
 ·rw [List.getElem?_set_self (zac s.a)]
 ·unfold RRd;rw [List.getElem?_set_ne (by omega)];exact s.r
 ·exact s.k.set' (.inr (by omega))
section
variable {n:Nat}{hp h:zaa}{b:Nat}{t:RT}
end
abbrev tPg:Nat:=79
structure PSt (h:zaa) (cs:List AV) (t:RT):Prop where
 a:h[0]?=some (.cells 0 (some tPg) zbr 0)
 r:RRd h 1 t
 p:h[2]?=some (.cells 0 (some tPg) cs 0)
theorem PSt.next {h h':zaa}{cs:List AV}{t t':RT}(s:PSt h cs t) (k:Keep h h' [1]) (r:RRd h' 1 t'):PSt h' cs t' :=
 ⟨k.get s.a (by simp),r,k.get s.p (by simp)⟩
theorem PSt.set {h:zaa}{cs cs':List AV}{t:RT}(s:PSt h cs t):PSt (h.set 2 (.cells 0 (some tPg) cs' 0)) cs' t:=by
 refine ⟨?_,?_,?_⟩
 ·rw [List.getElem?_set_ne (by omega)];exact s.a
 ·unfold RRd;rw [List.getElem?_set_ne (by omega)];exact s.r
 ·rw [List.getElem?_set_self (zac s.p)]
theorem PSt.stays {h h':zaa}{cs:List AV}{t:RT}{F:List Nat}(s:PSt h cs t) (k:Keep h h' F) (hF:∀ z∈F,3 ≤ z):PSt h' cs t :=
 ⟨k.get s.a (fun q=>by have:=hF _ q;omega),k.get s.r (fun q=>by have:=hF _ q;omega),k.get s.p (fun q=>by have:=hF _ q;omega)⟩
def hA (t:RT):=rnum 1 t
def hB (t:RT):=rnum 4 (hA t).2
def hC (t:RT):=rnum 6 (hB t).2
def nA (t:RT):=rnum 1 t
def nB (t:RT):=rnum 1 (nA t).2
def nC (t:RT):=rnum 1 (nB t).2
def nD (t:RT):=rnum 1 (nC t).2
def nE (t:RT):=rnum 2 (nD t).2
section
variable {m:Nat}{s:Str}{h:zaa}{L:AV}{G I:List Nat}{k no v tr lv next:Nat}{top:Bool}{es:List Entry}{d:Str}{t:RT}{Lt:LT}
end
section
variable {m:Nat}{s:Str}
end
def zPage:Page:=⟨0,0,0,0,0,false,⟨0,true⟩,[],0,[],⟨0,true⟩,[]⟩
section
variable {n:Nat}{h:zaa}{s:Str}
end
end Go.Proofs
