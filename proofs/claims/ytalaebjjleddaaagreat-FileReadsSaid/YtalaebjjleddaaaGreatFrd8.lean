/- Texts put together: Ta, Sa, Sb, Sc, C0, Tb, Wb, Wc, Wd0, Wd, Rb, Rc. -/
import Derived.Test.YtalaebjjleddaaaGreatFrd7
set_option linter.unusedVariables false
set_option linter.unusedSimpArgs false
namespace Go.Proofs
open Go Go.Abs
def c224:RC :=
 (.seq (.ops [(oH 4 0),(oH 5 0)])
 (.seq (.seq (.ops [(mV 11 1),(oP 12 (.callF 191 [(.t 11),(.c (.int .i64 0)),(.c (.int .i64 20))])),(oP 13 (.un .not (.t 12)))])
 (.cond (.t 13)
 (.seq (.ops [(oH 4 0),(oH 5 2)])
 .ret)
 .skip))
 (.seq (.ops [(oH 6 6)])
 (.seq (.seq (.ops [(mV 14 0),(oK 15 14),(oH 16 0)])
 (.block 0
 (.loop
 (.seq (.ops [(oI 17 .lss 16 15)])
 (.seq (.cond (.t 17)
 .skip
 (.exit 0))
 (.seq (.block 1
 (.seq (.ops [(oS 18 22 14 16),(oB 19 22 18),(oP 8 (.alloc 147 [(.str []),(.str []),(.int .i64 0),(.int .i64 0),(.int .i64 0),(.int .i64 0),(.int .u8 0),(.int .u8 0),(.int .u8 0),(.int .u8 0),(.int .u8 0),(.int .u8 0),(.int .u8 0),(.int .u8 0),(.int .u8 0),(.int .u8 0),(.int .u8 0),(.int .u8 0),(.int .u8 0),(.int .u8 0),(.int .u8 0),(.int .u8 0)])),(oT 22 8 19)])
 (.seq (.ops [(oB 21 22 8),(mV 22 1),(oW 23 246 21 22),(mV 20 23),(oQ 24 20 0),(oQ 25 20 1),(mV 9 24),(mV 10 25)])
 (.seq (.seq (.ops [(mV 26 10),(oP 27 (.un .not (.t 26)))])
 (.cond (.t 27)
 (.seq (.ops [(oH 4 0),(oH 5 2)])
 .ret)
 .skip))
 (.ops [(mV 28 6),(mV 29 9),(oI 30 .add 28 29),(mV 6 30)])))))
 (.ops [(oJ 31 .add 16 1),(mV 16 31)])))))))
 (.cut (.seq (.ops [(mV 32 6),(mV 4 32),(oH 5 0)])
 .ret))))))
theorem F224:FI 224 2 33 6 [.tmp 4,.tmp 5] c224:=mkF Tryz.f224 Tryz.func224
def c223:RC :=
 (.seq (.ops [(oP 4 (.mv (.c (.bool false))))])
 (.seq (.seq (.ops [(mV 7 1),(oP 8 (.callF 191 [(.t 7),(.c (.int .i64 0)),(.c (.int .i64 20))])),(oP 9 (.un .not (.t 8))),(mV 10 9),(oE 11 10 false 0),(oG 12 10 false (.lenL (.t 11))),(oG 13 10 false (.bin .eql (.t 12) (.c (.int .i64 0)))),(oM 14 10 13),(mV 15 14),(oE 16 15 false 1),(oG 17 15 false (.bin .gtr (.t 16) (.c (.int .i64 0)))),(oE 18 15 false 17),(oE 19 18 true 0),(oG 20 18 true (.lenL (.t 19))),(oG 21 18 true (.bin .lss (.t 20) (.c (.int .i64 2)))),(oE 22 18 true 21),(oE 23 22 false 0),(oG 24 22 false (.indexAddrL 22 (.t 23) (.c (.int .i64 0)))),(oF 25 22 false 0 24),(oD 26 22 false 25),(oG 27 22 false (.bin .neq (.t 26) (.c (.str [])))),(oG 28 18 true (.pick (.t 22) (.c (.bool true)) (.t 27))),(oG 29 15 false (.pick (.t 18) (.t 28) (.c (.bool false)))),(oM 30 15 29)])
 (.cond (.t 30)
 (.seq (.ops [(oP 4 (.mv (.c (.bool false))))])
 .ret)
 .skip))
 (.seq (.seq (.ops [(mV 31 0),(oK 32 31),(oH 33 0)])
 (.block 0
 (.loop
 (.seq (.ops [(oI 34 .lss 33 32)])
 (.seq (.cond (.t 34)
 .skip
 (.exit 0))
 (.seq (.block 1
 (.seq (.ops [(mV 35 33),(oS 36 22 31 33),(oB 37 22 36),(oP 6 (.alloc 147 [(.str []),(.str []),(.int .i64 0),(.int .i64 0),(.int .i64 0),(.int .i64 0),(.int .u8 0),(.int .u8 0),(.int .u8 0),(.int .u8 0),(.int .u8 0),(.int .u8 0),(.int .u8 0),(.int .u8 0),(.int .u8 0),(.int .u8 0),(.int .u8 0),(.int .u8 0),(.int .u8 0),(.int .u8 0),(.int .u8 0),(.int .u8 0)])),(mV 5 35),(oT 22 6 37)])
 (.block 2
 (.seq (.seq (.ops [(mV 39 1),(oJ 40 .eql 39 0),(mV 41 40),(oG 42 41 true (.load true 22 (.t 6))),(oG 43 41 true (.callF 243 [(.t 42)])),(oG 44 41 true (.bin .eql (.t 43) (.c (.int .i64 0)))),(oN 45 41 44),(mV 38 45)])
 (.cond (.t 38)
 .skip
 (.ops [(mV 46 1),(oJ 47 .gtr 46 0),(mV 48 47),(oG 49 48 true (.load true 22 (.t 6))),(oG 50 48 true (.callF 244 [(.t 49)])),(oG 51 48 true (.un .not (.t 50))),(oE 52 48 true 51),(oE 53 52 false 5),(oG 54 52 false (.bin .gtr (.t 53) (.c (.int .i64 0)))),(oE 55 52 false 54),(oF 56 55 true 0 6),(oD 57 55 true 56),(oG 58 55 true (.bin .eql (.t 57) (.c (.str [])))),(oG 59 52 false (.pick (.t 55) (.t 58) (.c (.bool false)))),(oG 60 48 true (.pick (.t 52) (.c (.bool true)) (.t 59))),(oN 61 48 60),(mV 38 61)])))
 (.cond (.t 38)
 (.seq (.ops [(oP 4 (.mv (.c (.bool false))))])
 .ret)
 (.seq (.draw [((mV 63 5),0),((oJ 64 .gtr 63 0),0),((mV 65 64),0),((oE 66 65 true 0),0),((oE 67 65 true 5),0),((oG 68 65 true (.bin .sub (.t 67) (.c (.int .i64 1)))),0),((oG 69 65 true (.indexAddrL 22 (.t 66) (.t 68))),0),((oF 70 65 true 0 69),0),((oD 71 65 true 70),1),((oF 72 65 true 0 6),0),((oD 73 65 true 72),1),((oG 74 65 true (.callF 245 [(.t 71),(.t 73)])),4),((oG 75 65 true (.bin .geq (.t 74) (.c (.int .i64 0)))),0),((oN 76 65 75),0),((mV 62 76),0)])
 (.cond (.t 62)
 (.seq (.ops [(oP 4 (.mv (.c (.bool false))))])
 .ret)
 .skip)))))))
 (.ops [(oJ 77 .add 33 1),(mV 33 77)])))))))
 (.cut (.seq (.ops [(oP 4 (.mv (.c (.bool true))))])
 .ret)))))
theorem F223:FI 223 2 78 7 [.tmp 4] c223:=mkF Tryz.f223 Tryz.func223
def c192:RC :=
 (.seq (.ops [(oP 4 (.mv (.c (.bool false))))])
 (.seq (.seq (.ops [(mV 7 0),(mV 8 1),(oW 9 223 7 8),(oP 10 (.un .not (.t 9)))])
 (.cond (.t 10)
 (.seq (.ops [(oP 4 (.mv (.c (.bool false))))])
 .ret)
 .skip))
 (.seq (.ops [(mV 12 0),(mV 13 1),(oW 14 224 12 13),(mV 11 14),(oQ 15 11 0),(oQ 16 11 1),(mV 5 15),(mV 6 16)])
 (.seq (.ops [(mV 17 5),(oJ 18 .leq 17 496),(mV 4 18)])
 .ret))))
theorem F192:FI 192 2 19 5 [.tmp 4] c192:=mkF Tryz.f192 Tryz.func192
def c279:RC :=
 (.seq (.ops [(oP 4 (.mv (.c (.str []))))])
 (.seq (.seq (.ops [(mV 8 1),(oJ 9 .gtr 8 0)])
 (.cond (.t 9)
 (.ops [(mV 10 0),(oP 11 (.sliceL 22 (.t 10) (some (.c (.int .i64 1))) none none)),(mV 0 11)])
 .skip))
 (.cut (.seq (.ops [(mV 12 0),(oP 13 (.indexAddrL 22 (.t 12) (.c (.int .i64 0)))),(oC 14 0 13),(oA 15 14),(mV 5 15)])
 (.seq (.seq (.ops [(mV 16 0),(oP 17 (.sliceL 22 (.t 16) (some (.c (.int .i64 1))) none none)),(oK 18 17),(oH 19 0)])
 (.block 0
 (.loop
 (.seq (.ops [(oI 20 .lss 19 18)])
 (.seq (.cond (.t 20)
 .skip
 (.exit 0))
 (.seq (.block 1
 (.seq (.ops [(oS 21 22 17 19),(oB 22 22 21),(oP 7 (.alloc 147 [(.str []),(.str []),(.int .i64 0),(.int .i64 0),(.int .i64 0),(.int .i64 0),(.int .u8 0),(.int .u8 0),(.int .u8 0),(.int .u8 0),(.int .u8 0),(.int .u8 0),(.int .u8 0),(.int .u8 0),(.int .u8 0),(.int .u8 0),(.int .u8 0),(.int .u8 0),(.int .u8 0),(.int .u8 0),(.int .u8 0),(.int .u8 0)])),(oT 22 7 22)])
 (.ops [(mV 23 5),(mV 24 5),(oC 25 0 7),(oA 26 25),(oW 27 281 24 26),(oP 28 (.sliceS (.t 23) none (some (.t 27)))),(mV 5 28)])))
 (.ops [(oJ 29 .add 19 1),(mV 19 29)])))))))
 (.cut (.seq (.ops [(mV 30 5),(mV 4 30)])
 .ret)))))))
theorem F279:FI 279 2 31 6 [.tmp 4] c279:=mkF Tryz.f279 Tryz.func279
def c191:RC :=
 (.seq (.ops [(oP 6 (.mv (.c (.bool false))))])
 (.seq (.ops [(mV 7 1),(mV 8 0),(oI 9 .leq 7 8),(mV 10 9),(oE 11 10 true 0),(oE 12 10 true 2),(oG 13 10 true (.bin .leq (.t 11) (.t 12))),(oN 14 10 13),(mV 6 14)])
 .ret))
theorem F191:FI 191 3 15 5 [.tmp 6] c191:=mkF Tryz.f191 Tryz.func191
def c246:RC :=
 (.seq (.ops [(oP 2 (.box 147 (.t 0))),(oH 4 0),(oP 5 (.mv (.c (.bool false))))])
 (.seq (.seq (.ops [(mV 6 1),(oJ 7 .gtr 6 0)])
 (.cond (.t 7)
 (.seq (.draw [((oC 8 0 2),0),((oA 9 8),1),((oP 10 (.lenS (.t 9))),0),((oJ 11 .add 10 27),0),((oB 12 22 2),1),((oV 13 244 12),4),((mV 4 11),0),((mV 5 13),0)])
 .ret)
 .skip))
 (.seq (.seq (.ops [(oB 14 22 2),(oV 15 243 14)])
 (.block 0
 (.seq (.ops [(oJ 17 .eql 15 1),(mV 16 17)])
 (.cond (.t 16)
 (.seq (.ops [(oC 18 0 2),(oA 19 18),(oP 20 (.lenS (.t 19))),(oC 21 1 2),(oA 22 21),(oP 23 (.lenS (.t 22))),(oI 24 .add 20 23),(oJ 25 .add 24 5),(mV 4 25),(oP 5 (.mv (.c (.bool true))))])
 .ret)
 (.seq (.ops [(oJ 27 .eql 15 2),(mV 26 27)])
 (.cond (.t 26)
 (.seq (.ops [(oC 28 0 2),(oA 29 28),(oP 30 (.lenS (.t 29))),(oJ 31 .add 30 27),(mV 4 31),(oP 5 (.mv (.c (.bool true))))])
 .ret)
 (.seq (.ops [(oJ 33 .eql 15 3),(mV 32 33)])
 (.cond (.t 32)
 (.seq (.ops [(oC 34 0 2),(oA 35 34),(oP 36 (.lenS (.t 35))),(oJ 37 .add 36 29),(mV 4 37),(oP 5 (.mv (.c (.bool true))))])
 .ret)
 .skip))))))))
 (.seq (.ops [(oH 4 0),(oP 5 (.mv (.c (.bool false))))])
 .ret))))
theorem F246:FI 246 2 38 6 [.tmp 4,.tmp 5] c246:=mkF Tryz.f246 Tryz.func246
def c243:RC :=
 (.seq (.ops [(oP 1 (.box 147 (.t 0))),(oH 2 0)])
 (.seq (.ops [(oP 3 (.alloc 23 [(.int .u8 0),(.int .u8 0),(.int .u8 0),(.int .u8 0),(.int .u8 0),(.int .u8 0),(.int .u8 0),(.int .u8 0),(.int .u8 0),(.int .u8 0),(.int .u8 0),(.int .u8 0),(.int .u8 0),(.int .u8 0),(.int .u8 0),(.int .u8 0)]))])
 (.seq (.block 0
 (.seq (.ops [(oC 5 0 1),(oA 6 5),(oP 7 (.lenS (.t 6))),(oP 8 (.callF 191 [(.t 7),(.c (.int .i64 1)),(.c (.int .i64 48))])),(oP 9 (.un .not (.t 8))),(mV 4 9)])
 (.cond (.t 4)
 (.seq (.ops [(oH 2 0)])
 .ret)
 (.seq (.ops [(oC 11 2 1),(oA 12 11),(oJ 13 .eql 12 0),(mV 14 13),(oF 15 14 true 3 1),(oD 16 14 true 15),(oG 17 14 true (.bin .eql (.t 16) (.c (.int .i64 0)))),(oN 18 14 17),(mV 19 18),(oF 20 19 true 4 1),(oD 21 19 true 20),(oG 22 19 true (.bin .eql (.t 21) (.c (.int .i64 0)))),(oN 23 19 22),(mV 24 23),(oF 25 24 true 5 1),(oD 26 24 true 25),(oG 27 24 true (.bin .eql (.t 26) (.c (.int .i64 0)))),(oN 28 24 27),(mV 29 28),(oF 30 29 true 6 1),(oG 31 29 true (.load true 16 (.t 30))),(oG 32 29 true (.load true 16 (.t 3))),(oG 33 29 true (.cmp false 23 (.t 31) (.t 32))),(oN 34 29 33),(mV 35 34),(oF 36 35 true 1 1),(oD 37 35 true 36),(oG 38 35 true (.lenS (.t 37))),(oG 39 35 true (.bin .leq (.t 38) (.c (.int .i64 64)))),(oN 40 35 39),(mV 10 40)])
 (.cond (.t 10)
 (.seq (.ops [(oH 2 1)])
 .ret)
 (.seq (.ops [(oC 42 1 1),(oA 43 42),(oP 44 (.bin .neq (.t 43) (.c (.str [])))),(mV 41 44)])
 (.cond (.t 41)
 (.seq (.ops [(oH 2 0)])
 .ret)
 (.seq (.ops [(oC 46 4 1),(oA 47 46),(oJ 48 .eql 47 0),(mV 49 48),(oF 50 49 true 5 1),(oD 51 49 true 50),(oG 52 49 true (.bin .eql (.t 51) (.c (.int .i64 0)))),(oN 53 49 52),(mV 54 53),(oF 55 54 true 2 1),(oD 56 54 true 55),(oG 57 54 true (.callF 190 [(.t 56)])),(oN 58 54 57),(mV 59 58),(oF 60 59 true 3 1),(oD 61 59 true 60),(oG 62 59 true (.callF 191 [(.t 61),(.c (.int .i64 65)),(.c (.int .i64 4000))])),(oN 63 59 62),(mV 45 63)])
 (.cond (.t 45)
 (.seq (.ops [(oH 2 2)])
 .ret)
 (.seq (.ops [(oC 65 2 1),(oA 66 65),(oJ 67 .eql 66 0),(mV 68 67),(oF 69 68 true 3 1),(oD 70 68 true 69),(oG 71 68 true (.bin .eql (.t 70) (.c (.int .i64 0)))),(oN 72 68 71),(mV 73 72),(oF 74 73 true 4 1),(oD 75 73 true 74),(oG 76 73 true (.callF 190 [(.t 75)])),(oN 77 73 76),(mV 78 77),(oF 79 78 true 5 1),(oD 80 78 true 79),(oG 81 78 true (.callF 191 [(.t 80),(.c (.int .i64 1)),(.c (.int .i64 2147483647))])),(oN 82 78 81),(mV 64 82)])
 (.cond (.t 64)
 (.seq (.ops [(oH 2 3)])
 .ret)
 .skip)))))))))))
 (.seq (.ops [(oH 2 0)])
 .ret))))
theorem F243:FI 243 1 83 7 [.tmp 2] c243:=mkF Tryz.f243 Tryz.func243
def c244:RC :=
 (.seq (.ops [(oP 1 (.box 147 (.t 0))),(oP 2 (.mv (.c (.bool false))))])
 (.seq (.ops [(oC 3 0 1),(oA 4 3),(oP 5 (.lenS (.t 4))),(oJ 6 .leq 5 48),(mV 7 6),(oF 8 7 true 1 1),(oD 9 7 true 8),(oG 10 7 true (.bin .eql (.t 9) (.c (.str [])))),(oN 11 7 10),(mV 12 11),(oF 13 12 true 2 1),(oD 14 12 true 13),(oG 15 12 true (.bin .eql (.t 14) (.c (.int .i64 0)))),(oN 16 12 15),(mV 17 16),(oF 18 17 true 3 1),(oD 19 17 true 18),(oG 20 17 true (.bin .eql (.t 19) (.c (.int .i64 0)))),(oN 21 17 20),(mV 22 21),(oF 23 22 true 4 1),(oD 24 22 true 23),(oG 25 22 true (.callF 190 [(.t 24)])),(oN 26 22 25),(mV 27 26),(oF 28 27 true 5 1),(oD 29 27 true 28),(oG 30 27 true (.callF 191 [(.t 29),(.c (.int .i64 1)),(.c (.int .i64 2147483647))])),(oN 31 27 30),(mV 2 31)])
 .ret))
theorem F244:FI 244 1 32 6 [.tmp 2] c244:=mkF Tryz.f244 Tryz.func244
def c245:RC :=
 (.seq (.ops [(oH 4 0)])
 (.seq (.ops [(mV 5 0),(mV 6 1),(oW 7 254 5 6),(mV 4 7)])
 .ret))
theorem F245:FI 245 2 8 4 [.tmp 4] c245:=mkF Tryz.f245 Tryz.func245
def c190:RC :=
 (.seq (.ops [(oP 2 (.mv (.c (.bool false))))])
 (.seq (.ops [(mV 3 0),(oP 4 (.callF 191 [(.t 3),(.c (.int .i64 2)),(.c (.int .i64 4095))])),(mV 2 4)])
 .ret))
theorem F190:FI 190 1 5 3 [.tmp 2] c190:=mkF Tryz.f190 Tryz.func190
def c281:RC :=
 (.seq (.ops [(oH 4 0)])
 (.seq (.ops [(oH 5 0)])
 (.seq (.block 0
 (.loop
 (.seq (.seq (.draw [((mV 6 5),0),((mV 7 0),0),((oP 8 (.lenS (.t 7))),0),((mV 9 1),0),((oP 10 (.lenS (.t 9))),0),((oP 11 (.mm false (.t 8) (.t 10))),0),((oI 12 .lss 6 11),0),((mV 13 12),0),((oE 14 13 true 0),0),((oE 15 13 true 5),0),((oG 16 13 true (.indexS (.t 14) (.t 15))),0),((oE 17 13 true 1),0),((oE 18 13 true 5),0),((oG 19 13 true (.indexS (.t 17) (.t 18))),0),((oG 20 13 true (.bin .eql (.t 16) (.t 19))),0),((oN 21 13 20),0)])
 (.cond (.t 21)
 .skip
 (.exit 0)))
 (.block 1
 (.ops [(mV 22 5),(oJ 23 .add 22 1),(mV 5 23)])))))
 (.cut (.seq (.ops [(mV 24 5),(mV 4 24)])
 .ret)))))
theorem F281:FI 281 2 25 5 [.tmp 4] c281:=mkF Tryz.f281 Tryz.func281
def c254:RC :=
 (.seq (.ops [(oH 4 0)])
 (.seq (.ops [(mV 7 0),(oV 8 258 7),(mV 5 8)])
 (.seq (.ops [(mV 9 1),(oV 10 258 9),(mV 6 10)])
 (.seq (.seq (.ops [(mV 11 5)])
 (.cond (.t 11)
 (.seq (.seq (.ops [(mV 12 6)])
 (.cond (.t 12)
 (.seq (.ops [(oH 4 0)])
 .ret)
 .skip))
 (.seq (.ops [(oP 4 (.mv (.c (.int .i64 (-1)))))])
 .ret))
 .skip))
 (.seq (.seq (.ops [(mV 13 6)])
 (.cond (.t 13)
 (.seq (.ops [(oH 4 1)])
 .ret)
 .skip))
 (.seq (.seq (.ops [(mV 14 0),(mV 15 1),(oI 16 .lss 14 15)])
 (.cond (.t 16)
 (.seq (.ops [(oP 4 (.mv (.c (.int .i64 (-1)))))])
 .ret)
 .skip))
 (.seq (.seq (.ops [(mV 17 0),(mV 18 1),(oI 19 .gtr 17 18)])
 (.cond (.t 19)
 (.seq (.ops [(oH 4 1)])
 .ret)
 .skip))
 (.seq (.ops [(oH 4 0)])
 .ret))))))))
theorem F254:FI 254 2 20 5 [.tmp 4] c254:=mkF Tryz.f254 Tryz.func254
def c258:RC :=
 (.seq (.ops [(oP 2 (.mv (.c (.bool false))))])
 (.seq (.ops [(mV 3 0),(mV 4 0),(oI 5 .neq 3 4),(mV 2 5)])
 .ret))
theorem F258:FI 258 1 6 3 [.tmp 2] c258:=mkF Tryz.f258 Tryz.func258
def c135:RC :=
 (.seq (.ops [(oP 2 (.mv (.c (.int .u32 0))))])
 (.seq (.ops [(mV 3 0),(oP 4 (.callF 188 [(.c (.int .u32 0)),(.t 3)])),(mV 2 4)])
 .ret))
theorem F135:FI 135 1 5 3 [.tmp 2] c135:=mkF Tryz.f135 Tryz.func135
def c188:RC :=
 (.seq (.ops [(oP 4 (.mv (.c (.int .u32 0))))])
 (.seq (.ops [(oP 8 (.callF 222 [])),(oP 5 (.alloc 303 (List.replicate 256 (.int .u32 0)))),(oT 256 5 8)])
 (.seq (.ops [(mV 9 0),(oP 10 (.un .xor (.t 9))),(mV 6 10)])
 (.seq (.seq (.ops [(mV 11 1),(oP 12 (.lenS (.t 11))),(oH 13 0)])
 (.block 0
 (.loop
 (.seq (.ops [(oI 14 .lss 13 12)])
 (.seq (.cond (.t 14)
 .skip
 (.exit 0))
 (.seq (.block 1
 (.seq (.ops [(mV 15 13),(mV 7 15)])
 (.ops [(mV 16 6),(oP 17 (.toInt .u8 (.t 16))),(mV 18 1),(mV 19 7),(oP 20 (.indexS (.t 18) (.t 19))),(oI 21 .xor 17 20),(oP 22 (.indexAddrA 256 1 (.t 5) (.t 21))),(oA 23 22),(mV 24 6),(oP 25 (.bin .shr (.t 24) (.c (.int .u64 8)))),(oI 26 .xor 23 25),(mV 6 26)])))
 (.ops [(oJ 27 .add 13 1),(mV 13 27)])))))))
 (.cut (.seq (.ops [(mV 28 6),(oP 29 (.un .xor (.t 28))),(mV 4 29)])
 .ret))))))
theorem F188:FI 188 2 30 5 [.tmp 4] c188:=mkF Tryz.f188 Tryz.func188
def c222:RC :=
 (.seq (.ops [(oP 0 (.alloc 303 (List.replicate 256 (.int .u32 0))))])
 (.seq (.seq (.ops [(oH 3 0)])
 (.block 0
 (.loop
 (.seq (.ops [(oJ 4 .lss 3 256)])
 (.seq (.cond (.t 4)
 .skip
 (.exit 0))
 (.seq (.block 1
 (.seq (.ops [(mV 5 3),(mV 1 5)])
 (.seq (.ops [(mV 6 1),(oP 7 (.toInt .u32 (.t 6))),(mV 2 7)])
 (.seq (.seq (.ops [(oH 8 0)])
 (.block 2
 (.loop
 (.seq (.ops [(oJ 9 .lss 8 8)])
 (.seq (.cond (.t 9)
 .skip
 (.exit 2))
 (.seq (.block 3
 (.ops [(mV 10 2),(oV 11 242 10),(mV 2 11)]))
 (.ops [(oJ 12 .add 8 1),(mV 8 12)])))))))
 (.cut (.ops [(mV 13 1),(mV 14 2),(oP 15 (.indexAddrA 256 1 (.t 0) (.t 13))),(oT 1 15 14)]))))))
 (.cut (.ops [(oJ 16 .add 3 1),(mV 3 16)]))))))))
 (.cut (.seq (.ops [(oB 17 256 0),(oT 256 0 17)])
 .ret))))
theorem F222:FI 222 0 18 5 [.cell 0 303] c222:=mkF Tryz.f222 Tryz.func222
def c242:RC :=
 (.seq (.ops [(oP 2 (.mv (.c (.int .u32 0))))])
 (.seq (.seq (.ops [(mV 3 0),(oP 4 (.bin .and (.t 3) (.c (.int .u32 1)))),(oP 5 (.bin .eql (.t 4) (.c (.int .u32 1))))])
 (.cond (.t 5)
 (.seq (.ops [(mV 6 0),(oP 7 (.bin .shr (.t 6) (.c (.int .u64 1)))),(oP 8 (.bin .xor (.t 7) (.c (.int .u32 3988292384)))),(mV 2 8)])
 .ret)
 .skip))
 (.seq (.ops [(mV 9 0),(oP 10 (.bin .shr (.t 9) (.c (.int .u64 1)))),(mV 2 10)])
 .ret)))
theorem F242:FI 242 1 11 4 [.tmp 2] c242:=mkF Tryz.f242 Tryz.func242
def cfgN:Cfg:=⟨inl0,fun _ _=>none,fun _ _ _=>none,fun _=>false⟩
noncomputable abbrev CC (n:Nat):zbp:=CN Tryz.prog cfgN n
@[reducible] def u32 (c:UInt32):AV:=.int .u32 c.toNat
theorem zko (b:BitVec 32):IntKind.u32.wrap (b.toNat:Int)=(b.toNat:Int):=by
 have h:=b.isLt
 show (if (IntKind.u32.signed&&decide ((b.toNat:Int) % (2 ^ 32:Int)≥(2 ^ (32-1):Int)))=true then (b.toNat:Int) % (2 ^ 32:Int)-2 ^ 32 else (b.toNat:Int) % (2 ^ 32:Int))=_
 rw [if_neg (by simp [IntKind.signed])]
 omega
theorem z50 (b:BitVec 8):IntKind.u8.wrap (b.toNat:Int)=(b.toNat:Int):=by
 have h:=b.isLt
 show (if (IntKind.u8.signed&&decide ((b.toNat:Int) % (2 ^ 8:Int)≥(2 ^ (8-1):Int)))=true then (b.toNat:Int) % (2 ^ 8:Int)-2 ^ 8 else (b.toNat:Int) % (2 ^ 8:Int))=_
 rw [if_neg (by simp [IntKind.signed])]
 omega
theorem bv32 (c:UInt32):BitVec.ofInt 32 (c.toNat:Int)=c.toBitVec:=by
 rw [BitVec.ofInt_natCast];apply BitVec.eq_of_toNat_eq;simp
theorem z8d (c d:UInt32):IntKind.u32.wrap (BitVec.ofInt IntKind.u32.bits (c.toNat:Int) &&& BitVec.ofInt IntKind.u32.bits (d.toNat:Int)).toNat=((c &&& d).toNat:Int):=by
 show IntKind.u32.wrap (BitVec.ofInt 32 (c.toNat:Int) &&& BitVec.ofInt 32 (d.toNat:Int)).toNat=_
 rw [bv32,bv32,zko];rfl
theorem zn2 (c d:UInt32):IntKind.u32.wrap (BitVec.ofInt IntKind.u32.bits (c.toNat:Int) ^^^ BitVec.ofInt IntKind.u32.bits (d.toNat:Int)).toNat=((c ^^^ d).toNat:Int):=by
 show IntKind.u32.wrap (BitVec.ofInt 32 (c.toNat:Int) ^^^ BitVec.ofInt 32 (d.toNat:Int)).toNat=_
 rw [bv32,bv32,zko];rfl
theorem xor_u8 (c d:UInt8):IntKind.u8.wrap (BitVec.ofInt IntKind.u8.bits (c.toNat:Int) ^^^ BitVec.ofInt IntKind.u8.bits (d.toNat:Int)).toNat=((c ^^^ d).toNat:Int):=by
 show IntKind.u8.wrap (BitVec.ofInt 8 (c.toNat:Int) ^^^ BitVec.ofInt 8 (d.toNat:Int)).toNat=_
 have e:∀ c:UInt8,BitVec.ofInt 8 (c.toNat:Int)=c.toBitVec:=fun c=>by rw [BitVec.ofInt_natCast];apply BitVec.eq_of_toNat_eq;simp
 rw [e,e,z50];rfl
theorem zov (c:UInt32):IntKind.u32.wrap (BitVec.ofInt IntKind.u32.bits (if IntKind.u32.signed then -1 else IntKind.u32.max) ^^^ BitVec.ofInt IntKind.u32.bits (c.toNat:Int)).toNat=((~~~c).toNat:Int):=by
 show IntKind.u32.wrap (BitVec.ofInt 32 4294967295 ^^^ BitVec.ofInt 32 (c.toNat:Int)).toNat=_
 rw [bv32,zko]
 have:(BitVec.ofInt 32 4294967295 ^^^ c.toBitVec)= ~~~c.toBitVec:=by
  rw [show BitVec.ofInt 32 4294967295=BitVec.allOnes 32 by decide]
  exact BitVec.allOnes_xor
 rw [this];rfl
theorem zk8 (c:UInt32) (k:Nat) (hk:k<32):((c.toNat:Int)).fdiv (2 ^ (min (k:Int).toNat IntKind.u32.bits))=((c >>> (UInt32.ofNat k)).toNat:Int):=by
 have h1:min (k:Int).toNat IntKind.u32.bits=k:=by show min (k:Int).toNat 32=k;omega
 rw [h1]
 have h2:(c >>> (UInt32.ofNat k)).toNat=c.toNat / 2 ^ k:=by
  rw [UInt32.toNat_shiftRight,UInt32.toNat_ofNat',Nat.shiftRight_eq_div_pow]
  rw [Nat.mod_eq_of_lt (show k<2 ^ 32 by omega),Nat.mod_eq_of_lt hk]
 rw [h2,Int.fdiv_eq_ediv_of_nonneg _ (by exact Int.pow_nonneg (by decide))]
 norm_cast
theorem z5f (c:UInt32):IntKind.u8.wrap (c.toNat:Int)=(c.toUInt8.toNat:Int):=by
 have h:=c.toNat_lt
 show (if (IntKind.u8.signed&&decide ((c.toNat:Int) % (2 ^ 8:Int)≥(2 ^ (8-1):Int)))=true then (c.toNat:Int) % (2 ^ 8:Int)-2 ^ 8 else (c.toNat:Int) % (2 ^ 8:Int))=_
 rw [if_neg (by simp [IntKind.signed]),UInt32.toNat_toUInt8]
 omega
def bit (c:UInt32):UInt32:=if c &&& 1=1 then (c >>> 1) ^^^ 3988292384 else c >>> 1
theorem z44 {c d:UInt32}:((c.toNat:Int)==(d.toNat:Int))=decide (c=d):=by
 by_cases h:c=d
 ·subst h;simp
 ·simp [h];intro h';exact h (UInt32.toNat_inj.1 (by omega))
section
variable {n:Nat}{h:zaa}
theorem bit_eq (hn:1 ≤ n) (c:UInt32):CC n 242 [u32 c] h=some (.ret (u32 (bit c)),h):=by
 obtain ⟨m,rfl⟩:=pre1 n
 refine zad F242 rfl rfl rfl rfl ?_
 conv=>whnf
 refine zI (z8d c 1) ?_
 conv=>whnf
 have e1:=@z44 (c &&& 1) 1
 refine br (fun a=>?_) (fun a=>?_)
 ·have a':c &&& 1=1:=by simpa [e1] using e1.symm.trans a
  conv=>whnf
  refine ⟨by decide,_,zk8 c 1 (by decide),?_⟩
  conv=>whnf
  refine zI (zn2 _ 3988292384) ?_
  conv=>whnf
  exact retP rfl (zb2 (by simp [bit,a']))
 ·have a':¬ c &&& 1=1:=by simpa [e1] using e1.symm.trans a
  conv=>whnf
  refine ⟨by decide,_,zk8 c 1 (by decide),?_⟩
  conv=>whnf
  exact retP rfl (zb2 (by simp [bit,a']))
def tab (i:UInt8):UInt32:=bit (bit (bit (bit (bit (bit (bit (bit i.toUInt32)))))))
def bits:Nat → UInt32 → UInt32
 | 0,c=>c
 | k+1,c=>bits k (bit c)
theorem zmj:∀ (k:Nat) (c:UInt32),bits (k+1) c=bit (bits k c)
 | 0,c=>rfl
 | k+1,c=>zmj k (bit c)
def tabV (j:Nat):AV:=u32 (bits 8 (UInt32.ofNat j))
def tabC (i:Nat):List AV:=(List.range 256).map fun j=>if j<i then tabV j else .int .u32 0
theorem zd7 (i:Nat):(tabC i).length=256:=by simp [tabC]
theorem zxk (i:Nat):(tabC i).all AV.scal=true:=by
 rw [List.all_eq_true]
 intro x hx
 obtain ⟨j,_,rfl⟩:=List.mem_map.1 hx
 split<;>rfl
theorem zm5 (i:Nat):(AV.agg (tabC i)).cells?=some (tabC i):=by
 show (if (tabC i).all AV.scal=true then some (tabC i) else none)=_
 rw [if_pos (zxk i)]
theorem z2i (i n:Nat):zf4 (n+2) (.agg (tabC i)):=zch fun x hx=>by
 obtain ⟨j,_,rfl⟩:=List.mem_map.1 hx
 split<;>exact zaw
theorem zpr {zs:List AV}(hz:zs.length=256) (i:Nat):putAt zs 0 (tabC i)=tabC i:=by
 unfold putAt
 rw [zd7,List.take_zero,List.drop_of_length_le (by omega)]
 simp
theorem zxl (i:Nat):putAt (tabC i) 0 (tabC i)=tabC i:=zpr (zd7 i) i
theorem loadT {cs:List AV}(hcs:cs.length=256):zce Tryz.prog [.cells 0 (some 303) cs 0] 303 (.ptr 0 0 0)=some (.agg cs):=by
 have ht:(ti Tryz.prog 303).map (fun d=>(zbm d.desc,d.size))=some (true,256):=by kernel_rfl
 obtain ⟨d,h1,h2⟩:=Option.map_eq_some_iff.1 ht
 simp only [Prod.mk.injEq] at h2
 unfold zce
 simp only [h1,List.getElem?_cons_zero,if_true]
 unfold zfb
 rw [h2.1,h2.2,hcs]
 simp [← hcs]
theorem z2h {i:Nat}(hi:i<256):putAt (tabC i) i [tabV i]=tabC (i+1):=by
 apply List.ext_getElem?
 intro k
 unfold putAt tabC
 rw [List.append_assoc]
 by_cases h1:k<i
 ·rw [List.getElem?_append_left (by simp;omega),List.getElem?_take,if_pos h1]
  simp only [List.getElem?_map]
  by_cases h2:k<256
  ·simp [List.getElem?_range h2,h1,show k<i+1 by omega]
  ·omega
 ·rw [List.getElem?_append_right (by simp;omega)]
  by_cases h2:k=i
  ·subst h2
   simp [List.getElem?_range hi,hi,Nat.min_eq_left (Nat.le_of_lt hi)]
  ·rw [List.getElem?_append_right (by simp;omega)]
   simp only [List.length_take,List.length_map,List.length_range,List.length_cons,List.length_nil,List.getElem?_drop,List.getElem?_map]
   rw [Nat.min_eq_left (Nat.le_of_lt hi),show i+(0+1)+(k-i-(0+1))=k by omega]
   by_cases h3:k<256
   ·simp [List.getElem?_range h3,show ¬ k<i by omega,show ¬ k<i+1 by omega]
   ·rw [List.getElem?_eq_none (by simp;omega)];rfl
theorem zxb {j:Nat}(hj:j<256):IntKind.u32.wrap (j:Int)=((UInt32.ofNat j).toNat:Int):=by
 have:((UInt32.ofNat j).toNat:Int)=j:=by rw [UInt32.toNat_ofNat'];omega
 rw [this]
 have:=zko (BitVec.ofNat 32 j)
 rwa [BitVec.toNat_ofNat,Nat.mod_eq_of_lt (show j<2 ^ 32 by omega)] at this
theorem z2f {m:Nat}(hn:1 ≤ m) (j:Nat) (hj:j<256) (hp:zaa) {Q:Ex → LS → Prop}{s:LS}(hs:LS.sub ⟨[(0,.ptr 0 0 0),(1,i64 j),(2,u32 (UInt32.ofNat j)),(3,i64 j),(8,i64 0)],hp,[]⟩ s)
  (hE:∀ L,subL [(0,.ptr 0 0 0),(1,i64 j),(2,tabV j),(3,i64 j)] L → Q (.exit 2) ⟨L,hp,[]⟩):OkR Tryz.prog (CC m) cfgN.inl KK 18 5 (.loop (c222.lp 1)) s Q:=by
 refine za3 (by decide) rfl (α:=Nat) (fun x=>⟨[(0,.ptr 0 0 0),(1,i64 j),(2,u32 (bits x (UInt32.ofNat j))),(3,i64 j),(8,i64 x)],hp,[]⟩) (fun x=>x ≤ 8) (fun x=>8-x) 0 hs (by simp) (by show 8-0<KK;simp only [KK];omega) ?_
 intro x hx
 conv=>whnf
 refine brd (fun a=>?_) (fun a=>?_)
 ·conv=>whnf
  refine clI (bit_eq (by omega) (bits x (UInt32.ofNat j))) ?_
  conv=>whnf
  refine zI (z:=((x+1:Nat):Int)) (by rw [zae (by omega) (by omega)];rfl) ?_
  refine nxI (x+1) (by omega) (by omega) ⟨⟨rfl,rfl,?_,rfl,rfl⟩,rfl,rfl⟩
  rw [zmj];rfl
 ·have:x=8:=by omega
  subst this
  conv=>whnf
  exact hE _ ⟨rfl,rfl,rfl,rfl⟩
set_option maxRecDepth 100000 in
theorem z2g (hn:2 ≤ n):CC n 222 [] h=some (.ret (.agg (tabC 256)),h):=by
 obtain ⟨m,rfl⟩:=pre1 n
 refine zad F222 rfl rfl rfl rfl ?_
 conv=>whnf
 refine za3 (by decide) rfl (α:=Nat) (fun x=>⟨[(0,.ptr 0 0 0),(3,i64 x)],[.cells 0 (some 303) (tabC x) 0],[]⟩) (fun x=>x ≤ 256) (fun x=>256-x) 0 ⟨⟨rfl,rfl⟩,by kernel_rfl,rfl⟩ (by simp) (by show 256-0<KK;simp only [KK];omega) ?_
 intro x hx
 conv=>whnf
 refine brd (fun a=>?_) (fun a=>?_)
 ·have hx':x<256:=by omega
  conv=>whnf
  refine zI (zxb hx') ?_
  conv=>whnf
  refine z2f (by omega) x hx' _ ⟨⟨rfl,rfl,rfl,rfl,rfl⟩,rfl,rfl⟩ fun L hL=>?_
  conv=>whnf
  refine cutI (by decide) rfl (t:=⟨[(0,.ptr 0 0 0),(1,i64 x),(2,tabV x),(3,i64 x)],[.cells 0 (some 303) (tabC x) 0],[]⟩) ⟨hL,rfl,rfl⟩ ?_
  conv=>whnf
  refine ⟨by omega,by omega,?_⟩
  conv=>whnf
  refine stI (cs:=tabC x) (by rfl) (by rfl) (by rfl) (by rw [zd7];show Nat.ble (0+(x:Int).toNat*1+1) 256=true;exact Nat.ble_eq_true_of_le (by omega)) (by rfl) ?_
  refine cutI (by decide) rfl (t:=⟨[(0,.ptr 0 0 0),(3,i64 x)],[.cells 0 (some 303) (tabC (x+1)) 0],[]⟩) ⟨⟨rfl,rfl⟩,?_,rfl⟩ ?_
  ·show [AB.cells 0 (some 303) (putAt (tabC x) (0+(x:Int).toNat*1) [tabV x]) 0]=_
   rw [show 0+(x:Int).toNat*1=x by omega,z2h hx']
  ·conv=>whnf
   refine zI (z:=((x+1:Nat):Int)) (by rw [zae (by omega) (by omega)];rfl) ?_
   exact nxI (x+1) (by omega) (by omega) ⟨⟨rfl,rfl⟩,rfl,rfl⟩
 ·have:x=256:=by omega
  subst this
  refine cutI (by decide) rfl (t:=⟨[(0,.ptr 0 0 0)],[.cells 0 (some 303) (tabC 256) 0],[]⟩) ⟨rfl,rfl,rfl⟩ ?_
  conv=>whnf
  refine ldI (cs:=tabC 256) (by rfl) ?_
  conv=>whnf
  have hcs:List.take 256 (List.drop 0 (tabC 256))=tabC 256:=by rw [List.drop_zero,List.take_of_length_le (by rw [zd7];decide)]
  refine stI (cs:=tabC 256) (xs:=tabC 256) (by rfl) (by show AV.cells? (.agg (List.take 256 (List.drop 0 (tabC 256))))=_;rw [hcs];exact zm5 256) (zd7 256) (by rw [zd7];rfl) (by rfl) ?_
  refine ⟨rfl,[.agg (tabC 256)],?_,?_⟩
  ·show (match zce Tryz.prog [.cells 0 (some 303) (putAt (tabC 256) 0 (tabC 256)) 0] 303 (.ptr 0 0 0) with | some v=>some [v] | none=>none)=_
   rw [zxl,loadT (zd7 256)]
  ·exact z2i 256 62 _
def ext (s:List UInt8) (c:UInt32):UInt32:=s.foldl (fun c b=>tab (c.toUInt8 ^^^ b) ^^^ (c >>> 8)) c
def crc (s:List UInt8):UInt32:= ~~~(ext s (~~~0))
theorem tab_at (b:UInt8):(tabC 256)[b.toNat]?=some (u32 (tab b)):=by
 have h:=b.toNat_lt
 unfold tabC
 rw [List.getElem?_map,List.getElem?_range (by omega)]
 simp only [Option.map_some]
 rw [if_pos (by omega)]
 have:UInt32.ofNat b.toNat=b.toUInt32:=by
  apply UInt32.toNat_inj.1
  rw [UInt32.toNat_ofNat',UInt8.toNat_toUInt32]
  omega
 unfold tabV bits bits bits bits bits bits bits bits bits tab
 rw [this]
theorem z4g {m:Nat}(s:Str) (hs:s.length<1099511627776) (c0:UInt32) {Q:Ex → LS → Prop}{st:LS}(h0:LS.sub ⟨[(1,.str s),(5,.ptr 0 0 0),(6,u32 c0),(12,i64 s.length),(13,i64 0)],[.cells 0 (some 303) (tabC 256) 0],[]⟩ st)
  (hE:∀ L hp,lk L 6=some (u32 (ext s c0)) → Q (.exit 0) ⟨L,hp,[]⟩):OkR Tryz.prog (CC m) cfgN.inl KK 30 5 (.loop (c188.lp 0)) st Q:=by
 refine za3 (by decide) rfl (α:=Nat × UInt32) (fun x=>⟨[(1,.str s),(5,.ptr 0 0 0),(6,u32 x.2),(12,i64 s.length),(13,i64 x.1)],[.cells 0 (some 303) (tabC 256) 0],[]⟩) (fun x=>x.1 ≤ s.length ∧ x.2=ext (s.take x.1) c0) (fun x=>s.length-x.1) (0,c0) h0 (by simp [ext]) (by show s.length-0<KK;simp only [KK];omega) ?_
 rintro ⟨x,c⟩ ⟨hx,hc⟩
 simp only at hx hc
 conv=>whnf
 refine brd (fun a=>?_) (fun a=>?_)
 ·simp only at a
  have hx':x<s.length:=by omega
  have hst:tab (c.toUInt8 ^^^ s[x]) ^^^ (c >>> 8)=ext (s.take (x+1)) c0:=by
   subst hc
   unfold ext
   rw [List.take_succ_eq_append_getElem hx',List.foldl_append];rfl
  conv=>whnf
  refine zI (z5f c) ?_
  conv=>whnf
  refine ⟨by omega,s[x],by rw [Int.toNat_natCast];exact List.getElem?_eq_getElem hx',?_⟩
  conv=>whnf
  refine zI (xor_u8 c.toUInt8 s[x]) ?_
  conv=>whnf
  have hlt:=(c.toUInt8 ^^^ s[x]).toNat_lt
  refine ⟨by omega,by omega,?_⟩
  conv=>whnf
  refine ldI (cs:=tabC 256) (by rfl) ?_
  refine zdr (v:=u32 (tab (c.toUInt8 ^^^ s[x]))) (by show (tabC 256)[0+(((c.toUInt8 ^^^ s[x]).toNat:Nat):Int).toNat*1]?=_;rw [Int.toNat_natCast,Nat.zero_add,Nat.mul_one];exact tab_at _) ?_
  conv=>whnf
  refine ⟨by decide,_,zk8 c 8 (by decide),?_⟩
  conv=>whnf
  refine zI (zn2 _ _) ?_
  conv=>whnf
  refine zI (z:=((x+1:Nat):Int)) (by rw [zae (by omega) (by omega)];rfl) ?_
  exact nxI (x+1,tab (c.toUInt8 ^^^ s[x]) ^^^ (c >>> 8)) ⟨hx',hst⟩ (by simp only;omega) ⟨⟨rfl,rfl,rfl,rfl,rfl⟩,rfl,rfl⟩
 ·simp only at a
  have:x=s.length:=by omega
  subst this
  rw [List.take_length] at hc
  subst hc
  conv=>whnf
  exact hE _ _ rfl
set_option maxRecDepth 100000 in
theorem z0o (hn:3 ≤ n) (s:Str) (hs:s.length<1099511627776) (c:UInt32):CC n 188 [u32 c,.str s] h=some (.ret (u32 (~~~(ext s (~~~c)))),h):=by
 obtain ⟨m,rfl⟩:=pre1 n
 refine zad F188 rfl rfl rfl rfl ?_
 conv=>whnf
 refine clI (z2g (by omega)) ?_
 conv=>whnf
 refine stI (xs:=tabC 256) (by rfl) (zm5 256) (zd7 256) (by rw [zd7];rfl) (by rfl) ?_
 conv=>whnf
 refine zI (zov c) ?_
 conv=>whnf
 refine z4g s hs (~~~c) ⟨⟨rfl,rfl,rfl,rfl,rfl⟩,?_,rfl⟩ fun L hp hL=>?_
 ·exact congrArg (fun cs=>[AB.cells 0 (some 303) cs 0]) (zpr (by rfl) 256)
 ·refine cutI (by decide) rfl (t:=⟨[(6,u32 (ext s (~~~c)))],hp,[]⟩) ⟨hL,rfl,rfl⟩ ?_
  conv=>whnf
  refine zI (zov _) ?_
  conv=>whnf
  exact retP rfl (zb2 rfl)
theorem crc_eq (hn:4 ≤ n) (s:Str) (hs:s.length<1099511627776):CC n 135 [.str s] h=some (.ret (u32 (crc s)),h):=by
 obtain ⟨m,rfl⟩:=pre1 n
 refine zad F135 rfl rfl rfl rfl ?_
 conv=>whnf
 refine clI (z0o (by omega) s hs 0) ?_
 conv=>whnf
 exact retP rfl (zb2 rfl)
end
def bitN (c:Nat):Nat:=Nat.xor (Nat.shiftRight c 1) (Nat.mul (Nat.land c 1) 3988292384)
def z4w (c:Nat):Nat:=bitN (bitN (bitN (bitN (bitN (bitN (bitN (bitN c)))))))
def extN:List UInt8 → Nat → Nat
 | [],c=>c
 | b::r,c=>extN r (Nat.xor (z4w (Nat.xor (Nat.mod c 256) b.toNat)) (Nat.shiftRight c 8))
def crcN (s:List UInt8):Nat:=Nat.xor (extN s 4294967295) 4294967295
theorem zg1 (c:UInt32):bitN c.toNat=(bit c).toNat:=by
 have h1:(c &&& 1).toNat=c.toNat % 2:=by
  rw [UInt32.toNat_and];exact Nat.and_one_is_mod _
 have h2:(c >>> 1).toNat=c.toNat >>> 1:=by
  rw [UInt32.toNat_shiftRight];rfl
 have h3:Nat.land c.toNat 1=c.toNat % 2:=Nat.and_one_is_mod _
 unfold bitN bit
 rw [h3]
 have h4:=Nat.mod_two_eq_zero_or_one c.toNat
 by_cases h:c &&& 1=1
 ·rw [if_pos h,UInt32.toNat_xor,h2]
  have:c.toNat % 2=1:=by rw [← h1,h];rfl
  rw [this];rfl
 ·rw [if_neg h,h2]
  have:c.toNat % 2=0:=by
   rcases h4 with h4 | h4
   ·exact h4
   ·exact (h (UInt32.toNat_inj.1 (by rw [h1,h4];rfl))).elim
  rw [this]
  exact Nat.xor_zero _
theorem z4v (i:UInt8):z4w i.toNat=(tab i).toNat:=by
 unfold z4w tab
 have:i.toNat=i.toUInt32.toNat:=by simp
 rw [this,zg1,zg1,zg1,zg1,zg1,zg1,zg1,zg1]
theorem z0p:∀ (s:List UInt8) (c:UInt32),extN s c.toNat=(ext s c).toNat
 | [],c=>rfl
 | b::r,c=>by
  have h1:Nat.xor (Nat.mod c.toNat 256) b.toNat=(c.toUInt8 ^^^ b).toNat:=by
   rw [UInt8.toNat_xor,UInt32.toNat_toUInt8];rfl
  have h2:Nat.shiftRight c.toNat 8=(c >>> 8).toNat:=by rw [UInt32.toNat_shiftRight];rfl
  show extN r (Nat.xor (z4w (Nat.xor (Nat.mod c.toNat 256) b.toNat)) (Nat.shiftRight c.toNat 8))=_
  rw [h1,z4v,h2]
  have h3:Nat.xor (tab (c.toUInt8 ^^^ b)).toNat (c >>> 8).toNat=(tab (c.toUInt8 ^^^ b) ^^^ (c >>> 8)).toNat:=by rw [UInt32.toNat_xor];rfl
  rw [h3,z0p r]
  rfl
theorem z0y (s:List UInt8):crcN s=(crc s).toNat:=by
 unfold crcN crc
 have h:=z0p s (~~~0)
 rw [show (~~~(0:UInt32)).toNat=4294967295 by decide] at h
 rw [h]
 have : ~~~(ext s (~~~0))=ext s (~~~0) ^^^ 4294967295:=by
  rw [show (4294967295:UInt32)=-1 by decide,UInt32.xor_neg_one]
 rw [this,UInt32.toNat_xor];rfl
def sum1:FuncId → List AV → Option AV:=fun f args=>cond (Nat.beq f 135) (match args with
 | [.str s]=>cond (Nat.blt s.length 1099511627776) (some (.int .u32 (Int.ofNat (crcN s)))) none
 | _=>none) none
def cfg1:Cfg:=⟨inl0,sum1,fun _ _ _=>none,fun _=>false⟩
theorem z53:z1u Tryz.prog cfgN:=⟨fun f args v h=>(by cases h),z66 _⟩
theorem z4p (s:Str) (hs:s.length<1099511627776):zal Tryz.prog 135 [.str s] (.ret (u32 (crc s))):=zak (c:=cfgN) (n:=9) z53 rfl (crc_eq (by omega) s hs)
theorem zm6:∀ f args v,cfg1.sum f args=some v → zal Tryz.prog f args (.ret v):=fun f args v h=>by
 change sum1 f args=some v at h
 unfold sum1 at h
 cases hf:Nat.beq f 135 with
 | false=>rw [hf] at h;cases h
 | true =>
  rw [hf] at h
  have:f=135:=Nat.eq_of_beq_eq_true hf
  subst this
  simp only [cond] at h
  split at h
  ·rename_i s
   cases hl:Nat.blt s.length 1099511627776 with
   | false=>rw [hl] at h;cases h
   | true =>
    rw [hl] at h
    cases h
    have hl':s.length<1099511627776:=by rwa [Nat.blt_eq] at hl
    have:=z4p s hl'
    rw [z0y]
    exact this
  ·cases h
def sum0:FuncId → List AV → Option AV:=fun f args=>cond (Nat.beq f 14) (match args with | []=>some (.bool true) | _=>none) (sum1 f args)
def cfg0:Cfg:=⟨inl0,sum0,fun _ _ _=>none,fun _=>false⟩
noncomputable abbrev C (n:Nat):zbp:=CN Tryz.prog cfg0 n
theorem z0z {n:Nat}{h:zaa}(hn:1 ≤ n) (s:Str) (hs:s.length<1099511627776):C n 135 [.str s] h=some (.ret (u32 (crc s)),h):=by
 obtain ⟨m,rfl⟩:=pre1 n
 refine zz9 rfl (of_decide_eq_true (by kernel_rfl)) ?_ rfl
 show cond (Nat.blt s.length 1099511627776) (some (AV.int .u32 (Int.ofNat (crcN s)))) none=some (u32 (crc s))
 rw [show Nat.blt s.length 1099511627776=true by rw [Nat.blt_eq];exact hs,z0y]
 rfl
theorem zxy {n:Nat}(hn:1 ≤ n) (h:zaa):C n 14 [] h=some (.ret (.bool true),h):=by
 obtain ⟨m,rfl⟩:=pre1 n
 exact zz9 rfl (of_decide_eq_true (by kernel_rfl)) rfl rfl
structure Dg where
 (b0 b1 b2 b3 b4 b5 b6 b7 b8 b9 b10 b11 b12 b13 b14 b15:UInt8)
 deriving DecidableEq
structure Entry where
 key:Str
 val:Str
 over:Int
 len:Int
 child:Int
 count:Int
 sum:Dg
 deriving DecidableEq
def Dg.cells (d:Dg):List AV:=[u8 d.b0,u8 d.b1,u8 d.b2,u8 d.b3,u8 d.b4,u8 d.b5,u8 d.b6,u8 d.b7,u8 d.b8,u8 d.b9,u8 d.b10,u8 d.b11,u8 d.b12,u8 d.b13,u8 d.b14,u8 d.b15]
def Entry.cells (e:Entry):List AV:=.str e.key::.str e.val::i64 e.over::i64 e.len::i64 e.child::i64 e.count::e.sum.cells
def Entry.av (e:Entry):AV:=.agg e.cells
def Dg.zero:Dg:=⟨0,0,0,0,0,0,0,0,0,0,0,0,0,0,0,0⟩
def zar (x lo hi:Int):Bool:=decide (lo ≤ x)&&decide (x ≤ hi)
def zaz (n:Int):Bool:=zar n 2 4095
section
variable {n:Nat}{h:zaa}
theorem zc9 (hn:1 ≤ n) (x lo hi:Int):C n 191 [i64 x,i64 lo,i64 hi] h=some (.ret (.bool (zar x lo hi)),h):=by
 obtain ⟨m,rfl⟩:=pre1 n
 refine zad F191 rfl rfl rfl rfl ?_
 refine br (fun a=>?_) (fun a=>?_)
 ·exact ⟨rfl,_,rfl,zai (by simp [zar,a])⟩
 ·exact ⟨rfl,_,rfl,zai (by simp [zar,a])⟩
theorem zeo (hn:2 ≤ n) (x:Int):C n 190 [i64 x] h=some (.ret (.bool (zaz x)),h):=by
 obtain ⟨m,rfl⟩:=pre1 n
 refine zad F190 rfl rfl rfl rfl ?_
 refine clI (zc9 (by omega) _ _ _) ?_
 exact ⟨rfl,_,rfl,zai rfl⟩
theorem zui (hn:1 ≤ n) (x:Str):C n 258 [.str x] h=some (.ret (.bool false),h):=by
 obtain ⟨m,rfl⟩:=pre1 n
 refine zad F258 rfl rfl rfl rfl ?_
 exact ⟨rfl,_,rfl,zai (by simp)⟩
def cmpS (x y:Str):Int:=if Op.bytesLess x y then -1 else if Op.bytesLess y x then 1 else 0
theorem zlx:∀ (x:Str),Op.bytesLess x x=false
 | []=>rfl
 | a::x=>by simp [Op.bytesLess,zlx x]
theorem znm:∀ (x y:Str),Op.bytesLess x y=true → Op.bytesLess y x=false
 | [],[],h=>by simp [Op.bytesLess] at h
 | [],b::y,_=>by simp [Op.bytesLess]
 | a::x,[],h=>by simp [Op.bytesLess] at h
 | a::x,b::y,h=>by
  simp [Op.bytesLess] at h ⊢
  rcases h with h | ⟨h1,h2⟩
  ·exact ⟨UInt8.le_of_lt h,fun e=>by subst e;simp at h⟩
  ·subst h1;exact ⟨UInt8.le_refl _,fun _=>znm x y h2⟩
theorem znl:∀ (x y:Str),Op.bytesLess x y=false → Op.bytesLess y x=false → x=y
 | [],[],_,_=>rfl
 | [],b::y,h,_=>by simp [Op.bytesLess] at h
 | a::x,[],_,h=>by simp [Op.bytesLess] at h
 | a::x,b::y,h1,h2=>by
  simp [Op.bytesLess] at h1 h2
  have e:a=b:=UInt8.le_antisymm h2.1 h1.1
  subst e
  rw [znl x y (h1.2 rfl) (h2.2 rfl)]
theorem zeb (x y:Str):(Op.bytesLess x y||x==y)=!Op.bytesLess y x:=by
 cases h:Op.bytesLess x y with
 | true=>simp [znm x y h]
 | false =>
  cases h2:Op.bytesLess y x with
  | true =>
   simp
   intro e;subst e;rw [zlx] at h2;cases h2
  | false=>simp [znl x y h h2]
theorem zpc (hn:2 ≤ n) (x y:Str):C n 254 [.str x,.str y] h=some (.ret (i64 (cmpS x y)),h):=by
 obtain ⟨m,rfl⟩:=pre1 n
 refine zad F254 rfl rfl rfl rfl ?_
 refine clI (zui (by omega) _) ?_
 refine clI (zui (by omega) _) ?_
 refine br (fun a=>?_) (fun a=>?_)
 ·exact ⟨rfl,_,rfl,zb2 (by simp [cmpS,a])⟩
 ·refine br (fun b=>?_) (fun b=>?_)
  ·rw [zeb] at b
   exact ⟨rfl,_,rfl,zb2 (by simp at b;simp [cmpS,a,b])⟩
  ·rw [zeb] at b
   exact ⟨rfl,_,rfl,zb2 (by simp at b;simp [cmpS,a,b])⟩
theorem zwx (hn:3 ≤ n) (x y:Str):C n 245 [.str x,.str y] h=some (.ret (i64 (cmpS x y)),h):=by
 obtain ⟨m,rfl⟩:=pre1 n
 refine zad F245 rfl rfl rfl rfl ?_
 refine clI (zpc (by omega) _ _) ?_
 exact ⟨rfl,_,rfl,zb2 rfl⟩
def zbf (e:Entry):Bool:=decide (e.key.length ≤ 48)&&e.val==[]&&e.over==0&&e.len==0&&zaz e.child&&zar e.count 1 2147483647
theorem zmi (hn:3 ≤ n) (e:Entry):C n 244 [e.av] h=some (.ret (.bool (zbf e)),h):=by
 obtain ⟨m,rfl⟩:=pre1 n
 refine zad F244 rfl rfl rfl rfl ?_
 repeat' (conv=>whnf);first
  | refine br (fun _=>?_) (fun _=>?_)
  | refine ldI rfl ?_
  | refine clI (zeo (by omega) _) ?_
  | refine clI (zc9 (by omega) _ _ _) ?_
  | refine retP rfl (zai ?_)
 all_goals simp_all [zbf]
 all_goals omega
def zfc (e:Entry):Bool:=e.over==0&&e.len==0&&e.child==0&&e.count==0&&e.sum==Dg.zero&&decide (e.val.length ≤ 64)
def zkb (e:Entry):Bool:=e.child==0&&e.count==0&&zaz e.over&&zar e.len 65 4000
def zka (e:Entry):Bool:=e.over==0&&e.len==0&&zaz e.child&&zar e.count 1 2147483647
def za2 (e:Entry):Int:=if zar e.key.length 1 48=false then 0 else if zfc e then 1 else if e.val≠[] then 0 else if zkb e then 2 else if zka e then 3 else 0
def Dg.list (d:Dg):List UInt8:=[d.b0,d.b1,d.b2,d.b3,d.b4,d.b5,d.b6,d.b7,d.b8,d.b9,d.b10,d.b11,d.b12,d.b13,d.b14,d.b15]
theorem Dg.list_inj {a b:Dg}:a.list=b.list ↔ a=b:=by
 constructor
 ·intro h
  obtain ⟨a0,a1,a2,a3,a4,a5,a6,a7,a8,a9,a10,a11,a12,a13,a14,a15⟩:=a
  obtain ⟨c0,c1,c2,c3,c4,c5,c6,c7,c8,c9,c10,c11,c12,c13,c14,c15⟩:=b
  simpa [Dg.list] using h
 ·intro h;rw [h]
theorem zs1 (x y:UInt8):((((x.toNat:Nat):Int)==y.toNat):Bool)=decide (x=y):=by
 by_cases h:x=y
 ·subst h;simp
 ·simp [h];intro h';exact h (UInt8.toNat_inj.1 (by omega))
theorem zf2 {f:Nat → AV → AV → Option Bool}{t:Nat}(hf:∀ x y,f t (u8 x) (u8 y)=some (decide (x=y))):∀ (xs ys:List UInt8),xs.length=ys.length → zdo f (zipE t (xs.map u8) (ys.map u8))=some (decide (xs=ys))
 | [],[],_=>rfl
 | [],y::ys,h=>by simp at h
 | x::xs,[],h=>by simp at h
 | x::xs,y::ys,h=>by
  have ih:=zf2 hf xs ys (by simpa using h)
  show (match f t (u8 x) (u8 y) with | some true=>zdo f (zipE t (xs.map u8) (ys.map u8)) | some false=>some false | none=>none)=_
  rw [hf,ih]
  by_cases h:x=y<;>simp [h]
theorem eq_dg (a b:Dg):eqA Tryz.prog 20 23 (.agg a.cells) (.agg b.cells)=some (decide (a=b)):=by
 have e1:eqA Tryz.prog 20 23 (.agg a.cells) (.agg b.cells)=zdo (eqA Tryz.prog 19) (zipE 5 (a.list.map u8) (b.list.map u8)):=by kernel_rfl
 have e2:∀ (x y:UInt8),eqA Tryz.prog 19 5 (.int .u8 x.toNat) (.int .u8 y.toNat)=some (((x.toNat:Nat):Int)==y.toNat):=fun x y=>by kernel_rfl
 rw [e1,zf2 (fun x y=>by rw [e2,zs1]) a.list b.list rfl]
 simp only [Dg.list_inj]
theorem zq3 (hn:3 ≤ n) (e:Entry):C n 243 [e.av] h=some (.ret (i64 (za2 e)),h):=by
 obtain ⟨m,rfl⟩:=pre1 n
 refine zad F243 rfl rfl rfl rfl ?_
 repeat' (conv=>whnf);first
  | refine br (fun _=>?_) (fun _=>?_)
  | refine ldI rfl ?_
  | refine clI (zeo (by omega) _) ?_
  | refine clI (zc9 (by omega) _ _ _) ?_
  | refine eqI (eq_dg e.sum Dg.zero) ?_
  | refine retP rfl (zb2 ?_)
 all_goals simp_all [za2,zfc,zkb,zka]
 all_goals omega
def zd5 (e:Entry) (lv:Int):Int:=if 0<lv then e.key.length+27 else if za2 e=1 then e.key.length+e.val.length+5 else if za2 e=2 then e.key.length+27 else if za2 e=3 then e.key.length+29 else 0
def zdd (e:Entry) (lv:Int):Bool:=if 0<lv then zbf e else za2 e==1||za2 e==2||za2 e==3
def Entry.Ok (e:Entry):Prop:=e.key.length<1099511627776 ∧ e.val.length<1099511627776
theorem z14 (hn:4 ≤ n) (e:Entry) (he:e.Ok) (lv:Int):C n 246 [e.av,i64 lv] h=some (.ret (.tup [i64 (zd5 e lv),.bool (zdd e lv)]),h):=by
 obtain ⟨m,rfl⟩:=pre1 n
 obtain ⟨h1,h2⟩:=he
 refine zad F246 rfl rfl rfl rfl ?_
 repeat' (conv=>whnf);first
  | refine br (fun _=>?_) (fun _=>?_)
  | refine ldI rfl ?_
  | refine clI (zmi (by omega) e) ?_
  | refine clI (zq3 (by omega) e) ?_
  | refine zI (zae (by omega) (by omega)) ?_
  | refine retP rfl (frz_ib ?_ ?_)
 all_goals simp_all [zd5,zdd]
 all_goals (intros;omega)
def wsum (lv:Int):List Entry → Option Int
 | []=>some 0
 | e::r=>if zdd e lv then (wsum lv r).map (zd5 e lv+·) else none
def zds (l:List Entry) (lv:Int):Option Int:=if zar lv 0 20 then (wsum lv l).map (6+·) else none
def zjj (l:List Entry) (lv:Int):AV:=match zds l lv with
 | some n=>.tup [i64 n,i64 0]
 | none=>.tup [i64 0,i64 2]
theorem zh6 (lv:Int):∀ (a b:List Entry),wsum lv (a++b)=match wsum lv a,wsum lv b with | some x,some y=>some (x+y) | _,_=>none
 | [],b=>by cases h:wsum lv b<;>simp [wsum,h]
 | e::a,b=>by
  simp only [List.cons_append,wsum,zh6 lv a b]
  by_cases hw:zdd e lv
  ·simp only [hw,if_true]
   cases wsum lv a<;>cases wsum lv b<;>simp
   omega
  ·simp [hw]
theorem within_iff {x lo hi:Int}:zar x lo hi=true ↔ lo ≤ x ∧ x ≤ hi:=by simp [zar]
theorem zo3 {e:Entry}(hf:za2 e≠0):1 ≤ e.key.length ∧ e.key.length ≤ 48:=by
 by_cases h:zar e.key.length 1 48
 ·rw [within_iff] at h;omega
 ·simp [za2,h] at hf
theorem zwh {e:Entry}(hf:za2 e=1):e.val.length ≤ 64:=by
 by_cases hs:zfc e
 ·simp [zfc] at hs;exact hs.2
 ·simp only [za2,hs] at hf
  split at hf
  ·simp at hf
  ·simp at hf
   repeat' (first | split at hf)
   all_goals simp at hf
theorem zfr {e:Entry}{lv:Int}(hb:zdd e lv=true):5 ≤ zd5 e lv ∧ zd5 e lv ≤ 117:=by
 unfold zdd at hb
 unfold zd5
 split
 ·rename_i hl
  rw [if_pos hl] at hb
  simp [zbf] at hb
  omega
 ·rename_i hl
  rw [if_neg hl] at hb
  have hk:=@zo3 e (by intro e0;simp [e0] at hb)
  split
  ·rename_i h1;have:=zwh h1;omega
  ·split
   ·omega
   ·split
    ·omega
    ·exfalso;simp_all
theorem zin {lv:Int}{l:List Entry}{j:Nat}(hj:j<l.length) {s:Int}(hs:wsum lv (l.take j)=some s):wsum lv (l.take (j+1))=if zdd l[j] lv then some (s+zd5 l[j] lv) else none:=by
 rw [List.take_succ_eq_append_getElem hj,zh6,hs]
 by_cases hw:zdd l[j] lv<;>simp [wsum,hw]
theorem zio {lv:Int}{l:List Entry}{j:Nat}(hs:wsum lv (l.take j)=none):wsum lv l=none:=by
 have:=zh6 lv (l.take j) (l.drop j)
 rw [List.take_append_drop,hs] at this
 exact this
theorem zap (e:Entry):e.av.cells?=some e.cells:=rfl
theorem zdq {α:Type}{f:α → AV}(hf:∀ a,(f a).pureB=true):∀ (l:List α),zao (l.map f)=true
 | []=>rfl
 | a::r=>by simp [zao,hf a,zdq hf r]
theorem zbk {α:Type}{f:α → AV}(hf:∀ a,(f a).pureB=true) (l:List α) {sz:Nat}{c:Bool}{r:List AV}(hr:zao r=true):zao (.lst sz (l.map f) c::r)=true:=by
 simp [zao,AV.pureB,zdq hf l,hr]
theorem zbs (e:Entry):e.av.pureB=true:=rfl
end
def Keep (hp hp':zaa) (F:List Nat):Prop:=hp.length ≤ hp'.length ∧ ∀ x,x<hp.length → x ∉ F → hp'[x]?=hp[x]?
theorem Keep.refl (hp:zaa) (F:List Nat):Keep hp hp F:=⟨Nat.le_refl _,fun _ _ _=>rfl⟩
theorem Keep.trans {a b c:zaa}{F G:List Nat}(h1:Keep a b F) (h2:Keep b c G) (hs:∀ x∈G,x∈F ∨ a.length ≤ x):Keep a c F :=
 ⟨Nat.le_trans h1.1 h2.1,fun x hx hn=>by
  rw [h2.2 x (Nat.lt_of_lt_of_le hx h1.1) fun hg=>?_,h1.2 x hx hn]
  rcases hs x hg with h | h
  ·exact hn h
  ·omega⟩
theorem Keep.mono {a b:zaa}{F G:List Nat}(h:Keep a b F) (hs:∀ x∈F,x∈G):Keep a b G:=⟨h.1,fun x hx hn=>h.2 x hx fun hf=>hn (hs x hf)⟩
theorem Keep.app (h:zaa) (x:AB) (F:List Nat):Keep h (h++[x]) F:=⟨by simp,fun y hy _=>List.getElem?_append_left hy⟩
theorem Keep.set {h:zaa}{b:Nat}{x:AB}{F:List Nat}(hb:b∈F):Keep h (h.set b x) F:=⟨by simp,fun y hy hn=>by rw [List.getElem?_set_ne];rintro rfl;exact hn hb⟩
theorem Keep.set' {h h':zaa}{b:Nat}{x:AB}{F:List Nat}(k:Keep h h' F) (hb:b∈F ∨ h.length ≤ b):Keep h (h'.set b x) F:=⟨by simp [k.1],fun y hy hn=>by
 rw [List.getElem?_set_ne,k.2 y hy hn]
 rintro rfl
 rcases hb with hb | hb
 ·exact hn hb
 ·omega⟩
theorem zab {h:zaa}{b:Nat}{x:AB}(hb:h[b]?=some x):b<h.length:=by
 rcases Nat.lt_or_ge b h.length with q | q
 ·exact q
 ·rw [List.getElem?_eq_none q] at hb;cases hb
def Buf (hp:zaa) (b:Nat) (buf:AV) (bs:Str) (F:List Nat):Prop :=
 (buf=.lst 0 [] true ∧ bs=[] ∧ F=[b]) ∨ (∃ bb ver frz,buf=.sl 1 bb ver 0 bs.length ∧ hp[bb]?=some (.cells ver (some 5) (bs.map u8) frz) ∧ b≠bb ∧ frz ≤ bs.length ∧ F=[b,bb])
abbrev tBld:Nat:=246
abbrev tWri:Nat:=248
def BW (hp:zaa) (b:Nat) (bs:Str) (F:List Nat):Prop :=
 ∃ t a buf,hp[b]?=some (.cells 0 (some t) [a,buf] 0) ∧ (a=.nilp ∨ a=.ptr b 0 0) ∧ (t=tBld ∨ t=tWri) ∧ Buf hp b buf bs F
def Wrote (hp hp':zaa) (b:Nat) (F F':List Nat) (bs:Str):Prop:=BW hp' b bs F' ∧ Keep hp hp' F ∧ ∀ x∈F',x∈F ∨ hp.length ≤ x
theorem Wrote.trans {h0 h1 h2:zaa}{b:Nat}{F F1 F2:List Nat}{s1 s2:Str}(w1:Wrote h0 h1 b F F1 s1) (w2:Wrote h1 h2 b F1 F2 s2):Wrote h0 h2 b F F2 s2 :=
 ⟨w2.1,w1.2.1.trans w2.2.1 w1.2.2,fun x hx=>by
  rcases w2.2.2 x hx with h | h
  ·exact w1.2.2 x h
  ·exact .inr (Nat.le_trans w1.2.1.1 h)⟩
theorem Wrote.refl {h:zaa}{b:Nat}{F:List Nat}{s:Str}(w:BW h b s F):Wrote h h b F F s:=⟨w,Keep.refl _ _,fun x hx=>.inl hx⟩
theorem Buf.lt {hp:zaa}{b:Nat}{buf:AV}{bs:Str}{F:List Nat}(h:Buf hp b buf bs F):∀ x∈F,x=b ∨ x<hp.length:=by
 intro x hx
 rcases h with ⟨_,_,rfl⟩ | ⟨bb,ver,frz,_,h2,_,_,rfl⟩
 ·simp at hx;exact .inl hx
 ·simp at hx
  rcases hx with rfl | rfl
  ·exact .inl rfl
  ·exact .inr (zab h2)
theorem BW.lt {hp:zaa}{b:Nat}{bs:Str}{F:List Nat}(h:BW hp b bs F):∀ x∈F,x<hp.length:=by
 obtain ⟨t,a,buf,h1,_,_,h4⟩:=h
 intro x hx
 rcases h4.lt x hx with rfl | h
 ·exact zab h1
 ·exact h
theorem Buf.mem {hp:zaa}{b:Nat}{buf:AV}{bs:Str}{F:List Nat}(h:Buf hp b buf bs F):b∈F:=by
 rcases h with ⟨_,_,rfl⟩ | ⟨bb,ver,frz,_,h2,_,_,rfl⟩<;>simp
theorem BW.mem {hp:zaa}{b:Nat}{bs:Str}{F:List Nat}(h:BW hp b bs F):b∈F:=by
 obtain ⟨t,a,buf,h1,_,_,h4⟩:=h
 exact h4.mem
theorem BW.stays {hp hp':zaa}{b:Nat}{bs:Str}{F G:List Nat}(h:BW hp b bs F) (k:Keep hp hp' G) (hd:∀ x∈F,x ∉ G):BW hp' b bs F:=by
 have hl:=h.lt
 obtain ⟨t,a,buf,h1,h2,h3,h4⟩:=h
 refine ⟨t,a,buf,?_,h2,h3,?_⟩
 ·rw [k.2 b (zab h1) (hd b h4.mem)];exact h1
 ·rcases h4 with h4 | ⟨bb,ver,frz,g1,g2,g3,g4,rfl⟩
  ·exact .inl h4
  ·refine .inr ⟨bb,ver,frz,g1,?_,g3,g4,rfl⟩
   rw [k.2 bb (hl bb (by simp)) (hd bb (by simp))];exact g2
theorem zfs (s:Str):((s.map u8).all AV.scal)=true:=by
 rw [List.all_eq_true]
 intro x hx
 obtain ⟨b,_,rfl⟩:=List.mem_map.1 hx
 rfl
theorem zbt:∀ (s:Str),zb0 (s.map u8)=some s
 | []=>rfl
 | b::r=>by
  show (zb0 (r.map u8)).map (UInt8.ofNat (b.toNat:Int).toNat::·)=_
  rw [zbt r];simp
theorem zwy (s:Str):((s.map u8).all AV.byteB)=true:=by
 rw [List.all_eq_true]
 intro x hx
 obtain ⟨b,_,rfl⟩:=List.mem_map.1 hx
 have:=b.toNat_lt
 show (decide (0 ≤ (b.toNat:Int))&&decide ((b.toNat:Int)<256))=true
 simp;omega
theorem zl5 (h:zaa) (s:Str):zbc h 1 s.length (.str s)=some (s.map u8):=by
 simp [zbc]
theorem z0h:∀ (s:Str),(((s.map u8).map AV.cells?).flatMap fun o=>o.getD [])=s.map u8
 | []=>rfl
 | b::r=>by
  show [u8 b]++(((r.map u8).map AV.cells?).flatMap fun o=>o.getD [])=_
  rw [z0h r];rfl
theorem zl6 (h:zaa) (s:Str) (c:Bool):zbc h 1 s.length (.lst 1 (s.map u8) c)=some (s.map u8):=by
 unfold zbc
 simp only
 rw [if_pos ⟨by simp,.inl trivial⟩]
 rw [show (s.map u8).take s.length=s.map u8 from List.take_of_length_le (by simp),z0h]
 rw [if_pos]
 rw [List.all_eq_true]
 intro x hx
 obtain ⟨y,hy,rfl⟩:=List.mem_map.1 hx
 obtain ⟨b,_,rfl⟩:=List.mem_map.1 hy
 rfl
def Data (h:zaa) (x:AV) (s:Str):Prop:=lenA x=some s.length ∧ zbc h 1 s.length x=some (s.map u8)
theorem z1c {hp:zaa}{b:Nat}{buf x:AV}{bs s:Str}{F:List Nat}(hB:Buf hp b buf bs F) (hx:Data hp x s) (hb:b<hp.length) (hl:bs.length+s.length ≤ 1073741824) :
  ∃ v oh,appR hp 5 1 buf x=some (v,oh) ∧ ∃ hp' F',hp'=oh.getD hp ∧ hp'[b]?=hp[b]? ∧ Buf hp' b v (bs++s) F' ∧ Keep hp hp' F ∧ (∀ x∈F',x∈F ∨ hp.length ≤ x) ∧ (∃ xs,v.cells?=some xs ∧ xs=[v]):=by
 obtain ⟨h1,h2⟩:=hx
 unfold appR
 rw [h1]
 simp only
 rw [h2]
 simp only [zfs,Bool.not_true,Bool.false_eq_true,if_false]
 rcases hB with ⟨rfl,rfl,rfl⟩ | ⟨bb,ver,frz,rfl,g1,g2,g3,rfl⟩
 ·by_cases e:s.length=0
  ·have:s=[]:=List.length_eq_zero_iff.1 e
   subst this
   simp only [List.length_nil,if_true]
   exact ⟨_,_,rfl,hp,[b],rfl,rfl,.inl ⟨rfl,rfl,rfl⟩,Keep.refl _ _,fun x hx=>.inl hx,_,rfl,rfl⟩
  ·simp only
   rw [if_neg e]
   have h3:zbc hp 1 ([]:List AV).length (.lst 0 [] true)=some []:=rfl
   rw [h3]
   simp only [List.length_nil,Nat.zero_add]
   rw [if_pos ⟨by simpa using hl,rfl⟩]
   refine ⟨_,_,rfl,_,[b,hp.length],rfl,?_,.inr ⟨hp.length,0,0,rfl,?_,by omega,Nat.zero_le _,rfl⟩,Keep.app _ _ _,?_,_,rfl,rfl⟩
   ·simp only [Option.getD_some];rw [List.getElem?_append_left hb]
   ·simp
   ·intro x hx;simp at hx;rcases hx with rfl | rfl<;>simp
 ·simp only
  rw [g1]
  simp only
  rw [if_pos ⟨.inl trivial,trivial,trivial,trivial,by simp,zfs _,hl,by simpa using g3⟩]
  by_cases e:s.length=0
  ·have:s=[]:=List.length_eq_zero_iff.1 e
   subst this
   rw [if_pos (show ([]:Str).length=0 from rfl)]
   exact ⟨_,_,rfl,hp,[b,bb],rfl,rfl,.inr ⟨bb,ver,frz,by simp,by simpa using g1,g2,by simpa using g3,rfl⟩,Keep.refl _ _,fun x hx=>.inl hx,_,rfl,rfl⟩
  ·rw [if_neg e]
   refine ⟨_,_,rfl,_,[b,bb],rfl,?_,.inr ⟨bb,ver+1,frz,by simp,?_,g2,by simp;omega,rfl⟩,Keep.set (by simp),fun x hx=>.inl hx,_,rfl,rfl⟩
   ·simp only [Option.getD_some];rw [List.getElem?_set_ne (fun e=>g2 e.symm)]
   ·simp only [Option.getD_some,List.map_append];rw [List.getElem?_set_self (zab g1)]
theorem eq_bld (b:Nat):eqA Tryz.prog 20 244 (.ptr b 0 0) (.ptr b 0 0)=some true:=by
 have h1:Tryz.prog.underlying 244=some (.pointer tBld):=by kernel_rfl
 have h2:(ti Tryz.prog tBld).isSome=true:=by kernel_rfl
 unfold eqA
 rw [h1]
 simp only
 rw [if_pos ⟨trivial,trivial,trivial,h2⟩]
theorem z3x:liesAt Tryz.prog Tryz.prog.depth tBld (2 / Tryz.prog.cellsOf tBld) 0 tBld 1=true:=by kernel_rfl
theorem z3w:liesAt Tryz.prog Tryz.prog.depth tWri (2 / Tryz.prog.cellsOf tWri) 0 tBld 1=true:=by kernel_rfl
section
variable {n:Nat}
theorem zgx (hn:1 ≤ n) {hp:zaa}{b:Nat}{bs:Str}{F:List Nat}(w:BW hp b bs F) :
  ∃ hp' t buf,C n 214 [.ptr b 0 0] hp=some (.ret (.tup []),hp') ∧ hp'[b]?=some (.cells 0 (some t) [.ptr b 0 0,buf] 0) ∧ (t=tBld ∨ t=tWri) ∧ Buf hp' b buf bs F ∧ Keep hp hp' F:=by
 obtain ⟨m,rfl⟩:=pre1 n
 obtain ⟨t,a,buf,h1,h2,h3,h4⟩:=w
 rcases h2 with rfl | rfl
 ·refine ⟨hp.set b (.cells 0 (some t) (putAt [.nilp,buf] 0 [.ptr b 0 0]) 0),t,buf,?_,?_,h3,?_,Keep.set h4.mem⟩
  ·refine za7 F214 rfl rfl ?_
   conv=>whnf
   refine ldI h1 ?_
   conv=>whnf
   refine ⟨_,_,_,h1,by show 0<2;decide,?_⟩
   conv=>whnf
   refine ⟨_,_,_,h1,?_,?_⟩
   ·rcases h3 with rfl | rfl
    ·exact z3x
    ·exact z3w
   conv=>whnf
   refine stJ h1 ?_
   exact ⟨rfl,[],rfl,rfl,rfl⟩
  ·rw [List.getElem?_set_self (zab h1)];rfl
  ·rcases h4 with h4 | ⟨bb,ver,frz,g1,g2,g3,g4,rfl⟩
   ·exact .inl h4
   ·exact .inr ⟨bb,ver,frz,g1,by rw [List.getElem?_set_ne g3];exact g2,g3,g4,rfl⟩
 ·refine ⟨hp,t,buf,?_,h1,h3,h4,Keep.refl _ _⟩
  refine za7 F214 rfl rfl ?_
  conv=>whnf
  refine ldI h1 ?_
  conv=>whnf
  refine ldI h1 ?_
  conv=>whnf
  refine eqI (eq_bld b) ?_
  exact ⟨rfl,[],rfl,rfl,rfl⟩
theorem ztp {hp hp1 hp2:zaa}{b t:Nat}{F F':List Nat}{bs:Str}{v:AV}(h3:t=tBld ∨ t=tWri) (k1:Keep hp hp1 F) (e2:hp2[b]?=some (.cells 0 (some t) [.ptr b 0 0,v] 0)) (hb:b∈F) (hB:Buf hp2 b v bs F') (k2:Keep hp1 hp2 F) (hF:∀ x∈F',x∈F ∨ hp1.length ≤ x):Wrote hp hp2 b F F' bs :=
 ⟨⟨t,_,_,e2,.inr rfl,h3,hB⟩,k1.trans k2 (fun x hx=>.inl hx),fun x hx=>(hF x hx).imp id fun h=>Nat.le_trans k1.1 h⟩
theorem z1b {hp:zaa}{b:Nat}{x:AB}{buf:AV}{bs:Str}{F:List Nat}(h:Buf hp b buf bs F):Buf (hp.set b x) b buf bs F:=by
 rcases h with h | ⟨bb,ver,frz,g1,g2,g3,g4,rfl⟩
 ·exact .inl h
 ·exact .inr ⟨bb,ver,frz,g1,by rw [List.getElem?_set_ne g3];exact g2,g3,g4,rfl⟩
theorem zb5 (hn:2 ≤ n) {hp:zaa}{b:Nat}{bs:Str}{F:List Nat}(w:BW hp b bs F) (s:Str) (hl:bs.length+s.length ≤ 1073741824) :
  ∃ hp' F',C n 176 [.ptr b 0 0,.str s] hp=some (.ret (.tup [i64 s.length,.nili]),hp') ∧ Wrote hp hp' b F F' (bs++s):=by
 obtain ⟨m,rfl⟩:=pre1 n
 have hm:=w.mem
 obtain ⟨hp1,t,buf,e1,h1,h3,h4,k1⟩:=zgx (n:=m) (by omega) w
 obtain ⟨v,oh,e2,hp2,F',rfl,g1,g2,g3,g4,xs,g5,rfl⟩:=z1c h4 (x:=.str s) ⟨rfl,zl5 _ _⟩ (zab h1) hl
 have g1':=g1.trans h1
 refine ⟨(oh.getD hp1).set b (.cells 0 (some t) (putAt [.ptr b 0 0,buf] 1 [v]) 0),F',?_,?_⟩
 ·refine za7 F176 rfl rfl ?_
  conv=>whnf
  refine clI e1 ?_
  conv=>whnf
  refine ldI h1 ?_
  refine ⟨_,e2,?_⟩
  cases oh with
  | none =>
   conv=>whnf
   refine stI h1 g5 (by rfl) (by rfl) (by rfl) ?_
   exact ⟨rfl,[i64 s.length,.nili],rfl,rfl,rfl⟩
  | some h2 =>
   conv=>whnf
   refine stI g1' g5 (by rfl) (by rfl) (by rfl) ?_
   exact ⟨rfl,[i64 s.length,.nili],rfl,rfl,rfl⟩
 ·exact ztp h3 k1 (by rw [List.getElem?_set_self (zab g1')];rfl) hm (z1b g2) (g3.set' (.inl hm)) g4
theorem zkh (hn:2 ≤ n) {hp:zaa}{b:Nat}{bs:Str}{F:List Nat}(w:BW hp b bs F) (c:UInt8) (hl:bs.length+1 ≤ 1073741824) :
  ∃ hp' F',C n 173 [.ptr b 0 0,u8 c] hp=some (.ret .nili,hp') ∧ Wrote hp hp' b F F' (bs++[c]):=by
 obtain ⟨m,rfl⟩:=pre1 n
 have hm:=w.mem
 obtain ⟨hp1,t,buf,e1,h1,h3,h4,k1⟩:=zgx (n:=m) (by omega) w
 obtain ⟨v,oh,e2,hp2,F',rfl,g1,g2,g3,g4,xs,g5,rfl⟩:=z1c h4 (x:=.lst 1 ([c].map u8) true) ⟨rfl,zl6 _ _ _⟩ (zab h1) hl
 have g1':=g1.trans h1
 refine ⟨(oh.getD hp1).set b (.cells 0 (some t) (putAt [.ptr b 0 0,buf] 1 [v]) 0),F',?_,?_⟩
 ·refine za7 F173 rfl rfl ?_
  conv=>whnf
  refine clI e1 ?_
  conv=>whnf
  refine ldI h1 ?_
  conv=>whnf
  refine ⟨rfl,?_⟩
  refine ⟨_,e2,?_⟩
  cases oh with
  | none =>
   conv=>whnf
   refine stI h1 g5 (by rfl) (by rfl) (by rfl) ?_
   exact ⟨rfl,[.nili],rfl,rfl,rfl⟩
  | some h2 =>
   conv=>whnf
   refine stI g1' g5 (by rfl) (by rfl) (by rfl) ?_
   exact ⟨rfl,[.nili],rfl,rfl,rfl⟩
 ·exact ztp h3 k1 (by rw [List.getElem?_set_self (zab g1')];rfl) hm (z1b g2) (g3.set' (.inl hm)) g4
theorem zn0 (hn:1 ≤ n) {hp:zaa}{b:Nat}{bs:Str}{F:List Nat}(w:BW hp b bs F):C n 178 [.ptr b 0 0] hp=some (.ret (i64 bs.length),hp):=by
 obtain ⟨m,rfl⟩:=pre1 n
 obtain ⟨t,a,buf,h1,h2,h3,h4⟩:=w
 refine za7 F178 rfl rfl ?_
 conv=>whnf
 refine ldI h1 ?_
 rcases h4 with ⟨rfl,rfl,rfl⟩ | ⟨bb,ver,frz,rfl,g2,g3,g4,rfl⟩
 ·exact ⟨rfl,[i64 0],rfl,rfl,rfl⟩
 ·exact ⟨rfl,[i64 bs.length],rfl,rfl,rfl⟩
theorem zg4 (hn:1 ≤ n) {hp:zaa}{b:Nat}{bs:Str}{F:List Nat}(w:BW hp b bs F) (h0:bs≠[]) (hl:bs.length ≤ 1073741824):∃ hp',C n 180 [.ptr b 0 0] hp=some (.ret (.str bs),hp') ∧ Wrote hp hp' b F F bs:=by
 obtain ⟨m,rfl⟩:=pre1 n
 obtain ⟨t,a,buf,h1,h2,h3,h4⟩:=w
 rcases h4 with ⟨rfl,rfl,rfl⟩ | ⟨bb,ver,frz,rfl,g2,g3,g4,rfl⟩
 ·exact (h0 rfl).elim
 ·have hpos:0<bs.length:=by cases bs with | nil=>exact (h0 rfl).elim | cons=>simp
  have e1:(hp.set bb (.cells ver (some 5) (bs.map u8) (max frz bs.length)))[b]?=some (.cells 0 (some t) [a,.sl 1 bb ver 0 bs.length] 0):=by rw [List.getElem?_set_ne (fun e=>g3 e.symm)];exact h1
  refine ⟨hp.set bb (.cells ver (some 5) (bs.map u8) (max frz bs.length)),?_,⟨t,a,_,e1,h2,h3,.inr ⟨bb,ver,_,rfl,by rw [List.getElem?_set_self (zab g2)],g3,by omega,rfl⟩⟩,Keep.set (by simp),fun x hx=>.inl hx⟩
  refine za7 F180 rfl rfl ?_
  conv=>whnf
  refine ldI h1 ?_
  conv=>whnf
  refine ⟨by omega,?_⟩
  conv=>whnf
  refine ldI h1 ?_
  conv=>whnf
  have e:(bs.map u8).take (bs.length:Int).toNat=bs.map u8:=by rw [Int.toNat_natCast];exact List.take_of_length_le (by simp)
  refine ⟨by omega,_,_,bs,g2,⟨by simp,by simpa using hl⟩,by rw [e];exact zwy bs,by rw [e];exact zbt bs,?_⟩
  conv=>whnf
  refine ⟨?_,?_⟩
  ·refine ⟨?_,?_⟩
   ·conv=>whnf
    exact ldI e1 rfl
   ·conv=>whnf
    exact ldI e1 rfl
  ·exact ⟨rfl,[.str bs],rfl,rfl,by simp⟩
end
def num (k:Nat):Nat → Str
 | 0=>[]
 | w+1=>UInt8.ofNat (k / 256 ^ w)::num k w
theorem zam (k:Nat):∀ w,(num k w).length=w
 | 0=>rfl
 | w+1=>by simp [num,zam k w]
theorem z1a {k i:Nat}(hi:i ≤ 7):IntKind.u8.wrap (((k:Int)).fdiv (2 ^ (min ((8*(i:Int))).toNat IntKind.i64.bits)))=((UInt8.ofNat (k / 256 ^ i)).toNat:Int):=by
 have h1:min (8*(i:Int)).toNat IntKind.i64.bits=8*i:=by show min (8*(i:Int)).toNat 64=8*i;omega
 rw [h1,Int.fdiv_eq_ediv_of_nonneg _ (by exact Int.pow_nonneg (by decide))]
 have h2:((k:Int)) / (2 ^ (8*i):Int)=((k / 256 ^ i:Nat):Int):=by
  rw [show (256:Nat)=2 ^ 8 by rfl,← Nat.pow_mul]
  norm_cast
 rw [h2]
 show (if (IntKind.u8.signed&&decide (((k / 256 ^ i:Nat):Int) % (2 ^ 8:Int)≥(2 ^ (8-1):Int)))=true then ((k / 256 ^ i:Nat):Int) % (2 ^ 8:Int)-2 ^ 8 else ((k / 256 ^ i:Nat):Int) % (2 ^ 8:Int))=_
 rw [if_neg (by simp [IntKind.signed]),UInt8.toNat_ofNat']
 omega
def Dg.bytes (d:Dg):Str:=d.list
theorem Dg.bytes_len (d:Dg):d.bytes.length=16:=rfl
theorem Dg.cells_map (d:Dg):d.cells=d.bytes.map u8:=rfl
section
variable {n:Nat}
theorem zze (hn:3 ≤ n) {hp:zaa}{b:Nat}{bs:Str}{F:List Nat}(w:BW hp b bs F) (k wd:Nat) (hw:wd ≤ 8) (hl:bs.length+wd ≤ 1073741824) :
  ∃ hp' F',C n 174 [.ptr b 0 0,i64 k,i64 wd] hp=some (.ret (.tup []),hp') ∧ Wrote hp hp' b F F' (bs++num k wd):=by
 obtain ⟨m,rfl⟩:=pre1 n
 have:=zcn (n:=m) (c:=cfg0) (args:=[.ptr b 0 0,i64 k,i64 wd]) (h:=hp) (R:=fun v hp'=>v=.tup [] ∧ ∃ F',Wrote hp hp' b F F' (bs++num k wd)) F174 rfl rfl ?_
 ·obtain ⟨v,hp',e,rfl,F',hW⟩:=this
  exact ⟨hp',F',e,hW⟩
 conv=>whnf
 refine zI (zae (by omega) (by omega)) ?_
 conv=>whnf
 refine za3 (by decide) rfl (α:=Nat × Str × List Nat × zaa) (fun x=>⟨[(0,.ptr b 0 0),(1,i64 k),(6,i64 ((x.1:Int)-1))],x.2.2.2,[]⟩)
  (fun x=>x.1 ≤ wd ∧ Wrote hp x.2.2.2 b F x.2.2.1 (bs++x.2.1) ∧ x.2.1++num k x.1=num k wd) (fun x=>x.1) (wd,[],F,hp) ⟨⟨rfl,rfl,rfl⟩,rfl,rfl⟩ ?_ (by simp only [KK];omega) ?_
 ·exact ⟨Nat.le_refl _,by simpa using Wrote.refl w,rfl⟩
 ·rintro ⟨r,o,G,h1⟩ ⟨g1,g2,g3⟩
  simp only at g1 g2 g3
  conv=>whnf
  refine brd (fun a=>?_) (fun a=>?_)
  ·simp only at a
   obtain ⟨q,rfl⟩ : ∃ q,r=q+1:=⟨r-1,by omega⟩
   have hlen:o.length+(q+1)=wd:=by
    have:=congrArg List.length g3
    simpa [zam] using this
   conv=>whnf
   refine zI (z:=8*(q:Int)) (by rw [zae (by omega) (by omega)];omega) ?_
   conv=>whnf
   refine ⟨by omega,_,rfl,?_⟩
   conv=>whnf
   refine zI (z1a (k:=k) (i:=q) (by omega)) ?_
   obtain ⟨h2,G2,e2,w2⟩:=zkh (n:=m) (by omega) g2.1 (UInt8.ofNat (k / 256 ^ q)) (by simp;omega)
   conv=>whnf
   refine clI e2 ?_
   conv=>whnf
   refine zI (z:=(q:Int)-1) (by rw [zae (by omega) (by omega)];omega) ?_
   refine nxI (q,o++[UInt8.ofNat (k / 256 ^ q)],G2,h2) ⟨by omega,?_,?_⟩ (by simp) ⟨⟨rfl,rfl,rfl⟩,rfl,rfl⟩
   ·have:=g2.trans w2
    simpa using this
   ·rw [← g3];simp [num]
  ·simp only at a
   have:r=0:=by omega
   subst this
   conv=>whnf
   refine ⟨rfl,[],rfl,rfl,G,?_⟩
   have g4:Wrote hp h1 b F G (bs++num k wd):=by rw [← g3];simpa [num] using g2
   exact g4
theorem zhm (h:zaa) {bb ver:Nat}{el:Option TypeId}{s:Str}{frz:Nat}(hb:h[bb]?=some (.cells ver el (s.map u8) frz)):zbc h 1 s.length (.sl 1 bb ver 0 s.length)=some (s.map u8):=by
 unfold zbc
 simp only
 rw [if_pos ⟨Nat.le_refl _,trivial⟩,hb]
 simp only
 rw [if_pos ⟨trivial,by simp⟩]
 rw [List.drop_zero,Nat.mul_one,List.take_of_length_le (by simp)]
theorem z5z (hn:3 ≤ n) {hp:zaa}{b:Nat}{bs:Str}{F:List Nat}(w:BW hp b bs F) (d:Dg) (hl:bs.length+16 ≤ 1073741824) :
  ∃ hp' F',C n 282 [.ptr b 0 0,.agg d.cells] hp=some (.ret (.tup []),hp') ∧ Wrote hp hp' b F F' (bs++d.bytes):=by
 obtain ⟨m,rfl⟩:=pre1 n
 have hb:=w.lt b w.mem
 have k0:Keep hp (hp++[.cells 0 (some 23) d.cells 0]) []:=Keep.app _ _ _
 have w1:=w.stays k0 (by simp)
 obtain ⟨h2,G2,e2,w2⟩:=zb5 (n:=m) (by omega) w1 d.bytes (by rw [d.bytes_len];exact hl)
 refine ⟨h2,G2,?_,w2.1,(k0.mono (by simp)).trans w2.2.1 (fun x hx=>.inl hx),fun x hx=>(w2.2.2 x hx).imp id fun h=>by simp at h;omega⟩
 have hd:(hp++[.cells 0 (some 23) d.cells 0])[hp.length]?=some (.cells 0 (some 23) (d.bytes.map u8) 0):=zaf _ _
 have hs:h2[hp.length]?=some (.cells 0 (some 23) (d.bytes.map u8) 0):=by
  rw [w2.2.1.2 hp.length (by simp) (fun h=>by have:=w.lt _ h;omega)]
  exact hd
 refine za7 F282 rfl rfl ?_
 conv=>whnf
 refine ⟨_,_,_,hd,⟨by rw [List.length_map,d.bytes_len];decide,by decide⟩,?_⟩
 refine slI (v:=.sl 1 hp.length 0 0 16) rfl ?_
 conv=>whnf
 refine ⟨_,d.bytes,zhm _ hd,zbt _,?_⟩
 conv=>whnf
 refine clI e2 ?_
 ·exact ⟨rfl,[],rfl,rfl,rfl⟩
end
def c280:RC :=
 (.seq (.ops [(oP 4 (.box 296 (.t 0))),(oP 6 (.box 147 (.t 2)))])
 (.seq (.ops [(mV 8 1),(oC 9 0 6),(oA 10 9),(oP 11 (.lenS (.t 10))),(mV 12 3),(oI 13 .sub 11 12),(oP 14 (.callF 174 [(.t 8),(.t 13),(.c (.int .i64 1))]))])
 (.seq (.draw [((mV 15 1),0),((oR 16 15),0),((oC 17 0 16),0),((oC 18 0 6),0),((oA 19 18),1),((mV 20 3),0),((oP 21 (.sliceS (.t 19) (some (.t 20)) none)),1),((oW 22 176 17 21),2)])
 (.block 0
 (.seq (.ops [(oC 35 1 4),(oA 36 35),(oJ 37 .gtr 36 0),(mV 34 37)])
 (.cond (.t 34)
 (.seq (.ops [(mV 38 1),(oC 39 4 6),(oA 40 39),(oP 41 (.callF 174 [(.t 38),(.t 40),(.c (.int .i64 4))]))])
 (.seq (.ops [(mV 42 1),(oC 43 5 6),(oA 44 43),(oP 45 (.callF 174 [(.t 42),(.t 44),(.c (.int .i64 4))]))])
 (.ops [(mV 46 1),(oC 47 6 6),(oB 48 16 47),(oW 49 282 46 48)])))
 (.seq (.ops [(oC 51 2 6),(oA 52 51),(oJ 53 .gtr 52 0),(mV 50 53)])
 (.cond (.t 50)
 (.seq (.ops [(mV 54 1),(oP 55 (.callF 174 [(.t 54),(.c (.int .i64 65535)),(.c (.int .i64 2))]))])
 (.seq (.ops [(mV 56 1),(oC 57 2 6),(oA 58 57),(oP 59 (.callF 174 [(.t 56),(.t 58),(.c (.int .i64 4))]))])
 (.seq (.ops [(mV 60 1),(oC 61 3 6),(oA 62 61),(oP 63 (.callF 174 [(.t 60),(.t 62),(.c (.int .i64 2))]))])
 (.ops [(mV 64 1),(oC 65 6 6),(oB 66 16 65),(oW 67 282 64 66)]))))
 (.seq (.ops [(oC 69 4 6),(oA 70 69),(oJ 71 .gtr 70 0),(mV 68 71)])
 (.cond (.t 68)
 (.seq (.ops [(mV 72 1),(oP 73 (.callF 174 [(.t 72),(.c (.int .i64 65534)),(.c (.int .i64 2))]))])
 (.seq (.ops [(mV 74 1),(oC 75 4 6),(oA 76 75),(oP 77 (.callF 174 [(.t 74),(.t 76),(.c (.int .i64 4))]))])
 (.seq (.ops [(mV 78 1),(oC 79 5 6),(oA 80 79),(oP 81 (.callF 174 [(.t 78),(.t 80),(.c (.int .i64 4))]))])
 (.ops [(mV 82 1),(oC 83 6 6),(oB 84 16 83),(oW 85 282 82 84)]))))
 (.seq (.ops [(mV 23 1),(oC 24 1 6),(oA 25 24),(oP 26 (.lenS (.t 25))),(oP 27 (.callF 174 [(.t 23),(.t 26),(.c (.int .i64 2))]))])
 (.draw [((mV 28 1),0),((oR 29 28),0),((oC 30 0 29),0),((oC 31 1 6),0),((oA 32 31),1),((oW 33 176 30 32),2)]))))))))))))
theorem F280:FI 280 4 86 7 [] c280:=mkF Tryz.f280 Tryz.func280
def c278:RC :=
 (.seq (.ops [(oP 2 (.box 296 (.t 0)))])
 (.seq (.ops [(oC 11 3 2),(oA 12 11),(oC 13 1 2),(oA 14 13),(oW 15 279 12 14),(mV 4 15)])
 (.seq (.ops [(mV 16 1),(oC 17 0 2),(oA 18 17),(oP 19 (.callF 174 [(.t 16),(.t 18),(.c (.int .i64 1))]))])
 (.seq (.ops [(mV 20 1),(oC 21 1 2),(oA 22 21),(oP 23 (.callF 174 [(.t 20),(.t 22),(.c (.int .i64 1))]))])
 (.seq (.ops [(oH 5 0)])
 (.seq (.seq (.ops [(oC 24 2 2),(oA 25 24)])
 (.cond (.t 25)
 (.ops [(oH 5 1)])
 .skip))
 (.cut (.seq (.ops [(mV 26 1),(mV 27 5),(oP 28 (.callF 174 [(.t 26),(.t 27),(.c (.int .i64 1))]))])
 (.seq (.ops [(mV 29 1),(mV 30 4),(oP 31 (.lenS (.t 30))),(oP 32 (.callF 174 [(.t 29),(.t 31),(.c (.int .i64 1))]))])
 (.seq (.ops [(mV 33 1),(oC 34 3 2),(oA 35 34),(oK 36 35),(oP 37 (.callF 174 [(.t 33),(.t 36),(.c (.int .i64 2))]))])
 (.seq (.ops [(mV 38 1),(oR 39 38),(oC 40 0 39),(mV 41 4),(oW 42 176 40 41)])
 (.seq (.ops [(oP 6 (.alloc 248 [.nilp,(.lst 0 [] true)]))])
 (.seq (.draw [((mV 43 1),0),((oR 44 43),0),((oC 45 0 44),0),((oC 47 3 2),0),((oA 48 47),1),((oK 49 48),0),((oP 50 (.bin .mul (.c (.int .i64 2)) (.t 49))),0),((oV 46 178 45),2),((oI 51 .add 46 50),0),((mV 7 51),0)])
 (.seq (.seq (.ops [(oC 52 3 2),(oA 53 52),(oK 54 53),(oH 55 0)])
 (.block 0
 (.loop
 (.seq (.ops [(oI 56 .lss 55 54)])
 (.seq (.cond (.t 56)
 .skip
 (.exit 0))
 (.seq (.block 1
 (.seq (.ops [(mV 57 55),(oS 58 22 53 55),(oB 59 22 58),(oP 9 (.alloc 147 [(.str []),(.str []),(.int .i64 0),(.int .i64 0),(.int .i64 0),(.int .i64 0),(.int .u8 0),(.int .u8 0),(.int .u8 0),(.int .u8 0),(.int .u8 0),(.int .u8 0),(.int .u8 0),(.int .u8 0),(.int .u8 0),(.int .u8 0),(.int .u8 0),(.int .u8 0),(.int .u8 0),(.int .u8 0),(.int .u8 0),(.int .u8 0)])),(mV 8 57),(oT 22 9 59)])
 (.seq (.ops [(mV 60 1),(mV 61 7),(oC 62 0 6),(oV 63 178 62),(oI 64 .add 61 63),(oP 65 (.callF 174 [(.t 60),(.t 64),(.c (.int .i64 2))]))])
 (.seq (.ops [(mV 66 4),(oP 67 (.lenS (.t 66))),(mV 10 67)])
 (.seq (.seq (.ops [(mV 68 8),(oJ 69 .eql 68 0),(mV 70 69),(oF 71 70 true 1 2),(oD 72 70 true 71),(oG 73 70 true (.bin .gtr (.t 72) (.c (.int .i64 0)))),(oN 74 70 73)])
 (.cond (.t 74)
 (.ops [(oH 10 0)])
 .skip))
 (.cut (.ops [(oB 75 4 2),(oB 76 22 9),(mV 77 10),(oP 78 (.callF 280 [(.t 75),(.t 6),(.t 76),(.t 77)]))])))))))
 (.cut (.ops [(oJ 79 .add 55 1),(mV 55 79)]))))))))
 (.cut (.draw [((mV 80 1),0),((oR 81 80),0),((oC 82 0 81),0),((oC 83 0 6),0),((oV 84 180 83),2),((oW 85 176 82 84),2)]))))))))))))))))
theorem F278:FI 278 2 86 7 [] c278:=mkF Tryz.f278 Tryz.func278
def c276:RC :=
 (.seq (.ops [(oP 2 (.box 292 (.t 0)))])
 (.seq (.ops [(mV 4 1),(oC 5 0 2),(oA 6 5),(oP 7 (.callF 174 [(.t 4),(.t 6),(.c (.int .i64 4))]))])
 (.seq (.ops [(mV 8 1),(oC 9 1 2),(oA 10 9),(oP 11 (.lenS (.t 10))),(oP 12 (.callF 174 [(.t 8),(.t 11),(.c (.int .i64 2))]))])
 (.draw [((mV 13 1),0),((oR 14 13),0),((oC 15 0 14),0),((oC 16 1 2),0),((oA 17 16),1),((oW 18 176 15 17),2)]))))
theorem F276:FI 276 2 19 5 [] c276:=mkF Tryz.f276 Tryz.func276
def c277:RC :=
 (.seq (.ops [(oP 2 (.box 294 (.t 0)))])
 (.seq (.ops [(mV 8 1),(oC 9 0 2),(oA 10 9),(oP 11 (.callF 174 [(.t 8),(.t 10),(.c (.int .i64 4))]))])
 (.seq (.ops [(mV 12 1),(oC 13 1 2),(oA 14 13),(oK 15 14),(oP 16 (.callF 174 [(.t 12),(.t 15),(.c (.int .i64 2))]))])
 (.seq (.ops [(oC 17 1 2),(oA 18 17),(oK 19 18),(oH 20 0)])
 (.block 0
 (.loop
 (.seq (.ops [(oI 21 .lss 20 19)])
 (.seq (.cond (.t 21)
 .skip
 (.exit 0))
 (.seq (.block 1
 (.seq (.ops [(oS 22 2 18 20),(oB 23 2 22),(oP 5 (.alloc 145 [(.int .i64 0),(.lst 0 [] true)])),(oT 2 5 23)])
 (.seq (.ops [(mV 24 1),(oC 25 0 5),(oA 26 25),(oP 27 (.callF 174 [(.t 24),(.t 26),(.c (.int .i64 6))]))])
 (.seq (.ops [(mV 28 1),(oC 29 1 5),(oA 30 29),(oK 31 30),(oP 32 (.callF 174 [(.t 28),(.t 31),(.c (.int .i64 2))]))])
 (.seq (.ops [(oC 33 1 5),(oA 34 33),(oK 35 34),(oH 36 0)])
 (.block 2
 (.loop
 (.seq (.ops [(oI 37 .lss 36 35)])
 (.seq (.cond (.t 37)
 .skip
 (.exit 2))
 (.seq (.block 3
 (.seq (.ops [(oS 38 1 34 36),(oA 39 38),(mV 7 39)])
 (.ops [(mV 40 1),(mV 41 7),(oP 42 (.callF 174 [(.t 40),(.t 41),(.c (.int .i64 4))]))])))
 (.ops [(oJ 43 .add 36 1),(mV 36 43)])))))))))))
 (.cut (.ops [(oJ 44 .add 20 1),(mV 20 44)])))))))))))
theorem F277:FI 277 2 45 6 [] c277:=mkF Tryz.f277 Tryz.func277
theorem Wrote.keep {h h':zaa}{b x:Nat}{F F':List Nat}{s:Str}{v:AB}(w:Wrote h h' b F F' s) (hx:h[x]?=some v) (hn:x ∉ F):h'[x]?=some v ∧ x ∉ F':=by
 have hl:=zab hx
 refine ⟨by rw [w.2.1.2 x hl hn];exact hx,fun hf=>?_⟩
 rcases w.2.2 x hf with h | h
 ·exact hn h
 ·omega
theorem BW.app {h:zaa}{b:Nat}{F:List Nat}{s:Str}(w:BW h b s F) (x:AB):BW (h++[x]) b s F ∧ (h++[x])[h.length]?=some x ∧ h.length ∉ F :=
 ⟨w.stays (Keep.app h x []) (by simp),zaf _ _,fun hf=>by have:=w.lt _ hf;omega⟩
theorem za8 {h:zaa}{i:Nat}{v x:AB}(hi:h[i]?=some v):(h++[x])[i]?=some v:=by rw [List.getElem?_append_left (zab hi)];exact hi
theorem Wrote.of_app {h h':zaa}{b:Nat}{F F':List Nat}{s:Str}{x:AB}(w:Wrote (h++[x]) h' b F F' s):Wrote h h' b F F' s :=
 ⟨w.1,((Keep.app h x []).mono (by simp)).trans w.2.1 (fun x hx=>.inl hx),fun y hy=>(w.2.2 y hy).imp id fun h=>by simp at h;omega⟩
section
variable {n:Nat}{hp:zaa}{b:Nat}{bs:Str}{F:List Nat}{K X:AV → zaa → Prop}
theorem numC (hn:3 ≤ n) (w:BW hp b bs F) (k:Int) (h0:0 ≤ k) (wd:Nat) (hw:wd ≤ 8) (hl:bs.length+wd ≤ 1073741824) (hk:∀ hp' F',Wrote hp hp' b F F' (bs++num k.toNat wd) → K (.tup []) hp') :
  ∃ r h',C n 174 [.ptr b 0 0,i64 k,i64 wd] hp=some (r,h') ∧ WpR K X h' r:=by
 obtain ⟨q,rfl⟩:=Int.eq_ofNat_of_zero_le h0
 obtain ⟨hp',F',e,h⟩:=zze hn w q wd hw hl
 exact clI e (hk hp' F' h)
theorem sumC (hn:3 ≤ n) (w:BW hp b bs F) (d:Dg) (hl:bs.length+16 ≤ 1073741824) (hk:∀ hp' F',Wrote hp hp' b F F' (bs++d.bytes) → K (.tup []) hp') :
  ∃ r h',C n 282 [.ptr b 0 0,.agg d.cells] hp=some (r,h') ∧ WpR K X h' r:=by
 obtain ⟨hp',F',e,h⟩:=z5z hn w d hl
 exact clI e (hk hp' F' h)
theorem strC (hn:2 ≤ n) (w:BW hp b bs F) (s:Str) (hl:bs.length+s.length ≤ 1073741824) (hk:∀ hp' F',Wrote hp hp' b F F' (bs++s) → K (.tup [i64 s.length,.nili]) hp') :
  ∃ r h',C n 176 [.ptr b 0 0,.str s] hp=some (r,h') ∧ WpR K X h' r:=by
 obtain ⟨hp',F',e,h⟩:=zb5 hn w s hl
 exact clI e (hk hp' F' h)
theorem byteC (hn:2 ≤ n) (w:BW hp b bs F) (c:UInt8) (hl:bs.length+1 ≤ 1073741824) (hk:∀ hp' F',Wrote hp hp' b F F' (bs++[c]) → K .nili hp') :
  ∃ r h',C n 173 [.ptr b 0 0,u8 c] hp=some (r,h') ∧ WpR K X h' r:=by
 obtain ⟨hp',F',e,h⟩:=zkh hn w c hl
 exact clI e (hk hp' F' h)
def zf7 (e:Entry) (lv:Int):Str :=
 if 0<lv then num e.child.toNat 4++(num e.count.toNat 4++e.sum.bytes)
 else if 0<e.over then num 65535 2++(num e.over.toNat 4++(num e.len.toNat 2++e.sum.bytes))
 else if 0<e.child then num 65534 2++(num e.child.toNat 4++(num e.count.toNat 4++e.sum.bytes))
 else num e.val.length 2++e.val
def entB (c:Nat) (e:Entry) (lv:Int):Str:=num (e.key.length-c) 1++(e.key.drop c++zf7 e lv)
def Entry.Nn (e:Entry):Prop:=0 ≤ e.over ∧ 0 ≤ e.len ∧ 0 ≤ e.child ∧ 0 ≤ e.count
theorem zgf (e:Entry) (lv:Int):(zf7 e lv).length ≤ 26+e.val.length:=by
 unfold zf7
 repeat' split
 all_goals simp [zam,Dg.bytes_len]
 all_goals omega
theorem z4j (hn:4 ≤ n) (w:BW hp b bs F) (xs:List AV) (lv:Int) (hx:xs[1]?=some (i64 lv)) (hs:AV.cells? (.agg xs)=some xs) (e:Entry) (hN:e.Nn) (c:Nat) (hc:c ≤ e.key.length) (hl:bs.length+e.key.length+e.val.length+32 ≤ 1073741824) :
  ∃ hp' F',C n 280 [.agg xs,.ptr b 0 0,e.av,i64 c] hp=some (.ret (.tup []),hp') ∧ Wrote hp hp' b F F' (bs++entB c e lv):=by
 obtain ⟨m,rfl⟩:=pre1 n
 have hR:=zgf e lv
 have:=zcn (n:=m) (c:=cfg0) (args:=[.agg xs,.ptr b 0 0,e.av,i64 c]) (h:=hp) (R:=fun v hp'=>v=.tup [] ∧ ∃ F',Wrote hp hp' b F F' (bs++entB c e lv)) F280 rfl rfl ?_
 ·obtain ⟨v,hp',e,rfl,F',hW⟩:=this
  exact ⟨hp',F',e,hW⟩
 obtain ⟨w0,x0,nx0⟩:=w.app (.cells 0 (some 296) xs 0)
 obtain ⟨w1,e1,ne1⟩:=w0.app (.cells 0 (some 147) e.cells 0)
 have x1:=za8 (x:=.cells 0 (some 147) e.cells 0) x0
 have hk:(e.key.drop c).length=e.key.length-c:=by simp
 unfold Entry.Nn at hN
 conv=>whnf
 rw [hs]
 conv=>whnf
 refine ldI e1 ?_
 conv=>whnf
 refine zI (z:=(e.key.length:Int)-c) (zae (by omega) (by omega)) ?_
 conv=>whnf
 refine numC (by omega) w1 ((e.key.length:Int)-c) (by omega) 1 (by omega) (by omega) fun h2 F2 w2=>?_
 obtain ⟨x2,nx2⟩:=w2.keep x1 nx0
 have e2:=(w2.keep e1 ne1).1
 have ne2:=(w2.keep e1 ne1).2
 conv=>whnf
 refine ldI e2 ?_
 conv=>whnf
 refine zxr hc ?_
 conv=>whnf
 refine strC (hp:=h2) (by omega) w2.1 (e.key.drop c) (by simp only [List.length_append,zam,hk,Dg.bytes_len];omega) fun h3 F3 w3=>?_
 obtain ⟨x3,nx3⟩:=w3.keep x2 nx2
 have e3:=(w3.keep e2 ne2).1
 have ne3:=(w3.keep e2 ne2).2
 conv=>whnf
 refine ⟨⟨?_,?_⟩,?_⟩
 ·conv=>whnf
  refine zxr hc ?_
  rfl
 ·conv=>whnf
  exact ldI e3 rfl
 conv=>whnf
 refine ldI x3 ?_
 refine zdr hx ?_
 have fin:∀ {h':zaa}{F':List Nat}{t:Str},Wrote hp h' b F F' t → t=bs++entB c e lv → ∃ F',Wrote hp h' b F F' (bs++entB c e lv):=fun w q=>⟨_,q ▸ w⟩
 have w3':=(w2.trans w3).of_app.of_app
 have hk1:(e.key.drop c).length=e.key.length-c:=by simp
 have hk2:((e.key.length:Int)-c).toNat=e.key.length-c:=by omega
 conv=>whnf
 refine brd (fun a=>?_) (fun a=>?_)
 ·conv=>whnf
  refine ldI e3 ?_
  conv=>whnf
  refine numC (n:=m) (hp:=h3) (by omega) w3.1 _ (by omega) 4 (by omega) (by simp only [List.length_append,zam,hk,Dg.bytes_len];omega) fun h4 F4 w4=>?_
  have e4:=(w4.keep e3 ne3).1
  have ne4:=(w4.keep e3 ne3).2
  conv=>whnf
  refine ldI e4 ?_
  conv=>whnf
  refine numC (n:=m) (hp:=h4) (by omega) w4.1 _ (by omega) 4 (by omega) (by simp only [List.length_append,zam,hk,Dg.bytes_len];omega) fun h5 F5 w5=>?_
  have e5:=(w5.keep e4 ne4).1
  have ne5:=(w5.keep e4 ne4).2
  conv=>whnf
  refine ldI e5 ?_
  conv=>whnf
  refine sumC (n:=m) (hp:=h5) (by omega) w5.1 e.sum (by simp only [List.length_append,zam,hk,Dg.bytes_len];omega) fun h6 F6 w6=>?_
  refine ⟨rfl,[],rfl,rfl,fin (w3'.trans (w4.trans (w5.trans w6))) ?_⟩
  simp [entB,zf7,a,hk2,List.append_assoc]
 ·conv=>whnf
  refine ldI e3 ?_
  conv=>whnf
  refine brd (fun d=>?_) (fun d=>?_)
  ·conv=>whnf
   refine numC (n:=m) (hp:=h3) (by omega) w3.1 65535 (by omega) 2 (by omega) (by simp only [List.length_append,zam,hk,Dg.bytes_len];omega) fun h4 F4 w4=>?_
   have e4:=(w4.keep e3 ne3).1
   have ne4:=(w4.keep e3 ne3).2
   conv=>whnf
   refine ldI e4 ?_
   conv=>whnf
   refine numC (n:=m) (hp:=h4) (by omega) w4.1 _ (by omega) 4 (by omega) (by simp only [List.length_append,zam,hk,Dg.bytes_len];omega) fun h5 F5 w5=>?_
   have e5:=(w5.keep e4 ne4).1
   have ne5:=(w5.keep e4 ne4).2
   conv=>whnf
   refine ldI e5 ?_
   conv=>whnf
   refine numC (n:=m) (hp:=h5) (by omega) w5.1 _ (by omega) 2 (by omega) (by simp only [List.length_append,zam,hk,Dg.bytes_len];omega) fun h6 F6 w6=>?_
   have e6:=(w6.keep e5 ne5).1
   have ne6:=(w6.keep e5 ne5).2
   conv=>whnf
   refine ldI e6 ?_
   conv=>whnf
   refine sumC (n:=m) (hp:=h6) (by omega) w6.1 e.sum (by simp only [List.length_append,zam,hk,Dg.bytes_len];omega) fun h7 F7 w7=>?_
   refine ⟨rfl,[],rfl,rfl,fin (w3'.trans (w4.trans (w5.trans (w6.trans w7)))) ?_⟩
   simp [entB,zf7,a,d,hk2,List.append_assoc]
  ·conv=>whnf
   refine ldI e3 ?_
   conv=>whnf
   refine brd (fun f=>?_) (fun f=>?_)
   ·conv=>whnf
    refine numC (n:=m) (hp:=h3) (by omega) w3.1 65534 (by omega) 2 (by omega) (by simp only [List.length_append,zam,hk,Dg.bytes_len];omega) fun h4 F4 w4=>?_
    have e4:=(w4.keep e3 ne3).1
    have ne4:=(w4.keep e3 ne3).2
    conv=>whnf
    refine ldI e4 ?_
    conv=>whnf
    refine numC (n:=m) (hp:=h4) (by omega) w4.1 _ (by omega) 4 (by omega) (by simp only [List.length_append,zam,hk,Dg.bytes_len];omega) fun h5 F5 w5=>?_
    have e5:=(w5.keep e4 ne4).1
    have ne5:=(w5.keep e4 ne4).2
    conv=>whnf
    refine ldI e5 ?_
    conv=>whnf
    refine numC (n:=m) (hp:=h5) (by omega) w5.1 _ (by omega) 4 (by omega) (by simp only [List.length_append,zam,hk,Dg.bytes_len];omega) fun h6 F6 w6=>?_
    have e6:=(w6.keep e5 ne5).1
    have ne6:=(w6.keep e5 ne5).2
    conv=>whnf
    refine ldI e6 ?_
    conv=>whnf
    refine sumC (n:=m) (hp:=h6) (by omega) w6.1 e.sum (by simp only [List.length_append,zam,hk,Dg.bytes_len];omega) fun h7 F7 w7=>?_
    refine ⟨rfl,[],rfl,rfl,fin (w3'.trans (w4.trans (w5.trans (w6.trans w7)))) ?_⟩
    simp [entB,zf7,a,d,f,hk2,List.append_assoc]
   ·conv=>whnf
    refine ldI e3 ?_
    conv=>whnf
    refine numC (n:=m) (hp:=h3) (by omega) w3.1 _ (by omega) 2 (by omega) (by simp only [List.length_append,zam,hk,Dg.bytes_len];omega) fun h4 F4 w4=>?_
    have e4:=(w4.keep e3 ne3).1
    have ne4:=(w4.keep e3 ne3).2
    conv=>whnf
    refine ldI e4 ?_
    conv=>whnf
    refine strC (hp:=h4) (by omega) w4.1 e.val (by simp only [List.length_append,zam,hk,Dg.bytes_len];omega) fun h5 F5 w5=>?_
    have e5:=(w5.keep e4 ne4).1
    have ne5:=(w5.keep e4 ne4).2
    conv=>whnf
    refine ⟨?_,?_⟩
    ·conv=>whnf
     exact ldI e5 rfl
    refine ⟨rfl,[],rfl,rfl,fin (w3'.trans (w4.trans w5)) ?_⟩
    simp [entB,zf7,a,d,f,hk2,List.append_assoc]
end
abbrev tRdr:Nat:=312
def badV:AV:=.ifc 314 (.agg [])
def RDs (hp:zaa) (b:Nat) (s:Str):Prop:=∃ (all:Str) (at':Nat),hp[b]?=some (.cells 0 (some tRdr) [.str all,i64 at'] 0) ∧ at' ≤ all.length ∧ all.length<1073741824 ∧ all.drop at'=s
theorem RDs.stays {hp hp':zaa}{b:Nat}{s:Str}{F:List Nat}(r:RDs hp b s) (k:Keep hp hp' F) (hb:b ∉ F):RDs hp' b s:=by
 obtain ⟨all,a,h1,h2,h3,h4⟩:=r
 exact ⟨all,a,by rw [k.2 b (zab h1) hb];exact h1,h2,h3,h4⟩
theorem RDs.lt {hp:zaa}{b:Nat}{s:Str}(r:RDs hp b s):b<hp.length:=by
 obtain ⟨all,a,h1,_⟩:=r;exact zab h1
theorem RDs.len {hp:zaa}{b:Nat}{s:Str}(r:RDs hp b s):s.length<1073741824:=by
 obtain ⟨all,a,h1,h2,h3,rfl⟩:=r
 simp;omega
theorem Keep.get {h h':zaa}{F:List Nat}{x:Nat}{v:AB}(k:Keep h h' F) (hx:h[x]?=some v) (hn:x ∉ F):h'[x]?=some v:=by
 rw [k.2 x (zab hx) hn];exact hx
section
variable {n:Nat}{hp:zaa}{b:Nat}{s:Str}{K X:AV → zaa → Prop}
theorem zr3 (hn:1 ≤ n) (r:RDs hp b s) (k:Nat) (hk:k ≤ s.length):∃ hp',C n 249 [.ptr b 0 0,i64 k] hp=some (.ret (.str (s.take k)),hp') ∧ RDs hp' b (s.drop k) ∧ Keep hp hp' [b]:=by
 obtain ⟨m,rfl⟩:=pre1 n
 obtain ⟨all,a,h1,h2,h3,rfl⟩:=r
 rw [List.length_drop] at hk
 refine ⟨hp.set b (.cells 0 (some tRdr) [.str all,i64 ((a+k:Nat))] 0),?_,⟨all,a+k,by rw [List.getElem?_set_self (zab h1)],by omega,h3,by rw [List.drop_drop]⟩,Keep.set (by simp)⟩
 refine za7 F249 rfl rfl ?_
 conv=>whnf
 refine ldI h1 ?_
 conv=>whnf
 refine ldI h1 ?_
 conv=>whnf
 refine zI (z:=(all.length:Int)-a) (zae (by omega) (by omega)) ?_
 conv=>whnf
 refine brd (fun q=>absurd q (by omega)) (fun _=>?_)
 conv=>whnf
 refine ldI h1 ?_
 conv=>whnf
 refine ldI h1 ?_
 conv=>whnf
 refine ldI h1 ?_
 conv=>whnf
 refine zI (z:=((a+k:Nat):Int)) (by rw [zae (by omega) (by omega)];rfl) ?_
 conv=>whnf
 refine zhs (by omega) (by omega) ?_
 conv=>whnf
 refine ldI h1 ?_
 conv=>whnf
 refine zI (z:=((a+k:Nat):Int)) (by rw [zae (by omega) (by omega)];rfl) ?_
 conv=>whnf
 refine stJ h1 ?_
 refine ⟨rfl,[.str ((all.take (a+k)).drop a)],rfl,?_,rfl⟩
 show AV.str _=AV.str _
 rw [List.drop_take,Nat.add_sub_cancel_left]
theorem zn8 (hn:1 ≤ n) (r:RDs hp b s) (k:Nat) (hk:s.length<k) (hk2:k<1099511627776):C n 249 [.ptr b 0 0,i64 k] hp=some (.pan badV,hp):=by
 obtain ⟨m,rfl⟩:=pre1 n
 obtain ⟨all,a,h1,h2,h3,rfl⟩:=r
 rw [List.length_drop] at hk
 have:=zav (n:=m) (c:=cfg0) (args:=[.ptr b 0 0,i64 k]) (h:=hp) (R:=fun r h=>r=.pan badV ∧ h=hp) F249 rfl rfl ?_
 ·obtain ⟨r,h',e,rfl,rfl⟩:=this;exact e
 conv=>whnf
 refine ldI h1 ?_
 conv=>whnf
 refine ldI h1 ?_
 conv=>whnf
 refine zI (z:=(all.length:Int)-a) (zae (by omega) (by omega)) ?_
 conv=>whnf
 refine brd (fun _=>?_) (fun q=>absurd (by omega) q)
 conv=>whnf
 exact ⟨rfl,rfl⟩
theorem zxj (hn:1 ≤ n) (r:RDs hp b s) (k:Nat) (hk2:k<1099511627776) (ok:∀ hp',k ≤ s.length → RDs hp' b (s.drop k) → Keep hp hp' [b] → K (.str (s.take k)) hp') (bad:s.length<k → X badV hp) :
  ∃ r h',C n 249 [.ptr b 0 0,i64 k] hp=some (r,h') ∧ WpR K X h' r:=by
 by_cases hk:k ≤ s.length
 ·obtain ⟨hp',e,g1,g2⟩:=zr3 hn r k hk
  exact clI e (ok hp' hk g1 g2)
 ·exact clP (zn8 hn r k (by omega) hk2) (bad (by omega))
def zah (s:Str):Nat:=s.foldl (fun n b=>n*256+b.toNat) 0
theorem zga (s:Str) (c:UInt8):zah (s++[c])=zah s*256+c.toNat:=by simp [zah]
theorem zcm:∀ (k:Nat) (s:Str),s.length=k → zah s<256 ^ k
 | 0,s,h=>by have:=List.length_eq_zero_iff.1 h;subst this;simp [zah]
 | k+1,s,h=>by
  obtain ⟨t,c,rfl⟩ : ∃ t c,s=t++[c]:=⟨s.dropLast,s.getLast (by intro e;subst e;simp at h),(List.dropLast_concat_getLast _).symm⟩
  have:=zcm k t (by simpa using h)
  have hc:=c.toNat_lt
  rw [zga,Nat.pow_succ]
  omega
theorem zzb (x:Nat) (c:UInt8) (hx:x<36028797018963968):IntKind.i64.wrap (BitVec.ofInt IntKind.i64.bits ((x*256:Nat):Int) ||| BitVec.ofInt IntKind.i64.bits ((c.toNat:Nat):Int)).toNat=((x*256+c.toNat:Nat):Int):=by
 have hc:=c.toNat_lt
 have e:(BitVec.ofInt 64 ((x*256:Nat):Int) ||| BitVec.ofInt 64 ((c.toNat:Nat):Int)).toNat=x*256+c.toNat:=by
  rw [BitVec.toNat_or,BitVec.ofInt_natCast,BitVec.ofInt_natCast,BitVec.toNat_ofNat,BitVec.toNat_ofNat,Nat.mod_eq_of_lt (by omega),Nat.mod_eq_of_lt (by omega)]
  have:=Nat.shiftLeft_add_eq_or_of_lt (show c.toNat<2 ^ 8 by omega) x
  rw [Nat.shiftLeft_eq] at this
  exact this.symm
 show IntKind.i64.wrap ((BitVec.ofInt 64 ((x*256:Nat):Int) ||| BitVec.ofInt 64 ((c.toNat:Nat):Int)).toNat:Int)=_
 rw [e]
 exact zae (by omega) (by omega)
theorem zty (x:Nat) (hx:x<36028797018963968):IntKind.i64.wrap ((x:Int)*2 ^ (min (8:Int).toNat IntKind.i64.bits))=((x*256:Nat):Int):=by
 have:min (8:Int).toNat IntKind.i64.bits=8:=by decide
 rw [this,zae (by omega) (by omega)]
 omega
theorem z6g (hn:2 ≤ n) (r:RDs hp b s) (w:Nat) (hw:w ≤ 6) (hk:w ≤ s.length):∃ hp',C n 229 [.ptr b 0 0,i64 w] hp=some (.ret (i64 (zah (s.take w))),hp') ∧ RDs hp' b (s.drop w) ∧ Keep hp hp' [b]:=by
 obtain ⟨m,rfl⟩:=pre1 n
 obtain ⟨h1,e1,r1,k1⟩:=zr3 (n:=m) (by omega) r w hk
 have ht:(s.take w).length=w:=by rw [List.length_take];omega
 refine ⟨h1++[.cells 0 none ((s.take w).map u8) 0],?_,r1.stays (Keep.app h1 _ []) (by simp),k1.trans ((Keep.app h1 _ []).mono (by simp)) (fun x hx=>.inl hx)⟩
 refine za7 F229 rfl rfl ?_
 conv=>whnf
 refine clI e1 ?_
 conv=>whnf
 refine za3 (by decide) rfl (α:=Nat) (fun j=>⟨[(5,i64 (zah ((s.take w).take j))),(11,.sl 1 h1.length 0 0 (s.take w).length),(12,i64 (s.take w).length),(13,i64 j)],h1++[.cells 0 none ((s.take w).map u8) 0],[]⟩) (fun j=>j ≤ w) (fun j=>w-j) 0 ⟨⟨rfl,rfl,rfl,rfl⟩,rfl,rfl⟩ (Nat.zero_le _) (by show w-0<KK;simp only [KK];omega) ?_
 intro j hj
 conv=>whnf
 refine brd (fun a=>?_) (fun a=>?_)
 ·have hjw:j<w:=by omega
  have hjt:j<(s.take w).length:=by omega
  have hb:=zcm j ((s.take w).take j) (by rw [List.length_take];omega)
  have hb2:256 ^ j ≤ 256 ^ 5:=Nat.pow_le_pow_right (by decide) (by omega)
  have hst:zah ((s.take w).take j)*256+((s.take w)[j]).toNat=zah ((s.take w).take (j+1)):=by
   rw [List.take_succ_eq_append_getElem hjt,zga]
  have hx:zah ((s.take w).take j)<36028797018963968:=by
   have:(256:Nat) ^ 5=1099511627776:=by decide
   omega
  conv=>whnf
  refine ⟨by omega,by omega,rfl,?_⟩
  conv=>whnf
  refine ldI (zaf _ _) ?_
  refine zdr (v:=u8 ((s.take w)[j])) (by show ((s.take w).map u8)[0+(j:Int).toNat*1]?=_;rw [Int.toNat_natCast,Nat.zero_add,Nat.mul_one,List.getElem?_map,List.getElem?_eq_getElem hjt];rfl) ?_
  conv=>whnf
  refine ⟨by decide,_,zty _ hx,?_⟩
  conv=>whnf
  refine zI (z:=(((s.take w)[j]).toNat:Int)) (by have:=((s.take w)[j]).toNat_lt;exact zae (by omega) (by omega)) ?_
  conv=>whnf
  refine zI (zzb _ _ hx) ?_
  conv=>whnf
  refine zJ j ?_
  exact nxI (j+1) hjw (by omega) ⟨⟨by rw [← hst];rfl,rfl,rfl,rfl⟩,rfl,rfl⟩
 ·have hjw:j=w:=by omega
  subst hjw
  conv=>whnf
  refine cutI (by decide) rfl (t:=⟨[(5,i64 (zah (s.take j)))],h1++[.cells 0 none ((s.take j).map u8) 0],[]⟩) ⟨by show some (i64 (zah ((s.take j).take j)))=_;rw [List.take_take,Nat.min_self],rfl,rfl⟩ ?_
  exact ⟨rfl,[i64 (zah (s.take j))],rfl,rfl,rfl⟩
theorem z23 (hn:2 ≤ n) (r:RDs hp b s) (w:Nat) (hw:w ≤ 6) (hk:s.length<w):C n 229 [.ptr b 0 0,i64 w] hp=some (.pan badV,hp):=by
 obtain ⟨m,rfl⟩:=pre1 n
 have:=zav (n:=m) (c:=cfg0) (args:=[.ptr b 0 0,i64 w]) (h:=hp) (R:=fun r h=>r=.pan badV ∧ h=hp) F229 rfl rfl ?_
 ·obtain ⟨r,h',e,rfl,rfl⟩:=this;exact e
 conv=>whnf
 refine clP (zn8 (n:=m) (by omega) r w hk (by omega)) ?_
 exact ⟨rfl,rfl⟩
theorem zd8 (hn:2 ≤ n) (r:RDs hp b s) (w:Nat) (hw:w ≤ 6) (ok:∀ hp',w ≤ s.length → RDs hp' b (s.drop w) → Keep hp hp' [b] → K (i64 (zah (s.take w))) hp') (bad:s.length<w → X badV hp) :
  ∃ r h',C n 229 [.ptr b 0 0,i64 w] hp=some (r,h') ∧ WpR K X h' r:=by
 by_cases hk:w ≤ s.length
 ·obtain ⟨hp',e,g1,g2⟩:=z6g hn r w hw hk
  exact clI e (ok hp' hk g1 g2)
 ·exact clP (z23 hn r w hw (by omega)) (bad (by omega))
end
theorem zb9 {h:zaa}{t N b ver:Nat}{el:Option TypeId}{cs:List AV}{f:Nat}(ht:(ti Tryz.prog t).map (fun d=>(zbm d.desc,d.size))=some (true,N)) (hN:cs.length=N) (hb:h[b]?=some (.cells ver el cs f)):zce Tryz.prog h t (.ptr b ver 0)=some (.agg cs):=by
 obtain ⟨d,h1,h2⟩:=Option.map_eq_some_iff.1 ht
 simp only [Prod.mk.injEq] at h2
 unfold zce
 simp only [h1,hb,if_true]
 unfold zfb
 rw [h2.1,h2.2,← hN]
 simp
theorem zks {h:zaa}{t b ver:Nat}{el:Option TypeId}{v:AV}{f N:Nat}(ht:(ti Tryz.prog t).map (fun d=>(zbm d.desc,d.size))=some (false,N)) (hb:h[b]?=some (.cells ver el [v] f)):zce Tryz.prog h t (.ptr b ver 0)=some v:=by
 obtain ⟨d,h1,h2⟩:=Option.map_eq_some_iff.1 ht
 simp only [Prod.mk.injEq] at h2
 unfold zce
 simp only [h1,hb,if_true]
 unfold zfb
 rw [h2.1]
 rfl
def dgOf (t:Str):Dg:=⟨t.getD 0 0,t.getD 1 0,t.getD 2 0,t.getD 3 0,t.getD 4 0,t.getD 5 0,t.getD 6 0,t.getD 7 0,t.getD 8 0,t.getD 9 0,t.getD 10 0,t.getD 11 0,t.getD 12 0,t.getD 13 0,t.getD 14 0,t.getD 15 0⟩
theorem znu:∀ (t:Str),t.length=16 → (dgOf t).bytes=t
 | [a0,a1,a2,a3,a4,a5,a6,a7,a8,a9,a10,a11,a12,a13,a14,a15],_=>rfl
theorem zj2 {t:Str}(h:t.length=16):(dgOf t).cells=t.map u8:=by rw [Dg.cells_map,znu t h]
section
variable {n:Nat}{hp:zaa}{b:Nat}{s:Str}{K X:AV → zaa → Prop}
theorem z6c (hn:2 ≤ n) (r:RDs hp b s) (hk:16 ≤ s.length):∃ hp',C n 259 [.ptr b 0 0] hp=some (.ret (.agg (dgOf (s.take 16)).cells),hp') ∧ RDs hp' b (s.drop 16) ∧ Keep hp hp' [b]:=by
 obtain ⟨m,rfl⟩:=pre1 n
 have ht:(s.take 16).length=16:=by rw [List.length_take];omega
 have k0:Keep hp (hp++[AB.cells 0 (some 23) Dg.zero.cells 0]++[AB.cells 0 (some 23) Dg.zero.cells 0]) []:=(Keep.app hp _ []).trans (Keep.app _ _ []) (by simp)
 have hlen:(hp++[AB.cells 0 (some 23) Dg.zero.cells 0]).length=hp.length+1:=by simp
 have d1:(hp++[AB.cells 0 (some 23) Dg.zero.cells 0]++[AB.cells 0 (some 23) Dg.zero.cells 0])[hp.length]?=some (.cells 0 (some 23) Dg.zero.cells 0):=za8 (zaf _ _)
 have d2:(hp++[AB.cells 0 (some 23) Dg.zero.cells 0]++[AB.cells 0 (some 23) Dg.zero.cells 0])[(hp++[AB.cells 0 (some 23) Dg.zero.cells 0]).length]?=some (.cells 0 (some 23) Dg.zero.cells 0):=zaf _ _
 obtain ⟨h1,e1,r1,k1⟩:=zr3 (n:=m) (by omega) (r.stays k0 (by simp)) 16 hk
 have hb:=r.lt
 have d1':=k1.get d1 (by simp;omega)
 have d2':=k1.get d2 (by simp;omega)
 have hcells:(dgOf (s.take 16)).cells=(s.take 16).map u8:=zj2 ht
 have kk:Keep hp h1 [b]:=(k0.mono (by simp)).trans k1 (fun x hx=>.inl hx)
 refine ⟨(h1.set (hp++[AB.cells 0 (some 23) Dg.zero.cells 0]).length (.cells 0 (some 23) (dgOf (s.take 16)).cells 0)).set hp.length (.cells 0 (some 23) (dgOf (s.take 16)).cells 0),?_,?_,?_⟩
 ·refine za7 F259 rfl rfl ?_
  conv=>whnf
  refine ⟨_,_,_,d2,⟨by decide,by decide⟩,?_⟩
  refine slI (v:=.sl 1 (hp++[AB.cells 0 (some 23) Dg.zero.cells 0]).length 0 0 16) rfl ?_
  conv=>whnf
  refine clI e1 ?_
  conv=>whnf
  refine ⟨?_,?_⟩
  ·conv=>whnf
   refine ⟨_,_,_,d2',⟨by decide,by decide⟩,?_⟩
   exact slI (v:=.sl 1 (hp++[AB.cells 0 (some 23) Dg.zero.cells 0]).length 0 0 16) rfl rfl
  conv=>whnf
  have ec:cpyR h1 1 (.sl 1 (hp++[AB.cells 0 (some 23) Dg.zero.cells 0]).length 0 0 16) (.str (s.take 16))=some (.int .i64 16,some (h1.set (hp++[AB.cells 0 (some 23) Dg.zero.cells 0]).length (.cells 0 (some 23) (dgOf (s.take 16)).cells 0))):=by
   unfold cpyR
   simp only [zk7,lenA,ht,Nat.min_self]
   have hf:zbc h1 1 16 (.str (s.take 16))=some ((s.take 16).map u8):=by
    have:=zl5 h1 (s.take 16)
    rwa [ht] at this
   rw [hf]
   simp only
   rw [if_neg (by decide)]
   rw [d2']
   simp only
   rw [if_pos ⟨trivial,trivial,Nat.le_refl _,by rw [List.length_map,ht];decide,zfs _⟩]
   have:putAt Dg.zero.cells 0 ((s.take 16).map u8)=(dgOf (s.take 16)).cells:=by
    rw [hcells]
    unfold putAt
    rw [List.length_map,ht]
    simp [Dg.cells]
   rw [this];rfl
  refine ⟨_,ec,?_⟩
  have e2:(h1.set (hp++[AB.cells 0 (some 23) Dg.zero.cells 0]).length (.cells 0 (some 23) (dgOf (s.take 16)).cells 0))[(hp++[AB.cells 0 (some 23) Dg.zero.cells 0]).length]?=some (.cells 0 (some 23) (dgOf (s.take 16)).cells 0):=by rw [List.getElem?_set_self (zab d2')]
  have e3:(h1.set (hp++[AB.cells 0 (some 23) Dg.zero.cells 0]).length (.cells 0 (some 23) (dgOf (s.take 16)).cells 0))[hp.length]?=some (.cells 0 (some 23) Dg.zero.cells 0):=by rw [List.getElem?_set_ne (by rw [hlen];omega)];exact d1'
  conv=>whnf
  refine ⟨?_,?_⟩
  ·conv=>whnf
   refine ⟨_,_,_,e2,⟨by show 0+16*1 ≤ 16;decide,by decide⟩,?_⟩
   exact slI (v:=.sl 1 (hp++[AB.cells 0 (some 23) Dg.zero.cells 0]).length 0 0 16) rfl rfl
  conv=>whnf
  refine ldI e2 ?_
  conv=>whnf
  refine stJ e3 (xs:=(dgOf (s.take 16)).cells) ?_
  refine ⟨rfl,[.agg (dgOf (s.take 16)).cells],?_,rfl,rfl⟩
  have el:zce Tryz.prog ((h1.set (hp++[AB.cells 0 (some 23) Dg.zero.cells 0]).length (.cells 0 (some 23) (dgOf (s.take 16)).cells 0)).set hp.length (.cells 0 (some 23) (dgOf (s.take 16)).cells 0)) 23 (.ptr hp.length 0 0)=some (.agg (dgOf (s.take 16)).cells) :=
   zb9 (N:=16) (by kernel_rfl) rfl (by rw [List.getElem?_set_self (zab e3)])
  show (match zce Tryz.prog ((h1.set (hp++[AB.cells 0 (some 23) Dg.zero.cells 0]).length (.cells 0 (some 23) (dgOf (s.take 16)).cells 0)).set hp.length (.cells 0 (some 23) (dgOf (s.take 16)).cells 0)) 23 (.ptr hp.length 0 0) with | some v=>some [v] | none=>none)=_
  rw [el]
 ·refine r1.stays (F:=[(hp++[AB.cells 0 (some 23) Dg.zero.cells 0]).length,hp.length]) ⟨by simp,fun x hx hn=>?_⟩ (by simp;omega)
  simp at hn
  rw [List.getElem?_set_ne (by omega),List.getElem?_set_ne (by rw [hlen];omega)]
 ·exact (kk.set' (.inr (by rw [hlen];omega))).set' (.inr (Nat.le_refl _))
theorem z2x (hn:2 ≤ n) (r:RDs hp b s) (hk:s.length<16):∃ hp',C n 259 [.ptr b 0 0] hp=some (.pan badV,hp') ∧ Keep hp hp' [b]:=by
 obtain ⟨m,rfl⟩:=pre1 n
 have k0:Keep hp (hp++[AB.cells 0 (some 23) Dg.zero.cells 0]++[AB.cells 0 (some 23) Dg.zero.cells 0]) []:=(Keep.app hp _ []).trans (Keep.app _ _ []) (by simp)
 have d2:(hp++[AB.cells 0 (some 23) Dg.zero.cells 0]++[AB.cells 0 (some 23) Dg.zero.cells 0])[(hp++[AB.cells 0 (some 23) Dg.zero.cells 0]).length]?=some (.cells 0 (some 23) Dg.zero.cells 0):=zaf _ _
 have:=zav (n:=m) (c:=cfg0) (args:=[.ptr b 0 0]) (h:=hp) (R:=fun r h=>r=.pan badV ∧ Keep hp h [b]) F259 rfl rfl ?_
 ·obtain ⟨r,h',e,rfl,q⟩:=this;exact ⟨h',e,q⟩
 conv=>whnf
 refine ⟨_,_,_,d2,⟨by decide,by decide⟩,?_⟩
 refine slI (v:=.sl 1 (hp++[AB.cells 0 (some 23) Dg.zero.cells 0]).length 0 0 16) rfl ?_
 conv=>whnf
 refine clP (zn8 (n:=m) (by omega) (r.stays k0 (by simp)) 16 hk (by omega)) ?_
 exact ⟨rfl,k0.mono (by simp)⟩
theorem rsumC (hn:2 ≤ n) (r:RDs hp b s) (ok:∀ hp',16 ≤ s.length → RDs hp' b (s.drop 16) → Keep hp hp' [b] → K (.agg (dgOf (s.take 16)).cells) hp') (bad:∀ hp',s.length<16 → Keep hp hp' [b] → X badV hp') :
  ∃ r h',C n 259 [.ptr b 0 0] hp=some (r,h') ∧ WpR K X h' r:=by
 by_cases hk:16 ≤ s.length
 ·obtain ⟨hp',e,g1,g2⟩:=z6c hn r hk
  exact clI e (ok hp' hk g1 g2)
 ·obtain ⟨hp',e,g⟩:=z2x hn r (by omega)
  exact clP e (bad hp' (by omega) g)
end
end Go.Proofs
