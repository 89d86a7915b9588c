/- Texts put together: Ea, Eb, Ep, Eq, Ka, Ec, Ed, Fz. -/
import Derived.Test.YtfddiediieblhaaGreatCha7
import Derived.Test.YtfddiediieblhaaGreatCha11
import Derived.Test.YtfddiediieblhaaGreatCha10
import Derived.Test.YtfddiediieblhaaGreatCha9
/- The looked-up text of the functions. -/
namespace Go.Proofs
open Go Go.Abs
/- f11 understory/understoryref04.IsPage: 113 temporaries, depth 7, 1 parameters, results [t2] -/
def c11 : RC :=
 (.seq (.ops [(oP 1 (.box 25 (.t 0))),
 (oP 2 (.mv (.c (.bool false))))])
 (.seq (.seq (.ops [(oP 3 (.fieldAddr 2 (.t 1))),
 (oP 4 (.load false 1 (.t 3))),
 (oP 5 (.bin .lss (.t 4) (.c (.int .i64 0)))),
 (mV 6 5),
 (oG 7 6 false (.fieldAddr 2 (.t 1))),
 (oG 8 6 false (.load false 1 (.t 7))),
 (oG 9 6 false (.bin .gtr (.t 8) (.c (.int .i64 1099511627776)))),
 (oP 10 (.pick (.t 6) (.c (.bool true)) (.t 9))),
 (mV 11 10),
 (oG 12 11 false (.fieldAddr 1 (.t 1))),
 (oG 13 11 false (.load false 1 (.t 12))),
 (oG 14 11 false (.callF 50 [(.t 13)])),
 (oG 15 11 false (.un .not (.t 14))),
 (oP 16 (.pick (.t 11) (.c (.bool true)) (.t 15))),
 (mV 17 16),
 (oG 18 17 false (.load true 10 (.t 1))),
 (oG 19 17 false (.callF 51 [(.t 18)])),
 (oG 20 17 false (.un .not (.t 19))),
 (oP 21 (.pick (.t 17) (.c (.bool true)) (.t 20)))])
 (.cond (.t 21)
 (.seq (.ops [(oP 2 (.mv (.c (.bool false))))])
 .ret)
 .skip))
 (.seq (.seq (.ops [(oP 22 (.fieldAddr 0 (.t 1))),
 (oP 23 (.load false 1 (.t 22)))])
 (.block 0
 (.seq (.seq (.ops [(oP 25 (.bin .eql (.t 23) (.c (.int .i64 1)))),
 (mV 24 25)])
 (.cond (.t 24)
 .skip
 (.ops [(oP 26 (.bin .eql (.t 23) (.c (.int .i64 2)))),
 (mV 24 26)])))
 (.cond (.t 24)
 (.seq (.ops [(oP 27 (.fieldAddr 0 (.t 1))),
 (oP 28 (.load false 1 (.t 27))),
 (oP 29 (.bin .eql (.t 28) (.c (.int .i64 1)))),
 (oP 30 (.fieldAddr 4 (.t 1))),
 (oP 31 (.load false 1 (.t 30))),
 (oP 32 (.bin .eql (.t 31) (.c (.int .i64 0)))),
 (oP 33 (.cmp false 4 (.t 29) (.t 32))),
 (mV 34 33),
 (oG 35 34 true (.fieldAddr 3 (.t 1))),
 (oG 36 34 true (.load false 1 (.t 35))),
 (oG 37 34 true (.bin .geq (.t 36) (.c (.int .i64 0)))),
 (oP 38 (.pick (.t 34) (.t 37) (.c (.bool false)))),
 (mV 39 38),
 (oG 40 39 true (.fieldAddr 3 (.t 1))),
 (oG 41 39 true (.load false 1 (.t 40))),
 (oG 42 39 true (.bin .leq (.t 41) (.c (.int .i64 255)))),
 (oP 43 (.pick (.t 39) (.t 42) (.c (.bool false)))),
 (mV 44 43),
 (oG 45 44 true (.fieldAddr 6 (.t 1))),
 (oG 46 44 true (.load false 1 (.t 45))),
 (oG 47 44 true (.lenL (.t 46))),
 (oG 48 44 true (.bin .leq (.t 47) (.c (.int .i64 496)))),
 (oP 49 (.pick (.t 44) (.t 48) (.c (.bool false)))),
 (mV 50 49),
 (oG 51 50 true (.fieldAddr 6 (.t 1))),
 (oG 52 50 true (.load false 1 (.t 51))),
 (oG 53 50 true (.fieldAddr 4 (.t 1))),
 (oG 54 50 true (.load false 1 (.t 53))),
 (oG 55 50 true (.callF 52 [(.t 52), (.t 54)])),
 (oP 56 (.pick (.t 50) (.t 55) (.c (.bool false)))),
 (mV 2 56)])
 .ret)
 (.seq (.ops [(oP 58 (.bin .eql (.t 23) (.c (.int .i64 3)))),
 (mV 57 58)])
 (.cond (.t 57)
 (.seq (.ops [(oP 59 (.fieldAddr 7 (.t 1))),
 (oP 60 (.load false 1 (.t 59))),
 (oP 61 (.bin .eql (.t 60) (.c (.int .i64 0)))),
 (mV 62 61),
 (oG 63 62 false (.fieldAddr 7 (.t 1))),
 (oG 64 62 false (.load false 1 (.t 63))),
 (oG 65 62 false (.callF 50 [(.t 64)])),
 (oP 66 (.pick (.t 62) (.c (.bool true)) (.t 65))),
 (mV 67 66),
 (oG 68 67 true (.fieldAddr 8 (.t 1))),
 (oG 69 67 true (.load false 1 (.t 68))),
 (oG 70 67 true (.lenS (.t 69))),
 (oG 71 67 true (.bin .geq (.t 70) (.c (.int .i64 1)))),
 (oP 72 (.pick (.t 67) (.t 71) (.c (.bool false)))),
 (mV 73 72),
 (oG 74 73 true (.fieldAddr 8 (.t 1))),
 (oG 75 73 true (.load false 1 (.t 74))),
 (oG 76 73 true (.lenS (.t 75))),
 (oG 77 73 true (.bin .leq (.t 76) (.c (.int .i64 490)))),
 (oP 78 (.pick (.t 73) (.t 77) (.c (.bool false)))),
 (mV 2 78)])
 .ret)
 (.seq (.ops [(oP 80 (.bin .eql (.t 23) (.c (.int .i64 4)))),
 (mV 79 80)])
 (.cond (.t 79)
 (.seq (.ops [(oP 81 (.fieldAddr 7 (.t 1))),
 (oP 82 (.load false 1 (.t 81))),
 (oP 83 (.bin .eql (.t 82) (.c (.int .i64 0)))),
 (mV 84 83),
 (oG 85 84 false (.fieldAddr 7 (.t 1))),
 (oG 86 84 false (.load false 1 (.t 85))),
 (oG 87 84 false (.callF 50 [(.t 86)])),
 (oP 88 (.pick (.t 84) (.c (.bool true)) (.t 87))),
 (mV 89 88),
 (oG 90 89 true (.fieldAddr 9 (.t 1))),
 (oG 91 89 true (.load false 1 (.t 90))),
 (oG 92 89 true (.lenL (.t 91))),
 (oG 93 89 true (.bin .leq (.t 92) (.c (.int .i64 496)))),
 (oP 94 (.pick (.t 89) (.t 93) (.c (.bool false)))),
 (mV 95 94),
 (oG 96 95 true (.fieldAddr 9 (.t 1))),
 (oG 97 95 true (.load false 1 (.t 96))),
 (oG 98 95 true (.callF 53 [(.t 97)])),
 (oP 99 (.pick (.t 95) (.t 98) (.c (.bool false)))),
 (mV 100 99),
 (oG 101 100 true (.fieldAddr 9 (.t 1))),
 (oG 102 100 true (.load false 1 (.t 101))),
 (oG 103 100 true (.callF 54 [(.t 102)])),
 (oG 104 100 true (.bin .leq (.t 103) (.c (.int .i64 496)))),
 (oP 105 (.pick (.t 100) (.t 104) (.c (.bool false)))),
 (mV 106 105),
 (oG 107 106 true (.fieldAddr 9 (.t 1))),
 (oG 108 106 true (.load false 1 (.t 107))),
 (oG 109 106 true (.callF 55 [(.t 108)])),
 (oG 110 106 true (.lenS (.t 109))),
 (oG 111 106 true (.bin .leq (.t 110) (.c (.int .i64 492)))),
 (oP 112 (.pick (.t 106) (.t 111) (.c (.bool false)))),
 (mV 2 112)])
 .ret)
 .skip))))))))
 (.seq (.ops [(oP 2 (.mv (.c (.bool false))))])
 .ret))))
theorem F11 : FI 11 1 113 7 [.tmp 2] c11 := ⟨⟨Tryz.f11, Tryz.func11, by kernel_rfl, by kernel_rfl, by kernel_rfl⟩, by kernel_rfl, by decide, by kernel_rfl⟩
/- f13 understory/understoryref04.Encode: 36 temporaries, depth 6, 1 parameters, results [*t2] -/
def c13 : RC :=
 (.seq (.ops [(oP 1 (.box 25 (.t 0))),
 (oP 2 (.alloc 33 [(.str []), (.int .i64 0)]))])
 (.seq (.seq (.ops [(oP 4 (.load true 10 (.t 1))),
 (oP 5 (.callF 11 [(.t 4)])),
 (oP 6 (.un .not (.t 5)))])
 (.cond (.t 6)
 (.seq (.ops [(oP 7 (.build [(.str []), (.int .i64 0)] [(1, 1, (.c (.int .i64 2)))])),
 (oU (.store 2 (.t 2) (.t 7)))])
 .ret)
 .skip))
 (.seq (.draw [((oP 8 (.callF 64 [(.c (.int .i64 85)), (.c (.int .i64 1))])), 0),
 ((oP 9 (.fieldAddr 0 (.t 1))), 0),
 ((oP 10 (.load false 1 (.t 9))), 1),
 ((oP 11 (.callF 64 [(.t 10), (.c (.int .i64 1))])), 0),
 ((oP 12 (.bin .add (.t 8) (.t 11))), 0),
 ((oP 13 (.fieldAddr 1 (.t 1))), 0),
 ((oP 14 (.load false 1 (.t 13))), 1),
 ((oP 15 (.callF 64 [(.t 14), (.c (.int .i64 4))])), 0),
 ((oP 16 (.bin .add (.t 12) (.t 15))), 0),
 ((oP 17 (.fieldAddr 2 (.t 1))), 0),
 ((oP 18 (.load false 1 (.t 17))), 1),
 ((oP 19 (.callF 64 [(.t 18), (.c (.int .i64 6))])), 0),
 ((oP 20 (.bin .add (.t 16) (.t 19))), 0),
 ((oP 21 (.load true 10 (.t 1))), 1),
 ((oP 22 (.callF 65 [(.t 21)])), 0),
 ((oP 23 (.bin .add (.t 20) (.t 22))), 0),
 ((mV 3 23), 0)])
 (.seq (.ops [(mV 24 3),
 (mV 25 3),
 (oP 26 (.lenS (.t 25))),
 (oP 27 (.bin .sub (.c (.int .i64 508)) (.t 26))),
 (oP 28 (.mkSl 5 1 [(.int .u8 0)] (.t 27) (.t 27))),
 (oP 29 (.bytesStr (.t 28))),
 (oP 30 (.bin .add (.t 24) (.t 29))),
 (mV 3 30)])
 (.seq (.ops [(mV 31 3),
 (mV 32 3),
 (oP 33 (.callF 66 [(.t 32)])),
 (oP 34 (.bin .add (.t 31) (.t 33))),
 (oP 35 (.build [(.str []), (.int .i64 0)] [(0, 1, (.t 34))])),
 (oU (.store 2 (.t 2) (.t 35)))])
 .ret)))))
theorem F13 : FI 13 1 36 6 [.cell 2 33] c13 := ⟨⟨Tryz.f13, Tryz.func13, by kernel_rfl, by kernel_rfl, by kernel_rfl⟩, by kernel_rfl, by decide, by kernel_rfl⟩
/- f15 understory/understoryref04.Decode: 25 temporaries, depth 5, 1 parameters, results [*t2] -/
def c15 : RC :=
 (.seq (.ops [(oP 2 (.alloc 38 [(.int .i64 0), (.int .i64 0), (.int .i64 0), (.int .i64 0), (.int .i64 0), (.bool false), (.lst 0 [] true), (.int .i64 0), (.str []), (.lst 0 [] true), (.int .i64 0)]))])
 (.seq (.seq (.ops [(mV 5 0),
 (oP 6 (.lenS (.t 5))),
 (oP 7 (.bin .neq (.t 6) (.c (.int .i64 512))))])
 (.cond (.t 7)
 (.seq (.ops [(oP 8 (.build [(.int .i64 0), (.int .i64 0), (.int .i64 0), (.int .i64 0), (.int .i64 0), (.bool false), (.lst 0 [] true), (.int .i64 0), (.str []), (.lst 0 [] true), (.int .i64 0)] [(10, 1, (.c (.int .i64 8)))])),
 (oU (.store 11 (.t 2) (.t 8)))])
 .ret)
 .skip))
 (.seq (.ops [(mV 9 0),
 (oP 10 (.callF 69 [(.t 9)])),
 (oP 3 (.alloc 25 [(.int .i64 0), (.int .i64 0), (.int .i64 0), (.int .i64 0), (.int .i64 0), (.bool false), (.lst 0 [] true), (.int .i64 0), (.str []), (.lst 0 [] true)])),
 (oU (.store 10 (.t 3) (.t 10)))])
 (.seq (.ops [(oP 11 (.load true 10 (.t 3))),
 (oP 12 (.callF 13 [(.t 11)])),
 (oP 4 (.alloc 33 [(.str []), (.int .i64 0)])),
 (oU (.store 2 (.t 4) (.t 12)))])
 (.seq (.seq (.ops [(oP 13 (.fieldAddr 1 (.t 4))),
 (oP 14 (.load false 1 (.t 13))),
 (oP 15 (.bin .neq (.t 14) (.c (.int .i64 0)))),
 (mV 16 15),
 (oG 17 16 false (.fieldAddr 0 (.t 4))),
 (oG 18 16 false (.load false 1 (.t 17))),
 (oG 19 16 false (.mv (.t 0))),
 (oG 20 16 false (.bin .neq (.t 18) (.t 19))),
 (oP 21 (.pick (.t 16) (.c (.bool true)) (.t 20)))])
 (.cond (.t 21)
 (.seq (.ops [(oP 22 (.build [(.int .i64 0), (.int .i64 0), (.int .i64 0), (.int .i64 0), (.int .i64 0), (.bool false), (.lst 0 [] true), (.int .i64 0), (.str []), (.lst 0 [] true), (.int .i64 0)] [(10, 1, (.c (.int .i64 8)))])),
 (oU (.store 11 (.t 2) (.t 22)))])
 .ret)
 .skip))
 (.seq (.ops [(oP 23 (.load true 10 (.t 3))),
 (oP 24 (.build [(.int .i64 0), (.int .i64 0), (.int .i64 0), (.int .i64 0), (.int .i64 0), (.bool false), (.lst 0 [] true), (.int .i64 0), (.str []), (.lst 0 [] true), (.int .i64 0)] [(0, 10, (.t 23))])),
 (oU (.store 11 (.t 2) (.t 24)))])
 .ret))))))
theorem F15 : FI 15 1 25 5 [.cell 2 38] c15 := ⟨⟨Tryz.f15, Tryz.func15, by kernel_rfl, by kernel_rfl, by kernel_rfl⟩, by kernel_rfl, by decide, by kernel_rfl⟩
/- f17 understory/understoryref04.Same: 71 temporaries, depth 7, 2 parameters, results [t4] -/
def c17 : RC :=
 (.seq (.ops [(oP 2 (.box 25 (.t 0))),
 (oP 3 (.box 25 (.t 1))),
 (oP 4 (.mv (.c (.bool false))))])
 (.seq (.seq (.ops [(oP 5 (.fieldAddr 0 (.t 2))),
 (oP 6 (.load false 1 (.t 5))),
 (oP 7 (.fieldAddr 0 (.t 3))),
 (oP 8 (.load false 1 (.t 7))),
 (oP 9 (.bin .neq (.t 6) (.t 8))),
 (mV 10 9),
 (oG 11 10 false (.fieldAddr 1 (.t 2))),
 (oG 12 10 false (.load false 1 (.t 11))),
 (oG 13 10 false (.fieldAddr 1 (.t 3))),
 (oG 14 10 false (.load false 1 (.t 13))),
 (oG 15 10 false (.bin .neq (.t 12) (.t 14))),
 (oP 16 (.pick (.t 10) (.c (.bool true)) (.t 15))),
 (mV 17 16),
 (oG 18 17 false (.fieldAddr 2 (.t 2))),
 (oG 19 17 false (.load false 1 (.t 18))),
 (oG 20 17 false (.fieldAddr 2 (.t 3))),
 (oG 21 17 false (.load false 1 (.t 20))),
 (oG 22 17 false (.bin .neq (.t 19) (.t 21))),
 (oP 23 (.pick (.t 17) (.c (.bool true)) (.t 22))),
 (mV 24 23),
 (oG 25 24 false (.fieldAddr 3 (.t 2))),
 (oG 26 24 false (.load false 1 (.t 25))),
 (oG 27 24 false (.fieldAddr 3 (.t 3))),
 (oG 28 24 false (.load false 1 (.t 27))),
 (oG 29 24 false (.bin .neq (.t 26) (.t 28))),
 (oP 30 (.pick (.t 24) (.c (.bool true)) (.t 29))),
 (mV 31 30),
 (oG 32 31 false (.fieldAddr 4 (.t 2))),
 (oG 33 31 false (.load false 1 (.t 32))),
 (oG 34 31 false (.fieldAddr 4 (.t 3))),
 (oG 35 31 false (.load false 1 (.t 34))),
 (oG 36 31 false (.bin .neq (.t 33) (.t 35))),
 (oP 37 (.pick (.t 31) (.c (.bool true)) (.t 36))),
 (mV 38 37),
 (oG 39 38 false (.fieldAddr 5 (.t 2))),
 (oG 40 38 false (.load false 1 (.t 39))),
 (oG 41 38 false (.fieldAddr 5 (.t 3))),
 (oG 42 38 false (.load false 1 (.t 41))),
 (oG 43 38 false (.cmp true 4 (.t 40) (.t 42))),
 (oP 44 (.pick (.t 38) (.c (.bool true)) (.t 43))),
 (mV 45 44),
 (oG 46 45 false (.fieldAddr 7 (.t 2))),
 (oG 47 45 false (.load false 1 (.t 46))),
 (oG 48 45 false (.fieldAddr 7 (.t 3))),
 (oG 49 45 false (.load false 1 (.t 48))),
 (oG 50 45 false (.bin .neq (.t 47) (.t 49))),
 (oP 51 (.pick (.t 45) (.c (.bool true)) (.t 50))),
 (mV 52 51),
 (oG 53 52 false (.fieldAddr 8 (.t 2))),
 (oG 54 52 false (.load false 1 (.t 53))),
 (oG 55 52 false (.fieldAddr 8 (.t 3))),
 (oG 56 52 false (.load false 1 (.t 55))),
 (oG 57 52 false (.bin .neq (.t 54) (.t 56))),
 (oP 58 (.pick (.t 52) (.c (.bool true)) (.t 57)))])
 (.cond (.t 58)
 (.seq (.ops [(oP 4 (.mv (.c (.bool false))))])
 .ret)
 .skip))
 (.seq (.ops [(oP 59 (.fieldAddr 6 (.t 2))),
 (oP 60 (.load false 1 (.t 59))),
 (oP 61 (.fieldAddr 6 (.t 3))),
 (oP 62 (.load false 1 (.t 61))),
 (oP 63 (.callF 77 [(.t 60), (.t 62)])),
 (mV 64 63),
 (oG 65 64 true (.fieldAddr 9 (.t 2))),
 (oG 66 64 true (.load false 1 (.t 65))),
 (oG 67 64 true (.fieldAddr 9 (.t 3))),
 (oG 68 64 true (.load false 1 (.t 67))),
 (oG 69 64 true (.callF 44 [(.t 66), (.t 68)])),
 (oP 70 (.pick (.t 64) (.t 69) (.c (.bool false)))),
 (mV 4 70)])
 .ret)))
theorem F17 : FI 17 2 71 7 [.tmp 4] c17 := ⟨⟨Tryz.f17, Tryz.func17, by kernel_rfl, by kernel_rfl, by kernel_rfl⟩, by kernel_rfl, by decide, by kernel_rfl⟩
/- f44 understory/understoryref04.SameFreed: 42 temporaries, depth 6, 2 parameters, results [t4] -/
def c44 : RC :=
 (.seq (.ops [(oP 4 (.mv (.c (.bool false))))])
 (.seq (.seq (.ops [(mV 6 0),
 (oP 7 (.lenL (.t 6))),
 (mV 8 1),
 (oP 9 (.lenL (.t 8))),
 (oP 10 (.bin .neq (.t 7) (.t 9)))])
 (.cond (.t 10)
 (.seq (.ops [(oP 4 (.mv (.c (.bool false))))])
 .ret)
 .skip))
 (.seq (.seq (.ops [(oP 5 (.mv (.c (.int .i64 0))))])
 (.block 0
 (.loop
 (.seq (.seq (.ops [(mV 11 5),
 (mV 12 0),
 (oP 13 (.lenL (.t 12))),
 (oP 14 (.bin .lss (.t 11) (.t 13)))])
 (.cond (.t 14)
 .skip
 (.exit 0)))
 (.seq (.block 1
 (.seq (.draw [((mV 17 0), 0),
 ((mV 18 5), 0),
 ((oP 19 (.indexAddrL 2 (.t 17) (.t 18))), 0),
 ((oP 20 (.fieldAddr 0 (.t 19))), 0),
 ((oP 21 (.load false 1 (.t 20))), 1),
 ((mV 22 1), 0),
 ((mV 23 5), 0),
 ((oP 24 (.indexAddrL 2 (.t 22) (.t 23))), 0),
 ((oP 25 (.fieldAddr 0 (.t 24))), 0),
 ((oP 26 (.load false 1 (.t 25))), 1),
 ((oP 27 (.bin .neq (.t 21) (.t 26))), 0),
 ((mV 28 27), 0),
 ((oG 29 28 false (.mv (.t 0))), 0),
 ((oG 30 28 false (.mv (.t 5))), 0),
 ((oG 31 28 false (.indexAddrL 2 (.t 29) (.t 30))), 0),
 ((oG 32 28 false (.fieldAddr 1 (.t 31))), 0),
 ((oG 33 28 false (.load false 1 (.t 32))), 1),
 ((oG 34 28 false (.mv (.t 1))), 0),
 ((oG 35 28 false (.mv (.t 5))), 0),
 ((oG 36 28 false (.indexAddrL 2 (.t 34) (.t 35))), 0),
 ((oG 37 28 false (.fieldAddr 1 (.t 36))), 0),
 ((oG 38 28 false (.load false 1 (.t 37))), 1),
 ((oG 39 28 false (.callF 103 [(.t 33), (.t 38)])), 0),
 ((oG 40 28 false (.un .not (.t 39))), 0),
 ((oP 41 (.pick (.t 28) (.c (.bool true)) (.t 40))), 0)])
 (.cond (.t 41)
 (.seq (.ops [(oP 4 (.mv (.c (.bool false))))])
 .ret)
 .skip)))
 (.ops [(mV 15 5),
 (oP 16 (.bin .add (.t 15) (.c (.int .i64 1)))),
 (mV 5 16)]))))))
 (.cut (.seq (.ops [(oP 4 (.mv (.c (.bool true))))])
 .ret)))))
theorem F44 : FI 44 2 42 6 [.tmp 4] c44 := ⟨⟨Tryz.f44, Tryz.func44, by kernel_rfl, by kernel_rfl, by kernel_rfl⟩, by kernel_rfl, by decide, by kernel_rfl⟩
/- f50 understory/understoryref04.isPage: 9 temporaries, depth 4, 1 parameters, results [t2] -/
def c50 : RC :=
 (.seq (.ops [(oP 2 (.mv (.c (.bool false))))])
 (.seq (.ops [(mV 3 0),
 (oP 4 (.bin .geq (.t 3) (.c (.int .i64 2)))),
 (mV 5 4),
 (oG 6 5 true (.mv (.t 0))),
 (oG 7 5 true (.bin .lss (.t 6) (.c (.int .i64 4096)))),
 (oP 8 (.pick (.t 5) (.t 7) (.c (.bool false)))),
 (mV 2 8)])
 .ret))
theorem F50 : FI 50 1 9 4 [.tmp 2] c50 := ⟨⟨Tryz.f50, Tryz.func50, by kernel_rfl, by kernel_rfl, by kernel_rfl⟩, by kernel_rfl, by decide, by kernel_rfl⟩
/- f51 understory/understoryref04.plain: 62 temporaries, depth 6, 1 parameters, results [t2] -/
def c51 : RC :=
 (.seq (.ops [(oP 1 (.box 25 (.t 0))),
 (oP 2 (.mv (.c (.bool false))))])
 (.seq (.ops [(oP 4 (.fieldAddr 0 (.t 1))),
 (oP 5 (.load false 1 (.t 4))),
 (oP 6 (.bin .eql (.t 5) (.c (.int .i64 1)))),
 (mV 7 6),
 (oG 8 7 false (.fieldAddr 0 (.t 1))),
 (oG 9 7 false (.load false 1 (.t 8))),
 (oG 10 7 false (.bin .eql (.t 9) (.c (.int .i64 2)))),
 (oP 11 (.pick (.t 7) (.c (.bool true)) (.t 10))),
 (mV 3 11)])
 (.seq (.seq (.ops [(mV 12 3),
 (oP 13 (.un .not (.t 12))),
 (mV 14 13),
 (oG 15 14 true (.fieldAddr 3 (.t 1))),
 (oG 16 14 true (.load false 1 (.t 15))),
 (oG 17 14 true (.bin .neq (.t 16) (.c (.int .i64 0)))),
 (oG 18 14 true (.mv (.t 17))),
 (oG 19 18 false (.fieldAddr 4 (.t 1))),
 (oG 20 18 false (.load false 1 (.t 19))),
 (oG 21 18 false (.bin .neq (.t 20) (.c (.int .i64 0)))),
 (oG 22 14 true (.pick (.t 18) (.c (.bool true)) (.t 21))),
 (oG 23 14 true (.mv (.t 22))),
 (oG 24 23 false (.fieldAddr 5 (.t 1))),
 (oG 25 23 false (.load false 1 (.t 24))),
 (oG 26 14 true (.pick (.t 23) (.c (.bool true)) (.t 25))),
 (oG 27 14 true (.mv (.t 26))),
 (oG 28 27 false (.fieldAddr 6 (.t 1))),
 (oG 29 27 false (.load false 1 (.t 28))),
 (oG 30 27 false (.lenL (.t 29))),
 (oG 31 27 false (.bin .gtr (.t 30) (.c (.int .i64 0)))),
 (oG 32 14 true (.pick (.t 27) (.c (.bool true)) (.t 31))),
 (oP 33 (.pick (.t 14) (.t 32) (.c (.bool false))))])
 (.cond (.t 33)
 (.seq (.ops [(oP 2 (.mv (.c (.bool false))))])
 .ret)
 .skip))
 (.seq (.ops [(mV 34 3),
 (oP 35 (.un .not (.t 34))),
 (mV 36 35),
 (oG 37 36 false (.fieldAddr 7 (.t 1))),
 (oG 38 36 false (.load false 1 (.t 37))),
 (oG 39 36 false (.bin .eql (.t 38) (.c (.int .i64 0)))),
 (oP 40 (.pick (.t 36) (.c (.bool true)) (.t 39))),
 (mV 41 40),
 (oG 42 41 true (.fieldAddr 0 (.t 1))),
 (oG 43 41 true (.load false 1 (.t 42))),
 (oG 44 41 true (.bin .eql (.t 43) (.c (.int .i64 3)))),
 (oG 45 41 true (.mv (.t 44))),
 (oG 46 45 false (.fieldAddr 8 (.t 1))),
 (oG 47 45 false (.load false 1 (.t 46))),
 (oG 48 45 false (.bin .eql (.t 47) (.c (.str [])))),
 (oG 49 41 true (.pick (.t 45) (.c (.bool true)) (.t 48))),
 (oP 50 (.pick (.t 41) (.t 49) (.c (.bool false)))),
 (mV 51 50),
 (oG 52 51 true (.fieldAddr 0 (.t 1))),
 (oG 53 51 true (.load false 1 (.t 52))),
 (oG 54 51 true (.bin .eql (.t 53) (.c (.int .i64 4)))),
 (oG 55 51 true (.mv (.t 54))),
 (oG 56 55 false (.fieldAddr 9 (.t 1))),
 (oG 57 55 false (.load false 1 (.t 56))),
 (oG 58 55 false (.lenL (.t 57))),
 (oG 59 55 false (.bin .eql (.t 58) (.c (.int .i64 0)))),
 (oG 60 51 true (.pick (.t 55) (.c (.bool true)) (.t 59))),
 (oP 61 (.pick (.t 51) (.t 60) (.c (.bool false)))),
 (mV 2 61)])
 .ret))))
theorem F51 : FI 51 1 62 6 [.tmp 2] c51 := ⟨⟨Tryz.f51, Tryz.func51, by kernel_rfl, by kernel_rfl, by kernel_rfl⟩, by kernel_rfl, by decide, by kernel_rfl⟩
/- f52 understory/understoryref04.Fits: 15 temporaries, depth 5, 2 parameters, results [t4] -/
def c52 : RC :=
 (.seq (.ops [(oP 4 (.mv (.c (.bool false))))])
 (.seq (.ops [(mV 5 0),
 (mV 6 1),
 (oP 7 (.callF 106 [(.t 5), (.t 6)])),
 (mV 8 7),
 (oG 9 8 true (.mv (.t 0))),
 (oG 10 8 true (.mv (.t 1))),
 (oG 11 8 true (.callF 107 [(.t 9), (.t 10)])),
 (oG 12 8 true (.field false 1 0 (.t 11))),
 (oG 13 8 true (.bin .leq (.t 12) (.c (.int .i64 496)))),
 (oP 14 (.pick (.t 8) (.t 13) (.c (.bool false)))),
 (mV 4 14)])
 .ret))
theorem F52 : FI 52 2 15 5 [.tmp 4] c52 := ⟨⟨Tryz.f52, Tryz.func52, by kernel_rfl, by kernel_rfl, by kernel_rfl⟩, by kernel_rfl, by decide, by kernel_rfl⟩
/- f53 understory/understoryref04.freed: 77 temporaries, depth 7, 1 parameters, results [t2] -/
def c53 : RC :=
 (.seq (.ops [(oP 2 (.mv (.c (.bool false))))])
 (.seq (.seq (.ops [(oP 3 (.mv (.c (.int .i64 0))))])
 (.block 0
 (.loop
 (.seq (.seq (.ops [(mV 6 3),
 (mV 7 0),
 (oP 8 (.lenL (.t 7))),
 (oP 9 (.bin .lss (.t 6) (.t 8)))])
 (.cond (.t 9)
 .skip
 (.exit 0)))
 (.seq (.block 1
 (.seq (.ops [(mV 12 0),
 (mV 13 3),
 (oP 14 (.indexAddrL 2 (.t 12) (.t 13))),
 (oP 15 (.load true 2 (.t 14))),
 (oP 4 (.alloc 165 [(.int .i64 0), (.lst 0 [] true)])),
 (oU (.store 2 (.t 4) (.t 15)))])
 (.seq (.seq (.draw [((oP 16 (.fieldAddr 0 (.t 4))), 0),
 ((oP 17 (.load false 1 (.t 16))), 1),
 ((oP 18 (.bin .lss (.t 17) (.c (.int .i64 0)))), 0),
 ((mV 19 18), 0),
 ((oG 20 19 false (.fieldAddr 0 (.t 4))), 0),
 ((oG 21 19 false (.load false 1 (.t 20))), 1),
 ((oG 22 19 false (.bin .gtr (.t 21) (.c (.int .i64 1099511627776)))), 0),
 ((oP 23 (.pick (.t 19) (.c (.bool true)) (.t 22))), 0),
 ((mV 24 23), 0),
 ((oG 25 24 false (.mv (.t 3))), 0),
 ((oG 26 24 false (.bin .gtr (.t 25) (.c (.int .i64 0)))), 0),
 ((oG 27 24 false (.mv (.t 26))), 0),
 ((oG 28 27 true (.fieldAddr 0 (.t 4))), 0),
 ((oG 29 27 true (.load false 1 (.t 28))), 1),
 ((oG 30 27 true (.mv (.t 0))), 0),
 ((oG 31 27 true (.mv (.t 3))), 0),
 ((oG 32 27 true (.bin .sub (.t 31) (.c (.int .i64 1)))), 0),
 ((oG 33 27 true (.indexAddrL 2 (.t 30) (.t 32))), 0),
 ((oG 34 27 true (.fieldAddr 0 (.t 33))), 0),
 ((oG 35 27 true (.load false 1 (.t 34))), 1),
 ((oG 36 27 true (.bin .leq (.t 29) (.t 35))), 0),
 ((oG 37 24 false (.pick (.t 27) (.t 36) (.c (.bool false)))), 0),
 ((oP 38 (.pick (.t 24) (.c (.bool true)) (.t 37))), 0),
 ((mV 39 38), 0),
 ((oG 40 39 false (.fieldAddr 1 (.t 4))), 0),
 ((oG 41 39 false (.load false 1 (.t 40))), 1),
 ((oG 42 39 false (.lenL (.t 41))), 0),
 ((oG 43 39 false (.bin .eql (.t 42) (.c (.int .i64 0)))), 0),
 ((oP 44 (.pick (.t 39) (.c (.bool true)) (.t 43))), 0)])
 (.cond (.t 44)
 (.seq (.ops [(oP 2 (.mv (.c (.bool false))))])
 .ret)
 .skip))
 (.seq (.ops [(oP 5 (.mv (.c (.int .i64 0))))])
 (.block 2
 (.loop
 (.seq (.seq (.ops [(mV 45 5),
 (oP 46 (.fieldAddr 1 (.t 4))),
 (oP 47 (.load false 1 (.t 46))),
 (oP 48 (.lenL (.t 47))),
 (oP 49 (.bin .lss (.t 45) (.t 48)))])
 (.cond (.t 49)
 .skip
 (.exit 2)))
 (.seq (.block 3
 (.seq (.draw [((oP 52 (.fieldAddr 1 (.t 4))), 0),
 ((oP 53 (.load false 1 (.t 52))), 1),
 ((mV 54 5), 0),
 ((oP 55 (.indexAddrL 1 (.t 53) (.t 54))), 0),
 ((oP 56 (.load false 1 (.t 55))), 1),
 ((oP 57 (.callF 50 [(.t 56)])), 0),
 ((oP 58 (.un .not (.t 57))), 0),
 ((mV 59 58), 0),
 ((oG 60 59 false (.mv (.t 5))), 0),
 ((oG 61 59 false (.bin .gtr (.t 60) (.c (.int .i64 0)))), 0),
 ((oG 62 59 false (.mv (.t 61))), 0),
 ((oG 63 62 true (.fieldAddr 1 (.t 4))), 0),
 ((oG 64 62 true (.load false 1 (.t 63))), 1),
 ((oG 65 62 true (.mv (.t 5))), 0),
 ((oG 66 62 true (.indexAddrL 1 (.t 64) (.t 65))), 0),
 ((oG 67 62 true (.load false 1 (.t 66))), 1),
 ((oG 68 62 true (.fieldAddr 1 (.t 4))), 0),
 ((oG 69 62 true (.load false 1 (.t 68))), 1),
 ((oG 70 62 true (.mv (.t 5))), 0),
 ((oG 71 62 true (.bin .sub (.t 70) (.c (.int .i64 1)))), 0),
 ((oG 72 62 true (.indexAddrL 1 (.t 69) (.t 71))), 0),
 ((oG 73 62 true (.load false 1 (.t 72))), 1),
 ((oG 74 62 true (.bin .leq (.t 67) (.t 73))), 0),
 ((oG 75 59 false (.pick (.t 62) (.t 74) (.c (.bool false)))), 0),
 ((oP 76 (.pick (.t 59) (.c (.bool true)) (.t 75))), 0)])
 (.cond (.t 76)
 (.seq (.ops [(oP 2 (.mv (.c (.bool false))))])
 .ret)
 .skip)))
 (.ops [(mV 50 5),
 (oP 51 (.bin .add (.t 50) (.c (.int .i64 1)))),
 (mV 5 51)])))))))))
 (.cut (.ops [(mV 10 3),
 (oP 11 (.bin .add (.t 10) (.c (.int .i64 1)))),
 (mV 3 11)])))))))
 (.cut (.seq (.ops [(oP 2 (.mv (.c (.bool true))))])
 .ret))))
theorem F53 : FI 53 1 77 7 [.tmp 2] c53 := ⟨⟨Tryz.f53, Tryz.func53, by kernel_rfl, by kernel_rfl, by kernel_rfl⟩, by kernel_rfl, by decide, by kernel_rfl⟩
/- f54 understory/understoryref04.words: 21 temporaries, depth 5, 1 parameters, results [t2] -/
def c54 : RC :=
 (.seq (.ops [(oP 2 (.mv (.c (.int .i64 0))))])
 (.seq (.ops [(oP 3 (.mv (.c (.int .i64 0))))])
 (.seq (.seq (.ops [(oP 4 (.mv (.c (.int .i64 0))))])
 (.block 0
 (.loop
 (.seq (.seq (.ops [(mV 5 4),
 (mV 6 0),
 (oP 7 (.lenL (.t 6))),
 (oP 8 (.bin .lss (.t 5) (.t 7)))])
 (.cond (.t 8)
 .skip
 (.exit 0)))
 (.seq (.block 1
 (.ops [(mV 11 3),
 (oP 12 (.bin .add (.t 11) (.c (.int .i64 2)))),
 (mV 13 0),
 (mV 14 4),
 (oP 15 (.indexAddrL 2 (.t 13) (.t 14))),
 (oP 16 (.fieldAddr 1 (.t 15))),
 (oP 17 (.load false 1 (.t 16))),
 (oP 18 (.lenL (.t 17))),
 (oP 19 (.bin .add (.t 12) (.t 18))),
 (mV 3 19)]))
 (.ops [(mV 9 4),
 (oP 10 (.bin .add (.t 9) (.c (.int .i64 1)))),
 (mV 4 10)]))))))
 (.cut (.seq (.ops [(mV 20 3),
 (mV 2 20)])
 .ret)))))
theorem F54 : FI 54 1 21 5 [.tmp 2] c54 := ⟨⟨Tryz.f54, Tryz.func54, by kernel_rfl, by kernel_rfl, by kernel_rfl⟩, by kernel_rfl, by decide, by kernel_rfl⟩
/- f55 understory/understoryref04.list: 53 temporaries, depth 6, 1 parameters, results [t2] -/
def c55 : RC :=
 (.seq (.ops [(oP 2 (.mv (.c (.str []))))])
 (.seq (.ops [(mV 6 0),
 (oP 7 (.lenL (.t 6))),
 (oP 8 (.callF 64 [(.t 7), (.c (.int .i64 2))])),
 (mV 3 8)])
 (.seq (.seq (.ops [(oP 4 (.mv (.c (.int .i64 0))))])
 (.block 0
 (.loop
 (.seq (.seq (.ops [(mV 9 4),
 (mV 10 0),
 (oP 11 (.lenL (.t 10))),
 (oP 12 (.bin .lss (.t 9) (.t 11)))])
 (.cond (.t 12)
 .skip
 (.exit 0)))
 (.seq (.block 1
 (.seq (.draw [((mV 15 3), 0),
 ((mV 16 0), 0),
 ((mV 17 4), 0),
 ((oP 18 (.indexAddrL 2 (.t 16) (.t 17))), 0),
 ((oP 19 (.fieldAddr 0 (.t 18))), 0),
 ((oP 20 (.load false 1 (.t 19))), 1),
 ((oP 21 (.callF 64 [(.t 20), (.c (.int .i64 6))])), 0),
 ((oP 22 (.bin .add (.t 15) (.t 21))), 0),
 ((mV 23 0), 0),
 ((mV 24 4), 0),
 ((oP 25 (.indexAddrL 2 (.t 23) (.t 24))), 0),
 ((oP 26 (.fieldAddr 1 (.t 25))), 0),
 ((oP 27 (.load false 1 (.t 26))), 1),
 ((oP 28 (.lenL (.t 27))), 0),
 ((oP 29 (.callF 64 [(.t 28), (.c (.int .i64 2))])), 0),
 ((oP 30 (.bin .add (.t 22) (.t 29))), 0),
 ((mV 3 30), 0)])
 (.seq (.ops [(oP 5 (.mv (.c (.int .i64 0))))])
 (.block 2
 (.loop
 (.seq (.seq (.ops [(mV 31 5),
 (mV 32 0),
 (mV 33 4),
 (oP 34 (.indexAddrL 2 (.t 32) (.t 33))),
 (oP 35 (.fieldAddr 1 (.t 34))),
 (oP 36 (.load false 1 (.t 35))),
 (oP 37 (.lenL (.t 36))),
 (oP 38 (.bin .lss (.t 31) (.t 37)))])
 (.cond (.t 38)
 .skip
 (.exit 2)))
 (.seq (.block 3
 (.ops [(mV 41 3),
 (mV 42 0),
 (mV 43 4),
 (oP 44 (.indexAddrL 2 (.t 42) (.t 43))),
 (oP 45 (.fieldAddr 1 (.t 44))),
 (oP 46 (.load false 1 (.t 45))),
 (mV 47 5),
 (oP 48 (.indexAddrL 1 (.t 46) (.t 47))),
 (oP 49 (.load false 1 (.t 48))),
 (oP 50 (.callF 64 [(.t 49), (.c (.int .i64 4))])),
 (oP 51 (.bin .add (.t 41) (.t 50))),
 (mV 3 51)]))
 (.ops [(mV 39 5),
 (oP 40 (.bin .add (.t 39) (.c (.int .i64 1)))),
 (mV 5 40)]))))))))
 (.cut (.ops [(mV 13 4),
 (oP 14 (.bin .add (.t 13) (.c (.int .i64 1)))),
 (mV 4 14)])))))))
 (.cut (.seq (.ops [(mV 52 3),
 (mV 2 52)])
 .ret)))))
theorem F55 : FI 55 1 53 6 [.tmp 2] c55 := ⟨⟨Tryz.f55, Tryz.func55, by kernel_rfl, by kernel_rfl, by kernel_rfl⟩, by kernel_rfl, by decide, by kernel_rfl⟩
/- f64 understory/understoryref04.Number: 25 temporaries, depth 5, 2 parameters, results [t4] -/
def c64 : RC :=
 (.seq (.ops [(oP 4 (.mv (.c (.str []))))])
 (.seq (.ops [(mV 7 1),
 (oP 8 (.mkSl 5 1 [(.int .u8 0)] (.t 7) (.t 7))),
 (mV 5 8)])
 (.seq (.seq (.ops [(mV 9 1),
 (oP 10 (.bin .sub (.t 9) (.c (.int .i64 1)))),
 (mV 6 10)])
 (.block 0
 (.loop
 (.seq (.seq (.ops [(mV 11 6),
 (oP 12 (.bin .geq (.t 11) (.c (.int .i64 0))))])
 (.cond (.t 12)
 .skip
 (.exit 0)))
 (.seq (.block 1
 (.seq (.ops [(mV 15 5),
 (mV 16 6),
 (mV 17 0),
 (oP 18 (.bin .rem (.t 17) (.c (.int .i64 256)))),
 (oP 19 (.toInt .u8 (.t 18))),
 (oP 20 (.indexAddrL 1 (.t 15) (.t 16))),
 (oU (.store 1 (.t 20) (.t 19)))])
 (.ops [(mV 21 0),
 (oP 22 (.bin .quo (.t 21) (.c (.int .i64 256)))),
 (mV 0 22)])))
 (.ops [(mV 13 6),
 (oP 14 (.bin .sub (.t 13) (.c (.int .i64 1)))),
 (mV 6 14)]))))))
 (.cut (.seq (.ops [(mV 23 5),
 (oP 24 (.bytesStr (.t 23))),
 (mV 4 24)])
 .ret)))))
theorem F64 : FI 64 2 25 5 [.tmp 4] c64 := ⟨⟨Tryz.f64, Tryz.func64, by kernel_rfl, by kernel_rfl, by kernel_rfl⟩, by kernel_rfl, by decide, by kernel_rfl⟩
/- f65 understory/understoryref04.body: 60 temporaries, depth 6, 1 parameters, results [t2] -/
def c65 : RC :=
 (.seq (.ops [(oP 1 (.box 25 (.t 0))),
 (oP 2 (.mv (.c (.str []))))])
 (.seq (.seq (.ops [(oP 4 (.fieldAddr 0 (.t 1))),
 (oP 5 (.load false 1 (.t 4)))])
 (.block 0
 (.seq (.ops [(oP 7 (.bin .eql (.t 5) (.c (.int .i64 3)))),
 (mV 6 7)])
 (.cond (.t 6)
 (.seq (.draw [((oP 8 (.fieldAddr 7 (.t 1))), 0),
 ((oP 9 (.load false 1 (.t 8))), 1),
 ((oP 10 (.callF 64 [(.t 9), (.c (.int .i64 4))])), 0),
 ((oP 11 (.fieldAddr 8 (.t 1))), 0),
 ((oP 12 (.load false 1 (.t 11))), 1),
 ((oP 13 (.lenS (.t 12))), 0),
 ((oP 14 (.callF 64 [(.t 13), (.c (.int .i64 2))])), 0),
 ((oP 15 (.bin .add (.t 10) (.t 14))), 0),
 ((oP 16 (.fieldAddr 8 (.t 1))), 0),
 ((oP 17 (.load false 1 (.t 16))), 1),
 ((oP 18 (.bin .add (.t 15) (.t 17))), 0),
 ((mV 2 18), 0)])
 .ret)
 (.seq (.ops [(oP 20 (.bin .eql (.t 5) (.c (.int .i64 4)))),
 (mV 19 20)])
 (.cond (.t 19)
 (.seq (.draw [((oP 21 (.fieldAddr 7 (.t 1))), 0),
 ((oP 22 (.load false 1 (.t 21))), 1),
 ((oP 23 (.callF 64 [(.t 22), (.c (.int .i64 4))])), 0),
 ((oP 24 (.fieldAddr 9 (.t 1))), 0),
 ((oP 25 (.load false 1 (.t 24))), 1),
 ((oP 26 (.callF 55 [(.t 25)])), 0),
 ((oP 27 (.bin .add (.t 23) (.t 26))), 0),
 ((mV 2 27), 0)])
 .ret)
 .skip))))))
 (.seq (.draw [((oP 28 (.fieldAddr 3 (.t 1))), 0),
 ((oP 29 (.load false 1 (.t 28))), 1),
 ((oP 30 (.callF 64 [(.t 29), (.c (.int .i64 1))])), 0),
 ((oP 31 (.fieldAddr 4 (.t 1))), 0),
 ((oP 32 (.load false 1 (.t 31))), 1),
 ((oP 33 (.callF 64 [(.t 32), (.c (.int .i64 1))])), 0),
 ((oP 34 (.bin .add (.t 30) (.t 33))), 0),
 ((oP 35 (.fieldAddr 5 (.t 1))), 0),
 ((oP 36 (.load false 1 (.t 35))), 1),
 ((oP 37 (.callF 113 [(.t 36)])), 0),
 ((oP 38 (.callF 64 [(.t 37), (.c (.int .i64 1))])), 0),
 ((oP 39 (.bin .add (.t 34) (.t 38))), 0),
 ((oP 40 (.fieldAddr 6 (.t 1))), 0),
 ((oP 41 (.load false 1 (.t 40))), 1),
 ((oP 42 (.fieldAddr 4 (.t 1))), 0),
 ((oP 43 (.load false 1 (.t 42))), 1),
 ((oP 44 (.callF 114 [(.t 41), (.t 43)])), 0),
 ((oP 45 (.lenS (.t 44))), 0),
 ((oP 46 (.callF 64 [(.t 45), (.c (.int .i64 1))])), 0),
 ((oP 47 (.bin .add (.t 39) (.t 46))), 0),
 ((oP 48 (.fieldAddr 6 (.t 1))), 0),
 ((oP 49 (.load false 1 (.t 48))), 1),
 ((oP 50 (.lenL (.t 49))), 0),
 ((oP 51 (.callF 64 [(.t 50), (.c (.int .i64 2))])), 0),
 ((oP 52 (.bin .add (.t 47) (.t 51))), 0),
 ((mV 3 52), 0)])
 (.seq (.ops [(mV 53 3),
 (oP 54 (.fieldAddr 6 (.t 1))),
 (oP 55 (.load false 1 (.t 54))),
 (oP 56 (.fieldAddr 4 (.t 1))),
 (oP 57 (.load false 1 (.t 56))),
 (oP 58 (.callF 115 [(.t 55), (.t 57), (.c (.int .i64 18))])),
 (oP 59 (.bin .add (.t 53) (.t 58))),
 (mV 2 59)])
 .ret))))
theorem F65 : FI 65 1 60 6 [.tmp 2] c65 := ⟨⟨Tryz.f65, Tryz.func65, by kernel_rfl, by kernel_rfl, by kernel_rfl⟩, by kernel_rfl, by decide, by kernel_rfl⟩
/- f66 understory/understoryref04.Crc: 8 temporaries, depth 4, 1 parameters, results [t2] -/
def c66 : RC :=
 (.seq (.ops [(oP 2 (.mv (.c (.str []))))])
 (.seq (.ops [(mV 3 0),
 (oP 4 (.callF 117 [(.t 3)])),
 (oP 5 (.toInt .i64 (.t 4))),
 (oP 6 (.callF 64 [(.t 5), (.c (.int .i64 4))])),
 (oP 7 (.callF 116 [(.t 6)])),
 (mV 2 7)])
 .ret))
theorem F66 : FI 66 1 8 4 [.tmp 2] c66 := ⟨⟨Tryz.f66, Tryz.func66, by kernel_rfl, by kernel_rfl, by kernel_rfl⟩, by kernel_rfl, by decide, by kernel_rfl⟩
/- f69 understory/understoryref04.read: 135 temporaries, depth 8, 1 parameters, results [*t2] -/
def c69 : RC :=
 (.seq (.ops [(oP 2 (.alloc 25 [(.int .i64 0), (.int .i64 0), (.int .i64 0), (.int .i64 0), (.int .i64 0), (.bool false), (.lst 0 [] true), (.int .i64 0), (.str []), (.lst 0 [] true)]))])
 (.seq (.ops [(mV 14 0),
 (oP 15 (.sliceS (.t 14) (some (.c (.int .i64 1))) (some (.c (.int .i64 508))))),
 (oP 16 (.build [(.str []), (.bool false)] [(0, 1, (.t 15))])),
 (oP 17 (.box 195 (.t 16))),
 (mV 3 17)])
 (.seq (.ops [(mV 18 3),
 (oP 19 (.callF 120 [(.t 18), (.c (.int .i64 1))])),
 (mV 20 3),
 (oP 21 (.callF 120 [(.t 20), (.c (.int .i64 4))])),
 (mV 22 3),
 (oP 23 (.callF 120 [(.t 22), (.c (.int .i64 6))])),
 (oP 24 (.build [(.int .i64 0), (.int .i64 0), (.int .i64 0), (.int .i64 0), (.int .i64 0), (.bool false), (.lst 0 [] true), (.int .i64 0), (.str []), (.lst 0 [] true)] [(0, 1, (.t 19)), (1, 1, (.t 21)), (2, 1, (.t 23))])),
 (oP 4 (.alloc 25 [(.int .i64 0), (.int .i64 0), (.int .i64 0), (.int .i64 0), (.int .i64 0), (.bool false), (.lst 0 [] true), (.int .i64 0), (.str []), (.lst 0 [] true)])),
 (oU (.store 10 (.t 4) (.t 24)))])
 (.seq (.seq (.ops [(oP 25 (.fieldAddr 0 (.t 4))),
 (oP 26 (.load false 1 (.t 25)))])
 (.block 0
 (.seq (.seq (.ops [(oP 28 (.bin .eql (.t 26) (.c (.int .i64 1)))),
 (mV 27 28)])
 (.cond (.t 27)
 .skip
 (.ops [(oP 29 (.bin .eql (.t 26) (.c (.int .i64 2)))),
 (mV 27 29)])))
 (.cond (.t 27)
 (.seq (.ops [(mV 30 3),
 (oP 31 (.callF 120 [(.t 30), (.c (.int .i64 1))])),
 (oP 32 (.fieldAddr 3 (.t 4))),
 (oU (.store 1 (.t 32) (.t 31)))])
 (.seq (.ops [(mV 33 3),
 (oP 34 (.callF 120 [(.t 33), (.c (.int .i64 1))])),
 (oP 35 (.fieldAddr 4 (.t 4))),
 (oU (.store 1 (.t 35) (.t 34)))])
 (.seq (.ops [(mV 36 3),
 (oP 37 (.callF 120 [(.t 36), (.c (.int .i64 1))])),
 (oP 38 (.bin .eql (.t 37) (.c (.int .i64 1)))),
 (oP 39 (.fieldAddr 5 (.t 4))),
 (oU (.store 1 (.t 39) (.t 38)))])
 (.seq (.ops [(mV 40 3),
 (oP 41 (.callF 120 [(.t 40), (.c (.int .i64 1))])),
 (mV 5 41)])
 (.seq (.ops [(mV 42 3),
 (oP 43 (.callF 120 [(.t 42), (.c (.int .i64 2))])),
 (mV 6 43)])
 (.seq (.ops [(mV 44 3),
 (mV 45 5),
 (oP 46 (.callF 121 [(.t 44), (.t 45)])),
 (mV 7 46)])
 (.seq (.ops [(mV 47 3),
 (mV 48 6),
 (oP 49 (.bin .mul (.c (.int .i64 2)) (.t 48))),
 (oP 50 (.callF 121 [(.t 47), (.t 49)]))])
 (.seq (.ops [(oP 8 (.mv (.c (.int .i64 0))))])
 (.block 1
 (.loop
 (.seq (.seq (.ops [(mV 51 8),
 (mV 52 6),
 (oP 53 (.bin .lss (.t 51) (.t 52))),
 (mV 54 53),
 (oG 55 54 true (.mv (.t 3))),
 (oG 56 54 true (.nilCheck (.t 55))),
 (oG 57 54 true (.fieldAddr 1 (.t 56))),
 (oG 58 54 true (.load false 1 (.t 57))),
 (oG 59 54 true (.un .not (.t 58))),
 (oP 60 (.pick (.t 54) (.t 59) (.c (.bool false))))])
 (.cond (.t 60)
 .skip
 (.exit 1)))
 (.seq (.block 2
 (.draw [((oP 63 (.fieldAddr 6 (.t 4))), 0),
 ((oP 64 (.load false 1 (.t 63))), 1),
 ((mV 65 3), 0),
 ((mV 66 7), 0),
 ((oP 67 (.fieldAddr 4 (.t 4))), 0),
 ((oP 68 (.load false 1 (.t 67))), 1),
 ((mV 69 8), 0),
 ((oP 70 (.bin .eql (.t 69) (.c (.int .i64 0)))), 0),
 ((oP 71 (.callF 122 [(.t 65), (.t 66), (.t 68), (.t 70)])), 2),
 ((oP 72 (.mkLst 22 true 1 [(.str []), (.str []), (.int .i64 0), (.int .i64 0), (.int .i64 0), (.int .i64 0), (.int .u8 0), (.int .u8 0), (.int .u8 0), (.int .u8 0), (.int .u8 0), (.int .u8 0), (.int .u8 0), (.int .u8 0), (.int .u8 0), (.int .u8 0), (.int .u8 0), (.int .u8 0), (.int .u8 0), (.int .u8 0), (.int .u8 0), (.int .u8 0)] [(0, 22, (.t 71))])), 0),
 ((oP 73 (.app 56 22 (.t 64) (.t 72))), 2),
 ((oP 74 (.fieldAddr 6 (.t 4))), 0),
 ((oU (.store 1 (.t 74) (.t 73))), 3)]))
 (.ops [(mV 61 8),
 (oP 62 (.bin .add (.t 61) (.c (.int .i64 1)))),
 (mV 8 62)])))))))))))))
 (.seq (.ops [(oP 76 (.bin .eql (.t 26) (.c (.int .i64 3)))),
 (mV 75 76)])
 (.cond (.t 75)
 (.seq (.ops [(mV 77 3),
 (oP 78 (.callF 120 [(.t 77), (.c (.int .i64 4))])),
 (oP 79 (.fieldAddr 7 (.t 4))),
 (oU (.store 1 (.t 79) (.t 78)))])
 (.ops [(mV 80 3),
 (mV 81 3),
 (oP 82 (.callF 120 [(.t 81), (.c (.int .i64 2))])),
 (oP 83 (.callF 121 [(.t 80), (.t 82)])),
 (oP 84 (.fieldAddr 8 (.t 4))),
 (oU (.store 1 (.t 84) (.t 83)))]))
 (.seq (.ops [(oP 86 (.bin .eql (.t 26) (.c (.int .i64 4)))),
 (mV 85 86)])
 (.cond (.t 85)
 (.seq (.ops [(mV 87 3),
 (oP 88 (.callF 120 [(.t 87), (.c (.int .i64 4))])),
 (oP 89 (.fieldAddr 7 (.t 4))),
 (oU (.store 1 (.t 89) (.t 88)))])
 (.seq (.ops [(mV 90 3),
 (oP 91 (.callF 120 [(.t 90), (.c (.int .i64 2))])),
 (mV 9 91)])
 (.seq (.ops [(oP 10 (.mv (.c (.int .i64 0))))])
 (.block 3
 (.loop
 (.seq (.seq (.ops [(mV 92 10),
 (mV 93 9),
 (oP 94 (.bin .lss (.t 92) (.t 93))),
 (mV 95 94),
 (oG 96 95 true (.mv (.t 3))),
 (oG 97 95 true (.nilCheck (.t 96))),
 (oG 98 95 true (.fieldAddr 1 (.t 97))),
 (oG 99 95 true (.load false 1 (.t 98))),
 (oG 100 95 true (.un .not (.t 99))),
 (oP 101 (.pick (.t 95) (.t 100) (.c (.bool false))))])
 (.cond (.t 101)
 .skip
 (.exit 3)))
 (.seq (.block 4
 (.seq (.ops [(mV 104 3),
 (oP 105 (.callF 120 [(.t 104), (.c (.int .i64 6))])),
 (oP 106 (.build [(.int .i64 0), (.lst 0 [] true)] [(0, 1, (.t 105))])),
 (oP 11 (.alloc 165 [(.int .i64 0), (.lst 0 [] true)])),
 (oU (.store 2 (.t 11) (.t 106)))])
 (.seq (.ops [(mV 107 3),
 (oP 108 (.callF 120 [(.t 107), (.c (.int .i64 2))])),
 (mV 12 108)])
 (.seq (.seq (.ops [(oP 13 (.mv (.c (.int .i64 0))))])
 (.block 5
 (.loop
 (.seq (.seq (.ops [(mV 109 13),
 (mV 110 12),
 (oP 111 (.bin .lss (.t 109) (.t 110))),
 (mV 112 111),
 (oG 113 112 true (.mv (.t 3))),
 (oG 114 112 true (.nilCheck (.t 113))),
 (oG 115 112 true (.fieldAddr 1 (.t 114))),
 (oG 116 112 true (.load false 1 (.t 115))),
 (oG 117 112 true (.un .not (.t 116))),
 (oP 118 (.pick (.t 112) (.t 117) (.c (.bool false))))])
 (.cond (.t 118)
 .skip
 (.exit 5)))
 (.seq (.block 6
 (.draw [((oP 121 (.fieldAddr 1 (.t 11))), 0),
 ((oP 122 (.load false 1 (.t 121))), 1),
 ((mV 123 3), 0),
 ((oP 124 (.callF 120 [(.t 123), (.c (.int .i64 4))])), 2),
 ((oP 125 (.mkLst 1 false 1 [(.int .i64 0)] [(0, 1, (.t 124))])), 0),
 ((oP 126 (.app 3 1 (.t 122) (.t 125))), 3),
 ((oP 127 (.fieldAddr 1 (.t 11))), 0),
 ((oU (.store 1 (.t 127) (.t 126))), 2)]))
 (.ops [(mV 119 13),
 (oP 120 (.bin .add (.t 119) (.c (.int .i64 1)))),
 (mV 13 120)]))))))
 (.cut (.ops [(oP 128 (.fieldAddr 9 (.t 4))),
 (oP 129 (.load false 1 (.t 128))),
 (oP 130 (.load true 2 (.t 11))),
 (oP 131 (.mkLst 2 true 1 [(.int .i64 0), (.lst 0 [] true)] [(0, 2, (.t 130))])),
 (oP 132 (.app 165 2 (.t 129) (.t 131))),
 (oP 133 (.fieldAddr 9 (.t 4))),
 (oU (.store 1 (.t 133) (.t 132)))]))))))
 (.cut (.ops [(mV 102 10),
 (oP 103 (.bin .add (.t 102) (.c (.int .i64 1)))),
 (mV 10 103)])))))))))
 .skip))))))))
 (.cut (.seq (.ops [(oP 134 (.load true 10 (.t 4))),
 (oU (.store 10 (.t 2) (.t 134)))])
 .ret))))))
theorem F69 : FI 69 1 135 8 [.cell 2 25] c69 := ⟨⟨Tryz.f69, Tryz.func69, by kernel_rfl, by kernel_rfl, by kernel_rfl⟩, by kernel_rfl, by decide, by kernel_rfl⟩
/- f77 understory/understoryref04.SameEntries: 26 temporaries, depth 5, 2 parameters, results [t4] -/
def c77 : RC :=
 (.seq (.ops [(oP 4 (.mv (.c (.bool false))))])
 (.seq (.seq (.ops [(mV 6 0),
 (oP 7 (.lenL (.t 6))),
 (mV 8 1),
 (oP 9 (.lenL (.t 8))),
 (oP 10 (.bin .neq (.t 7) (.t 9)))])
 (.cond (.t 10)
 (.seq (.ops [(oP 4 (.mv (.c (.bool false))))])
 .ret)
 .skip))
 (.seq (.seq (.ops [(oP 5 (.mv (.c (.int .i64 0))))])
 (.block 0
 (.loop
 (.seq (.seq (.ops [(mV 11 5),
 (mV 12 0),
 (oP 13 (.lenL (.t 12))),
 (oP 14 (.bin .lss (.t 11) (.t 13)))])
 (.cond (.t 14)
 .skip
 (.exit 0)))
 (.seq (.block 1
 (.seq (.draw [((mV 17 0), 0),
 ((mV 18 5), 0),
 ((oP 19 (.indexAddrL 22 (.t 17) (.t 18))), 0),
 ((oP 20 (.load true 22 (.t 19))), 1),
 ((mV 21 1), 0),
 ((mV 22 5), 0),
 ((oP 23 (.indexAddrL 22 (.t 21) (.t 22))), 0),
 ((oP 24 (.load true 22 (.t 23))), 1),
 ((oP 25 (.cmp true 56 (.t 20) (.t 24))), 0)])
 (.cond (.t 25)
 (.seq (.ops [(oP 4 (.mv (.c (.bool false))))])
 .ret)
 .skip)))
 (.ops [(mV 15 5),
 (oP 16 (.bin .add (.t 15) (.c (.int .i64 1)))),
 (mV 5 16)]))))))
 (.cut (.seq (.ops [(oP 4 (.mv (.c (.bool true))))])
 .ret)))))
theorem F77 : FI 77 2 26 5 [.tmp 4] c77 := ⟨⟨Tryz.f77, Tryz.func77, by kernel_rfl, by kernel_rfl, by kernel_rfl⟩, by kernel_rfl, by decide, by kernel_rfl⟩
/- f79 understory/understoryref04.number: 19 temporaries, depth 5, 1 parameters, results [t2] -/
def c79 : RC :=
 (.seq (.ops [(oP 2 (.mv (.c (.int .i64 0))))])
 (.seq (.ops [(oP 3 (.mv (.c (.int .i64 0))))])
 (.seq (.seq (.ops [(oP 4 (.mv (.c (.int .i64 0))))])
 (.block 0
 (.loop
 (.seq (.seq (.ops [(mV 5 4),
 (mV 6 0),
 (oP 7 (.lenS (.t 6))),
 (oP 8 (.bin .lss (.t 5) (.t 7)))])
 (.cond (.t 8)
 .skip
 (.exit 0)))
 (.seq (.block 1
 (.ops [(mV 11 3),
 (oP 12 (.bin .mul (.t 11) (.c (.int .i64 256)))),
 (mV 13 0),
 (mV 14 4),
 (oP 15 (.indexS (.t 13) (.t 14))),
 (oP 16 (.toInt .i64 (.t 15))),
 (oP 17 (.bin .add (.t 12) (.t 16))),
 (mV 3 17)]))
 (.ops [(mV 9 4),
 (oP 10 (.bin .add (.t 9) (.c (.int .i64 1)))),
 (mV 4 10)]))))))
 (.cut (.seq (.ops [(mV 18 3),
 (mV 2 18)])
 .ret)))))
theorem F79 : FI 79 1 19 5 [.tmp 2] c79 := ⟨⟨Tryz.f79, Tryz.func79, by kernel_rfl, by kernel_rfl, by kernel_rfl⟩, by kernel_rfl, by decide, by kernel_rfl⟩
/- f103 understory/understoryref04.SameInts: 26 temporaries, depth 5, 2 parameters, results [t4] -/
def c103 : RC :=
 (.seq (.ops [(oP 4 (.mv (.c (.bool false))))])
 (.seq (.seq (.ops [(mV 6 0),
 (oP 7 (.lenL (.t 6))),
 (mV 8 1),
 (oP 9 (.lenL (.t 8))),
 (oP 10 (.bin .neq (.t 7) (.t 9)))])
 (.cond (.t 10)
 (.seq (.ops [(oP 4 (.mv (.c (.bool false))))])
 .ret)
 .skip))
 (.seq (.seq (.ops [(oP 5 (.mv (.c (.int .i64 0))))])
 (.block 0
 (.loop
 (.seq (.seq (.ops [(mV 11 5),
 (mV 12 0),
 (oP 13 (.lenL (.t 12))),
 (oP 14 (.bin .lss (.t 11) (.t 13)))])
 (.cond (.t 14)
 .skip
 (.exit 0)))
 (.seq (.block 1
 (.seq (.draw [((mV 17 0), 0),
 ((mV 18 5), 0),
 ((oP 19 (.indexAddrL 1 (.t 17) (.t 18))), 0),
 ((oP 20 (.load false 1 (.t 19))), 1),
 ((mV 21 1), 0),
 ((mV 22 5), 0),
 ((oP 23 (.indexAddrL 1 (.t 21) (.t 22))), 0),
 ((oP 24 (.load false 1 (.t 23))), 1),
 ((oP 25 (.bin .neq (.t 20) (.t 24))), 0)])
 (.cond (.t 25)
 (.seq (.ops [(oP 4 (.mv (.c (.bool false))))])
 .ret)
 .skip)))
 (.ops [(mV 15 5),
 (oP 16 (.bin .add (.t 15) (.c (.int .i64 1)))),
 (mV 5 16)]))))))
 (.cut (.seq (.ops [(oP 4 (.mv (.c (.bool true))))])
 .ret)))))
theorem F103 : FI 103 2 26 5 [.tmp 4] c103 := ⟨⟨Tryz.f103, Tryz.func103, by kernel_rfl, by kernel_rfl, by kernel_rfl⟩, by kernel_rfl, by decide, by kernel_rfl⟩
/- f106 understory/understoryref04.Valid: 105 temporaries, depth 7, 2 parameters, results [t4] -/
def c106 : RC :=
 (.seq (.ops [(oP 4 (.mv (.c (.bool false))))])
 (.seq (.seq (.ops [(mV 6 1),
 (oP 7 (.bin .lss (.t 6) (.c (.int .i64 0)))),
 (mV 8 7),
 (oG 9 8 false (.mv (.t 1))),
 (oG 10 8 false (.bin .gtr (.t 9) (.c (.int .i64 20)))),
 (oP 11 (.pick (.t 8) (.c (.bool true)) (.t 10))),
 (mV 12 11),
 (oG 13 12 false (.mv (.t 1))),
 (oG 14 12 false (.bin .eql (.t 13) (.c (.int .i64 0)))),
 (oG 15 12 false (.mv (.t 14))),
 (oG 16 15 true (.mv (.t 0))),
 (oG 17 15 true (.lenL (.t 16))),
 (oG 18 15 true (.bin .lss (.t 17) (.c (.int .i64 1)))),
 (oG 19 12 false (.pick (.t 15) (.t 18) (.c (.bool false)))),
 (oP 20 (.pick (.t 12) (.c (.bool true)) (.t 19))),
 (mV 21 20),
 (oG 22 21 false (.mv (.t 1))),
 (oG 23 21 false (.bin .gtr (.t 22) (.c (.int .i64 0)))),
 (oG 24 21 false (.mv (.t 23))),
 (oG 25 24 true (.mv (.t 0))),
 (oG 26 24 true (.lenL (.t 25))),
 (oG 27 24 true (.bin .lss (.t 26) (.c (.int .i64 2)))),
 (oG 28 24 true (.mv (.t 27))),
 (oG 29 28 false (.mv (.t 0))),
 (oG 30 28 false (.indexAddrL 22 (.t 29) (.c (.int .i64 0)))),
 (oG 31 28 false (.fieldAddr 0 (.t 30))),
 (oG 32 28 false (.load false 1 (.t 31))),
 (oG 33 28 false (.bin .neq (.t 32) (.c (.str [])))),
 (oG 34 24 true (.pick (.t 28) (.c (.bool true)) (.t 33))),
 (oG 35 21 false (.pick (.t 24) (.t 34) (.c (.bool false)))),
 (oP 36 (.pick (.t 21) (.c (.bool true)) (.t 35)))])
 (.cond (.t 36)
 (.seq (.ops [(oP 4 (.mv (.c (.bool false))))])
 .ret)
 .skip))
 (.seq (.seq (.ops [(oP 5 (.mv (.c (.int .i64 0))))])
 (.block 0
 (.loop
 (.seq (.seq (.ops [(mV 37 5),
 (mV 38 0),
 (oP 39 (.lenL (.t 38))),
 (oP 40 (.bin .lss (.t 37) (.t 39)))])
 (.cond (.t 40)
 .skip
 (.exit 0)))
 (.seq (.block 1
 (.seq (.seq (.ops [(mV 43 1),
 (oP 44 (.bin .eql (.t 43) (.c (.int .i64 0)))),
 (mV 45 44),
 (oG 46 45 true (.mv (.t 0))),
 (oG 47 45 true (.mv (.t 5))),
 (oG 48 45 true (.indexAddrL 22 (.t 46) (.t 47))),
 (oG 49 45 true (.load true 22 (.t 48))),
 (oG 50 45 true (.callF 141 [(.t 49)])),
 (oG 51 45 true (.un .not (.t 50))),
 (oP 52 (.pick (.t 45) (.t 51) (.c (.bool false)))),
 (mV 53 52),
 (oG 54 53 false (.mv (.t 1))),
 (oG 55 53 false (.bin .gtr (.t 54) (.c (.int .i64 0)))),
 (oG 56 53 false (.mv (.t 55))),
 (oG 57 56 true (.mv (.t 0))),
 (oG 58 56 true (.mv (.t 5))),
 (oG 59 56 true (.indexAddrL 22 (.t 57) (.t 58))),
 (oG 60 56 true (.load true 22 (.t 59))),
 (oG 61 56 true (.callF 142 [(.t 60)])),
 (oG 62 56 true (.un .not (.t 61))),
 (oG 63 53 false (.pick (.t 56) (.t 62) (.c (.bool false)))),
 (oP 64 (.pick (.t 53) (.c (.bool true)) (.t 63)))])
 (.cond (.t 64)
 (.seq (.ops [(oP 4 (.mv (.c (.bool false))))])
 .ret)
 .skip))
 (.seq (.seq (.ops [(mV 65 1),
 (oP 66 (.bin .gtr (.t 65) (.c (.int .i64 0)))),
 (mV 67 66),
 (oG 68 67 true (.mv (.t 5))),
 (oG 69 67 true (.bin .gtr (.t 68) (.c (.int .i64 0)))),
 (oP 70 (.pick (.t 67) (.t 69) (.c (.bool false)))),
 (mV 71 70),
 (oG 72 71 true (.mv (.t 0))),
 (oG 73 71 true (.mv (.t 5))),
 (oG 74 71 true (.indexAddrL 22 (.t 72) (.t 73))),
 (oG 75 71 true (.fieldAddr 0 (.t 74))),
 (oG 76 71 true (.load false 1 (.t 75))),
 (oG 77 71 true (.lenS (.t 76))),
 (oG 78 71 true (.bin .lss (.t 77) (.c (.int .i64 1)))),
 (oG 79 71 true (.mv (.t 78))),
 (oG 80 79 false (.mv (.t 0))),
 (oG 81 79 false (.mv (.t 5))),
 (oG 82 79 false (.indexAddrL 22 (.t 80) (.t 81))),
 (oG 83 79 false (.fieldAddr 0 (.t 82))),
 (oG 84 79 false (.load false 1 (.t 83))),
 (oG 85 79 false (.lenS (.t 84))),
 (oG 86 79 false (.bin .gtr (.t 85) (.c (.int .i64 48)))),
 (oG 87 71 true (.pick (.t 79) (.c (.bool true)) (.t 86))),
 (oP 88 (.pick (.t 71) (.t 87) (.c (.bool false))))])
 (.cond (.t 88)
 (.seq (.ops [(oP 4 (.mv (.c (.bool false))))])
 .ret)
 .skip))
 (.seq (.draw [((mV 89 5), 0),
 ((oP 90 (.bin .gtr (.t 89) (.c (.int .i64 0)))), 0),
 ((mV 91 90), 0),
 ((oG 92 91 true (.mv (.t 0))), 0),
 ((oG 93 91 true (.mv (.t 5))), 0),
 ((oG 94 91 true (.indexAddrL 22 (.t 92) (.t 93))), 0),
 ((oG 95 91 true (.fieldAddr 0 (.t 94))), 0),
 ((oG 96 91 true (.load false 1 (.t 95))), 1),
 ((oG 97 91 true (.mv (.t 0))), 0),
 ((oG 98 91 true (.mv (.t 5))), 0),
 ((oG 99 91 true (.bin .sub (.t 98) (.c (.int .i64 1)))), 0),
 ((oG 100 91 true (.indexAddrL 22 (.t 97) (.t 99))), 0),
 ((oG 101 91 true (.fieldAddr 0 (.t 100))), 0),
 ((oG 102 91 true (.load false 1 (.t 101))), 1),
 ((oG 103 91 true (.bin .leq (.t 96) (.t 102))), 0),
 ((oP 104 (.pick (.t 91) (.t 103) (.c (.bool false)))), 0)])
 (.cond (.t 104)
 (.seq (.ops [(oP 4 (.mv (.c (.bool false))))])
 .ret)
 .skip)))))
 (.ops [(mV 41 5),
 (oP 42 (.bin .add (.t 41) (.c (.int .i64 1)))),
 (mV 5 42)]))))))
 (.cut (.seq (.ops [(oP 4 (.mv (.c (.bool true))))])
 .ret)))))
theorem F106 : FI 106 2 105 7 [.tmp 4] c106 := ⟨⟨Tryz.f106, Tryz.func106, by kernel_rfl, by kernel_rfl, by kernel_rfl⟩, by kernel_rfl, by decide, by kernel_rfl⟩
/- f107 understory/understoryref04.Weight: 72 temporaries, depth 7, 2 parameters, results [*t4] -/
def c107 : RC :=
 (.seq (.ops [(oP 4 (.alloc 92 [(.int .i64 0), (.int .i64 0)]))])
 (.seq (.seq (.ops [(mV 7 1),
 (oP 8 (.bin .lss (.t 7) (.c (.int .i64 0)))),
 (mV 9 8),
 (oG 10 9 false (.mv (.t 1))),
 (oG 11 9 false (.bin .gtr (.t 10) (.c (.int .i64 20)))),
 (oP 12 (.pick (.t 9) (.c (.bool true)) (.t 11)))])
 (.cond (.t 12)
 (.seq (.ops [(oP 13 (.build [(.int .i64 0), (.int .i64 0)] [(1, 1, (.c (.int .i64 2)))])),
 (oU (.store 2 (.t 4) (.t 13)))])
 .ret)
 .skip))
 (.seq (.ops [(oP 5 (.mv (.c (.int .i64 6))))])
 (.seq (.seq (.ops [(oP 6 (.mv (.c (.int .i64 0))))])
 (.block 0
 (.loop
 (.seq (.seq (.ops [(mV 14 6),
 (mV 15 0),
 (oP 16 (.lenL (.t 15))),
 (oP 17 (.bin .lss (.t 14) (.t 16)))])
 (.cond (.t 17)
 .skip
 (.exit 0)))
 (.seq (.block 1
 (.seq (.seq (.ops [(mV 20 1),
 (oP 21 (.bin .eql (.t 20) (.c (.int .i64 0)))),
 (mV 22 21),
 (oG 23 22 true (.mv (.t 0))),
 (oG 24 22 true (.mv (.t 6))),
 (oG 25 22 true (.indexAddrL 22 (.t 23) (.t 24))),
 (oG 26 22 true (.load true 22 (.t 25))),
 (oG 27 22 true (.callF 141 [(.t 26)])),
 (oG 28 22 true (.un .not (.t 27))),
 (oP 29 (.pick (.t 22) (.t 28) (.c (.bool false)))),
 (mV 30 29),
 (oG 31 30 false (.mv (.t 1))),
 (oG 32 30 false (.bin .gtr (.t 31) (.c (.int .i64 0)))),
 (oG 33 30 false (.mv (.t 32))),
 (oG 34 33 true (.mv (.t 0))),
 (oG 35 33 true (.mv (.t 6))),
 (oG 36 33 true (.indexAddrL 22 (.t 34) (.t 35))),
 (oG 37 33 true (.load true 22 (.t 36))),
 (oG 38 33 true (.callF 142 [(.t 37)])),
 (oG 39 33 true (.un .not (.t 38))),
 (oG 40 33 true (.mv (.t 39))),
 (oG 41 40 false (.mv (.t 0))),
 (oG 42 40 false (.mv (.t 6))),
 (oG 43 40 false (.indexAddrL 22 (.t 41) (.t 42))),
 (oG 44 40 false (.fieldAddr 0 (.t 43))),
 (oG 45 40 false (.load false 1 (.t 44))),
 (oG 46 40 false (.lenS (.t 45))),
 (oG 47 40 false (.bin .gtr (.t 46) (.c (.int .i64 48)))),
 (oG 48 33 true (.pick (.t 40) (.c (.bool true)) (.t 47))),
 (oG 49 30 false (.pick (.t 33) (.t 48) (.c (.bool false)))),
 (oP 50 (.pick (.t 30) (.c (.bool true)) (.t 49)))])
 (.cond (.t 50)
 (.seq (.ops [(oP 51 (.build [(.int .i64 0), (.int .i64 0)] [(1, 1, (.c (.int .i64 2)))])),
 (oU (.store 2 (.t 4) (.t 51)))])
 .ret)
 .skip))
 (.draw [((mV 52 5), 0),
 ((oP 53 (.bin .add (.t 52) (.c (.int .i64 2)))), 0),
 ((oP 54 (.bin .add (.t 53) (.c (.int .i64 1)))), 0),
 ((mV 55 0), 0),
 ((mV 56 6), 0),
 ((oP 57 (.indexAddrL 22 (.t 55) (.t 56))), 0),
 ((oP 58 (.fieldAddr 0 (.t 57))), 0),
 ((oP 59 (.load false 1 (.t 58))), 1),
 ((oP 60 (.lenS (.t 59))), 0),
 ((oP 61 (.bin .add (.t 54) (.t 60))), 0),
 ((mV 62 0), 0),
 ((mV 63 6), 0),
 ((oP 64 (.indexAddrL 22 (.t 62) (.t 63))), 0),
 ((oP 65 (.load true 22 (.t 64))), 1),
 ((mV 66 1), 0),
 ((oP 67 (.callF 143 [(.t 65), (.t 66)])), 0),
 ((oP 68 (.lenS (.t 67))), 0),
 ((oP 69 (.bin .add (.t 61) (.t 68))), 0),
 ((mV 5 69), 0)])))
 (.ops [(mV 18 6),
 (oP 19 (.bin .add (.t 18) (.c (.int .i64 1)))),
 (mV 6 19)]))))))
 (.cut (.seq (.ops [(mV 70 5),
 (oP 71 (.build [(.int .i64 0), (.int .i64 0)] [(0, 1, (.t 70))])),
 (oU (.store 2 (.t 4) (.t 71)))])
 .ret))))))
theorem F107 : FI 107 2 72 7 [.cell 4 92] c107 := ⟨⟨Tryz.f107, Tryz.func107, by kernel_rfl, by kernel_rfl, by kernel_rfl⟩, by kernel_rfl, by decide, by kernel_rfl⟩
/- f113 understory/understoryref04.flag: 4 temporaries, depth 3, 1 parameters, results [t2] -/
def c113 : RC :=
 (.seq (.ops [(oP 2 (.mv (.c (.int .i64 0))))])
 (.seq (.seq (.ops [(mV 3 0)])
 (.cond (.t 3)
 (.seq (.ops [(oP 2 (.mv (.c (.int .i64 1))))])
 .ret)
 .skip))
 (.seq (.ops [(oP 2 (.mv (.c (.int .i64 0))))])
 .ret)))
theorem F113 : FI 113 1 4 3 [.tmp 2] c113 := ⟨⟨Tryz.f113, Tryz.func113, by kernel_rfl, by kernel_rfl, by kernel_rfl⟩, by kernel_rfl, by decide, by kernel_rfl⟩
/- f114 understory/understoryref04.Prefix: 56 temporaries, depth 6, 2 parameters, results [t4] -/
def c114 : RC :=
 (.seq (.ops [(oP 4 (.mv (.c (.str []))))])
 (.seq (.ops [(oP 5 (.mv (.c (.int .i64 0))))])
 (.seq (.seq (.ops [(mV 9 1),
 (oP 10 (.bin .gtr (.t 9) (.c (.int .i64 0))))])
 (.cond (.t 10)
 (.ops [(oP 5 (.mv (.c (.int .i64 1))))])
 .skip))
 (.seq (.ops [(mV 11 0),
 (mV 12 5),
 (oP 13 (.indexAddrL 22 (.t 11) (.t 12))),
 (oP 14 (.fieldAddr 0 (.t 13))),
 (oP 15 (.load false 1 (.t 14))),
 (mV 6 15)])
 (.seq (.seq (.ops [(mV 16 5),
 (mV 7 16)])
 (.block 0
 (.loop
 (.seq (.seq (.ops [(mV 17 7),
 (mV 18 0),
 (oP 19 (.lenL (.t 18))),
 (oP 20 (.bin .lss (.t 17) (.t 19)))])
 (.cond (.t 20)
 .skip
 (.exit 0)))
 (.seq (.block 1
 (.seq (.ops [(oP 8 (.mv (.c (.int .i64 0))))])
 (.seq (.block 2
 (.loop
 (.seq (.seq (.draw [((mV 23 8), 0),
 ((mV 24 6), 0),
 ((oP 25 (.lenS (.t 24))), 0),
 ((oP 26 (.bin .lss (.t 23) (.t 25))), 0),
 ((mV 27 26), 0),
 ((oG 28 27 true (.mv (.t 8))), 0),
 ((oG 29 27 true (.mv (.t 0))), 0),
 ((oG 30 27 true (.mv (.t 7))), 0),
 ((oG 31 27 true (.indexAddrL 22 (.t 29) (.t 30))), 0),
 ((oG 32 27 true (.fieldAddr 0 (.t 31))), 0),
 ((oG 33 27 true (.load false 1 (.t 32))), 1),
 ((oG 34 27 true (.lenS (.t 33))), 0),
 ((oG 35 27 true (.bin .lss (.t 28) (.t 34))), 0),
 ((oP 36 (.pick (.t 27) (.t 35) (.c (.bool false)))), 0),
 ((mV 37 36), 0),
 ((oG 38 37 true (.mv (.t 6))), 0),
 ((oG 39 37 true (.mv (.t 8))), 0),
 ((oG 40 37 true (.indexS (.t 38) (.t 39))), 0),
 ((oG 41 37 true (.mv (.t 0))), 0),
 ((oG 42 37 true (.mv (.t 7))), 0),
 ((oG 43 37 true (.indexAddrL 22 (.t 41) (.t 42))), 0),
 ((oG 44 37 true (.fieldAddr 0 (.t 43))), 0),
 ((oG 45 37 true (.load false 1 (.t 44))), 1),
 ((oG 46 37 true (.mv (.t 8))), 0),
 ((oG 47 37 true (.indexS (.t 45) (.t 46))), 0),
 ((oG 48 37 true (.bin .eql (.t 40) (.t 47))), 0),
 ((oP 49 (.pick (.t 37) (.t 48) (.c (.bool false)))), 0)])
 (.cond (.t 49)
 .skip
 (.exit 2)))
 (.block 3
 (.ops [(mV 50 8),
 (oP 51 (.bin .add (.t 50) (.c (.int .i64 1)))),
 (mV 8 51)])))))
 (.cut (.ops [(mV 52 6),
 (mV 53 8),
 (oP 54 (.sliceS (.t 52) none (some (.t 53)))),
 (mV 6 54)])))))
 (.cut (.ops [(mV 21 7),
 (oP 22 (.bin .add (.t 21) (.c (.int .i64 1)))),
 (mV 7 22)])))))))
 (.cut (.seq (.ops [(mV 55 6),
 (mV 4 55)])
 .ret)))))))
theorem F114 : FI 114 2 56 6 [.tmp 4] c114 := ⟨⟨Tryz.f114, Tryz.func114, by kernel_rfl, by kernel_rfl, by kernel_rfl⟩, by kernel_rfl, by decide, by kernel_rfl⟩
/- f115 understory/understoryref04.entries: 59 temporaries, depth 6, 3 parameters, results [t6] -/
def c115 : RC :=
 (.seq (.ops [(oP 6 (.mv (.c (.str []))))])
 (.seq (.ops [(mV 12 0),
 (mV 13 1),
 (oP 14 (.callF 114 [(.t 12), (.t 13)])),
 (mV 7 14)])
 (.seq (.ops [(oP 8 (.mv (.c (.str []))))])
 (.seq (.ops [(oP 9 (.mv (.c (.str []))))])
 (.seq (.ops [(mV 15 2),
 (mV 16 7),
 (oP 17 (.lenS (.t 16))),
 (oP 18 (.bin .add (.t 15) (.t 17))),
 (mV 19 0),
 (oP 20 (.lenL (.t 19))),
 (oP 21 (.bin .mul (.c (.int .i64 2)) (.t 20))),
 (oP 22 (.bin .add (.t 18) (.t 21))),
 (mV 2 22)])
 (.seq (.seq (.ops [(oP 10 (.mv (.c (.int .i64 0))))])
 (.block 0
 (.loop
 (.seq (.seq (.ops [(mV 23 10),
 (mV 24 0),
 (oP 25 (.lenL (.t 24))),
 (oP 26 (.bin .lss (.t 23) (.t 25)))])
 (.cond (.t 26)
 .skip
 (.exit 0)))
 (.seq (.block 1
 (.seq (.ops [(mV 29 0),
 (mV 30 1),
 (mV 31 10),
 (oP 32 (.callF 150 [(.t 29), (.t 30), (.t 31)])),
 (mV 11 32)])
 (.seq (.ops [(mV 33 8),
 (mV 34 2),
 (mV 35 9),
 (oP 36 (.lenS (.t 35))),
 (oP 37 (.bin .add (.t 34) (.t 36))),
 (oP 38 (.callF 64 [(.t 37), (.c (.int .i64 2))])),
 (oP 39 (.bin .add (.t 33) (.t 38))),
 (mV 8 39)])
 (.draw [((mV 40 9), 0),
 ((mV 41 11), 0),
 ((oP 42 (.lenS (.t 41))), 0),
 ((oP 43 (.callF 64 [(.t 42), (.c (.int .i64 1))])), 0),
 ((oP 44 (.bin .add (.t 40) (.t 43))), 0),
 ((mV 45 11), 0),
 ((oP 46 (.bin .add (.t 44) (.t 45))), 0),
 ((mV 47 0), 0),
 ((mV 48 10), 0),
 ((oP 49 (.indexAddrL 22 (.t 47) (.t 48))), 0),
 ((oP 50 (.load true 22 (.t 49))), 1),
 ((mV 51 1), 0),
 ((oP 52 (.callF 143 [(.t 50), (.t 51)])), 0),
 ((oP 53 (.bin .add (.t 46) (.t 52))), 0),
 ((mV 9 53), 0)]))))
 (.ops [(mV 27 10),
 (oP 28 (.bin .add (.t 27) (.c (.int .i64 1)))),
 (mV 10 28)]))))))
 (.cut (.seq (.ops [(mV 54 7),
 (mV 55 8),
 (oP 56 (.bin .add (.t 54) (.t 55))),
 (mV 57 9),
 (oP 58 (.bin .add (.t 56) (.t 57))),
 (mV 6 58)])
 .ret))))))))
theorem F115 : FI 115 3 59 6 [.tmp 6] c115 := ⟨⟨Tryz.f115, Tryz.func115, by kernel_rfl, by kernel_rfl, by kernel_rfl⟩, by kernel_rfl, by decide, by kernel_rfl⟩
/- f116 understory/understoryref04.reversed: 26 temporaries, depth 5, 1 parameters, results [t2] -/
def c116 : RC :=
 (.seq (.ops [(oP 2 (.mv (.c (.str []))))])
 (.seq (.ops [(mV 5 0),
 (oP 6 (.lenS (.t 5))),
 (oP 7 (.mkSl 5 1 [(.int .u8 0)] (.t 6) (.t 6))),
 (mV 3 7)])
 (.seq (.seq (.ops [(oP 4 (.mv (.c (.int .i64 0))))])
 (.block 0
 (.loop
 (.seq (.seq (.ops [(mV 8 4),
 (mV 9 0),
 (oP 10 (.lenS (.t 9))),
 (oP 11 (.bin .lss (.t 8) (.t 10)))])
 (.cond (.t 11)
 .skip
 (.exit 0)))
 (.seq (.block 1
 (.ops [(mV 14 3),
 (mV 15 0),
 (oP 16 (.lenS (.t 15))),
 (oP 17 (.bin .sub (.t 16) (.c (.int .i64 1)))),
 (mV 18 4),
 (oP 19 (.bin .sub (.t 17) (.t 18))),
 (mV 20 0),
 (mV 21 4),
 (oP 22 (.indexS (.t 20) (.t 21))),
 (oP 23 (.indexAddrL 1 (.t 14) (.t 19))),
 (oU (.store 1 (.t 23) (.t 22)))]))
 (.ops [(mV 12 4),
 (oP 13 (.bin .add (.t 12) (.c (.int .i64 1)))),
 (mV 4 13)]))))))
 (.cut (.seq (.ops [(mV 24 3),
 (oP 25 (.bytesStr (.t 24))),
 (mV 2 25)])
 .ret)))))
theorem F116 : FI 116 1 26 5 [.tmp 2] c116 := ⟨⟨Tryz.f116, Tryz.func116, by kernel_rfl, by kernel_rfl, by kernel_rfl⟩, by kernel_rfl, by decide, by kernel_rfl⟩
/- f117 understory/understoryref02.CRC: 5 temporaries, depth 3, 1 parameters, results [t2] -/
def c117 : RC :=
 (.seq (.ops [(oP 2 (.mv (.c (.int .u32 0))))])
 (.seq (.ops [(mV 3 0),
 (oP 4 (.callF 151 [(.c (.int .u32 0)), (.t 3)])),
 (mV 2 4)])
 .ret))
theorem F117 : FI 117 1 5 3 [.tmp 2] c117 := ⟨⟨Tryz.f117, Tryz.func117, by kernel_rfl, by kernel_rfl, by kernel_rfl⟩, by kernel_rfl, by decide, by kernel_rfl⟩
/- f120 (*understory/understoryref04.reader).num: 9 temporaries, depth 4, 2 parameters, results [t4] -/
def c120 : RC :=
 (.seq (.ops [(oP 4 (.mv (.c (.int .i64 0))))])
 (.seq (.ops [(mV 5 0),
 (mV 6 1),
 (oP 7 (.callF 121 [(.t 5), (.t 6)])),
 (oP 8 (.callF 79 [(.t 7)])),
 (mV 4 8)])
 .ret))
theorem F120 : FI 120 2 9 4 [.tmp 4] c120 := ⟨⟨Tryz.f120, Tryz.func120, by kernel_rfl, by kernel_rfl, by kernel_rfl⟩, by kernel_rfl, by decide, by kernel_rfl⟩
/- f121 (*understory/understoryref04.reader).take: 42 temporaries, depth 6, 2 parameters, results [t4] -/
def c121 : RC :=
 (.seq (.ops [(oP 4 (.mv (.c (.str []))))])
 (.seq (.seq (.ops [(mV 6 1),
 (oP 7 (.bin .lss (.t 6) (.c (.int .i64 0)))),
 (mV 8 7),
 (oG 9 8 false (.mv (.t 1))),
 (oG 10 8 false (.mv (.t 0))),
 (oG 11 8 false (.nilCheck (.t 10))),
 (oG 12 8 false (.fieldAddr 0 (.t 11))),
 (oG 13 8 false (.load false 1 (.t 12))),
 (oG 14 8 false (.lenS (.t 13))),
 (oG 15 8 false (.bin .gtr (.t 9) (.t 14))),
 (oP 16 (.pick (.t 8) (.c (.bool true)) (.t 15))),
 (mV 17 16),
 (oG 18 17 false (.mv (.t 0))),
 (oG 19 17 false (.nilCheck (.t 18))),
 (oG 20 17 false (.fieldAddr 1 (.t 19))),
 (oG 21 17 false (.load false 1 (.t 20))),
 (oP 22 (.pick (.t 17) (.c (.bool true)) (.t 21)))])
 (.cond (.t 22)
 (.seq (.ops [(mV 23 0),
 (oP 24 (.nilCheck (.t 23))),
 (oP 25 (.fieldAddr 1 (.t 24))),
 (oU (.store 1 (.t 25) (.c (.bool true))))])
 (.seq (.ops [(oP 4 (.mv (.c (.str []))))])
 .ret))
 .skip))
 (.seq (.ops [(mV 26 0),
 (oP 27 (.nilCheck (.t 26))),
 (oP 28 (.fieldAddr 0 (.t 27))),
 (oP 29 (.load false 1 (.t 28))),
 (mV 30 1),
 (oP 31 (.sliceS (.t 29) none (some (.t 30)))),
 (mV 5 31)])
 (.seq (.ops [(mV 32 0),
 (mV 33 0),
 (oP 34 (.nilCheck (.t 33))),
 (oP 35 (.fieldAddr 0 (.t 34))),
 (oP 36 (.load false 1 (.t 35))),
 (mV 37 1),
 (oP 38 (.sliceS (.t 36) (some (.t 37)) none)),
 (oP 39 (.nilCheck (.t 32))),
 (oP 40 (.fieldAddr 0 (.t 39))),
 (oU (.store 1 (.t 40) (.t 38)))])
 (.seq (.ops [(mV 41 5),
 (mV 4 41)])
 .ret)))))
theorem F121 : FI 121 2 42 6 [.tmp 4] c121 := ⟨⟨Tryz.f121, Tryz.func121, by kernel_rfl, by kernel_rfl, by kernel_rfl⟩, by kernel_rfl, by decide, by kernel_rfl⟩
/- f122 (*understory/understoryref04.reader).entry: 69 temporaries, depth 7, 4 parameters, results [*t8] -/
def c122 : RC :=
 (.seq (.ops [(oP 8 (.alloc 56 [(.str []), (.str []), (.int .i64 0), (.int .i64 0), (.int .i64 0), (.int .i64 0), (.int .u8 0), (.int .u8 0), (.int .u8 0), (.int .u8 0), (.int .u8 0), (.int .u8 0), (.int .u8 0), (.int .u8 0), (.int .u8 0), (.int .u8 0), (.int .u8 0), (.int .u8 0), (.int .u8 0), (.int .u8 0), (.int .u8 0), (.int .u8 0)]))])
 (.seq (.ops [(oP 9 (.alloc 56 [(.str []), (.str []), (.int .i64 0), (.int .i64 0), (.int .i64 0), (.int .i64 0), (.int .u8 0), (.int .u8 0), (.int .u8 0), (.int .u8 0), (.int .u8 0), (.int .u8 0), (.int .u8 0), (.int .u8 0), (.int .u8 0), (.int .u8 0), (.int .u8 0), (.int .u8 0), (.int .u8 0), (.int .u8 0), (.int .u8 0), (.int .u8 0)]))])
 (.seq (.ops [(mV 11 0),
 (mV 12 0),
 (oP 13 (.callF 120 [(.t 12), (.c (.int .i64 1))])),
 (oP 14 (.callF 121 [(.t 11), (.t 13)])),
 (oP 15 (.fieldAddr 0 (.t 9))),
 (oU (.store 1 (.t 15) (.t 14)))])
 (.seq (.seq (.ops [(mV 16 2),
 (oP 17 (.bin .eql (.t 16) (.c (.int .i64 0)))),
 (mV 18 17),
 (oG 19 18 false (.mv (.t 3))),
 (oG 20 18 false (.un .not (.t 19))),
 (oP 21 (.pick (.t 18) (.c (.bool true)) (.t 20)))])
 (.cond (.t 21)
 (.ops [(mV 22 1),
 (oP 23 (.fieldAddr 0 (.t 9))),
 (oP 24 (.load false 1 (.t 23))),
 (oP 25 (.bin .add (.t 22) (.t 24))),
 (oP 26 (.fieldAddr 0 (.t 9))),
 (oU (.store 1 (.t 26) (.t 25)))])
 .skip))
 (.seq (.seq (.ops [(mV 27 2),
 (oP 28 (.bin .gtr (.t 27) (.c (.int .i64 0))))])
 (.cond (.t 28)
 (.seq (.ops [(mV 29 0),
 (oP 30 (.callF 120 [(.t 29), (.c (.int .i64 4))])),
 (oP 31 (.fieldAddr 4 (.t 9))),
 (oU (.store 1 (.t 31) (.t 30)))])
 (.seq (.ops [(mV 32 0),
 (oP 33 (.callF 120 [(.t 32), (.c (.int .i64 4))])),
 (oP 34 (.fieldAddr 5 (.t 9))),
 (oU (.store 1 (.t 34) (.t 33)))])
 (.seq (.ops [(mV 35 0),
 (oP 36 (.callF 153 [(.t 35)])),
 (oP 37 (.fieldAddr 6 (.t 9))),
 (oU (.store 16 (.t 37) (.t 36)))])
 (.seq (.ops [(oP 38 (.load true 22 (.t 9))),
 (oU (.store 22 (.t 8) (.t 38)))])
 .ret))))
 .skip))
 (.seq (.ops [(mV 39 0),
 (oP 40 (.callF 120 [(.t 39), (.c (.int .i64 2))])),
 (mV 10 40)])
 (.seq (.seq (.ops [(mV 41 10)])
 (.block 0
 (.seq (.ops [(oP 47 (.bin .eql (.t 41) (.c (.int .i64 65534)))),
 (mV 46 47)])
 (.cond (.t 46)
 (.seq (.ops [(mV 48 0),
 (oP 49 (.callF 120 [(.t 48), (.c (.int .i64 4))])),
 (oP 50 (.fieldAddr 4 (.t 9))),
 (oU (.store 1 (.t 50) (.t 49)))])
 (.seq (.ops [(mV 51 0),
 (oP 52 (.callF 120 [(.t 51), (.c (.int .i64 4))])),
 (oP 53 (.fieldAddr 5 (.t 9))),
 (oU (.store 1 (.t 53) (.t 52)))])
 (.ops [(mV 54 0),
 (oP 55 (.callF 153 [(.t 54)])),
 (oP 56 (.fieldAddr 6 (.t 9))),
 (oU (.store 16 (.t 56) (.t 55)))])))
 (.seq (.ops [(oP 58 (.bin .eql (.t 41) (.c (.int .i64 65535)))),
 (mV 57 58)])
 (.cond (.t 57)
 (.seq (.ops [(mV 59 0),
 (oP 60 (.callF 120 [(.t 59), (.c (.int .i64 4))])),
 (oP 61 (.fieldAddr 2 (.t 9))),
 (oU (.store 1 (.t 61) (.t 60)))])
 (.seq (.ops [(mV 62 0),
 (oP 63 (.callF 120 [(.t 62), (.c (.int .i64 2))])),
 (oP 64 (.fieldAddr 3 (.t 9))),
 (oU (.store 1 (.t 64) (.t 63)))])
 (.ops [(mV 65 0),
 (oP 66 (.callF 153 [(.t 65)])),
 (oP 67 (.fieldAddr 6 (.t 9))),
 (oU (.store 16 (.t 67) (.t 66)))])))
 (.ops [(mV 42 0),
 (mV 43 10),
 (oP 44 (.callF 121 [(.t 42), (.t 43)])),
 (oP 45 (.fieldAddr 1 (.t 9))),
 (oU (.store 1 (.t 45) (.t 44)))])))))))
 (.seq (.ops [(oP 68 (.load true 22 (.t 9))),
 (oU (.store 22 (.t 8) (.t 68)))])
 .ret))))))))
theorem F122 : FI 122 4 69 7 [.cell 8 56] c122 := ⟨⟨Tryz.f122, Tryz.func122, by kernel_rfl, by kernel_rfl, by kernel_rfl⟩, by kernel_rfl, by decide, by kernel_rfl⟩
/- f141 understory/understoryref04.leafEntry: 85 temporaries, depth 7, 1 parameters, results [t2] -/
def c141 : RC :=
 (.seq (.ops [(oP 1 (.box 56 (.t 0))),
 (oP 2 (.mv (.c (.bool false))))])
 (.seq (.seq (.ops [(oP 3 (.fieldAddr 0 (.t 1))),
 (oP 4 (.load false 1 (.t 3))),
 (oP 5 (.lenS (.t 4))),
 (oP 6 (.bin .lss (.t 5) (.c (.int .i64 1)))),
 (mV 7 6),
 (oG 8 7 false (.fieldAddr 0 (.t 1))),
 (oG 9 7 false (.load false 1 (.t 8))),
 (oG 10 7 false (.lenS (.t 9))),
 (oG 11 7 false (.bin .gtr (.t 10) (.c (.int .i64 48)))),
 (oP 12 (.pick (.t 7) (.c (.bool true)) (.t 11)))])
 (.cond (.t 12)
 (.seq (.ops [(oP 2 (.mv (.c (.bool false))))])
 .ret)
 .skip))
 (.seq (.seq (.ops [(oP 13 (.fieldAddr 4 (.t 1))),
 (oP 14 (.load false 1 (.t 13))),
 (oP 15 (.bin .neq (.t 14) (.c (.int .i64 0))))])
 (.cond (.t 15)
 (.seq (.ops [(oP 16 (.fieldAddr 4 (.t 1))),
 (oP 17 (.load false 1 (.t 16))),
 (oP 18 (.callF 50 [(.t 17)])),
 (mV 19 18),
 (oG 20 19 true (.fieldAddr 5 (.t 1))),
 (oG 21 19 true (.load false 1 (.t 20))),
 (oG 22 19 true (.callF 165 [(.t 21)])),
 (oP 23 (.pick (.t 19) (.t 22) (.c (.bool false)))),
 (mV 24 23),
 (oG 25 24 true (.fieldAddr 1 (.t 1))),
 (oG 26 24 true (.load false 1 (.t 25))),
 (oG 27 24 true (.bin .eql (.t 26) (.c (.str [])))),
 (oP 28 (.pick (.t 24) (.t 27) (.c (.bool false)))),
 (mV 29 28),
 (oG 30 29 true (.fieldAddr 2 (.t 1))),
 (oG 31 29 true (.load false 1 (.t 30))),
 (oG 32 29 true (.bin .eql (.t 31) (.c (.int .i64 0)))),
 (oP 33 (.pick (.t 29) (.t 32) (.c (.bool false)))),
 (mV 34 33),
 (oG 35 34 true (.fieldAddr 3 (.t 1))),
 (oG 36 34 true (.load false 1 (.t 35))),
 (oG 37 34 true (.bin .eql (.t 36) (.c (.int .i64 0)))),
 (oP 38 (.pick (.t 34) (.t 37) (.c (.bool false)))),
 (mV 2 38)])
 .ret)
 .skip))
 (.seq (.seq (.ops [(oP 39 (.fieldAddr 2 (.t 1))),
 (oP 40 (.load false 1 (.t 39))),
 (oP 41 (.bin .neq (.t 40) (.c (.int .i64 0))))])
 (.cond (.t 41)
 (.seq (.ops [(oP 42 (.fieldAddr 2 (.t 1))),
 (oP 43 (.load false 1 (.t 42))),
 (oP 44 (.callF 50 [(.t 43)])),
 (mV 45 44),
 (oG 46 45 true (.fieldAddr 3 (.t 1))),
 (oG 47 45 true (.load false 1 (.t 46))),
 (oG 48 45 true (.bin .gtr (.t 47) (.c (.int .i64 64)))),
 (oP 49 (.pick (.t 45) (.t 48) (.c (.bool false)))),
 (mV 50 49),
 (oG 51 50 true (.fieldAddr 3 (.t 1))),
 (oG 52 50 true (.load false 1 (.t 51))),
 (oG 53 50 true (.bin .leq (.t 52) (.c (.int .i64 4000)))),
 (oP 54 (.pick (.t 50) (.t 53) (.c (.bool false)))),
 (mV 55 54),
 (oG 56 55 true (.fieldAddr 1 (.t 1))),
 (oG 57 55 true (.load false 1 (.t 56))),
 (oG 58 55 true (.bin .eql (.t 57) (.c (.str [])))),
 (oP 59 (.pick (.t 55) (.t 58) (.c (.bool false)))),
 (mV 60 59),
 (oG 61 60 true (.fieldAddr 5 (.t 1))),
 (oG 62 60 true (.load false 1 (.t 61))),
 (oG 63 60 true (.bin .eql (.t 62) (.c (.int .i64 0)))),
 (oP 64 (.pick (.t 60) (.t 63) (.c (.bool false)))),
 (mV 2 64)])
 .ret)
 .skip))
 (.seq (.ops [(oP 65 (.fieldAddr 1 (.t 1))),
 (oP 66 (.load false 1 (.t 65))),
 (oP 67 (.lenS (.t 66))),
 (oP 68 (.bin .leq (.t 67) (.c (.int .i64 64)))),
 (mV 69 68),
 (oG 70 69 true (.fieldAddr 3 (.t 1))),
 (oG 71 69 true (.load false 1 (.t 70))),
 (oG 72 69 true (.bin .eql (.t 71) (.c (.int .i64 0)))),
 (oP 73 (.pick (.t 69) (.t 72) (.c (.bool false)))),
 (mV 74 73),
 (oG 75 74 true (.fieldAddr 5 (.t 1))),
 (oG 76 74 true (.load false 1 (.t 75))),
 (oG 77 74 true (.bin .eql (.t 76) (.c (.int .i64 0)))),
 (oP 78 (.pick (.t 74) (.t 77) (.c (.bool false)))),
 (mV 79 78),
 (oG 80 79 true (.fieldAddr 6 (.t 1))),
 (oG 81 79 true (.load true 16 (.t 80))),
 (oG 82 79 true (.build [(.int .u8 0), (.int .u8 0), (.int .u8 0), (.int .u8 0), (.int .u8 0), (.int .u8 0), (.int .u8 0), (.int .u8 0), (.int .u8 0), (.int .u8 0), (.int .u8 0), (.int .u8 0), (.int .u8 0), (.int .u8 0), (.int .u8 0), (.int .u8 0)] [])),
 (oG 83 79 true (.cmp false 54 (.t 81) (.t 82))),
 (oP 84 (.pick (.t 79) (.t 83) (.c (.bool false)))),
 (mV 2 84)])
 .ret)))))
theorem F141 : FI 141 1 85 7 [.tmp 2] c141 := ⟨⟨Tryz.f141, Tryz.func141, by kernel_rfl, by kernel_rfl, by kernel_rfl⟩, by kernel_rfl, by decide, by kernel_rfl⟩
/- f142 understory/understoryref04.branchEntry: 26 temporaries, depth 5, 1 parameters, results [t2] -/
def c142 : RC :=
 (.seq (.ops [(oP 1 (.box 56 (.t 0))),
 (oP 2 (.mv (.c (.bool false))))])
 (.seq (.ops [(oP 3 (.fieldAddr 4 (.t 1))),
 (oP 4 (.load false 1 (.t 3))),
 (oP 5 (.callF 50 [(.t 4)])),
 (mV 6 5),
 (oG 7 6 true (.fieldAddr 5 (.t 1))),
 (oG 8 6 true (.load false 1 (.t 7))),
 (oG 9 6 true (.callF 165 [(.t 8)])),
 (oP 10 (.pick (.t 6) (.t 9) (.c (.bool false)))),
 (mV 11 10),
 (oG 12 11 true (.fieldAddr 1 (.t 1))),
 (oG 13 11 true (.load false 1 (.t 12))),
 (oG 14 11 true (.bin .eql (.t 13) (.c (.str [])))),
 (oP 15 (.pick (.t 11) (.t 14) (.c (.bool false)))),
 (mV 16 15),
 (oG 17 16 true (.fieldAddr 2 (.t 1))),
 (oG 18 16 true (.load false 1 (.t 17))),
 (oG 19 16 true (.bin .eql (.t 18) (.c (.int .i64 0)))),
 (oP 20 (.pick (.t 16) (.t 19) (.c (.bool false)))),
 (mV 21 20),
 (oG 22 21 true (.fieldAddr 3 (.t 1))),
 (oG 23 21 true (.load false 1 (.t 22))),
 (oG 24 21 true (.bin .eql (.t 23) (.c (.int .i64 0)))),
 (oP 25 (.pick (.t 21) (.t 24) (.c (.bool false)))),
 (mV 2 25)])
 .ret))
theorem F142 : FI 142 1 26 5 [.tmp 2] c142 := ⟨⟨Tryz.f142, Tryz.func142, by kernel_rfl, by kernel_rfl, by kernel_rfl⟩, by kernel_rfl, by decide, by kernel_rfl⟩
/- f143 understory/understoryref04.rest: 57 temporaries, depth 6, 2 parameters, results [t4] -/
def c143 : RC :=
 (.seq (.ops [(oP 2 (.box 56 (.t 0))),
 (oP 4 (.mv (.c (.str []))))])
 (.seq (.seq (.ops [(mV 5 1),
 (oP 6 (.bin .gtr (.t 5) (.c (.int .i64 0))))])
 (.cond (.t 6)
 (.seq (.draw [((oP 7 (.fieldAddr 4 (.t 2))), 0),
 ((oP 8 (.load false 1 (.t 7))), 1),
 ((oP 9 (.callF 64 [(.t 8), (.c (.int .i64 4))])), 0),
 ((oP 10 (.fieldAddr 5 (.t 2))), 0),
 ((oP 11 (.load false 1 (.t 10))), 1),
 ((oP 12 (.callF 64 [(.t 11), (.c (.int .i64 4))])), 0),
 ((oP 13 (.bin .add (.t 9) (.t 12))), 0),
 ((oP 14 (.fieldAddr 6 (.t 2))), 0),
 ((oP 15 (.load true 16 (.t 14))), 1),
 ((oP 16 (.callF 166 [(.t 15)])), 0),
 ((oP 17 (.bin .add (.t 13) (.t 16))), 0),
 ((mV 4 17), 0)])
 .ret)
 .skip))
 (.seq (.seq (.ops [(oP 18 (.fieldAddr 4 (.t 2))),
 (oP 19 (.load false 1 (.t 18))),
 (oP 20 (.bin .neq (.t 19) (.c (.int .i64 0))))])
 (.cond (.t 20)
 (.seq (.draw [((oP 21 (.callF 64 [(.c (.int .i64 65534)), (.c (.int .i64 2))])), 0),
 ((oP 22 (.fieldAddr 4 (.t 2))), 0),
 ((oP 23 (.load false 1 (.t 22))), 1),
 ((oP 24 (.callF 64 [(.t 23), (.c (.int .i64 4))])), 0),
 ((oP 25 (.bin .add (.t 21) (.t 24))), 0),
 ((oP 26 (.fieldAddr 5 (.t 2))), 0),
 ((oP 27 (.load false 1 (.t 26))), 1),
 ((oP 28 (.callF 64 [(.t 27), (.c (.int .i64 4))])), 0),
 ((oP 29 (.bin .add (.t 25) (.t 28))), 0),
 ((oP 30 (.fieldAddr 6 (.t 2))), 0),
 ((oP 31 (.load true 16 (.t 30))), 1),
 ((oP 32 (.callF 166 [(.t 31)])), 0),
 ((oP 33 (.bin .add (.t 29) (.t 32))), 0),
 ((mV 4 33), 0)])
 .ret)
 .skip))
 (.seq (.seq (.ops [(oP 34 (.fieldAddr 2 (.t 2))),
 (oP 35 (.load false 1 (.t 34))),
 (oP 36 (.bin .neq (.t 35) (.c (.int .i64 0))))])
 (.cond (.t 36)
 (.seq (.draw [((oP 37 (.callF 64 [(.c (.int .i64 65535)), (.c (.int .i64 2))])), 0),
 ((oP 38 (.fieldAddr 2 (.t 2))), 0),
 ((oP 39 (.load false 1 (.t 38))), 1),
 ((oP 40 (.callF 64 [(.t 39), (.c (.int .i64 4))])), 0),
 ((oP 41 (.bin .add (.t 37) (.t 40))), 0),
 ((oP 42 (.fieldAddr 3 (.t 2))), 0),
 ((oP 43 (.load false 1 (.t 42))), 1),
 ((oP 44 (.callF 64 [(.t 43), (.c (.int .i64 2))])), 0),
 ((oP 45 (.bin .add (.t 41) (.t 44))), 0),
 ((oP 46 (.fieldAddr 6 (.t 2))), 0),
 ((oP 47 (.load true 16 (.t 46))), 1),
 ((oP 48 (.callF 166 [(.t 47)])), 0),
 ((oP 49 (.bin .add (.t 45) (.t 48))), 0),
 ((mV 4 49), 0)])
 .ret)
 .skip))
 (.seq (.draw [((oP 50 (.fieldAddr 1 (.t 2))), 0),
 ((oP 51 (.load false 1 (.t 50))), 1),
 ((oP 52 (.lenS (.t 51))), 0),
 ((oP 53 (.callF 64 [(.t 52), (.c (.int .i64 2))])), 0),
 ((oP 54 (.fieldAddr 1 (.t 2))), 0),
 ((oP 55 (.load false 1 (.t 54))), 1),
 ((oP 56 (.bin .add (.t 53) (.t 55))), 0),
 ((mV 4 56), 0)])
 .ret)))))
theorem F143 : FI 143 2 57 6 [.tmp 4] c143 := ⟨⟨Tryz.f143, Tryz.func143, by kernel_rfl, by kernel_rfl, by kernel_rfl⟩, by kernel_rfl, by decide, by kernel_rfl⟩
/- f150 understory/understoryref04.suffix: 23 temporaries, depth 5, 3 parameters, results [t6] -/
def c150 : RC :=
 (.seq (.ops [(oP 6 (.mv (.c (.str []))))])
 (.seq (.seq (.ops [(mV 7 1),
 (oP 8 (.bin .gtr (.t 7) (.c (.int .i64 0)))),
 (mV 9 8),
 (oG 10 9 true (.mv (.t 2))),
 (oG 11 9 true (.bin .eql (.t 10) (.c (.int .i64 0)))),
 (oP 12 (.pick (.t 9) (.t 11) (.c (.bool false))))])
 (.cond (.t 12)
 (.seq (.ops [(oP 6 (.mv (.c (.str []))))])
 .ret)
 .skip))
 (.seq (.draw [((mV 13 0), 0),
 ((mV 14 2), 0),
 ((oP 15 (.indexAddrL 22 (.t 13) (.t 14))), 0),
 ((oP 16 (.fieldAddr 0 (.t 15))), 0),
 ((oP 17 (.load false 1 (.t 16))), 1),
 ((mV 18 0), 0),
 ((mV 19 1), 0),
 ((oP 20 (.callF 114 [(.t 18), (.t 19)])), 0),
 ((oP 21 (.lenS (.t 20))), 0),
 ((oP 22 (.sliceS (.t 17) (some (.t 21)) none)), 1),
 ((mV 6 22), 0)])
 .ret)))
theorem F150 : FI 150 3 23 5 [.tmp 6] c150 := ⟨⟨Tryz.f150, Tryz.func150, by kernel_rfl, by kernel_rfl, by kernel_rfl⟩, by kernel_rfl, by decide, by kernel_rfl⟩
/- f151 understory/understoryref02.Extend: 30 temporaries, depth 5, 2 parameters, results [t4] -/
def c151 : RC :=
 (.seq (.ops [(oP 4 (.mv (.c (.int .u32 0))))])
 (.seq (.ops [(mV 8 0),
 (oP 9 (.un .xor (.t 8))),
 (mV 5 9)])
 (.seq (.seq (.ops [(oP 6 (.mv (.c (.int .i64 0))))])
 (.block 0
 (.loop
 (.seq (.seq (.ops [(mV 10 6),
 (mV 11 1),
 (oP 12 (.lenS (.t 11))),
 (oP 13 (.bin .lss (.t 10) (.t 12)))])
 (.cond (.t 13)
 .skip
 (.exit 0)))
 (.seq (.block 1
 (.seq (.ops [(mV 16 5),
 (mV 17 1),
 (mV 18 6),
 (oP 19 (.indexS (.t 17) (.t 18))),
 (oP 20 (.toInt .u32 (.t 19))),
 (oP 21 (.bin .xor (.t 16) (.t 20))),
 (mV 5 21)])
 (.seq (.ops [(oP 7 (.mv (.c (.int .i64 0))))])
 (.block 2
 (.loop
 (.seq (.seq (.ops [(mV 22 7),
 (oP 23 (.bin .lss (.t 22) (.c (.int .i64 8))))])
 (.cond (.t 23)
 .skip
 (.exit 2)))
 (.seq (.block 3
 (.ops [(mV 26 5),
 (oP 27 (.callF 169 [(.t 26)])),
 (mV 5 27)]))
 (.ops [(mV 24 7),
 (oP 25 (.bin .add (.t 24) (.c (.int .i64 1)))),
 (mV 7 25)]))))))))
 (.cut (.ops [(mV 14 6),
 (oP 15 (.bin .add (.t 14) (.c (.int .i64 1)))),
 (mV 6 15)])))))))
 (.cut (.seq (.ops [(mV 28 5),
 (oP 29 (.un .xor (.t 28))),
 (mV 4 29)])
 .ret)))))
theorem F151 : FI 151 2 30 5 [.tmp 4] c151 := ⟨⟨Tryz.f151, Tryz.func151, by kernel_rfl, by kernel_rfl, by kernel_rfl⟩, by kernel_rfl, by decide, by kernel_rfl⟩
/- f153 (*understory/understoryref04.reader).digest: 20 temporaries, depth 5, 1 parameters, results [*t2] -/
def c153 : RC :=
 (.seq (.ops [(oP 2 (.alloc 54 [(.int .u8 0), (.int .u8 0), (.int .u8 0), (.int .u8 0), (.int .u8 0), (.int .u8 0), (.int .u8 0), (.int .u8 0), (.int .u8 0), (.int .u8 0), (.int .u8 0), (.int .u8 0), (.int .u8 0), (.int .u8 0), (.int .u8 0), (.int .u8 0)]))])
 (.seq (.ops [(oP 3 (.alloc 54 [(.int .u8 0), (.int .u8 0), (.int .u8 0), (.int .u8 0), (.int .u8 0), (.int .u8 0), (.int .u8 0), (.int .u8 0), (.int .u8 0), (.int .u8 0), (.int .u8 0), (.int .u8 0), (.int .u8 0), (.int .u8 0), (.int .u8 0), (.int .u8 0)]))])
 (.seq (.ops [(mV 6 0),
 (oP 7 (.callF 121 [(.t 6), (.c (.int .i64 16))])),
 (mV 4 7)])
 (.seq (.seq (.ops [(oP 5 (.mv (.c (.int .i64 0))))])
 (.block 0
 (.loop
 (.seq (.seq (.ops [(mV 8 5),
 (mV 9 4),
 (oP 10 (.lenS (.t 9))),
 (oP 11 (.bin .lss (.t 8) (.t 10)))])
 (.cond (.t 11)
 .skip
 (.exit 0)))
 (.seq (.block 1
 (.ops [(mV 14 5),
 (mV 15 4),
 (mV 16 5),
 (oP 17 (.indexS (.t 15) (.t 16))),
 (oP 18 (.indexAddrA 16 1 (.t 3) (.t 14))),
 (oU (.store 1 (.t 18) (.t 17)))]))
 (.ops [(mV 12 5),
 (oP 13 (.bin .add (.t 12) (.c (.int .i64 1)))),
 (mV 5 13)]))))))
 (.cut (.seq (.ops [(oP 19 (.load true 16 (.t 3))),
 (oU (.store 16 (.t 2) (.t 19)))])
 .ret))))))
theorem F153 : FI 153 1 20 5 [.cell 2 54] c153 := ⟨⟨Tryz.f153, Tryz.func153, by kernel_rfl, by kernel_rfl, by kernel_rfl⟩, by kernel_rfl, by decide, by kernel_rfl⟩
/- f165 understory/understoryref04.count: 9 temporaries, depth 4, 1 parameters, results [t2] -/
def c165 : RC :=
 (.seq (.ops [(oP 2 (.mv (.c (.bool false))))])
 (.seq (.ops [(mV 3 0),
 (oP 4 (.bin .geq (.t 3) (.c (.int .i64 1)))),
 (mV 5 4),
 (oG 6 5 true (.mv (.t 0))),
 (oG 7 5 true (.bin .leq (.t 6) (.c (.int .i64 2147483647)))),
 (oP 8 (.pick (.t 5) (.t 7) (.c (.bool false)))),
 (mV 2 8)])
 .ret))
theorem F165 : FI 165 1 9 4 [.tmp 2] c165 := ⟨⟨Tryz.f165, Tryz.func165, by kernel_rfl, by kernel_rfl, by kernel_rfl⟩, by kernel_rfl, by decide, by kernel_rfl⟩
/- f166 understory/understoryref04.sum: 5 temporaries, depth 3, 1 parameters, results [t2] -/
def c166 : RC :=
 (.seq (.ops [(oP 1 (.box 54 (.t 0))),
 (oP 2 (.mv (.c (.str []))))])
 (.seq (.ops [(oP 3 (.sliceP 16 1 (.t 1) none none none)),
 (oP 4 (.bytesStr (.t 3))),
 (mV 2 4)])
 .ret))
theorem F166 : FI 166 1 5 3 [.tmp 2] c166 := ⟨⟨Tryz.f166, Tryz.func166, by kernel_rfl, by kernel_rfl, by kernel_rfl⟩, by kernel_rfl, by decide, by kernel_rfl⟩
/- f169 understory/understoryref02.step: 11 temporaries, depth 4, 1 parameters, results [t2] -/
def c169 : RC :=
 (.seq (.ops [(oP 2 (.mv (.c (.int .u32 0))))])
 (.seq (.seq (.ops [(mV 3 0),
 (oP 4 (.bin .rem (.t 3) (.c (.int .u32 2)))),
 (oP 5 (.bin .eql (.t 4) (.c (.int .u32 1))))])
 (.cond (.t 5)
 (.seq (.ops [(mV 6 0),
 (oP 7 (.bin .shr (.t 6) (.c (.int .u64 1)))),
 (oP 8 (.bin .xor (.t 7) (.c (.int .u32 3988292384)))),
 (mV 2 8)])
 .ret)
 .skip))
 (.seq (.ops [(mV 9 0),
 (oP 10 (.bin .shr (.t 9) (.c (.int .u64 1)))),
 (mV 2 10)])
 .ret)))
theorem F169 : FI 169 1 11 4 [.tmp 2] c169 := ⟨⟨Tryz.f169, Tryz.func169, by kernel_rfl, by kernel_rfl, by kernel_rfl⟩, by kernel_rfl, by decide, by kernel_rfl⟩
end Go.Proofs
/- Contracts: the reference's entries. -/
set_option linter.unusedVariables false
set_option linter.unusedSimpArgs false
namespace Go.Proofs
open Go Go.Abs
theorem put_mid {a : Nat} {t : Str} {c : UInt8} : putAt ((List.replicate (a + 1) (0 : UInt8) ++ t).map u8) a [u8 c] = (List.replicate a (0 : UInt8) ++ c :: t).map u8 := by
  unfold putAt
  simp only [List.map_append, List.map_replicate, List.map_cons, List.length_singleton]
  rw [List.take_append_of_le_length (by simp), List.take_replicate, List.drop_append_of_le_length (by simp), List.drop_replicate, Nat.min_eq_left (by omega), Nat.sub_self]
  simp
section
variable {n : Nat} {h : AHeap}
theorem isPage_eq (hn : 1 ≤ n) (k : Int) : C n 50 [i64 k] h = some (.ret (.bool (numbered k)), h) := by
  obtain ⟨m, rfl⟩ : ∃ m, n = m + 1 := ⟨n - 1, by omega⟩
  refine fun_pure F50 rfl rfl rfl rfl ?_
  repeat' (conv => whnf); first
    | refine retP rfl (frz_bool ?_)
    | refine brd (fun _ => ?_) (fun _ => ?_)
    | refine bre (fun _ => ?_) (fun _ => ?_)
    | refine brq (fun _ => ?_) (fun _ => ?_)
    | refine brn (fun _ => ?_) (fun _ => ?_)
    | refine br (fun _ => ?_) (fun _ => ?_)
    | refine ldI (by rfl) ?_
    | refine ldI (get_set_last _ _ _) ?_
    | refine ldI (get_last _ _) ?_
    | refine stI (by rfl) (by rfl) (by rfl) (by rfl) (by rfl) ?_
    | refine stI (get_last _ _) (by rfl) (by rfl) (by rfl) (by rfl) ?_
    | refine cutS (by decide) rfl ?_
  all_goals simp_all [numbered, within]
  all_goals omega
theorem count_eq (hn : 1 ≤ n) (k : Int) : C n 165 [i64 k] h = some (.ret (.bool (within k 1 2147483647)), h) := by
  obtain ⟨m, rfl⟩ : ∃ m, n = m + 1 := ⟨n - 1, by omega⟩
  refine fun_pure F165 rfl rfl rfl rfl ?_
  repeat' (conv => whnf); first
    | refine retP rfl (frz_bool ?_)
    | refine brd (fun _ => ?_) (fun _ => ?_)
    | refine bre (fun _ => ?_) (fun _ => ?_)
    | refine brq (fun _ => ?_) (fun _ => ?_)
    | refine brn (fun _ => ?_) (fun _ => ?_)
    | refine br (fun _ => ?_) (fun _ => ?_)
    | refine ldI (by rfl) ?_
    | refine ldI (get_set_last _ _ _) ?_
    | refine ldI (get_last _ _) ?_
    | refine stI (by rfl) (by rfl) (by rfl) (by rfl) (by rfl) ?_
    | refine stI (get_last _ _) (by rfl) (by rfl) (by rfl) (by rfl) ?_
    | refine cutS (by decide) rfl ?_
  all_goals simp_all [within]
  all_goals omega
end
end Go.Proofs
/- The reference's reader, in plain Lean. -/
set_option linter.unusedVariables false
set_option linter.unusedSimpArgs false
namespace Go.Proofs
open Go Go.Abs
/-- What is yet to be read, and whether there was too little. -/
abbrev RT : Type := Str × Bool
def rtake (k : Nat) (t : RT) : Str × RT := if t.1.length < k ∨ t.2 = true then ([], t.1, true) else (t.1.take k, t.1.drop k, false)
def rnum (w : Nat) (t : RT) : Nat × RT := (unnum (rtake w t).1, (rtake w t).2)
def rsum (t : RT) : Dg × RT := (dgOf (rtake 16 t).1, (rtake 16 t).2)
def rnest (key : Str) (t : RT) : Entry × RT := (⟨key, [], 0, 0, (rnum 4 t).1, (rnum 4 (rnum 4 t).2).1, (rsum (rnum 4 (rnum 4 t).2).2).1⟩, (rsum (rnum 4 (rnum 4 t).2).2).2)
def rlong (key : Str) (t : RT) : Entry × RT := (⟨key, [], (rnum 4 t).1, (rnum 2 (rnum 4 t).2).1, 0, 0, (rsum (rnum 2 (rnum 4 t).2).2).1⟩, (rsum (rnum 2 (rnum 4 t).2).2).2)
def rshort (key : Str) (m : Nat) (t : RT) : Entry × RT := (⟨key, (rtake m t).1, 0, 0, 0, 0, Dg.zero⟩, (rtake m t).2)
def rcont (key : Str) (m : Nat) (t : RT) : Entry × RT := if m = 65534 then rnest key t else if m = 65535 then rlong key t else rshort key m t
def rkey (pre : Str) (lv : Int) (first : Bool) (k : Str) : Str := if lv = 0 ∨ first = false then pre ++ k else k
def rent (pre : Str) (lv : Int) (first : Bool) (t : RT) : Entry × RT :=
  if 0 < lv then rcont (rkey pre lv first (rtake (rnum 1 t).1 (rnum 1 t).2).1) 65534 (rtake (rnum 1 t).1 (rnum 1 t).2).2
  else rcont (rkey pre lv first (rtake (rnum 1 t).1 (rnum 1 t).2).1) (rnum 2 (rtake (rnum 1 t).1 (rnum 1 t).2).2).1 (rnum 2 (rtake (rnum 1 t).1 (rnum 1 t).2).2).2
def rents (pre : Str) (lv : Int) : Nat → Nat → RT → List Entry × RT
  | 0, _, t => ([], t)
  | k + 1, i, t => if t.2 = true then ([], t) else ((rent pre lv (decide (i = 0)) t).1 :: (rents pre lv k (i + 1) (rent pre lv (decide (i = 0)) t).2).1, (rents pre lv k (i + 1) (rent pre lv (decide (i = 0)) t).2).2)
def rpages : Nat → RT → List Nat × RT
  | 0, t => ([], t)
  | k + 1, t => if t.2 = true then ([], t) else ((rnum 4 t).1 :: (rpages k (rnum 4 t).2).1, (rpages k (rnum 4 t).2).2)
def rfreed (t : RT) : (Nat × List Nat) × RT := (((rnum 6 t).1, (rpages (rnum 2 (rnum 6 t).2).1 (rnum 2 (rnum 6 t).2).2).1), (rpages (rnum 2 (rnum 6 t).2).1 (rnum 2 (rnum 6 t).2).2).2)
def rfreeds : Nat → RT → List (Nat × List Nat) × RT
  | 0, t => ([], t)
  | k + 1, t => if t.2 = true then ([], t) else ((rfreed t).1 :: (rfreeds k (rfreed t).2).1, (rfreeds k (rfreed t).2).2)
theorem rtake_len (k : Nat) (t : RT) : (rtake k t).1.length ≤ t.1.length ∧ (rtake k t).2.1.length ≤ t.1.length ∧ (rtake k t).1.length ≤ k := by
  unfold rtake
  split
  · simp
  · simp; omega
theorem rnum_len (w : Nat) (t : RT) : (rnum w t).2.1.length ≤ t.1.length := (rtake_len w t).2.1
theorem rnum_lt (w : Nat) (t : RT) : (rnum w t).1 < 256 ^ w := by
  have h := unnum_lt _ (rtake w t).1 rfl
  have h2 := (rtake_len w t).2.2
  exact Nat.lt_of_lt_of_le h (Nat.pow_le_pow_right (by decide) h2)
theorem rsum_len (t : RT) : (rsum t).2.1.length ≤ t.1.length := (rtake_len 16 t).2.1
theorem rcont_len (key : Str) (m : Nat) (t : RT) : (rcont key m t).1.key = key ∧ (rcont key m t).1.val.length ≤ t.1.length ∧ (rcont key m t).2.1.length ≤ t.1.length := by
  unfold rcont
  split
  · refine ⟨rfl, Nat.zero_le _, ?_⟩
    exact Nat.le_trans (rsum_len _) (Nat.le_trans (rnum_len 4 _) (rnum_len 4 _))
  · split
    · refine ⟨rfl, Nat.zero_le _, ?_⟩
      exact Nat.le_trans (rsum_len _) (Nat.le_trans (rnum_len 2 _) (rnum_len 4 _))
    · exact ⟨rfl, (rtake_len m t).1, (rtake_len m t).2.1⟩
theorem rkey_len (pre : Str) (lv : Int) (first : Bool) (k : Str) : (rkey pre lv first k).length ≤ pre.length + k.length := by
  unfold rkey
  split <;> simp
theorem rent_len (pre : Str) (lv : Int) (first : Bool) (t : RT) : (rent pre lv first t).1.key.length ≤ pre.length + t.1.length ∧ (rent pre lv first t).1.val.length ≤ t.1.length ∧ (rent pre lv first t).2.1.length ≤ t.1.length := by
  have h1 := rnum_len 1 t
  have h2 := rtake_len (rnum 1 t).1 (rnum 1 t).2
  have h3 := rkey_len pre lv first (rtake (rnum 1 t).1 (rnum 1 t).2).1
  have h4 := rnum_len 2 (rtake (rnum 1 t).1 (rnum 1 t).2).2
  unfold rent
  split
  · have := rcont_len (rkey pre lv first (rtake (rnum 1 t).1 (rnum 1 t).2).1) 65534 (rtake (rnum 1 t).1 (rnum 1 t).2).2
    exact ⟨by rw [this.1]; omega, by omega, by omega⟩
  · have := rcont_len (rkey pre lv first (rtake (rnum 1 t).1 (rnum 1 t).2).1) (rnum 2 (rtake (rnum 1 t).1 (rnum 1 t).2).2).1 (rnum 2 (rtake (rnum 1 t).1 (rnum 1 t).2).2).2
    exact ⟨by rw [this.1]; omega, by omega, by omega⟩
theorem rents_len {pre : Str} {lv : Int} {M : Nat} : ∀ (k i : Nat) (t : RT), t.1.length ≤ M → (rents pre lv k i t).1.length ≤ k ∧ ∀ e ∈ (rents pre lv k i t).1, e.key.length ≤ pre.length + M ∧ e.val.length ≤ M
  | 0, i, t, h => ⟨Nat.le_refl _, fun e he => by cases he⟩
  | k + 1, i, t, h => by
    unfold rents
    split
    · exact ⟨Nat.zero_le _, fun e he => by cases he⟩
    · have h1 := rent_len pre lv (decide (i = 0)) t
      have h2 := rents_len (pre := pre) (lv := lv) k (i + 1) (rent pre lv (decide (i = 0)) t).2 (Nat.le_trans h1.2.2 h)
      refine ⟨by simp only [List.length_cons]; omega, fun e he => ?_⟩
      rcases List.mem_cons.1 he with rfl | he
      · exact ⟨by omega, by omega⟩
      · exact h2.2 e he
theorem rpages_len : ∀ (k : Nat) (t : RT), (rpages k t).1.length ≤ k
  | 0, t => Nat.le_refl _
  | k + 1, t => by
    unfold rpages
    split
    · exact Nat.zero_le _
    · have := rpages_len k (rnum 4 t).2
      simp only [List.length_cons]; omega
theorem rfreeds_len : ∀ (k : Nat) (t : RT), (rfreeds k t).1.length ≤ k ∧ ∀ x ∈ (rfreeds k t).1, x.2.length < 65536
  | 0, t => ⟨Nat.le_refl _, fun x hx => by cases hx⟩
  | k + 1, t => by
    unfold rfreeds
    split
    · exact ⟨Nat.zero_le _, fun x hx => by cases hx⟩
    · have h1 := rfreeds_len k (rfreed t).2
      refine ⟨by simp only [List.length_cons]; omega, fun x hx => ?_⟩
      rcases List.mem_cons.1 hx with rfl | hx
      · have h2 := rpages_len (rnum 2 (rnum 6 t).2).1 (rnum 2 (rnum 6 t).2).2
        have h3 := rnum_lt 2 (rnum 6 t).2
        show (rpages (rnum 2 (rnum 6 t).2).1 (rnum 2 (rnum 6 t).2).2).1.length < 65536
        omega
      · exact h1.2 x hx
/-! Where the parser reads, the reference reads the same. -/
theorem rtake_of {k : Nat} {s a t : Str} (h : ptext k s = some (a, t)) : rtake k (s, false) = (a, t, false) := by
  unfold ptext at h
  split at h
  · rename_i hk
    cases h
    unfold rtake
    rw [if_neg (by simp; omega)]
  · cases h
theorem rnum_of {w k : Nat} {s t : Str} (h : pnum w s = some (k, t)) : rnum w (s, false) = (k, t, false) := by
  unfold pnum at h
  split at h
  · rename_i hk
    cases h
    unfold rnum rtake
    rw [if_neg (by simp; omega)]
  · cases h
theorem rsum_of {d : Dg} {s t : Str} (h : psum s = some (d, t)) : rsum (s, false) = (d, t, false) := by
  unfold psum at h
  split at h
  · rename_i hk
    cases h
    unfold rsum rtake
    rw [if_neg (by simp; omega)]
  · cases h
theorem rcont_of {key : Str} {m : Nat} {s t : Str} {e : Entry} (h : pcont2 key m s = some (e, t)) : rcont key m (s, false) = (e, t, false) := by
  unfold pcont2 at h
  unfold rcont
  split at h
  · rename_i hm
    subst hm
    rw [if_neg (by decide), if_pos rfl]
    obtain ⟨⟨a, s1⟩, h1, h⟩ := bind_some' h
    obtain ⟨⟨b, s2⟩, h2, h⟩ := bind_some' h
    obtain ⟨⟨d, s3⟩, h3, h⟩ := map_some' h
    cases h
    unfold rlong
    rw [rnum_of h1, rnum_of h2, rsum_of h3]
  · split at h
    · rename_i hm
      subst hm
      rw [if_pos rfl]
      obtain ⟨⟨a, s1⟩, h1, h⟩ := bind_some' h
      obtain ⟨⟨b, s2⟩, h2, h⟩ := bind_some' h
      obtain ⟨⟨d, s3⟩, h3, h⟩ := map_some' h
      cases h
      unfold rnest
      rw [rnum_of h1, rnum_of h2, rsum_of h3]
    · rename_i h1 h2
      rw [if_neg h2, if_neg h1]
      obtain ⟨⟨a, s1⟩, h1, h⟩ := map_some' h
      cases h
      unfold rshort
      rw [rtake_of h1]
theorem rkey_of (pre : Str) (lv : Int) (i : Nat) (k : Str) : rkey pre lv (decide (i = 0)) k = preK pre lv i ++ k := by
  unfold rkey preK
  by_cases h : 0 < i ∨ lv = 0
  · rw [if_pos h, if_pos]
    rcases h with h | h
    · right; simp; omega
    · left; exact h
  · rw [if_neg h, if_neg]
    · rfl
    · simp; omega
theorem rent_of {pre : Str} {lv : Int} (h0 : 0 ≤ lv) {i : Nat} {s t : Str} {e : Entry} (h : pent pre lv i s = some (e, t)) : rent pre lv (decide (i = 0)) (s, false) = (e, t, false) := by
  unfold pent at h
  obtain ⟨⟨a, s1⟩, h1, h⟩ := bind_some' h
  obtain ⟨⟨b, s2⟩, h2, h⟩ := bind_some' h
  simp only at h2 h
  unfold rent
  rw [rnum_of h1]
  simp only
  rw [rtake_of h2]
  simp only
  rw [rkey_of]
  unfold pcont at h
  by_cases hl : lv = 0
  · rw [if_pos hl] at h
    rw [if_neg (by omega)]
    obtain ⟨⟨c, s3⟩, h3, h⟩ := bind_some' h
    rw [rnum_of h3]
    exact rcont_of h
  · rw [if_neg hl] at h
    rw [if_pos (by omega)]
    exact rcont_of h
theorem rents_of {pre : Str} {lv : Int} (h0 : 0 ≤ lv) : ∀ {k i : Nat} {s t : Str} {es : List Entry}, pents pre lv k i s = some (es, t) → rents pre lv k i (s, false) = (es, t, false)
  | 0, i, s, t, es, h => by
    simp only [pents] at h
    cases h
    rfl
  | k + 1, i, s, t, es, h => by
    simp only [pents] at h
    obtain ⟨⟨a, s1⟩, h1, h⟩ := bind_some' h
    obtain ⟨⟨b, s2⟩, h2, h⟩ := map_some' h
    cases h
    unfold rents
    rw [if_neg (by simp), rent_of h0 h1]
    simp only
    rw [rents_of h0 h2]
theorem rpages_of : ∀ {k : Nat} {s t : Str} {ps : List Nat}, ppages k s = some (ps, t) → rpages k (s, false) = (ps, t, false)
  | 0, s, t, ps, h => by
    simp only [ppages] at h
    cases h
    rfl
  | k + 1, s, t, ps, h => by
    simp only [ppages] at h
    obtain ⟨⟨a, s1⟩, h1, h⟩ := bind_some' h
    obtain ⟨⟨b, s2⟩, h2, h⟩ := map_some' h
    cases h
    unfold rpages
    rw [if_neg (by simp), rnum_of h1]
    simp only
    rw [rpages_of h2]
theorem rfreeds_of : ∀ {k : Nat} {s t : Str} {l : List (Nat × List Nat)}, pfreeds k s = some (l, t) → rfreeds k (s, false) = (l, t, false)
  | 0, s, t, l, h => by
    simp only [pfreeds] at h
    cases h
    rfl
  | k + 1, s, t, l, h => by
    simp only [pfreeds] at h
    obtain ⟨⟨v, s1⟩, h1, h⟩ := bind_some' h
    obtain ⟨⟨m, s2⟩, h2, h⟩ := bind_some' h
    obtain ⟨⟨ps, s3⟩, h3, h⟩ := bind_some' h
    obtain ⟨⟨b, s4⟩, h4, h⟩ := map_some' h
    cases h
    have e : rfreed (s, false) = ((v, ps), s3, false) := by
      unfold rfreed
      rw [rnum_of h1]
      simp only
      rw [rnum_of h2]
      simp only
      rw [rpages_of h3]
    unfold rfreeds
    rw [if_neg (by simp), e]
    simp only
    rw [rfreeds_of h4]
end Go.Proofs
/- Plain facts for the reference: what it encodes, what is no block of a page. -/
set_option linter.unusedVariables false
set_option linter.unusedSimpArgs false
namespace Go.Proofs
open Go Go.Abs
theorem decode_no {n : Nat} (hn : 10 ≤ n) {s : Str} (hno : ∀ p : Page, p.Ok → p.check = true → p.enc ≠ s) (h : AHeap) : C n 14 [.str s] h = some (.ret (.tup [.agg zeroP, i64 8]), h) := by
  cases hs : headOk s with
  | false => exact decode_bad (by omega) s hs
  | true =>
    obtain ⟨r, e1, e2⟩ := decode_eq hn hs
    rw [e1]
    unfold DecS at e2
    cases hp : pread s with
    | none => rw [hp] at e2; simp only at e2; rw [e2]
    | some x =>
      rw [hp] at e2
      obtain ⟨q, hq, ok, e3⟩ := e2
      rw [if_neg (fun c => hno q ok c.1 c.2)] at e3
      rw [e3]
theorem crcB_num (s : Str) : crcB s = (num (crc s).toNat 4).reverse := rfl
theorem cp_self : ∀ x : Str, cp x x = x.length
  | [] => rfl
  | a :: x => by simp [cp, cp_self x]
theorem pre2_self (x : Str) : pre2 x x = x := by
  unfold pre2
  rw [cp_self, List.take_length]
theorem shared_fold (l : List Entry) (lv : Int) : (tailE l lv).foldl (fun p e => pre2 p e.key) ((tailE l lv).headD default).key = shared l lv := by
  unfold shared
  generalize tailE l lv = t
  cases t with
  | nil => rfl
  | cons a r => simp only [List.foldl_cons, pre2_self, List.drop_succ_cons, List.drop_zero, List.headD_cons]
theorem form_range (e : Entry) : formOf e = 0 ∨ formOf e = 1 ∨ formOf e = 2 ∨ formOf e = 3 := by
  unfold formOf
  repeat' split
  all_goals simp
def branchE (e : Entry) : Bool := numbered e.child && within e.count 1 2147483647 && e.val == [] && e.over == 0 && e.len == 0
theorem branch_split (e : Entry) : branches e = (decide (e.key.length ≤ 48) && branchE e) := by
  unfold branches branchE
  cases decide (e.key.length ≤ 48) <;> cases numbered e.child <;> cases within e.count 1 2147483647 <;> cases (e.val == []) <;> cases (e.over == 0) <;> cases (e.len == 0) <;> rfl
def wordsN (l : List Freed) : Int := (l.map fun f => 2 + (f.pages.length : Int)).sum
theorem words_le (l : List Freed) : wordsN l ≤ listed l - 6 ∧ 0 ≤ wordsN l := by
  unfold wordsN listed
  induction l with
  | nil => simp
  | cons f r ih => simp only [List.map_cons, List.sum_cons] at ih ⊢; omega
theorem words_take (l : List Freed) {j : Nat} (hj : j < l.length) : wordsN (l.take (j + 1)) = wordsN (l.take j) + (2 + (l[j].pages.length : Int)) := by
  unfold wordsN
  rw [List.take_succ_eq_append_getElem hj, List.map_append, List.sum_append]
  simp
end Go.Proofs
/- The checksum finds bytes that are changed within four positions. -/
set_option linter.unusedVariables false
set_option linter.unusedSimpArgs false
namespace Go.Proofs
open Go Go.Abs
abbrev gb (c : UInt32) (i : Nat) : Bool := c.toBitVec.getLsbD i
theorem u32_ext {a b : UInt32} (h : ∀ i, i < 32 → gb a i = gb b i) : a = b := UInt32.toBitVec_inj.1 (BitVec.eq_of_getLsbD_eq h)
theorem low_bit (c : UInt32) : (c &&& 1 = 1) ↔ gb c 0 = true := by
  constructor
  · intro h
    have := congrArg (fun x : UInt32 => gb x 0) h
    simpa [gb] using this
  · intro h
    apply u32_ext
    intro i hi
    simp only [gb, UInt32.toBitVec_and, BitVec.getLsbD_and]
    by_cases h0 : i = 0
    · subst h0; simp [h]
    · have e1 : (1 : UInt32).toBitVec = 1#32 := rfl
      simp [e1, BitVec.getLsbD_one, h0]
theorem bit_get (c : UInt32) (i : Nat) (hi : i < 32) : gb (bit c) i = ((gb c (i + 1)) ^^ (gb c 0 && gb 3988292384 i)) := by
  unfold bit
  have e2 : (c >>> 1).toBitVec = c.toBitVec >>> 1 := by rfl
  by_cases h : c &&& 1 = 1
  · rw [if_pos h]
    have h0 := (low_bit c).1 h
    simp only [gb, UInt32.toBitVec_xor, BitVec.getLsbD_xor, e2, BitVec.getLsbD_ushiftRight] at h0 ⊢
    rw [h0, Nat.add_comm]
    simp
  · rw [if_neg h]
    have h0 : gb c 0 = false := by
      cases hq : gb c 0 with
      | true => exact (h ((low_bit c).2 hq)).elim
      | false => rfl
    simp only [gb, e2, BitVec.getLsbD_ushiftRight] at h0 ⊢
    rw [h0, Nat.add_comm]
    simp
theorem bit_xor (a b : UInt32) : bit (a ^^^ b) = bit a ^^^ bit b := by
  apply u32_ext
  intro i hi
  have e : gb (bit a ^^^ bit b) i = (gb (bit a) i ^^ gb (bit b) i) := by simp [gb]
  rw [e, bit_get _ _ hi, bit_get _ _ hi, bit_get _ _ hi]
  have e1 : ∀ j, gb (a ^^^ b) j = (gb a j ^^ gb b j) := fun j => by simp [gb]
  rw [e1, e1]
  cases gb a (i + 1) <;> cases gb b (i + 1) <;> cases gb a 0 <;> cases gb b 0 <;> cases gb 3988292384 i <;> rfl
theorem bit_inj {a b : UInt32} (h : bit a = bit b) : a = b := by
  have hg : ∀ i, i < 32 → ((gb a (i + 1)) ^^ (gb a 0 && gb 3988292384 i)) = ((gb b (i + 1)) ^^ (gb b 0 && gb 3988292384 i)) := fun i hi => by
    rw [← bit_get a i hi, ← bit_get b i hi, h]
  have top : ∀ c : UInt32, gb c 32 = false := fun c => BitVec.getLsbD_of_ge _ _ (Nat.le_refl _)
  have h0 : gb a 0 = gb b 0 := by
    have := hg 31 (by decide)
    rw [top, top, show gb 3988292384 31 = true by decide] at this
    simpa using this
  apply u32_ext
  intro i hi
  cases i with
  | zero => exact h0
  | succ i =>
    have := hg i (by omega)
    rw [h0] at this
    cases ha : gb a (i + 1) <;> cases hb : gb b (i + 1) <;> rw [ha, hb] at this <;> first | rfl | (cases h1 : (gb b 0 && gb 3988292384 i) <;> rw [h1] at this <;> cases this)
theorem bits_xor : ∀ (k : Nat) (a b : UInt32), bits k (a ^^^ b) = bits k a ^^^ bits k b
  | 0, a, b => rfl
  | k + 1, a, b => by show bits k (bit (a ^^^ b)) = bits k (bit a) ^^^ bits k (bit b); rw [bit_xor, bits_xor k]
theorem bits_inj : ∀ (k : Nat) {a b : UInt32}, bits k a = bits k b → a = b
  | 0, a, b, h => h
  | k + 1, a, b, h => bit_inj (bits_inj k (a := bit a) (b := bit b) h)
theorem bit_even {c : UInt32} {w : Nat} (h : c.toNat = 2 * w) : (bit c).toNat = w := by
  have h1 : (c &&& 1).toNat = c.toNat % 2 := by
    rw [UInt32.toNat_and]; exact Nat.and_one_is_mod _
  unfold bit
  rw [if_neg (by intro q; have := congrArg UInt32.toNat q; rw [h1] at this; simp at this; omega)]
  rw [UInt32.toNat_shiftRight]
  show c.toNat >>> 1 = w
  rw [Nat.shiftRight_eq_div_pow]; omega
theorem bits_even : ∀ (k : Nat) {c : UInt32} {w : Nat}, c.toNat = 2 ^ k * w → (bits k c).toNat = w
  | 0, c, w, h => by simpa [bits] using h
  | k + 1, c, w, h => bits_even k (c := bit c) (bit_even (by rw [h, Nat.pow_succ]; rw [Nat.mul_comm (2 ^ k) 2, Nat.mul_assoc]))
/-- A step over a zero byte. -/
theorem zero_step (c : UInt32) : tab c.toUInt8 ^^^ (c >>> 8) = bits 8 c := by
  have hc : c = c.toUInt8.toUInt32 ^^^ ((c >>> 8) <<< 8) := by
    apply u32_ext
    intro i hi
    have e1 : ((c >>> 8) <<< 8).toBitVec = (c.toBitVec >>> 8) <<< 8 := rfl
    have e2 : c.toUInt8.toUInt32.toBitVec = (c.toBitVec.setWidth 8).setWidth 32 := rfl
    simp only [gb, UInt32.toBitVec_xor, BitVec.getLsbD_xor, e1, e2, BitVec.getLsbD_shiftLeft, BitVec.getLsbD_ushiftRight, BitVec.getLsbD_setWidth]
    by_cases h8 : i < 8
    · simp [h8, hi]
    · have : 8 + (i - 8) = i := by omega
      simp [h8, hi, this]
  have h1 : (bits 8 ((c >>> 8) <<< 8)).toNat = (c >>> 8).toNat := by
    refine bits_even 8 ?_
    rw [UInt32.toNat_shiftLeft, UInt32.toNat_shiftRight]
    show (c.toNat >>> 8) <<< 8 % 2 ^ 32 = 2 ^ 8 * (c.toNat >>> 8)
    have := c.toNat_lt
    rw [Nat.shiftRight_eq_div_pow, Nat.shiftLeft_eq]
    omega
  have h2 : bits 8 ((c >>> 8) <<< 8) = c >>> 8 := UInt32.toNat_inj.1 h1
  conv => rhs; rw [hc, bits_xor, h2]
  rfl
theorem byte_step (c : UInt32) (b : UInt8) : tab (c.toUInt8 ^^^ b) ^^^ (c >>> 8) = bits 8 (c ^^^ b.toUInt32) := by
  rw [← zero_step]
  have e1 : (c ^^^ b.toUInt32).toUInt8 = c.toUInt8 ^^^ b := by
    apply UInt8.toBitVec_inj.1
    apply BitVec.eq_of_getLsbD_eq
    intro i hi
    have e3 : (c ^^^ b.toUInt32).toUInt8.toBitVec = (c.toBitVec ^^^ b.toBitVec.setWidth 32).setWidth 8 := rfl
    have e4 : (c.toUInt8 ^^^ b).toBitVec = c.toBitVec.setWidth 8 ^^^ b.toBitVec := rfl
    rw [e3, e4]
    simp [hi]
  have e2 : (c ^^^ b.toUInt32) >>> 8 = c >>> 8 := by
    apply u32_ext
    intro i hi
    have e5 : ((c ^^^ b.toUInt32) >>> 8).toBitVec = (c.toBitVec ^^^ b.toBitVec.setWidth 32) >>> 8 := rfl
    have e6 : (c >>> 8).toBitVec = c.toBitVec >>> 8 := rfl
    simp only [gb, e5, e6, BitVec.getLsbD_ushiftRight, BitVec.getLsbD_xor, BitVec.getLsbD_setWidth]
    rw [BitVec.getLsbD_of_ge b.toBitVec (8 + i) (by omega)]
    simp
  rw [e1, e2]
theorem ext_cons (b : UInt8) (r : Str) (c : UInt32) : ext (b :: r) c = ext r (bits 8 (c ^^^ b.toUInt32)) := by
  unfold ext
  rw [List.foldl_cons, byte_step]
theorem ext_app (a b : Str) (c : UInt32) : ext (a ++ b) c = ext b (ext a c) := by unfold ext; rw [List.foldl_append]
theorem ext_inj : ∀ (s : Str) {c d : UInt32}, ext s c = ext s d → c = d
  | [], c, d, h => h
  | b :: r, c, d, h => by
    rw [ext_cons, ext_cons] at h
    have := bits_inj 8 (ext_inj r h)
    have h2 := congrArg (· ^^^ b.toUInt32) this
    simpa [UInt32.xor_assoc] using h2

/-- Bytes as a number, the least significant one first. -/
def le : Str → UInt32
  | [] => 0
  | b :: r => b.toUInt32 ^^^ (le r <<< 8)
theorem le_nat (b : UInt8) (r : Str) (h : (le r).toNat < 16777216) : (le (b :: r)).toNat = (le r).toNat * 256 + b.toNat ∧ (le r <<< 8).toNat = 2 ^ 8 * (le r).toNat := by
  have hb := b.toNat_lt
  have e1 : (le r <<< 8).toNat = (le r).toNat * 256 := by
    rw [UInt32.toNat_shiftLeft]
    show (le r).toNat <<< 8 % 2 ^ 32 = _
    rw [Nat.shiftLeft_eq]
    omega
  refine ⟨?_, by rw [e1]; omega⟩
  show (b.toUInt32 ^^^ (le r <<< 8)).toNat = _
  rw [UInt32.toNat_xor, e1, UInt8.toNat_toUInt32]
  have h5 := Nat.shiftLeft_add_eq_or_of_lt (show b.toNat < 2 ^ 8 by omega) (le r).toNat
  rw [Nat.shiftLeft_eq] at h5
  show b.toNat ^^^ (le r).toNat * 2 ^ 8 = (le r).toNat * 2 ^ 8 + b.toNat
  rw [h5]
  apply Nat.eq_of_testBit_eq
  intro i
  simp only [Nat.testBit_xor, Nat.testBit_or]
  by_cases h8 : i < 8
  · have : ((le r).toNat * 2 ^ 8).testBit i = false := by rw [Nat.testBit_mul_two_pow]; simp; omega
    rw [this]; simp
  · have : b.toNat.testBit i = false := Nat.testBit_lt_two_pow (Nat.lt_of_lt_of_le (show b.toNat < 2 ^ 8 by omega) (Nat.pow_le_pow_right (by decide) (by omega)))
    rw [this]; simp
theorem le_lt : ∀ (r : Str), r.length ≤ 4 → (le r).toNat < 256 ^ r.length
  | [], _ => by simp [le]
  | b :: r, h => by
    have ih := le_lt r (by simp at h; omega)
    simp only [List.length_cons] at h ⊢
    have hb := b.toNat_lt
    have h3 : 256 ^ r.length ≤ 256 ^ 3 := Nat.pow_le_pow_right (by decide) (by omega)
    have h4 : (256 : Nat) ^ 3 = 16777216 := by decide
    rw [(le_nat b r (by omega)).1, Nat.pow_succ]
    omega
theorem le_small {r : Str} (h : r.length ≤ 3) : (le r).toNat < 16777216 := by
  have := le_lt r (by omega)
  have h3 : 256 ^ r.length ≤ 256 ^ 3 := Nat.pow_le_pow_right (by decide) h
  have h4 : (256 : Nat) ^ 3 = 16777216 := by decide
  omega
theorem le_inj : ∀ {a b : Str}, a.length = b.length → a.length ≤ 4 → le a = le b → a = b
  | [], [], _, _, _ => rfl
  | [], _ :: _, h, _, _ => by simp at h
  | _ :: _, [], h, _, _ => by simp at h
  | x :: a, y :: b, h, h4, he => by
    simp only [List.length_cons] at h h4
    have h1 := (le_nat x a (le_small (by omega))).1
    have h2 := (le_nat y b (le_small (by omega))).1
    rw [he] at h1
    have hx := x.toNat_lt
    have hy := y.toNat_lt
    have e1 : x = y := UInt8.toNat_inj.1 (by omega)
    have e2 : le a = le b := UInt32.toNat_inj.1 (by omega)
    rw [e1, le_inj (by omega) (by omega) e2]
theorem bits_add : ∀ (b a : Nat) (x : UInt32), bits a (bits b x) = bits (b + a) x
  | 0, a, x => by simp [bits]
  | b + 1, a, x => by
    show bits a (bits b (bit x)) = bits (b + 1 + a) x
    rw [bits_add b a, show b + 1 + a = (b + a) + 1 by omega]; rfl
theorem ext_le : ∀ (w : Str) (c : UInt32), w.length ≤ 4 → ext w c = bits (8 * w.length) (c ^^^ le w)
  | [], c, _ => by simp [ext, bits, le]
  | b :: r, c, h => by
    simp only [List.length_cons] at h
    have h2 := (le_nat b r (le_small (by omega))).2
    have h3 : bits 8 (le r <<< 8) = le r := UInt32.toNat_inj.1 (bits_even 8 h2)
    rw [ext_cons, ext_le r _ (by omega)]
    conv => lhs; rw [← h3, ← bits_xor, bits_add]
    rw [List.length_cons, show 8 + 8 * r.length = 8 * (r.length + 1) by omega]
    congr 1
    show c ^^^ b.toUInt32 ^^^ (le r <<< 8) = c ^^^ (b.toUInt32 ^^^ (le r <<< 8))
    rw [UInt32.xor_assoc]
theorem le_crcB (t : Str) : le (crcB t) = crc t := by
  have hc := (crc t).toNat_lt
  apply UInt32.toNat_inj.1
  unfold crcB
  rw [(le_nat _ _ (le_small (by simp))).1, (le_nat _ _ (le_small (by simp))).1, (le_nat _ _ (le_small (by simp))).1, (le_nat _ _ (le_small (by simp))).1]
  simp only [UInt8.toNat_ofNat', le]
  simp only [Nat.pow_zero, Nat.div_one, Nat.pow_succ, Nat.one_mul]
  show (((0 * 256 + _) * 256 + _) * 256 + _) * 256 + _ = _
  omega
theorem residue (t : Str) : ext (t ++ crcB t) (~~~0) = bits 32 (~~~0) := by
  rw [ext_app, ext_le _ _ (by simp [crcB]), le_crcB]
  have : ext t (~~~0) ^^^ crc t = ~~~0 := by
    unfold crc
    rw [show ~~~(ext t (~~~0)) = ext t (~~~0) ^^^ (-1) by rw [UInt32.xor_neg_one], ← UInt32.xor_assoc, UInt32.xor_self, UInt32.zero_xor]
    rfl
  rw [this]; rfl
/-- A block that ends with its checksum. -/
def Sealed (s : Str) : Prop := s.take 508 ++ crcB (s.take 508) = s
theorem sealed_eq {s b : Str} (hs : Sealed s) (hb : Sealed b) (hl : s.length = b.length) (k : Nat) (h : ∀ i (h1 : i < s.length) (h2 : i < b.length), i < k ∨ k + 4 ≤ i → s[i] = b[i]) : s = b := by
  have e0 : ext s (~~~0) = ext b (~~~0) := by rw [← hs, ← hb, residue, residue]
  have t1 : s.take k = b.take k := by
    apply List.ext_getElem
    · simp [hl]
    · intro i h1 h2
      simp only [List.length_take] at h1 h2
      rw [List.getElem_take, List.getElem_take]
      exact h i (by omega) (by omega) (.inl (by omega))
  have t2 : s.drop (k + 4) = b.drop (k + 4) := by
    apply List.ext_getElem
    · simp [hl]
    · intro i h1 h2
      simp only [List.length_drop] at h1 h2
      rw [List.getElem_drop, List.getElem_drop]
      exact h _ (by omega) (by omega) (.inr (by omega))
  have ds : s = s.take k ++ ((s.drop k).take 4 ++ s.drop (k + 4)) := by
    conv => lhs; rw [← List.take_append_drop k s, ← List.take_append_drop 4 (s.drop k), List.drop_drop]
  have db : b = s.take k ++ ((b.drop k).take 4 ++ s.drop (k + 4)) := by
    conv => lhs; rw [← List.take_append_drop k b, ← List.take_append_drop 4 (b.drop k), List.drop_drop, ← t1, ← t2]
  have e1 : ext ((s.drop k).take 4) (ext (s.take k) (~~~0)) = ext ((b.drop k).take 4) (ext (s.take k) (~~~0)) := by
    have := e0
    rw [ds, db, ext_app, ext_app, ext_app, ext_app] at this
    have t3 : (s.take k ++ ((s.drop k).take 4 ++ s.drop (k + 4))) = s := ds.symm
    exact ext_inj _ this
  have l1 : ((s.drop k).take 4).length = ((b.drop k).take 4).length := by simp [hl]
  have l2 : ((s.drop k).take 4).length ≤ 4 := by rw [List.length_take]; omega
  rw [ext_le ((s.drop k).take 4) _ l2, ext_le ((b.drop k).take 4) _ (by omega), ← l1] at e1
  have e2 := bits_inj _ e1
  have e3 := congrArg (fun x => ext (s.take k) (~~~0) ^^^ x) e2
  simp only [← UInt32.xor_assoc, UInt32.xor_self, UInt32.zero_xor] at e3
  have e4 := le_inj l1 l2 e3
  rw [ds, e4]
  exact db.symm
end Go.Proofs
/- Contracts: the reference's numbers, checksum, entries. -/
set_option linter.unusedVariables false
set_option linter.unusedSimpArgs false
namespace Go.Proofs
open Go Go.Abs
theorem mod_u32 (c : UInt32) : ((c.toNat : Int)).tmod ((2 : UInt32).toNat : Int) = ((c &&& 1).toNat : Int) := by
  have h1 : (c &&& 1).toNat = c.toNat % 2 := by
    rw [UInt32.toNat_and]; exact Nat.and_one_is_mod _
  rw [h1]
  rfl
theorem wrap_u8u32 (b : UInt8) : IntKind.u32.wrap ((b.toNat : Nat) : Int) = ((b.toUInt32).toNat : Int) := by
  have h := b.toNat_lt
  rw [UInt8.toNat_toUInt32]
  show (if (IntKind.u32.signed && decide ((b.toNat : Int) % (2 ^ 32 : Int) ≥ (2 ^ (32 - 1) : Int))) = true then (b.toNat : Int) % (2 ^ 32 : Int) - 2 ^ 32 else (b.toNat : Int) % (2 ^ 32 : Int)) = _
  rw [if_neg (by simp [IntKind.signed])]
  omega
section
variable {n : Nat} {h : AHeap}
theorem step_eq (hn : 1 ≤ n) (c : UInt32) : C n 169 [u32 c] h = some (.ret (u32 (bit c)), h) := by
  obtain ⟨m, rfl⟩ : ∃ m, n = m + 1 := ⟨n - 1, by omega⟩
  refine fun_pure F169 rfl rfl rfl rfl ?_
  conv => whnf
  refine remI (by decide) (mod_u32 c) ?_
  have e1 := @u32_eq (c &&& 1) 1
  conv => whnf
  refine br (fun a => ?_) (fun a => ?_)
  · have a' : c &&& 1 = 1 := by simpa [e1] using e1.symm.trans a
    conv => whnf
    refine ⟨by decide, _, shr_u32 c 1 (by decide), ?_⟩
    conv => whnf
    refine zI (xor_u32 _ 3988292384) ?_
    conv => whnf
    exact retP rfl (frz_int (by simp [bit, a']))
  · have a' : ¬ c &&& 1 = 1 := by simpa [e1] using e1.symm.trans a
    conv => whnf
    refine ⟨by decide, _, shr_u32 c 1 (by decide), ?_⟩
    conv => whnf
    exact retP rfl (frz_int (by simp [bit, a']))
theorem rext_eq (hn : 2 ≤ n) (s : Str) (hs : s.length < 1099511627776) (c : UInt32) : C n 151 [u32 c, .str s] h = some (.ret (u32 (~~~(ext s (~~~c)))), h) := by
  obtain ⟨m, rfl⟩ : ∃ m, n = m + 1 := ⟨n - 1, by omega⟩
  refine fun_pure F151 rfl rfl rfl rfl ?_
  conv => whnf
  refine zI (not_u32 c) ?_
  conv => whnf
  refine loopI (by decide) rfl (α := Nat × UInt32) (fun x => ⟨[(1, .str s), (5, u32 x.2), (6, i64 x.1)], [], []⟩) (fun x => x.1 ≤ s.length ∧ x.2 = ext (s.take x.1) (~~~c)) (fun x => s.length - x.1) (0, ~~~c) ⟨⟨rfl, rfl, rfl⟩, rfl, rfl⟩ (by simp [ext]) (by show s.length - 0 < KK; simp only [KK]; omega) ?_
  rintro ⟨x, d⟩ ⟨hx, hc⟩
  simp only at hx hc
  conv => whnf
  refine brd (fun a => ?_) (fun a => ?_)
  · simp only at a
    have hx' : x < s.length := by omega
    have hst : bits 8 (d ^^^ s[x].toUInt32) = ext (s.take (x + 1)) (~~~c) := by
      subst hc
      rw [List.take_succ_eq_append_getElem hx', ext_app, ext_cons]
      rfl
    conv => whnf
    refine strI (b := s[x]) (by omega) (by rw [Int.toNat_natCast]; exact List.getElem?_eq_getElem hx') ?_
    conv => whnf
    refine zI (wrap_u8u32 s[x]) ?_
    conv => whnf
    refine zI (xor_u32 d s[x].toUInt32) ?_
    conv => whnf
    refine loopI (by decide) rfl (α := Nat) (fun k => ⟨[(1, .str s), (5, u32 (bits k (d ^^^ s[x].toUInt32))), (6, i64 x), (7, i64 k)], [], []⟩) (fun k => k ≤ 8) (fun k => 8 - k) 0 ⟨⟨rfl, rfl, rfl, rfl⟩, rfl, rfl⟩ (by omega) (by decide) ?_
    intro k hk
    conv => whnf
    refine brd (fun b => ?_) (fun b => ?_)
    · conv => whnf
      refine clI (step_eq (by omega) _) ?_
      conv => whnf
      refine zI (z := ((k + 1 : Nat) : Int)) (by rw [wrap_i64 (by omega) (by omega)]; rfl) ?_
      exact nxI (k + 1) (by omega) (by omega) ⟨⟨rfl, by rw [bits_succ]; rfl, rfl, rfl⟩, rfl, rfl⟩
    · have : k = 8 := by omega
      subst this
      rw [hst]
      conv => whnf
      refine cutI (by decide) rfl (t := ⟨[(1, .str s), (5, u32 (ext (s.take (x + 1)) (~~~c))), (6, i64 x)], [], []⟩) ⟨⟨rfl, rfl, rfl⟩, rfl, rfl⟩ ?_
      conv => whnf
      refine zI (z := ((x + 1 : Nat) : Int)) (by rw [wrap_i64 (by omega) (by omega)]; rfl) ?_
      exact nxI (x + 1, ext (s.take (x + 1)) (~~~c)) ⟨hx', rfl⟩ (by simp only; omega) ⟨⟨rfl, rfl, rfl⟩, rfl, rfl⟩
  · simp only at a
    have : x = s.length := by omega
    subst this
    rw [List.take_length] at hc
    subst hc
    conv => whnf
    refine cutI (by decide) rfl (t := ⟨[(5, u32 (ext s (~~~c)))], [], []⟩) ⟨rfl, rfl, rfl⟩ ?_
    conv => whnf
    refine zI (not_u32 _) ?_
    conv => whnf
    exact retP rfl (frz_int rfl)
theorem rcrc_eq (hn : 3 ≤ n) (s : Str) (hs : s.length < 1099511627776) : C n 117 [.str s] h = some (.ret (u32 (crc s)), h) := by
  obtain ⟨m, rfl⟩ : ∃ m, n = m + 1 := ⟨n - 1, by omega⟩
  refine fun_pure F117 rfl rfl rfl rfl ?_
  conv => whnf
  refine clI (rext_eq (by omega) s hs 0) ?_
  conv => whnf
  exact retP rfl (frz_int rfl)
theorem div_pow {k j : Nat} : ((k / 256 ^ j : Nat) : Int).tdiv 256 = ((k / 256 ^ (j + 1) : Nat) : Int) := by
  rw [Int.tdiv_eq_ediv_of_nonneg (Int.natCast_nonneg _), Nat.pow_succ, ← Nat.div_div_eq_div_mul]
  rfl
theorem byte_mod (x : Nat) : IntKind.u8.wrap ((x % 256 : Nat) : Int) = ((UInt8.ofNat x).toNat : Int) := by
  rw [UInt8.toNat_ofNat']
  show (if (IntKind.u8.signed && decide (((x % 256 : Nat) : Int) % (2 ^ 8 : Int) ≥ (2 ^ (8 - 1) : Int))) = true then ((x % 256 : Nat) : Int) % (2 ^ 8 : Int) - 2 ^ 8 else ((x % 256 : Nat) : Int) % (2 ^ 8 : Int)) = _
  rw [if_neg (by simp [IntKind.signed])]
  omega
theorem refNumber_eq (hn : 1 ≤ n) (k w : Nat) (hw : w ≤ 8) (hk : k < 9223372036854775808) : C n 64 [i64 k, i64 w] h = some (.ret (.str (num k w)), h) := by
  obtain ⟨m, rfl⟩ : ∃ m, n = m + 1 := ⟨n - 1, by omega⟩
  refine fun_pure F64 rfl rfl rfl rfl ?_
  conv => whnf
  refine ⟨by omega, by omega, by omega, ?_⟩
  conv => whnf
  refine zI (z := (w : Int) - 1) (wrap_i64 (by omega) (by omega)) ?_
  conv => whnf
  have hrep : ∀ w, rep w [AV.int .u8 0] = (List.replicate w (0 : UInt8)).map u8 := fun w => by
    induction w with
    | zero => rfl
    | succ w ih => rw [List.replicate_succ, List.map_cons, ← ih]; rfl
  refine loopI (by decide) rfl (α := Nat) (fun j => ⟨[(0, i64 ((k / 256 ^ j : Nat))), (5, .sl 1 0 0 0 w), (6, i64 ((w : Int) - 1 - j))], [.cells 0 (some 5) ((List.replicate (w - j) (0 : UInt8) ++ num k j).map u8) 0], []⟩) (fun j => j ≤ w) (fun j => w - j) 0 ?_ (Nat.zero_le _) (by show w - 0 < KK; simp only [KK]; omega) ?_
  · refine ⟨⟨by rw [Nat.pow_zero, Nat.div_one]; rfl, rfl, by rw [show (w : Int) - 1 - ((0 : Nat) : Int) = (w : Int) - 1 by omega]; rfl⟩, ?_, rfl⟩
    show [] ++ [AB.cells 0 (some 5) (rep ((w : Int)).toNat [AV.int IntKind.u8 0]) 0] = _
    rw [Int.toNat_natCast, hrep]
    simp [num]
  · intro j hj
    conv => whnf
    refine brd (fun a => ?_) (fun a => ?_)
    · have hjw : j < w := by omega
      conv => whnf
      refine remI (by decide) (z := ((k / 256 ^ j % 256 : Nat) : Int)) rfl ?_
      conv => whnf
      refine zI (z := ((UInt8.ofNat (k / 256 ^ j)).toNat : Int)) (byte_mod _) ?_
      conv => whnf
      refine ⟨by omega, by omega, rfl, ?_⟩
      conv => whnf
      have hi : 0 + ((w : Int) - 1 - j).toNat * 1 = w - j - 1 := by omega
      refine stI (cs := (List.replicate (w - j) (0 : UInt8) ++ num k j).map u8) (xs := [u8 (UInt8.ofNat (k / 256 ^ j))]) (by rfl) (by rfl) (by rfl) (by rw [Nat.ble_eq, hi]; simp [num_len]; omega) (by rfl) ?_
      conv => whnf
      have hput : putAt ((List.replicate (w - j) (0 : UInt8) ++ num k j).map u8) (0 + ((w : Int) - 1 - j).toNat * 1) [u8 (UInt8.ofNat (k / 256 ^ j))] = (List.replicate (w - (j + 1)) (0 : UInt8) ++ num k (j + 1)).map u8 := by
        rw [hi, show w - j = (w - j - 1) + 1 by omega, show w - j - 1 + 1 - 1 = w - j - 1 by omega, put_mid, show w - (j + 1) = w - j - 1 by omega]
        rfl
      have hle : k / 256 ^ (j + 1) ≤ k := Nat.div_le_self _ _
      refine ⟨by decide, ((k / 256 ^ (j + 1) : Nat) : Int), by rw [div_pow]; exact wrap_i64 (Int.le_trans (by decide) (Int.natCast_nonneg _)) (Int.lt_of_le_of_lt (Int.ofNat_le.2 hle) (by omega)), ?_⟩
      conv => whnf
      refine zI (z := (w : Int) - 1 - ((j + 1 : Nat) : Int)) (by rw [wrap_i64 (by omega) (by omega)]; omega) ?_
      exact nxI (j + 1) hjw (by omega) ⟨⟨rfl, rfl, rfl⟩, congrArg (fun x => [AB.cells 0 (some 5) x 0]) hput, rfl⟩
    · have : j = w := by omega
      subst this
      have hf := first_sl (h := [AB.cells 0 (some 5) ((List.replicate (j - j) (0 : UInt8) ++ num k j).map u8) 0]) (bb := 0) (ver := 0) (el := some 5) (s := num k j) (frz := 0) (by rw [Nat.sub_self]; rfl)
      rw [num_len] at hf
      conv => whnf
      refine cutI (by decide) rfl (t := ⟨[(5, .sl 1 0 0 0 j)], [AB.cells 0 (some 5) ((List.replicate (j - j) (0 : UInt8) ++ num k j).map u8) 0], []⟩) ⟨rfl, rfl, rfl⟩ ?_
      conv => whnf
      refine ⟨_, num k j, hf, toBytes_map _, ?_⟩
      conv => whnf
      exact retP rfl (frz_str rfl)
end
end Go.Proofs
/- Contracts: the reference's entries: their validity and bytes. -/
set_option linter.unusedVariables false
set_option linter.unusedSimpArgs false
namespace Go.Proofs
open Go Go.Abs
section
variable {n : Nat} {h : AHeap}
theorem refSum_eq (hn : 1 ≤ n) (d : Dg) : C n 166 [.agg d.cells] h = some (.ret (.str d.bytes), h) := by
  obtain ⟨m, rfl⟩ : ∃ m, n = m + 1 := ⟨n - 1, by omega⟩
  refine fun_pure F166 rfl rfl rfl rfl ?_
  conv => whnf
  refine ⟨_, _, _, rfl, ⟨Nat.le_refl 16, by decide⟩, ?_⟩
  refine slI (v := .sl 1 0 0 0 16) rfl ?_
  conv => whnf
  refine ⟨_, d.bytes, first_sl (el := some 54) (s := d.bytes) (frz := 0) (ver := 0) _ rfl, toBytes_map _, ?_⟩
  conv => whnf
  exact retP rfl (frz_str rfl)
theorem leafEntry_eq (hn : 2 ≤ n) (e : Entry) : C n 141 [e.av] h = some (.ret (.bool (formOf e != 0)), h) := by
  obtain ⟨m, rfl⟩ : ∃ m, n = m + 1 := ⟨n - 1, by omega⟩
  have e1 := eq_dg e.sum Dg.zero
  refine fun_pure F141 rfl rfl rfl rfl ?_
  repeat' (conv => whnf); first
    | refine clI (isPage_eq (by omega) _) ?_
    | refine clI (count_eq (by omega) _) ?_
    | refine eqI e1 ?_
    | refine retP rfl (frz_bool ?_)
    | refine brd (fun _ => ?_) (fun _ => ?_)
    | refine bre (fun _ => ?_) (fun _ => ?_)
    | refine brq (fun _ => ?_) (fun _ => ?_)
    | refine brn (fun _ => ?_) (fun _ => ?_)
    | refine br (fun _ => ?_) (fun _ => ?_)
    | refine ldI (by rfl) ?_
    | refine ldI (get_set_last _ _ _) ?_
    | refine ldI (get_last _ _) ?_
    | refine stI (by rfl) (by rfl) (by rfl) (by rfl) (by rfl) ?_
    | refine stI (get_last _ _) (by rfl) (by rfl) (by rfl) (by rfl) ?_
    | refine cutS (by decide) rfl ?_
  all_goals simp_all [formOf, isShort, isLong, isNest, numbered, within]
  all_goals first
    | omega
    | (by_cases q : e.len = 0 <;> simp_all; done)
    | (by_cases q : e.count = 0 <;> simp_all <;> omega)
    | (by_cases q : e.sum = Dg.zero <;> simp_all <;> omega)
theorem branchEntry_eq (hn : 2 ≤ n) (e : Entry) : C n 142 [e.av] h = some (.ret (.bool (branchE e)), h) := by
  obtain ⟨m, rfl⟩ : ∃ m, n = m + 1 := ⟨n - 1, by omega⟩
  refine fun_pure F142 rfl rfl rfl rfl ?_
  repeat' (conv => whnf); first
    | refine clI (isPage_eq (by omega) _) ?_
    | refine clI (count_eq (by omega) _) ?_
    | refine retP rfl (frz_bool ?_)
    | refine brd (fun _ => ?_) (fun _ => ?_)
    | refine bre (fun _ => ?_) (fun _ => ?_)
    | refine brq (fun _ => ?_) (fun _ => ?_)
    | refine brn (fun _ => ?_) (fun _ => ?_)
    | refine br (fun _ => ?_) (fun _ => ?_)
    | refine ldI (by rfl) ?_
    | refine ldI (get_set_last _ _ _) ?_
    | refine ldI (get_last _ _) ?_
    | refine stI (by rfl) (by rfl) (by rfl) (by rfl) (by rfl) ?_
    | refine stI (get_last _ _) (by rfl) (by rfl) (by rfl) (by rfl) ?_
    | refine cutS (by decide) rfl ?_
  all_goals simp_all [branchE]
theorem rest_eq (hn : 2 ≤ n) (e : Entry) (lv : Int) (h0 : 0 ≤ lv) (hv : if lv = 0 then formOf e ≠ 0 else branches e = true) : C n 143 [e.av, i64 lv] h = some (.ret (.str (restB e lv)), h) := by
  obtain ⟨m, rfl⟩ : ∃ m, n = m + 1 := ⟨n - 1, by omega⟩
  have cN : ∀ (k : Int) (w : Nat) (h : AHeap), 0 ≤ k → k < 9223372036854775808 → w ≤ 8 → C m 64 [i64 k, i64 w] h = some (.ret (.str (num k.toNat w)), h) := fun k w h h1 h2 h3 => by
    have := refNumber_eq (n := m) (h := h) (by omega) k.toNat w h3 (by omega)
    rwa [show ((k.toNat : Nat) : Int) = k by omega] at this
  have cS : ∀ (h : AHeap), C m 166 [.agg e.sum.cells] h = some (.ret (.str e.sum.bytes), h) := fun h => refSum_eq (by omega) e.sum
  have nn : 0 ≤ e.over ∧ 0 ≤ e.len ∧ 0 ≤ e.child ∧ 0 ≤ e.count := by
    split at hv
    · exact (nn_form hv).1
    · exact (nn_branch hv).1
  have big : e.over < 1099511627776 ∧ e.len < 1099511627776 ∧ e.child < 1099511627776 ∧ e.count < 1099511627776 ∧ e.val.length ≤ 64 := by
    split at hv
    · rcases (form_cases hv).2 with ⟨a, b, c, d, _, g⟩ | ⟨a, b, c, d, g⟩ | ⟨a, b, c, d, g⟩
      · omega
      · rw [a]; simp; omega
      · rw [a]; simp; omega
    · obtain ⟨_, a, b, c, d, g⟩ := branch_cases hv
      rw [a]; simp; omega
  refine fun_pure F143 rfl rfl rfl rfl ?_
  conv => whnf
  refine brd (fun a => ?_) (fun a => ?_)
  · conv => whnf
    refine ldI (by rfl) ?_
    conv => whnf
    refine clI (cN e.child 4 _ (by omega) (by omega) (by omega)) ?_
    conv => whnf
    refine ldI (by rfl) ?_
    conv => whnf
    refine clI (cN e.count 4 _ (by omega) (by omega) (by omega)) ?_
    conv => whnf
    refine ⟨by simp only [num_len]; decide, ?_⟩
    conv => whnf
    refine ldI (by rfl) ?_
    conv => whnf
    refine clI (cS _) ?_
    conv => whnf
    refine ⟨by simp only [List.length_append, num_len, Dg.bytes_len]; decide, ?_⟩
    conv => whnf
    refine retP rfl (frz_str ?_)
    unfold restB
    rw [if_pos a, List.append_assoc]
  · have hl : lv = 0 := by omega
    rw [if_pos hl] at hv
    have hf := (form_cases hv).2
    conv => whnf
    refine ldI (by rfl) ?_
    conv => whnf
    refine brq (fun b => ?_) (fun b => ?_)
    · have hov : ¬ 0 < e.over := by omega
      conv => whnf
      refine clI (cN 65534 2 _ (by omega) (by omega) (by omega)) ?_
      conv => whnf
      refine ldI (by rfl) ?_
      conv => whnf
      refine clI (cN e.child 4 _ (by omega) (by omega) (by omega)) ?_
      conv => whnf
      refine ⟨by simp only [num_len]; decide, ?_⟩
      conv => whnf
      refine ldI (by rfl) ?_
      conv => whnf
      refine clI (cN e.count 4 _ (by omega) (by omega) (by omega)) ?_
      conv => whnf
      refine ⟨by simp only [List.length_append, num_len]; decide, ?_⟩
      conv => whnf
      refine ldI (by rfl) ?_
      conv => whnf
      refine clI (cS _) ?_
      conv => whnf
      refine ⟨by simp only [List.length_append, num_len, Dg.bytes_len]; decide, ?_⟩
      conv => whnf
      refine retP rfl (frz_str ?_)
      unfold restB
      rw [if_neg a, if_neg hov, if_pos (by omega)]
      simp only [List.append_assoc]
      rfl
    · conv => whnf
      refine ldI (by rfl) ?_
      conv => whnf
      refine brq (fun d => ?_) (fun d => ?_)
      · conv => whnf
        refine clI (cN 65535 2 _ (by omega) (by omega) (by omega)) ?_
        conv => whnf
        refine ldI (by rfl) ?_
        conv => whnf
        refine clI (cN e.over 4 _ (by omega) (by omega) (by omega)) ?_
        conv => whnf
        refine ⟨by simp only [num_len]; decide, ?_⟩
        conv => whnf
        refine ldI (by rfl) ?_
        conv => whnf
        refine clI (cN e.len 2 _ (by omega) (by omega) (by omega)) ?_
        conv => whnf
        refine ⟨by simp only [List.length_append, num_len]; decide, ?_⟩
        conv => whnf
        refine ldI (by rfl) ?_
        conv => whnf
        refine clI (cS _) ?_
        conv => whnf
        refine ⟨by simp only [List.length_append, num_len, Dg.bytes_len]; decide, ?_⟩
        conv => whnf
        refine retP rfl (frz_str ?_)
        unfold restB
        rw [if_neg a, if_pos (by omega)]
        simp only [List.append_assoc]
        rfl
      · conv => whnf
        refine ldI (by rfl) ?_
        conv => whnf
        refine clI (cN e.val.length 2 _ (by omega) (by omega) (by omega)) ?_
        conv => whnf
        refine ldI (by rfl) ?_
        conv => whnf
        refine ⟨by rw [num_len]; omega, ?_⟩
        conv => whnf
        refine retP rfl (frz_str ?_)
        unfold restB
        rw [if_neg a, if_neg (by omega), if_neg (by omega)]
        rfl
end
end Go.Proofs
/- Orders of keys; equal entries (as in Fd, for the seats without PageSearch). -/
set_option linter.unusedVariables false
set_option linter.unusedSimpArgs false
namespace Go.Proofs
open Go Go.Abs
theorem less_trans : ∀ (x y z : Str), Op.bytesLess x y = true → Op.bytesLess y z = true → Op.bytesLess x z = true
  | x, [], z, h, _ => by cases x <;> simp [Op.bytesLess] at h
  | x, b :: y, [], _, h => by simp [Op.bytesLess] at h
  | [], b :: y, c :: z, _, _ => by simp [Op.bytesLess]
  | a :: x, b :: y, c :: z, h1, h2 => by
    simp only [Op.bytesLess, Bool.or_eq_true, Bool.and_eq_true, decide_eq_true_eq, beq_iff_eq] at h1 h2 ⊢
    rcases h1 with h1 | ⟨rfl, h1⟩
    · rcases h2 with h2 | ⟨rfl, h2⟩
      · exact .inl (UInt8.lt_trans h1 h2)
      · exact .inl h1
    · rcases h2 with h2 | ⟨rfl, h2⟩
      · exact .inl h2
      · exact .inr ⟨rfl, less_trans x y z h1 h2⟩
theorem cmp_neg {x y : Str} : cmpS x y < 0 ↔ Op.bytesLess x y = true := by
  unfold cmpS
  by_cases a : Op.bytesLess x y = true
  · simp [a]
  · by_cases b : Op.bytesLess y x = true
    · simp [a, b]
    · simp [a, b]
theorem cmp_zero {x y : Str} : cmpS x y = 0 ↔ x = y := by
  unfold cmpS
  by_cases a : Op.bytesLess x y = true
  · simp [a]
    rintro rfl
    rw [less_irrefl] at a; cases a
  · by_cases b : Op.bytesLess y x = true
    · simp [a, b]
      rintro rfl
      rw [less_irrefl] at b; cases b
    · simp only [Bool.not_eq_true] at a b
      have := less_total x y a b
      subst this
      simp [a]
theorem sorted_lt {l : List Entry} (h : ∀ j (hj : j < l.length), 0 < j → cmpS (l[j - 1]).key l[j].key < 0) : ∀ (d j : Nat) (hj : j + d + 1 < l.length), Op.bytesLess (l[j]).key (l[j + d + 1]).key = true
  | 0, j, hj => by
    have := h (j + 1) hj (by omega)
    exact cmp_neg.1 this
  | d + 1, j, hj => by
    have h1 := sorted_lt h d j (by omega)
    have h2 := h (j + (d + 1) + 1) hj (by omega)
    exact less_trans _ _ _ h1 (cmp_neg.1 h2)
theorem index_of {l : List Entry} (h : ∀ j (hj : j < l.length), 0 < j → cmpS (l[j - 1]).key l[j].key < 0) (k : Str) : ∀ n, n ≤ l.length → ∃ i, i ≤ n ∧ (∀ j (hj : j < l.length), j < i → cmpS l[j].key k < 0) ∧ ∀ j (hj : j < l.length), i ≤ j → j < n → ¬ cmpS l[j].key k < 0
  | 0, _ => ⟨0, Nat.le_refl _, fun j _ h => absurd h (Nat.not_lt_zero _), fun j _ _ h => absurd h (Nat.not_lt_zero _)⟩
  | n + 1, hn => by
    obtain ⟨i, h1, h2, h3⟩ := index_of h k n (by omega)
    by_cases hl : cmpS (l[n]'(by omega)).key k < 0
    · refine ⟨n + 1, Nat.le_refl _, fun j hj hlt => ?_, fun j _ h1 h2 => absurd h2 (by omega)⟩
      by_cases e : j = n
      · subst e; exact hl
      · have := sorted_lt h (n - j - 1) j (by omega)
        have e2 : j + (n - j - 1) + 1 = n := by omega
        simp only [e2] at this
        exact cmp_neg.2 (less_trans _ _ _ this (cmp_neg.1 hl))
    · refine ⟨i, by omega, h2, fun j hj a b => ?_⟩
      by_cases e : j = n
      · subst e; exact hl
      · exact h3 j hj a (by omega)
theorem eq_ent (e : Entry) : eqA Tryz.prog 20 56 (.agg e.cells) (.agg e.cells) = some true := by
  have e1 : eqA Tryz.prog 20 56 (.agg e.cells) (.agg e.cells) = allEq (eqA Tryz.prog 19) [(9, .str e.key, .str e.key), (9, .str e.val, .str e.val), (3, i64 e.over, i64 e.over), (3, i64 e.len, i64 e.len), (3, i64 e.child, i64 e.child), (3, i64 e.count, i64 e.count), (54, .agg e.sum.cells, .agg e.sum.cells)] := by kernel_rfl
  have e2 : ∀ (s : Str), eqA Tryz.prog 19 9 (.str s) (.str s) = some (s == s) := fun s => by kernel_rfl
  have e3 : ∀ (k : Int), eqA Tryz.prog 19 3 (i64 k) (i64 k) = some (k == k) := fun k => by kernel_rfl
  have e4 : eqA Tryz.prog 19 54 (.agg e.sum.cells) (.agg e.sum.cells) = allEq (eqA Tryz.prog 18) (zipE 5 (e.sum.list.map u8) (e.sum.list.map u8)) := by kernel_rfl
  have e5 : ∀ (x y : UInt8), eqA Tryz.prog 18 5 (.int .u8 x.toNat) (.int .u8 y.toNat) = some (((x.toNat : Nat) : Int) == y.toNat) := fun x y => by kernel_rfl
  have e6 : eqA Tryz.prog 19 54 (.agg e.sum.cells) (.agg e.sum.cells) = some true := by
    rw [e4, allEq_u8 (fun x y => by rw [e5, eq_u8]) e.sum.list e.sum.list rfl]
    simp
  rw [e1]
  simp only [allEq, e2, e3, e6, beq_self_eq_true]
end Go.Proofs
