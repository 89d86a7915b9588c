/- Texts put together: T0, Qa, Yb, Na, Nc, Ra, Wa, Ta, Sa, Sb, Sc, C0, Tb. -/
import Derived.Test.YtfddiediieblhaaGreatBac6
import Derived.Test.YtfddiediieblhaaGreatProg
import Derived.KernelRfl
/- Which functions work in their caller's memory. -/
namespace Go.Proofs
open Go Go.Abs
def inlL : List Nat := [40, 41, 130, 131, 102, 93, 56, 57, 59, 61, 63, 108, 111, 148, 217, 218, 219, 220, 221, 86, 78, 123, 189, 119, 152, 170, 171, 118, 120, 121, 122, 153]
def inl0 : FuncId → Bool := fun f => inlL.contains f || decide (223 ≤ f)
abbrev mV (d a : Nat) : RI := ⟨some d, none, .op (.mv (.t a))⟩
abbrev oP (d : Nat) (x : RO) : RI := ⟨some d, none, .op x⟩
abbrev oG (d g : Nat) (b : Bool) (x : RO) : RI := ⟨some d, some (g, b), .op x⟩
abbrev oU (x : RO) : RI := ⟨none, none, .op x⟩
abbrev FI := FunIs Tryz.prog inl0
abbrev DefI := DefIs Tryz.prog inl0
end Go.Proofs
/- The looked-up text of the functions. -/
namespace Go.Proofs
open Go Go.Abs
/- f139 understory/page.cutPage: 72 temporaries, depth 7, 1 parameters, results [t2, t3] -/
def c139 : RC :=
 (.seq (.ops [(oP 2 (.mv (.c (.lst 0 [] true)))),
 (oP 3 (.mv (.c (.lst 0 [] true))))])
 (.seq (.ops [(oP 4 (.mv (.c (.int .i64 490))))])
 (.seq (.seq (.ops [(mV 8 0),
 (oP 9 (.lenL (.t 8))),
 (oP 10 (.mv (.c (.int .i64 0))))])
 (.block 0
 (.loop
 (.seq (.ops [(oP 11 (.bin .lss (.t 10) (.t 9)))])
 (.seq (.cond (.t 11)
 .skip
 (.exit 0))
 (.seq (.block 1
 (.seq (.ops [(mV 12 10),
 (oP 13 (.indexAddrL 2 (.t 8) (.t 10))),
 (oP 14 (.load true 2 (.t 13))),
 (oP 6 (.alloc 165 [(.int .i64 0), (.lst 0 [] true)])),
 (mV 5 12),
 (oU (.store 2 (.t 6) (.t 14)))])
 (.seq (.ops [(mV 15 4),
 (oP 16 (.bin .sub (.t 15) (.c (.int .i64 8)))),
 (oP 17 (.bin .quo (.t 16) (.c (.int .i64 4)))),
 (oP 18 (.fieldAddr 1 (.t 6))),
 (oP 19 (.load false 1 (.t 18))),
 (oP 20 (.lenL (.t 19))),
 (oP 21 (.mm false (.t 17) (.t 20))),
 (mV 7 21)])
 (.seq (.seq (.ops [(mV 22 4),
 (oP 23 (.bin .lss (.t 22) (.c (.int .i64 12)))),
 (mV 24 23),
 (oG 25 24 false (.mv (.t 7))),
 (oG 26 24 false (.bin .lss (.t 25) (.c (.int .i64 1)))),
 (oP 27 (.pick (.t 24) (.c (.bool true)) (.t 26)))])
 (.cond (.t 27)
 (.seq (.ops [(mV 28 2),
 (mV 29 3),
 (mV 30 0),
 (mV 31 5),
 (oP 32 (.sliceL 2 (.t 30) (some (.t 31)) none none)),
 (oP 33 (.app 165 2 (.t 29) (.t 32))),
 (mV 2 28),
 (mV 3 33)])
 .ret)
 .skip))
 (.seq (.draw [((mV 34 2), 0),
 ((oP 35 (.fieldAddr 0 (.t 6))), 0),
 ((oP 36 (.load false 1 (.t 35))), 1),
 ((oP 37 (.fieldAddr 1 (.t 6))), 0),
 ((oP 38 (.load false 1 (.t 37))), 1),
 ((mV 39 7), 0),
 ((oP 40 (.sliceL 1 (.t 38) none (some (.t 39)) none)), 1),
 ((oP 41 (.callF 102 [(.t 40)])), 2),
 ((oP 42 (.build [(.int .i64 0), (.lst 0 [] true)] [(0, 1, (.t 36)), (1, 1, (.t 41))])), 0),
 ((oP 43 (.mkLst 2 true 1 [(.int .i64 0), (.lst 0 [] true)] [(0, 2, (.t 42))])), 0),
 ((oP 44 (.app 165 2 (.t 34) (.t 43))), 2),
 ((mV 2 44), 0)])
 (.seq (.ops [(mV 45 4),
 (mV 46 7),
 (oP 47 (.bin .mul (.c (.int .i64 4)) (.t 46))),
 (oP 48 (.bin .add (.c (.int .i64 8)) (.t 47))),
 (oP 49 (.bin .sub (.t 45) (.t 48))),
 (mV 4 49)])
 (.seq (.ops [(mV 50 7),
 (oP 51 (.fieldAddr 1 (.t 6))),
 (oP 52 (.load false 1 (.t 51))),
 (oP 53 (.lenL (.t 52))),
 (oP 54 (.bin .lss (.t 50) (.t 53)))])
 (.cond (.t 54)
 (.seq (.draw [((oP 55 (.fieldAddr 0 (.t 6))), 0),
 ((oP 56 (.load false 1 (.t 55))), 1),
 ((oP 57 (.fieldAddr 1 (.t 6))), 0),
 ((oP 58 (.load false 1 (.t 57))), 1),
 ((mV 59 7), 0),
 ((oP 60 (.sliceL 1 (.t 58) (some (.t 59)) none none)), 1),
 ((oP 61 (.build [(.int .i64 0), (.lst 0 [] true)] [(0, 1, (.t 56)), (1, 1, (.t 60))])), 0),
 ((oP 62 (.mkLst 2 true 1 [(.int .i64 0), (.lst 0 [] true)] [(0, 2, (.t 61))])), 0),
 ((mV 3 62), 0)])
 (.seq (.ops [(mV 63 2),
 (mV 64 3),
 (mV 65 0),
 (mV 66 5),
 (oP 67 (.bin .add (.t 66) (.c (.int .i64 1)))),
 (oP 68 (.sliceL 2 (.t 65) (some (.t 67)) none none)),
 (oP 69 (.app 165 2 (.t 64) (.t 68))),
 (mV 2 63),
 (mV 3 69)])
 .ret))
 .skip))))))))
 (.ops [(oP 70 (.bin .add (.t 10) (.c (.int .i64 1)))),
 (mV 10 70)])))))))
 (.cut (.seq (.ops [(mV 71 2),
 (mV 2 71),
 (oP 3 (.mv (.c (.lst 0 [] true))))])
 .ret)))))
theorem F139 : FI 139 1 72 7 [.tmp 2, .tmp 3] c139 := ⟨⟨Tryz.f139, Tryz.func139, by kernel_rfl, by kernel_rfl, by kernel_rfl⟩, by kernel_rfl, by decide, by kernel_rfl⟩
/- f137 understory/page.divided[[]understory/api.Freed]: 25 temporaries, depth 5, 3 parameters, results [t6] -/
def c137 : RC :=
 (.seq (.ops [(oP 6 (.mv (.c (.lst 0 [] true))))])
 (.seq (.ops [(oP 7 (.mv (.c (.lst 0 [] true))))])
 (.seq (.block 0
 (.loop
 (.seq (.seq (.ops [(mV 10 1),
 (mV 11 0),
 (oP 12 (.callV (.t 10) [(.t 11)]))])
 (.cond (.t 12)
 .skip
 (.exit 0)))
 (.block 1
 (.seq (.ops [(mV 14 2),
 (mV 15 0),
 (oP 16 (.callV (.t 14) [(.t 15)])),
 (mV 13 16),
 (oP 17 (.extract (.t 13) 0)),
 (oP 18 (.extract (.t 13) 1)),
 (mV 8 17),
 (mV 9 18)])
 (.seq (.ops [(mV 19 7),
 (mV 20 8),
 (oP 21 (.mkLst 1 false 1 [(.lst 0 [] true)] [(0, 1, (.t 20))])),
 (oP 22 (.app 23 1 (.t 19) (.t 21))),
 (mV 7 22)])
 (.ops [(mV 23 9),
 (mV 0 23)])))))))
 (.cut (.seq (.ops [(mV 24 7),
 (mV 6 24)])
 .ret)))))
theorem F137 : FI 137 3 25 5 [.tmp 6] c137 := ⟨⟨Tryz.f137, Tryz.func137, by kernel_rfl, by kernel_rfl, by kernel_rfl⟩, by kernel_rfl, by decide, by kernel_rfl⟩
/- f100 understory/page.listParts: 5 temporaries, depth 3, 1 parameters, results [t2] -/
def c100 : RC :=
 (.seq (.ops [(oP 2 (.mv (.c (.lst 0 [] true))))])
 (.seq (.ops [(mV 3 0),
 (oP 4 (.callF 137 [(.t 3), (.c (.fn (.func 138) [] [])), (.c (.fn (.func 139) [] []))])),
 (mV 2 4)])
 .ret))
theorem F100 : FI 100 1 5 3 [.tmp 2] c100 := ⟨⟨Tryz.f100, Tryz.func100, by kernel_rfl, by kernel_rfl, by kernel_rfl⟩, by kernel_rfl, by decide, by kernel_rfl⟩
/- f138 understory/page.listParts$1: 6 temporaries, depth 3, 1 parameters, results [t2] -/
def c138 : RC :=
 (.seq (.ops [(oP 2 (.mv (.c (.bool false))))])
 (.seq (.ops [(mV 3 0),
 (oP 4 (.lenL (.t 3))),
 (oP 5 (.bin .gtr (.t 4) (.c (.int .i64 0)))),
 (mV 2 5)])
 .ret))
theorem F138 : FI 138 1 6 3 [.tmp 2] c138 := ⟨⟨Tryz.f138, Tryz.func138, by kernel_rfl, by kernel_rfl, by kernel_rfl⟩, by kernel_rfl, by decide, by kernel_rfl⟩
/- f38 understory/page.ListNeeds: 10 temporaries, depth 4, 1 parameters, results [t2, t3] -/
/- f40 understory/page.ListPages: 48 temporaries, depth 6, 3 parameters, results [t6, t7] -/
def c40 : RC :=
 (.seq (.ops [(oP 6 (.mv (.c (.lst 0 [] true)))),
 (oP 7 (.mv (.c (.int .i64 0))))])
 (.seq (.seq (.ops [(mV 12 0),
 (oP 13 (.callF 75 [(.t 12)])),
 (oP 14 (.un .not (.t 13)))])
 (.cond (.t 14)
 (.seq (.ops [(oP 6 (.mv (.c (.lst 0 [] true)))),
 (oP 7 (.mv (.c (.int .i64 2))))])
 .ret)
 .skip))
 (.seq (.ops [(mV 15 0),
 (oP 16 (.callF 100 [(.t 15)])),
 (mV 8 16)])
 (.seq (.seq (.ops [(mV 17 1),
 (oP 18 (.lenL (.t 17))),
 (mV 19 8),
 (oP 20 (.lenL (.t 19))),
 (oP 21 (.bin .lss (.t 18) (.t 20))),
 (mV 22 21),
 (oG 23 22 false (.mv (.t 1))),
 (oG 24 22 false (.mv (.t 2))),
 (oG 25 22 false (.callF 92 [(.t 23), (.t 24)])),
 (oG 26 22 false (.un .not (.t 25))),
 (oP 27 (.pick (.t 22) (.c (.bool true)) (.t 26)))])
 (.cond (.t 27)
 (.seq (.ops [(oP 6 (.mv (.c (.lst 0 [] true)))),
 (oP 7 (.mv (.c (.int .i64 1))))])
 .ret)
 .skip))
 (.seq (.ops [(mV 28 1),
 (oP 29 (.lenL (.t 28))),
 (oP 30 (.mkSl 25 10 [(.int .i64 0), (.int .i64 0), (.int .i64 0), (.int .i64 0), (.int .i64 0), (.bool false), (.lst 0 [] true), (.int .i64 0), (.str []), (.lst 0 [] true)] (.t 29) (.t 29))),
 (mV 9 30)])
 (.seq (.seq (.ops [(mV 31 8),
 (oP 32 (.lenL (.t 31))),
 (oP 33 (.mv (.c (.int .i64 0))))])
 (.block 0
 (.loop
 (.seq (.ops [(oP 34 (.bin .lss (.t 33) (.t 32)))])
 (.seq (.cond (.t 34)
 .skip
 (.exit 0))
 (.seq (.block 1
 (.seq (.ops [(mV 35 33),
 (oP 36 (.indexAddrL 1 (.t 31) (.t 33))),
 (oP 37 (.load false 1 (.t 36))),
 (mV 10 35),
 (mV 11 37)])
 (.ops [(mV 38 9),
 (mV 39 10),
 (mV 40 11),
 (oP 41 (.indexAddrL 10 (.t 38) (.t 39))),
 (oP 42 (.fieldAddr 9 (.t 41))),
 (oU (.store 1 (.t 42) (.t 40)))])))
 (.ops [(oP 43 (.bin .add (.t 33) (.c (.int .i64 1)))),
 (mV 33 43)])))))))
 (.cut (.seq (.ops [(mV 44 9),
 (mV 45 1),
 (mV 46 2),
 (oP 47 (.callF 93 [(.t 44), (.t 45), (.c (.int .i64 4)), (.t 46)])),
 (mV 6 47),
 (oP 7 (.mv (.c (.int .i64 0))))])
 .ret))))))))
theorem F40 : FI 40 3 48 6 [.tmp 6, .tmp 7] c40 := ⟨⟨Tryz.f40, Tryz.func40, by kernel_rfl, by kernel_rfl, by kernel_rfl⟩, by kernel_rfl, by decide, by kernel_rfl⟩
/- f42 understory/page.ListOf: 90 temporaries, depth 7, 1 parameters, results [t2, t3] -/
def c42 : RC :=
 (.seq (.ops [(oP 2 (.mv (.c (.lst 0 [] true)))),
 (oP 3 (.mv (.c (.int .i64 0))))])
 (.seq (.seq (.ops [(mV 12 0),
 (oP 13 (.lenL (.t 12))),
 (oP 14 (.bin .eql (.t 13) (.c (.int .i64 0))))])
 (.cond (.t 14)
 (.seq (.ops [(oP 2 (.mv (.c (.lst 0 [] true)))),
 (oP 3 (.mv (.c (.int .i64 0))))])
 .ret)
 .skip))
 (.seq (.ops [(oP 4 (.mv (.c (.lst 0 [] true))))])
 (.seq (.seq (.ops [(mV 15 0),
 (oP 16 (.lenL (.t 15))),
 (oP 17 (.mv (.c (.int .i64 0))))])
 (.block 0
 (.loop
 (.seq (.ops [(oP 18 (.bin .lss (.t 17) (.t 16)))])
 (.seq (.cond (.t 18)
 .skip
 (.exit 0))
 (.seq (.block 1
 (.seq (.ops [(oP 19 (.indexAddrL 10 (.t 15) (.t 17))),
 (oP 20 (.load true 10 (.t 19))),
 (oP 6 (.alloc 25 [(.int .i64 0), (.int .i64 0), (.int .i64 0), (.int .i64 0), (.int .i64 0), (.bool false), (.lst 0 [] true), (.int .i64 0), (.str []), (.lst 0 [] true)])),
 (oU (.store 10 (.t 6) (.t 20)))])
 (.seq (.ops [(oP 21 (.fieldAddr 9 (.t 6))),
 (oP 22 (.load false 1 (.t 21))),
 (oP 23 (.lenL (.t 22))),
 (oP 24 (.mv (.c (.int .i64 0))))])
 (.block 2
 (.loop
 (.seq (.ops [(oP 25 (.bin .lss (.t 24) (.t 23)))])
 (.seq (.cond (.t 25)
 .skip
 (.exit 2))
 (.seq (.block 3
 (.seq (.ops [(mV 26 24),
 (oP 27 (.indexAddrL 2 (.t 22) (.t 24))),
 (oP 28 (.load true 2 (.t 27))),
 (oP 8 (.alloc 165 [(.int .i64 0), (.lst 0 [] true)])),
 (mV 7 26),
 (oU (.store 2 (.t 8) (.t 28)))])
 (.seq (.ops [(oP 29 (.fieldAddr 1 (.t 8))),
 (oP 30 (.load false 1 (.t 29))),
 (oP 31 (.callF 102 [(.t 30)])),
 (oP 32 (.fieldAddr 1 (.t 8))),
 (oU (.store 1 (.t 32) (.t 31)))])
 (.seq (.seq (.ops [(mV 33 4),
 (oP 34 (.lenL (.t 33))),
 (oP 35 (.bin .sub (.t 34) (.c (.int .i64 1)))),
 (mV 9 35)])
 (.seq (.draw [((mV 36 7), 0),
 ((oP 37 (.bin .eql (.t 36) (.c (.int .i64 0)))), 0),
 ((mV 38 37), 0),
 ((oG 39 38 true (.mv (.t 9))), 0),
 ((oG 40 38 true (.bin .geq (.t 39) (.c (.int .i64 0)))), 0),
 ((oP 41 (.pick (.t 38) (.t 40) (.c (.bool false)))), 0),
 ((mV 42 41), 0),
 ((oG 43 42 true (.mv (.t 4))), 0),
 ((oG 44 42 true (.mv (.t 9))), 0),
 ((oG 45 42 true (.indexAddrL 2 (.t 43) (.t 44))), 0),
 ((oG 46 42 true (.fieldAddr 0 (.t 45))), 0),
 ((oG 47 42 true (.load false 1 (.t 46))), 1),
 ((oG 48 42 true (.fieldAddr 0 (.t 8))), 0),
 ((oG 49 42 true (.load false 1 (.t 48))), 1),
 ((oG 50 42 true (.bin .eql (.t 47) (.t 49))), 0),
 ((oP 51 (.pick (.t 42) (.t 50) (.c (.bool false)))), 0)])
 (.cond (.t 51)
 (.seq (.draw [((mV 52 4), 0),
 ((mV 53 9), 0),
 ((mV 54 4), 0),
 ((mV 55 9), 0),
 ((oP 56 (.indexAddrL 2 (.t 54) (.t 55))), 0),
 ((oP 57 (.fieldAddr 1 (.t 56))), 0),
 ((oP 58 (.load false 1 (.t 57))), 1),
 ((oP 59 (.fieldAddr 1 (.t 8))), 0),
 ((oP 60 (.load false 1 (.t 59))), 1),
 ((oP 61 (.app 3 1 (.t 58) (.t 60))), 3),
 ((oP 62 (.indexAddrL 2 (.t 52) (.t 53))), 0),
 ((oP 63 (.fieldAddr 1 (.t 62))), 0),
 ((oU (.store 1 (.t 63) (.t 61))), 2)])
 (.exit 3))
 .skip)))
 (.ops [(mV 64 4),
 (oP 65 (.load true 2 (.t 8))),
 (oP 66 (.mkLst 2 true 1 [(.int .i64 0), (.lst 0 [] true)] [(0, 2, (.t 65))])),
 (oP 67 (.app 165 2 (.t 64) (.t 66))),
 (mV 4 67)])))))
 (.ops [(oP 68 (.bin .add (.t 24) (.c (.int .i64 1)))),
 (mV 24 68)])))))))))
 (.cut (.ops [(oP 69 (.bin .add (.t 17) (.c (.int .i64 1)))),
 (mV 17 69)]))))))))
 (.cut (.seq (.draw [((mV 71 4), 0),
 ((mV 72 0), 0),
 ((oP 73 (.callF 96 [(.t 72)])), 0),
 ((mV 74 0), 0),
 ((oP 75 (.indexAddrL 10 (.t 74) (.c (.int .i64 0)))), 0),
 ((oP 76 (.fieldAddr 2 (.t 75))), 0),
 ((oP 77 (.load false 1 (.t 76))), 1),
 ((oP 78 (.callF 40 [(.t 71), (.t 73), (.t 77)])), 2),
 ((mV 70 78), 0),
 ((oP 79 (.extract (.t 70) 0)), 0),
 ((oP 80 (.extract (.t 70) 1)), 0),
 ((mV 10 79), 0),
 ((mV 11 80), 0)])
 (.seq (.seq (.ops [(mV 81 11),
 (oP 82 (.bin .neq (.t 81) (.c (.int .i64 0)))),
 (mV 83 82),
 (oG 84 83 false (.mv (.t 0))),
 (oG 85 83 false (.mv (.t 10))),
 (oG 86 83 false (.callF 97 [(.t 84), (.t 85), (.c (.fn (.func 98) [] []))])),
 (oG 87 83 false (.un .not (.t 86))),
 (oP 88 (.pick (.t 83) (.c (.bool true)) (.t 87)))])
 (.cond (.t 88)
 (.seq (.ops [(oP 2 (.mv (.c (.lst 0 [] true)))),
 (oP 3 (.mv (.c (.int .i64 2))))])
 .ret)
 .skip))
 (.seq (.ops [(mV 89 4),
 (mV 2 89),
 (oP 3 (.mv (.c (.int .i64 0))))])
 .ret))))))))
theorem F42 : FI 42 1 90 7 [.tmp 2, .tmp 3] c42 := ⟨⟨Tryz.f42, Tryz.func42, by kernel_rfl, by kernel_rfl, by kernel_rfl⟩, by kernel_rfl, by decide, by kernel_rfl⟩
end Go.Proofs
/- The looked-up text of the functions. -/
namespace Go.Proofs
open Go Go.Abs
/- f30 understory/understoryref04.Pieces: 28 temporaries, depth 5, 1 parameters, results [*t2] -/
/- f94 understory/understoryref04.numbered: 39 temporaries, depth 6, 2 parameters, results [t4] -/
/- f32 understory/understoryref04.Chain: 66 temporaries, depth 7, 3 parameters, results [*t6] -/
/- f99 understory/understoryref04.numbers: 20 temporaries, depth 5, 1 parameters, results [t2] -/
/- f36 understory/understoryref04.SamePages: 27 temporaries, depth 5, 2 parameters, results [t4] -/
/- f34 understory/understoryref04.Joined: 54 temporaries, depth 6, 1 parameters, results [*t2] -/
/- f35 understory/understorylaw04.texts: 26 temporaries, depth 5, 2 parameters, results [t4] -/
/- f6 understory/understorylaw04.PageChains: 96 temporaries, depth 7, 4 parameters, results [t8] -/
def c6 : RC :=
 (.seq (.ops [(oP 8 (.mv (.c (.bool false))))])
 (.seq (.ops [(oP 19 (.callF 9 [])),
 (mV 9 19)])
 (.seq (.seq (.ops [(mV 20 0),
 (oP 21 (.lenS (.t 20))),
 (oP 22 (.bin .gtr (.t 21) (.c (.int .i64 5000)))),
 (mV 23 22),
 (oG 24 23 false (.mv (.t 1))),
 (oG 25 23 false (.lenL (.t 24))),
 (oG 26 23 false (.bin .gtr (.t 25) (.c (.int .i64 30)))),
 (oP 27 (.pick (.t 23) (.c (.bool true)) (.t 26))),
 (mV 28 27),
 (oG 29 28 false (.mv (.t 3))),
 (oG 30 28 false (.callF 10 [(.t 29)])),
 (oG 31 28 false (.un .not (.t 30))),
 (oP 32 (.pick (.t 28) (.c (.bool true)) (.t 31)))])
 (.cond (.t 32)
 (.seq (.ops [(mV 33 9),
 (mV 8 33)])
 .ret)
 .skip))
 (.seq (.ops [(mV 35 0),
 (oP 36 (.callF 29 [(.t 35)])),
 (mV 34 36),
 (oP 37 (.extract (.t 34) 0)),
 (oP 38 (.extract (.t 34) 1)),
 (mV 10 37),
 (mV 11 38)])
 (.seq (.ops [(mV 39 0),
 (oP 40 (.callF 30 [(.t 39)])),
 (oP 12 (.alloc 76 [(.lst 0 [] true), (.int .i64 0)])),
 (oU (.store 2 (.t 12) (.t 40)))])
 (.seq (.ops [(mV 42 0),
 (mV 43 1),
 (mV 44 2),
 (oP 45 (.callF 31 [(.t 42), (.t 43), (.t 44)])),
 (mV 41 45),
 (oP 46 (.extract (.t 41) 0)),
 (oP 47 (.extract (.t 41) 1)),
 (mV 13 46),
 (mV 14 47)])
 (.seq (.ops [(mV 48 0),
 (mV 49 1),
 (mV 50 2),
 (oP 51 (.callF 32 [(.t 48), (.t 49), (.t 50)])),
 (oP 15 (.alloc 81 [(.lst 0 [] true), (.int .i64 0)])),
 (oU (.store 2 (.t 15) (.t 51)))])
 (.seq (.ops [(mV 53 3),
 (oP 54 (.callF 33 [(.t 53)])),
 (mV 52 54),
 (oP 55 (.extract (.t 52) 0)),
 (oP 56 (.extract (.t 52) 1)),
 (mV 16 55),
 (mV 17 56)])
 (.seq (.ops [(mV 57 3),
 (oP 58 (.callF 34 [(.t 57)])),
 (oP 18 (.alloc 33 [(.str []), (.int .i64 0)])),
 (oU (.store 2 (.t 18) (.t 58)))])
 (.seq (.ops [(mV 59 9),
 (mV 60 59),
 (oG 61 60 true (.mv (.t 10))),
 (oG 62 60 true (.fieldAddr 0 (.t 12))),
 (oG 63 60 true (.load false 1 (.t 62))),
 (oG 64 60 true (.callF 35 [(.t 61), (.t 63)])),
 (oP 65 (.pick (.t 60) (.t 64) (.c (.bool false)))),
 (mV 66 65),
 (oG 67 66 true (.mv (.t 11))),
 (oG 68 66 true (.fieldAddr 1 (.t 12))),
 (oG 69 66 true (.load false 1 (.t 68))),
 (oG 70 66 true (.bin .eql (.t 67) (.t 69))),
 (oP 71 (.pick (.t 66) (.t 70) (.c (.bool false)))),
 (mV 72 71),
 (oG 73 72 true (.mv (.t 13))),
 (oG 74 72 true (.fieldAddr 0 (.t 15))),
 (oG 75 72 true (.load false 1 (.t 74))),
 (oG 76 72 true (.callF 36 [(.t 73), (.t 75)])),
 (oP 77 (.pick (.t 72) (.t 76) (.c (.bool false)))),
 (mV 78 77),
 (oG 79 78 true (.mv (.t 14))),
 (oG 80 78 true (.fieldAddr 1 (.t 15))),
 (oG 81 78 true (.load false 1 (.t 80))),
 (oG 82 78 true (.bin .eql (.t 79) (.t 81))),
 (oP 83 (.pick (.t 78) (.t 82) (.c (.bool false)))),
 (mV 84 83),
 (oG 85 84 true (.mv (.t 16))),
 (oG 86 84 true (.fieldAddr 0 (.t 18))),
 (oG 87 84 true (.load false 1 (.t 86))),
 (oG 88 84 true (.bin .eql (.t 85) (.t 87))),
 (oP 89 (.pick (.t 84) (.t 88) (.c (.bool false)))),
 (mV 90 89),
 (oG 91 90 true (.mv (.t 17))),
 (oG 92 90 true (.fieldAddr 1 (.t 18))),
 (oG 93 90 true (.load false 1 (.t 92))),
 (oG 94 90 true (.bin .eql (.t 91) (.t 93))),
 (oP 95 (.pick (.t 90) (.t 94) (.c (.bool false)))),
 (mV 8 95)])
 .ret))))))))))
theorem F6 : FI 6 4 96 7 [.tmp 8] c6 := ⟨⟨Tryz.f6, Tryz.func6, by kernel_rfl, by kernel_rfl, by kernel_rfl⟩, by kernel_rfl, by decide, by kernel_rfl⟩
end Go.Proofs
/- The looked-up text of the functions. -/
namespace Go.Proofs
open Go Go.Abs
/- f92 understory/page.numbers: 25 temporaries, depth 5, 2 parameters, results [t4] -/
def c92 : RC :=
 (.seq (.ops [(oP 4 (.mv (.c (.bool false))))])
 (.seq (.ops [(mV 6 0),
 (oP 7 (.callF 102 [(.t 6)])),
 (mV 5 7)])
 (.seq (.ops [(mV 8 5),
 (oP 9 (.callF 130 [(.t 8)]))])
 (.seq (.ops [(mV 10 5),
 (oP 11 (.callF 131 [(.t 10)])),
 (oP 12 (.lenL (.t 11))),
 (mV 13 0),
 (oP 14 (.lenL (.t 13))),
 (oP 15 (.bin .eql (.t 12) (.t 14))),
 (mV 16 15),
 (oG 17 16 true (.mv (.t 0))),
 (oG 18 16 true (.callF 132 [(.t 17), (.c (.fn (.func 133) [] []))])),
 (oG 19 16 true (.un .not (.t 18))),
 (oP 20 (.pick (.t 16) (.t 19) (.c (.bool false)))),
 (mV 21 20),
 (oG 22 21 true (.mv (.t 1))),
 (oG 23 21 true (.callF 71 [(.t 22), (.c (.int .i64 0)), (.c (.int .i64 1099511627776))])),
 (oP 24 (.pick (.t 21) (.t 23) (.c (.bool false)))),
 (mV 4 24)])
 .ret))))
theorem F92 : FI 92 2 25 5 [.tmp 4] c92 := ⟨⟨Tryz.f92, Tryz.func92, by kernel_rfl, by kernel_rfl, by kernel_rfl⟩, by kernel_rfl, by decide, by kernel_rfl⟩
/- f133 understory/page.numbers$1: 6 temporaries, depth 3, 1 parameters, results [t2] -/
def c133 : RC :=
 (.seq (.ops [(oP 2 (.mv (.c (.bool false))))])
 (.seq (.ops [(mV 3 0),
 (oP 4 (.callF 70 [(.t 3)])),
 (oP 5 (.un .not (.t 4))),
 (mV 2 5)])
 .ret))
theorem F133 : FI 133 1 6 3 [.tmp 2] c133 := ⟨⟨Tryz.f133, Tryz.func133, by kernel_rfl, by kernel_rfl, by kernel_rfl⟩, by kernel_rfl, by decide, by kernel_rfl⟩
/- f132 slices.ContainsFunc[[]int,int]: 9 temporaries, depth 4, 2 parameters, results [t4] -/
def c132 : RC :=
 (.seq (.ops [(oP 4 (.mv (.c (.bool false))))])
 (.seq (.ops [(mV 5 0),
 (mV 6 1),
 (oP 7 (.callF 164 [(.t 5), (.t 6)])),
 (oP 8 (.bin .geq (.t 7) (.c (.int .i64 0)))),
 (mV 4 8)])
 .ret))
theorem F132 : FI 132 2 9 4 [.tmp 4] c132 := ⟨⟨Tryz.f132, Tryz.func132, by kernel_rfl, by kernel_rfl, by kernel_rfl⟩, by kernel_rfl, by decide, by kernel_rfl⟩
/- f164 slices.IndexFunc[[]int,int]: 19 temporaries, depth 5, 2 parameters, results [t4] -/
def c164 : RC :=
 (.seq (.ops [(oP 4 (.mv (.c (.int .i64 0))))])
 (.seq (.seq (.ops [(mV 6 0),
 (oP 7 (.lenL (.t 6))),
 (oP 8 (.mv (.c (.int .i64 0))))])
 (.block 0
 (.loop
 (.seq (.ops [(oP 9 (.bin .lss (.t 8) (.t 7)))])
 (.seq (.cond (.t 9)
 .skip
 (.exit 0))
 (.seq (.block 1
 (.seq (.ops [(mV 10 8),
 (mV 5 10)])
 (.seq (.ops [(mV 11 1),
 (mV 12 0),
 (mV 13 5),
 (oP 14 (.indexAddrL 1 (.t 12) (.t 13))),
 (oP 15 (.load false 1 (.t 14))),
 (oP 16 (.callV (.t 11) [(.t 15)]))])
 (.cond (.t 16)
 (.seq (.ops [(mV 17 5),
 (mV 4 17)])
 .ret)
 .skip))))
 (.ops [(oP 18 (.bin .add (.t 8) (.c (.int .i64 1)))),
 (mV 8 18)])))))))
 (.cut (.seq (.ops [(oP 4 (.mv (.c (.int .i64 (-1)))))])
 .ret))))
theorem F164 : FI 164 2 19 5 [.tmp 4] c164 := ⟨⟨Tryz.f164, Tryz.func164, by kernel_rfl, by kernel_rfl, by kernel_rfl⟩, by kernel_rfl, by decide, by kernel_rfl⟩
/- f102 slices.Clone[[]int,int]: 8 temporaries, depth 4, 1 parameters, results [t2] -/
def c102 : RC :=
 (.seq (.ops [(oP 2 (.mv (.c (.lst 0 [] true))))])
 (.seq (.seq (.ops [(mV 3 0),
 ⟨some 4, none, .op (.raw { dst := (some 4), op := (.binOp .eql 70 (.tmp 3) (.const (.slice none 0 0)) 70), type := 4, pos := "slices.go:357", after := #[⟨0, .data⟩], guard := none })⟩])
 (.cond (.t 4)
 (.seq (.ops [(oP 2 (.mv (.c (.lst 0 [] true))))])
 .ret)
 .skip))
 (.seq (.ops [(oP 5 (.mkLst 1 false 0 [(.int .i64 0)] [])),
 (mV 6 0),
 (oP 7 (.app 3 1 (.t 5) (.t 6))),
 (mV 2 7)])
 .ret)))
theorem F102 : FI 102 1 8 4 [.tmp 2] c102 := ⟨⟨Tryz.f102, Tryz.func102, by kernel_rfl, by kernel_rfl, by kernel_rfl⟩, by kernel_rfl, by decide, by kernel_rfl⟩
/- f29 understory/page.Pieces: 10 temporaries, depth 4, 1 parameters, results [t2, t3] -/
def c29 : RC :=
 (.seq (.ops [(oP 2 (.mv (.c (.lst 0 [] true)))),
 (oP 3 (.mv (.c (.int .i64 0))))])
 (.seq (.seq (.ops [(mV 4 0),
 (oP 5 (.lenS (.t 4))),
 (oP 6 (.callF 71 [(.t 5), (.c (.int .i64 65)), (.c (.int .i64 4000))])),
 (oP 7 (.un .not (.t 6)))])
 (.cond (.t 7)
 (.seq (.ops [(oP 2 (.mv (.c (.lst 0 [] true)))),
 (oP 3 (.mv (.c (.int .i64 1))))])
 .ret)
 .skip))
 (.seq (.ops [(mV 8 0),
 (oP 9 (.callF 89 [(.t 8), (.c (.fn (.func 90) [] [])), (.c (.fn (.func 91) [] []))])),
 (mV 2 9),
 (oP 3 (.mv (.c (.int .i64 0))))])
 .ret)))
theorem F29 : FI 29 1 10 4 [.tmp 2, .tmp 3] c29 := ⟨⟨Tryz.f29, Tryz.func29, by kernel_rfl, by kernel_rfl, by kernel_rfl⟩, by kernel_rfl, by decide, by kernel_rfl⟩
/- f89 understory/page.divided[string]: 25 temporaries, depth 5, 3 parameters, results [t6] -/
def c89 : RC :=
 (.seq (.ops [(oP 6 (.mv (.c (.lst 0 [] true))))])
 (.seq (.ops [(oP 7 (.mv (.c (.lst 0 [] true))))])
 (.seq (.block 0
 (.loop
 (.seq (.seq (.ops [(mV 10 1),
 (mV 11 0),
 (oP 12 (.callV (.t 10) [(.t 11)]))])
 (.cond (.t 12)
 .skip
 (.exit 0)))
 (.block 1
 (.seq (.ops [(mV 14 2),
 (mV 15 0),
 (oP 16 (.callV (.t 14) [(.t 15)])),
 (mV 13 16),
 (oP 17 (.extract (.t 13) 0)),
 (oP 18 (.extract (.t 13) 1)),
 (mV 8 17),
 (mV 9 18)])
 (.seq (.ops [(mV 19 7),
 (mV 20 8),
 (oP 21 (.mkLst 1 false 1 [(.str [])] [(0, 1, (.t 20))])),
 (oP 22 (.app 9 1 (.t 19) (.t 21))),
 (mV 7 22)])
 (.ops [(mV 23 9),
 (mV 0 23)])))))))
 (.cut (.seq (.ops [(mV 24 7),
 (mV 6 24)])
 .ret)))))
theorem F89 : FI 89 3 25 5 [.tmp 6] c89 := ⟨⟨Tryz.f89, Tryz.func89, by kernel_rfl, by kernel_rfl, by kernel_rfl⟩, by kernel_rfl, by decide, by kernel_rfl⟩
/- f90 understory/page.Pieces$1: 5 temporaries, depth 3, 1 parameters, results [t2] -/
def c90 : RC :=
 (.seq (.ops [(oP 2 (.mv (.c (.bool false))))])
 (.seq (.ops [(mV 3 0),
 (oP 4 (.bin .neq (.t 3) (.c (.str [])))),
 (mV 2 4)])
 .ret))
theorem F90 : FI 90 1 5 3 [.tmp 2] c90 := ⟨⟨Tryz.f90, Tryz.func90, by kernel_rfl, by kernel_rfl, by kernel_rfl⟩, by kernel_rfl, by decide, by kernel_rfl⟩
/- f91 understory/page.Pieces$2: 14 temporaries, depth 4, 1 parameters, results [t2, t3] -/
def c91 : RC :=
 (.seq (.ops [(oP 2 (.mv (.c (.str [])))),
 (oP 3 (.mv (.c (.str []))))])
 (.seq (.ops [(mV 5 0),
 (oP 6 (.lenS (.t 5))),
 (oP 7 (.mm false (.c (.int .i64 490)) (.t 6))),
 (mV 4 7)])
 (.seq (.draw [((mV 8 0), 0),
 ((mV 9 4), 0),
 ((oP 10 (.sliceS (.t 8) none (some (.t 9)))), 1),
 ((mV 11 0), 0),
 ((mV 12 4), 0),
 ((oP 13 (.sliceS (.t 11) (some (.t 12)) none)), 1),
 ((mV 2 10), 0),
 ((mV 3 13), 0)])
 .ret)))
theorem F91 : FI 91 1 14 4 [.tmp 2, .tmp 3] c91 := ⟨⟨Tryz.f91, Tryz.func91, by kernel_rfl, by kernel_rfl, by kernel_rfl⟩, by kernel_rfl, by decide, by kernel_rfl⟩
/- f93 understory/page.chained: 49 temporaries, depth 6, 4 parameters, results [t8] -/
def c93 : RC :=
 (.seq (.ops [(oP 8 (.mv (.c (.lst 0 [] true))))])
 (.seq (.seq (.ops [(mV 10 0),
 (oP 11 (.lenL (.t 10))),
 (oP 12 (.mv (.c (.int .i64 0))))])
 (.block 0
 (.loop
 (.seq (.ops [(oP 13 (.bin .lss (.t 12) (.t 11)))])
 (.seq (.cond (.t 13)
 .skip
 (.exit 0))
 (.seq (.block 1
 (.seq (.ops [(mV 14 12),
 (mV 9 14)])
 (.seq (.ops [(mV 15 0),
 (mV 16 9),
 (mV 17 0),
 (mV 18 9),
 (mV 19 0),
 (mV 20 9),
 (mV 21 2),
 (mV 22 1),
 (mV 23 9),
 (oP 24 (.indexAddrL 1 (.t 22) (.t 23))),
 (oP 25 (.load false 1 (.t 24))),
 (mV 26 3),
 (oP 27 (.indexAddrL 10 (.t 15) (.t 16))),
 (oP 28 (.fieldAddr 0 (.t 27))),
 (oU (.store 1 (.t 28) (.t 21))),
 (oP 29 (.indexAddrL 10 (.t 17) (.t 18))),
 (oP 30 (.fieldAddr 1 (.t 29))),
 (oU (.store 1 (.t 30) (.t 25))),
 (oP 31 (.indexAddrL 10 (.t 19) (.t 20))),
 (oP 32 (.fieldAddr 2 (.t 31))),
 (oU (.store 1 (.t 32) (.t 26)))])
 (.seq (.ops [(mV 33 9),
 (oP 34 (.bin .add (.t 33) (.c (.int .i64 1)))),
 (mV 35 0),
 (oP 36 (.lenL (.t 35))),
 (oP 37 (.bin .lss (.t 34) (.t 36)))])
 (.cond (.t 37)
 (.ops [(mV 38 0),
 (mV 39 9),
 (mV 40 1),
 (mV 41 9),
 (oP 42 (.bin .add (.t 41) (.c (.int .i64 1)))),
 (oP 43 (.indexAddrL 1 (.t 40) (.t 42))),
 (oP 44 (.load false 1 (.t 43))),
 (oP 45 (.indexAddrL 10 (.t 38) (.t 39))),
 (oP 46 (.fieldAddr 7 (.t 45))),
 (oU (.store 1 (.t 46) (.t 44)))])
 .skip)))))
 (.ops [(oP 47 (.bin .add (.t 12) (.c (.int .i64 1)))),
 (mV 12 47)])))))))
 (.cut (.seq (.ops [(mV 48 0),
 (mV 8 48)])
 .ret))))
theorem F93 : FI 93 4 49 6 [.tmp 8] c93 := ⟨⟨Tryz.f93, Tryz.func93, by kernel_rfl, by kernel_rfl, by kernel_rfl⟩, by kernel_rfl, by decide, by kernel_rfl⟩
/- f31 understory/page.Chain: 52 temporaries, depth 6, 3 parameters, results [t6, t7] -/
def c31 : RC :=
 (.seq (.ops [(oP 6 (.mv (.c (.lst 0 [] true)))),
 (oP 7 (.mv (.c (.int .i64 0))))])
 (.seq (.ops [(mV 14 0),
 (oP 15 (.callF 29 [(.t 14)])),
 (mV 13 15),
 (oP 16 (.extract (.t 13) 0)),
 (oP 17 (.extract (.t 13) 1)),
 (mV 8 16),
 (mV 9 17)])
 (.seq (.seq (.ops [(mV 18 9),
 (oP 19 (.bin .neq (.t 18) (.c (.int .i64 0))))])
 (.cond (.t 19)
 (.seq (.ops [(mV 20 9),
 (oP 6 (.mv (.c (.lst 0 [] true)))),
 (mV 7 20)])
 .ret)
 .skip))
 (.seq (.seq (.ops [(mV 21 1),
 (oP 22 (.lenL (.t 21))),
 (mV 23 8),
 (oP 24 (.lenL (.t 23))),
 (oP 25 (.bin .neq (.t 22) (.t 24))),
 (mV 26 25),
 (oG 27 26 false (.mv (.t 1))),
 (oG 28 26 false (.mv (.t 2))),
 (oG 29 26 false (.callF 92 [(.t 27), (.t 28)])),
 (oG 30 26 false (.un .not (.t 29))),
 (oP 31 (.pick (.t 26) (.c (.bool true)) (.t 30)))])
 (.cond (.t 31)
 (.seq (.ops [(oP 6 (.mv (.c (.lst 0 [] true)))),
 (oP 7 (.mv (.c (.int .i64 1))))])
 .ret)
 .skip))
 (.seq (.ops [(mV 32 8),
 (oP 33 (.lenL (.t 32))),
 (oP 34 (.mkSl 25 10 [(.int .i64 0), (.int .i64 0), (.int .i64 0), (.int .i64 0), (.int .i64 0), (.bool false), (.lst 0 [] true), (.int .i64 0), (.str []), (.lst 0 [] true)] (.t 33) (.t 33))),
 (mV 10 34)])
 (.seq (.seq (.ops [(mV 35 8),
 (oP 36 (.lenL (.t 35))),
 (oP 37 (.mv (.c (.int .i64 0))))])
 (.block 0
 (.loop
 (.seq (.ops [(oP 38 (.bin .lss (.t 37) (.t 36)))])
 (.seq (.cond (.t 38)
 .skip
 (.exit 0))
 (.seq (.block 1
 (.seq (.ops [(mV 39 37),
 (oP 40 (.indexAddrL 1 (.t 35) (.t 37))),
 (oP 41 (.load false 1 (.t 40))),
 (mV 11 39),
 (mV 12 41)])
 (.ops [(mV 42 10),
 (mV 43 11),
 (mV 44 12),
 (oP 45 (.indexAddrL 10 (.t 42) (.t 43))),
 (oP 46 (.fieldAddr 8 (.t 45))),
 (oU (.store 1 (.t 46) (.t 44)))])))
 (.ops [(oP 47 (.bin .add (.t 37) (.c (.int .i64 1)))),
 (mV 37 47)])))))))
 (.cut (.seq (.ops [(mV 48 10),
 (mV 49 1),
 (mV 50 2),
 (oP 51 (.callF 93 [(.t 48), (.t 49), (.c (.int .i64 3)), (.t 50)])),
 (mV 6 51),
 (oP 7 (.mv (.c (.int .i64 0))))])
 .ret))))))))
theorem F31 : FI 31 3 52 6 [.tmp 6, .tmp 7] c31 := ⟨⟨Tryz.f31, Tryz.func31, by kernel_rfl, by kernel_rfl, by kernel_rfl⟩, by kernel_rfl, by decide, by kernel_rfl⟩
/- f95 understory/page.joinedText: 17 temporaries, depth 5, 1 parameters, results [t2] -/
def c95 : RC :=
 (.seq (.ops [(oP 2 (.mv (.c (.str []))))])
 (.seq (.ops [(oP 3 (.alloc 115 [.nilp, (.lst 0 [] true)]))])
 (.seq (.seq (.ops [(mV 6 0),
 (oP 7 (.lenL (.t 6))),
 (oP 8 (.mv (.c (.int .i64 0))))])
 (.block 0
 (.loop
 (.seq (.ops [(oP 9 (.bin .lss (.t 8) (.t 7)))])
 (.seq (.cond (.t 9)
 .skip
 (.exit 0))
 (.seq (.block 1
 (.seq (.ops [(oP 10 (.indexAddrL 10 (.t 6) (.t 8))),
 (oP 11 (.load true 10 (.t 10))),
 (oP 5 (.alloc 25 [(.int .i64 0), (.int .i64 0), (.int .i64 0), (.int .i64 0), (.int .i64 0), (.bool false), (.lst 0 [] true), (.int .i64 0), (.str []), (.lst 0 [] true)])),
 (oU (.store 10 (.t 5) (.t 11)))])
 (.ops [(oP 12 (.fieldAddr 8 (.t 5))),
 (oP 13 (.load false 1 (.t 12))),
 (oP 14 (.callF 59 [(.t 3), (.t 13)]))])))
 (.ops [(oP 15 (.bin .add (.t 8) (.c (.int .i64 1)))),
 (mV 8 15)])))))))
 (.cut (.seq (.ops [(oP 16 (.callF 63 [(.t 3)])),
 (mV 2 16)])
 .ret)))))
theorem F95 : FI 95 1 17 5 [.tmp 2] c95 := ⟨⟨Tryz.f95, Tryz.func95, by kernel_rfl, by kernel_rfl, by kernel_rfl⟩, by kernel_rfl, by decide, by kernel_rfl⟩
/- f96 understory/page.numbersOf: 19 temporaries, depth 5, 1 parameters, results [t2] -/
def c96 : RC :=
 (.seq (.ops [(oP 2 (.mv (.c (.lst 0 [] true))))])
 (.seq (.ops [(oP 3 (.mv (.c (.lst 0 [] true))))])
 (.seq (.seq (.ops [(mV 6 0),
 (oP 7 (.lenL (.t 6))),
 (oP 8 (.mv (.c (.int .i64 0))))])
 (.block 0
 (.loop
 (.seq (.ops [(oP 9 (.bin .lss (.t 8) (.t 7)))])
 (.seq (.cond (.t 9)
 .skip
 (.exit 0))
 (.seq (.block 1
 (.seq (.ops [(oP 10 (.indexAddrL 10 (.t 6) (.t 8))),
 (oP 11 (.load true 10 (.t 10))),
 (oP 5 (.alloc 25 [(.int .i64 0), (.int .i64 0), (.int .i64 0), (.int .i64 0), (.int .i64 0), (.bool false), (.lst 0 [] true), (.int .i64 0), (.str []), (.lst 0 [] true)])),
 (oU (.store 10 (.t 5) (.t 11)))])
 (.ops [(mV 12 3),
 (oP 13 (.fieldAddr 1 (.t 5))),
 (oP 14 (.load false 1 (.t 13))),
 (oP 15 (.mkLst 1 false 1 [(.int .i64 0)] [(0, 1, (.t 14))])),
 (oP 16 (.app 3 1 (.t 12) (.t 15))),
 (mV 3 16)])))
 (.ops [(oP 17 (.bin .add (.t 8) (.c (.int .i64 1)))),
 (mV 8 17)])))))))
 (.cut (.seq (.ops [(mV 18 3),
 (mV 2 18)])
 .ret)))))
theorem F96 : FI 96 1 19 5 [.tmp 2] c96 := ⟨⟨Tryz.f96, Tryz.func96, by kernel_rfl, by kernel_rfl, by kernel_rfl⟩, by kernel_rfl, by decide, by kernel_rfl⟩
/- f97 slices.EqualFunc[[]understory/api.Page,[]understory/api.Page,understory/api.Page,understory/api.Page]: 32 temporaries, depth 6, 3 parameters, results [t6] -/
def c97 : RC :=
 (.seq (.ops [(oP 6 (.mv (.c (.bool false))))])
 (.seq (.seq (.ops [(mV 10 0),
 (oP 11 (.lenL (.t 10))),
 (mV 12 1),
 (oP 13 (.lenL (.t 12))),
 (oP 14 (.bin .neq (.t 11) (.t 13)))])
 (.cond (.t 14)
 (.seq (.ops [(oP 6 (.mv (.c (.bool false))))])
 .ret)
 .skip))
 (.seq (.seq (.ops [(mV 15 0),
 (oP 16 (.lenL (.t 15))),
 (oP 17 (.mv (.c (.int .i64 0))))])
 (.block 0
 (.loop
 (.seq (.ops [(oP 18 (.bin .lss (.t 17) (.t 16)))])
 (.seq (.cond (.t 18)
 .skip
 (.exit 0))
 (.seq (.block 1
 (.seq (.ops [(mV 19 17),
 (oP 20 (.indexAddrL 10 (.t 15) (.t 17))),
 (oP 21 (.load true 10 (.t 20))),
 (oP 8 (.alloc 25 [(.int .i64 0), (.int .i64 0), (.int .i64 0), (.int .i64 0), (.int .i64 0), (.bool false), (.lst 0 [] true), (.int .i64 0), (.str []), (.lst 0 [] true)])),
 (mV 7 19),
 (oU (.store 10 (.t 8) (.t 21)))])
 (.seq (.ops [(mV 22 1),
 (mV 23 7),
 (oP 24 (.indexAddrL 10 (.t 22) (.t 23))),
 (oP 25 (.load true 10 (.t 24))),
 (oP 9 (.alloc 25 [(.int .i64 0), (.int .i64 0), (.int .i64 0), (.int .i64 0), (.int .i64 0), (.bool false), (.lst 0 [] true), (.int .i64 0), (.str []), (.lst 0 [] true)])),
 (oU (.store 10 (.t 9) (.t 25)))])
 (.seq (.ops [(mV 26 2),
 (oP 27 (.load true 10 (.t 8))),
 (oP 28 (.load true 10 (.t 9))),
 (oP 29 (.callV (.t 26) [(.t 27), (.t 28)])),
 (oP 30 (.un .not (.t 29)))])
 (.cond (.t 30)
 (.seq (.ops [(oP 6 (.mv (.c (.bool false))))])
 .ret)
 .skip)))))
 (.ops [(oP 31 (.bin .add (.t 17) (.c (.int .i64 1)))),
 (mV 17 31)])))))))
 (.cut (.seq (.ops [(oP 6 (.mv (.c (.bool true))))])
 .ret)))))
theorem F97 : FI 97 3 32 6 [.tmp 6] c97 := ⟨⟨Tryz.f97, Tryz.func97, by kernel_rfl, by kernel_rfl, by kernel_rfl⟩, by kernel_rfl, by decide, by kernel_rfl⟩
/- f98 understory/page.same: 53 temporaries, depth 6, 2 parameters, results [t4] -/
def c98 : RC :=
 (.seq (.ops [(oP 2 (.box 25 (.t 0))),
 (oP 3 (.box 25 (.t 1))),
 (oP 4 (.mv (.c (.bool false))))])
 (.seq (.seq (.ops [(oP 5 (.fieldAddr 0 (.t 2))),
 (oP 6 (.load false 1 (.t 5))),
 (oP 7 (.fieldAddr 0 (.t 3))),
 (oP 8 (.load false 1 (.t 7))),
 (oP 9 (.bin .neq (.t 6) (.t 8))),
 (mV 10 9),
 (oG 11 10 false (.fieldAddr 1 (.t 2))),
 (oG 12 10 false (.load false 1 (.t 11))),
 (oG 13 10 false (.fieldAddr 1 (.t 3))),
 (oG 14 10 false (.load false 1 (.t 13))),
 (oG 15 10 false (.bin .neq (.t 12) (.t 14))),
 (oP 16 (.pick (.t 10) (.c (.bool true)) (.t 15))),
 (mV 17 16),
 (oG 18 17 false (.fieldAddr 2 (.t 2))),
 (oG 19 17 false (.load false 1 (.t 18))),
 (oG 20 17 false (.fieldAddr 2 (.t 3))),
 (oG 21 17 false (.load false 1 (.t 20))),
 (oG 22 17 false (.bin .neq (.t 19) (.t 21))),
 (oP 23 (.pick (.t 17) (.c (.bool true)) (.t 22))),
 (mV 24 23),
 (oG 25 24 false (.fieldAddr 7 (.t 2))),
 (oG 26 24 false (.load false 1 (.t 25))),
 (oG 27 24 false (.fieldAddr 7 (.t 3))),
 (oG 28 24 false (.load false 1 (.t 27))),
 (oG 29 24 false (.bin .neq (.t 26) (.t 28))),
 (oP 30 (.pick (.t 24) (.c (.bool true)) (.t 29))),
 (mV 31 30),
 (oG 32 31 false (.fieldAddr 8 (.t 2))),
 (oG 33 31 false (.load false 1 (.t 32))),
 (oG 34 31 false (.fieldAddr 8 (.t 3))),
 (oG 35 31 false (.load false 1 (.t 34))),
 (oG 36 31 false (.bin .neq (.t 33) (.t 35))),
 (oP 37 (.pick (.t 31) (.c (.bool true)) (.t 36))),
 (mV 38 37),
 (oG 39 38 false (.load true 10 (.t 2))),
 (oG 40 38 false (.callF 73 [(.t 39)])),
 (oG 41 38 false (.un .not (.t 40))),
 (oP 42 (.pick (.t 38) (.c (.bool true)) (.t 41))),
 (mV 43 42),
 (oG 44 43 false (.load true 10 (.t 3))),
 (oG 45 43 false (.callF 73 [(.t 44)])),
 (oG 46 43 false (.un .not (.t 45))),
 (oP 47 (.pick (.t 43) (.c (.bool true)) (.t 46)))])
 (.cond (.t 47)
 (.seq (.ops [(oP 4 (.mv (.c (.bool false))))])
 .ret)
 .skip))
 (.seq (.ops [(oP 48 (.fieldAddr 9 (.t 2))),
 (oP 49 (.load false 1 (.t 48))),
 (oP 50 (.fieldAddr 9 (.t 3))),
 (oP 51 (.load false 1 (.t 50))),
 (oP 52 (.callF 134 [(.t 49), (.t 51), (.c (.fn (.func 135) [] []))])),
 (mV 4 52)])
 .ret)))
theorem F98 : FI 98 2 53 6 [.tmp 4] c98 := ⟨⟨Tryz.f98, Tryz.func98, by kernel_rfl, by kernel_rfl, by kernel_rfl⟩, by kernel_rfl, by decide, by kernel_rfl⟩
/- f134 slices.EqualFunc[[]understory/api.Freed,[]understory/api.Freed,understory/api.Freed,understory/api.Freed]: 32 temporaries, depth 6, 3 parameters, results [t6] -/
def c134 : RC :=
 (.seq (.ops [(oP 6 (.mv (.c (.bool false))))])
 (.seq (.seq (.ops [(mV 10 0),
 (oP 11 (.lenL (.t 10))),
 (mV 12 1),
 (oP 13 (.lenL (.t 12))),
 (oP 14 (.bin .neq (.t 11) (.t 13)))])
 (.cond (.t 14)
 (.seq (.ops [(oP 6 (.mv (.c (.bool false))))])
 .ret)
 .skip))
 (.seq (.seq (.ops [(mV 15 0),
 (oP 16 (.lenL (.t 15))),
 (oP 17 (.mv (.c (.int .i64 0))))])
 (.block 0
 (.loop
 (.seq (.ops [(oP 18 (.bin .lss (.t 17) (.t 16)))])
 (.seq (.cond (.t 18)
 .skip
 (.exit 0))
 (.seq (.block 1
 (.seq (.ops [(mV 19 17),
 (oP 20 (.indexAddrL 2 (.t 15) (.t 17))),
 (oP 21 (.load true 2 (.t 20))),
 (oP 8 (.alloc 165 [(.int .i64 0), (.lst 0 [] true)])),
 (mV 7 19),
 (oU (.store 2 (.t 8) (.t 21)))])
 (.seq (.ops [(mV 22 1),
 (mV 23 7),
 (oP 24 (.indexAddrL 2 (.t 22) (.t 23))),
 (oP 25 (.load true 2 (.t 24))),
 (oP 9 (.alloc 165 [(.int .i64 0), (.lst 0 [] true)])),
 (oU (.store 2 (.t 9) (.t 25)))])
 (.seq (.ops [(mV 26 2),
 (oP 27 (.load true 2 (.t 8))),
 (oP 28 (.load true 2 (.t 9))),
 (oP 29 (.callV (.t 26) [(.t 27), (.t 28)])),
 (oP 30 (.un .not (.t 29)))])
 (.cond (.t 30)
 (.seq (.ops [(oP 6 (.mv (.c (.bool false))))])
 .ret)
 .skip)))))
 (.ops [(oP 31 (.bin .add (.t 17) (.c (.int .i64 1)))),
 (mV 17 31)])))))))
 (.cut (.seq (.ops [(oP 6 (.mv (.c (.bool true))))])
 .ret)))))
theorem F134 : FI 134 3 32 6 [.tmp 6] c134 := ⟨⟨Tryz.f134, Tryz.func134, by kernel_rfl, by kernel_rfl, by kernel_rfl⟩, by kernel_rfl, by decide, by kernel_rfl⟩
/- f135 understory/page.same$1: 17 temporaries, depth 5, 2 parameters, results [t4] -/
def c135 : RC :=
 (.seq (.ops [(oP 2 (.box 165 (.t 0))),
 (oP 3 (.box 165 (.t 1))),
 (oP 4 (.mv (.c (.bool false))))])
 (.seq (.ops [(oP 5 (.fieldAddr 0 (.t 2))),
 (oP 6 (.load false 1 (.t 5))),
 (oP 7 (.fieldAddr 0 (.t 3))),
 (oP 8 (.load false 1 (.t 7))),
 (oP 9 (.bin .eql (.t 6) (.t 8))),
 (mV 10 9),
 (oG 11 10 true (.fieldAddr 1 (.t 2))),
 (oG 12 10 true (.load false 1 (.t 11))),
 (oG 13 10 true (.fieldAddr 1 (.t 3))),
 (oG 14 10 true (.load false 1 (.t 13))),
 (oG 15 10 true (.callF 136 [(.t 12), (.t 14)])),
 (oP 16 (.pick (.t 10) (.t 15) (.c (.bool false)))),
 (mV 4 16)])
 .ret))
theorem F135 : FI 135 2 17 5 [.tmp 4] c135 := ⟨⟨Tryz.f135, Tryz.func135, by kernel_rfl, by kernel_rfl, by kernel_rfl⟩, by kernel_rfl, by decide, by kernel_rfl⟩
/- f136 slices.Equal[[]int,int]: 26 temporaries, depth 5, 2 parameters, results [t4] -/
def c136 : RC :=
 (.seq (.ops [(oP 4 (.mv (.c (.bool false))))])
 (.seq (.seq (.ops [(mV 6 0),
 (oP 7 (.lenL (.t 6))),
 (mV 8 1),
 (oP 9 (.lenL (.t 8))),
 (oP 10 (.bin .neq (.t 7) (.t 9)))])
 (.cond (.t 10)
 (.seq (.ops [(oP 4 (.mv (.c (.bool false))))])
 .ret)
 .skip))
 (.seq (.seq (.ops [(mV 11 0),
 (oP 12 (.lenL (.t 11))),
 (oP 13 (.mv (.c (.int .i64 0))))])
 (.block 0
 (.loop
 (.seq (.ops [(oP 14 (.bin .lss (.t 13) (.t 12)))])
 (.seq (.cond (.t 14)
 .skip
 (.exit 0))
 (.seq (.block 1
 (.seq (.ops [(mV 15 13),
 (mV 5 15)])
 (.seq (.draw [((mV 16 0), 0),
 ((mV 17 5), 0),
 ((oP 18 (.indexAddrL 1 (.t 16) (.t 17))), 0),
 ((oP 19 (.load false 1 (.t 18))), 1),
 ((mV 20 1), 0),
 ((mV 21 5), 0),
 ((oP 22 (.indexAddrL 1 (.t 20) (.t 21))), 0),
 ((oP 23 (.load false 1 (.t 22))), 1),
 ((oP 24 (.bin .neq (.t 19) (.t 23))), 0)])
 (.cond (.t 24)
 (.seq (.ops [(oP 4 (.mv (.c (.bool false))))])
 .ret)
 .skip))))
 (.ops [(oP 25 (.bin .add (.t 13) (.c (.int .i64 1)))),
 (mV 13 25)])))))))
 (.cut (.seq (.ops [(oP 4 (.mv (.c (.bool true))))])
 .ret)))))
theorem F136 : FI 136 2 26 5 [.tmp 4] c136 := ⟨⟨Tryz.f136, Tryz.func136, by kernel_rfl, by kernel_rfl, by kernel_rfl⟩, by kernel_rfl, by decide, by kernel_rfl⟩
/- f33 understory/page.Joined: 32 temporaries, depth 6, 1 parameters, results [t2, t3] -/
def c33 : RC :=
 (.seq (.ops [(oP 2 (.mv (.c (.str [])))),
 (oP 3 (.mv (.c (.int .i64 0))))])
 (.seq (.seq (.ops [(mV 7 0),
 (oP 8 (.lenL (.t 7))),
 (oP 9 (.bin .eql (.t 8) (.c (.int .i64 0))))])
 (.cond (.t 9)
 (.seq (.ops [(oP 2 (.mv (.c (.str [])))),
 (oP 3 (.mv (.c (.int .i64 2))))])
 .ret)
 .skip))
 (.seq (.ops [(mV 10 0),
 (oP 11 (.callF 95 [(.t 10)])),
 (mV 4 11)])
 (.seq (.draw [((mV 13 4), 0),
 ((mV 14 0), 0),
 ((oP 15 (.callF 96 [(.t 14)])), 0),
 ((mV 16 0), 0),
 ((oP 17 (.indexAddrL 10 (.t 16) (.c (.int .i64 0)))), 0),
 ((oP 18 (.fieldAddr 2 (.t 17))), 0),
 ((oP 19 (.load false 1 (.t 18))), 1),
 ((oP 20 (.callF 31 [(.t 13), (.t 15), (.t 19)])), 0),
 ((mV 12 20), 0),
 ((oP 21 (.extract (.t 12) 0)), 0),
 ((oP 22 (.extract (.t 12) 1)), 0),
 ((mV 5 21), 0),
 ((mV 6 22), 0)])
 (.seq (.seq (.ops [(mV 23 6),
 (oP 24 (.bin .neq (.t 23) (.c (.int .i64 0)))),
 (mV 25 24),
 (oG 26 25 false (.mv (.t 0))),
 (oG 27 25 false (.mv (.t 5))),
 (oG 28 25 false (.callF 97 [(.t 26), (.t 27), (.c (.fn (.func 98) [] []))])),
 (oG 29 25 false (.un .not (.t 28))),
 (oP 30 (.pick (.t 25) (.c (.bool true)) (.t 29)))])
 (.cond (.t 30)
 (.seq (.ops [(oP 2 (.mv (.c (.str [])))),
 (oP 3 (.mv (.c (.int .i64 2))))])
 .ret)
 .skip))
 (.seq (.ops [(mV 31 4),
 (mV 2 31),
 (oP 3 (.mv (.c (.int .i64 0))))])
 .ret))))))
theorem F33 : FI 33 1 32 6 [.tmp 2, .tmp 3] c33 := ⟨⟨Tryz.f33, Tryz.func33, by kernel_rfl, by kernel_rfl, by kernel_rfl⟩, by kernel_rfl, by decide, by kernel_rfl⟩
end Go.Proofs
/- Different numbers: sorted, and without equal neighbours, there are as many. -/
set_option linter.unusedVariables false
set_option linter.unusedSimpArgs false
namespace Go.Proofs
open Go Go.Abs
abbrev sortZ (l : List Int) : List Int := l.mergeSort fun x y => decide (x ≤ y)
theorem sortZ_len (l : List Int) : (sortZ l).length = l.length := List.length_mergeSort l
theorem compact_full (zs : List Int) : (Lib.compact zs).length = zs.length ↔ ∀ j (hj : j + 1 < zs.length), zs[j] ≠ zs[j + 1] := by
  have h1 : (Lib.compact zs).length = ((List.range zs.length).filter (Lib.keeps zs.toArray)).length := by
    unfold Lib.compact Lib.compactUpTo; rw [List.length_map]
  have h2 : ((List.range zs.length).filter (Lib.keeps zs.toArray)).length = zs.length ↔ ∀ j ∈ List.range zs.length, Lib.keeps zs.toArray j = true := by
    have h3 : ((List.range zs.length).filter (Lib.keeps zs.toArray)).length = (List.range zs.length).length ↔ _ := List.length_filter_eq_length_iff
    rw [List.length_range] at h3
    exact h3
  rw [h1, h2]
  constructor
  · intro h j hj e
    have := h (j + 1) (List.mem_range.2 hj)
    unfold Lib.keeps at this
    rw [decide_eq_true_eq] at this
    rcases this with h | h
    · omega
    · apply h
      rw [Nat.add_sub_cancel]
      simp only [List.getElem!_toArray]
      rw [getElem!_pos zs (j + 1) hj, getElem!_pos zs j (by omega), e]
  · intro h j hj
    have hj' := List.mem_range.1 hj
    unfold Lib.keeps
    rw [decide_eq_true_eq]
    by_cases e : j = 0
    · exact .inl e
    · right
      have := h (j - 1) (by omega)
      simp only [List.getElem!_toArray]
      rw [getElem!_pos zs j hj', getElem!_pos zs (j - 1) (by omega)]
      intro q
      apply this
      rw [← q]
      congr 1
      omega
/-- Sorted without equal neighbours: without equal ones. -/
theorem numbers_nodup (l : List Int) : (Lib.compact (sortZ l)).length = l.length ↔ l.Nodup := by
  have hp : (sortZ l).Perm l := List.mergeSort_perm l _
  have hs : List.Pairwise (fun a b : Int => decide (a ≤ b) = true) (sortZ l) := List.pairwise_mergeSort (le := fun x y : Int => decide (x ≤ y)) (fun a b c h1 h2 => by simp at *; omega) (fun a b => by simp; omega) l
  rw [← hp.nodup_iff]
  have hl : (sortZ l).length = l.length := sortZ_len l
  rw [← hl, compact_full]
  rw [List.pairwise_iff_getElem] at hs
  unfold List.Nodup
  rw [List.pairwise_iff_getElem]
  constructor
  · intro h i j hi hj hij
    have h1 := h i (by omega)
    have h2 : (sortZ l)[i] ≤ (sortZ l)[i + 1] := by simpa using hs i (i + 1) hi (by omega) (by omega)
    have h3 : (sortZ l)[i + 1] ≤ (sortZ l)[j] := by
      rcases Nat.lt_or_ge (i + 1) j with q | q
      · simpa using hs (i + 1) j (by omega) hj q
      · have : i + 1 = j := by omega
        subst this
        exact Int.le_refl _
    omega
  · intro h j hj
    exact h j (j + 1) (by omega) hj (by omega)
end Go.Proofs
/- The looked-up text of the functions. -/
namespace Go.Proofs
open Go Go.Abs
/- f123 (*understory/page.reader).text: 51 temporaries, depth 6, 2 parameters, results [t4] -/
def c123 : RC :=
 (.seq (.ops [(oP 4 (.mv (.c (.str []))))])
 (.seq (.seq (.draw [((mV 6 1), 0),
 ((mV 7 0), 0),
 ((oP 8 (.nilCheck (.t 7))), 0),
 ((oP 9 (.fieldAddr 0 (.t 8))), 0),
 ((oP 10 (.fieldAddr 0 (.t 9))), 0),
 ((oP 11 (.load false 1 (.t 10))), 1),
 ((oP 12 (.lenS (.t 11))), 0),
 ((mV 13 0), 0),
 ((oP 14 (.nilCheck (.t 13))), 0),
 ((oP 15 (.fieldAddr 0 (.t 14))), 0),
 ((oP 16 (.fieldAddr 1 (.t 15))), 0),
 ((oP 17 (.load false 1 (.t 16))), 1),
 ((oP 18 (.bin .sub (.t 12) (.t 17))), 0),
 ((oP 19 (.bin .gtr (.t 6) (.t 18))), 0)])
 (.cond (.t 19)
 (.ops [(oP 20 (.build [] [])),
 (oP 21 (.mkIfc 190 (.t 20))),
 ⟨none, none, .pan (.t 21)⟩])
 .skip))
 (.seq (.draw [((mV 22 0), 0),
 ((oP 23 (.nilCheck (.t 22))), 0),
 ((oP 24 (.fieldAddr 0 (.t 23))), 0),
 ((oP 25 (.fieldAddr 0 (.t 24))), 0),
 ((oP 26 (.load false 1 (.t 25))), 1),
 ((mV 27 0), 0),
 ((oP 28 (.nilCheck (.t 27))), 0),
 ((oP 29 (.fieldAddr 0 (.t 28))), 0),
 ((oP 30 (.fieldAddr 1 (.t 29))), 0),
 ((oP 31 (.load false 1 (.t 30))), 1),
 ((mV 32 0), 0),
 ((oP 33 (.nilCheck (.t 32))), 0),
 ((oP 34 (.fieldAddr 0 (.t 33))), 0),
 ((oP 35 (.fieldAddr 1 (.t 34))), 0),
 ((oP 36 (.load false 1 (.t 35))), 1),
 ((mV 37 1), 0),
 ((oP 38 (.bin .add (.t 36) (.t 37))), 0),
 ((oP 39 (.sliceS (.t 26) (some (.t 31)) (some (.t 38)))), 1),
 ((mV 5 39), 0)])
 (.seq (.ops [(mV 40 0),
 (oP 41 (.nilCheck (.t 40))),
 (oP 42 (.fieldAddr 0 (.t 41))),
 (oP 43 (.fieldAddr 1 (.t 42))),
 (oP 44 (.load false 1 (.t 43))),
 (mV 45 1),
 (oP 46 (.bin .add (.t 44) (.t 45))),
 (oP 47 (.nilCheck (.t 40))),
 (oP 48 (.fieldAddr 0 (.t 47))),
 (oP 49 (.fieldAddr 1 (.t 48))),
 (oU (.store 1 (.t 49) (.t 46)))])
 (.seq (.ops [(mV 50 5),
 (mV 4 50)])
 .ret)))))
theorem F123 : FI 123 2 51 6 [.tmp 4] c123 := ⟨⟨Tryz.f123, Tryz.func123, by kernel_rfl, by kernel_rfl, by kernel_rfl⟩, by kernel_rfl, by decide, by kernel_rfl⟩
/- f78 (*understory/page.reader).number: 24 temporaries, depth 5, 2 parameters, results [t4] -/
def c78 : RC :=
 (.seq (.ops [(oP 4 (.mv (.c (.int .i64 0))))])
 (.seq (.ops [(oP 5 (.mv (.c (.int .i64 0))))])
 (.seq (.seq (.ops [(mV 8 0),
 (mV 9 1),
 (oP 10 (.callF 123 [(.t 8), (.t 9)])),
 (oP 11 (.strBytes (.t 10))),
 (oP 12 (.lenL (.t 11))),
 (oP 13 (.mv (.c (.int .i64 0))))])
 (.block 0
 (.loop
 (.seq (.ops [(oP 14 (.bin .lss (.t 13) (.t 12)))])
 (.seq (.cond (.t 14)
 .skip
 (.exit 0))
 (.seq (.block 1
 (.seq (.ops [(oP 15 (.indexAddrL 1 (.t 11) (.t 13))),
 (oP 16 (.load false 1 (.t 15))),
 (mV 7 16)])
 (.ops [(mV 17 5),
 (oP 18 (.bin .shl (.t 17) (.c (.int .u64 8)))),
 (mV 19 7),
 (oP 20 (.toInt .i64 (.t 19))),
 (oP 21 (.bin .or (.t 18) (.t 20))),
 (mV 5 21)])))
 (.ops [(oP 22 (.bin .add (.t 13) (.c (.int .i64 1)))),
 (mV 13 22)])))))))
 (.cut (.seq (.ops [(mV 23 5),
 (mV 4 23)])
 .ret)))))
theorem F78 : FI 78 2 24 5 [.tmp 4] c78 := ⟨⟨Tryz.f78, Tryz.func78, by kernel_rfl, by kernel_rfl, by kernel_rfl⟩, by kernel_rfl, by decide, by kernel_rfl⟩
/- f189 (*understory/page.reader).sum: 9 temporaries, depth 4, 1 parameters, results [*t2] -/
def c189 : RC :=
 (.seq (.ops [(oP 2 (.alloc 54 [(.int .u8 0), (.int .u8 0), (.int .u8 0), (.int .u8 0), (.int .u8 0), (.int .u8 0), (.int .u8 0), (.int .u8 0), (.int .u8 0), (.int .u8 0), (.int .u8 0), (.int .u8 0), (.int .u8 0), (.int .u8 0), (.int .u8 0), (.int .u8 0)]))])
 (.seq (.ops [(oP 3 (.alloc 54 [(.int .u8 0), (.int .u8 0), (.int .u8 0), (.int .u8 0), (.int .u8 0), (.int .u8 0), (.int .u8 0), (.int .u8 0), (.int .u8 0), (.int .u8 0), (.int .u8 0), (.int .u8 0), (.int .u8 0), (.int .u8 0), (.int .u8 0), (.int .u8 0)]))])
 (.seq (.draw [((oP 4 (.sliceP 16 1 (.t 3) none none none)), 1),
 ((mV 5 0), 0),
 ((oP 6 (.callF 123 [(.t 5), (.c (.int .i64 16))])), 2),
 ((oP 7 (.cpy 1 (.t 4) (.t 6))), 2)])
 (.seq (.ops [(oP 8 (.load true 16 (.t 3))),
 (oU (.store 16 (.t 2) (.t 8)))])
 .ret))))
theorem F189 : FI 189 1 9 4 [.cell 2 54] c189 := ⟨⟨Tryz.f189, Tryz.func189, by kernel_rfl, by kernel_rfl, by kernel_rfl⟩, by kernel_rfl, by decide, by kernel_rfl⟩
/- f171 (*understory/page.reader).content: 52 temporaries, depth 6, 3 parameters, results [] -/
def c171 : RC :=
 (.seq (.ops [(oP 6 (.mv (.c (.int .i64 65534))))])
 (.seq (.seq (.ops [(mV 7 2),
 (oP 8 (.bin .eql (.t 7) (.c (.int .i64 0))))])
 (.cond (.t 8)
 (.ops [(mV 9 0),
 (oP 10 (.callF 78 [(.t 9), (.c (.int .i64 2))])),
 (mV 6 10)])
 .skip))
 (.cut (.seq (.ops [(mV 11 6)])
 (.block 0
 (.seq (.ops [(oP 19 (.bin .eql (.t 11) (.c (.int .i64 65535)))),
 (mV 18 19)])
 (.cond (.t 18)
 (.seq (.ops [(mV 20 1),
 (mV 21 1),
 (mV 22 0),
 (oP 23 (.callF 78 [(.t 22), (.c (.int .i64 4))])),
 (mV 24 0),
 (oP 25 (.callF 78 [(.t 24), (.c (.int .i64 2))])),
 (oP 26 (.nilCheck (.t 20))),
 (oP 27 (.fieldAddr 2 (.t 26))),
 (oU (.store 1 (.t 27) (.t 23))),
 (oP 28 (.nilCheck (.t 21))),
 (oP 29 (.fieldAddr 3 (.t 28))),
 (oU (.store 1 (.t 29) (.t 25)))])
 (.ops [(mV 30 1),
 (mV 31 0),
 (oP 32 (.callF 189 [(.t 31)])),
 (oP 33 (.nilCheck (.t 30))),
 (oP 34 (.fieldAddr 6 (.t 33))),
 (oU (.store 16 (.t 34) (.t 32)))]))
 (.seq (.ops [(oP 36 (.bin .eql (.t 11) (.c (.int .i64 65534)))),
 (mV 35 36)])
 (.cond (.t 35)
 (.seq (.ops [(mV 37 1),
 (mV 38 1),
 (mV 39 0),
 (oP 40 (.callF 78 [(.t 39), (.c (.int .i64 4))])),
 (mV 41 0),
 (oP 42 (.callF 78 [(.t 41), (.c (.int .i64 4))])),
 (oP 43 (.nilCheck (.t 37))),
 (oP 44 (.fieldAddr 4 (.t 43))),
 (oU (.store 1 (.t 44) (.t 40))),
 (oP 45 (.nilCheck (.t 38))),
 (oP 46 (.fieldAddr 5 (.t 45))),
 (oU (.store 1 (.t 46) (.t 42)))])
 (.ops [(mV 47 1),
 (mV 48 0),
 (oP 49 (.callF 189 [(.t 48)])),
 (oP 50 (.nilCheck (.t 47))),
 (oP 51 (.fieldAddr 6 (.t 50))),
 (oU (.store 16 (.t 51) (.t 49)))]))
 (.ops [(mV 12 1),
 (mV 13 0),
 (mV 14 6),
 (oP 15 (.callF 123 [(.t 13), (.t 14)])),
 (oP 16 (.nilCheck (.t 12))),
 (oP 17 (.fieldAddr 1 (.t 16))),
 (oU (.store 1 (.t 17) (.t 15)))]))))))))))
theorem F171 : FI 171 3 52 6 [] c171 := ⟨⟨Tryz.f171, Tryz.func171, by kernel_rfl, by kernel_rfl, by kernel_rfl⟩, by kernel_rfl, by decide, by kernel_rfl⟩
/- f152 (*understory/page.reader).entries: 10 temporaries, depth 4, 4 parameters, results [t8] -/
def c152 : RC :=
 (.seq (.ops [(oP 4 (.box 141 (.t 0))),
 (oP 5 (.box 3 (.t 1))),
 (oP 6 (.box 3 (.t 2))),
 (oP 7 (.box 9 (.t 3))),
 (oP 8 (.mv (.c .nilf)))])
 (.seq (.ops [(oP 9 (.mkFn (.func 170) [] [(.t 5), (.t 4), (.t 6), (.t 7)])),
 (mV 8 9)])
 .ret))
theorem F152 : FI 152 4 10 4 [.tmp 8] c152 := ⟨⟨Tryz.f152, Tryz.func152, by kernel_rfl, by kernel_rfl, by kernel_rfl⟩, by kernel_rfl, by decide, by kernel_rfl⟩
/- f170 (*understory/page.reader).entries$1: 38 temporaries, depth 6, 1 parameters, results [] -/
def c170 : RC :=
 (.seq (.ops [(oP 9 (.load false 1 (.t 1))),
 (oP 10 (.mv (.c (.int .i64 0))))])
 (.block 0
 (.loop
 (.seq (.ops [(oP 11 (.bin .lss (.t 10) (.t 9)))])
 (.seq (.cond (.t 11)
 .skip
 (.exit 0))
 (.seq (.block 1
 (.seq (.ops [(mV 12 10),
 (mV 6 12)])
 (.seq (.ops [(oP 7 (.alloc 56 [(.str []), (.str []), (.int .i64 0), (.int .i64 0), (.int .i64 0), (.int .i64 0), (.int .u8 0), (.int .u8 0), (.int .u8 0), (.int .u8 0), (.int .u8 0), (.int .u8 0), (.int .u8 0), (.int .u8 0), (.int .u8 0), (.int .u8 0), (.int .u8 0), (.int .u8 0), (.int .u8 0), (.int .u8 0), (.int .u8 0), (.int .u8 0)]))])
 (.seq (.draw [((oP 13 (.load false 1 (.t 2))), 1),
 ((oP 14 (.load false 1 (.t 2))), 1),
 ((oP 15 (.callF 78 [(.t 14), (.c (.int .i64 1))])), 2),
 ((oP 16 (.callF 123 [(.t 13), (.t 15)])), 2),
 ((mV 8 16), 0)])
 (.seq (.seq (.ops [(mV 17 6),
 (oP 18 (.bin .gtr (.t 17) (.c (.int .i64 0)))),
 (mV 19 18),
 (oG 20 19 false (.load false 1 (.t 3))),
 (oG 21 19 false (.bin .eql (.t 20) (.c (.int .i64 0)))),
 (oP 22 (.pick (.t 19) (.c (.bool true)) (.t 21)))])
 (.cond (.t 22)
 (.ops [(oP 23 (.load false 1 (.t 4))),
 (oP 24 (.fieldAddr 0 (.t 7))),
 (oU (.store 1 (.t 24) (.t 23)))])
 .skip))
 (.cut (.seq (.ops [(oP 25 (.fieldAddr 0 (.t 7))),
 (oP 26 (.load false 1 (.t 25))),
 (mV 27 8),
 (oP 28 (.bin .add (.t 26) (.t 27))),
 (oP 29 (.fieldAddr 0 (.t 7))),
 (oU (.store 1 (.t 29) (.t 28)))])
 (.seq (.ops [(oP 30 (.load false 1 (.t 2))),
 (oP 31 (.load false 1 (.t 3))),
 (oP 32 (.callF 171 [(.t 30), (.t 7), (.t 31)]))])
 (.seq (.ops [(mV 33 0),
 (oP 34 (.load true 22 (.t 7))),
 (oP 35 (.callV (.t 33) [(.t 34)])),
 (oP 36 (.un .not (.t 35)))])
 (.cond (.t 36)
 .ret
 .skip))))))))))
 (.cut (.ops [(oP 37 (.bin .add (.t 10) (.c (.int .i64 1)))),
 (mV 10 37)]))))))))
theorem F170 : FI 170 5 38 6 [] c170 := ⟨⟨Tryz.f170, Tryz.func170, by kernel_rfl, by kernel_rfl, by kernel_rfl⟩, by kernel_rfl, by decide, by kernel_rfl⟩
end Go.Proofs
/- The looked-up text of the functions. -/
namespace Go.Proofs
open Go Go.Abs
/- f108 (*strings.Builder).copyCheck: 20 temporaries, depth 5, 1 parameters, results [] -/
def c108 : RC :=
 (.seq (.ops [(mV 2 0),
 (oP 3 (.nilCheck (.t 2))),
 (oP 4 (.fieldAddr 0 (.t 3))),
 (oP 5 (.load false 1 (.t 4))),
 (oP 6 (.isNil false (.t 5)))])
 (.cond (.t 6)
 (.ops [(mV 7 0),
 (mV 8 0),
 (oP 9 (.toU (.t 8))),
 (mV 10 9),
 (oP 11 (.frU 115 (.t 10))),
 (oP 12 (.nilCheck (.t 7))),
 (oP 13 (.fieldAddr 0 (.t 12))),
 (oU (.store 1 (.t 13) (.t 11)))])
 (.seq (.ops [(mV 14 0),
 (oP 15 (.nilCheck (.t 14))),
 (oP 16 (.fieldAddr 0 (.t 15))),
 (oP 17 (.load false 1 (.t 16))),
 (mV 18 0),
 (oP 19 (.cmp true 113 (.t 17) (.t 18)))])
 (.cond (.t 19)
 (.raw (.refuse "(*strings.Builder).copyCheck builder.go:41: unsupported: a written strings.Builder's value in another place: whether the library's copy check passes hangs on where the compiler lays the two"))
 .skip))))
theorem F108 : FI 108 1 20 5 [] c108 := ⟨⟨Tryz.f108, Tryz.func108, by kernel_rfl, by kernel_rfl, by kernel_rfl⟩, by kernel_rfl, by decide, by kernel_rfl⟩
/- f56 (*strings.Builder).WriteByte: 17 temporaries, depth 5, 2 parameters, results [t4] -/
def c56 : RC :=
 (.seq (.ops [(oP 4 (.mv (.c .nili)))])
 (.seq (.ops [(mV 5 0),
 (oP 6 (.callF 108 [(.t 5)]))])
 (.seq (.ops [(mV 7 0),
 (mV 8 0),
 (oP 9 (.nilCheck (.t 8))),
 (oP 10 (.fieldAddr 1 (.t 9))),
 (oP 11 (.load false 1 (.t 10))),
 (mV 12 1),
 (oP 13 (.mkLst 1 false 1 [(.int .u8 0)] [(0, 1, (.t 12))])),
 (oP 14 (.app 5 1 (.t 11) (.t 13))),
 (oP 15 (.nilCheck (.t 7))),
 (oP 16 (.fieldAddr 1 (.t 15))),
 (oU (.store 1 (.t 16) (.t 14)))])
 (.seq (.ops [(oP 4 (.mv (.c .nili)))])
 .ret))))
theorem F56 : FI 56 2 17 5 [.tmp 4] c56 := ⟨⟨Tryz.f56, Tryz.func56, by kernel_rfl, by kernel_rfl, by kernel_rfl⟩, by kernel_rfl, by decide, by kernel_rfl⟩
/- f59 (*strings.Builder).WriteString: 19 temporaries, depth 5, 2 parameters, results [t4, t5] -/
def c59 : RC :=
 (.seq (.ops [(oP 4 (.mv (.c (.int .i64 0)))),
 (oP 5 (.mv (.c .nili)))])
 (.seq (.ops [(mV 6 0),
 (oP 7 (.callF 108 [(.t 6)]))])
 (.seq (.ops [(mV 8 0),
 (mV 9 0),
 (oP 10 (.nilCheck (.t 9))),
 (oP 11 (.fieldAddr 1 (.t 10))),
 (oP 12 (.load false 1 (.t 11))),
 (mV 13 1),
 (oP 14 (.app 5 1 (.t 12) (.t 13))),
 (oP 15 (.nilCheck (.t 8))),
 (oP 16 (.fieldAddr 1 (.t 15))),
 (oU (.store 1 (.t 16) (.t 14)))])
 (.seq (.ops [(mV 17 1),
 (oP 18 (.lenS (.t 17))),
 (mV 4 18),
 (oP 5 (.mv (.c .nili)))])
 .ret))))
theorem F59 : FI 59 2 19 5 [.tmp 4, .tmp 5] c59 := ⟨⟨Tryz.f59, Tryz.func59, by kernel_rfl, by kernel_rfl, by kernel_rfl⟩, by kernel_rfl, by decide, by kernel_rfl⟩
/- f61 (*strings.Builder).Len: 8 temporaries, depth 4, 1 parameters, results [t2] -/
def c61 : RC :=
 (.seq (.ops [(oP 2 (.mv (.c (.int .i64 0))))])
 (.seq (.ops [(mV 3 0),
 (oP 4 (.nilCheck (.t 3))),
 (oP 5 (.fieldAddr 1 (.t 4))),
 (oP 6 (.load false 1 (.t 5))),
 (oP 7 (.lenL (.t 6))),
 (mV 2 7)])
 .ret))
theorem F61 : FI 61 1 8 4 [.tmp 2] c61 := ⟨⟨Tryz.f61, Tryz.func61, by kernel_rfl, by kernel_rfl, by kernel_rfl⟩, by kernel_rfl, by decide, by kernel_rfl⟩
/- f63 (*strings.Builder).String: 14 temporaries, depth 4, 1 parameters, results [t2] -/
def c63 : RC :=
 (.seq (.ops [(oP 2 (.mv (.c (.str []))))])
 (.seq (.draw [((mV 3 0), 0),
 ((oP 4 (.nilCheck (.t 3))), 0),
 ((oP 5 (.fieldAddr 1 (.t 4))), 0),
 ((oP 6 (.load false 1 (.t 5))), 1),
 ((oP 7 (.uData (.t 6))), 0),
 ((mV 8 0), 0),
 ((oP 9 (.nilCheck (.t 8))), 0),
 ((oP 10 (.fieldAddr 1 (.t 9))), 0),
 ((oP 11 (.load false 1 (.t 10))), 1),
 ((oP 12 (.lenL (.t 11))), 0),
 ((oP 13 (.uStr 5 (.t 7) (.t 12))), 2),
 ((mV 2 13), 0)])
 .ret))
theorem F63 : FI 63 1 14 4 [.tmp 2] c63 := ⟨⟨Tryz.f63, Tryz.func63, by kernel_rfl, by kernel_rfl, by kernel_rfl⟩, by kernel_rfl, by decide, by kernel_rfl⟩
/- f57 (*understory/page.writer).number: 22 temporaries, depth 5, 3 parameters, results [] -/
def c57 : RC :=
 (.seq (.ops [(mV 7 2),
 (oP 8 (.bin .sub (.t 7) (.c (.int .i64 1)))),
 (mV 6 8)])
 (.block 0
 (.loop
 (.seq (.seq (.ops [(mV 9 6),
 (oP 10 (.bin .geq (.t 9) (.c (.int .i64 0))))])
 (.cond (.t 10)
 .skip
 (.exit 0)))
 (.seq (.block 1
 (.draw [((mV 13 0), 0),
 ((oP 14 (.nilCheck (.t 13))), 0),
 ((oP 15 (.fieldAddr 0 (.t 14))), 0),
 ((mV 16 1), 0),
 ((mV 17 6), 0),
 ((oP 18 (.bin .mul (.c (.int .i64 8)) (.t 17))), 0),
 ((oP 19 (.bin .shr (.t 16) (.t 18))), 0),
 ((oP 20 (.toInt .u8 (.t 19))), 0),
 ((oP 21 (.callF 56 [(.t 15), (.t 20)])), 2)]))
 (.ops [(mV 11 6),
 (oP 12 (.bin .sub (.t 11) (.c (.int .i64 1)))),
 (mV 6 12)]))))))
theorem F57 : FI 57 3 22 5 [] c57 := ⟨⟨Tryz.f57, Tryz.func57, by kernel_rfl, by kernel_rfl, by kernel_rfl⟩, by kernel_rfl, by decide, by kernel_rfl⟩
/- f86 (*understory/page.writer).sum: 10 temporaries, depth 4, 2 parameters, results [] -/
def c86 : RC :=
 (.seq (.ops [(oP 3 (.box 54 (.t 1)))])
 (.draw [((mV 4 0), 0),
 ((oP 5 (.nilCheck (.t 4))), 0),
 ((oP 6 (.fieldAddr 0 (.t 5))), 0),
 ((oP 7 (.sliceP 16 1 (.t 3) none none none)), 1),
 ((oP 8 (.bytesStr (.t 7))), 3),
 ((oP 9 (.callF 59 [(.t 6), (.t 8)])), 2)]))
theorem F86 : FI 86 2 10 4 [] c86 := ⟨⟨Tryz.f86, Tryz.func86, by kernel_rfl, by kernel_rfl, by kernel_rfl⟩, by kernel_rfl, by decide, by kernel_rfl⟩
end Go.Proofs
/- The looked-up text of the functions. -/
namespace Go.Proofs
open Go Go.Abs
/- f24 understory/understorylaw04.few: 33 temporaries, depth 6, 1 parameters, results [t2] -/
def c24 : RC :=
 (.seq (.ops [(oP 2 (.mv (.c (.bool false))))])
 (.seq (.seq (.ops [(oP 3 (.mv (.c (.int .i64 0))))])
 (.block 0
 (.loop
 (.seq (.seq (.ops [(mV 4 3),
 (mV 5 0),
 (oP 6 (.lenL (.t 5))),
 (oP 7 (.bin .lss (.t 4) (.t 6))),
 (mV 8 7),
 (oG 9 8 true (.mv (.t 3))),
 (oG 10 8 true (.bin .leq (.t 9) (.c (.int .i64 100)))),
 (oP 11 (.pick (.t 8) (.t 10) (.c (.bool false))))])
 (.cond (.t 11)
 .skip
 (.exit 0)))
 (.seq (.block 1
 (.seq (.ops [(mV 14 0),
 (mV 15 3),
 (oP 16 (.indexAddrL 22 (.t 14) (.t 15))),
 (oP 17 (.fieldAddr 0 (.t 16))),
 (oP 18 (.load false 1 (.t 17))),
 (oP 19 (.lenS (.t 18))),
 (oP 20 (.bin .gtr (.t 19) (.c (.int .i64 300)))),
 (mV 21 20),
 (oG 22 21 false (.mv (.t 0))),
 (oG 23 21 false (.mv (.t 3))),
 (oG 24 21 false (.indexAddrL 22 (.t 22) (.t 23))),
 (oG 25 21 false (.fieldAddr 1 (.t 24))),
 (oG 26 21 false (.load false 1 (.t 25))),
 (oG 27 21 false (.lenS (.t 26))),
 (oG 28 21 false (.bin .gtr (.t 27) (.c (.int .i64 300)))),
 (oP 29 (.pick (.t 21) (.c (.bool true)) (.t 28)))])
 (.cond (.t 29)
 (.seq (.ops [(oP 2 (.mv (.c (.bool false))))])
 .ret)
 .skip)))
 (.ops [(mV 12 3),
 (oP 13 (.bin .add (.t 12) (.c (.int .i64 1)))),
 (mV 3 13)]))))))
 (.cut (.seq (.ops [(mV 30 0),
 (oP 31 (.lenL (.t 30))),
 (oP 32 (.bin .leq (.t 31) (.c (.int .i64 100)))),
 (mV 2 32)])
 .ret))))
theorem F24 : FI 24 1 33 6 [.tmp 2] c24 := ⟨⟨Tryz.f24, Tryz.func24, by kernel_rfl, by kernel_rfl, by kernel_rfl⟩, by kernel_rfl, by decide, by kernel_rfl⟩
/- f47 understory/page.Size: 37 temporaries, depth 6, 2 parameters, results [t4, t5] -/
/- f48 understory/page.Weight: 33 temporaries, depth 6, 2 parameters, results [t4, t5] -/
def c48 : RC :=
 (.seq (.ops [(oP 4 (.mv (.c (.int .i64 0)))),
 (oP 5 (.mv (.c (.int .i64 0))))])
 (.seq (.seq (.ops [(mV 11 1),
 (oP 12 (.callF 71 [(.t 11), (.c (.int .i64 0)), (.c (.int .i64 20))])),
 (oP 13 (.un .not (.t 12)))])
 (.cond (.t 13)
 (.seq (.ops [(oP 4 (.mv (.c (.int .i64 0)))),
 (oP 5 (.mv (.c (.int .i64 2))))])
 .ret)
 .skip))
 (.seq (.ops [(oP 6 (.mv (.c (.int .i64 6))))])
 (.seq (.seq (.ops [(mV 14 0),
 (oP 15 (.lenL (.t 14))),
 (oP 16 (.mv (.c (.int .i64 0))))])
 (.block 0
 (.loop
 (.seq (.ops [(oP 17 (.bin .lss (.t 16) (.t 15)))])
 (.seq (.cond (.t 17)
 .skip
 (.exit 0))
 (.seq (.block 1
 (.seq (.ops [(oP 18 (.indexAddrL 22 (.t 14) (.t 16))),
 (oP 19 (.load true 22 (.t 18))),
 (oP 8 (.alloc 56 [(.str []), (.str []), (.int .i64 0), (.int .i64 0), (.int .i64 0), (.int .i64 0), (.int .u8 0), (.int .u8 0), (.int .u8 0), (.int .u8 0), (.int .u8 0), (.int .u8 0), (.int .u8 0), (.int .u8 0), (.int .u8 0), (.int .u8 0), (.int .u8 0), (.int .u8 0), (.int .u8 0), (.int .u8 0), (.int .u8 0), (.int .u8 0)])),
 (oU (.store 22 (.t 8) (.t 19)))])
 (.seq (.ops [(oP 21 (.load true 22 (.t 8))),
 (mV 22 1),
 (oP 23 (.callF 105 [(.t 21), (.t 22)])),
 (mV 20 23),
 (oP 24 (.extract (.t 20) 0)),
 (oP 25 (.extract (.t 20) 1)),
 (mV 9 24),
 (mV 10 25)])
 (.seq (.seq (.ops [(mV 26 10),
 (oP 27 (.un .not (.t 26)))])
 (.cond (.t 27)
 (.seq (.ops [(oP 4 (.mv (.c (.int .i64 0)))),
 (oP 5 (.mv (.c (.int .i64 2))))])
 .ret)
 .skip))
 (.ops [(mV 28 6),
 (mV 29 9),
 (oP 30 (.bin .add (.t 28) (.t 29))),
 (mV 6 30)])))))
 (.ops [(oP 31 (.bin .add (.t 16) (.c (.int .i64 1)))),
 (mV 16 31)])))))))
 (.cut (.seq (.ops [(mV 32 6),
 (mV 4 32),
 (oP 5 (.mv (.c (.int .i64 0))))])
 .ret))))))
theorem F48 : FI 48 2 33 6 [.tmp 4, .tmp 5] c48 := ⟨⟨Tryz.f48, Tryz.func48, by kernel_rfl, by kernel_rfl, by kernel_rfl⟩, by kernel_rfl, by decide, by kernel_rfl⟩
/- f46 understory/page.Prefix: 13 temporaries, depth 4, 2 parameters, results [t4, t5] -/
/- f85 understory/page.Valid: 78 temporaries, depth 7, 2 parameters, results [t4] -/
def c85 : RC :=
 (.seq (.ops [(oP 4 (.mv (.c (.bool false))))])
 (.seq (.seq (.ops [(mV 7 1),
 (oP 8 (.callF 71 [(.t 7), (.c (.int .i64 0)), (.c (.int .i64 20))])),
 (oP 9 (.un .not (.t 8))),
 (mV 10 9),
 (oG 11 10 false (.mv (.t 0))),
 (oG 12 10 false (.lenL (.t 11))),
 (oG 13 10 false (.bin .eql (.t 12) (.c (.int .i64 0)))),
 (oP 14 (.pick (.t 10) (.c (.bool true)) (.t 13))),
 (mV 15 14),
 (oG 16 15 false (.mv (.t 1))),
 (oG 17 15 false (.bin .gtr (.t 16) (.c (.int .i64 0)))),
 (oG 18 15 false (.mv (.t 17))),
 (oG 19 18 true (.mv (.t 0))),
 (oG 20 18 true (.lenL (.t 19))),
 (oG 21 18 true (.bin .lss (.t 20) (.c (.int .i64 2)))),
 (oG 22 18 true (.mv (.t 21))),
 (oG 23 22 false (.mv (.t 0))),
 (oG 24 22 false (.indexAddrL 22 (.t 23) (.c (.int .i64 0)))),
 (oG 25 22 false (.fieldAddr 0 (.t 24))),
 (oG 26 22 false (.load false 1 (.t 25))),
 (oG 27 22 false (.bin .neq (.t 26) (.c (.str [])))),
 (oG 28 18 true (.pick (.t 22) (.c (.bool true)) (.t 27))),
 (oG 29 15 false (.pick (.t 18) (.t 28) (.c (.bool false)))),
 (oP 30 (.pick (.t 15) (.c (.bool true)) (.t 29)))])
 (.cond (.t 30)
 (.seq (.ops [(oP 4 (.mv (.c (.bool false))))])
 .ret)
 .skip))
 (.seq (.seq (.ops [(mV 31 0),
 (oP 32 (.lenL (.t 31))),
 (oP 33 (.mv (.c (.int .i64 0))))])
 (.block 0
 (.loop
 (.seq (.ops [(oP 34 (.bin .lss (.t 33) (.t 32)))])
 (.seq (.cond (.t 34)
 .skip
 (.exit 0))
 (.seq (.block 1
 (.seq (.ops [(mV 35 33),
 (oP 36 (.indexAddrL 22 (.t 31) (.t 33))),
 (oP 37 (.load true 22 (.t 36))),
 (oP 6 (.alloc 56 [(.str []), (.str []), (.int .i64 0), (.int .i64 0), (.int .i64 0), (.int .i64 0), (.int .u8 0), (.int .u8 0), (.int .u8 0), (.int .u8 0), (.int .u8 0), (.int .u8 0), (.int .u8 0), (.int .u8 0), (.int .u8 0), (.int .u8 0), (.int .u8 0), (.int .u8 0), (.int .u8 0), (.int .u8 0), (.int .u8 0), (.int .u8 0)])),
 (mV 5 35),
 (oU (.store 22 (.t 6) (.t 37)))])
 (.block 2
 (.seq (.seq (.ops [(mV 39 1),
 (oP 40 (.bin .eql (.t 39) (.c (.int .i64 0)))),
 (mV 41 40),
 (oG 42 41 true (.load true 22 (.t 6))),
 (oG 43 41 true (.callF 125 [(.t 42)])),
 (oG 44 41 true (.bin .eql (.t 43) (.c (.int .i64 0)))),
 (oP 45 (.pick (.t 41) (.t 44) (.c (.bool false)))),
 (mV 38 45)])
 (.cond (.t 38)
 .skip
 (.ops [(mV 46 1),
 (oP 47 (.bin .gtr (.t 46) (.c (.int .i64 0)))),
 (mV 48 47),
 (oG 49 48 true (.load true 22 (.t 6))),
 (oG 50 48 true (.callF 126 [(.t 49)])),
 (oG 51 48 true (.un .not (.t 50))),
 (oG 52 48 true (.mv (.t 51))),
 (oG 53 52 false (.mv (.t 5))),
 (oG 54 52 false (.bin .gtr (.t 53) (.c (.int .i64 0)))),
 (oG 55 52 false (.mv (.t 54))),
 (oG 56 55 true (.fieldAddr 0 (.t 6))),
 (oG 57 55 true (.load false 1 (.t 56))),
 (oG 58 55 true (.bin .eql (.t 57) (.c (.str [])))),
 (oG 59 52 false (.pick (.t 55) (.t 58) (.c (.bool false)))),
 (oG 60 48 true (.pick (.t 52) (.c (.bool true)) (.t 59))),
 (oP 61 (.pick (.t 48) (.t 60) (.c (.bool false)))),
 (mV 38 61)])))
 (.cond (.t 38)
 (.seq (.ops [(oP 4 (.mv (.c (.bool false))))])
 .ret)
 (.seq (.draw [((mV 63 5), 0),
 ((oP 64 (.bin .gtr (.t 63) (.c (.int .i64 0)))), 0),
 ((mV 65 64), 0),
 ((oG 66 65 true (.mv (.t 0))), 0),
 ((oG 67 65 true (.mv (.t 5))), 0),
 ((oG 68 65 true (.bin .sub (.t 67) (.c (.int .i64 1)))), 0),
 ((oG 69 65 true (.indexAddrL 22 (.t 66) (.t 68))), 0),
 ((oG 70 65 true (.fieldAddr 0 (.t 69))), 0),
 ((oG 71 65 true (.load false 1 (.t 70))), 1),
 ((oG 72 65 true (.fieldAddr 0 (.t 6))), 0),
 ((oG 73 65 true (.load false 1 (.t 72))), 1),
 ((oG 74 65 true (.callF 83 [(.t 71), (.t 73)])), 0),
 ((oG 75 65 true (.bin .geq (.t 74) (.c (.int .i64 0)))), 0),
 ((oP 76 (.pick (.t 65) (.t 75) (.c (.bool false)))), 0),
 ((mV 62 76), 0)])
 (.cond (.t 62)
 (.seq (.ops [(oP 4 (.mv (.c (.bool false))))])
 .ret)
 .skip)))))))
 (.ops [(oP 77 (.bin .add (.t 33) (.c (.int .i64 1)))),
 (mV 33 77)])))))))
 (.cut (.seq (.ops [(oP 4 (.mv (.c (.bool true))))])
 .ret)))))
theorem F85 : FI 85 2 78 7 [.tmp 4] c85 := ⟨⟨Tryz.f85, Tryz.func85, by kernel_rfl, by kernel_rfl, by kernel_rfl⟩, by kernel_rfl, by decide, by kernel_rfl⟩
/- f72 understory/page.Fits: 19 temporaries, depth 5, 2 parameters, results [t4] -/
def c72 : RC :=
 (.seq (.ops [(oP 4 (.mv (.c (.bool false))))])
 (.seq (.seq (.ops [(mV 7 0),
 (mV 8 1),
 (oP 9 (.callF 85 [(.t 7), (.t 8)])),
 (oP 10 (.un .not (.t 9)))])
 (.cond (.t 10)
 (.seq (.ops [(oP 4 (.mv (.c (.bool false))))])
 .ret)
 .skip))
 (.seq (.ops [(mV 12 0),
 (mV 13 1),
 (oP 14 (.callF 48 [(.t 12), (.t 13)])),
 (mV 11 14),
 (oP 15 (.extract (.t 11) 0)),
 (oP 16 (.extract (.t 11) 1)),
 (mV 5 15),
 (mV 6 16)])
 (.seq (.ops [(mV 17 5),
 (oP 18 (.bin .leq (.t 17) (.c (.int .i64 496)))),
 (mV 4 18)])
 .ret))))
theorem F72 : FI 72 2 19 5 [.tmp 4] c72 := ⟨⟨Tryz.f72, Tryz.func72, by kernel_rfl, by kernel_rfl, by kernel_rfl⟩, by kernel_rfl, by decide, by kernel_rfl⟩
/- f49 understory/page.Capacity: 1 temporaries, depth 2, 0 parameters, results [t0] -/
/- f104 understory/page.shared: 31 temporaries, depth 6, 2 parameters, results [t4] -/
def c104 : RC :=
 (.seq (.ops [(oP 4 (.mv (.c (.str []))))])
 (.seq (.seq (.ops [(mV 8 1),
 (oP 9 (.bin .gtr (.t 8) (.c (.int .i64 0))))])
 (.cond (.t 9)
 (.ops [(mV 10 0),
 (oP 11 (.sliceL 22 (.t 10) (some (.c (.int .i64 1))) none none)),
 (mV 0 11)])
 .skip))
 (.cut (.seq (.ops [(mV 12 0),
 (oP 13 (.indexAddrL 22 (.t 12) (.c (.int .i64 0)))),
 (oP 14 (.fieldAddr 0 (.t 13))),
 (oP 15 (.load false 1 (.t 14))),
 (mV 5 15)])
 (.seq (.seq (.ops [(mV 16 0),
 (oP 17 (.sliceL 22 (.t 16) (some (.c (.int .i64 1))) none none)),
 (oP 18 (.lenL (.t 17))),
 (oP 19 (.mv (.c (.int .i64 0))))])
 (.block 0
 (.loop
 (.seq (.ops [(oP 20 (.bin .lss (.t 19) (.t 18)))])
 (.seq (.cond (.t 20)
 .skip
 (.exit 0))
 (.seq (.block 1
 (.seq (.ops [(oP 21 (.indexAddrL 22 (.t 17) (.t 19))),
 (oP 22 (.load true 22 (.t 21))),
 (oP 7 (.alloc 56 [(.str []), (.str []), (.int .i64 0), (.int .i64 0), (.int .i64 0), (.int .i64 0), (.int .u8 0), (.int .u8 0), (.int .u8 0), (.int .u8 0), (.int .u8 0), (.int .u8 0), (.int .u8 0), (.int .u8 0), (.int .u8 0), (.int .u8 0), (.int .u8 0), (.int .u8 0), (.int .u8 0), (.int .u8 0), (.int .u8 0), (.int .u8 0)])),
 (oU (.store 22 (.t 7) (.t 22)))])
 (.ops [(mV 23 5),
 (mV 24 5),
 (oP 25 (.fieldAddr 0 (.t 7))),
 (oP 26 (.load false 1 (.t 25))),
 (oP 27 (.callF 140 [(.t 24), (.t 26)])),
 (oP 28 (.sliceS (.t 23) none (some (.t 27)))),
 (mV 5 28)])))
 (.ops [(oP 29 (.bin .add (.t 19) (.c (.int .i64 1)))),
 (mV 19 29)])))))))
 (.cut (.seq (.ops [(mV 30 5),
 (mV 4 30)])
 .ret)))))))
theorem F104 : FI 104 2 31 6 [.tmp 4] c104 := ⟨⟨Tryz.f104, Tryz.func104, by kernel_rfl, by kernel_rfl, by kernel_rfl⟩, by kernel_rfl, by decide, by kernel_rfl⟩
/- f71 understory/page.within: 15 temporaries, depth 5, 3 parameters, results [t6] -/
def c71 : RC :=
 (.seq (.ops [(oP 6 (.mv (.c (.bool false))))])
 (.seq (.ops [(mV 7 1),
 (mV 8 0),
 (oP 9 (.bin .leq (.t 7) (.t 8))),
 (mV 10 9),
 (oG 11 10 true (.mv (.t 0))),
 (oG 12 10 true (.mv (.t 2))),
 (oG 13 10 true (.bin .leq (.t 11) (.t 12))),
 (oP 14 (.pick (.t 10) (.t 13) (.c (.bool false)))),
 (mV 6 14)])
 .ret))
theorem F71 : FI 71 3 15 5 [.tmp 6] c71 := ⟨⟨Tryz.f71, Tryz.func71, by kernel_rfl, by kernel_rfl, by kernel_rfl⟩, by kernel_rfl, by decide, by kernel_rfl⟩
/- f105 understory/page.weigh: 38 temporaries, depth 6, 2 parameters, results [t4, t5] -/
def c105 : RC :=
 (.seq (.ops [(oP 2 (.box 56 (.t 0))),
 (oP 4 (.mv (.c (.int .i64 0)))),
 (oP 5 (.mv (.c (.bool false))))])
 (.seq (.seq (.ops [(mV 6 1),
 (oP 7 (.bin .gtr (.t 6) (.c (.int .i64 0))))])
 (.cond (.t 7)
 (.seq (.draw [((oP 8 (.fieldAddr 0 (.t 2))), 0),
 ((oP 9 (.load false 1 (.t 8))), 1),
 ((oP 10 (.lenS (.t 9))), 0),
 ((oP 11 (.bin .add (.t 10) (.c (.int .i64 27)))), 0),
 ((oP 12 (.load true 22 (.t 2))), 1),
 ((oP 13 (.callF 126 [(.t 12)])), 0),
 ((mV 4 11), 0),
 ((mV 5 13), 0)])
 .ret)
 .skip))
 (.seq (.seq (.ops [(oP 14 (.load true 22 (.t 2))),
 (oP 15 (.callF 125 [(.t 14)]))])
 (.block 0
 (.seq (.ops [(oP 17 (.bin .eql (.t 15) (.c (.int .i64 1)))),
 (mV 16 17)])
 (.cond (.t 16)
 (.seq (.ops [(oP 18 (.fieldAddr 0 (.t 2))),
 (oP 19 (.load false 1 (.t 18))),
 (oP 20 (.lenS (.t 19))),
 (oP 21 (.fieldAddr 1 (.t 2))),
 (oP 22 (.load false 1 (.t 21))),
 (oP 23 (.lenS (.t 22))),
 (oP 24 (.bin .add (.t 20) (.t 23))),
 (oP 25 (.bin .add (.t 24) (.c (.int .i64 5)))),
 (mV 4 25),
 (oP 5 (.mv (.c (.bool true))))])
 .ret)
 (.seq (.ops [(oP 27 (.bin .eql (.t 15) (.c (.int .i64 2)))),
 (mV 26 27)])
 (.cond (.t 26)
 (.seq (.ops [(oP 28 (.fieldAddr 0 (.t 2))),
 (oP 29 (.load false 1 (.t 28))),
 (oP 30 (.lenS (.t 29))),
 (oP 31 (.bin .add (.t 30) (.c (.int .i64 27)))),
 (mV 4 31),
 (oP 5 (.mv (.c (.bool true))))])
 .ret)
 (.seq (.ops [(oP 33 (.bin .eql (.t 15) (.c (.int .i64 3)))),
 (mV 32 33)])
 (.cond (.t 32)
 (.seq (.ops [(oP 34 (.fieldAddr 0 (.t 2))),
 (oP 35 (.load false 1 (.t 34))),
 (oP 36 (.lenS (.t 35))),
 (oP 37 (.bin .add (.t 36) (.c (.int .i64 29)))),
 (mV 4 37),
 (oP 5 (.mv (.c (.bool true))))])
 .ret)
 .skip))))))))
 (.seq (.ops [(oP 4 (.mv (.c (.int .i64 0)))),
 (oP 5 (.mv (.c (.bool false))))])
 .ret))))
theorem F105 : FI 105 2 38 6 [.tmp 4, .tmp 5] c105 := ⟨⟨Tryz.f105, Tryz.func105, by kernel_rfl, by kernel_rfl, by kernel_rfl⟩, by kernel_rfl, by decide, by kernel_rfl⟩
/- f125 understory/page.formOf: 83 temporaries, depth 7, 1 parameters, results [t2] -/
def c125 : RC :=
 (.seq (.ops [(oP 1 (.box 56 (.t 0))),
 (oP 2 (.mv (.c (.int .i64 0))))])
 (.seq (.ops [(oP 3 (.alloc 54 [(.int .u8 0), (.int .u8 0), (.int .u8 0), (.int .u8 0), (.int .u8 0), (.int .u8 0), (.int .u8 0), (.int .u8 0), (.int .u8 0), (.int .u8 0), (.int .u8 0), (.int .u8 0), (.int .u8 0), (.int .u8 0), (.int .u8 0), (.int .u8 0)]))])
 (.seq (.block 0
 (.seq (.ops [(oP 5 (.fieldAddr 0 (.t 1))),
 (oP 6 (.load false 1 (.t 5))),
 (oP 7 (.lenS (.t 6))),
 (oP 8 (.callF 71 [(.t 7), (.c (.int .i64 1)), (.c (.int .i64 48))])),
 (oP 9 (.un .not (.t 8))),
 (mV 4 9)])
 (.cond (.t 4)
 (.seq (.ops [(oP 2 (.mv (.c (.int .i64 0))))])
 .ret)
 (.seq (.ops [(oP 11 (.fieldAddr 2 (.t 1))),
 (oP 12 (.load false 1 (.t 11))),
 (oP 13 (.bin .eql (.t 12) (.c (.int .i64 0)))),
 (mV 14 13),
 (oG 15 14 true (.fieldAddr 3 (.t 1))),
 (oG 16 14 true (.load false 1 (.t 15))),
 (oG 17 14 true (.bin .eql (.t 16) (.c (.int .i64 0)))),
 (oP 18 (.pick (.t 14) (.t 17) (.c (.bool false)))),
 (mV 19 18),
 (oG 20 19 true (.fieldAddr 4 (.t 1))),
 (oG 21 19 true (.load false 1 (.t 20))),
 (oG 22 19 true (.bin .eql (.t 21) (.c (.int .i64 0)))),
 (oP 23 (.pick (.t 19) (.t 22) (.c (.bool false)))),
 (mV 24 23),
 (oG 25 24 true (.fieldAddr 5 (.t 1))),
 (oG 26 24 true (.load false 1 (.t 25))),
 (oG 27 24 true (.bin .eql (.t 26) (.c (.int .i64 0)))),
 (oP 28 (.pick (.t 24) (.t 27) (.c (.bool false)))),
 (mV 29 28),
 (oG 30 29 true (.fieldAddr 6 (.t 1))),
 (oG 31 29 true (.load true 16 (.t 30))),
 (oG 32 29 true (.load true 16 (.t 3))),
 (oG 33 29 true (.cmp false 54 (.t 31) (.t 32))),
 (oP 34 (.pick (.t 29) (.t 33) (.c (.bool false)))),
 (mV 35 34),
 (oG 36 35 true (.fieldAddr 1 (.t 1))),
 (oG 37 35 true (.load false 1 (.t 36))),
 (oG 38 35 true (.lenS (.t 37))),
 (oG 39 35 true (.bin .leq (.t 38) (.c (.int .i64 64)))),
 (oP 40 (.pick (.t 35) (.t 39) (.c (.bool false)))),
 (mV 10 40)])
 (.cond (.t 10)
 (.seq (.ops [(oP 2 (.mv (.c (.int .i64 1))))])
 .ret)
 (.seq (.ops [(oP 42 (.fieldAddr 1 (.t 1))),
 (oP 43 (.load false 1 (.t 42))),
 (oP 44 (.bin .neq (.t 43) (.c (.str [])))),
 (mV 41 44)])
 (.cond (.t 41)
 (.seq (.ops [(oP 2 (.mv (.c (.int .i64 0))))])
 .ret)
 (.seq (.ops [(oP 46 (.fieldAddr 4 (.t 1))),
 (oP 47 (.load false 1 (.t 46))),
 (oP 48 (.bin .eql (.t 47) (.c (.int .i64 0)))),
 (mV 49 48),
 (oG 50 49 true (.fieldAddr 5 (.t 1))),
 (oG 51 49 true (.load false 1 (.t 50))),
 (oG 52 49 true (.bin .eql (.t 51) (.c (.int .i64 0)))),
 (oP 53 (.pick (.t 49) (.t 52) (.c (.bool false)))),
 (mV 54 53),
 (oG 55 54 true (.fieldAddr 2 (.t 1))),
 (oG 56 54 true (.load false 1 (.t 55))),
 (oG 57 54 true (.callF 70 [(.t 56)])),
 (oP 58 (.pick (.t 54) (.t 57) (.c (.bool false)))),
 (mV 59 58),
 (oG 60 59 true (.fieldAddr 3 (.t 1))),
 (oG 61 59 true (.load false 1 (.t 60))),
 (oG 62 59 true (.callF 71 [(.t 61), (.c (.int .i64 65)), (.c (.int .i64 4000))])),
 (oP 63 (.pick (.t 59) (.t 62) (.c (.bool false)))),
 (mV 45 63)])
 (.cond (.t 45)
 (.seq (.ops [(oP 2 (.mv (.c (.int .i64 2))))])
 .ret)
 (.seq (.ops [(oP 65 (.fieldAddr 2 (.t 1))),
 (oP 66 (.load false 1 (.t 65))),
 (oP 67 (.bin .eql (.t 66) (.c (.int .i64 0)))),
 (mV 68 67),
 (oG 69 68 true (.fieldAddr 3 (.t 1))),
 (oG 70 68 true (.load false 1 (.t 69))),
 (oG 71 68 true (.bin .eql (.t 70) (.c (.int .i64 0)))),
 (oP 72 (.pick (.t 68) (.t 71) (.c (.bool false)))),
 (mV 73 72),
 (oG 74 73 true (.fieldAddr 4 (.t 1))),
 (oG 75 73 true (.load false 1 (.t 74))),
 (oG 76 73 true (.callF 70 [(.t 75)])),
 (oP 77 (.pick (.t 73) (.t 76) (.c (.bool false)))),
 (mV 78 77),
 (oG 79 78 true (.fieldAddr 5 (.t 1))),
 (oG 80 78 true (.load false 1 (.t 79))),
 (oG 81 78 true (.callF 71 [(.t 80), (.c (.int .i64 1)), (.c (.int .i64 2147483647))])),
 (oP 82 (.pick (.t 78) (.t 81) (.c (.bool false)))),
 (mV 64 82)])
 (.cond (.t 64)
 (.seq (.ops [(oP 2 (.mv (.c (.int .i64 3))))])
 .ret)
 .skip)))))))))))
 (.seq (.ops [(oP 2 (.mv (.c (.int .i64 0))))])
 .ret))))
theorem F125 : FI 125 1 83 7 [.tmp 2] c125 := ⟨⟨Tryz.f125, Tryz.func125, by kernel_rfl, by kernel_rfl, by kernel_rfl⟩, by kernel_rfl, by decide, by kernel_rfl⟩
/- f126 understory/page.branches: 32 temporaries, depth 6, 1 parameters, results [t2] -/
def c126 : RC :=
 (.seq (.ops [(oP 1 (.box 56 (.t 0))),
 (oP 2 (.mv (.c (.bool false))))])
 (.seq (.ops [(oP 3 (.fieldAddr 0 (.t 1))),
 (oP 4 (.load false 1 (.t 3))),
 (oP 5 (.lenS (.t 4))),
 (oP 6 (.bin .leq (.t 5) (.c (.int .i64 48)))),
 (mV 7 6),
 (oG 8 7 true (.fieldAddr 1 (.t 1))),
 (oG 9 7 true (.load false 1 (.t 8))),
 (oG 10 7 true (.bin .eql (.t 9) (.c (.str [])))),
 (oP 11 (.pick (.t 7) (.t 10) (.c (.bool false)))),
 (mV 12 11),
 (oG 13 12 true (.fieldAddr 2 (.t 1))),
 (oG 14 12 true (.load false 1 (.t 13))),
 (oG 15 12 true (.bin .eql (.t 14) (.c (.int .i64 0)))),
 (oP 16 (.pick (.t 12) (.t 15) (.c (.bool false)))),
 (mV 17 16),
 (oG 18 17 true (.fieldAddr 3 (.t 1))),
 (oG 19 17 true (.load false 1 (.t 18))),
 (oG 20 17 true (.bin .eql (.t 19) (.c (.int .i64 0)))),
 (oP 21 (.pick (.t 17) (.t 20) (.c (.bool false)))),
 (mV 22 21),
 (oG 23 22 true (.fieldAddr 4 (.t 1))),
 (oG 24 22 true (.load false 1 (.t 23))),
 (oG 25 22 true (.callF 70 [(.t 24)])),
 (oP 26 (.pick (.t 22) (.t 25) (.c (.bool false)))),
 (mV 27 26),
 (oG 28 27 true (.fieldAddr 5 (.t 1))),
 (oG 29 27 true (.load false 1 (.t 28))),
 (oG 30 27 true (.callF 71 [(.t 29), (.c (.int .i64 1)), (.c (.int .i64 2147483647))])),
 (oP 31 (.pick (.t 27) (.t 30) (.c (.bool false)))),
 (mV 2 31)])
 .ret))
theorem F126 : FI 126 1 32 6 [.tmp 2] c126 := ⟨⟨Tryz.f126, Tryz.func126, by kernel_rfl, by kernel_rfl, by kernel_rfl⟩, by kernel_rfl, by decide, by kernel_rfl⟩
/- f83 understory/enc.Compare: 8 temporaries, depth 4, 2 parameters, results [t4] -/
def c83 : RC :=
 (.seq (.ops [(oP 4 (.mv (.c (.int .i64 0))))])
 (.seq (.ops [(mV 5 0),
 (mV 6 1),
 (oP 7 (.callF 124 [(.t 5), (.t 6)])),
 (mV 4 7)])
 .ret))
theorem F83 : FI 83 2 8 4 [.tmp 4] c83 := ⟨⟨Tryz.f83, Tryz.func83, by kernel_rfl, by kernel_rfl, by kernel_rfl⟩, by kernel_rfl, by decide, by kernel_rfl⟩
/- f70 understory/page.numbered: 5 temporaries, depth 3, 1 parameters, results [t2] -/
def c70 : RC :=
 (.seq (.ops [(oP 2 (.mv (.c (.bool false))))])
 (.seq (.ops [(mV 3 0),
 (oP 4 (.callF 71 [(.t 3), (.c (.int .i64 2)), (.c (.int .i64 4095))])),
 (mV 2 4)])
 .ret))
theorem F70 : FI 70 1 5 3 [.tmp 2] c70 := ⟨⟨Tryz.f70, Tryz.func70, by kernel_rfl, by kernel_rfl, by kernel_rfl⟩, by kernel_rfl, by decide, by kernel_rfl⟩
/- f140 understory/enc.Prefix: 25 temporaries, depth 5, 2 parameters, results [t4] -/
def c140 : RC :=
 (.seq (.ops [(oP 4 (.mv (.c (.int .i64 0))))])
 (.seq (.ops [(oP 5 (.mv (.c (.int .i64 0))))])
 (.seq (.block 0
 (.loop
 (.seq (.seq (.draw [((mV 6 5), 0),
 ((mV 7 0), 0),
 ((oP 8 (.lenS (.t 7))), 0),
 ((mV 9 1), 0),
 ((oP 10 (.lenS (.t 9))), 0),
 ((oP 11 (.mm false (.t 8) (.t 10))), 0),
 ((oP 12 (.bin .lss (.t 6) (.t 11))), 0),
 ((mV 13 12), 0),
 ((oG 14 13 true (.mv (.t 0))), 0),
 ((oG 15 13 true (.mv (.t 5))), 0),
 ((oG 16 13 true (.indexS (.t 14) (.t 15))), 0),
 ((oG 17 13 true (.mv (.t 1))), 0),
 ((oG 18 13 true (.mv (.t 5))), 0),
 ((oG 19 13 true (.indexS (.t 17) (.t 18))), 0),
 ((oG 20 13 true (.bin .eql (.t 16) (.t 19))), 0),
 ((oP 21 (.pick (.t 13) (.t 20) (.c (.bool false)))), 0)])
 (.cond (.t 21)
 .skip
 (.exit 0)))
 (.block 1
 (.ops [(mV 22 5),
 (oP 23 (.bin .add (.t 22) (.c (.int .i64 1)))),
 (mV 5 23)])))))
 (.cut (.seq (.ops [(mV 24 5),
 (mV 4 24)])
 .ret)))))
theorem F140 : FI 140 2 25 5 [.tmp 4] c140 := ⟨⟨Tryz.f140, Tryz.func140, by kernel_rfl, by kernel_rfl, by kernel_rfl⟩, by kernel_rfl, by decide, by kernel_rfl⟩
/- f124 cmp.Compare[string]: 20 temporaries, depth 5, 2 parameters, results [t4] -/
def c124 : RC :=
 (.seq (.ops [(oP 4 (.mv (.c (.int .i64 0))))])
 (.seq (.ops [(mV 7 0),
 (oP 8 (.callF 154 [(.t 7)])),
 (mV 5 8)])
 (.seq (.ops [(mV 9 1),
 (oP 10 (.callF 154 [(.t 9)])),
 (mV 6 10)])
 (.seq (.seq (.ops [(mV 11 5)])
 (.cond (.t 11)
 (.seq (.seq (.ops [(mV 12 6)])
 (.cond (.t 12)
 (.seq (.ops [(oP 4 (.mv (.c (.int .i64 0))))])
 .ret)
 .skip))
 (.seq (.ops [(oP 4 (.mv (.c (.int .i64 (-1)))))])
 .ret))
 .skip))
 (.seq (.seq (.ops [(mV 13 6)])
 (.cond (.t 13)
 (.seq (.ops [(oP 4 (.mv (.c (.int .i64 1))))])
 .ret)
 .skip))
 (.seq (.seq (.ops [(mV 14 0),
 (mV 15 1),
 (oP 16 (.bin .lss (.t 14) (.t 15)))])
 (.cond (.t 16)
 (.seq (.ops [(oP 4 (.mv (.c (.int .i64 (-1)))))])
 .ret)
 .skip))
 (.seq (.seq (.ops [(mV 17 0),
 (mV 18 1),
 (oP 19 (.bin .gtr (.t 17) (.t 18)))])
 (.cond (.t 19)
 (.seq (.ops [(oP 4 (.mv (.c (.int .i64 1))))])
 .ret)
 .skip))
 (.seq (.ops [(oP 4 (.mv (.c (.int .i64 0))))])
 .ret))))))))
theorem F124 : FI 124 2 20 5 [.tmp 4] c124 := ⟨⟨Tryz.f124, Tryz.func124, by kernel_rfl, by kernel_rfl, by kernel_rfl⟩, by kernel_rfl, by decide, by kernel_rfl⟩
/- f154 cmp.isNaN[string]: 6 temporaries, depth 3, 1 parameters, results [t2] -/
def c154 : RC :=
 (.seq (.ops [(oP 2 (.mv (.c (.bool false))))])
 (.seq (.ops [(mV 3 0),
 (mV 4 0),
 (oP 5 (.bin .neq (.t 3) (.t 4))),
 (mV 2 5)])
 .ret))
theorem F154 : FI 154 1 6 3 [.tmp 2] c154 := ⟨⟨Tryz.f154, Tryz.func154, by kernel_rfl, by kernel_rfl, by kernel_rfl⟩, by kernel_rfl, by decide, by kernel_rfl⟩
end Go.Proofs
/- The looked-up text of the functions. -/
namespace Go.Proofs
open Go Go.Abs
/- f112 understory/digest.CRC: 5 temporaries, depth 3, 1 parameters, results [t2] -/
def c112 : RC :=
 (.seq (.ops [(oP 2 (.mv (.c (.int .u32 0))))])
 (.seq (.ops [(mV 3 0),
 (oP 4 (.callF 149 [(.c (.int .u32 0)), (.t 3)])),
 (mV 2 4)])
 .ret))
theorem F112 : FI 112 1 5 3 [.tmp 2] c112 := ⟨⟨Tryz.f112, Tryz.func112, by kernel_rfl, by kernel_rfl, by kernel_rfl⟩, by kernel_rfl, by decide, by kernel_rfl⟩
/- f149 understory/digest.Extend: 30 temporaries, depth 5, 2 parameters, results [t4] -/
def c149 : RC :=
 (.seq (.ops [(oP 4 (.mv (.c (.int .u32 0))))])
 (.seq (.ops [(oP 8 (.callF 168 [])),
 (oP 5 (.alloc 244 [(.int .u32 0), (.int .u32 0), (.int .u32 0), (.int .u32 0), (.int .u32 0), (.int .u32 0), (.int .u32 0), (.int .u32 0), (.int .u32 0), (.int .u32 0), (.int .u32 0), (.int .u32 0), (.int .u32 0), (.int .u32 0), (.int .u32 0), (.int .u32 0), (.int .u32 0), (.int .u32 0), (.int .u32 0), (.int .u32 0), (.int .u32 0), (.int .u32 0), (.int .u32 0), (.int .u32 0), (.int .u32 0), (.int .u32 0), (.int .u32 0), (.int .u32 0), (.int .u32 0), (.int .u32 0), (.int .u32 0), (.int .u32 0), (.int .u32 0), (.int .u32 0), (.int .u32 0), (.int .u32 0), (.int .u32 0), (.int .u32 0), (.int .u32 0), (.int .u32 0), (.int .u32 0), (.int .u32 0), (.int .u32 0), (.int .u32 0), (.int .u32 0), (.int .u32 0), (.int .u32 0), (.int .u32 0), (.int .u32 0), (.int .u32 0), (.int .u32 0), (.int .u32 0), (.int .u32 0), (.int .u32 0), (.int .u32 0), (.int .u32 0), (.int .u32 0), (.int .u32 0), (.int .u32 0), (.int .u32 0), (.int .u32 0), (.int .u32 0), (.int .u32 0), (.int .u32 0), (.int .u32 0), (.int .u32 0), (.int .u32 0), (.int .u32 0), (.int .u32 0), (.int .u32 0), (.int .u32 0), (.int .u32 0), (.int .u32 0), (.int .u32 0), (.int .u32 0), (.int .u32 0), (.int .u32 0), (.int .u32 0), (.int .u32 0), (.int .u32 0), (.int .u32 0), (.int .u32 0), (.int .u32 0), (.int .u32 0), (.int .u32 0), (.int .u32 0), (.int .u32 0), (.int .u32 0), (.int .u32 0), (.int .u32 0), (.int .u32 0), (.int .u32 0), (.int .u32 0), (.int .u32 0), (.int .u32 0), (.int .u32 0), (.int .u32 0), (.int .u32 0), (.int .u32 0), (.int .u32 0), (.int .u32 0), (.int .u32 0), (.int .u32 0), (.int .u32 0), (.int .u32 0), (.int .u32 0), (.int .u32 0), (.int .u32 0), (.int .u32 0), (.int .u32 0), (.int .u32 0), (.int .u32 0), (.int .u32 0), (.int .u32 0), (.int .u32 0), (.int .u32 0), (.int .u32 0), (.int .u32 0), (.int .u32 0), (.int .u32 0), (.int .u32 0), (.int .u32 0), (.int .u32 0), (.int .u32 0), (.int .u32 0), (.int .u32 0), (.int .u32 0), (.int .u32 0), (.int .u32 0), (.int .u32 0), (.int .u32 0), (.int .u32 0), (.int .u32 0), (.int .u32 0), (.int .u32 0), (.int .u32 0), (.int .u32 0), (.int .u32 0), (.int .u32 0), (.int .u32 0), (.int .u32 0), (.int .u32 0), (.int .u32 0), (.int .u32 0), (.int .u32 0), (.int .u32 0), (.int .u32 0), (.int .u32 0), (.int .u32 0), (.int .u32 0), (.int .u32 0), (.int .u32 0), (.int .u32 0), (.int .u32 0), (.int .u32 0), (.int .u32 0), (.int .u32 0), (.int .u32 0), (.int .u32 0), (.int .u32 0), (.int .u32 0), (.int .u32 0), (.int .u32 0), (.int .u32 0), (.int .u32 0), (.int .u32 0), (.int .u32 0), (.int .u32 0), (.int .u32 0), (.int .u32 0), (.int .u32 0), (.int .u32 0), (.int .u32 0), (.int .u32 0), (.int .u32 0), (.int .u32 0), (.int .u32 0), (.int .u32 0), (.int .u32 0), (.int .u32 0), (.int .u32 0), (.int .u32 0), (.int .u32 0), (.int .u32 0), (.int .u32 0), (.int .u32 0), (.int .u32 0), (.int .u32 0), (.int .u32 0), (.int .u32 0), (.int .u32 0), (.int .u32 0), (.int .u32 0), (.int .u32 0), (.int .u32 0), (.int .u32 0), (.int .u32 0), (.int .u32 0), (.int .u32 0), (.int .u32 0), (.int .u32 0), (.int .u32 0), (.int .u32 0), (.int .u32 0), (.int .u32 0), (.int .u32 0), (.int .u32 0), (.int .u32 0), (.int .u32 0), (.int .u32 0), (.int .u32 0), (.int .u32 0), (.int .u32 0), (.int .u32 0), (.int .u32 0), (.int .u32 0), (.int .u32 0), (.int .u32 0), (.int .u32 0), (.int .u32 0), (.int .u32 0), (.int .u32 0), (.int .u32 0), (.int .u32 0), (.int .u32 0), (.int .u32 0), (.int .u32 0), (.int .u32 0), (.int .u32 0), (.int .u32 0), (.int .u32 0), (.int .u32 0), (.int .u32 0), (.int .u32 0), (.int .u32 0), (.int .u32 0), (.int .u32 0), (.int .u32 0), (.int .u32 0), (.int .u32 0), (.int .u32 0), (.int .u32 0), (.int .u32 0), (.int .u32 0), (.int .u32 0), (.int .u32 0), (.int .u32 0), (.int .u32 0), (.int .u32 0), (.int .u32 0), (.int .u32 0), (.int .u32 0), (.int .u32 0), (.int .u32 0), (.int .u32 0), (.int .u32 0)])),
 (oU (.store 256 (.t 5) (.t 8)))])
 (.seq (.ops [(mV 9 0),
 (oP 10 (.un .xor (.t 9))),
 (mV 6 10)])
 (.seq (.seq (.ops [(mV 11 1),
 (oP 12 (.lenS (.t 11))),
 (oP 13 (.mv (.c (.int .i64 0))))])
 (.block 0
 (.loop
 (.seq (.ops [(oP 14 (.bin .lss (.t 13) (.t 12)))])
 (.seq (.cond (.t 14)
 .skip
 (.exit 0))
 (.seq (.block 1
 (.seq (.ops [(mV 15 13),
 (mV 7 15)])
 (.ops [(mV 16 6),
 (oP 17 (.toInt .u8 (.t 16))),
 (mV 18 1),
 (mV 19 7),
 (oP 20 (.indexS (.t 18) (.t 19))),
 (oP 21 (.bin .xor (.t 17) (.t 20))),
 (oP 22 (.indexAddrA 256 1 (.t 5) (.t 21))),
 (oP 23 (.load false 1 (.t 22))),
 (mV 24 6),
 (oP 25 (.bin .shr (.t 24) (.c (.int .u64 8)))),
 (oP 26 (.bin .xor (.t 23) (.t 25))),
 (mV 6 26)])))
 (.ops [(oP 27 (.bin .add (.t 13) (.c (.int .i64 1)))),
 (mV 13 27)])))))))
 (.cut (.seq (.ops [(mV 28 6),
 (oP 29 (.un .xor (.t 28))),
 (mV 4 29)])
 .ret))))))
theorem F149 : FI 149 2 30 5 [.tmp 4] c149 := ⟨⟨Tryz.f149, Tryz.func149, by kernel_rfl, by kernel_rfl, by kernel_rfl⟩, by kernel_rfl, by decide, by kernel_rfl⟩
/- f168 understory/digest.table: 18 temporaries, depth 5, 0 parameters, results [*t0] -/
def c168 : RC :=
 (.seq (.ops [(oP 0 (.alloc 244 [(.int .u32 0), (.int .u32 0), (.int .u32 0), (.int .u32 0), (.int .u32 0), (.int .u32 0), (.int .u32 0), (.int .u32 0), (.int .u32 0), (.int .u32 0), (.int .u32 0), (.int .u32 0), (.int .u32 0), (.int .u32 0), (.int .u32 0), (.int .u32 0), (.int .u32 0), (.int .u32 0), (.int .u32 0), (.int .u32 0), (.int .u32 0), (.int .u32 0), (.int .u32 0), (.int .u32 0), (.int .u32 0), (.int .u32 0), (.int .u32 0), (.int .u32 0), (.int .u32 0), (.int .u32 0), (.int .u32 0), (.int .u32 0), (.int .u32 0), (.int .u32 0), (.int .u32 0), (.int .u32 0), (.int .u32 0), (.int .u32 0), (.int .u32 0), (.int .u32 0), (.int .u32 0), (.int .u32 0), (.int .u32 0), (.int .u32 0), (.int .u32 0), (.int .u32 0), (.int .u32 0), (.int .u32 0), (.int .u32 0), (.int .u32 0), (.int .u32 0), (.int .u32 0), (.int .u32 0), (.int .u32 0), (.int .u32 0), (.int .u32 0), (.int .u32 0), (.int .u32 0), (.int .u32 0), (.int .u32 0), (.int .u32 0), (.int .u32 0), (.int .u32 0), (.int .u32 0), (.int .u32 0), (.int .u32 0), (.int .u32 0), (.int .u32 0), (.int .u32 0), (.int .u32 0), (.int .u32 0), (.int .u32 0), (.int .u32 0), (.int .u32 0), (.int .u32 0), (.int .u32 0), (.int .u32 0), (.int .u32 0), (.int .u32 0), (.int .u32 0), (.int .u32 0), (.int .u32 0), (.int .u32 0), (.int .u32 0), (.int .u32 0), (.int .u32 0), (.int .u32 0), (.int .u32 0), (.int .u32 0), (.int .u32 0), (.int .u32 0), (.int .u32 0), (.int .u32 0), (.int .u32 0), (.int .u32 0), (.int .u32 0), (.int .u32 0), (.int .u32 0), (.int .u32 0), (.int .u32 0), (.int .u32 0), (.int .u32 0), (.int .u32 0), (.int .u32 0), (.int .u32 0), (.int .u32 0), (.int .u32 0), (.int .u32 0), (.int .u32 0), (.int .u32 0), (.int .u32 0), (.int .u32 0), (.int .u32 0), (.int .u32 0), (.int .u32 0), (.int .u32 0), (.int .u32 0), (.int .u32 0), (.int .u32 0), (.int .u32 0), (.int .u32 0), (.int .u32 0), (.int .u32 0), (.int .u32 0), (.int .u32 0), (.int .u32 0), (.int .u32 0), (.int .u32 0), (.int .u32 0), (.int .u32 0), (.int .u32 0), (.int .u32 0), (.int .u32 0), (.int .u32 0), (.int .u32 0), (.int .u32 0), (.int .u32 0), (.int .u32 0), (.int .u32 0), (.int .u32 0), (.int .u32 0), (.int .u32 0), (.int .u32 0), (.int .u32 0), (.int .u32 0), (.int .u32 0), (.int .u32 0), (.int .u32 0), (.int .u32 0), (.int .u32 0), (.int .u32 0), (.int .u32 0), (.int .u32 0), (.int .u32 0), (.int .u32 0), (.int .u32 0), (.int .u32 0), (.int .u32 0), (.int .u32 0), (.int .u32 0), (.int .u32 0), (.int .u32 0), (.int .u32 0), (.int .u32 0), (.int .u32 0), (.int .u32 0), (.int .u32 0), (.int .u32 0), (.int .u32 0), (.int .u32 0), (.int .u32 0), (.int .u32 0), (.int .u32 0), (.int .u32 0), (.int .u32 0), (.int .u32 0), (.int .u32 0), (.int .u32 0), (.int .u32 0), (.int .u32 0), (.int .u32 0), (.int .u32 0), (.int .u32 0), (.int .u32 0), (.int .u32 0), (.int .u32 0), (.int .u32 0), (.int .u32 0), (.int .u32 0), (.int .u32 0), (.int .u32 0), (.int .u32 0), (.int .u32 0), (.int .u32 0), (.int .u32 0), (.int .u32 0), (.int .u32 0), (.int .u32 0), (.int .u32 0), (.int .u32 0), (.int .u32 0), (.int .u32 0), (.int .u32 0), (.int .u32 0), (.int .u32 0), (.int .u32 0), (.int .u32 0), (.int .u32 0), (.int .u32 0), (.int .u32 0), (.int .u32 0), (.int .u32 0), (.int .u32 0), (.int .u32 0), (.int .u32 0), (.int .u32 0), (.int .u32 0), (.int .u32 0), (.int .u32 0), (.int .u32 0), (.int .u32 0), (.int .u32 0), (.int .u32 0), (.int .u32 0), (.int .u32 0), (.int .u32 0), (.int .u32 0), (.int .u32 0), (.int .u32 0), (.int .u32 0), (.int .u32 0), (.int .u32 0), (.int .u32 0), (.int .u32 0), (.int .u32 0), (.int .u32 0), (.int .u32 0), (.int .u32 0), (.int .u32 0), (.int .u32 0), (.int .u32 0), (.int .u32 0), (.int .u32 0), (.int .u32 0), (.int .u32 0), (.int .u32 0), (.int .u32 0), (.int .u32 0), (.int .u32 0), (.int .u32 0), (.int .u32 0), (.int .u32 0), (.int .u32 0), (.int .u32 0), (.int .u32 0), (.int .u32 0)]))])
 (.seq (.seq (.ops [(oP 3 (.mv (.c (.int .i64 0))))])
 (.block 0
 (.loop
 (.seq (.ops [(oP 4 (.bin .lss (.t 3) (.c (.int .i64 256))))])
 (.seq (.cond (.t 4)
 .skip
 (.exit 0))
 (.seq (.block 1
 (.seq (.ops [(mV 5 3),
 (mV 1 5)])
 (.seq (.ops [(mV 6 1),
 (oP 7 (.toInt .u32 (.t 6))),
 (mV 2 7)])
 (.seq (.seq (.ops [(oP 8 (.mv (.c (.int .i64 0))))])
 (.block 2
 (.loop
 (.seq (.ops [(oP 9 (.bin .lss (.t 8) (.c (.int .i64 8))))])
 (.seq (.cond (.t 9)
 .skip
 (.exit 2))
 (.seq (.block 3
 (.ops [(mV 10 2),
 (oP 11 (.callF 188 [(.t 10)])),
 (mV 2 11)]))
 (.ops [(oP 12 (.bin .add (.t 8) (.c (.int .i64 1)))),
 (mV 8 12)])))))))
 (.cut (.ops [(mV 13 1),
 (mV 14 2),
 (oP 15 (.indexAddrA 256 1 (.t 0) (.t 13))),
 (oU (.store 1 (.t 15) (.t 14)))]))))))
 (.cut (.ops [(oP 16 (.bin .add (.t 3) (.c (.int .i64 1)))),
 (mV 3 16)]))))))))
 (.cut (.seq (.ops [(oP 17 (.load true 256 (.t 0))),
 (oU (.store 256 (.t 0) (.t 17)))])
 .ret))))
theorem F168 : FI 168 0 18 5 [.cell 0 244] c168 := ⟨⟨Tryz.f168, Tryz.func168, by kernel_rfl, by kernel_rfl, by kernel_rfl⟩, by kernel_rfl, by decide, by kernel_rfl⟩
/- f188 understory/digest.bit: 11 temporaries, depth 4, 1 parameters, results [t2] -/
def c188 : RC :=
 (.seq (.ops [(oP 2 (.mv (.c (.int .u32 0))))])
 (.seq (.seq (.ops [(mV 3 0),
 (oP 4 (.bin .and (.t 3) (.c (.int .u32 1)))),
 (oP 5 (.bin .eql (.t 4) (.c (.int .u32 1))))])
 (.cond (.t 5)
 (.seq (.ops [(mV 6 0),
 (oP 7 (.bin .shr (.t 6) (.c (.int .u64 1)))),
 (oP 8 (.bin .xor (.t 7) (.c (.int .u32 3988292384)))),
 (mV 2 8)])
 .ret)
 .skip))
 (.seq (.ops [(mV 9 0),
 (oP 10 (.bin .shr (.t 9) (.c (.int .u64 1)))),
 (mV 2 10)])
 .ret)))
theorem F188 : FI 188 1 11 4 [.tmp 2] c188 := ⟨⟨Tryz.f188, Tryz.func188, by kernel_rfl, by kernel_rfl, by kernel_rfl⟩, by kernel_rfl, by decide, by kernel_rfl⟩
end Go.Proofs
/- The checksum: what CRC computes. -/
set_option linter.unusedVariables false
set_option linter.unusedSimpArgs false
namespace Go.Proofs
open Go Go.Abs
def cfgN : Cfg := ⟨inl0, fun _ _ => none, fun _ _ _ => none, fun _ => false⟩
noncomputable abbrev CC (n : Nat) : CallF := CN Tryz.prog cfgN n
@[reducible] def u32 (c : UInt32) : AV := .int .u32 c.toNat

theorem wrap_u32 (b : BitVec 32) : IntKind.u32.wrap (b.toNat : Int) = (b.toNat : Int) := by
  have h := b.isLt
  show (if (IntKind.u32.signed && decide ((b.toNat : Int) % (2 ^ 32 : Int) ≥ (2 ^ (32 - 1) : Int))) = true then (b.toNat : Int) % (2 ^ 32 : Int) - 2 ^ 32 else (b.toNat : Int) % (2 ^ 32 : Int)) = _
  rw [if_neg (by simp [IntKind.signed])]
  omega
theorem wrap_u8 (b : BitVec 8) : IntKind.u8.wrap (b.toNat : Int) = (b.toNat : Int) := by
  have h := b.isLt
  show (if (IntKind.u8.signed && decide ((b.toNat : Int) % (2 ^ 8 : Int) ≥ (2 ^ (8 - 1) : Int))) = true then (b.toNat : Int) % (2 ^ 8 : Int) - 2 ^ 8 else (b.toNat : Int) % (2 ^ 8 : Int)) = _
  rw [if_neg (by simp [IntKind.signed])]
  omega
theorem bv32 (c : UInt32) : BitVec.ofInt 32 (c.toNat : Int) = c.toBitVec := by
  rw [BitVec.ofInt_natCast]; apply BitVec.eq_of_toNat_eq; simp
theorem and_u32 (c d : UInt32) : IntKind.u32.wrap (BitVec.ofInt IntKind.u32.bits (c.toNat : Int) &&& BitVec.ofInt IntKind.u32.bits (d.toNat : Int)).toNat = ((c &&& d).toNat : Int) := by
  show IntKind.u32.wrap (BitVec.ofInt 32 (c.toNat : Int) &&& BitVec.ofInt 32 (d.toNat : Int)).toNat = _
  rw [bv32, bv32, wrap_u32]; rfl
theorem xor_u32 (c d : UInt32) : IntKind.u32.wrap (BitVec.ofInt IntKind.u32.bits (c.toNat : Int) ^^^ BitVec.ofInt IntKind.u32.bits (d.toNat : Int)).toNat = ((c ^^^ d).toNat : Int) := by
  show IntKind.u32.wrap (BitVec.ofInt 32 (c.toNat : Int) ^^^ BitVec.ofInt 32 (d.toNat : Int)).toNat = _
  rw [bv32, bv32, wrap_u32]; rfl
theorem xor_u8 (c d : UInt8) : IntKind.u8.wrap (BitVec.ofInt IntKind.u8.bits (c.toNat : Int) ^^^ BitVec.ofInt IntKind.u8.bits (d.toNat : Int)).toNat = ((c ^^^ d).toNat : Int) := by
  show IntKind.u8.wrap (BitVec.ofInt 8 (c.toNat : Int) ^^^ BitVec.ofInt 8 (d.toNat : Int)).toNat = _
  have e : ∀ c : UInt8, BitVec.ofInt 8 (c.toNat : Int) = c.toBitVec := fun c => by rw [BitVec.ofInt_natCast]; apply BitVec.eq_of_toNat_eq; simp
  rw [e, e, wrap_u8]; rfl
theorem not_u32 (c : UInt32) : IntKind.u32.wrap (BitVec.ofInt IntKind.u32.bits (if IntKind.u32.signed then -1 else IntKind.u32.max) ^^^ BitVec.ofInt IntKind.u32.bits (c.toNat : Int)).toNat = ((~~~c).toNat : Int) := by
  show IntKind.u32.wrap (BitVec.ofInt 32 4294967295 ^^^ BitVec.ofInt 32 (c.toNat : Int)).toNat = _
  rw [bv32, wrap_u32]
  have : (BitVec.ofInt 32 4294967295 ^^^ c.toBitVec) = ~~~c.toBitVec := by
    rw [show BitVec.ofInt 32 4294967295 = BitVec.allOnes 32 by decide]
    exact BitVec.allOnes_xor
  rw [this]; rfl
theorem shr_u32 (c : UInt32) (k : Nat) (hk : k < 32) : ((c.toNat : Int)).fdiv (2 ^ (min (k : Int).toNat IntKind.u32.bits)) = ((c >>> (UInt32.ofNat k)).toNat : Int) := by
  have h1 : min (k : Int).toNat IntKind.u32.bits = k := by show min (k : Int).toNat 32 = k; omega
  rw [h1]
  have h2 : (c >>> (UInt32.ofNat k)).toNat = c.toNat / 2 ^ k := by
    rw [UInt32.toNat_shiftRight, UInt32.toNat_ofNat', Nat.shiftRight_eq_div_pow]
    rw [Nat.mod_eq_of_lt (show k < 2 ^ 32 by omega), Nat.mod_eq_of_lt hk]
  rw [h2, Int.fdiv_eq_ediv_of_nonneg _ (by exact Int.pow_nonneg (by decide))]
  norm_cast
theorem low_u8 (c : UInt32) : IntKind.u8.wrap (c.toNat : Int) = (c.toUInt8.toNat : Int) := by
  have h := c.toNat_lt
  show (if (IntKind.u8.signed && decide ((c.toNat : Int) % (2 ^ 8 : Int) ≥ (2 ^ (8 - 1) : Int))) = true then (c.toNat : Int) % (2 ^ 8 : Int) - 2 ^ 8 else (c.toNat : Int) % (2 ^ 8 : Int)) = _
  rw [if_neg (by simp [IntKind.signed]), UInt32.toNat_toUInt8]
  omega

def bit (c : UInt32) : UInt32 := if c &&& 1 = 1 then (c >>> 1) ^^^ 3988292384 else c >>> 1
theorem u32_eq {c d : UInt32} : ((c.toNat : Int) == (d.toNat : Int)) = decide (c = d) := by
  by_cases h : c = d
  · subst h; simp
  · simp [h]; intro h'; exact h (UInt32.toNat_inj.1 (by omega))
section
variable {n : Nat} {h : AHeap}
theorem bit_eq (hn : 1 ≤ n) (c : UInt32) : CC n 188 [u32 c] h = some (.ret (u32 (bit c)), h) := by
  obtain ⟨m, rfl⟩ : ∃ m, n = m + 1 := ⟨n - 1, by omega⟩
  refine fun_pure F188 rfl rfl rfl rfl ?_
  conv => whnf
  refine zI (and_u32 c 1) ?_
  conv => whnf
  have e1 := @u32_eq (c &&& 1) 1
  refine br (fun a => ?_) (fun a => ?_)
  · have a' : c &&& 1 = 1 := by simpa [e1] using e1.symm.trans a
    conv => whnf
    refine ⟨by decide, _, shr_u32 c 1 (by decide), ?_⟩
    conv => whnf
    refine zI (xor_u32 _ 3988292384) ?_
    conv => whnf
    exact retP rfl (frz_int (by simp [bit, a']))
  · have a' : ¬ c &&& 1 = 1 := by simpa [e1] using e1.symm.trans a
    conv => whnf
    refine ⟨by decide, _, shr_u32 c 1 (by decide), ?_⟩
    conv => whnf
    exact retP rfl (frz_int (by simp [bit, a']))

def tab (i : UInt8) : UInt32 := bit (bit (bit (bit (bit (bit (bit (bit i.toUInt32)))))))
def bits : Nat → UInt32 → UInt32
  | 0, c => c
  | k + 1, c => bits k (bit c)
theorem bits_succ : ∀ (k : Nat) (c : UInt32), bits (k + 1) c = bit (bits k c)
  | 0, c => rfl
  | k + 1, c => bits_succ k (bit c)
def tabV (j : Nat) : AV := u32 (bits 8 (UInt32.ofNat j))
def tabC (i : Nat) : List AV := (List.range 256).map fun j => if j < i then tabV j else .int .u32 0
theorem tabC_len (i : Nat) : (tabC i).length = 256 := by simp [tabC]
theorem tabC_scal (i : Nat) : (tabC i).all AV.scal = true := by
  rw [List.all_eq_true]
  intro x hx
  obtain ⟨j, _, rfl⟩ := List.mem_map.1 hx
  split <;> rfl
theorem tabC_cells (i : Nat) : (AV.agg (tabC i)).cells? = some (tabC i) := by
  show (if (tabC i).all AV.scal = true then some (tabC i) else none) = _
  rw [if_pos (tabC_scal i)]
theorem tabC_frz (i n : Nat) : FrzOk (n + 2) (.agg (tabC i)) := frzOk_agg fun x hx => by
  obtain ⟨j, _, rfl⟩ := List.mem_map.1 hx
  split <;> exact frzOk_int
theorem tabC_over {zs : List AV} (hz : zs.length = 256) (i : Nat) : putAt zs 0 (tabC i) = tabC i := by
  unfold putAt
  rw [tabC_len, List.take_zero, List.drop_of_length_le (by omega)]
  simp
theorem tabC_same (i : Nat) : putAt (tabC i) 0 (tabC i) = tabC i := tabC_over (tabC_len i) i
theorem loadT {cs : List AV} (hcs : cs.length = 256) : loadA Tryz.prog [.cells 0 (some 244) cs 0] 244 (.ptr 0 0 0) = some (.agg cs) := by
  have ht : (ti Tryz.prog 244).map (fun d => (isAggD d.desc, d.size)) = some (true, 256) := by kernel_rfl
  obtain ⟨d, h1, h2⟩ := Option.map_eq_some_iff.1 ht
  simp only [Prod.mk.injEq] at h2
  unfold loadA
  simp only [h1, List.getElem?_cons_zero, if_true]
  unfold partA
  rw [h2.1, h2.2, hcs]
  simp [← hcs]
theorem tabC_put {i : Nat} (hi : i < 256) : putAt (tabC i) i [tabV i] = tabC (i + 1) := by
  apply List.ext_getElem?
  intro k
  unfold putAt tabC
  rw [List.append_assoc]
  by_cases h1 : k < i
  · rw [List.getElem?_append_left (by simp; omega), List.getElem?_take, if_pos h1]
    simp only [List.getElem?_map]
    by_cases h2 : k < 256
    · simp [List.getElem?_range h2, h1, show k < i + 1 by omega]
    · omega
  · rw [List.getElem?_append_right (by simp; omega)]
    by_cases h2 : k = i
    · subst h2
      simp [List.getElem?_range hi, hi, Nat.min_eq_left (Nat.le_of_lt hi)]
    · rw [List.getElem?_append_right (by simp; omega)]
      simp only [List.length_take, List.length_map, List.length_range, List.length_cons, List.length_nil, List.getElem?_drop, List.getElem?_map]
      rw [Nat.min_eq_left (Nat.le_of_lt hi), show i + (0 + 1) + (k - i - (0 + 1)) = k by omega]
      by_cases h3 : k < 256
      · simp [List.getElem?_range h3, show ¬ k < i by omega, show ¬ k < i + 1 by omega]
      · rw [List.getElem?_eq_none (by simp; omega)]; rfl

theorem wrap_u32n {j : Nat} (hj : j < 256) : IntKind.u32.wrap (j : Int) = ((UInt32.ofNat j).toNat : Int) := by
  have : ((UInt32.ofNat j).toNat : Int) = j := by rw [UInt32.toNat_ofNat']; omega
  rw [this]
  have := wrap_u32 (BitVec.ofNat 32 j)
  rwa [BitVec.toNat_ofNat, Nat.mod_eq_of_lt (show j < 2 ^ 32 by omega)] at this

theorem table_in {m : Nat} (hn : 1 ≤ m) (j : Nat) (hj : j < 256) (hp : AHeap) {Q : Ex → LS → Prop} {s : LS} (hs : LS.sub ⟨[(0, .ptr 0 0 0), (1, i64 j), (2, u32 (UInt32.ofNat j)), (3, i64 j), (8, i64 0)], hp, []⟩ s)
    (hE : ∀ L, subL [(0, .ptr 0 0 0), (1, i64 j), (2, tabV j), (3, i64 j)] L → Q (.exit 2) ⟨L, hp, []⟩) : OkR Tryz.prog (CC m) cfgN.inl KK 18 5 (.loop (c168.lp 1)) s Q := by
  refine loopI (by decide) rfl (α := Nat) (fun x => ⟨[(0, .ptr 0 0 0), (1, i64 j), (2, u32 (bits x (UInt32.ofNat j))), (3, i64 j), (8, i64 x)], hp, []⟩) (fun x => x ≤ 8) (fun x => 8 - x) 0 hs (by simp) (by show 8 - 0 < KK; simp only [KK]; omega) ?_
  intro x hx
  conv => whnf
  refine brd (fun a => ?_) (fun a => ?_)
  · conv => whnf
    refine clI (bit_eq (by omega) (bits x (UInt32.ofNat j))) ?_
    conv => whnf
    refine zI (z := ((x + 1 : Nat) : Int)) (by rw [wrap_i64 (by omega) (by omega)]; rfl) ?_
    refine nxI (x + 1) (by omega) (by omega) ⟨⟨rfl, rfl, ?_, rfl, rfl⟩, rfl, rfl⟩
    rw [bits_succ]; rfl
  · have : x = 8 := by omega
    subst this
    conv => whnf
    exact hE _ ⟨rfl, rfl, rfl, rfl⟩

set_option maxRecDepth 100000 in
theorem table_eq (hn : 2 ≤ n) : CC n 168 [] h = some (.ret (.agg (tabC 256)), h) := by
  obtain ⟨m, rfl⟩ : ∃ m, n = m + 1 := ⟨n - 1, by omega⟩
  refine fun_pure F168 rfl rfl rfl rfl ?_
  conv => whnf
  refine loopI (by decide) rfl (α := Nat) (fun x => ⟨[(0, .ptr 0 0 0), (3, i64 x)], [.cells 0 (some 244) (tabC x) 0], []⟩) (fun x => x ≤ 256) (fun x => 256 - x) 0 ⟨⟨rfl, rfl⟩, by kernel_rfl, rfl⟩ (by simp) (by show 256 - 0 < KK; simp only [KK]; omega) ?_
  intro x hx
  conv => whnf
  refine brd (fun a => ?_) (fun a => ?_)
  · have hx' : x < 256 := by omega
    conv => whnf
    refine zI (wrap_u32n hx') ?_
    conv => whnf
    refine table_in (by omega) x hx' _ ⟨⟨rfl, rfl, rfl, rfl, rfl⟩, rfl, rfl⟩ fun L hL => ?_
    conv => whnf
    refine cutI (by decide) rfl (t := ⟨[(0, .ptr 0 0 0), (1, i64 x), (2, tabV x), (3, i64 x)], [.cells 0 (some 244) (tabC x) 0], []⟩) ⟨hL, rfl, rfl⟩ ?_
    conv => whnf
    refine ⟨by omega, by omega, ?_⟩
    conv => whnf
    refine stI (cs := tabC x) (by rfl) (by rfl) (by rfl) (by rw [tabC_len]; show Nat.ble (0 + (x : Int).toNat * 1 + 1) 256 = true; exact Nat.ble_eq_true_of_le (by omega)) (by rfl) ?_
    refine cutI (by decide) rfl (t := ⟨[(0, .ptr 0 0 0), (3, i64 x)], [.cells 0 (some 244) (tabC (x + 1)) 0], []⟩) ⟨⟨rfl, rfl⟩, ?_, rfl⟩ ?_
    · show [AB.cells 0 (some 244) (putAt (tabC x) (0 + (x : Int).toNat * 1) [tabV x]) 0] = _
      rw [show 0 + (x : Int).toNat * 1 = x by omega, tabC_put hx']
    · conv => whnf
      refine zI (z := ((x + 1 : Nat) : Int)) (by rw [wrap_i64 (by omega) (by omega)]; rfl) ?_
      exact nxI (x + 1) (by omega) (by omega) ⟨⟨rfl, rfl⟩, rfl, rfl⟩
  · have : x = 256 := by omega
    subst this
    refine cutI (by decide) rfl (t := ⟨[(0, .ptr 0 0 0)], [.cells 0 (some 244) (tabC 256) 0], []⟩) ⟨rfl, rfl, rfl⟩ ?_
    conv => whnf
    refine ldI (cs := tabC 256) (by rfl) ?_
    conv => whnf
    have hcs : List.take 256 (List.drop 0 (tabC 256)) = tabC 256 := by rw [List.drop_zero, List.take_of_length_le (by rw [tabC_len]; decide)]
    refine stI (cs := tabC 256) (xs := tabC 256) (by rfl) (by show AV.cells? (.agg (List.take 256 (List.drop 0 (tabC 256)))) = _; rw [hcs]; exact tabC_cells 256) (tabC_len 256) (by rw [tabC_len]; rfl) (by rfl) ?_
    refine ⟨rfl, [.agg (tabC 256)], ?_, ?_⟩
    · show (match loadA Tryz.prog [.cells 0 (some 244) (putAt (tabC 256) 0 (tabC 256)) 0] 244 (.ptr 0 0 0) with | some v => some [v] | none => none) = _
      rw [tabC_same, loadT (tabC_len 256)]
    · exact tabC_frz 256 62 _

/-- The checksum of bytes. -/
def ext (s : List UInt8) (c : UInt32) : UInt32 := s.foldl (fun c b => tab (c.toUInt8 ^^^ b) ^^^ (c >>> 8)) c
def crc (s : List UInt8) : UInt32 := ~~~(ext s (~~~0))

theorem tab_at (b : UInt8) : (tabC 256)[b.toNat]? = some (u32 (tab b)) := by
  have h := b.toNat_lt
  unfold tabC
  rw [List.getElem?_map, List.getElem?_range (by omega)]
  simp only [Option.map_some]
  rw [if_pos (by omega)]
  have : UInt32.ofNat b.toNat = b.toUInt32 := by
    apply UInt32.toNat_inj.1
    rw [UInt32.toNat_ofNat', UInt8.toNat_toUInt32]
    omega
  unfold tabV bits bits bits bits bits bits bits bits bits tab
  rw [this]

theorem ext_loop {m : Nat} (s : Str) (hs : s.length < 1099511627776) (c0 : UInt32) {Q : Ex → LS → Prop} {st : LS} (h0 : LS.sub ⟨[(1, .str s), (5, .ptr 0 0 0), (6, u32 c0), (12, i64 s.length), (13, i64 0)], [.cells 0 (some 244) (tabC 256) 0], []⟩ st)
    (hE : ∀ L hp, lk L 6 = some (u32 (ext s c0)) → Q (.exit 0) ⟨L, hp, []⟩) : OkR Tryz.prog (CC m) cfgN.inl KK 30 5 (.loop (c149.lp 0)) st Q := by
  refine loopI (by decide) rfl (α := Nat × UInt32) (fun x => ⟨[(1, .str s), (5, .ptr 0 0 0), (6, u32 x.2), (12, i64 s.length), (13, i64 x.1)], [.cells 0 (some 244) (tabC 256) 0], []⟩) (fun x => x.1 ≤ s.length ∧ x.2 = ext (s.take x.1) c0) (fun x => s.length - x.1) (0, c0) h0 (by simp [ext]) (by show s.length - 0 < KK; simp only [KK]; omega) ?_
  rintro ⟨x, c⟩ ⟨hx, hc⟩
  simp only at hx hc
  conv => whnf
  refine brd (fun a => ?_) (fun a => ?_)
  · simp only at a
    have hx' : x < s.length := by omega
    have hst : tab (c.toUInt8 ^^^ s[x]) ^^^ (c >>> 8) = ext (s.take (x + 1)) c0 := by
      subst hc
      unfold ext
      rw [List.take_succ_eq_append_getElem hx', List.foldl_append]; rfl
    conv => whnf
    refine zI (low_u8 c) ?_
    conv => whnf
    refine ⟨by omega, s[x], by rw [Int.toNat_natCast]; exact List.getElem?_eq_getElem hx', ?_⟩
    conv => whnf
    refine zI (xor_u8 c.toUInt8 s[x]) ?_
    conv => whnf
    have hlt := (c.toUInt8 ^^^ s[x]).toNat_lt
    refine ⟨by omega, by omega, ?_⟩
    conv => whnf
    refine ldI (cs := tabC 256) (by rfl) ?_
    refine wpartI (v := u32 (tab (c.toUInt8 ^^^ s[x]))) (by show (tabC 256)[0 + (((c.toUInt8 ^^^ s[x]).toNat : Nat) : Int).toNat * 1]? = _; rw [Int.toNat_natCast, Nat.zero_add, Nat.mul_one]; exact tab_at _) ?_
    conv => whnf
    refine ⟨by decide, _, shr_u32 c 8 (by decide), ?_⟩
    conv => whnf
    refine zI (xor_u32 _ _) ?_
    conv => whnf
    refine zI (z := ((x + 1 : Nat) : Int)) (by rw [wrap_i64 (by omega) (by omega)]; rfl) ?_
    exact nxI (x + 1, tab (c.toUInt8 ^^^ s[x]) ^^^ (c >>> 8)) ⟨hx', hst⟩ (by simp only; omega) ⟨⟨rfl, rfl, rfl, rfl, rfl⟩, rfl, rfl⟩
  · simp only at a
    have : x = s.length := by omega
    subst this
    rw [List.take_length] at hc
    subst hc
    conv => whnf
    exact hE _ _ rfl

set_option maxRecDepth 100000 in
theorem extend_eq (hn : 3 ≤ n) (s : Str) (hs : s.length < 1099511627776) (c : UInt32) : CC n 149 [u32 c, .str s] h = some (.ret (u32 (~~~(ext s (~~~c)))), h) := by
  obtain ⟨m, rfl⟩ : ∃ m, n = m + 1 := ⟨n - 1, by omega⟩
  refine fun_pure F149 rfl rfl rfl rfl ?_
  conv => whnf
  refine clI (table_eq (by omega)) ?_
  conv => whnf
  refine stI (xs := tabC 256) (by rfl) (tabC_cells 256) (tabC_len 256) (by rw [tabC_len]; rfl) (by rfl) ?_
  conv => whnf
  refine zI (not_u32 c) ?_
  conv => whnf
  refine ext_loop s hs (~~~c) ⟨⟨rfl, rfl, rfl, rfl, rfl⟩, ?_, rfl⟩ fun L hp hL => ?_
  · exact congrArg (fun cs => [AB.cells 0 (some 244) cs 0]) (tabC_over (by rfl) 256)
  · refine cutI (by decide) rfl (t := ⟨[(6, u32 (ext s (~~~c)))], hp, []⟩) ⟨hL, rfl, rfl⟩ ?_
    conv => whnf
    refine zI (not_u32 _) ?_
    conv => whnf
    exact retP rfl (frz_int rfl)

theorem crc_eq (hn : 4 ≤ n) (s : Str) (hs : s.length < 1099511627776) : CC n 112 [.str s] h = some (.ret (u32 (crc s)), h) := by
  obtain ⟨m, rfl⟩ : ∃ m, n = m + 1 := ⟨n - 1, by omega⟩
  refine fun_pure F112 rfl rfl rfl rfl ?_
  conv => whnf
  refine clI (extend_eq (by omega) s hs 0) ?_
  conv => whnf
  exact retP rfl (frz_int rfl)
end
end Go.Proofs
/- What is known of the checksum. -/
set_option linter.unusedVariables false
set_option linter.unusedSimpArgs false
namespace Go.Proofs
open Go Go.Abs
def bitN (c : Nat) : Nat := Nat.xor (Nat.shiftRight c 1) (Nat.mul (Nat.land c 1) 3988292384)
def byteN (c : Nat) : Nat := bitN (bitN (bitN (bitN (bitN (bitN (bitN (bitN c)))))))
def extN : List UInt8 → Nat → Nat
  | [], c => c
  | b :: r, c => extN r (Nat.xor (byteN (Nat.xor (Nat.mod c 256) b.toNat)) (Nat.shiftRight c 8))
def crcN (s : List UInt8) : Nat := Nat.xor (extN s 4294967295) 4294967295
theorem bitN_eq (c : UInt32) : bitN c.toNat = (bit c).toNat := by
  have h1 : (c &&& 1).toNat = c.toNat % 2 := by
    rw [UInt32.toNat_and]; exact Nat.and_one_is_mod _
  have h2 : (c >>> 1).toNat = c.toNat >>> 1 := by
    rw [UInt32.toNat_shiftRight]; rfl
  have h3 : Nat.land c.toNat 1 = c.toNat % 2 := Nat.and_one_is_mod _
  unfold bitN bit
  rw [h3]
  have h4 := Nat.mod_two_eq_zero_or_one c.toNat
  by_cases h : c &&& 1 = 1
  · rw [if_pos h, UInt32.toNat_xor, h2]
    have : c.toNat % 2 = 1 := by rw [← h1, h]; rfl
    rw [this]; rfl
  · rw [if_neg h, h2]
    have : c.toNat % 2 = 0 := by
      rcases h4 with h4 | h4
      · exact h4
      · exact (h (UInt32.toNat_inj.1 (by rw [h1, h4]; rfl))).elim
    rw [this]
    exact Nat.xor_zero _
theorem byteN_eq (i : UInt8) : byteN i.toNat = (tab i).toNat := by
  unfold byteN tab
  have : i.toNat = i.toUInt32.toNat := by simp
  rw [this, bitN_eq, bitN_eq, bitN_eq, bitN_eq, bitN_eq, bitN_eq, bitN_eq, bitN_eq]
theorem extN_eq : ∀ (s : List UInt8) (c : UInt32), extN s c.toNat = (ext s c).toNat
  | [], c => rfl
  | b :: r, c => by
    have h1 : Nat.xor (Nat.mod c.toNat 256) b.toNat = (c.toUInt8 ^^^ b).toNat := by
      rw [UInt8.toNat_xor, UInt32.toNat_toUInt8]; rfl
    have h2 : Nat.shiftRight c.toNat 8 = (c >>> 8).toNat := by rw [UInt32.toNat_shiftRight]; rfl
    show extN r (Nat.xor (byteN (Nat.xor (Nat.mod c.toNat 256) b.toNat)) (Nat.shiftRight c.toNat 8)) = _
    rw [h1, byteN_eq, h2]
    have h3 : Nat.xor (tab (c.toUInt8 ^^^ b)).toNat (c >>> 8).toNat = (tab (c.toUInt8 ^^^ b) ^^^ (c >>> 8)).toNat := by rw [UInt32.toNat_xor]; rfl
    rw [h3, extN_eq r]
    rfl
theorem crcN_eq (s : List UInt8) : crcN s = (crc s).toNat := by
  unfold crcN crc
  have h := extN_eq s (~~~0)
  rw [show (~~~(0 : UInt32)).toNat = 4294967295 by decide] at h
  rw [h]
  have : ~~~(ext s (~~~0)) = ext s (~~~0) ^^^ 4294967295 := by
    rw [show (4294967295 : UInt32) = -1 by decide, UInt32.xor_neg_one]
  rw [this, UInt32.toNat_xor]; rfl

/-- What is known of the checksum. -/
def sum1 : FuncId → List AV → Option AV := fun f args => cond (Nat.beq f 112) (match args with
  | [.str s] => cond (Nat.blt s.length 1099511627776) (some (.int .u32 (Int.ofNat (crcN s)))) none
  | _ => none) none
def cfg1 : Cfg := ⟨inl0, sum1, fun _ _ _ => none, fun _ => false⟩
theorem sumN_ok : SumOk Tryz.prog cfgN := ⟨fun f args v h => (by cases h), noMem _⟩
theorem crc_pure (s : Str) (hs : s.length < 1099511627776) : PureCalls Tryz.prog 112 [.str s] (.ret (u32 (crc s))) := pure_of_CN (c := cfgN) (n := 9) sumN_ok rfl (crc_eq (by omega) s hs)
theorem sum1_sound : ∀ f args v, cfg1.sum f args = some v → PureCalls Tryz.prog f args (.ret v) := fun f args v h => by
  change sum1 f args = some v at h
  unfold sum1 at h
  cases hf : Nat.beq f 112 with
  | false => rw [hf] at h; cases h
  | true =>
    rw [hf] at h
    have : f = 112 := Nat.eq_of_beq_eq_true hf
    subst this
    simp only [cond] at h
    split at h
    · rename_i s
      cases hl : Nat.blt s.length 1099511627776 with
      | false => rw [hl] at h; cases h
      | true =>
        rw [hl] at h
        cases h
        have hl' : s.length < 1099511627776 := by rwa [Nat.blt_eq] at hl
        have := crc_pure s hl'
        rw [crcN_eq]
        exact this
    · cases h

theorem sum1_ok : SumOk Tryz.prog cfg1 := ⟨sum1_sound, noMem _⟩
end Go.Proofs
/- Calls, with what is known of the examples and of the checksum. -/
set_option linter.unusedVariables false
set_option linter.unusedSimpArgs false
namespace Go.Proofs
open Go Go.Abs
/-- The chapter's examples: shown by themselves. -/
def sum0 : FuncId → List AV → Option AV := fun f args => cond (Nat.beq f 9) (match args with | [] => some (.bool true) | _ => none) (sum1 f args)
/-- What is known of calls in the caller's memory: of slices.Sort, slices.Compact and (of an empty list) slices.Clone of numbers. -/
def mem0 : FuncId → List AV → AHeap → Option (AV × AHeap) := memS 130 131 102
/-- Whose arguments are taken out of memory. -/
def cold0 : FuncId → Bool := fun f => Nat.beq f 40 || Nat.beq f 41
def cfg0 : Cfg := ⟨inl0, sum0, mem0, cold0⟩
noncomputable abbrev C (n : Nat) : CallF := CN Tryz.prog cfg0 n
theorem crcC_eq {n : Nat} {h : AHeap} (hn : 1 ≤ n) (s : Str) (hs : s.length < 1099511627776) : C n 112 [.str s] h = some (.ret (u32 (crc s)), h) := by
  obtain ⟨m, rfl⟩ : ∃ m, n = m + 1 := ⟨n - 1, by omega⟩
  refine fun_sum rfl (of_decide_eq_true (by kernel_rfl)) ?_ rfl
  show cond (Nat.blt s.length 1099511627776) (some (AV.int .u32 (Int.ofNat (crcN s)))) none = some (u32 (crc s))
  rw [show Nat.blt s.length 1099511627776 = true by rw [Nat.blt_eq]; exact hs, crcN_eq]
  rfl
theorem sane_eq {n : Nat} (hn : 1 ≤ n) (h : AHeap) : C n 9 [] h = some (.ret (.bool true), h) := by
  obtain ⟨m, rfl⟩ : ∃ m, n = m + 1 := ⟨n - 1, by omega⟩
  exact fun_sum rfl (of_decide_eq_true (by kernel_rfl)) rfl rfl
end Go.Proofs
/- Contracts of functions of a page: forms and weights of entries. -/
set_option linter.unusedVariables false
set_option linter.unusedSimpArgs false
namespace Go.Proofs
open Go Go.Abs

structure Dg where
  (b0 b1 b2 b3 b4 b5 b6 b7 b8 b9 b10 b11 b12 b13 b14 b15 : UInt8)
  deriving DecidableEq
structure Entry where
  key : Str
  val : Str
  over : Int
  len : Int
  child : Int
  count : Int
  sum : Dg
  deriving DecidableEq

def Dg.cells (d : Dg) : List AV := [u8 d.b0, u8 d.b1, u8 d.b2, u8 d.b3, u8 d.b4, u8 d.b5, u8 d.b6, u8 d.b7, u8 d.b8, u8 d.b9, u8 d.b10, u8 d.b11, u8 d.b12, u8 d.b13, u8 d.b14, u8 d.b15]
def Entry.cells (e : Entry) : List AV := .str e.key :: .str e.val :: i64 e.over :: i64 e.len :: i64 e.child :: i64 e.count :: e.sum.cells
def Entry.av (e : Entry) : AV := .agg e.cells
def Dg.zero : Dg := ⟨0, 0, 0, 0, 0, 0, 0, 0, 0, 0, 0, 0, 0, 0, 0, 0⟩


def within (x lo hi : Int) : Bool := decide (lo ≤ x) && decide (x ≤ hi)
def numbered (n : Int) : Bool := within n 2 4095

section
variable {n : Nat} {h : AHeap}

theorem within_eq (hn : 1 ≤ n) (x lo hi : Int) : C n 71 [i64 x, i64 lo, i64 hi] h = some (.ret (.bool (within x lo hi)), h) := by
  obtain ⟨m, rfl⟩ : ∃ m, n = m + 1 := ⟨n - 1, by omega⟩
  refine fun_pure F71 rfl rfl rfl rfl ?_
  refine br (fun a => ?_) (fun a => ?_)
  · exact ⟨rfl, _, rfl, frz_bool (by simp [within, a])⟩
  · exact ⟨rfl, _, rfl, frz_bool (by simp [within, a])⟩

theorem numbered_eq (hn : 2 ≤ n) (x : Int) : C n 70 [i64 x] h = some (.ret (.bool (numbered x)), h) := by
  obtain ⟨m, rfl⟩ : ∃ m, n = m + 1 := ⟨n - 1, by omega⟩
  refine fun_pure F70 rfl rfl rfl rfl ?_
  refine clI (within_eq (by omega) _ _ _) ?_
  exact ⟨rfl, _, rfl, frz_bool rfl⟩

theorem isNaN_eq (hn : 1 ≤ n) (x : Str) : C n 154 [.str x] h = some (.ret (.bool false), h) := by
  obtain ⟨m, rfl⟩ : ∃ m, n = m + 1 := ⟨n - 1, by omega⟩
  refine fun_pure F154 rfl rfl rfl rfl ?_
  exact ⟨rfl, _, rfl, frz_bool (by simp)⟩

def cmpS (x y : Str) : Int := if Op.bytesLess x y then -1 else if Op.bytesLess y x then 1 else 0

theorem less_irrefl : ∀ (x : Str), Op.bytesLess x x = false
  | [] => rfl
  | a :: x => by simp [Op.bytesLess, less_irrefl x]
theorem less_asymm : ∀ (x y : Str), Op.bytesLess x y = true → Op.bytesLess y x = false
  | [], [], h => by simp [Op.bytesLess] at h
  | [], b :: y, _ => by simp [Op.bytesLess]
  | a :: x, [], h => by simp [Op.bytesLess] at h
  | a :: x, b :: y, h => by
    simp [Op.bytesLess] at h ⊢
    rcases h with h | ⟨h1, h2⟩
    · exact ⟨UInt8.le_of_lt h, fun e => by subst e; simp at h⟩
    · subst h1; exact ⟨UInt8.le_refl _, fun _ => less_asymm x y h2⟩
theorem less_total : ∀ (x y : Str), Op.bytesLess x y = false → Op.bytesLess y x = false → x = y
  | [], [], _, _ => rfl
  | [], b :: y, h, _ => by simp [Op.bytesLess] at h
  | a :: x, [], _, h => by simp [Op.bytesLess] at h
  | a :: x, b :: y, h1, h2 => by
    simp [Op.bytesLess] at h1 h2
    have e : a = b := UInt8.le_antisymm h2.1 h1.1
    subst e
    rw [less_total x y (h1.2 rfl) (h2.2 rfl)]
theorem bytesLess_tri (x y : Str) : (Op.bytesLess x y || x == y) = !Op.bytesLess y x := by
  cases h : Op.bytesLess x y with
  | true => simp [less_asymm x y h]
  | false =>
    cases h2 : Op.bytesLess y x with
    | true =>
      simp
      intro e; subst e; rw [less_irrefl] at h2; cases h2
    | false => simp [less_total x y h h2]

theorem cmpCompare_eq (hn : 2 ≤ n) (x y : Str) : C n 124 [.str x, .str y] h = some (.ret (i64 (cmpS x y)), h) := by
  obtain ⟨m, rfl⟩ : ∃ m, n = m + 1 := ⟨n - 1, by omega⟩
  refine fun_pure F124 rfl rfl rfl rfl ?_
  refine clI (isNaN_eq (by omega) _) ?_
  refine clI (isNaN_eq (by omega) _) ?_
  refine br (fun a => ?_) (fun a => ?_)
  · exact ⟨rfl, _, rfl, frz_int (by simp [cmpS, a])⟩
  · refine br (fun b => ?_) (fun b => ?_)
    · rw [bytesLess_tri] at b
      exact ⟨rfl, _, rfl, frz_int (by simp at b; simp [cmpS, a, b])⟩
    · rw [bytesLess_tri] at b
      exact ⟨rfl, _, rfl, frz_int (by simp at b; simp [cmpS, a, b])⟩

theorem compare_eq (hn : 3 ≤ n) (x y : Str) : C n 83 [.str x, .str y] h = some (.ret (i64 (cmpS x y)), h) := by
  obtain ⟨m, rfl⟩ : ∃ m, n = m + 1 := ⟨n - 1, by omega⟩
  refine fun_pure F83 rfl rfl rfl rfl ?_
  refine clI (cmpCompare_eq (by omega) _ _) ?_
  exact ⟨rfl, _, rfl, frz_int rfl⟩

def branches (e : Entry) : Bool := decide (e.key.length ≤ 48) && e.val == [] && e.over == 0 && e.len == 0 && numbered e.child && within e.count 1 2147483647

theorem branches_eq (hn : 3 ≤ n) (e : Entry) : C n 126 [e.av] h = some (.ret (.bool (branches e)), h) := by
  obtain ⟨m, rfl⟩ : ∃ m, n = m + 1 := ⟨n - 1, by omega⟩
  refine fun_pure F126 rfl rfl rfl rfl ?_
  repeat' (conv => whnf); first
    | refine br (fun _ => ?_) (fun _ => ?_)
    | refine ldI rfl ?_
    | refine clI (numbered_eq (by omega) _) ?_
    | refine clI (within_eq (by omega) _ _ _) ?_
    | refine retP rfl (frz_bool ?_)
  all_goals simp_all [branches]
  all_goals omega

def isShort (e : Entry) : Bool := e.over == 0 && e.len == 0 && e.child == 0 && e.count == 0 && e.sum == Dg.zero && decide (e.val.length ≤ 64)
def isLong (e : Entry) : Bool := e.child == 0 && e.count == 0 && numbered e.over && within e.len 65 4000
def isNest (e : Entry) : Bool := e.over == 0 && e.len == 0 && numbered e.child && within e.count 1 2147483647
def formOf (e : Entry) : Int := if within e.key.length 1 48 = false then 0 else if isShort e then 1 else if e.val ≠ [] then 0 else if isLong e then 2 else if isNest e then 3 else 0

def Dg.list (d : Dg) : List UInt8 := [d.b0, d.b1, d.b2, d.b3, d.b4, d.b5, d.b6, d.b7, d.b8, d.b9, d.b10, d.b11, d.b12, d.b13, d.b14, d.b15]
theorem Dg.list_inj {a b : Dg} : a.list = b.list ↔ a = b := by
  constructor
  · intro h
    obtain ⟨a0, a1, a2, a3, a4, a5, a6, a7, a8, a9, a10, a11, a12, a13, a14, a15⟩ := a
    obtain ⟨c0, c1, c2, c3, c4, c5, c6, c7, c8, c9, c10, c11, c12, c13, c14, c15⟩ := b
    simpa [Dg.list] using h
  · intro h; rw [h]
theorem eq_u8 (x y : UInt8) : ((((x.toNat : Nat) : Int) == y.toNat) : Bool) = decide (x = y) := by
  by_cases h : x = y
  · subst h; simp
  · simp [h]; intro h'; exact h (UInt8.toNat_inj.1 (by omega))
theorem allEq_u8 {f : Nat → AV → AV → Option Bool} {t : Nat} (hf : ∀ x y, f t (u8 x) (u8 y) = some (decide (x = y))) : ∀ (xs ys : List UInt8), xs.length = ys.length → allEq f (zipE t (xs.map u8) (ys.map u8)) = some (decide (xs = ys))
  | [], [], _ => rfl
  | [], y :: ys, h => by simp at h
  | x :: xs, [], h => by simp at h
  | x :: xs, y :: ys, h => by
    have ih := allEq_u8 hf xs ys (by simpa using h)
    show (match f t (u8 x) (u8 y) with | some true => allEq f (zipE t (xs.map u8) (ys.map u8)) | some false => some false | none => none) = _
    rw [hf, ih]
    by_cases h : x = y <;> simp [h]
theorem eq_dg (a b : Dg) : eqA Tryz.prog 20 54 (.agg a.cells) (.agg b.cells) = some (decide (a = b)) := by
  have e1 : eqA Tryz.prog 20 54 (.agg a.cells) (.agg b.cells) = allEq (eqA Tryz.prog 19) (zipE 5 (a.list.map u8) (b.list.map u8)) := by kernel_rfl
  have e2 : ∀ (x y : UInt8), eqA Tryz.prog 19 5 (.int .u8 x.toNat) (.int .u8 y.toNat) = some (((x.toNat : Nat) : Int) == y.toNat) := fun x y => by kernel_rfl
  rw [e1, allEq_u8 (fun x y => by rw [e2, eq_u8]) a.list b.list rfl]
  simp only [Dg.list_inj]

theorem formOf_eq (hn : 3 ≤ n) (e : Entry) : C n 125 [e.av] h = some (.ret (i64 (formOf e)), h) := by
  obtain ⟨m, rfl⟩ : ∃ m, n = m + 1 := ⟨n - 1, by omega⟩
  refine fun_pure F125 rfl rfl rfl rfl ?_
  repeat' (conv => whnf); first
    | refine br (fun _ => ?_) (fun _ => ?_)
    | refine ldI rfl ?_
    | refine clI (numbered_eq (by omega) _) ?_
    | refine clI (within_eq (by omega) _ _ _) ?_
    | refine eqI (eq_dg e.sum Dg.zero) ?_
    | refine retP rfl (frz_int ?_)
  all_goals simp_all [formOf, isShort, isLong, isNest]
  all_goals omega


def weighW (e : Entry) (lv : Int) : Int := if 0 < lv then e.key.length + 27 else if formOf e = 1 then e.key.length + e.val.length + 5 else if formOf e = 2 then e.key.length + 27 else if formOf e = 3 then e.key.length + 29 else 0
def weighB (e : Entry) (lv : Int) : Bool := if 0 < lv then branches e else formOf e == 1 || formOf e == 2 || formOf e == 3
/-- Strings are short enough for a machine. -/
def Entry.Ok (e : Entry) : Prop := e.key.length < 1099511627776 ∧ e.val.length < 1099511627776

theorem weigh_eq (hn : 4 ≤ n) (e : Entry) (he : e.Ok) (lv : Int) : C n 105 [e.av, i64 lv] h = some (.ret (.tup [i64 (weighW e lv), .bool (weighB e lv)]), h) := by
  obtain ⟨m, rfl⟩ : ∃ m, n = m + 1 := ⟨n - 1, by omega⟩
  obtain ⟨h1, h2⟩ := he
  refine fun_pure F105 rfl rfl rfl rfl ?_
  repeat' (conv => whnf); first
    | refine br (fun _ => ?_) (fun _ => ?_)
    | refine ldI rfl ?_
    | refine clI (branches_eq (by omega) e) ?_
    | refine clI (formOf_eq (by omega) e) ?_
    | refine zI (wrap_i64 (by omega) (by omega)) ?_
    | refine retP rfl (frz_ib ?_ ?_)
  all_goals simp_all [weighW, weighB]
  all_goals (intros; omega)

def wsum (lv : Int) : List Entry → Option Int
  | [] => some 0
  | e :: r => if weighB e lv then (wsum lv r).map (weighW e lv + ·) else none
def weight (l : List Entry) (lv : Int) : Option Int := if within lv 0 20 then (wsum lv l).map (6 + ·) else none
def weightR (l : List Entry) (lv : Int) : AV := match weight l lv with
  | some n => .tup [i64 n, i64 0]
  | none => .tup [i64 0, i64 2]

theorem wsum_append (lv : Int) : ∀ (a b : List Entry), wsum lv (a ++ b) = match wsum lv a, wsum lv b with | some x, some y => some (x + y) | _, _ => none
  | [], b => by cases h : wsum lv b <;> simp [wsum, h]
  | e :: a, b => by
    simp only [List.cons_append, wsum, wsum_append lv a b]
    by_cases hw : weighB e lv
    · simp only [hw, if_true]
      cases wsum lv a <;> cases wsum lv b <;> simp
      omega
    · simp [hw]

theorem within_iff {x lo hi : Int} : within x lo hi = true ↔ lo ≤ x ∧ x ≤ hi := by simp [within]
theorem form_key {e : Entry} (hf : formOf e ≠ 0) : 1 ≤ e.key.length ∧ e.key.length ≤ 48 := by
  by_cases h : within e.key.length 1 48
  · rw [within_iff] at h; omega
  · simp [formOf, h] at hf
theorem form_short {e : Entry} (hf : formOf e = 1) : e.val.length ≤ 64 := by
  by_cases hs : isShort e
  · simp [isShort] at hs; exact hs.2
  · simp only [formOf, hs] at hf
    split at hf
    · simp at hf
    · simp at hf
      repeat' (first | split at hf)
      all_goals simp at hf
theorem weigh_bound {e : Entry} {lv : Int} (hb : weighB e lv = true) : 5 ≤ weighW e lv ∧ weighW e lv ≤ 117 := by
  unfold weighB at hb
  unfold weighW
  split
  · rename_i hl
    rw [if_pos hl] at hb
    simp [branches] at hb
    omega
  · rename_i hl
    rw [if_neg hl] at hb
    have hk := @form_key e (by intro e0; simp [e0] at hb)
    split
    · rename_i h1; have := form_short h1; omega
    · split
      · omega
      · split
        · omega
        · exfalso; simp_all
theorem wsum_take {lv : Int} {l : List Entry} {j : Nat} (hj : j < l.length) {s : Int} (hs : wsum lv (l.take j) = some s) : wsum lv (l.take (j + 1)) = if weighB l[j] lv then some (s + weighW l[j] lv) else none := by
  rw [List.take_succ_eq_append_getElem hj, wsum_append, hs]
  by_cases hw : weighB l[j] lv <;> simp [wsum, hw]
theorem wsum_none {lv : Int} {l : List Entry} {j : Nat} (hs : wsum lv (l.take j) = none) : wsum lv l = none := by
  have := wsum_append lv (l.take j) (l.drop j)
  rw [List.take_append_drop, hs] at this
  exact this

theorem entry_cells (e : Entry) : e.av.cells? = some e.cells := rfl

theorem pure_map {α : Type} {f : α → AV} (hf : ∀ a, (f a).pureB = true) : ∀ (l : List α), pureBs (l.map f) = true
  | [] => rfl
  | a :: r => by simp [pureBs, hf a, pure_map hf r]
theorem pure_lst {α : Type} {f : α → AV} (hf : ∀ a, (f a).pureB = true) (l : List α) {sz : Nat} {c : Bool} {r : List AV} (hr : pureBs r = true) : pureBs (.lst sz (l.map f) c :: r) = true := by
  simp [pureBs, AV.pureB, pure_map hf l, hr]
theorem entry_pure (e : Entry) : e.av.pureB = true := rfl

end
end Go.Proofs
