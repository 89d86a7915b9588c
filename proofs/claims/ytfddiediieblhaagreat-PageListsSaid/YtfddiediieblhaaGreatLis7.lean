/- Texts put together: T0, Qa, Yb, Na, Nc, Ra, Wa, Ta, Sa, Sb, Sc, C0, Tb, Wb, Wc, Wd0, Wd, Rb, Rc, We, Rd, Rh0, Re, Rf, Rg, Rh, Ri, Rj, Rk, Rl, Rm, Nd, Tc, Td, Nb, Ne. -/
import Derived.Test.YtfddiediieblhaaGreatLis6
import Derived.Test.YtfddiediieblhaaGreatProg
import Derived.KernelRfl
/- Which functions work in their caller's memory. -/
namespace Go.Proofs
open Go Go.Abs
def inlL : List Nat := [40, 41, 130, 131, 102, 93, 56, 57, 59, 61, 63, 108, 111, 148, 217, 218, 219, 220, 221, 86, 78, 123, 189, 119, 152, 170, 171, 118, 120, 121, 122, 153]
def inl0 : FuncId → Bool := fun f => inlL.contains f || decide (223 ≤ f)
abbrev mV (d a : Nat) : RI := ⟨some d, none, .op (.mv (.t a))⟩
abbrev oP (d : Nat) (x : RO) : RI := ⟨some d, none, .op x⟩
abbrev oG (d g : Nat) (b : Bool) (x : RO) : RI := ⟨some d, some (g, b), .op x⟩
abbrev oU (x : RO) : RI := ⟨none, none, .op x⟩
abbrev FI := FunIs Tryz.prog inl0
end Go.Proofs
/- The looked-up text of the functions. -/
namespace Go.Proofs
open Go Go.Abs
/- f139 understory/page.cutPage: 72 temporaries, depth 7, 1 parameters, results [t2, t3] -/
def c139 : RC :=
 (.seq (.ops [(oP 2 (.mv (.c (.lst 0 [] true)))),
 (oP 3 (.mv (.c (.lst 0 [] true))))])
 (.seq (.ops [(oP 4 (.mv (.c (.int .i64 490))))])
 (.seq (.seq (.ops [(mV 8 0),
 (oP 9 (.lenL (.t 8))),
 (oP 10 (.mv (.c (.int .i64 0))))])
 (.block 0
 (.loop
 (.seq (.ops [(oP 11 (.bin .lss (.t 10) (.t 9)))])
 (.seq (.cond (.t 11)
 .skip
 (.exit 0))
 (.seq (.block 1
 (.seq (.ops [(mV 12 10),
 (oP 13 (.indexAddrL 2 (.t 8) (.t 10))),
 (oP 14 (.load true 2 (.t 13))),
 (oP 6 (.alloc 165 [(.int .i64 0), (.lst 0 [] true)])),
 (mV 5 12),
 (oU (.store 2 (.t 6) (.t 14)))])
 (.seq (.ops [(mV 15 4),
 (oP 16 (.bin .sub (.t 15) (.c (.int .i64 8)))),
 (oP 17 (.bin .quo (.t 16) (.c (.int .i64 4)))),
 (oP 18 (.fieldAddr 1 (.t 6))),
 (oP 19 (.load false 1 (.t 18))),
 (oP 20 (.lenL (.t 19))),
 (oP 21 (.mm false (.t 17) (.t 20))),
 (mV 7 21)])
 (.seq (.seq (.ops [(mV 22 4),
 (oP 23 (.bin .lss (.t 22) (.c (.int .i64 12)))),
 (mV 24 23),
 (oG 25 24 false (.mv (.t 7))),
 (oG 26 24 false (.bin .lss (.t 25) (.c (.int .i64 1)))),
 (oP 27 (.pick (.t 24) (.c (.bool true)) (.t 26)))])
 (.cond (.t 27)
 (.seq (.ops [(mV 28 2),
 (mV 29 3),
 (mV 30 0),
 (mV 31 5),
 (oP 32 (.sliceL 2 (.t 30) (some (.t 31)) none none)),
 (oP 33 (.app 165 2 (.t 29) (.t 32))),
 (mV 2 28),
 (mV 3 33)])
 .ret)
 .skip))
 (.seq (.draw [((mV 34 2), 0),
 ((oP 35 (.fieldAddr 0 (.t 6))), 0),
 ((oP 36 (.load false 1 (.t 35))), 1),
 ((oP 37 (.fieldAddr 1 (.t 6))), 0),
 ((oP 38 (.load false 1 (.t 37))), 1),
 ((mV 39 7), 0),
 ((oP 40 (.sliceL 1 (.t 38) none (some (.t 39)) none)), 1),
 ((oP 41 (.callF 102 [(.t 40)])), 2),
 ((oP 42 (.build [(.int .i64 0), (.lst 0 [] true)] [(0, 1, (.t 36)), (1, 1, (.t 41))])), 0),
 ((oP 43 (.mkLst 2 true 1 [(.int .i64 0), (.lst 0 [] true)] [(0, 2, (.t 42))])), 0),
 ((oP 44 (.app 165 2 (.t 34) (.t 43))), 2),
 ((mV 2 44), 0)])
 (.seq (.ops [(mV 45 4),
 (mV 46 7),
 (oP 47 (.bin .mul (.c (.int .i64 4)) (.t 46))),
 (oP 48 (.bin .add (.c (.int .i64 8)) (.t 47))),
 (oP 49 (.bin .sub (.t 45) (.t 48))),
 (mV 4 49)])
 (.seq (.ops [(mV 50 7),
 (oP 51 (.fieldAddr 1 (.t 6))),
 (oP 52 (.load false 1 (.t 51))),
 (oP 53 (.lenL (.t 52))),
 (oP 54 (.bin .lss (.t 50) (.t 53)))])
 (.cond (.t 54)
 (.seq (.draw [((oP 55 (.fieldAddr 0 (.t 6))), 0),
 ((oP 56 (.load false 1 (.t 55))), 1),
 ((oP 57 (.fieldAddr 1 (.t 6))), 0),
 ((oP 58 (.load false 1 (.t 57))), 1),
 ((mV 59 7), 0),
 ((oP 60 (.sliceL 1 (.t 58) (some (.t 59)) none none)), 1),
 ((oP 61 (.build [(.int .i64 0), (.lst 0 [] true)] [(0, 1, (.t 56)), (1, 1, (.t 60))])), 0),
 ((oP 62 (.mkLst 2 true 1 [(.int .i64 0), (.lst 0 [] true)] [(0, 2, (.t 61))])), 0),
 ((mV 3 62), 0)])
 (.seq (.ops [(mV 63 2),
 (mV 64 3),
 (mV 65 0),
 (mV 66 5),
 (oP 67 (.bin .add (.t 66) (.c (.int .i64 1)))),
 (oP 68 (.sliceL 2 (.t 65) (some (.t 67)) none none)),
 (oP 69 (.app 165 2 (.t 64) (.t 68))),
 (mV 2 63),
 (mV 3 69)])
 .ret))
 .skip))))))))
 (.ops [(oP 70 (.bin .add (.t 10) (.c (.int .i64 1)))),
 (mV 10 70)])))))))
 (.cut (.seq (.ops [(mV 71 2),
 (mV 2 71),
 (oP 3 (.mv (.c (.lst 0 [] true))))])
 .ret)))))
theorem F139 : FI 139 1 72 7 [.tmp 2, .tmp 3] c139 := ⟨⟨Tryz.f139, Tryz.func139, by kernel_rfl, by kernel_rfl, by kernel_rfl⟩, by kernel_rfl, by decide, by kernel_rfl⟩
/- f137 understory/page.divided[[]understory/api.Freed]: 25 temporaries, depth 5, 3 parameters, results [t6] -/
def c137 : RC :=
 (.seq (.ops [(oP 6 (.mv (.c (.lst 0 [] true))))])
 (.seq (.ops [(oP 7 (.mv (.c (.lst 0 [] true))))])
 (.seq (.block 0
 (.loop
 (.seq (.seq (.ops [(mV 10 1),
 (mV 11 0),
 (oP 12 (.callV (.t 10) [(.t 11)]))])
 (.cond (.t 12)
 .skip
 (.exit 0)))
 (.block 1
 (.seq (.ops [(mV 14 2),
 (mV 15 0),
 (oP 16 (.callV (.t 14) [(.t 15)])),
 (mV 13 16),
 (oP 17 (.extract (.t 13) 0)),
 (oP 18 (.extract (.t 13) 1)),
 (mV 8 17),
 (mV 9 18)])
 (.seq (.ops [(mV 19 7),
 (mV 20 8),
 (oP 21 (.mkLst 1 false 1 [(.lst 0 [] true)] [(0, 1, (.t 20))])),
 (oP 22 (.app 23 1 (.t 19) (.t 21))),
 (mV 7 22)])
 (.ops [(mV 23 9),
 (mV 0 23)])))))))
 (.cut (.seq (.ops [(mV 24 7),
 (mV 6 24)])
 .ret)))))
theorem F137 : FI 137 3 25 5 [.tmp 6] c137 := ⟨⟨Tryz.f137, Tryz.func137, by kernel_rfl, by kernel_rfl, by kernel_rfl⟩, by kernel_rfl, by decide, by kernel_rfl⟩
/- f100 understory/page.listParts: 5 temporaries, depth 3, 1 parameters, results [t2] -/
def c100 : RC :=
 (.seq (.ops [(oP 2 (.mv (.c (.lst 0 [] true))))])
 (.seq (.ops [(mV 3 0),
 (oP 4 (.callF 137 [(.t 3), (.c (.fn (.func 138) [] [])), (.c (.fn (.func 139) [] []))])),
 (mV 2 4)])
 .ret))
theorem F100 : FI 100 1 5 3 [.tmp 2] c100 := ⟨⟨Tryz.f100, Tryz.func100, by kernel_rfl, by kernel_rfl, by kernel_rfl⟩, by kernel_rfl, by decide, by kernel_rfl⟩
/- f138 understory/page.listParts$1: 6 temporaries, depth 3, 1 parameters, results [t2] -/
def c138 : RC :=
 (.seq (.ops [(oP 2 (.mv (.c (.bool false))))])
 (.seq (.ops [(mV 3 0),
 (oP 4 (.lenL (.t 3))),
 (oP 5 (.bin .gtr (.t 4) (.c (.int .i64 0)))),
 (mV 2 5)])
 .ret))
theorem F138 : FI 138 1 6 3 [.tmp 2] c138 := ⟨⟨Tryz.f138, Tryz.func138, by kernel_rfl, by kernel_rfl, by kernel_rfl⟩, by kernel_rfl, by decide, by kernel_rfl⟩
/- f38 understory/page.ListNeeds: 10 temporaries, depth 4, 1 parameters, results [t2, t3] -/
def c38 : RC :=
 (.seq (.ops [(oP 2 (.mv (.c (.int .i64 0)))),
 (oP 3 (.mv (.c (.int .i64 0))))])
 (.seq (.seq (.ops [(mV 4 0),
 (oP 5 (.callF 75 [(.t 4)])),
 (oP 6 (.un .not (.t 5)))])
 (.cond (.t 6)
 (.seq (.ops [(oP 2 (.mv (.c (.int .i64 0)))),
 (oP 3 (.mv (.c (.int .i64 2))))])
 .ret)
 .skip))
 (.seq (.ops [(mV 7 0),
 (oP 8 (.callF 100 [(.t 7)])),
 (oP 9 (.lenL (.t 8))),
 (mV 2 9),
 (oP 3 (.mv (.c (.int .i64 0))))])
 .ret)))
theorem F38 : FI 38 1 10 4 [.tmp 2, .tmp 3] c38 := ⟨⟨Tryz.f38, Tryz.func38, by kernel_rfl, by kernel_rfl, by kernel_rfl⟩, by kernel_rfl, by decide, by kernel_rfl⟩
/- f40 understory/page.ListPages: 48 temporaries, depth 6, 3 parameters, results [t6, t7] -/
def c40 : RC :=
 (.seq (.ops [(oP 6 (.mv (.c (.lst 0 [] true)))),
 (oP 7 (.mv (.c (.int .i64 0))))])
 (.seq (.seq (.ops [(mV 12 0),
 (oP 13 (.callF 75 [(.t 12)])),
 (oP 14 (.un .not (.t 13)))])
 (.cond (.t 14)
 (.seq (.ops [(oP 6 (.mv (.c (.lst 0 [] true)))),
 (oP 7 (.mv (.c (.int .i64 2))))])
 .ret)
 .skip))
 (.seq (.ops [(mV 15 0),
 (oP 16 (.callF 100 [(.t 15)])),
 (mV 8 16)])
 (.seq (.seq (.ops [(mV 17 1),
 (oP 18 (.lenL (.t 17))),
 (mV 19 8),
 (oP 20 (.lenL (.t 19))),
 (oP 21 (.bin .lss (.t 18) (.t 20))),
 (mV 22 21),
 (oG 23 22 false (.mv (.t 1))),
 (oG 24 22 false (.mv (.t 2))),
 (oG 25 22 false (.callF 92 [(.t 23), (.t 24)])),
 (oG 26 22 false (.un .not (.t 25))),
 (oP 27 (.pick (.t 22) (.c (.bool true)) (.t 26)))])
 (.cond (.t 27)
 (.seq (.ops [(oP 6 (.mv (.c (.lst 0 [] true)))),
 (oP 7 (.mv (.c (.int .i64 1))))])
 .ret)
 .skip))
 (.seq (.ops [(mV 28 1),
 (oP 29 (.lenL (.t 28))),
 (oP 30 (.mkSl 25 10 [(.int .i64 0), (.int .i64 0), (.int .i64 0), (.int .i64 0), (.int .i64 0), (.bool false), (.lst 0 [] true), (.int .i64 0), (.str []), (.lst 0 [] true)] (.t 29) (.t 29))),
 (mV 9 30)])
 (.seq (.seq (.ops [(mV 31 8),
 (oP 32 (.lenL (.t 31))),
 (oP 33 (.mv (.c (.int .i64 0))))])
 (.block 0
 (.loop
 (.seq (.ops [(oP 34 (.bin .lss (.t 33) (.t 32)))])
 (.seq (.cond (.t 34)
 .skip
 (.exit 0))
 (.seq (.block 1
 (.seq (.ops [(mV 35 33),
 (oP 36 (.indexAddrL 1 (.t 31) (.t 33))),
 (oP 37 (.load false 1 (.t 36))),
 (mV 10 35),
 (mV 11 37)])
 (.ops [(mV 38 9),
 (mV 39 10),
 (mV 40 11),
 (oP 41 (.indexAddrL 10 (.t 38) (.t 39))),
 (oP 42 (.fieldAddr 9 (.t 41))),
 (oU (.store 1 (.t 42) (.t 40)))])))
 (.ops [(oP 43 (.bin .add (.t 33) (.c (.int .i64 1)))),
 (mV 33 43)])))))))
 (.cut (.seq (.ops [(mV 44 9),
 (mV 45 1),
 (mV 46 2),
 (oP 47 (.callF 93 [(.t 44), (.t 45), (.c (.int .i64 4)), (.t 46)])),
 (mV 6 47),
 (oP 7 (.mv (.c (.int .i64 0))))])
 .ret))))))))
theorem F40 : FI 40 3 48 6 [.tmp 6, .tmp 7] c40 := ⟨⟨Tryz.f40, Tryz.func40, by kernel_rfl, by kernel_rfl, by kernel_rfl⟩, by kernel_rfl, by decide, by kernel_rfl⟩
/- f42 understory/page.ListOf: 90 temporaries, depth 7, 1 parameters, results [t2, t3] -/
def c42 : RC :=
 (.seq (.ops [(oP 2 (.mv (.c (.lst 0 [] true)))),
 (oP 3 (.mv (.c (.int .i64 0))))])
 (.seq (.seq (.ops [(mV 12 0),
 (oP 13 (.lenL (.t 12))),
 (oP 14 (.bin .eql (.t 13) (.c (.int .i64 0))))])
 (.cond (.t 14)
 (.seq (.ops [(oP 2 (.mv (.c (.lst 0 [] true)))),
 (oP 3 (.mv (.c (.int .i64 0))))])
 .ret)
 .skip))
 (.seq (.ops [(oP 4 (.mv (.c (.lst 0 [] true))))])
 (.seq (.seq (.ops [(mV 15 0),
 (oP 16 (.lenL (.t 15))),
 (oP 17 (.mv (.c (.int .i64 0))))])
 (.block 0
 (.loop
 (.seq (.ops [(oP 18 (.bin .lss (.t 17) (.t 16)))])
 (.seq (.cond (.t 18)
 .skip
 (.exit 0))
 (.seq (.block 1
 (.seq (.ops [(oP 19 (.indexAddrL 10 (.t 15) (.t 17))),
 (oP 20 (.load true 10 (.t 19))),
 (oP 6 (.alloc 25 [(.int .i64 0), (.int .i64 0), (.int .i64 0), (.int .i64 0), (.int .i64 0), (.bool false), (.lst 0 [] true), (.int .i64 0), (.str []), (.lst 0 [] true)])),
 (oU (.store 10 (.t 6) (.t 20)))])
 (.seq (.ops [(oP 21 (.fieldAddr 9 (.t 6))),
 (oP 22 (.load false 1 (.t 21))),
 (oP 23 (.lenL (.t 22))),
 (oP 24 (.mv (.c (.int .i64 0))))])
 (.block 2
 (.loop
 (.seq (.ops [(oP 25 (.bin .lss (.t 24) (.t 23)))])
 (.seq (.cond (.t 25)
 .skip
 (.exit 2))
 (.seq (.block 3
 (.seq (.ops [(mV 26 24),
 (oP 27 (.indexAddrL 2 (.t 22) (.t 24))),
 (oP 28 (.load true 2 (.t 27))),
 (oP 8 (.alloc 165 [(.int .i64 0), (.lst 0 [] true)])),
 (mV 7 26),
 (oU (.store 2 (.t 8) (.t 28)))])
 (.seq (.ops [(oP 29 (.fieldAddr 1 (.t 8))),
 (oP 30 (.load false 1 (.t 29))),
 (oP 31 (.callF 102 [(.t 30)])),
 (oP 32 (.fieldAddr 1 (.t 8))),
 (oU (.store 1 (.t 32) (.t 31)))])
 (.seq (.seq (.ops [(mV 33 4),
 (oP 34 (.lenL (.t 33))),
 (oP 35 (.bin .sub (.t 34) (.c (.int .i64 1)))),
 (mV 9 35)])
 (.seq (.draw [((mV 36 7), 0),
 ((oP 37 (.bin .eql (.t 36) (.c (.int .i64 0)))), 0),
 ((mV 38 37), 0),
 ((oG 39 38 true (.mv (.t 9))), 0),
 ((oG 40 38 true (.bin .geq (.t 39) (.c (.int .i64 0)))), 0),
 ((oP 41 (.pick (.t 38) (.t 40) (.c (.bool false)))), 0),
 ((mV 42 41), 0),
 ((oG 43 42 true (.mv (.t 4))), 0),
 ((oG 44 42 true (.mv (.t 9))), 0),
 ((oG 45 42 true (.indexAddrL 2 (.t 43) (.t 44))), 0),
 ((oG 46 42 true (.fieldAddr 0 (.t 45))), 0),
 ((oG 47 42 true (.load false 1 (.t 46))), 1),
 ((oG 48 42 true (.fieldAddr 0 (.t 8))), 0),
 ((oG 49 42 true (.load false 1 (.t 48))), 1),
 ((oG 50 42 true (.bin .eql (.t 47) (.t 49))), 0),
 ((oP 51 (.pick (.t 42) (.t 50) (.c (.bool false)))), 0)])
 (.cond (.t 51)
 (.seq (.draw [((mV 52 4), 0),
 ((mV 53 9), 0),
 ((mV 54 4), 0),
 ((mV 55 9), 0),
 ((oP 56 (.indexAddrL 2 (.t 54) (.t 55))), 0),
 ((oP 57 (.fieldAddr 1 (.t 56))), 0),
 ((oP 58 (.load false 1 (.t 57))), 1),
 ((oP 59 (.fieldAddr 1 (.t 8))), 0),
 ((oP 60 (.load false 1 (.t 59))), 1),
 ((oP 61 (.app 3 1 (.t 58) (.t 60))), 3),
 ((oP 62 (.indexAddrL 2 (.t 52) (.t 53))), 0),
 ((oP 63 (.fieldAddr 1 (.t 62))), 0),
 ((oU (.store 1 (.t 63) (.t 61))), 2)])
 (.exit 3))
 .skip)))
 (.ops [(mV 64 4),
 (oP 65 (.load true 2 (.t 8))),
 (oP 66 (.mkLst 2 true 1 [(.int .i64 0), (.lst 0 [] true)] [(0, 2, (.t 65))])),
 (oP 67 (.app 165 2 (.t 64) (.t 66))),
 (mV 4 67)])))))
 (.ops [(oP 68 (.bin .add (.t 24) (.c (.int .i64 1)))),
 (mV 24 68)])))))))))
 (.cut (.ops [(oP 69 (.bin .add (.t 17) (.c (.int .i64 1)))),
 (mV 17 69)]))))))))
 (.cut (.seq (.draw [((mV 71 4), 0),
 ((mV 72 0), 0),
 ((oP 73 (.callF 96 [(.t 72)])), 0),
 ((mV 74 0), 0),
 ((oP 75 (.indexAddrL 10 (.t 74) (.c (.int .i64 0)))), 0),
 ((oP 76 (.fieldAddr 2 (.t 75))), 0),
 ((oP 77 (.load false 1 (.t 76))), 1),
 ((oP 78 (.callF 40 [(.t 71), (.t 73), (.t 77)])), 2),
 ((mV 70 78), 0),
 ((oP 79 (.extract (.t 70) 0)), 0),
 ((oP 80 (.extract (.t 70) 1)), 0),
 ((mV 10 79), 0),
 ((mV 11 80), 0)])
 (.seq (.seq (.ops [(mV 81 11),
 (oP 82 (.bin .neq (.t 81) (.c (.int .i64 0)))),
 (mV 83 82),
 (oG 84 83 false (.mv (.t 0))),
 (oG 85 83 false (.mv (.t 10))),
 (oG 86 83 false (.callF 97 [(.t 84), (.t 85), (.c (.fn (.func 98) [] []))])),
 (oG 87 83 false (.un .not (.t 86))),
 (oP 88 (.pick (.t 83) (.c (.bool true)) (.t 87)))])
 (.cond (.t 88)
 (.seq (.ops [(oP 2 (.mv (.c (.lst 0 [] true)))),
 (oP 3 (.mv (.c (.int .i64 2))))])
 .ret)
 .skip))
 (.seq (.ops [(mV 89 4),
 (mV 2 89),
 (oP 3 (.mv (.c (.int .i64 0))))])
 .ret))))))))
theorem F42 : FI 42 1 90 7 [.tmp 2, .tmp 3] c42 := ⟨⟨Tryz.f42, Tryz.func42, by kernel_rfl, by kernel_rfl, by kernel_rfl⟩, by kernel_rfl, by decide, by kernel_rfl⟩
end Go.Proofs
/- The looked-up text of the functions. -/
namespace Go.Proofs
open Go Go.Abs
/- f30 understory/understoryref04.Pieces: 28 temporaries, depth 5, 1 parameters, results [*t2] -/
/- f94 understory/understoryref04.numbered: 39 temporaries, depth 6, 2 parameters, results [t4] -/
def c94 : RC :=
 (.seq (.ops [(oP 4 (.mv (.c (.bool false))))])
 (.seq (.seq (.ops [(oP 5 (.mv (.c (.int .i64 0))))])
 (.block 0
 (.loop
 (.seq (.seq (.ops [(mV 7 5),
 (mV 8 0),
 (oP 9 (.lenL (.t 8))),
 (oP 10 (.bin .lss (.t 7) (.t 9)))])
 (.cond (.t 10)
 .skip
 (.exit 0)))
 (.seq (.block 1
 (.seq (.seq (.ops [(mV 13 0),
 (mV 14 5),
 (oP 15 (.indexAddrL 1 (.t 13) (.t 14))),
 (oP 16 (.load false 1 (.t 15))),
 (oP 17 (.callF 50 [(.t 16)])),
 (oP 18 (.un .not (.t 17)))])
 (.cond (.t 18)
 (.seq (.ops [(oP 4 (.mv (.c (.bool false))))])
 .ret)
 .skip))
 (.seq (.ops [(oP 6 (.mv (.c (.int .i64 0))))])
 (.block 2
 (.loop
 (.seq (.seq (.ops [(mV 19 6),
 (mV 20 5),
 (oP 21 (.bin .lss (.t 19) (.t 20)))])
 (.cond (.t 21)
 .skip
 (.exit 2)))
 (.seq (.block 3
 (.seq (.draw [((mV 24 0), 0),
 ((mV 25 6), 0),
 ((oP 26 (.indexAddrL 1 (.t 24) (.t 25))), 0),
 ((oP 27 (.load false 1 (.t 26))), 1),
 ((mV 28 0), 0),
 ((mV 29 5), 0),
 ((oP 30 (.indexAddrL 1 (.t 28) (.t 29))), 0),
 ((oP 31 (.load false 1 (.t 30))), 1),
 ((oP 32 (.bin .eql (.t 27) (.t 31))), 0)])
 (.cond (.t 32)
 (.seq (.ops [(oP 4 (.mv (.c (.bool false))))])
 .ret)
 .skip)))
 (.ops [(mV 22 6),
 (oP 23 (.bin .add (.t 22) (.c (.int .i64 1)))),
 (mV 6 23)]))))))))
 (.cut (.ops [(mV 11 5),
 (oP 12 (.bin .add (.t 11) (.c (.int .i64 1)))),
 (mV 5 12)])))))))
 (.cut (.seq (.ops [(mV 33 1),
 (oP 34 (.bin .geq (.t 33) (.c (.int .i64 0)))),
 (mV 35 34),
 (oG 36 35 true (.mv (.t 1))),
 (oG 37 35 true (.bin .leq (.t 36) (.c (.int .i64 1099511627776)))),
 (oP 38 (.pick (.t 35) (.t 37) (.c (.bool false)))),
 (mV 4 38)])
 .ret))))
theorem F94 : FI 94 2 39 6 [.tmp 4] c94 := ⟨⟨Tryz.f94, Tryz.func94, by kernel_rfl, by kernel_rfl, by kernel_rfl⟩, by kernel_rfl, by decide, by kernel_rfl⟩
/- f32 understory/understoryref04.Chain: 66 temporaries, depth 7, 3 parameters, results [*t6] -/
/- f99 understory/understoryref04.numbers: 20 temporaries, depth 5, 1 parameters, results [t2] -/
def c99 : RC :=
 (.seq (.ops [(oP 2 (.mv (.c (.lst 0 [] true))))])
 (.seq (.ops [(oP 3 (.mv (.c (.lst 0 [] true))))])
 (.seq (.seq (.ops [(oP 4 (.mv (.c (.int .i64 0))))])
 (.block 0
 (.loop
 (.seq (.seq (.ops [(mV 5 4),
 (mV 6 0),
 (oP 7 (.lenL (.t 6))),
 (oP 8 (.bin .lss (.t 5) (.t 7)))])
 (.cond (.t 8)
 .skip
 (.exit 0)))
 (.seq (.block 1
 (.ops [(mV 11 3),
 (mV 12 0),
 (mV 13 4),
 (oP 14 (.indexAddrL 10 (.t 12) (.t 13))),
 (oP 15 (.fieldAddr 1 (.t 14))),
 (oP 16 (.load false 1 (.t 15))),
 (oP 17 (.mkLst 1 false 1 [(.int .i64 0)] [(0, 1, (.t 16))])),
 (oP 18 (.app 3 1 (.t 11) (.t 17))),
 (mV 3 18)]))
 (.ops [(mV 9 4),
 (oP 10 (.bin .add (.t 9) (.c (.int .i64 1)))),
 (mV 4 10)]))))))
 (.cut (.seq (.ops [(mV 19 3),
 (mV 2 19)])
 .ret)))))
theorem F99 : FI 99 1 20 5 [.tmp 2] c99 := ⟨⟨Tryz.f99, Tryz.func99, by kernel_rfl, by kernel_rfl, by kernel_rfl⟩, by kernel_rfl, by decide, by kernel_rfl⟩
/- f36 understory/understoryref04.SamePages: 27 temporaries, depth 5, 2 parameters, results [t4] -/
def c36 : RC :=
 (.seq (.ops [(oP 4 (.mv (.c (.bool false))))])
 (.seq (.seq (.ops [(mV 6 0),
 (oP 7 (.lenL (.t 6))),
 (mV 8 1),
 (oP 9 (.lenL (.t 8))),
 (oP 10 (.bin .neq (.t 7) (.t 9)))])
 (.cond (.t 10)
 (.seq (.ops [(oP 4 (.mv (.c (.bool false))))])
 .ret)
 .skip))
 (.seq (.seq (.ops [(oP 5 (.mv (.c (.int .i64 0))))])
 (.block 0
 (.loop
 (.seq (.seq (.ops [(mV 11 5),
 (mV 12 0),
 (oP 13 (.lenL (.t 12))),
 (oP 14 (.bin .lss (.t 11) (.t 13)))])
 (.cond (.t 14)
 .skip
 (.exit 0)))
 (.seq (.block 1
 (.seq (.draw [((mV 17 0), 0),
 ((mV 18 5), 0),
 ((oP 19 (.indexAddrL 10 (.t 17) (.t 18))), 0),
 ((oP 20 (.load true 10 (.t 19))), 1),
 ((mV 21 1), 0),
 ((mV 22 5), 0),
 ((oP 23 (.indexAddrL 10 (.t 21) (.t 22))), 0),
 ((oP 24 (.load true 10 (.t 23))), 1),
 ((oP 25 (.callF 17 [(.t 20), (.t 24)])), 0),
 ((oP 26 (.un .not (.t 25))), 0)])
 (.cond (.t 26)
 (.seq (.ops [(oP 4 (.mv (.c (.bool false))))])
 .ret)
 .skip)))
 (.ops [(mV 15 5),
 (oP 16 (.bin .add (.t 15) (.c (.int .i64 1)))),
 (mV 5 16)]))))))
 (.cut (.seq (.ops [(oP 4 (.mv (.c (.bool true))))])
 .ret)))))
theorem F36 : FI 36 2 27 5 [.tmp 4] c36 := ⟨⟨Tryz.f36, Tryz.func36, by kernel_rfl, by kernel_rfl, by kernel_rfl⟩, by kernel_rfl, by decide, by kernel_rfl⟩
/- f34 understory/understoryref04.Joined: 54 temporaries, depth 6, 1 parameters, results [*t2] -/
/- f35 understory/understorylaw04.texts: 26 temporaries, depth 5, 2 parameters, results [t4] -/
/- f6 understory/understorylaw04.PageChains: 96 temporaries, depth 7, 4 parameters, results [t8] -/
def c6 : RC :=
 (.seq (.ops [(oP 8 (.mv (.c (.bool false))))])
 (.seq (.ops [(oP 19 (.callF 9 [])),
 (mV 9 19)])
 (.seq (.seq (.ops [(mV 20 0),
 (oP 21 (.lenS (.t 20))),
 (oP 22 (.bin .gtr (.t 21) (.c (.int .i64 5000)))),
 (mV 23 22),
 (oG 24 23 false (.mv (.t 1))),
 (oG 25 23 false (.lenL (.t 24))),
 (oG 26 23 false (.bin .gtr (.t 25) (.c (.int .i64 30)))),
 (oP 27 (.pick (.t 23) (.c (.bool true)) (.t 26))),
 (mV 28 27),
 (oG 29 28 false (.mv (.t 3))),
 (oG 30 28 false (.callF 10 [(.t 29)])),
 (oG 31 28 false (.un .not (.t 30))),
 (oP 32 (.pick (.t 28) (.c (.bool true)) (.t 31)))])
 (.cond (.t 32)
 (.seq (.ops [(mV 33 9),
 (mV 8 33)])
 .ret)
 .skip))
 (.seq (.ops [(mV 35 0),
 (oP 36 (.callF 29 [(.t 35)])),
 (mV 34 36),
 (oP 37 (.extract (.t 34) 0)),
 (oP 38 (.extract (.t 34) 1)),
 (mV 10 37),
 (mV 11 38)])
 (.seq (.ops [(mV 39 0),
 (oP 40 (.callF 30 [(.t 39)])),
 (oP 12 (.alloc 76 [(.lst 0 [] true), (.int .i64 0)])),
 (oU (.store 2 (.t 12) (.t 40)))])
 (.seq (.ops [(mV 42 0),
 (mV 43 1),
 (mV 44 2),
 (oP 45 (.callF 31 [(.t 42), (.t 43), (.t 44)])),
 (mV 41 45),
 (oP 46 (.extract (.t 41) 0)),
 (oP 47 (.extract (.t 41) 1)),
 (mV 13 46),
 (mV 14 47)])
 (.seq (.ops [(mV 48 0),
 (mV 49 1),
 (mV 50 2),
 (oP 51 (.callF 32 [(.t 48), (.t 49), (.t 50)])),
 (oP 15 (.alloc 81 [(.lst 0 [] true), (.int .i64 0)])),
 (oU (.store 2 (.t 15) (.t 51)))])
 (.seq (.ops [(mV 53 3),
 (oP 54 (.callF 33 [(.t 53)])),
 (mV 52 54),
 (oP 55 (.extract (.t 52) 0)),
 (oP 56 (.extract (.t 52) 1)),
 (mV 16 55),
 (mV 17 56)])
 (.seq (.ops [(mV 57 3),
 (oP 58 (.callF 34 [(.t 57)])),
 (oP 18 (.alloc 33 [(.str []), (.int .i64 0)])),
 (oU (.store 2 (.t 18) (.t 58)))])
 (.seq (.ops [(mV 59 9),
 (mV 60 59),
 (oG 61 60 true (.mv (.t 10))),
 (oG 62 60 true (.fieldAddr 0 (.t 12))),
 (oG 63 60 true (.load false 1 (.t 62))),
 (oG 64 60 true (.callF 35 [(.t 61), (.t 63)])),
 (oP 65 (.pick (.t 60) (.t 64) (.c (.bool false)))),
 (mV 66 65),
 (oG 67 66 true (.mv (.t 11))),
 (oG 68 66 true (.fieldAddr 1 (.t 12))),
 (oG 69 66 true (.load false 1 (.t 68))),
 (oG 70 66 true (.bin .eql (.t 67) (.t 69))),
 (oP 71 (.pick (.t 66) (.t 70) (.c (.bool false)))),
 (mV 72 71),
 (oG 73 72 true (.mv (.t 13))),
 (oG 74 72 true (.fieldAddr 0 (.t 15))),
 (oG 75 72 true (.load false 1 (.t 74))),
 (oG 76 72 true (.callF 36 [(.t 73), (.t 75)])),
 (oP 77 (.pick (.t 72) (.t 76) (.c (.bool false)))),
 (mV 78 77),
 (oG 79 78 true (.mv (.t 14))),
 (oG 80 78 true (.fieldAddr 1 (.t 15))),
 (oG 81 78 true (.load false 1 (.t 80))),
 (oG 82 78 true (.bin .eql (.t 79) (.t 81))),
 (oP 83 (.pick (.t 78) (.t 82) (.c (.bool false)))),
 (mV 84 83),
 (oG 85 84 true (.mv (.t 16))),
 (oG 86 84 true (.fieldAddr 0 (.t 18))),
 (oG 87 84 true (.load false 1 (.t 86))),
 (oG 88 84 true (.bin .eql (.t 85) (.t 87))),
 (oP 89 (.pick (.t 84) (.t 88) (.c (.bool false)))),
 (mV 90 89),
 (oG 91 90 true (.mv (.t 17))),
 (oG 92 90 true (.fieldAddr 1 (.t 18))),
 (oG 93 90 true (.load false 1 (.t 92))),
 (oG 94 90 true (.bin .eql (.t 91) (.t 93))),
 (oP 95 (.pick (.t 90) (.t 94) (.c (.bool false)))),
 (mV 8 95)])
 .ret))))))))))
end Go.Proofs
/- The looked-up text of the functions. -/
namespace Go.Proofs
open Go Go.Abs
/- f92 understory/page.numbers: 25 temporaries, depth 5, 2 parameters, results [t4] -/
def c92 : RC :=
 (.seq (.ops [(oP 4 (.mv (.c (.bool false))))])
 (.seq (.ops [(mV 6 0),
 (oP 7 (.callF 102 [(.t 6)])),
 (mV 5 7)])
 (.seq (.ops [(mV 8 5),
 (oP 9 (.callF 130 [(.t 8)]))])
 (.seq (.ops [(mV 10 5),
 (oP 11 (.callF 131 [(.t 10)])),
 (oP 12 (.lenL (.t 11))),
 (mV 13 0),
 (oP 14 (.lenL (.t 13))),
 (oP 15 (.bin .eql (.t 12) (.t 14))),
 (mV 16 15),
 (oG 17 16 true (.mv (.t 0))),
 (oG 18 16 true (.callF 132 [(.t 17), (.c (.fn (.func 133) [] []))])),
 (oG 19 16 true (.un .not (.t 18))),
 (oP 20 (.pick (.t 16) (.t 19) (.c (.bool false)))),
 (mV 21 20),
 (oG 22 21 true (.mv (.t 1))),
 (oG 23 21 true (.callF 71 [(.t 22), (.c (.int .i64 0)), (.c (.int .i64 1099511627776))])),
 (oP 24 (.pick (.t 21) (.t 23) (.c (.bool false)))),
 (mV 4 24)])
 .ret))))
theorem F92 : FI 92 2 25 5 [.tmp 4] c92 := ⟨⟨Tryz.f92, Tryz.func92, by kernel_rfl, by kernel_rfl, by kernel_rfl⟩, by kernel_rfl, by decide, by kernel_rfl⟩
/- f133 understory/page.numbers$1: 6 temporaries, depth 3, 1 parameters, results [t2] -/
def c133 : RC :=
 (.seq (.ops [(oP 2 (.mv (.c (.bool false))))])
 (.seq (.ops [(mV 3 0),
 (oP 4 (.callF 70 [(.t 3)])),
 (oP 5 (.un .not (.t 4))),
 (mV 2 5)])
 .ret))
theorem F133 : FI 133 1 6 3 [.tmp 2] c133 := ⟨⟨Tryz.f133, Tryz.func133, by kernel_rfl, by kernel_rfl, by kernel_rfl⟩, by kernel_rfl, by decide, by kernel_rfl⟩
/- f132 slices.ContainsFunc[[]int,int]: 9 temporaries, depth 4, 2 parameters, results [t4] -/
def c132 : RC :=
 (.seq (.ops [(oP 4 (.mv (.c (.bool false))))])
 (.seq (.ops [(mV 5 0),
 (mV 6 1),
 (oP 7 (.callF 164 [(.t 5), (.t 6)])),
 (oP 8 (.bin .geq (.t 7) (.c (.int .i64 0)))),
 (mV 4 8)])
 .ret))
theorem F132 : FI 132 2 9 4 [.tmp 4] c132 := ⟨⟨Tryz.f132, Tryz.func132, by kernel_rfl, by kernel_rfl, by kernel_rfl⟩, by kernel_rfl, by decide, by kernel_rfl⟩
/- f164 slices.IndexFunc[[]int,int]: 19 temporaries, depth 5, 2 parameters, results [t4] -/
def c164 : RC :=
 (.seq (.ops [(oP 4 (.mv (.c (.int .i64 0))))])
 (.seq (.seq (.ops [(mV 6 0),
 (oP 7 (.lenL (.t 6))),
 (oP 8 (.mv (.c (.int .i64 0))))])
 (.block 0
 (.loop
 (.seq (.ops [(oP 9 (.bin .lss (.t 8) (.t 7)))])
 (.seq (.cond (.t 9)
 .skip
 (.exit 0))
 (.seq (.block 1
 (.seq (.ops [(mV 10 8),
 (mV 5 10)])
 (.seq (.ops [(mV 11 1),
 (mV 12 0),
 (mV 13 5),
 (oP 14 (.indexAddrL 1 (.t 12) (.t 13))),
 (oP 15 (.load false 1 (.t 14))),
 (oP 16 (.callV (.t 11) [(.t 15)]))])
 (.cond (.t 16)
 (.seq (.ops [(mV 17 5),
 (mV 4 17)])
 .ret)
 .skip))))
 (.ops [(oP 18 (.bin .add (.t 8) (.c (.int .i64 1)))),
 (mV 8 18)])))))))
 (.cut (.seq (.ops [(oP 4 (.mv (.c (.int .i64 (-1)))))])
 .ret))))
theorem F164 : FI 164 2 19 5 [.tmp 4] c164 := ⟨⟨Tryz.f164, Tryz.func164, by kernel_rfl, by kernel_rfl, by kernel_rfl⟩, by kernel_rfl, by decide, by kernel_rfl⟩
/- f102 slices.Clone[[]int,int]: 8 temporaries, depth 4, 1 parameters, results [t2] -/
def c102 : RC :=
 (.seq (.ops [(oP 2 (.mv (.c (.lst 0 [] true))))])
 (.seq (.seq (.ops [(mV 3 0),
 ⟨some 4, none, .op (.raw { dst := (some 4), op := (.binOp .eql 70 (.tmp 3) (.const (.slice none 0 0)) 70), type := 4, pos := "slices.go:357", after := #[⟨0, .data⟩], guard := none })⟩])
 (.cond (.t 4)
 (.seq (.ops [(oP 2 (.mv (.c (.lst 0 [] true))))])
 .ret)
 .skip))
 (.seq (.ops [(oP 5 (.mkLst 1 false 0 [(.int .i64 0)] [])),
 (mV 6 0),
 (oP 7 (.app 3 1 (.t 5) (.t 6))),
 (mV 2 7)])
 .ret)))
theorem F102 : FI 102 1 8 4 [.tmp 2] c102 := ⟨⟨Tryz.f102, Tryz.func102, by kernel_rfl, by kernel_rfl, by kernel_rfl⟩, by kernel_rfl, by decide, by kernel_rfl⟩
/- f29 understory/page.Pieces: 10 temporaries, depth 4, 1 parameters, results [t2, t3] -/
/- f89 understory/page.divided[string]: 25 temporaries, depth 5, 3 parameters, results [t6] -/
/- f90 understory/page.Pieces$1: 5 temporaries, depth 3, 1 parameters, results [t2] -/
/- f91 understory/page.Pieces$2: 14 temporaries, depth 4, 1 parameters, results [t2, t3] -/
/- f93 understory/page.chained: 49 temporaries, depth 6, 4 parameters, results [t8] -/
def c93 : RC :=
 (.seq (.ops [(oP 8 (.mv (.c (.lst 0 [] true))))])
 (.seq (.seq (.ops [(mV 10 0),
 (oP 11 (.lenL (.t 10))),
 (oP 12 (.mv (.c (.int .i64 0))))])
 (.block 0
 (.loop
 (.seq (.ops [(oP 13 (.bin .lss (.t 12) (.t 11)))])
 (.seq (.cond (.t 13)
 .skip
 (.exit 0))
 (.seq (.block 1
 (.seq (.ops [(mV 14 12),
 (mV 9 14)])
 (.seq (.ops [(mV 15 0),
 (mV 16 9),
 (mV 17 0),
 (mV 18 9),
 (mV 19 0),
 (mV 20 9),
 (mV 21 2),
 (mV 22 1),
 (mV 23 9),
 (oP 24 (.indexAddrL 1 (.t 22) (.t 23))),
 (oP 25 (.load false 1 (.t 24))),
 (mV 26 3),
 (oP 27 (.indexAddrL 10 (.t 15) (.t 16))),
 (oP 28 (.fieldAddr 0 (.t 27))),
 (oU (.store 1 (.t 28) (.t 21))),
 (oP 29 (.indexAddrL 10 (.t 17) (.t 18))),
 (oP 30 (.fieldAddr 1 (.t 29))),
 (oU (.store 1 (.t 30) (.t 25))),
 (oP 31 (.indexAddrL 10 (.t 19) (.t 20))),
 (oP 32 (.fieldAddr 2 (.t 31))),
 (oU (.store 1 (.t 32) (.t 26)))])
 (.seq (.ops [(mV 33 9),
 (oP 34 (.bin .add (.t 33) (.c (.int .i64 1)))),
 (mV 35 0),
 (oP 36 (.lenL (.t 35))),
 (oP 37 (.bin .lss (.t 34) (.t 36)))])
 (.cond (.t 37)
 (.ops [(mV 38 0),
 (mV 39 9),
 (mV 40 1),
 (mV 41 9),
 (oP 42 (.bin .add (.t 41) (.c (.int .i64 1)))),
 (oP 43 (.indexAddrL 1 (.t 40) (.t 42))),
 (oP 44 (.load false 1 (.t 43))),
 (oP 45 (.indexAddrL 10 (.t 38) (.t 39))),
 (oP 46 (.fieldAddr 7 (.t 45))),
 (oU (.store 1 (.t 46) (.t 44)))])
 .skip)))))
 (.ops [(oP 47 (.bin .add (.t 12) (.c (.int .i64 1)))),
 (mV 12 47)])))))))
 (.cut (.seq (.ops [(mV 48 0),
 (mV 8 48)])
 .ret))))
theorem F93 : FI 93 4 49 6 [.tmp 8] c93 := ⟨⟨Tryz.f93, Tryz.func93, by kernel_rfl, by kernel_rfl, by kernel_rfl⟩, by kernel_rfl, by decide, by kernel_rfl⟩
/- f31 understory/page.Chain: 52 temporaries, depth 6, 3 parameters, results [t6, t7] -/
/- f95 understory/page.joinedText: 17 temporaries, depth 5, 1 parameters, results [t2] -/
/- f96 understory/page.numbersOf: 19 temporaries, depth 5, 1 parameters, results [t2] -/
def c96 : RC :=
 (.seq (.ops [(oP 2 (.mv (.c (.lst 0 [] true))))])
 (.seq (.ops [(oP 3 (.mv (.c (.lst 0 [] true))))])
 (.seq (.seq (.ops [(mV 6 0),
 (oP 7 (.lenL (.t 6))),
 (oP 8 (.mv (.c (.int .i64 0))))])
 (.block 0
 (.loop
 (.seq (.ops [(oP 9 (.bin .lss (.t 8) (.t 7)))])
 (.seq (.cond (.t 9)
 .skip
 (.exit 0))
 (.seq (.block 1
 (.seq (.ops [(oP 10 (.indexAddrL 10 (.t 6) (.t 8))),
 (oP 11 (.load true 10 (.t 10))),
 (oP 5 (.alloc 25 [(.int .i64 0), (.int .i64 0), (.int .i64 0), (.int .i64 0), (.int .i64 0), (.bool false), (.lst 0 [] true), (.int .i64 0), (.str []), (.lst 0 [] true)])),
 (oU (.store 10 (.t 5) (.t 11)))])
 (.ops [(mV 12 3),
 (oP 13 (.fieldAddr 1 (.t 5))),
 (oP 14 (.load false 1 (.t 13))),
 (oP 15 (.mkLst 1 false 1 [(.int .i64 0)] [(0, 1, (.t 14))])),
 (oP 16 (.app 3 1 (.t 12) (.t 15))),
 (mV 3 16)])))
 (.ops [(oP 17 (.bin .add (.t 8) (.c (.int .i64 1)))),
 (mV 8 17)])))))))
 (.cut (.seq (.ops [(mV 18 3),
 (mV 2 18)])
 .ret)))))
theorem F96 : FI 96 1 19 5 [.tmp 2] c96 := ⟨⟨Tryz.f96, Tryz.func96, by kernel_rfl, by kernel_rfl, by kernel_rfl⟩, by kernel_rfl, by decide, by kernel_rfl⟩
/- f97 slices.EqualFunc[[]understory/api.Page,[]understory/api.Page,understory/api.Page,understory/api.Page]: 32 temporaries, depth 6, 3 parameters, results [t6] -/
def c97 : RC :=
 (.seq (.ops [(oP 6 (.mv (.c (.bool false))))])
 (.seq (.seq (.ops [(mV 10 0),
 (oP 11 (.lenL (.t 10))),
 (mV 12 1),
 (oP 13 (.lenL (.t 12))),
 (oP 14 (.bin .neq (.t 11) (.t 13)))])
 (.cond (.t 14)
 (.seq (.ops [(oP 6 (.mv (.c (.bool false))))])
 .ret)
 .skip))
 (.seq (.seq (.ops [(mV 15 0),
 (oP 16 (.lenL (.t 15))),
 (oP 17 (.mv (.c (.int .i64 0))))])
 (.block 0
 (.loop
 (.seq (.ops [(oP 18 (.bin .lss (.t 17) (.t 16)))])
 (.seq (.cond (.t 18)
 .skip
 (.exit 0))
 (.seq (.block 1
 (.seq (.ops [(mV 19 17),
 (oP 20 (.indexAddrL 10 (.t 15) (.t 17))),
 (oP 21 (.load true 10 (.t 20))),
 (oP 8 (.alloc 25 [(.int .i64 0), (.int .i64 0), (.int .i64 0), (.int .i64 0), (.int .i64 0), (.bool false), (.lst 0 [] true), (.int .i64 0), (.str []), (.lst 0 [] true)])),
 (mV 7 19),
 (oU (.store 10 (.t 8) (.t 21)))])
 (.seq (.ops [(mV 22 1),
 (mV 23 7),
 (oP 24 (.indexAddrL 10 (.t 22) (.t 23))),
 (oP 25 (.load true 10 (.t 24))),
 (oP 9 (.alloc 25 [(.int .i64 0), (.int .i64 0), (.int .i64 0), (.int .i64 0), (.int .i64 0), (.bool false), (.lst 0 [] true), (.int .i64 0), (.str []), (.lst 0 [] true)])),
 (oU (.store 10 (.t 9) (.t 25)))])
 (.seq (.ops [(mV 26 2),
 (oP 27 (.load true 10 (.t 8))),
 (oP 28 (.load true 10 (.t 9))),
 (oP 29 (.callV (.t 26) [(.t 27), (.t 28)])),
 (oP 30 (.un .not (.t 29)))])
 (.cond (.t 30)
 (.seq (.ops [(oP 6 (.mv (.c (.bool false))))])
 .ret)
 .skip)))))
 (.ops [(oP 31 (.bin .add (.t 17) (.c (.int .i64 1)))),
 (mV 17 31)])))))))
 (.cut (.seq (.ops [(oP 6 (.mv (.c (.bool true))))])
 .ret)))))
theorem F97 : FI 97 3 32 6 [.tmp 6] c97 := ⟨⟨Tryz.f97, Tryz.func97, by kernel_rfl, by kernel_rfl, by kernel_rfl⟩, by kernel_rfl, by decide, by kernel_rfl⟩
/- f98 understory/page.same: 53 temporaries, depth 6, 2 parameters, results [t4] -/
def c98 : RC :=
 (.seq (.ops [(oP 2 (.box 25 (.t 0))),
 (oP 3 (.box 25 (.t 1))),
 (oP 4 (.mv (.c (.bool false))))])
 (.seq (.seq (.ops [(oP 5 (.fieldAddr 0 (.t 2))),
 (oP 6 (.load false 1 (.t 5))),
 (oP 7 (.fieldAddr 0 (.t 3))),
 (oP 8 (.load false 1 (.t 7))),
 (oP 9 (.bin .neq (.t 6) (.t 8))),
 (mV 10 9),
 (oG 11 10 false (.fieldAddr 1 (.t 2))),
 (oG 12 10 false (.load false 1 (.t 11))),
 (oG 13 10 false (.fieldAddr 1 (.t 3))),
 (oG 14 10 false (.load false 1 (.t 13))),
 (oG 15 10 false (.bin .neq (.t 12) (.t 14))),
 (oP 16 (.pick (.t 10) (.c (.bool true)) (.t 15))),
 (mV 17 16),
 (oG 18 17 false (.fieldAddr 2 (.t 2))),
 (oG 19 17 false (.load false 1 (.t 18))),
 (oG 20 17 false (.fieldAddr 2 (.t 3))),
 (oG 21 17 false (.load false 1 (.t 20))),
 (oG 22 17 false (.bin .neq (.t 19) (.t 21))),
 (oP 23 (.pick (.t 17) (.c (.bool true)) (.t 22))),
 (mV 24 23),
 (oG 25 24 false (.fieldAddr 7 (.t 2))),
 (oG 26 24 false (.load false 1 (.t 25))),
 (oG 27 24 false (.fieldAddr 7 (.t 3))),
 (oG 28 24 false (.load false 1 (.t 27))),
 (oG 29 24 false (.bin .neq (.t 26) (.t 28))),
 (oP 30 (.pick (.t 24) (.c (.bool true)) (.t 29))),
 (mV 31 30),
 (oG 32 31 false (.fieldAddr 8 (.t 2))),
 (oG 33 31 false (.load false 1 (.t 32))),
 (oG 34 31 false (.fieldAddr 8 (.t 3))),
 (oG 35 31 false (.load false 1 (.t 34))),
 (oG 36 31 false (.bin .neq (.t 33) (.t 35))),
 (oP 37 (.pick (.t 31) (.c (.bool true)) (.t 36))),
 (mV 38 37),
 (oG 39 38 false (.load true 10 (.t 2))),
 (oG 40 38 false (.callF 73 [(.t 39)])),
 (oG 41 38 false (.un .not (.t 40))),
 (oP 42 (.pick (.t 38) (.c (.bool true)) (.t 41))),
 (mV 43 42),
 (oG 44 43 false (.load true 10 (.t 3))),
 (oG 45 43 false (.callF 73 [(.t 44)])),
 (oG 46 43 false (.un .not (.t 45))),
 (oP 47 (.pick (.t 43) (.c (.bool true)) (.t 46)))])
 (.cond (.t 47)
 (.seq (.ops [(oP 4 (.mv (.c (.bool false))))])
 .ret)
 .skip))
 (.seq (.ops [(oP 48 (.fieldAddr 9 (.t 2))),
 (oP 49 (.load false 1 (.t 48))),
 (oP 50 (.fieldAddr 9 (.t 3))),
 (oP 51 (.load false 1 (.t 50))),
 (oP 52 (.callF 134 [(.t 49), (.t 51), (.c (.fn (.func 135) [] []))])),
 (mV 4 52)])
 .ret)))
theorem F98 : FI 98 2 53 6 [.tmp 4] c98 := ⟨⟨Tryz.f98, Tryz.func98, by kernel_rfl, by kernel_rfl, by kernel_rfl⟩, by kernel_rfl, by decide, by kernel_rfl⟩
/- f134 slices.EqualFunc[[]understory/api.Freed,[]understory/api.Freed,understory/api.Freed,understory/api.Freed]: 32 temporaries, depth 6, 3 parameters, results [t6] -/
def c134 : RC :=
 (.seq (.ops [(oP 6 (.mv (.c (.bool false))))])
 (.seq (.seq (.ops [(mV 10 0),
 (oP 11 (.lenL (.t 10))),
 (mV 12 1),
 (oP 13 (.lenL (.t 12))),
 (oP 14 (.bin .neq (.t 11) (.t 13)))])
 (.cond (.t 14)
 (.seq (.ops [(oP 6 (.mv (.c (.bool false))))])
 .ret)
 .skip))
 (.seq (.seq (.ops [(mV 15 0),
 (oP 16 (.lenL (.t 15))),
 (oP 17 (.mv (.c (.int .i64 0))))])
 (.block 0
 (.loop
 (.seq (.ops [(oP 18 (.bin .lss (.t 17) (.t 16)))])
 (.seq (.cond (.t 18)
 .skip
 (.exit 0))
 (.seq (.block 1
 (.seq (.ops [(mV 19 17),
 (oP 20 (.indexAddrL 2 (.t 15) (.t 17))),
 (oP 21 (.load true 2 (.t 20))),
 (oP 8 (.alloc 165 [(.int .i64 0), (.lst 0 [] true)])),
 (mV 7 19),
 (oU (.store 2 (.t 8) (.t 21)))])
 (.seq (.ops [(mV 22 1),
 (mV 23 7),
 (oP 24 (.indexAddrL 2 (.t 22) (.t 23))),
 (oP 25 (.load true 2 (.t 24))),
 (oP 9 (.alloc 165 [(.int .i64 0), (.lst 0 [] true)])),
 (oU (.store 2 (.t 9) (.t 25)))])
 (.seq (.ops [(mV 26 2),
 (oP 27 (.load true 2 (.t 8))),
 (oP 28 (.load true 2 (.t 9))),
 (oP 29 (.callV (.t 26) [(.t 27), (.t 28)])),
 (oP 30 (.un .not (.t 29)))])
 (.cond (.t 30)
 (.seq (.ops [(oP 6 (.mv (.c (.bool false))))])
 .ret)
 .skip)))))
 (.ops [(oP 31 (.bin .add (.t 17) (.c (.int .i64 1)))),
 (mV 17 31)])))))))
 (.cut (.seq (.ops [(oP 6 (.mv (.c (.bool true))))])
 .ret)))))
theorem F134 : FI 134 3 32 6 [.tmp 6] c134 := ⟨⟨Tryz.f134, Tryz.func134, by kernel_rfl, by kernel_rfl, by kernel_rfl⟩, by kernel_rfl, by decide, by kernel_rfl⟩
/- f135 understory/page.same$1: 17 temporaries, depth 5, 2 parameters, results [t4] -/
def c135 : RC :=
 (.seq (.ops [(oP 2 (.box 165 (.t 0))),
 (oP 3 (.box 165 (.t 1))),
 (oP 4 (.mv (.c (.bool false))))])
 (.seq (.ops [(oP 5 (.fieldAddr 0 (.t 2))),
 (oP 6 (.load false 1 (.t 5))),
 (oP 7 (.fieldAddr 0 (.t 3))),
 (oP 8 (.load false 1 (.t 7))),
 (oP 9 (.bin .eql (.t 6) (.t 8))),
 (mV 10 9),
 (oG 11 10 true (.fieldAddr 1 (.t 2))),
 (oG 12 10 true (.load false 1 (.t 11))),
 (oG 13 10 true (.fieldAddr 1 (.t 3))),
 (oG 14 10 true (.load false 1 (.t 13))),
 (oG 15 10 true (.callF 136 [(.t 12), (.t 14)])),
 (oP 16 (.pick (.t 10) (.t 15) (.c (.bool false)))),
 (mV 4 16)])
 .ret))
theorem F135 : FI 135 2 17 5 [.tmp 4] c135 := ⟨⟨Tryz.f135, Tryz.func135, by kernel_rfl, by kernel_rfl, by kernel_rfl⟩, by kernel_rfl, by decide, by kernel_rfl⟩
/- f136 slices.Equal[[]int,int]: 26 temporaries, depth 5, 2 parameters, results [t4] -/
def c136 : RC :=
 (.seq (.ops [(oP 4 (.mv (.c (.bool false))))])
 (.seq (.seq (.ops [(mV 6 0),
 (oP 7 (.lenL (.t 6))),
 (mV 8 1),
 (oP 9 (.lenL (.t 8))),
 (oP 10 (.bin .neq (.t 7) (.t 9)))])
 (.cond (.t 10)
 (.seq (.ops [(oP 4 (.mv (.c (.bool false))))])
 .ret)
 .skip))
 (.seq (.seq (.ops [(mV 11 0),
 (oP 12 (.lenL (.t 11))),
 (oP 13 (.mv (.c (.int .i64 0))))])
 (.block 0
 (.loop
 (.seq (.ops [(oP 14 (.bin .lss (.t 13) (.t 12)))])
 (.seq (.cond (.t 14)
 .skip
 (.exit 0))
 (.seq (.block 1
 (.seq (.ops [(mV 15 13),
 (mV 5 15)])
 (.seq (.draw [((mV 16 0), 0),
 ((mV 17 5), 0),
 ((oP 18 (.indexAddrL 1 (.t 16) (.t 17))), 0),
 ((oP 19 (.load false 1 (.t 18))), 1),
 ((mV 20 1), 0),
 ((mV 21 5), 0),
 ((oP 22 (.indexAddrL 1 (.t 20) (.t 21))), 0),
 ((oP 23 (.load false 1 (.t 22))), 1),
 ((oP 24 (.bin .neq (.t 19) (.t 23))), 0)])
 (.cond (.t 24)
 (.seq (.ops [(oP 4 (.mv (.c (.bool false))))])
 .ret)
 .skip))))
 (.ops [(oP 25 (.bin .add (.t 13) (.c (.int .i64 1)))),
 (mV 13 25)])))))))
 (.cut (.seq (.ops [(oP 4 (.mv (.c (.bool true))))])
 .ret)))))
theorem F136 : FI 136 2 26 5 [.tmp 4] c136 := ⟨⟨Tryz.f136, Tryz.func136, by kernel_rfl, by kernel_rfl, by kernel_rfl⟩, by kernel_rfl, by decide, by kernel_rfl⟩
/- f33 understory/page.Joined: 32 temporaries, depth 6, 1 parameters, results [t2, t3] -/
end Go.Proofs
/- Different numbers: sorted, and without equal neighbours, there are as many. -/
set_option linter.unusedVariables false
set_option linter.unusedSimpArgs false
namespace Go.Proofs
open Go Go.Abs
abbrev sortZ (l : List Int) : List Int := l.mergeSort fun x y => decide (x ≤ y)
theorem sortZ_len (l : List Int) : (sortZ l).length = l.length := List.length_mergeSort l
theorem compact_full (zs : List Int) : (Lib.compact zs).length = zs.length ↔ ∀ j (hj : j + 1 < zs.length), zs[j] ≠ zs[j + 1] := by
  have h1 : (Lib.compact zs).length = ((List.range zs.length).filter (Lib.keeps zs.toArray)).length := by
    unfold Lib.compact Lib.compactUpTo; rw [List.length_map]
  have h2 : ((List.range zs.length).filter (Lib.keeps zs.toArray)).length = zs.length ↔ ∀ j ∈ List.range zs.length, Lib.keeps zs.toArray j = true := by
    have h3 : ((List.range zs.length).filter (Lib.keeps zs.toArray)).length = (List.range zs.length).length ↔ _ := List.length_filter_eq_length_iff
    rw [List.length_range] at h3
    exact h3
  rw [h1, h2]
  constructor
  · intro h j hj e
    have := h (j + 1) (List.mem_range.2 hj)
    unfold Lib.keeps at this
    rw [decide_eq_true_eq] at this
    rcases this with h | h
    · omega
    · apply h
      rw [Nat.add_sub_cancel]
      simp only [List.getElem!_toArray]
      rw [getElem!_pos zs (j + 1) hj, getElem!_pos zs j (by omega), e]
  · intro h j hj
    have hj' := List.mem_range.1 hj
    unfold Lib.keeps
    rw [decide_eq_true_eq]
    by_cases e : j = 0
    · exact .inl e
    · right
      have := h (j - 1) (by omega)
      simp only [List.getElem!_toArray]
      rw [getElem!_pos zs j hj', getElem!_pos zs (j - 1) (by omega)]
      intro q
      apply this
      rw [← q]
      congr 1
      omega
/-- Sorted without equal neighbours: without equal ones. -/
theorem numbers_nodup (l : List Int) : (Lib.compact (sortZ l)).length = l.length ↔ l.Nodup := by
  have hp : (sortZ l).Perm l := List.mergeSort_perm l _
  have hs : List.Pairwise (fun a b : Int => decide (a ≤ b) = true) (sortZ l) := List.pairwise_mergeSort (le := fun x y : Int => decide (x ≤ y)) (fun a b c h1 h2 => by simp at *; omega) (fun a b => by simp; omega) l
  rw [← hp.nodup_iff]
  have hl : (sortZ l).length = l.length := sortZ_len l
  rw [← hl, compact_full]
  rw [List.pairwise_iff_getElem] at hs
  unfold List.Nodup
  rw [List.pairwise_iff_getElem]
  constructor
  · intro h i j hi hj hij
    have h1 := h i (by omega)
    have h2 : (sortZ l)[i] ≤ (sortZ l)[i + 1] := by simpa using hs i (i + 1) hi (by omega) (by omega)
    have h3 : (sortZ l)[i + 1] ≤ (sortZ l)[j] := by
      rcases Nat.lt_or_ge (i + 1) j with q | q
      · simpa using hs (i + 1) j (by omega) hj q
      · have : i + 1 = j := by omega
        subst this
        exact Int.le_refl _
    omega
  · intro h j hj
    exact h j (j + 1) (by omega) hj (by omega)
/-- Each is another one than those in front of it. -/
theorem nodup_front (l : List Int) : l.Nodup ↔ ∀ i k (hi : i < l.length) (hk : k < i), l[k] ≠ l[i] := by
  unfold List.Nodup
  rw [List.pairwise_iff_getElem]
  exact ⟨fun h i k hi hk => h k i (by omega) hi hk, fun h i j hi hj hij => h j i hj hij⟩
end Go.Proofs
/- The looked-up text of the functions. -/
namespace Go.Proofs
open Go Go.Abs
/- f123 (*understory/page.reader).text: 51 temporaries, depth 6, 2 parameters, results [t4] -/
/- f78 (*understory/page.reader).number: 24 temporaries, depth 5, 2 parameters, results [t4] -/
/- f189 (*understory/page.reader).sum: 9 temporaries, depth 4, 1 parameters, results [*t2] -/
/- f171 (*understory/page.reader).content: 52 temporaries, depth 6, 3 parameters, results [] -/
/- f152 (*understory/page.reader).entries: 10 temporaries, depth 4, 4 parameters, results [t8] -/
/- f170 (*understory/page.reader).entries$1: 38 temporaries, depth 6, 1 parameters, results [] -/
end Go.Proofs
/- The looked-up text of the functions. -/
namespace Go.Proofs
open Go Go.Abs
/- f108 (*strings.Builder).copyCheck: 20 temporaries, depth 5, 1 parameters, results [] -/
/- f56 (*strings.Builder).WriteByte: 17 temporaries, depth 5, 2 parameters, results [t4] -/
/- f59 (*strings.Builder).WriteString: 19 temporaries, depth 5, 2 parameters, results [t4, t5] -/
/- f61 (*strings.Builder).Len: 8 temporaries, depth 4, 1 parameters, results [t2] -/
/- f63 (*strings.Builder).String: 14 temporaries, depth 4, 1 parameters, results [t2] -/
/- f57 (*understory/page.writer).number: 22 temporaries, depth 5, 3 parameters, results [] -/
/- f86 (*understory/page.writer).sum: 10 temporaries, depth 4, 2 parameters, results [] -/
end Go.Proofs
/- The looked-up text of the functions. -/
namespace Go.Proofs
open Go Go.Abs
/- f24 understory/understorylaw04.few: 33 temporaries, depth 6, 1 parameters, results [t2] -/
def c24 : RC :=
 (.seq (.ops [(oP 2 (.mv (.c (.bool false))))])
 (.seq (.seq (.ops [(oP 3 (.mv (.c (.int .i64 0))))])
 (.block 0
 (.loop
 (.seq (.seq (.ops [(mV 4 3),
 (mV 5 0),
 (oP 6 (.lenL (.t 5))),
 (oP 7 (.bin .lss (.t 4) (.t 6))),
 (mV 8 7),
 (oG 9 8 true (.mv (.t 3))),
 (oG 10 8 true (.bin .leq (.t 9) (.c (.int .i64 100)))),
 (oP 11 (.pick (.t 8) (.t 10) (.c (.bool false))))])
 (.cond (.t 11)
 .skip
 (.exit 0)))
 (.seq (.block 1
 (.seq (.ops [(mV 14 0),
 (mV 15 3),
 (oP 16 (.indexAddrL 22 (.t 14) (.t 15))),
 (oP 17 (.fieldAddr 0 (.t 16))),
 (oP 18 (.load false 1 (.t 17))),
 (oP 19 (.lenS (.t 18))),
 (oP 20 (.bin .gtr (.t 19) (.c (.int .i64 300)))),
 (mV 21 20),
 (oG 22 21 false (.mv (.t 0))),
 (oG 23 21 false (.mv (.t 3))),
 (oG 24 21 false (.indexAddrL 22 (.t 22) (.t 23))),
 (oG 25 21 false (.fieldAddr 1 (.t 24))),
 (oG 26 21 false (.load false 1 (.t 25))),
 (oG 27 21 false (.lenS (.t 26))),
 (oG 28 21 false (.bin .gtr (.t 27) (.c (.int .i64 300)))),
 (oP 29 (.pick (.t 21) (.c (.bool true)) (.t 28)))])
 (.cond (.t 29)
 (.seq (.ops [(oP 2 (.mv (.c (.bool false))))])
 .ret)
 .skip)))
 (.ops [(mV 12 3),
 (oP 13 (.bin .add (.t 12) (.c (.int .i64 1)))),
 (mV 3 13)]))))))
 (.cut (.seq (.ops [(mV 30 0),
 (oP 31 (.lenL (.t 30))),
 (oP 32 (.bin .leq (.t 31) (.c (.int .i64 100)))),
 (mV 2 32)])
 .ret))))
theorem F24 : FI 24 1 33 6 [.tmp 2] c24 := ⟨⟨Tryz.f24, Tryz.func24, by kernel_rfl, by kernel_rfl, by kernel_rfl⟩, by kernel_rfl, by decide, by kernel_rfl⟩
/- f47 understory/page.Size: 37 temporaries, depth 6, 2 parameters, results [t4, t5] -/
/- f48 understory/page.Weight: 33 temporaries, depth 6, 2 parameters, results [t4, t5] -/
/- f46 understory/page.Prefix: 13 temporaries, depth 4, 2 parameters, results [t4, t5] -/
/- f85 understory/page.Valid: 78 temporaries, depth 7, 2 parameters, results [t4] -/
/- f72 understory/page.Fits: 19 temporaries, depth 5, 2 parameters, results [t4] -/
/- f49 understory/page.Capacity: 1 temporaries, depth 2, 0 parameters, results [t0] -/
/- f104 understory/page.shared: 31 temporaries, depth 6, 2 parameters, results [t4] -/
/- f71 understory/page.within: 15 temporaries, depth 5, 3 parameters, results [t6] -/
def c71 : RC :=
 (.seq (.ops [(oP 6 (.mv (.c (.bool false))))])
 (.seq (.ops [(mV 7 1),
 (mV 8 0),
 (oP 9 (.bin .leq (.t 7) (.t 8))),
 (mV 10 9),
 (oG 11 10 true (.mv (.t 0))),
 (oG 12 10 true (.mv (.t 2))),
 (oG 13 10 true (.bin .leq (.t 11) (.t 12))),
 (oP 14 (.pick (.t 10) (.t 13) (.c (.bool false)))),
 (mV 6 14)])
 .ret))
theorem F71 : FI 71 3 15 5 [.tmp 6] c71 := ⟨⟨Tryz.f71, Tryz.func71, by kernel_rfl, by kernel_rfl, by kernel_rfl⟩, by kernel_rfl, by decide, by kernel_rfl⟩
/- f105 understory/page.weigh: 38 temporaries, depth 6, 2 parameters, results [t4, t5] -/
/- f125 understory/page.formOf: 83 temporaries, depth 7, 1 parameters, results [t2] -/
/- f126 understory/page.branches: 32 temporaries, depth 6, 1 parameters, results [t2] -/
/- f83 understory/enc.Compare: 8 temporaries, depth 4, 2 parameters, results [t4] -/
/- f70 understory/page.numbered: 5 temporaries, depth 3, 1 parameters, results [t2] -/
def c70 : RC :=
 (.seq (.ops [(oP 2 (.mv (.c (.bool false))))])
 (.seq (.ops [(mV 3 0),
 (oP 4 (.callF 71 [(.t 3), (.c (.int .i64 2)), (.c (.int .i64 4095))])),
 (mV 2 4)])
 .ret))
theorem F70 : FI 70 1 5 3 [.tmp 2] c70 := ⟨⟨Tryz.f70, Tryz.func70, by kernel_rfl, by kernel_rfl, by kernel_rfl⟩, by kernel_rfl, by decide, by kernel_rfl⟩
/- f140 understory/enc.Prefix: 25 temporaries, depth 5, 2 parameters, results [t4] -/
/- f124 cmp.Compare[string]: 20 temporaries, depth 5, 2 parameters, results [t4] -/
/- f154 cmp.isNaN[string]: 6 temporaries, depth 3, 1 parameters, results [t2] -/
end Go.Proofs
/- The looked-up text of the functions. -/
namespace Go.Proofs
open Go Go.Abs
/- f112 understory/digest.CRC: 5 temporaries, depth 3, 1 parameters, results [t2] -/
def c112 : RC :=
 (.seq (.ops [(oP 2 (.mv (.c (.int .u32 0))))])
 (.seq (.ops [(mV 3 0),
 (oP 4 (.callF 149 [(.c (.int .u32 0)), (.t 3)])),
 (mV 2 4)])
 .ret))
theorem F112 : FI 112 1 5 3 [.tmp 2] c112 := ⟨⟨Tryz.f112, Tryz.func112, by kernel_rfl, by kernel_rfl, by kernel_rfl⟩, by kernel_rfl, by decide, by kernel_rfl⟩
/- f149 understory/digest.Extend: 30 temporaries, depth 5, 2 parameters, results [t4] -/
def c149 : RC :=
 (.seq (.ops [(oP 4 (.mv (.c (.int .u32 0))))])
 (.seq (.ops [(oP 8 (.callF 168 [])),
 (oP 5 (.alloc 244 [(.int .u32 0), (.int .u32 0), (.int .u32 0), (.int .u32 0), (.int .u32 0), (.int .u32 0), (.int .u32 0), (.int .u32 0), (.int .u32 0), (.int .u32 0), (.int .u32 0), (.int .u32 0), (.int .u32 0), (.int .u32 0), (.int .u32 0), (.int .u32 0), (.int .u32 0), (.int .u32 0), (.int .u32 0), (.int .u32 0), (.int .u32 0), (.int .u32 0), (.int .u32 0), (.int .u32 0), (.int .u32 0), (.int .u32 0), (.int .u32 0), (.int .u32 0), (.int .u32 0), (.int .u32 0), (.int .u32 0), (.int .u32 0), (.int .u32 0), (.int .u32 0), (.int .u32 0), (.int .u32 0), (.int .u32 0), (.int .u32 0), (.int .u32 0), (.int .u32 0), (.int .u32 0), (.int .u32 0), (.int .u32 0), (.int .u32 0), (.int .u32 0), (.int .u32 0), (.int .u32 0), (.int .u32 0), (.int .u32 0), (.int .u32 0), (.int .u32 0), (.int .u32 0), (.int .u32 0), (.int .u32 0), (.int .u32 0), (.int .u32 0), (.int .u32 0), (.int .u32 0), (.int .u32 0), (.int .u32 0), (.int .u32 0), (.int .u32 0), (.int .u32 0), (.int .u32 0), (.int .u32 0), (.int .u32 0), (.int .u32 0), (.int .u32 0), (.int .u32 0), (.int .u32 0), (.int .u32 0), (.int .u32 0), (.int .u32 0), (.int .u32 0), (.int .u32 0), (.int .u32 0), (.int .u32 0), (.int .u32 0), (.int .u32 0), (.int .u32 0), (.int .u32 0), (.int .u32 0), (.int .u32 0), (.int .u32 0), (.int .u32 0), (.int .u32 0), (.int .u32 0), (.int .u32 0), (.int .u32 0), (.int .u32 0), (.int .u32 0), (.int .u32 0), (.int .u32 0), (.int .u32 0), (.int .u32 0), (.int .u32 0), (.int .u32 0), (.int .u32 0), (.int .u32 0), (.int .u32 0), (.int .u32 0), (.int .u32 0), (.int .u32 0), (.int .u32 0), (.int .u32 0), (.int .u32 0), (.int .u32 0), (.int .u32 0), (.int .u32 0), (.int .u32 0), (.int .u32 0), (.int .u32 0), (.int .u32 0), (.int .u32 0), (.int .u32 0), (.int .u32 0), (.int .u32 0), (.int .u32 0), (.int .u32 0), (.int .u32 0), (.int .u32 0), (.int .u32 0), (.int .u32 0), (.int .u32 0), (.int .u32 0), (.int .u32 0), (.int .u32 0), (.int .u32 0), (.int .u32 0), (.int .u32 0), (.int .u32 0), (.int .u32 0), (.int .u32 0), (.int .u32 0), (.int .u32 0), (.int .u32 0), (.int .u32 0), (.int .u32 0), (.int .u32 0), (.int .u32 0), (.int .u32 0), (.int .u32 0), (.int .u32 0), (.int .u32 0), (.int .u32 0), (.int .u32 0), (.int .u32 0), (.int .u32 0), (.int .u32 0), (.int .u32 0), (.int .u32 0), (.int .u32 0), (.int .u32 0), (.int .u32 0), (.int .u32 0), (.int .u32 0), (.int .u32 0), (.int .u32 0), (.int .u32 0), (.int .u32 0), (.int .u32 0), (.int .u32 0), (.int .u32 0), (.int .u32 0), (.int .u32 0), (.int .u32 0), (.int .u32 0), (.int .u32 0), (.int .u32 0), (.int .u32 0), (.int .u32 0), (.int .u32 0), (.int .u32 0), (.int .u32 0), (.int .u32 0), (.int .u32 0), (.int .u32 0), (.int .u32 0), (.int .u32 0), (.int .u32 0), (.int .u32 0), (.int .u32 0), (.int .u32 0), (.int .u32 0), (.int .u32 0), (.int .u32 0), (.int .u32 0), (.int .u32 0), (.int .u32 0), (.int .u32 0), (.int .u32 0), (.int .u32 0), (.int .u32 0), (.int .u32 0), (.int .u32 0), (.int .u32 0), (.int .u32 0), (.int .u32 0), (.int .u32 0), (.int .u32 0), (.int .u32 0), (.int .u32 0), (.int .u32 0), (.int .u32 0), (.int .u32 0), (.int .u32 0), (.int .u32 0), (.int .u32 0), (.int .u32 0), (.int .u32 0), (.int .u32 0), (.int .u32 0), (.int .u32 0), (.int .u32 0), (.int .u32 0), (.int .u32 0), (.int .u32 0), (.int .u32 0), (.int .u32 0), (.int .u32 0), (.int .u32 0), (.int .u32 0), (.int .u32 0), (.int .u32 0), (.int .u32 0), (.int .u32 0), (.int .u32 0), (.int .u32 0), (.int .u32 0), (.int .u32 0), (.int .u32 0), (.int .u32 0), (.int .u32 0), (.int .u32 0), (.int .u32 0), (.int .u32 0), (.int .u32 0), (.int .u32 0), (.int .u32 0), (.int .u32 0), (.int .u32 0), (.int .u32 0), (.int .u32 0), (.int .u32 0), (.int .u32 0), (.int .u32 0), (.int .u32 0), (.int .u32 0), (.int .u32 0), (.int .u32 0), (.int .u32 0), (.int .u32 0), (.int .u32 0), (.int .u32 0), (.int .u32 0), (.int .u32 0)])),
 (oU (.store 256 (.t 5) (.t 8)))])
 (.seq (.ops [(mV 9 0),
 (oP 10 (.un .xor (.t 9))),
 (mV 6 10)])
 (.seq (.seq (.ops [(mV 11 1),
 (oP 12 (.lenS (.t 11))),
 (oP 13 (.mv (.c (.int .i64 0))))])
 (.block 0
 (.loop
 (.seq (.ops [(oP 14 (.bin .lss (.t 13) (.t 12)))])
 (.seq (.cond (.t 14)
 .skip
 (.exit 0))
 (.seq (.block 1
 (.seq (.ops [(mV 15 13),
 (mV 7 15)])
 (.ops [(mV 16 6),
 (oP 17 (.toInt .u8 (.t 16))),
 (mV 18 1),
 (mV 19 7),
 (oP 20 (.indexS (.t 18) (.t 19))),
 (oP 21 (.bin .xor (.t 17) (.t 20))),
 (oP 22 (.indexAddrA 256 1 (.t 5) (.t 21))),
 (oP 23 (.load false 1 (.t 22))),
 (mV 24 6),
 (oP 25 (.bin .shr (.t 24) (.c (.int .u64 8)))),
 (oP 26 (.bin .xor (.t 23) (.t 25))),
 (mV 6 26)])))
 (.ops [(oP 27 (.bin .add (.t 13) (.c (.int .i64 1)))),
 (mV 13 27)])))))))
 (.cut (.seq (.ops [(mV 28 6),
 (oP 29 (.un .xor (.t 28))),
 (mV 4 29)])
 .ret))))))
theorem F149 : FI 149 2 30 5 [.tmp 4] c149 := ⟨⟨Tryz.f149, Tryz.func149, by kernel_rfl, by kernel_rfl, by kernel_rfl⟩, by kernel_rfl, by decide, by kernel_rfl⟩
/- f168 understory/digest.table: 18 temporaries, depth 5, 0 parameters, results [*t0] -/
def c168 : RC :=
 (.seq (.ops [(oP 0 (.alloc 244 [(.int .u32 0), (.int .u32 0), (.int .u32 0), (.int .u32 0), (.int .u32 0), (.int .u32 0), (.int .u32 0), (.int .u32 0), (.int .u32 0), (.int .u32 0), (.int .u32 0), (.int .u32 0), (.int .u32 0), (.int .u32 0), (.int .u32 0), (.int .u32 0), (.int .u32 0), (.int .u32 0), (.int .u32 0), (.int .u32 0), (.int .u32 0), (.int .u32 0), (.int .u32 0), (.int .u32 0), (.int .u32 0), (.int .u32 0), (.int .u32 0), (.int .u32 0), (.int .u32 0), (.int .u32 0), (.int .u32 0), (.int .u32 0), (.int .u32 0), (.int .u32 0), (.int .u32 0), (.int .u32 0), (.int .u32 0), (.int .u32 0), (.int .u32 0), (.int .u32 0), (.int .u32 0), (.int .u32 0), (.int .u32 0), (.int .u32 0), (.int .u32 0), (.int .u32 0), (.int .u32 0), (.int .u32 0), (.int .u32 0), (.int .u32 0), (.int .u32 0), (.int .u32 0), (.int .u32 0), (.int .u32 0), (.int .u32 0), (.int .u32 0), (.int .u32 0), (.int .u32 0), (.int .u32 0), (.int .u32 0), (.int .u32 0), (.int .u32 0), (.int .u32 0), (.int .u32 0), (.int .u32 0), (.int .u32 0), (.int .u32 0), (.int .u32 0), (.int .u32 0), (.int .u32 0), (.int .u32 0), (.int .u32 0), (.int .u32 0), (.int .u32 0), (.int .u32 0), (.int .u32 0), (.int .u32 0), (.int .u32 0), (.int .u32 0), (.int .u32 0), (.int .u32 0), (.int .u32 0), (.int .u32 0), (.int .u32 0), (.int .u32 0), (.int .u32 0), (.int .u32 0), (.int .u32 0), (.int .u32 0), (.int .u32 0), (.int .u32 0), (.int .u32 0), (.int .u32 0), (.int .u32 0), (.int .u32 0), (.int .u32 0), (.int .u32 0), (.int .u32 0), (.int .u32 0), (.int .u32 0), (.int .u32 0), (.int .u32 0), (.int .u32 0), (.int .u32 0), (.int .u32 0), (.int .u32 0), (.int .u32 0), (.int .u32 0), (.int .u32 0), (.int .u32 0), (.int .u32 0), (.int .u32 0), (.int .u32 0), (.int .u32 0), (.int .u32 0), (.int .u32 0), (.int .u32 0), (.int .u32 0), (.int .u32 0), (.int .u32 0), (.int .u32 0), (.int .u32 0), (.int .u32 0), (.int .u32 0), (.int .u32 0), (.int .u32 0), (.int .u32 0), (.int .u32 0), (.int .u32 0), (.int .u32 0), (.int .u32 0), (.int .u32 0), (.int .u32 0), (.int .u32 0), (.int .u32 0), (.int .u32 0), (.int .u32 0), (.int .u32 0), (.int .u32 0), (.int .u32 0), (.int .u32 0), (.int .u32 0), (.int .u32 0), (.int .u32 0), (.int .u32 0), (.int .u32 0), (.int .u32 0), (.int .u32 0), (.int .u32 0), (.int .u32 0), (.int .u32 0), (.int .u32 0), (.int .u32 0), (.int .u32 0), (.int .u32 0), (.int .u32 0), (.int .u32 0), (.int .u32 0), (.int .u32 0), (.int .u32 0), (.int .u32 0), (.int .u32 0), (.int .u32 0), (.int .u32 0), (.int .u32 0), (.int .u32 0), (.int .u32 0), (.int .u32 0), (.int .u32 0), (.int .u32 0), (.int .u32 0), (.int .u32 0), (.int .u32 0), (.int .u32 0), (.int .u32 0), (.int .u32 0), (.int .u32 0), (.int .u32 0), (.int .u32 0), (.int .u32 0), (.int .u32 0), (.int .u32 0), (.int .u32 0), (.int .u32 0), (.int .u32 0), (.int .u32 0), (.int .u32 0), (.int .u32 0), (.int .u32 0), (.int .u32 0), (.int .u32 0), (.int .u32 0), (.int .u32 0), (.int .u32 0), (.int .u32 0), (.int .u32 0), (.int .u32 0), (.int .u32 0), (.int .u32 0), (.int .u32 0), (.int .u32 0), (.int .u32 0), (.int .u32 0), (.int .u32 0), (.int .u32 0), (.int .u32 0), (.int .u32 0), (.int .u32 0), (.int .u32 0), (.int .u32 0), (.int .u32 0), (.int .u32 0), (.int .u32 0), (.int .u32 0), (.int .u32 0), (.int .u32 0), (.int .u32 0), (.int .u32 0), (.int .u32 0), (.int .u32 0), (.int .u32 0), (.int .u32 0), (.int .u32 0), (.int .u32 0), (.int .u32 0), (.int .u32 0), (.int .u32 0), (.int .u32 0), (.int .u32 0), (.int .u32 0), (.int .u32 0), (.int .u32 0), (.int .u32 0), (.int .u32 0), (.int .u32 0), (.int .u32 0), (.int .u32 0), (.int .u32 0), (.int .u32 0), (.int .u32 0), (.int .u32 0), (.int .u32 0), (.int .u32 0), (.int .u32 0), (.int .u32 0), (.int .u32 0), (.int .u32 0), (.int .u32 0), (.int .u32 0), (.int .u32 0), (.int .u32 0), (.int .u32 0), (.int .u32 0), (.int .u32 0), (.int .u32 0), (.int .u32 0)]))])
 (.seq (.seq (.ops [(oP 3 (.mv (.c (.int .i64 0))))])
 (.block 0
 (.loop
 (.seq (.ops [(oP 4 (.bin .lss (.t 3) (.c (.int .i64 256))))])
 (.seq (.cond (.t 4)
 .skip
 (.exit 0))
 (.seq (.block 1
 (.seq (.ops [(mV 5 3),
 (mV 1 5)])
 (.seq (.ops [(mV 6 1),
 (oP 7 (.toInt .u32 (.t 6))),
 (mV 2 7)])
 (.seq (.seq (.ops [(oP 8 (.mv (.c (.int .i64 0))))])
 (.block 2
 (.loop
 (.seq (.ops [(oP 9 (.bin .lss (.t 8) (.c (.int .i64 8))))])
 (.seq (.cond (.t 9)
 .skip
 (.exit 2))
 (.seq (.block 3
 (.ops [(mV 10 2),
 (oP 11 (.callF 188 [(.t 10)])),
 (mV 2 11)]))
 (.ops [(oP 12 (.bin .add (.t 8) (.c (.int .i64 1)))),
 (mV 8 12)])))))))
 (.cut (.ops [(mV 13 1),
 (mV 14 2),
 (oP 15 (.indexAddrA 256 1 (.t 0) (.t 13))),
 (oU (.store 1 (.t 15) (.t 14)))]))))))
 (.cut (.ops [(oP 16 (.bin .add (.t 3) (.c (.int .i64 1)))),
 (mV 3 16)]))))))))
 (.cut (.seq (.ops [(oP 17 (.load true 256 (.t 0))),
 (oU (.store 256 (.t 0) (.t 17)))])
 .ret))))
theorem F168 : FI 168 0 18 5 [.cell 0 244] c168 := ⟨⟨Tryz.f168, Tryz.func168, by kernel_rfl, by kernel_rfl, by kernel_rfl⟩, by kernel_rfl, by decide, by kernel_rfl⟩
/- f188 understory/digest.bit: 11 temporaries, depth 4, 1 parameters, results [t2] -/
def c188 : RC :=
 (.seq (.ops [(oP 2 (.mv (.c (.int .u32 0))))])
 (.seq (.seq (.ops [(mV 3 0),
 (oP 4 (.bin .and (.t 3) (.c (.int .u32 1)))),
 (oP 5 (.bin .eql (.t 4) (.c (.int .u32 1))))])
 (.cond (.t 5)
 (.seq (.ops [(mV 6 0),
 (oP 7 (.bin .shr (.t 6) (.c (.int .u64 1)))),
 (oP 8 (.bin .xor (.t 7) (.c (.int .u32 3988292384)))),
 (mV 2 8)])
 .ret)
 .skip))
 (.seq (.ops [(mV 9 0),
 (oP 10 (.bin .shr (.t 9) (.c (.int .u64 1)))),
 (mV 2 10)])
 .ret)))
theorem F188 : FI 188 1 11 4 [.tmp 2] c188 := ⟨⟨Tryz.f188, Tryz.func188, by kernel_rfl, by kernel_rfl, by kernel_rfl⟩, by kernel_rfl, by decide, by kernel_rfl⟩
end Go.Proofs
/- The checksum: what CRC computes. -/
set_option linter.unusedVariables false
set_option linter.unusedSimpArgs false
namespace Go.Proofs
open Go Go.Abs
def cfgN : Cfg := ⟨inl0, fun _ _ => none, fun _ _ _ => none, fun _ => false⟩
noncomputable abbrev CC (n : Nat) : CallF := CN Tryz.prog cfgN n
@[reducible] def u32 (c : UInt32) : AV := .int .u32 c.toNat

theorem wrap_u32 (b : BitVec 32) : IntKind.u32.wrap (b.toNat : Int) = (b.toNat : Int) := by
  have h := b.isLt
  show (if (IntKind.u32.signed && decide ((b.toNat : Int) % (2 ^ 32 : Int) ≥ (2 ^ (32 - 1) : Int))) = true then (b.toNat : Int) % (2 ^ 32 : Int) - 2 ^ 32 else (b.toNat : Int) % (2 ^ 32 : Int)) = _
  rw [if_neg (by simp [IntKind.signed])]
  omega
theorem wrap_u8 (b : BitVec 8) : IntKind.u8.wrap (b.toNat : Int) = (b.toNat : Int) := by
  have h := b.isLt
  show (if (IntKind.u8.signed && decide ((b.toNat : Int) % (2 ^ 8 : Int) ≥ (2 ^ (8 - 1) : Int))) = true then (b.toNat : Int) % (2 ^ 8 : Int) - 2 ^ 8 else (b.toNat : Int) % (2 ^ 8 : Int)) = _
  rw [if_neg (by simp [IntKind.signed])]
  omega
theorem bv32 (c : UInt32) : BitVec.ofInt 32 (c.toNat : Int) = c.toBitVec := by
  rw [BitVec.ofInt_natCast]; apply BitVec.eq_of_toNat_eq; simp
theorem and_u32 (c d : UInt32) : IntKind.u32.wrap (BitVec.ofInt IntKind.u32.bits (c.toNat : Int) &&& BitVec.ofInt IntKind.u32.bits (d.toNat : Int)).toNat = ((c &&& d).toNat : Int) := by
  show IntKind.u32.wrap (BitVec.ofInt 32 (c.toNat : Int) &&& BitVec.ofInt 32 (d.toNat : Int)).toNat = _
  rw [bv32, bv32, wrap_u32]; rfl
theorem xor_u32 (c d : UInt32) : IntKind.u32.wrap (BitVec.ofInt IntKind.u32.bits (c.toNat : Int) ^^^ BitVec.ofInt IntKind.u32.bits (d.toNat : Int)).toNat = ((c ^^^ d).toNat : Int) := by
  show IntKind.u32.wrap (BitVec.ofInt 32 (c.toNat : Int) ^^^ BitVec.ofInt 32 (d.toNat : Int)).toNat = _
  rw [bv32, bv32, wrap_u32]; rfl
theorem xor_u8 (c d : UInt8) : IntKind.u8.wrap (BitVec.ofInt IntKind.u8.bits (c.toNat : Int) ^^^ BitVec.ofInt IntKind.u8.bits (d.toNat : Int)).toNat = ((c ^^^ d).toNat : Int) := by
  show IntKind.u8.wrap (BitVec.ofInt 8 (c.toNat : Int) ^^^ BitVec.ofInt 8 (d.toNat : Int)).toNat = _
  have e : ∀ c : UInt8, BitVec.ofInt 8 (c.toNat : Int) = c.toBitVec := fun c => by rw [BitVec.ofInt_natCast]; apply BitVec.eq_of_toNat_eq; simp
  rw [e, e, wrap_u8]; rfl
theorem not_u32 (c : UInt32) : IntKind.u32.wrap (BitVec.ofInt IntKind.u32.bits (if IntKind.u32.signed then -1 else IntKind.u32.max) ^^^ BitVec.ofInt IntKind.u32.bits (c.toNat : Int)).toNat = ((~~~c).toNat : Int) := by
  show IntKind.u32.wrap (BitVec.ofInt 32 4294967295 ^^^ BitVec.ofInt 32 (c.toNat : Int)).toNat = _
  rw [bv32, wrap_u32]
  have : (BitVec.ofInt 32 4294967295 ^^^ c.toBitVec) = ~~~c.toBitVec := by
    rw [show BitVec.ofInt 32 4294967295 = BitVec.allOnes 32 by decide]
    exact BitVec.allOnes_xor
  rw [this]; rfl
theorem shr_u32 (c : UInt32) (k : Nat) (hk : k < 32) : ((c.toNat : Int)).fdiv (2 ^ (min (k : Int).toNat IntKind.u32.bits)) = ((c >>> (UInt32.ofNat k)).toNat : Int) := by
  have h1 : min (k : Int).toNat IntKind.u32.bits = k := by show min (k : Int).toNat 32 = k; omega
  rw [h1]
  have h2 : (c >>> (UInt32.ofNat k)).toNat = c.toNat / 2 ^ k := by
    rw [UInt32.toNat_shiftRight, UInt32.toNat_ofNat', Nat.shiftRight_eq_div_pow]
    rw [Nat.mod_eq_of_lt (show k < 2 ^ 32 by omega), Nat.mod_eq_of_lt hk]
  rw [h2, Int.fdiv_eq_ediv_of_nonneg _ (by exact Int.pow_nonneg (by decide))]
  norm_cast
theorem low_u8 (c : UInt32) : IntKind.u8.wrap (c.toNat : Int) = (c.toUInt8.toNat : Int) := by
  have h := c.toNat_lt
  show (if (IntKind.u8.signed && decide ((c.toNat : Int) % (2 ^ 8 : Int) ≥ (2 ^ (8 - 1) : Int))) = true then (c.toNat : Int) % (2 ^ 8 : Int) - 2 ^ 8 else (c.toNat : Int) % (2 ^ 8 : Int)) = _
  rw [if_neg (by simp [IntKind.signed]), UInt32.toNat_toUInt8]
  omega

def bit (c : UInt32) : UInt32 := if c &&& 1 = 1 then (c >>> 1) ^^^ 3988292384 else c >>> 1
theorem u32_eq {c d : UInt32} : ((c.toNat : Int) == (d.toNat : Int)) = decide (c = d) := by
  by_cases h : c = d
  · subst h; simp
  · simp [h]; intro h'; exact h (UInt32.toNat_inj.1 (by omega))
section
variable {n : Nat} {h : AHeap}
theorem bit_eq (hn : 1 ≤ n) (c : UInt32) : CC n 188 [u32 c] h = some (.ret (u32 (bit c)), h) := by
  obtain ⟨m, rfl⟩ : ∃ m, n = m + 1 := ⟨n - 1, by omega⟩
  refine fun_pure F188 rfl rfl rfl rfl ?_
  conv => whnf
  refine zI (and_u32 c 1) ?_
  conv => whnf
  have e1 := @u32_eq (c &&& 1) 1
  refine br (fun a => ?_) (fun a => ?_)
  · have a' : c &&& 1 = 1 := by simpa [e1] using e1.symm.trans a
    conv => whnf
    refine ⟨by decide, _, shr_u32 c 1 (by decide), ?_⟩
    conv => whnf
    refine zI (xor_u32 _ 3988292384) ?_
    conv => whnf
    exact retP rfl (frz_int (by simp [bit, a']))
  · have a' : ¬ c &&& 1 = 1 := by simpa [e1] using e1.symm.trans a
    conv => whnf
    refine ⟨by decide, _, shr_u32 c 1 (by decide), ?_⟩
    conv => whnf
    exact retP rfl (frz_int (by simp [bit, a']))

def tab (i : UInt8) : UInt32 := bit (bit (bit (bit (bit (bit (bit (bit i.toUInt32)))))))
def bits : Nat → UInt32 → UInt32
  | 0, c => c
  | k + 1, c => bits k (bit c)
theorem bits_succ : ∀ (k : Nat) (c : UInt32), bits (k + 1) c = bit (bits k c)
  | 0, c => rfl
  | k + 1, c => bits_succ k (bit c)
def tabV (j : Nat) : AV := u32 (bits 8 (UInt32.ofNat j))
def tabC (i : Nat) : List AV := (List.range 256).map fun j => if j < i then tabV j else .int .u32 0
theorem tabC_len (i : Nat) : (tabC i).length = 256 := by simp [tabC]
theorem tabC_scal (i : Nat) : (tabC i).all AV.scal = true := by
  rw [List.all_eq_true]
  intro x hx
  obtain ⟨j, _, rfl⟩ := List.mem_map.1 hx
  split <;> rfl
theorem tabC_cells (i : Nat) : (AV.agg (tabC i)).cells? = some (tabC i) := by
  show (if (tabC i).all AV.scal = true then some (tabC i) else none) = _
  rw [if_pos (tabC_scal i)]
theorem tabC_frz (i n : Nat) : FrzOk (n + 2) (.agg (tabC i)) := frzOk_agg fun x hx => by
  obtain ⟨j, _, rfl⟩ := List.mem_map.1 hx
  split <;> exact frzOk_int
theorem tabC_over {zs : List AV} (hz : zs.length = 256) (i : Nat) : putAt zs 0 (tabC i) = tabC i := by
  unfold putAt
  rw [tabC_len, List.take_zero, List.drop_of_length_le (by omega)]
  simp
theorem tabC_same (i : Nat) : putAt (tabC i) 0 (tabC i) = tabC i := tabC_over (tabC_len i) i
theorem loadT {cs : List AV} (hcs : cs.length = 256) : loadA Tryz.prog [.cells 0 (some 244) cs 0] 244 (.ptr 0 0 0) = some (.agg cs) := by
  have ht : (ti Tryz.prog 244).map (fun d => (isAggD d.desc, d.size)) = some (true, 256) := by kernel_rfl
  obtain ⟨d, h1, h2⟩ := Option.map_eq_some_iff.1 ht
  simp only [Prod.mk.injEq] at h2
  unfold loadA
  simp only [h1, List.getElem?_cons_zero, if_true]
  unfold partA
  rw [h2.1, h2.2, hcs]
  simp [← hcs]
theorem tabC_put {i : Nat} (hi : i < 256) : putAt (tabC i) i [tabV i] = tabC (i + 1) := by
  apply List.ext_getElem?
  intro k
  unfold putAt tabC
  rw [List.append_assoc]
  by_cases h1 : k < i
  · rw [List.getElem?_append_left (by simp; omega), List.getElem?_take, if_pos h1]
    simp only [List.getElem?_map]
    by_cases h2 : k < 256
    · simp [List.getElem?_range h2, h1, show k < i + 1 by omega]
    · omega
  · rw [List.getElem?_append_right (by simp; omega)]
    by_cases h2 : k = i
    · subst h2
      simp [List.getElem?_range hi, hi, Nat.min_eq_left (Nat.le_of_lt hi)]
    · rw [List.getElem?_append_right (by simp; omega)]
      simp only [List.length_take, List.length_map, List.length_range, List.length_cons, List.length_nil, List.getElem?_drop, List.getElem?_map]
      rw [Nat.min_eq_left (Nat.le_of_lt hi), show i + (0 + 1) + (k - i - (0 + 1)) = k by omega]
      by_cases h3 : k < 256
      · simp [List.getElem?_range h3, show ¬ k < i by omega, show ¬ k < i + 1 by omega]
      · rw [List.getElem?_eq_none (by simp; omega)]; rfl

theorem wrap_u32n {j : Nat} (hj : j < 256) : IntKind.u32.wrap (j : Int) = ((UInt32.ofNat j).toNat : Int) := by
  have : ((UInt32.ofNat j).toNat : Int) = j := by rw [UInt32.toNat_ofNat']; omega
  rw [this]
  have := wrap_u32 (BitVec.ofNat 32 j)
  rwa [BitVec.toNat_ofNat, Nat.mod_eq_of_lt (show j < 2 ^ 32 by omega)] at this

theorem table_in {m : Nat} (hn : 1 ≤ m) (j : Nat) (hj : j < 256) (hp : AHeap) {Q : Ex → LS → Prop} {s : LS} (hs : LS.sub ⟨[(0, .ptr 0 0 0), (1, i64 j), (2, u32 (UInt32.ofNat j)), (3, i64 j), (8, i64 0)], hp, []⟩ s)
    (hE : ∀ L, subL [(0, .ptr 0 0 0), (1, i64 j), (2, tabV j), (3, i64 j)] L → Q (.exit 2) ⟨L, hp, []⟩) : OkR Tryz.prog (CC m) cfgN.inl KK 18 5 (.loop (c168.lp 1)) s Q := by
  refine loopI (by decide) rfl (α := Nat) (fun x => ⟨[(0, .ptr 0 0 0), (1, i64 j), (2, u32 (bits x (UInt32.ofNat j))), (3, i64 j), (8, i64 x)], hp, []⟩) (fun x => x ≤ 8) (fun x => 8 - x) 0 hs (by simp) (by show 8 - 0 < KK; simp only [KK]; omega) ?_
  intro x hx
  conv => whnf
  refine brd (fun a => ?_) (fun a => ?_)
  · conv => whnf
    refine clI (bit_eq (by omega) (bits x (UInt32.ofNat j))) ?_
    conv => whnf
    refine zI (z := ((x + 1 : Nat) : Int)) (by rw [wrap_i64 (by omega) (by omega)]; rfl) ?_
    refine nxI (x + 1) (by omega) (by omega) ⟨⟨rfl, rfl, ?_, rfl, rfl⟩, rfl, rfl⟩
    rw [bits_succ]; rfl
  · have : x = 8 := by omega
    subst this
    conv => whnf
    exact hE _ ⟨rfl, rfl, rfl, rfl⟩

set_option maxRecDepth 100000 in
theorem table_eq (hn : 2 ≤ n) : CC n 168 [] h = some (.ret (.agg (tabC 256)), h) := by
  obtain ⟨m, rfl⟩ : ∃ m, n = m + 1 := ⟨n - 1, by omega⟩
  refine fun_pure F168 rfl rfl rfl rfl ?_
  conv => whnf
  refine loopI (by decide) rfl (α := Nat) (fun x => ⟨[(0, .ptr 0 0 0), (3, i64 x)], [.cells 0 (some 244) (tabC x) 0], []⟩) (fun x => x ≤ 256) (fun x => 256 - x) 0 ⟨⟨rfl, rfl⟩, by kernel_rfl, rfl⟩ (by simp) (by show 256 - 0 < KK; simp only [KK]; omega) ?_
  intro x hx
  conv => whnf
  refine brd (fun a => ?_) (fun a => ?_)
  · have hx' : x < 256 := by omega
    conv => whnf
    refine zI (wrap_u32n hx') ?_
    conv => whnf
    refine table_in (by omega) x hx' _ ⟨⟨rfl, rfl, rfl, rfl, rfl⟩, rfl, rfl⟩ fun L hL => ?_
    conv => whnf
    refine cutI (by decide) rfl (t := ⟨[(0, .ptr 0 0 0), (1, i64 x), (2, tabV x), (3, i64 x)], [.cells 0 (some 244) (tabC x) 0], []⟩) ⟨hL, rfl, rfl⟩ ?_
    conv => whnf
    refine ⟨by omega, by omega, ?_⟩
    conv => whnf
    refine stI (cs := tabC x) (by rfl) (by rfl) (by rfl) (by rw [tabC_len]; show Nat.ble (0 + (x : Int).toNat * 1 + 1) 256 = true; exact Nat.ble_eq_true_of_le (by omega)) (by rfl) ?_
    refine cutI (by decide) rfl (t := ⟨[(0, .ptr 0 0 0), (3, i64 x)], [.cells 0 (some 244) (tabC (x + 1)) 0], []⟩) ⟨⟨rfl, rfl⟩, ?_, rfl⟩ ?_
    · show [AB.cells 0 (some 244) (putAt (tabC x) (0 + (x : Int).toNat * 1) [tabV x]) 0] = _
      rw [show 0 + (x : Int).toNat * 1 = x by omega, tabC_put hx']
    · conv => whnf
      refine zI (z := ((x + 1 : Nat) : Int)) (by rw [wrap_i64 (by omega) (by omega)]; rfl) ?_
      exact nxI (x + 1) (by omega) (by omega) ⟨⟨rfl, rfl⟩, rfl, rfl⟩
  · have : x = 256 := by omega
    subst this
    refine cutI (by decide) rfl (t := ⟨[(0, .ptr 0 0 0)], [.cells 0 (some 244) (tabC 256) 0], []⟩) ⟨rfl, rfl, rfl⟩ ?_
    conv => whnf
    refine ldI (cs := tabC 256) (by rfl) ?_
    conv => whnf
    have hcs : List.take 256 (List.drop 0 (tabC 256)) = tabC 256 := by rw [List.drop_zero, List.take_of_length_le (by rw [tabC_len]; decide)]
    refine stI (cs := tabC 256) (xs := tabC 256) (by rfl) (by show AV.cells? (.agg (List.take 256 (List.drop 0 (tabC 256)))) = _; rw [hcs]; exact tabC_cells 256) (tabC_len 256) (by rw [tabC_len]; rfl) (by rfl) ?_
    refine ⟨rfl, [.agg (tabC 256)], ?_, ?_⟩
    · show (match loadA Tryz.prog [.cells 0 (some 244) (putAt (tabC 256) 0 (tabC 256)) 0] 244 (.ptr 0 0 0) with | some v => some [v] | none => none) = _
      rw [tabC_same, loadT (tabC_len 256)]
    · exact tabC_frz 256 62 _

/-- The checksum of bytes. -/
def ext (s : List UInt8) (c : UInt32) : UInt32 := s.foldl (fun c b => tab (c.toUInt8 ^^^ b) ^^^ (c >>> 8)) c
def crc (s : List UInt8) : UInt32 := ~~~(ext s (~~~0))

theorem tab_at (b : UInt8) : (tabC 256)[b.toNat]? = some (u32 (tab b)) := by
  have h := b.toNat_lt
  unfold tabC
  rw [List.getElem?_map, List.getElem?_range (by omega)]
  simp only [Option.map_some]
  rw [if_pos (by omega)]
  have : UInt32.ofNat b.toNat = b.toUInt32 := by
    apply UInt32.toNat_inj.1
    rw [UInt32.toNat_ofNat', UInt8.toNat_toUInt32]
    omega
  unfold tabV bits bits bits bits bits bits bits bits bits tab
  rw [this]

theorem ext_loop {m : Nat} (s : Str) (hs : s.length < 1099511627776) (c0 : UInt32) {Q : Ex → LS → Prop} {st : LS} (h0 : LS.sub ⟨[(1, .str s), (5, .ptr 0 0 0), (6, u32 c0), (12, i64 s.length), (13, i64 0)], [.cells 0 (some 244) (tabC 256) 0], []⟩ st)
    (hE : ∀ L hp, lk L 6 = some (u32 (ext s c0)) → Q (.exit 0) ⟨L, hp, []⟩) : OkR Tryz.prog (CC m) cfgN.inl KK 30 5 (.loop (c149.lp 0)) st Q := by
  refine loopI (by decide) rfl (α := Nat × UInt32) (fun x => ⟨[(1, .str s), (5, .ptr 0 0 0), (6, u32 x.2), (12, i64 s.length), (13, i64 x.1)], [.cells 0 (some 244) (tabC 256) 0], []⟩) (fun x => x.1 ≤ s.length ∧ x.2 = ext (s.take x.1) c0) (fun x => s.length - x.1) (0, c0) h0 (by simp [ext]) (by show s.length - 0 < KK; simp only [KK]; omega) ?_
  rintro ⟨x, c⟩ ⟨hx, hc⟩
  simp only at hx hc
  conv => whnf
  refine brd (fun a => ?_) (fun a => ?_)
  · simp only at a
    have hx' : x < s.length := by omega
    have hst : tab (c.toUInt8 ^^^ s[x]) ^^^ (c >>> 8) = ext (s.take (x + 1)) c0 := by
      subst hc
      unfold ext
      rw [List.take_succ_eq_append_getElem hx', List.foldl_append]; rfl
    conv => whnf
    refine zI (low_u8 c) ?_
    conv => whnf
    refine ⟨by omega, s[x], by rw [Int.toNat_natCast]; exact List.getElem?_eq_getElem hx', ?_⟩
    conv => whnf
    refine zI (xor_u8 c.toUInt8 s[x]) ?_
    conv => whnf
    have hlt := (c.toUInt8 ^^^ s[x]).toNat_lt
    refine ⟨by omega, by omega, ?_⟩
    conv => whnf
    refine ldI (cs := tabC 256) (by rfl) ?_
    refine wpartI (v := u32 (tab (c.toUInt8 ^^^ s[x]))) (by show (tabC 256)[0 + (((c.toUInt8 ^^^ s[x]).toNat : Nat) : Int).toNat * 1]? = _; rw [Int.toNat_natCast, Nat.zero_add, Nat.mul_one]; exact tab_at _) ?_
    conv => whnf
    refine ⟨by decide, _, shr_u32 c 8 (by decide), ?_⟩
    conv => whnf
    refine zI (xor_u32 _ _) ?_
    conv => whnf
    refine zI (z := ((x + 1 : Nat) : Int)) (by rw [wrap_i64 (by omega) (by omega)]; rfl) ?_
    exact nxI (x + 1, tab (c.toUInt8 ^^^ s[x]) ^^^ (c >>> 8)) ⟨hx', hst⟩ (by simp only; omega) ⟨⟨rfl, rfl, rfl, rfl, rfl⟩, rfl, rfl⟩
  · simp only at a
    have : x = s.length := by omega
    subst this
    rw [List.take_length] at hc
    subst hc
    conv => whnf
    exact hE _ _ rfl

set_option maxRecDepth 100000 in
theorem extend_eq (hn : 3 ≤ n) (s : Str) (hs : s.length < 1099511627776) (c : UInt32) : CC n 149 [u32 c, .str s] h = some (.ret (u32 (~~~(ext s (~~~c)))), h) := by
  obtain ⟨m, rfl⟩ : ∃ m, n = m + 1 := ⟨n - 1, by omega⟩
  refine fun_pure F149 rfl rfl rfl rfl ?_
  conv => whnf
  refine clI (table_eq (by omega)) ?_
  conv => whnf
  refine stI (xs := tabC 256) (by rfl) (tabC_cells 256) (tabC_len 256) (by rw [tabC_len]; rfl) (by rfl) ?_
  conv => whnf
  refine zI (not_u32 c) ?_
  conv => whnf
  refine ext_loop s hs (~~~c) ⟨⟨rfl, rfl, rfl, rfl, rfl⟩, ?_, rfl⟩ fun L hp hL => ?_
  · exact congrArg (fun cs => [AB.cells 0 (some 244) cs 0]) (tabC_over (by rfl) 256)
  · refine cutI (by decide) rfl (t := ⟨[(6, u32 (ext s (~~~c)))], hp, []⟩) ⟨hL, rfl, rfl⟩ ?_
    conv => whnf
    refine zI (not_u32 _) ?_
    conv => whnf
    exact retP rfl (frz_int rfl)

theorem crc_eq (hn : 4 ≤ n) (s : Str) (hs : s.length < 1099511627776) : CC n 112 [.str s] h = some (.ret (u32 (crc s)), h) := by
  obtain ⟨m, rfl⟩ : ∃ m, n = m + 1 := ⟨n - 1, by omega⟩
  refine fun_pure F112 rfl rfl rfl rfl ?_
  conv => whnf
  refine clI (extend_eq (by omega) s hs 0) ?_
  conv => whnf
  exact retP rfl (frz_int rfl)
end
end Go.Proofs
/- What is known of the checksum. -/
set_option linter.unusedVariables false
set_option linter.unusedSimpArgs false
namespace Go.Proofs
open Go Go.Abs
def bitN (c : Nat) : Nat := Nat.xor (Nat.shiftRight c 1) (Nat.mul (Nat.land c 1) 3988292384)
def byteN (c : Nat) : Nat := bitN (bitN (bitN (bitN (bitN (bitN (bitN (bitN c)))))))
def extN : List UInt8 → Nat → Nat
  | [], c => c
  | b :: r, c => extN r (Nat.xor (byteN (Nat.xor (Nat.mod c 256) b.toNat)) (Nat.shiftRight c 8))
def crcN (s : List UInt8) : Nat := Nat.xor (extN s 4294967295) 4294967295
theorem bitN_eq (c : UInt32) : bitN c.toNat = (bit c).toNat := by
  have h1 : (c &&& 1).toNat = c.toNat % 2 := by
    rw [UInt32.toNat_and]; exact Nat.and_one_is_mod _
  have h2 : (c >>> 1).toNat = c.toNat >>> 1 := by
    rw [UInt32.toNat_shiftRight]; rfl
  have h3 : Nat.land c.toNat 1 = c.toNat % 2 := Nat.and_one_is_mod _
  unfold bitN bit
  rw [h3]
  have h4 := Nat.mod_two_eq_zero_or_one c.toNat
  by_cases h : c &&& 1 = 1
  · rw [if_pos h, UInt32.toNat_xor, h2]
    have : c.toNat % 2 = 1 := by rw [← h1, h]; rfl
    rw [this]; rfl
  · rw [if_neg h, h2]
    have : c.toNat % 2 = 0 := by
      rcases h4 with h4 | h4
      · exact h4
      · exact (h (UInt32.toNat_inj.1 (by rw [h1, h4]; rfl))).elim
    rw [this]
    exact Nat.xor_zero _
theorem byteN_eq (i : UInt8) : byteN i.toNat = (tab i).toNat := by
  unfold byteN tab
  have : i.toNat = i.toUInt32.toNat := by simp
  rw [this, bitN_eq, bitN_eq, bitN_eq, bitN_eq, bitN_eq, bitN_eq, bitN_eq, bitN_eq]
theorem extN_eq : ∀ (s : List UInt8) (c : UInt32), extN s c.toNat = (ext s c).toNat
  | [], c => rfl
  | b :: r, c => by
    have h1 : Nat.xor (Nat.mod c.toNat 256) b.toNat = (c.toUInt8 ^^^ b).toNat := by
      rw [UInt8.toNat_xor, UInt32.toNat_toUInt8]; rfl
    have h2 : Nat.shiftRight c.toNat 8 = (c >>> 8).toNat := by rw [UInt32.toNat_shiftRight]; rfl
    show extN r (Nat.xor (byteN (Nat.xor (Nat.mod c.toNat 256) b.toNat)) (Nat.shiftRight c.toNat 8)) = _
    rw [h1, byteN_eq, h2]
    have h3 : Nat.xor (tab (c.toUInt8 ^^^ b)).toNat (c >>> 8).toNat = (tab (c.toUInt8 ^^^ b) ^^^ (c >>> 8)).toNat := by rw [UInt32.toNat_xor]; rfl
    rw [h3, extN_eq r]
    rfl
theorem crcN_eq (s : List UInt8) : crcN s = (crc s).toNat := by
  unfold crcN crc
  have h := extN_eq s (~~~0)
  rw [show (~~~(0 : UInt32)).toNat = 4294967295 by decide] at h
  rw [h]
  have : ~~~(ext s (~~~0)) = ext s (~~~0) ^^^ 4294967295 := by
    rw [show (4294967295 : UInt32) = -1 by decide, UInt32.xor_neg_one]
  rw [this, UInt32.toNat_xor]; rfl

/-- What is known of the checksum. -/
def sum1 : FuncId → List AV → Option AV := fun f args => cond (Nat.beq f 112) (match args with
  | [.str s] => cond (Nat.blt s.length 1099511627776) (some (.int .u32 (Int.ofNat (crcN s)))) none
  | _ => none) none
def cfg1 : Cfg := ⟨inl0, sum1, fun _ _ _ => none, fun _ => false⟩
theorem sumN_ok : SumOk Tryz.prog cfgN := ⟨fun f args v h => (by cases h), noMem _⟩
theorem crc_pure (s : Str) (hs : s.length < 1099511627776) : PureCalls Tryz.prog 112 [.str s] (.ret (u32 (crc s))) := pure_of_CN (c := cfgN) (n := 9) sumN_ok rfl (crc_eq (by omega) s hs)
theorem sum1_sound : ∀ f args v, cfg1.sum f args = some v → PureCalls Tryz.prog f args (.ret v) := fun f args v h => by
  change sum1 f args = some v at h
  unfold sum1 at h
  cases hf : Nat.beq f 112 with
  | false => rw [hf] at h; cases h
  | true =>
    rw [hf] at h
    have : f = 112 := Nat.eq_of_beq_eq_true hf
    subst this
    simp only [cond] at h
    split at h
    · rename_i s
      cases hl : Nat.blt s.length 1099511627776 with
      | false => rw [hl] at h; cases h
      | true =>
        rw [hl] at h
        cases h
        have hl' : s.length < 1099511627776 := by rwa [Nat.blt_eq] at hl
        have := crc_pure s hl'
        rw [crcN_eq]
        exact this
    · cases h

theorem sum1_ok : SumOk Tryz.prog cfg1 := ⟨sum1_sound, noMem _⟩
end Go.Proofs
/- Calls, with what is known of the examples and of the checksum. -/
set_option linter.unusedVariables false
set_option linter.unusedSimpArgs false
namespace Go.Proofs
open Go Go.Abs
/-- The chapter's examples: shown by themselves. -/
def sum0 : FuncId → List AV → Option AV := fun f args => cond (Nat.beq f 9) (match args with | [] => some (.bool true) | _ => none) (sum1 f args)
/-- What is known of calls in the caller's memory: of slices.Sort, slices.Compact and (of an empty list) slices.Clone of numbers. -/
def mem0 : FuncId → List AV → AHeap → Option (AV × AHeap) := memS 130 131 102
/-- Whose arguments are taken out of memory. -/
def cold0 : FuncId → Bool := fun f => Nat.beq f 40 || Nat.beq f 41
def cfg0 : Cfg := ⟨inl0, sum0, mem0, cold0⟩
noncomputable abbrev C (n : Nat) : CallF := CN Tryz.prog cfg0 n
theorem sane_eq {n : Nat} (hn : 1 ≤ n) (h : AHeap) : C n 9 [] h = some (.ret (.bool true), h) := by
  obtain ⟨m, rfl⟩ : ∃ m, n = m + 1 := ⟨n - 1, by omega⟩
  exact fun_sum rfl (of_decide_eq_true (by kernel_rfl)) rfl rfl
end Go.Proofs
/- Contracts of functions of a page: forms and weights of entries. -/
set_option linter.unusedVariables false
set_option linter.unusedSimpArgs false
namespace Go.Proofs
open Go Go.Abs

structure Dg where
  (b0 b1 b2 b3 b4 b5 b6 b7 b8 b9 b10 b11 b12 b13 b14 b15 : UInt8)
  deriving DecidableEq
structure Entry where
  key : Str
  val : Str
  over : Int
  len : Int
  child : Int
  count : Int
  sum : Dg
  deriving DecidableEq

def Dg.cells (d : Dg) : List AV := [u8 d.b0, u8 d.b1, u8 d.b2, u8 d.b3, u8 d.b4, u8 d.b5, u8 d.b6, u8 d.b7, u8 d.b8, u8 d.b9, u8 d.b10, u8 d.b11, u8 d.b12, u8 d.b13, u8 d.b14, u8 d.b15]
def Entry.cells (e : Entry) : List AV := .str e.key :: .str e.val :: i64 e.over :: i64 e.len :: i64 e.child :: i64 e.count :: e.sum.cells
def Entry.av (e : Entry) : AV := .agg e.cells
def Dg.zero : Dg := ⟨0, 0, 0, 0, 0, 0, 0, 0, 0, 0, 0, 0, 0, 0, 0, 0⟩


def within (x lo hi : Int) : Bool := decide (lo ≤ x) && decide (x ≤ hi)
def numbered (n : Int) : Bool := within n 2 4095

section
variable {n : Nat} {h : AHeap}

theorem within_eq (hn : 1 ≤ n) (x lo hi : Int) : C n 71 [i64 x, i64 lo, i64 hi] h = some (.ret (.bool (within x lo hi)), h) := by
  obtain ⟨m, rfl⟩ : ∃ m, n = m + 1 := ⟨n - 1, by omega⟩
  refine fun_pure F71 rfl rfl rfl rfl ?_
  refine br (fun a => ?_) (fun a => ?_)
  · exact ⟨rfl, _, rfl, frz_bool (by simp [within, a])⟩
  · exact ⟨rfl, _, rfl, frz_bool (by simp [within, a])⟩

theorem numbered_eq (hn : 2 ≤ n) (x : Int) : C n 70 [i64 x] h = some (.ret (.bool (numbered x)), h) := by
  obtain ⟨m, rfl⟩ : ∃ m, n = m + 1 := ⟨n - 1, by omega⟩
  refine fun_pure F70 rfl rfl rfl rfl ?_
  refine clI (within_eq (by omega) _ _ _) ?_
  exact ⟨rfl, _, rfl, frz_bool rfl⟩

def cmpS (x y : Str) : Int := if Op.bytesLess x y then -1 else if Op.bytesLess y x then 1 else 0

def branches (e : Entry) : Bool := decide (e.key.length ≤ 48) && e.val == [] && e.over == 0 && e.len == 0 && numbered e.child && within e.count 1 2147483647

def isShort (e : Entry) : Bool := e.over == 0 && e.len == 0 && e.child == 0 && e.count == 0 && e.sum == Dg.zero && decide (e.val.length ≤ 64)
def isLong (e : Entry) : Bool := e.child == 0 && e.count == 0 && numbered e.over && within e.len 65 4000
def isNest (e : Entry) : Bool := e.over == 0 && e.len == 0 && numbered e.child && within e.count 1 2147483647
def formOf (e : Entry) : Int := if within e.key.length 1 48 = false then 0 else if isShort e then 1 else if e.val ≠ [] then 0 else if isLong e then 2 else if isNest e then 3 else 0

def Dg.list (d : Dg) : List UInt8 := [d.b0, d.b1, d.b2, d.b3, d.b4, d.b5, d.b6, d.b7, d.b8, d.b9, d.b10, d.b11, d.b12, d.b13, d.b14, d.b15]
def weighW (e : Entry) (lv : Int) : Int := if 0 < lv then e.key.length + 27 else if formOf e = 1 then e.key.length + e.val.length + 5 else if formOf e = 2 then e.key.length + 27 else if formOf e = 3 then e.key.length + 29 else 0
def weighB (e : Entry) (lv : Int) : Bool := if 0 < lv then branches e else formOf e == 1 || formOf e == 2 || formOf e == 3
/-- Strings are short enough for a machine. -/
def Entry.Ok (e : Entry) : Prop := e.key.length < 1099511627776 ∧ e.val.length < 1099511627776

def wsum (lv : Int) : List Entry → Option Int
  | [] => some 0
  | e :: r => if weighB e lv then (wsum lv r).map (weighW e lv + ·) else none
def weight (l : List Entry) (lv : Int) : Option Int := if within lv 0 20 then (wsum lv l).map (6 + ·) else none
theorem within_iff {x lo hi : Int} : within x lo hi = true ↔ lo ≤ x ∧ x ≤ hi := by simp [within]
theorem entry_cells (e : Entry) : e.av.cells? = some e.cells := rfl

theorem pure_map {α : Type} {f : α → AV} (hf : ∀ a, (f a).pureB = true) : ∀ (l : List α), pureBs (l.map f) = true
  | [] => rfl
  | a :: r => by simp [pureBs, hf a, pure_map hf r]
theorem pure_lst {α : Type} {f : α → AV} (hf : ∀ a, (f a).pureB = true) (l : List α) {sz : Nat} {c : Bool} {r : List AV} (hr : pureBs r = true) : pureBs (.lst sz (l.map f) c :: r) = true := by
  simp [pureBs, AV.pureB, pure_map hf l, hr]
theorem entry_pure (e : Entry) : e.av.pureB = true := rfl

end
end Go.Proofs
/- Contracts: a builder of strings, and numbers and digests that are written into it. -/
set_option linter.unusedVariables false
set_option linter.unusedSimpArgs false
namespace Go.Proofs
open Go Go.Abs

/-- What is not in F stays. -/
def Keep (hp hp' : AHeap) (F : List Nat) : Prop := hp.length ≤ hp'.length ∧ ∀ x, x < hp.length → x ∉ F → hp'[x]? = hp[x]?
theorem Keep.refl (hp : AHeap) (F : List Nat) : Keep hp hp F := ⟨Nat.le_refl _, fun _ _ _ => rfl⟩
theorem Keep.trans {a b c : AHeap} {F G : List Nat} (h1 : Keep a b F) (h2 : Keep b c G) (hs : ∀ x ∈ G, x ∈ F ∨ a.length ≤ x) : Keep a c F :=
  ⟨Nat.le_trans h1.1 h2.1, fun x hx hn => by
    rw [h2.2 x (Nat.lt_of_lt_of_le hx h1.1) fun hg => ?_, h1.2 x hx hn]
    rcases hs x hg with h | h
    · exact hn h
    · omega⟩
theorem Keep.mono {a b : AHeap} {F G : List Nat} (h : Keep a b F) (hs : ∀ x ∈ F, x ∈ G) : Keep a b G := ⟨h.1, fun x hx hn => h.2 x hx fun hf => hn (hs x hf)⟩
theorem Keep.app (h : AHeap) (x : AB) (F : List Nat) : Keep h (h ++ [x]) F := ⟨by simp, fun y hy _ => List.getElem?_append_left hy⟩
theorem Keep.set {h : AHeap} {b : Nat} {x : AB} {F : List Nat} (hb : b ∈ F) : Keep h (h.set b x) F := ⟨by simp, fun y hy hn => by rw [List.getElem?_set_ne]; rintro rfl; exact hn hb⟩
theorem lt_of_get {h : AHeap} {b : Nat} {x : AB} (hb : h[b]? = some x) : b < h.length := by
  rcases Nat.lt_or_ge b h.length with q | q
  · exact q
  · rw [List.getElem?_eq_none q] at hb; cases hb

def Buf (hp : AHeap) (b : Nat) (buf : AV) (bs : Str) (F : List Nat) : Prop :=
  (buf = .lst 0 [] true ∧ bs = [] ∧ F = [b]) ∨ (∃ bb ver frz, buf = .sl 1 bb ver 0 bs.length ∧ hp[bb]? = some (.cells ver (some 5) (bs.map u8) frz) ∧ b ≠ bb ∧ frz ≤ bs.length ∧ F = [b, bb])
abbrev tBld : Nat := 115
abbrev tWri : Nat := 117
/-- A builder in memory: its bytes, the blocks that are its own. -/
def BW (hp : AHeap) (b : Nat) (bs : Str) (F : List Nat) : Prop :=
  ∃ t a buf, hp[b]? = some (.cells 0 (some t) [a, buf] 0) ∧ (a = .nilp ∨ a = .ptr b 0 0) ∧ (t = tBld ∨ t = tWri) ∧ Buf hp b buf bs F
def Wrote (hp hp' : AHeap) (b : Nat) (F F' : List Nat) (bs : Str) : Prop := BW hp' b bs F' ∧ Keep hp hp' F ∧ ∀ x ∈ F', x ∈ F ∨ hp.length ≤ x
theorem Wrote.trans {h0 h1 h2 : AHeap} {b : Nat} {F F1 F2 : List Nat} {s1 s2 : Str} (w1 : Wrote h0 h1 b F F1 s1) (w2 : Wrote h1 h2 b F1 F2 s2) : Wrote h0 h2 b F F2 s2 :=
  ⟨w2.1, w1.2.1.trans w2.2.1 w1.2.2, fun x hx => by
    rcases w2.2.2 x hx with h | h
    · exact w1.2.2 x h
    · exact .inr (Nat.le_trans w1.2.1.1 h)⟩
theorem Wrote.refl {h : AHeap} {b : Nat} {F : List Nat} {s : Str} (w : BW h b s F) : Wrote h h b F F s := ⟨w, Keep.refl _ _, fun x hx => .inl hx⟩
theorem Buf.lt {hp : AHeap} {b : Nat} {buf : AV} {bs : Str} {F : List Nat} (h : Buf hp b buf bs F) : ∀ x ∈ F, x = b ∨ x < hp.length := by
  intro x hx
  rcases h with ⟨_, _, rfl⟩ | ⟨bb, ver, frz, _, h2, _, _, rfl⟩
  · simp at hx; exact .inl hx
  · simp at hx
    rcases hx with rfl | rfl
    · exact .inl rfl
    · exact .inr (lt_of_get h2)
theorem BW.lt {hp : AHeap} {b : Nat} {bs : Str} {F : List Nat} (h : BW hp b bs F) : ∀ x ∈ F, x < hp.length := by
  obtain ⟨t, a, buf, h1, _, _, h4⟩ := h
  intro x hx
  rcases h4.lt x hx with rfl | h
  · exact lt_of_get h1
  · exact h
theorem Buf.mem {hp : AHeap} {b : Nat} {buf : AV} {bs : Str} {F : List Nat} (h : Buf hp b buf bs F) : b ∈ F := by
  rcases h with ⟨_, _, rfl⟩ | ⟨bb, ver, frz, _, h2, _, _, rfl⟩ <;> simp
theorem BW.mem {hp : AHeap} {b : Nat} {bs : Str} {F : List Nat} (h : BW hp b bs F) : b ∈ F := by
  obtain ⟨t, a, buf, h1, _, _, h4⟩ := h
  exact h4.mem
/-- A builder stays where its blocks stay. -/
theorem BW.stays {hp hp' : AHeap} {b : Nat} {bs : Str} {F G : List Nat} (h : BW hp b bs F) (k : Keep hp hp' G) (hd : ∀ x ∈ F, x ∉ G) : BW hp' b bs F := by
  have hl := h.lt
  obtain ⟨t, a, buf, h1, h2, h3, h4⟩ := h
  refine ⟨t, a, buf, ?_, h2, h3, ?_⟩
  · rw [k.2 b (lt_of_get h1) (hd b h4.mem)]; exact h1
  · rcases h4 with h4 | ⟨bb, ver, frz, g1, g2, g3, g4, rfl⟩
    · exact .inl h4
    · refine .inr ⟨bb, ver, frz, g1, ?_, g3, g4, rfl⟩
      rw [k.2 bb (hl bb (by simp)) (hd bb (by simp))]; exact g2

section
variable {n : Nat}
end
end Go.Proofs
/- Contracts: numbers and digests that are written into a builder. -/
set_option linter.unusedVariables false
set_option linter.unusedSimpArgs false
namespace Go.Proofs
open Go Go.Abs

/-- A number of so many bytes, the most significant one first. -/
def num (k : Nat) : Nat → Str
  | 0 => []
  | w + 1 => UInt8.ofNat (k / 256 ^ w) :: num k w
def Dg.bytes (d : Dg) : Str := d.list
section
variable {n : Nat}
end
end Go.Proofs
/- The looked-up text of the functions. -/
namespace Go.Proofs
open Go Go.Abs
/- f221 (understory/page.node).entry: 86 temporaries, depth 7, 4 parameters, results [] -/
/- f220 (understory/page.node).write: 86 temporaries, depth 7, 2 parameters, results [] -/
/- f218 (understory/page.piece).write: 19 temporaries, depth 5, 2 parameters, results [] -/
/- f219 (understory/page.list).write: 45 temporaries, depth 6, 2 parameters, results [] -/
end Go.Proofs
/- Contracts: entries, pieces and lists that are written into a builder. -/
set_option linter.unusedVariables false
set_option linter.unusedSimpArgs false
namespace Go.Proofs
open Go Go.Abs

theorem Wrote.keep {h h' : AHeap} {b x : Nat} {F F' : List Nat} {s : Str} {v : AB} (w : Wrote h h' b F F' s) (hx : h[x]? = some v) (hn : x ∉ F) : h'[x]? = some v ∧ x ∉ F' := by
  have hl := lt_of_get hx
  refine ⟨by rw [w.2.1.2 x hl hn]; exact hx, fun hf => ?_⟩
  rcases w.2.2 x hf with h | h
  · exact hn h
  · omega
theorem BW.app {h : AHeap} {b : Nat} {F : List Nat} {s : Str} (w : BW h b s F) (x : AB) : BW (h ++ [x]) b s F ∧ (h ++ [x])[h.length]? = some x ∧ h.length ∉ F :=
  ⟨w.stays (Keep.app h x []) (by simp), get_last _ _, fun hf => by have := w.lt _ hf; omega⟩
section
variable {n : Nat} {hp : AHeap} {b : Nat} {bs : Str} {F : List Nat} {K X : AV → AHeap → Prop}
def restB (e : Entry) (lv : Int) : Str :=
  if 0 < lv then num e.child.toNat 4 ++ (num e.count.toNat 4 ++ e.sum.bytes)
  else if 0 < e.over then num 65535 2 ++ (num e.over.toNat 4 ++ (num e.len.toNat 2 ++ e.sum.bytes))
  else if 0 < e.child then num 65534 2 ++ (num e.child.toNat 4 ++ (num e.count.toNat 4 ++ e.sum.bytes))
  else num e.val.length 2 ++ e.val
def entB (c : Nat) (e : Entry) (lv : Int) : Str := num (e.key.length - c) 1 ++ (e.key.drop c ++ restB e lv)
end
end Go.Proofs
/- Contracts: a reader of strings. -/
set_option linter.unusedVariables false
set_option linter.unusedSimpArgs false
namespace Go.Proofs
open Go Go.Abs
abbrev tRdr : Nat := 145
/-- A reader in memory: what it has yet to read. -/
def RDs (hp : AHeap) (b : Nat) (s : Str) : Prop := ∃ (all : Str) (at' : Nat), hp[b]? = some (.cells 0 (some tRdr) [.str all, i64 at'] 0) ∧ at' ≤ all.length ∧ all.length < 1073741824 ∧ all.drop at' = s
theorem RDs.stays {hp hp' : AHeap} {b : Nat} {s : Str} {F : List Nat} (r : RDs hp b s) (k : Keep hp hp' F) (hb : b ∉ F) : RDs hp' b s := by
  obtain ⟨all, a, h1, h2, h3, h4⟩ := r
  exact ⟨all, a, by rw [k.2 b (lt_of_get h1) hb]; exact h1, h2, h3, h4⟩
theorem RDs.lt {hp : AHeap} {b : Nat} {s : Str} (r : RDs hp b s) : b < hp.length := by
  obtain ⟨all, a, h1, _⟩ := r; exact lt_of_get h1
theorem RDs.len {hp : AHeap} {b : Nat} {s : Str} (r : RDs hp b s) : s.length < 1073741824 := by
  obtain ⟨all, a, h1, h2, h3, rfl⟩ := r
  simp; omega
theorem Keep.get {h h' : AHeap} {F : List Nat} {x : Nat} {v : AB} (k : Keep h h' F) (hx : h[x]? = some v) (hn : x ∉ F) : h'[x]? = some v := by
  rw [k.2 x (lt_of_get hx) hn]; exact hx
section
variable {n : Nat} {hp : AHeap} {b : Nat} {s : Str} {K X : AV → AHeap → Prop}
def unnum (s : Str) : Nat := s.foldl (fun n b => n * 256 + b.toNat) 0
theorem unnum_app (s : Str) (c : UInt8) : unnum (s ++ [c]) = unnum s * 256 + c.toNat := by simp [unnum]
theorem unnum_lt : ∀ (k : Nat) (s : Str), s.length = k → unnum s < 256 ^ k
  | 0, s, h => by have := List.length_eq_zero_iff.1 h; subst this; simp [unnum]
  | k + 1, s, h => by
    obtain ⟨t, c, rfl⟩ : ∃ t c, s = t ++ [c] := ⟨s.dropLast, s.getLast (by intro e; subst e; simp at h), (List.dropLast_concat_getLast _).symm⟩
    have := unnum_lt k t (by simpa using h)
    have hc := c.toNat_lt
    rw [unnum_app, Nat.pow_succ]
    omega
end
end Go.Proofs
/- Contracts: digests that are read. -/
set_option linter.unusedVariables false
set_option linter.unusedSimpArgs false
namespace Go.Proofs
open Go Go.Abs
theorem load_agg {h : AHeap} {t N b ver : Nat} {el : Option TypeId} {cs : List AV} {f : Nat} (ht : (ti Tryz.prog t).map (fun d => (isAggD d.desc, d.size)) = some (true, N)) (hN : cs.length = N) (hb : h[b]? = some (.cells ver el cs f)) : loadA Tryz.prog h t (.ptr b ver 0) = some (.agg cs) := by
  obtain ⟨d, h1, h2⟩ := Option.map_eq_some_iff.1 ht
  simp only [Prod.mk.injEq] at h2
  unfold loadA
  simp only [h1, hb, if_true]
  unfold partA
  rw [h2.1, h2.2, ← hN]
  simp
def dgOf (t : Str) : Dg := ⟨t.getD 0 0, t.getD 1 0, t.getD 2 0, t.getD 3 0, t.getD 4 0, t.getD 5 0, t.getD 6 0, t.getD 7 0, t.getD 8 0, t.getD 9 0, t.getD 10 0, t.getD 11 0, t.getD 12 0, t.getD 13 0, t.getD 14 0, t.getD 15 0⟩
section
variable {n : Nat} {hp : AHeap} {b : Nat} {s : Str} {K X : AV → AHeap → Prop}
end
end Go.Proofs
/- Contracts: pieces and lists of freed pages that are written into a builder. -/
set_option linter.unusedVariables false
set_option linter.unusedSimpArgs false
namespace Go.Proofs
open Go Go.Abs

/-- How a slice is held: the size of its elements, and whether its capacity is known. -/
structure Sh where
  sz : Nat
  c : Bool
structure Freed where
  ver : Int
  sh : Sh
  pages : List Int
def Freed.cells (f : Freed) : List AV := [i64 f.ver, .lst f.sh.sz (f.pages.map i64) f.sh.c]
def Freed.av (f : Freed) : AV := .agg f.cells
def Freed.Ok (f : Freed) : Prop := f.pages ≠ [] → f.sh.sz = 1
theorem freed_cells (f : Freed) : f.av.cells? = some f.cells := rfl
theorem i64_cells (k : Int) : (i64 k).cells? = some [i64 k] := rfl

def pieceB (next : Int) (data : Str) : Str := num next.toNat 4 ++ (num data.length 2 ++ data)
def pagesB (l : List Int) : Str := l.flatMap fun n => num n.toNat 4
def freedB (f : Freed) : Str := num f.ver.toNat 6 ++ (num f.pages.length 2 ++ pagesB f.pages)
def freedsB (l : List Freed) : Str := l.flatMap freedB
def listB (next : Int) (l : List Freed) : Str := num next.toNat 4 ++ (num l.length 2 ++ freedsB l)
section
variable {n : Nat} {hp : AHeap} {b : Nat} {bs : Str} {F : List Nat} {K X : AV → AHeap → Prop}

end
end Go.Proofs
/- Contracts: contents of entries that are read. -/
set_option linter.unusedVariables false
set_option linter.unusedSimpArgs false
namespace Go.Proofs
open Go Go.Abs
def ptext (k : Nat) (s : Str) : Option (Str × Str) := if k ≤ s.length then some (s.take k, s.drop k) else none
def pnum (w : Nat) (s : Str) : Option (Nat × Str) := if w ≤ s.length then some (unnum (s.take w), s.drop w) else none
def psum (s : Str) : Option (Dg × Str) := if 16 ≤ s.length then some (dgOf (s.take 16), s.drop 16) else none
def pcont2 (key : Str) (long : Nat) (s : Str) : Option (Entry × Str) :=
  if long = 65535 then (pnum 4 s).bind fun o => (pnum 2 o.2).bind fun l => (psum l.2).map fun d => (⟨key, [], o.1, l.1, 0, 0, d.1⟩, d.2)
  else if long = 65534 then (pnum 4 s).bind fun o => (pnum 4 o.2).bind fun l => (psum l.2).map fun d => (⟨key, [], 0, 0, o.1, l.1, d.1⟩, d.2)
  else (ptext long s).map fun v => (⟨key, v.1, 0, 0, 0, 0, Dg.zero⟩, v.2)
def pcont (key : Str) (lv : Int) (s : Str) : Option (Entry × Str) := if lv = 0 then (pnum 2 s).bind fun l => pcont2 key l.1 l.2 else pcont2 key 65534 s
section
variable {n : Nat} {hp : AHeap} {b E : Nat} {s : Str} {K X : AV → AHeap → Prop}
end
end Go.Proofs
/- The looked-up text of the functions. -/
namespace Go.Proofs
open Go Go.Abs
/- f119 (*understory/page.reader).body: 95 temporaries, depth 7, 2 parameters, results [t4] -/
end Go.Proofs
/- Lists that grow in memory; rounds of a range that appends. -/
set_option linter.unusedVariables false
set_option linter.unusedSimpArgs false
namespace Go.Proofs
open Go Go.Abs
/-- A slice that grows: its rows of cells. -/
def GBuf (el : TypeId) (sz : Nat) (hp : AHeap) (X : Nat) (L : AV) (rows : List (List AV)) (G : List Nat) : Prop :=
  (∀ r ∈ rows, r.length = sz ∧ r.all AV.scal = true) ∧ ((L = .lst 0 [] true ∧ rows = [] ∧ G = [X]) ∨ (∃ eb ver frz, L = .sl sz eb ver 0 rows.length ∧ hp[eb]? = some (.cells ver (some el) rows.flatten frz) ∧ X ≠ eb ∧ frz ≤ rows.flatten.length ∧ G = [X, eb]))
theorem flatten_len {sz : Nat} : ∀ {rows : List (List AV)}, (∀ r ∈ rows, r.length = sz ∧ r.all AV.scal = true) → rows.flatten.length = rows.length * sz ∧ rows.flatten.all AV.scal = true
  | [], _ => by simp
  | a :: r, h => by
    have h1 := flatten_len fun x hx => h x (List.mem_cons_of_mem _ hx)
    have h2 := h a (List.mem_cons_self ..)
    simp only [List.flatten_cons, List.length_append, List.length_cons, List.all_append, h1, h2, Bool.and_self, and_true]
    rw [Nat.add_mul]; omega
theorem GBuf.mem {el sz : Nat} {hp : AHeap} {X : Nat} {L : AV} {rows : List (List AV)} {G : List Nat} (h : GBuf el sz hp X L rows G) : X ∈ G := by
  rcases h.2 with ⟨_, _, rfl⟩ | ⟨eb, ver, frz, _, h2, _, _, rfl⟩ <;> simp
theorem GBuf.lt {el sz : Nat} {hp : AHeap} {X : Nat} {L : AV} {rows : List (List AV)} {G : List Nat} (h : GBuf el sz hp X L rows G) (hX : X < hp.length) : ∀ x ∈ G, x < hp.length := by
  intro x hx
  rcases h.2 with ⟨_, _, rfl⟩ | ⟨eb, ver, frz, _, h2, _, _, rfl⟩
  · simp at hx; omega
  · simp at hx
    rcases hx with rfl | rfl
    · exact hX
    · exact lt_of_get h2
theorem GBuf.stays {el sz : Nat} {hp hp' : AHeap} {X : Nat} {L : AV} {rows : List (List AV)} {G : List Nat} (h : GBuf el sz hp X L rows G) (e : ∀ x ∈ G, x ≠ X → hp'[x]? = hp[x]?) : GBuf el sz hp' X L rows G := by
  refine ⟨h.1, ?_⟩
  rcases h.2 with h | ⟨eb, ver, frz, h1, h2, h3, h4, rfl⟩
  · exact .inl h
  · exact .inr ⟨eb, ver, frz, h1, by rw [e eb (by simp) (Ne.symm h3)]; exact h2, h3, h4, rfl⟩
theorem first_agg (h : AHeap) {sz : Nat} {row : List AV} (hr : row.length = sz) (hs : AV.cells? (.agg row) = some row) : firstA h sz 1 (.lst sz [.agg row] true) = some row := by
  unfold firstA
  simp only
  rw [if_pos ⟨Nat.le_refl _, .inl trivial⟩]
  simp [hs, hr]
end Go.Proofs
/- Contracts: rounds of the range over the entries that are read. -/
set_option linter.unusedVariables false
set_option linter.unusedSimpArgs false
namespace Go.Proofs
open Go Go.Abs
/-- The node that is filled, and the round's text. -/
structure XS (hp : AHeap) (X Bk : Nat) (tree lv : Int) (top : Bool) (lp : AB) (es : List Entry) (G : List Nat) : Prop where
  node : ∃ L, hp[X]? = some (.cells 0 (some 178) [i64 tree, i64 lv, .bool top, L] 0) ∧ GBuf 56 22 hp X L (es.map Entry.cells) G
  loop : hp[Bk]? = some lp
  out : Bk ∉ G
theorem XS.lt {hp : AHeap} {X Bk : Nat} {tree lv : Int} {top : Bool} {lp : AB} {es : List Entry} {G : List Nat} (h : XS hp X Bk tree lv top lp es G) : ∀ x ∈ G, x < hp.length := by
  obtain ⟨L, h1, h2⟩ := h.node
  exact h2.lt (lt_of_get h1)
theorem XS.stays {hp hp' : AHeap} {X Bk : Nat} {tree lv : Int} {top : Bool} {lp : AB} {es : List Entry} {G F : List Nat} (h : XS hp X Bk tree lv top lp es G) (k : Keep hp hp' F) (hG : ∀ x ∈ G, x ∉ F) (hB : Bk ∉ F) : XS hp' X Bk tree lv top lp es G := by
  have hl := h.lt
  obtain ⟨⟨L, h1, h2⟩, h3, h4⟩ := h
  exact ⟨⟨L, k.get h1 (hG _ h2.mem), h2.stays fun x hx _ => k.2 x (hl x hx) (hG x hx)⟩, k.get h3 hB, h4⟩
section
variable {n : Nat} {hp : AHeap}
end
end Go.Proofs
/- Contracts: the entries that are read, one round each. -/
set_option linter.unusedVariables false
set_option linter.unusedSimpArgs false
namespace Go.Proofs
open Go Go.Abs
def preK (pre : Str) (lv : Int) (i : Nat) : Str := if 0 < i ∨ lv = 0 then pre else []
def pent (pre : Str) (lv : Int) (i : Nat) (s : Str) : Option (Entry × Str) := (pnum 1 s).bind fun k => (ptext k.1 k.2).bind fun t => pcont (preK pre lv i ++ t.1) lv t.2
def pents (pre : Str) (lv : Int) : Nat → Nat → Str → Option (List Entry × Str)
  | 0, _, s => some ([], s)
  | c + 1, i, s => (pent pre lv i s).bind fun e => (pents pre lv c (i + 1) e.2).map fun r => (e.1 :: r.1, r.2)
section
variable {n : Nat} {hp : AHeap} {b : Nat} {s : Str}
structure Clo (hp : AHeap) (N R LV PF b : Nat) (k : Nat) (lv : Int) (pre : Str) : Prop where
  cn : hp[N]? = some (.cells 0 (some 3) [i64 k] 0)
  cr : hp[R]? = some (.cells 0 (some 141) [.ptr b 0 0] 0)
  cl : hp[LV]? = some (.cells 0 (some 3) [i64 lv] 0)
  cp : hp[PF]? = some (.cells 0 (some 9) [.str pre] 0)
theorem Clo.stays {hp hp' : AHeap} {N R LV PF b : Nat} {k : Nat} {lv : Int} {pre : Str} {F : List Nat} (c : Clo hp N R LV PF b k lv pre) (h : Keep hp hp' F) (hn : N ∉ F ∧ R ∉ F ∧ LV ∉ F ∧ PF ∉ F) : Clo hp' N R LV PF b k lv pre :=
  ⟨h.get c.cn hn.1, h.get c.cr hn.2.1, h.get c.cl hn.2.2.1, h.get c.cp hn.2.2.2⟩
end
end Go.Proofs
/- Contracts: bodies of nodes that are read. -/
set_option linter.unusedVariables false
set_option linter.unusedSimpArgs false
namespace Go.Proofs
open Go Go.Abs
structure NodeP where
  tree : Nat
  lv : Nat
  top : Bool
  es : List Entry
def pnode (s : Str) : Option (NodeP × Str) :=
  (pnum 1 s).bind fun t => (pnum 1 t.2).bind fun l => (pnum 1 l.2).bind fun o => (pnum 1 o.2).bind fun z => (pnum 2 z.2).bind fun n => (ptext z.1 n.2).bind fun p => (ptext (2 * n.1) p.2).bind fun q => (pents p.1 l.1 n.1 0 q.2).map fun e => (⟨t.1, l.1, o.1 == 1, e.1⟩, e.2)
section
variable {n : Nat} {hp : AHeap} {b : Nat} {s : Str}
end
end Go.Proofs
/- Contracts: bodies of pieces and of lists that are read. -/
set_option linter.unusedVariables false
set_option linter.unusedSimpArgs false
namespace Go.Proofs
open Go Go.Abs
def ppiece (s : Str) : Option ((Nat × Str) × Str) := (pnum 4 s).bind fun a => (pnum 2 a.2).bind fun z => (ptext z.1 z.2).map fun d => ((a.1, d.1), d.2)
def ppages : Nat → Str → Option (List Nat × Str)
  | 0, s => some ([], s)
  | k + 1, s => (pnum 4 s).bind fun a => (ppages k a.2).map fun r => (a.1 :: r.1, r.2)
def pfreeds : Nat → Str → Option (List (Nat × List Nat) × Str)
  | 0, s => some ([], s)
  | k + 1, s => (pnum 6 s).bind fun v => (pnum 2 v.2).bind fun z => (ppages z.1 z.2).bind fun p => (pfreeds k p.2).map fun r => ((v.1, p.1) :: r.1, r.2)
def plist (s : Str) : Option ((Nat × List (Nat × List Nat)) × Str) := (pnum 4 s).bind fun a => (pnum 2 a.2).bind fun z => (pfreeds z.1 z.2).map fun d => ((a.1, d.1), d.2)
section
variable {n : Nat} {hp : AHeap} {b : Nat} {s : Str}
end
end Go.Proofs
/- Contracts: lists of freed pages that are read: the numbers of one. -/
set_option linter.unusedVariables false
set_option linter.unusedSimpArgs false
namespace Go.Proofs
open Go Go.Abs
def row1 (ps : List Nat) : List (List AV) := ps.map fun p : Nat => [i64 p]
/-- The numbers that stand in a block of their own. -/
structure PG (hp : AHeap) (X : Nat) (ver : Int) (ps : List Nat) (G : List Nat) : Prop where
  ex : ∃ L, hp[X]? = some (.cells 0 (some 165) [i64 ver, L] 0) ∧ GBuf 3 1 hp X L (row1 ps) G
theorem PG.lt {hp : AHeap} {X : Nat} {ver : Int} {ps : List Nat} {G : List Nat} (h : PG hp X ver ps G) : ∀ x ∈ G, x < hp.length := by
  obtain ⟨L, h1, h2⟩ := h.ex
  exact h2.lt (lt_of_get h1)
theorem PG.stays {hp hp' : AHeap} {X : Nat} {ver : Int} {ps : List Nat} {G F : List Nat} (h : PG hp X ver ps G) (k : Keep hp hp' F) (hG : ∀ x ∈ G, x ∉ F) : PG hp' X ver ps G := by
  have hl := h.lt
  obtain ⟨L, h1, h2⟩ := h.ex
  exact ⟨L, k.get h1 (hG _ h2.mem), h2.stays fun x hx _ => k.2 x (hl x hx) (hG x hx)⟩
section
variable {hp : AHeap} {b : Nat} {s : Str}
end
end Go.Proofs
/- Contracts: lists of freed pages that are read. -/
set_option linter.unusedVariables false
set_option linter.unusedSimpArgs false
namespace Go.Proofs
open Go Go.Abs
/-- A list of numbers in memory. -/
def Inr (h : AHeap) (ps : List Nat) (L : AV) (I : List Nat) : Prop := (L = .lst 0 [] true ∧ ps = []) ∨ ∃ eb ver frz, L = .sl 1 eb ver 0 ps.length ∧ h[eb]? = some (.cells ver (some 3) (ps.map fun p : Nat => i64 p) frz) ∧ eb ∈ I
theorem Inr.stays {h h' : AHeap} {ps : List Nat} {L : AV} {I I' : List Nat} (r : Inr h ps L I) (e : ∀ x ∈ I, h'[x]? = h[x]?) (hs : ∀ x ∈ I, x ∈ I') : Inr h' ps L I' := by
  rcases r with r | ⟨eb, ver, frz, r1, r2, r3⟩
  · exact .inl r
  · exact .inr ⟨eb, ver, frz, r1, by rw [e eb r3]; exact r2, hs eb r3⟩
theorem Inr.scal {h : AHeap} {ps : List Nat} {L : AV} {I : List Nat} (r : Inr h ps L I) : AV.scal L = true := by
  rcases r with ⟨rfl, _⟩ | ⟨eb, ver, frz, rfl, _⟩ <;> rfl
theorem row1_flat : ∀ ps : List Nat, (row1 ps).flatten = ps.map fun p : Nat => i64 p
  | [] => rfl
  | p :: r => by
    have := row1_flat r
    simp only [row1, List.map_cons, List.flatten_cons] at this ⊢
    rw [this]; rfl
theorem GBuf.inr {h : AHeap} {X : Nat} {L : AV} {ps : List Nat} {G : List Nat} (g : GBuf 3 1 h X L (row1 ps) G) : Inr h ps L G := by
  rcases g.2 with ⟨h1, h2, h3⟩ | ⟨eb, ver, frz, h1, h2, h3, h4, h5⟩
  · left
    refine ⟨h1, ?_⟩
    cases ps with
    | nil => rfl
    | cons a r => simp [row1] at h2
  · right
    refine ⟨eb, ver, frz, ?_, ?_, by rw [h5]; simp⟩
    · rw [h1]; simp [row1]
    · rw [h2, row1_flat]
abbrev FT : Type := Nat × List Nat × AV
def rowF (t : FT) : List AV := [i64 t.1, t.2.2]
/-- A list of freed pages in memory: the slice, the lists in it. -/
structure LV (h : AHeap) (Y : Nat) (LL : AV) (ts : List FT) (G I : List Nat) : Prop where
  buf : GBuf 165 2 h Y LL (ts.map rowF) G
  inr : ∀ t ∈ ts, Inr h t.2.1 t.2.2 I
theorem LV.stays {h h' : AHeap} {Y : Nat} {LL : AV} {ts : List FT} {G I : List Nat} (v : LV h Y LL ts G I) (e : ∀ x ∈ G, x ≠ Y → h'[x]? = h[x]?) (ei : ∀ x ∈ I, h'[x]? = h[x]?) : LV h' Y LL ts G I :=
  ⟨v.buf.stays e, fun t ht => (v.inr t ht).stays ei fun _ h => h⟩
section
variable {hp : AHeap} {b : Nat} {s : Str}
end
end Go.Proofs
/- Contracts: bodies of lists that are read. -/
set_option linter.unusedVariables false
set_option linter.unusedSimpArgs false
namespace Go.Proofs
open Go Go.Abs
section
variable {n : Nat} {hp : AHeap} {b : Nat} {s : Str}
end
end Go.Proofs
/- What is read, taken out of its memory. -/
set_option linter.unusedVariables false
set_option linter.unusedSimpArgs false
namespace Go.Proofs
open Go Go.Abs
theorem chunk_rows {sz : Nat} : ∀ {rows : List (List AV)}, (∀ r ∈ rows, r.length = sz) → chunk sz rows.length rows.flatten = rows
  | [], _ => rfl
  | a :: r, h => by
    have h1 := h a (List.mem_cons_self ..)
    show (a ++ r.flatten).take sz :: chunk sz r.length ((a ++ r.flatten).drop sz) = _
    rw [← h1, List.take_left', List.drop_left']
    · rw [h1, chunk_rows fun x hx => h x (List.mem_cons_of_mem _ hx)]
    · rfl
    · rfl
theorem rows_len {sz : Nat} : ∀ {rows : List (List AV)}, (∀ r ∈ rows, r.length = sz) → rows.flatten.length = rows.length * sz
  | [], _ => by simp
  | a :: r, h => by
    have h1 := h a (List.mem_cons_self ..)
    have h2 := rows_len fun x hx => h x (List.mem_cons_of_mem _ hx)
    simp only [List.flatten_cons, List.length_append, List.length_cons, h1, h2]
    rw [Nat.add_mul]; omega
theorem frz_sl {h : AHeap} {n sz eb ver frz : Nat} {el : Option TypeId} {rows rows' : List (List AV)} (hz : sz ≠ 1) (hb : h[eb]? = some (.cells ver el rows.flatten frz)) (hr : ∀ r ∈ rows, r.length = sz) (ha : allM (Abs.frz h n) rows.flatten = some rows'.flatten)
    (hr' : ∀ r ∈ rows', r.length = sz ∧ r.all AV.scal = true) (hl : rows'.length = rows.length) : Abs.frz h (n + 1) (.sl sz eb ver 0 rows.length) = some (.lst sz (rows'.map .agg) false) := by
  unfold Abs.frz
  simp only [hb]
  have hlen := rows_len hr
  rw [if_pos ⟨trivial, by rw [hlen]; omega⟩]
  have h1 : (rows.flatten.drop 0).take (rows.length * sz) = rows.flatten := by rw [List.drop_zero]; exact List.take_of_length_le (by rw [hlen]; exact Nat.le_refl _)
  rw [h1, ha]
  simp only
  have h2 := (flatten_len hr').2
  rw [if_pos h2]
  unfold elemsA
  rw [if_neg hz]
  have e : isAggD (TypeDesc.struct #[]) = true := rfl
  simp only [e, if_true]
  rw [← hl, chunk_rows fun r hm => (hr' r hm).1]
def FreedIs (f : Freed) (t : Nat × List Nat) : Prop := f.ver = t.1 ∧ f.pages = t.2.map (fun p : Nat => (p : Int)) ∧ f.Ok
inductive FsAre : List Freed → List (Nat × List Nat) → Prop
  | nil : FsAre [] []
  | cons {f : Freed} {t : Nat × List Nat} {fs : List Freed} {ts : List (Nat × List Nat)} (h : FreedIs f t) (r : FsAre fs ts) : FsAre (f :: fs) (t :: ts)
theorem FsAre.length_eq : ∀ {fs : List Freed} {ts : List (Nat × List Nat)}, FsAre fs ts → fs.length = ts.length
  | _, _, .nil => rfl
  | _, _, .cons _ r => by simp [r.length_eq]
section
variable {n : Nat} {f : FuncId} {rc : RC} {args : List AV} {np nt d : Nat} {rs : List ResultVar}
/-- A function in a memory of its own: it ends somehow. -/
theorem fun_pureX {S : CRes → Prop} (F : FunIs Tryz.prog cfg0.inl f np nt d rs rc) (hi : cfg0.inl f = false) (hs : cfg0.sum f args = none) (hl : args.length = np) (hp : pureBs args = true)
    (W : Wp Tryz.prog (C n) cfg0.inl KK nt d rc ⟨paramL 0 args, [], []⟩ (EndQ Tryz.prog (C n) cfg0.inl rs (fun r h => ∃ r', OutR r' r h ∧ S r'))) : ∃ r', (∀ h, C (n + 1) f args h = some (r', h)) ∧ S r' := by
  obtain ⟨r, h', h1, r', ho, h2⟩ := body_wp2 F hl W
  have hlt : f < Tryz.prog.funcs.size := by
    obtain ⟨fn, hfn, _⟩ := F.fn
    rcases Nat.lt_or_ge f Tryz.prog.funcs.size with h | h
    · exact h
    · rw [Array.getElem?_eq_none h] at hfn; cases hfn
  refine ⟨r', fun h => ?_, h2⟩
  show CN _ _ _ _ _ _ = _
  unfold CN callN
  simp only [hi, hs, Bool.false_eq_true, if_false, hp, hlt, decide_true, Bool.and_self, if_true]
  unfold pureA
  change bodyA _ (callN _ _ _ _ _) (drawA _ _ (callN _ _ _ _ _)) _ _ _ _ = _ at h1
  rw [h1]
  cases r with
  | ret v => obtain ⟨w, e1, e2⟩ := ho; subst e2; simp only [CRes.map?, e1, Option.map_some]
  | pan v => obtain ⟨w, e1, e2⟩ := ho; subst e2; simp only [CRes.map?, e1, Option.map_some]
end
end Go.Proofs
/- Slices that grow, held by a variable. -/
set_option linter.unusedVariables false
set_option linter.unusedSimpArgs false
namespace Go.Proofs
open Go Go.Abs
theorem apI {h : AHeap} {e : TypeId} {sz : Nat} {a b v : AV} {h' : AHeap} {K : AV → AHeap → Prop} (h1 : appR h e sz a b = some (v, some h')) (h2 : K v h') : ∃ r, appR h e sz a b = r ∧ WpA K h r := ⟨_, h1, h2⟩
/-- A slice that grows, held by a variable: its rows of cells. -/
def VBuf (el : TypeId) (sz : Nat) (hp : AHeap) (L : AV) (rows : List (List AV)) : Prop :=
  (∀ r ∈ rows, r.length = sz ∧ r.all AV.scal = true) ∧ ((L = .lst 0 [] true ∧ rows = []) ∨ (∃ eb ver frz, L = .sl sz eb ver 0 rows.length ∧ hp[eb]? = some (.cells ver (some el) rows.flatten frz) ∧ frz ≤ rows.flatten.length))
theorem VBuf.nil {el sz : Nat} {hp : AHeap} : VBuf el sz hp (.lst 0 [] true) [] := ⟨by simp, .inl ⟨rfl, rfl⟩⟩
theorem VBuf.scal {el sz : Nat} {hp : AHeap} {L : AV} {rows : List (List AV)} (b : VBuf el sz hp L rows) : L.scal = true ∧ L.cells? = some [L] := by
  rcases b.2 with ⟨rfl, _⟩ | ⟨eb, ver, frz, rfl, _⟩ <;> exact ⟨rfl, rfl⟩
theorem VBuf.grow {el sz : Nat} {hp : AHeap} {L : AV} {rows : List (List AV)} (b : VBuf el sz hp L rows) (xs : AHeap) : VBuf el sz (hp ++ xs) L rows := by
  refine ⟨b.1, ?_⟩
  rcases b.2 with h | ⟨eb, ver, frz, h1, h2, h3⟩
  · exact .inl h
  · exact .inr ⟨eb, ver, frz, h1, by rw [List.getElem?_append_left (lt_of_get h2)]; exact h2, h3⟩
/-- What lies elsewhere may change. -/
theorem VBuf.set {el sz : Nat} {hp : AHeap} {L : AV} {rows : List (List AV)} (b : VBuf el sz hp L rows) {k : Nat} (x : AB) (hk : ∀ eb ver, L ≠ .sl sz eb ver 0 rows.length ∨ eb ≠ k) : VBuf el sz (hp.set k x) L rows := by
  refine ⟨b.1, ?_⟩
  rcases b.2 with h | ⟨eb, ver, frz, h1, h2, h3⟩
  · exact .inl h
  · refine .inr ⟨eb, ver, frz, h1, ?_, h3⟩
    rcases hk eb ver with q | q
    · exact (q h1).elim
    · rw [List.getElem?_set_ne (Ne.symm q)]; exact h2
theorem VBuf.fresh {el sz : Nat} {hp : AHeap} {L : AV} {rows : List (List AV)} (b : VBuf el sz hp L rows) {k : Nat} (x : AB) (hk : hp.length ≤ k) (xs : AHeap) : VBuf el sz ((hp ++ xs).set k x) L rows := by
  refine ⟨b.1, ?_⟩
  rcases b.2 with h | ⟨eb, ver, frz, h1, h2, h3⟩
  · exact .inl h
  · refine .inr ⟨eb, ver, frz, h1, ?_, h3⟩
    have := lt_of_get h2
    rw [List.getElem?_set_ne (by omega), List.getElem?_append_left this]; exact h2
theorem vbuf_app {el sz : Nat} {hp : AHeap} {L x : AV} {rows : List (List AV)} {row : List AV} (hB : VBuf el sz hp L rows) (h1 : lenA x = some 1) (h2 : firstA hp sz 1 x = some row) (hr : row.length = sz ∧ row.all AV.scal = true) (hl : rows.length + 1 ≤ 1073741824) :
    ∃ v hp', appR hp el sz L x = some (v, some hp') ∧ VBuf el sz hp' v (rows ++ [row]) ∧ hp.length ≤ hp'.length := by
  have hrows : ∀ r ∈ rows ++ [row], r.length = sz ∧ r.all AV.scal = true := by
    intro r hm
    simp at hm
    rcases hm with hm | rfl
    · exact hB.1 r hm
    · exact hr
  unfold appR
  rw [h1]
  simp only
  rw [h2]
  simp only [hr.2, Bool.not_true, Bool.false_eq_true, if_false]
  rcases hB.2 with ⟨rfl, rfl⟩ | ⟨bb, ver, frz, rfl, g1, g3⟩
  · simp only
    rw [if_neg (by decide)]
    have h3 : firstA hp sz ([] : List AV).length (.lst 0 [] true) = some [] := by
      unfold firstA
      simp
    rw [h3]
    simp only [List.length_nil, Nat.zero_add]
    rw [if_pos ⟨by decide, rfl⟩]
    exact ⟨_, _, rfl, ⟨hrows, .inr ⟨hp.length, 0, 0, rfl, by simp, Nat.zero_le _⟩⟩, by simp⟩
  · have hf := flatten_len hB.1
    simp only
    rw [g1]
    simp only
    rw [if_pos ⟨.inl trivial, trivial, trivial, trivial, hf.1.symm, hf.2, hl, g3⟩, if_neg (by decide)]
    refine ⟨_, _, rfl, ⟨hrows, .inr ⟨bb, ver + 1, frz, by simp, ?_, by rw [List.flatten_append, List.length_append]; omega⟩⟩, by simp⟩
    rw [List.getElem?_set_self (lt_of_get g1)]; simp
theorem vflatten_ones : ∀ xs : List AV, (xs.map fun x => [x]).flatten = xs
  | [] => rfl
  | a :: r => by simp [vflatten_ones r]
theorem vfirst_one (h : AHeap) {x : AV} {c : Bool} (hs : x.cells? = some [x]) : firstA h 1 1 (.lst 1 [x] c) = some [x] := by
  unfold firstA
  simp only
  rw [if_pos ⟨Nat.le_refl _, .inl trivial⟩]
  simp [hs]
/-- A slice of one-celled elements, taken out of its memory. -/
theorem vbuf_frz {el : TypeId} {hp : AHeap} {L : AV} {xs : List AV} {n : Nat} (b : VBuf el 1 hp L (xs.map fun x => [x])) (hx : ∀ x ∈ xs, Abs.frz hp n x = some x) : ∃ sh : Sh, Abs.frz hp (n + 1) L = some (.lst sh.sz xs sh.c) ∧ (xs ≠ [] → sh.sz = 1) := by
  rcases b.2 with ⟨rfl, h2⟩ | ⟨eb, ver, frz, rfl, h2, _⟩
  · have : xs = [] := by simpa using h2
    subst this
    exact ⟨⟨0, true⟩, rfl, fun h => (h rfl).elim⟩
  · refine ⟨⟨1, false⟩, ?_, fun _ => rfl⟩
    rw [vflatten_ones] at h2
    unfold Abs.frz
    simp only [h2, List.length_map]
    rw [if_pos ⟨trivial, by omega⟩]
    have h1 : (xs.drop 0).take (xs.length * 1) = xs := by rw [List.drop_zero]; exact List.take_of_length_le (by omega)
    rw [h1, allM_id hx]
    simp only
    have hs : xs.all AV.scal = true := by
      rw [List.all_eq_true]
      intro x hm
      have := (b.1 [x] (List.mem_map.2 ⟨x, hm, rfl⟩)).2
      simpa using this
    rw [if_pos hs]
    rfl
theorem app_ints (h : AHeap) (l : List Int) (c : Bool) (hne : l ≠ []) (hl : l.length ≤ 1073741824) : appR h 3 1 (.lst 1 [] true) (.lst 1 (l.map i64) c) = some (.sl 1 h.length 0 0 l.length, some (h ++ [.cells 0 (some 3) (l.map i64) 0])) := by
  have hn : l.length ≠ 0 := fun e => hne (List.length_eq_zero_iff.1 e)
  have h5 : (l.map i64).all AV.scal = true := by
    rw [List.all_eq_true]; intro x hx; obtain ⟨k, _, rfl⟩ := List.mem_map.1 hx; rfl
  unfold appR
  have h1 : lenA (.lst 1 (l.map i64) c) = some l.length := by simp [lenA]
  rw [h1]
  simp only
  have h3 : firstA h 1 l.length (.lst 1 (l.map i64) c) = some (l.map i64) := by
    unfold firstA
    simp only [List.length_map]
    rw [if_pos ⟨Nat.le_refl _, .inl trivial⟩]
    have h1 : (l.map i64).take l.length = l.map i64 := List.take_of_length_le (by simp)
    rw [h1]
    have h2 : (l.map i64).map AV.cells? = l.map fun e => some [i64 e] := by rw [List.map_map]; rfl
    rw [h2]
    rw [if_pos (by rw [List.all_eq_true]; intro x hx; obtain ⟨e, _, rfl⟩ := List.mem_map.1 hx; rfl)]
    congr 1
    rw [List.flatMap_map]
    have : ∀ l : List Int, (l.flatMap fun e => (some [i64 e]).getD []) = l.map i64 := fun l => by
      induction l with
      | nil => rfl
      | cons a r ih => simp [List.flatMap_cons] at ih ⊢; exact ih
    exact this l
  rw [h3]
  simp only
  rw [if_neg (by simp [h5]), if_neg hn]
  have h2 : firstA h 1 ([] : List AV).length (.lst 1 [] true) = some [] := rfl
  rw [h2]
  simp only
  rw [if_pos ⟨by simpa using hl, rfl⟩]
  simp
end Go.Proofs
/- Contracts of functions of a page: weights of lists. -/
set_option linter.unusedVariables false
set_option linter.unusedSimpArgs false
namespace Go.Proofs
open Go Go.Abs
section
variable {n : Nat} {h : AHeap}

end
end Go.Proofs
/- Contracts of functions of a page: valid entries. -/
set_option linter.unusedVariables false
set_option linter.unusedSimpArgs false
namespace Go.Proofs
open Go Go.Abs
instance : Inhabited Entry := ⟨⟨[], [], 0, 0, 0, 0, Dg.zero⟩⟩

def keyAt (l : List Entry) (j : Nat) : Str := (l.getD j default).key
/-- An entry is valid, behind those in front of it. -/
def vAt (lv : Int) (l : List Entry) (j : Nat) : Bool :=
  (if lv = 0 then formOf (l.getD j default) != 0 else branches (l.getD j default) && (j == 0 || keyAt l j != [])) && (j == 0 || decide (cmpS (keyAt l (j - 1)) (keyAt l j) < 0))
def valid (l : List Entry) (lv : Int) : Bool :=
  within lv 0 20 && l != [] && (lv == 0 || (decide (2 ≤ l.length) && keyAt l 0 == [])) && (List.range l.length).all (vAt lv l)

section
variable {n : Nat} {h : AHeap}
end
end Go.Proofs
/- Contracts: numbers of pages. -/
set_option linter.unusedVariables false
set_option linter.unusedSimpArgs false
namespace Go.Proofs
open Go Go.Abs
/-- A call that is known in memory. -/
theorem fun_mem {n : Nat} {f : FuncId} {args : List AV} {h h' : AHeap} {v : AV} (hi : cfg0.inl f = true) (hlt : f < Tryz.prog.funcs.size) (hm : cfg0.mem f args h = some (v, h')) : C (n + 1) f args h = some (.ret v, h') := by
  show CN _ _ _ _ _ _ = _
  unfold CN callN
  simp only [hi, if_true, hm]
  rw [if_neg (Nat.not_le.2 hlt)]
section
variable {n : Nat} {h hp : AHeap} {l : List Int}
theorem sortN_eq (hn : 1 ≤ n) {b : Nat} (hl : l.length < 4611686018427387904) (hb : hp[b]? = some (.cells 0 (some 3) (l.map i64) 0)) : C n 130 [.sl 1 b 0 0 l.length] hp = some (.ret (.tup []), hp.set b (.cells 0 (some 3) ((sortZ l).map i64) 0)) := by
  obtain ⟨m, rfl⟩ : ∃ m, n = m + 1 := ⟨n - 1, by omega⟩
  refine fun_mem (by kernel_rfl) (of_decide_eq_true (by kernel_rfl)) ?_
  refine Eq.trans (show cfg0.mem 130 [.sl 1 b 0 0 l.length] hp = sortA [.sl 1 b 0 0 l.length] hp from rfl) ?_
  unfold sortA
  simp only [hb]
  rw [map_ints]
  simp only
  rw [if_pos ⟨trivial, trivial, hl⟩]
theorem compN_eq (hn : 1 ≤ n) {b : Nat} (hl : l.length < 4611686018427387904) (hb : hp[b]? = some (.cells 0 (some 3) (l.map i64) 0)) : ∃ hp', C n 131 [.sl 1 b 0 0 l.length] hp = some (.ret (.sl 1 b 0 0 (Lib.compact l).length), hp') ∧ hp' = hp.set b (.cells 0 (some 3) ((Lib.compact l ++ List.replicate (l.length - (Lib.compact l).length) 0).map i64) 0) := by
  obtain ⟨m, rfl⟩ : ∃ m, n = m + 1 := ⟨n - 1, by omega⟩
  refine ⟨_, fun_mem (by kernel_rfl) (of_decide_eq_true (by kernel_rfl)) ?_, rfl⟩
  refine Eq.trans (show cfg0.mem 131 [.sl 1 b 0 0 l.length] hp = compA [.sl 1 b 0 0 l.length] hp from rfl) ?_
  unfold compA
  simp only [hb]
  rw [map_ints]
  simp only
  rw [if_pos ⟨trivial, trivial, hl⟩]
theorem sort0_eq (hn : 1 ≤ n) (sz : Nat) (c : Bool) : C n 130 [.lst sz [] c] hp = some (.ret (.tup []), hp) := by
  obtain ⟨m, rfl⟩ : ∃ m, n = m + 1 := ⟨n - 1, by omega⟩
  exact fun_mem (by kernel_rfl) (of_decide_eq_true (by kernel_rfl)) (show cfg0.mem 130 [.lst sz [] c] hp = some (.tup [], hp) from rfl)
theorem comp0_eq (hn : 1 ≤ n) (sz : Nat) (c : Bool) : C n 131 [.lst sz [] c] hp = some (.ret (.lst sz [] c), hp) := by
  obtain ⟨m, rfl⟩ : ∃ m, n = m + 1 := ⟨n - 1, by omega⟩
  exact fun_mem (by kernel_rfl) (of_decide_eq_true (by kernel_rfl)) (show cfg0.mem 131 [.lst sz [] c] hp = some (.lst sz [] c, hp) from rfl)
theorem clone0_eq (hn : 1 ≤ n) (sz : Nat) (c : Bool) : C n 102 [.lst sz [] c] hp = some (.ret (.lst 1 [] true), hp) := by
  obtain ⟨m, rfl⟩ : ∃ m, n = m + 1 := ⟨n - 1, by omega⟩
  exact fun_mem (by kernel_rfl) (of_decide_eq_true (by kernel_rfl)) (show cfg0.mem 102 [.lst sz [] c] hp = some (.lst 1 [] true, hp) from rfl)
theorem cloneN_eq (hn : 1 ≤ n) (hne : l ≠ []) (hl : l.length < 1073741824) (c : Bool) : C n 102 [.lst 1 (l.map i64) c] hp = some (.ret (.sl 1 hp.length 0 0 l.length), hp ++ [.cells 0 (some 3) (l.map i64) 0]) := by
  obtain ⟨m, rfl⟩ : ∃ m, n = m + 1 := ⟨n - 1, by omega⟩
  obtain ⟨a, r, rfl⟩ : ∃ a r, l = a :: r := by cases l with | nil => exact (hne rfl).elim | cons a r => exact ⟨a, r, rfl⟩
  refine fun_inl F102 rfl rfl ?_
  conv => whnf
  refine rawI (v := .bool false) (h' := hp) (by rfl) (by kernel_rfl) ?_
  conv => whnf
  refine ⟨rfl, ?_⟩
  conv => whnf
  refine apI (app_ints hp (a :: r) c hne (by omega)) ?_
  conv => whnf
  exact ⟨rfl, _, rfl, rfl, rfl⟩
theorem numbers1_eq (hn : 3 ≤ n) (k : Int) : C n 133 [i64 k] h = some (.ret (.bool (!numbered k)), h) := by
  obtain ⟨m, rfl⟩ : ∃ m, n = m + 1 := ⟨n - 1, by omega⟩
  refine fun_pure F133 rfl rfl rfl rfl ?_
  conv => whnf
  refine clI (numbered_eq (by omega) k) ?_
  conv => whnf
  exact retP rfl (frz_bool rfl)
/-- Where the first number lies that is none of a page. -/
def idxBad (l : List Int) : Int := if l.all numbered then -1 else ((l.findIdx fun k => !numbered k : Nat) : Int)
theorem idxBad_iff (l : List Int) : 0 ≤ idxBad l ↔ l.all numbered = false := by
  unfold idxBad
  cases l.all numbered <;> simp
theorem ints_pure (l : List Int) {sz : Nat} {c : Bool} {r : List AV} (hr : pureBs r = true) : pureBs (.lst sz (l.map i64) c :: r) = true := pure_lst (f := i64) (fun _ => rfl) l hr
theorem idx_eq (hn : 4 ≤ n) (l : List Int) (hl : l.length < 1099511627776) (sz : Nat) (hz : l ≠ [] → sz = 1) (c : Bool) : C n 164 [.lst sz (l.map i64) c, .fn (.func 133) [] []] h = some (.ret (i64 (idxBad l)), h) := by
  obtain ⟨m, rfl⟩ : ∃ m, n = m + 1 := ⟨n - 1, by omega⟩
  have cF : ∀ (k : Int) h, C m 133 [i64 k] h = some (.ret (.bool (!numbered k)), h) := fun k h => numbers1_eq (by omega) k
  have fine : fnOk Tryz.prog 133 = true := by kernel_rfl
  refine fun_pure F164 rfl rfl rfl (ints_pure l rfl) ?_
  conv => whnf
  refine loopI (by decide) rfl (α := Nat) (fun x => ⟨[(0, .lst sz (l.map i64) c), (1, .fn (.func 133) [] []), (7, i64 l.length), (8, i64 x)], [], []⟩)
    (fun x => x ≤ l.length ∧ ∀ i (hi : i < l.length), i < x → numbered l[i] = true) (fun x => l.length - x) 0 ⟨⟨rfl, rfl, lenI _ _, rfl⟩, rfl, rfl⟩ ⟨Nat.zero_le _, fun i _ hi => absurd hi (Nat.not_lt_zero _)⟩ (by show l.length - 0 < KK; simp only [KK]; omega) ?_
  rintro j ⟨g1, g2⟩
  conv => whnf
  refine brd (fun a => ?_) (fun a => ?_)
  · have hj : j < l.length := by omega
    have hne : l ≠ [] := by rintro rfl; simp at hj
    conv => whnf
    refine ⟨by omega, hz hne, i64 l[j], by simp [hj], [i64 l[j]], rfl, ?_⟩
    conv => whnf
    refine cvI fine (cF l[j] _) ?_
    conv => whnf
    refine brn (fun d => ?_) (fun d => ?_)
    · conv => whnf
      refine retP rfl (frz_int ?_)
      have h1 : l.all numbered = false := by
        rw [List.all_eq_false]
        exact ⟨l[j], List.getElem_mem hj, by simp [d]⟩
      have h2 : (l.findIdx fun k => !numbered k) = j := by
        rw [List.findIdx_eq hj]
        exact ⟨by simp [d], fun i hi => by simp [g2 i (by omega) hi]⟩
      unfold idxBad
      rw [h1, h2]
      rfl
    · conv => whnf
      refine zI (z := ((j + 1 : Nat) : Int)) (by rw [wrap_i64 (by omega) (by omega)]; rfl) ?_
      refine nxI (j + 1) ⟨hj, fun i hi hij => ?_⟩ (by omega) ⟨⟨rfl, rfl, rfl, rfl⟩, rfl, rfl⟩
      by_cases e : i = j
      · subst e; exact d
      · exact g2 i hi (by omega)
  · have hj : j = l.length := by omega
    conv => whnf
    refine cutI (by decide) rfl (t := ⟨[], [], []⟩) ⟨trivial, rfl, rfl⟩ ?_
    conv => whnf
    refine retP rfl (frz_int ?_)
    have h1 : l.all numbered = true := by
      rw [List.all_eq_true]
      intro x hx
      obtain ⟨i, hi, rfl⟩ := List.mem_iff_getElem.1 hx
      exact g2 i hi (by omega)
    unfold idxBad
    rw [h1]
    rfl
theorem contains_eq (hn : 5 ≤ n) (l : List Int) (hl : l.length < 1099511627776) (sz : Nat) (hz : l ≠ [] → sz = 1) (c : Bool) : C n 132 [.lst sz (l.map i64) c, .fn (.func 133) [] []] h = some (.ret (.bool (!l.all numbered)), h) := by
  obtain ⟨m, rfl⟩ : ∃ m, n = m + 1 := ⟨n - 1, by omega⟩
  refine fun_pure F132 rfl rfl rfl (ints_pure l rfl) ?_
  conv => whnf
  refine clI (idx_eq (by omega) l hl sz hz c) ?_
  conv => whnf
  refine retP rfl (frz_bool ?_)
  rw [Bool.eq_iff_iff]
  simp only [decide_eq_true_eq, ge_iff_le]
  rw [idxBad_iff]
  cases l.all numbered <;> simp
/-- Numbers of pages are different ones, and a version is one. -/
def numsOk (l : List Int) (v : Int) : Bool := decide l.Nodup && (l.all numbered && within v 0 1099511627776)
theorem numbers_eq (hn : 6 ≤ n) (l : List Int) (hl : l.length < 1073741824) (sz : Nat) (hz : l ≠ [] → sz = 1) (c : Bool) (v : Int) : C n 92 [.lst sz (l.map i64) c, i64 v] h = some (.ret (.bool (numsOk l v)), h) := by
  obtain ⟨m, rfl⟩ : ∃ m, n = m + 1 := ⟨n - 1, by omega⟩
  have cC : ∀ h, C m 132 [.lst sz (l.map i64) c, .fn (.func 133) [] []] h = some (.ret (.bool (!l.all numbered)), h) := fun h => contains_eq (by omega) l (by omega) sz hz c
  have cW : ∀ h, C m 71 [i64 v, i64 0, i64 1099511627776] h = some (.ret (.bool (within v 0 1099511627776)), h) := fun h => within_eq (by omega) _ _ _
  refine fun_pure F92 rfl rfl rfl (ints_pure l rfl) ?_
  conv => whnf
  by_cases hne : l = []
  · subst hne
    refine clI (clone0_eq (by omega) sz c) ?_
    conv => whnf
    refine clI (sort0_eq (by omega) 1 true) ?_
    conv => whnf
    refine clI (comp0_eq (by omega) 1 true) ?_
    conv => whnf
    refine clI (cC _) ?_
    conv => whnf
    refine clI (cW _) ?_
    conv => whnf
    refine retP rfl (frz_bool ?_)
    simp [numsOk]
  · have hs := hz hne
    subst hs
    have e0 := numbers_nodup l
    obtain ⟨hp', e3, _⟩ := compN_eq (n := m) (by omega) (l := sortZ l) (b := 0) (hp := [.cells 0 (some 3) ((sortZ l).map i64) 0]) (by rw [sortZ_len]; omega) rfl
    rw [sortZ_len] at e3
    refine clI (cloneN_eq (hp := []) (by omega) hne hl c) ?_
    conv => whnf
    refine clI (sortN_eq (b := 0) (hp := [.cells 0 (some 3) (l.map i64) 0]) (by omega) (by omega) rfl) ?_
    conv => whnf
    refine clI e3 ?_
    conv => whnf
    refine bre (fun a => ?_) (fun a => ?_)
    · have hd : l.Nodup := e0.1 (by simp only [List.length_map] at a; omega)
      conv => whnf
      refine clI (cC _) ?_
      conv => whnf
      refine brn (fun q => ?_) (fun q => ?_)
      · rw [Bool.not_eq_false'] at q
        conv => whnf
        refine clI (cW _) ?_
        conv => whnf
        refine retP rfl (frz_bool ?_)
        simp [numsOk, hd, q]
      · rw [Bool.not_eq_true'] at q
        conv => whnf
        refine retP rfl (frz_bool ?_)
        simp [numsOk, hd, q]
    · have hd : ¬ l.Nodup := fun q => a (by rw [e0.2 q, List.length_map])
      conv => whnf
      refine retP rfl (frz_bool ?_)
      simp [numsOk, hd]
end
end Go.Proofs
/- Contracts: a long value in pieces. -/
set_option linter.unusedVariables false
set_option linter.unusedSimpArgs false
namespace Go.Proofs
open Go Go.Abs
section
variable {n : Nat} {h : AHeap}
end
end Go.Proofs
