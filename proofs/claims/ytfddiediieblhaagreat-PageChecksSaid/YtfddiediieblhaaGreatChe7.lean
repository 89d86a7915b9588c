/- Texts put together: T0, Xa, Ea, Ra, Wa, Ta, Sa. -/
import Derived.Test.YtfddiediieblhaaGreatChe6
import Derived.Test.YtfddiediieblhaaGreatProg
import Derived.KernelRfl
/- Which functions work in their caller's memory. -/
namespace Go.Proofs
open Go Go.Abs
def inlL : List Nat := [56, 57, 59, 61, 63, 108, 111, 148, 217, 218, 219, 220, 221, 86, 78, 123, 189, 119, 152, 170, 171, 118, 120, 121, 122, 153]
def inl0 : FuncId → Bool := fun f => inlL.contains f || decide (223 ≤ f)
abbrev mV (d a : Nat) : RI := ⟨some d, none, .op (.mv (.t a))⟩
abbrev oP (d : Nat) (x : RO) : RI := ⟨some d, none, .op x⟩
abbrev oG (d g : Nat) (b : Bool) (x : RO) : RI := ⟨some d, some (g, b), .op x⟩
abbrev oU (x : RO) : RI := ⟨none, none, .op x⟩
abbrev FI := FunIs Tryz.prog inl0
abbrev DefI := DefIs Tryz.prog inl0
end Go.Proofs
/- The looked-up text of the functions. -/
namespace Go.Proofs
open Go Go.Abs
/- f3 understory/understorylaw04.PageChecks: 71 temporaries, depth 7, 2 parameters, results [t4] -/
def c3 : RC :=
 (.seq (.ops [(oP 2 (.box 25 (.t 0))),
 (oP 4 (.mv (.c (.bool false))))])
 (.seq (.ops [(oP 13 (.callF 9 [])),
 (mV 5 13)])
 (.seq (.seq (.ops [(oP 14 (.load true 10 (.t 2))),
 (oP 15 (.mkLst 10 true 1 [(.int .i64 0), (.int .i64 0), (.int .i64 0), (.int .i64 0), (.int .i64 0), (.bool false), (.lst 0 [] true), (.int .i64 0), (.str []), (.lst 0 [] true)] [(0, 10, (.t 14))])),
 (oP 16 (.callF 10 [(.t 15)])),
 (oP 17 (.un .not (.t 16))),
 (mV 18 17),
 (oG 19 18 false (.mv (.t 1))),
 (oG 20 18 false (.lenS (.t 19))),
 (oG 21 18 false (.bin .gtr (.t 20) (.c (.int .i64 600)))),
 (oP 22 (.pick (.t 18) (.c (.bool true)) (.t 21)))])
 (.cond (.t 22)
 (.seq (.ops [(mV 23 5),
 (mV 4 23)])
 .ret)
 .skip))
 (.seq (.ops [(oP 6 (.mv (.c (.int .i64 2))))])
 (.seq (.seq (.ops [(oP 24 (.load true 10 (.t 2))),
 (oP 25 (.callF 11 [(.t 24)]))])
 (.cond (.t 25)
 (.ops [(oP 6 (.mv (.c (.int .i64 0))))])
 .skip))
 (.seq (.ops [(oP 27 (.load true 10 (.t 2))),
 (oP 28 (.callF 12 [(.t 27)])),
 (mV 26 28),
 (oP 29 (.extract (.t 26) 0)),
 (oP 30 (.extract (.t 26) 1)),
 (mV 7 29),
 (mV 8 30)])
 (.seq (.ops [(oP 31 (.load true 10 (.t 2))),
 (oP 32 (.callF 13 [(.t 31)])),
 (oP 9 (.alloc 33 [(.str []), (.int .i64 0)])),
 (oU (.store 2 (.t 9) (.t 32)))])
 (.seq (.ops [(mV 34 1),
 (oP 35 (.callF 14 [(.t 34)])),
 (mV 33 35),
 (oP 36 (.extract (.t 33) 0)),
 (oP 37 (.extract (.t 33) 1)),
 (oP 10 (.alloc 25 [(.int .i64 0), (.int .i64 0), (.int .i64 0), (.int .i64 0), (.int .i64 0), (.bool false), (.lst 0 [] true), (.int .i64 0), (.str []), (.lst 0 [] true)])),
 (oU (.store 10 (.t 10) (.t 36))),
 (mV 11 37)])
 (.seq (.ops [(mV 38 1),
 (oP 39 (.callF 15 [(.t 38)])),
 (oP 12 (.alloc 38 [(.int .i64 0), (.int .i64 0), (.int .i64 0), (.int .i64 0), (.int .i64 0), (.bool false), (.lst 0 [] true), (.int .i64 0), (.str []), (.lst 0 [] true), (.int .i64 0)])),
 (oU (.store 11 (.t 12) (.t 39)))])
 (.seq (.ops [(mV 40 5),
 (mV 41 40),
 (oG 42 41 true (.load true 10 (.t 2))),
 (oG 43 41 true (.callF 16 [(.t 42)])),
 (oG 44 41 true (.mv (.t 6))),
 (oG 45 41 true (.bin .eql (.t 43) (.t 44))),
 (oP 46 (.pick (.t 41) (.t 45) (.c (.bool false)))),
 (mV 47 46),
 (oG 48 47 true (.mv (.t 7))),
 (oG 49 47 true (.fieldAddr 0 (.t 9))),
 (oG 50 47 true (.load false 1 (.t 49))),
 (oG 51 47 true (.bin .eql (.t 48) (.t 50))),
 (oP 52 (.pick (.t 47) (.t 51) (.c (.bool false)))),
 (mV 53 52),
 (oG 54 53 true (.mv (.t 8))),
 (oG 55 53 true (.fieldAddr 1 (.t 9))),
 (oG 56 53 true (.load false 1 (.t 55))),
 (oG 57 53 true (.bin .eql (.t 54) (.t 56))),
 (oP 58 (.pick (.t 53) (.t 57) (.c (.bool false)))),
 (mV 59 58),
 (oG 60 59 true (.load true 10 (.t 10))),
 (oG 61 59 true (.fieldAddr 0 (.t 12))),
 (oG 62 59 true (.load true 10 (.t 61))),
 (oG 63 59 true (.callF 17 [(.t 60), (.t 62)])),
 (oP 64 (.pick (.t 59) (.t 63) (.c (.bool false)))),
 (mV 65 64),
 (oG 66 65 true (.mv (.t 11))),
 (oG 67 65 true (.fieldAddr 10 (.t 12))),
 (oG 68 65 true (.load false 1 (.t 67))),
 (oG 69 65 true (.bin .eql (.t 66) (.t 68))),
 (oP 70 (.pick (.t 65) (.t 69) (.c (.bool false)))),
 (mV 4 70)])
 .ret))))))))))
theorem F3 : FI 3 2 71 7 [.tmp 4] c3 := ⟨⟨Tryz.f3, Tryz.func3, by kernel_rfl, by kernel_rfl, by kernel_rfl⟩, by kernel_rfl, by decide, by kernel_rfl⟩
end Go.Proofs
/- The looked-up text of the functions. -/
namespace Go.Proofs
open Go Go.Abs
/- f11 understory/understoryref04.IsPage: 113 temporaries, depth 7, 1 parameters, results [t2] -/
def c11 : RC :=
 (.seq (.ops [(oP 1 (.box 25 (.t 0))),
 (oP 2 (.mv (.c (.bool false))))])
 (.seq (.seq (.ops [(oP 3 (.fieldAddr 2 (.t 1))),
 (oP 4 (.load false 1 (.t 3))),
 (oP 5 (.bin .lss (.t 4) (.c (.int .i64 0)))),
 (mV 6 5),
 (oG 7 6 false (.fieldAddr 2 (.t 1))),
 (oG 8 6 false (.load false 1 (.t 7))),
 (oG 9 6 false (.bin .gtr (.t 8) (.c (.int .i64 1099511627776)))),
 (oP 10 (.pick (.t 6) (.c (.bool true)) (.t 9))),
 (mV 11 10),
 (oG 12 11 false (.fieldAddr 1 (.t 1))),
 (oG 13 11 false (.load false 1 (.t 12))),
 (oG 14 11 false (.callF 50 [(.t 13)])),
 (oG 15 11 false (.un .not (.t 14))),
 (oP 16 (.pick (.t 11) (.c (.bool true)) (.t 15))),
 (mV 17 16),
 (oG 18 17 false (.load true 10 (.t 1))),
 (oG 19 17 false (.callF 51 [(.t 18)])),
 (oG 20 17 false (.un .not (.t 19))),
 (oP 21 (.pick (.t 17) (.c (.bool true)) (.t 20)))])
 (.cond (.t 21)
 (.seq (.ops [(oP 2 (.mv (.c (.bool false))))])
 .ret)
 .skip))
 (.seq (.seq (.ops [(oP 22 (.fieldAddr 0 (.t 1))),
 (oP 23 (.load false 1 (.t 22)))])
 (.block 0
 (.seq (.seq (.ops [(oP 25 (.bin .eql (.t 23) (.c (.int .i64 1)))),
 (mV 24 25)])
 (.cond (.t 24)
 .skip
 (.ops [(oP 26 (.bin .eql (.t 23) (.c (.int .i64 2)))),
 (mV 24 26)])))
 (.cond (.t 24)
 (.seq (.ops [(oP 27 (.fieldAddr 0 (.t 1))),
 (oP 28 (.load false 1 (.t 27))),
 (oP 29 (.bin .eql (.t 28) (.c (.int .i64 1)))),
 (oP 30 (.fieldAddr 4 (.t 1))),
 (oP 31 (.load false 1 (.t 30))),
 (oP 32 (.bin .eql (.t 31) (.c (.int .i64 0)))),
 (oP 33 (.cmp false 4 (.t 29) (.t 32))),
 (mV 34 33),
 (oG 35 34 true (.fieldAddr 3 (.t 1))),
 (oG 36 34 true (.load false 1 (.t 35))),
 (oG 37 34 true (.bin .geq (.t 36) (.c (.int .i64 0)))),
 (oP 38 (.pick (.t 34) (.t 37) (.c (.bool false)))),
 (mV 39 38),
 (oG 40 39 true (.fieldAddr 3 (.t 1))),
 (oG 41 39 true (.load false 1 (.t 40))),
 (oG 42 39 true (.bin .leq (.t 41) (.c (.int .i64 255)))),
 (oP 43 (.pick (.t 39) (.t 42) (.c (.bool false)))),
 (mV 44 43),
 (oG 45 44 true (.fieldAddr 6 (.t 1))),
 (oG 46 44 true (.load false 1 (.t 45))),
 (oG 47 44 true (.lenL (.t 46))),
 (oG 48 44 true (.bin .leq (.t 47) (.c (.int .i64 496)))),
 (oP 49 (.pick (.t 44) (.t 48) (.c (.bool false)))),
 (mV 50 49),
 (oG 51 50 true (.fieldAddr 6 (.t 1))),
 (oG 52 50 true (.load false 1 (.t 51))),
 (oG 53 50 true (.fieldAddr 4 (.t 1))),
 (oG 54 50 true (.load false 1 (.t 53))),
 (oG 55 50 true (.callF 52 [(.t 52), (.t 54)])),
 (oP 56 (.pick (.t 50) (.t 55) (.c (.bool false)))),
 (mV 2 56)])
 .ret)
 (.seq (.ops [(oP 58 (.bin .eql (.t 23) (.c (.int .i64 3)))),
 (mV 57 58)])
 (.cond (.t 57)
 (.seq (.ops [(oP 59 (.fieldAddr 7 (.t 1))),
 (oP 60 (.load false 1 (.t 59))),
 (oP 61 (.bin .eql (.t 60) (.c (.int .i64 0)))),
 (mV 62 61),
 (oG 63 62 false (.fieldAddr 7 (.t 1))),
 (oG 64 62 false (.load false 1 (.t 63))),
 (oG 65 62 false (.callF 50 [(.t 64)])),
 (oP 66 (.pick (.t 62) (.c (.bool true)) (.t 65))),
 (mV 67 66),
 (oG 68 67 true (.fieldAddr 8 (.t 1))),
 (oG 69 67 true (.load false 1 (.t 68))),
 (oG 70 67 true (.lenS (.t 69))),
 (oG 71 67 true (.bin .geq (.t 70) (.c (.int .i64 1)))),
 (oP 72 (.pick (.t 67) (.t 71) (.c (.bool false)))),
 (mV 73 72),
 (oG 74 73 true (.fieldAddr 8 (.t 1))),
 (oG 75 73 true (.load false 1 (.t 74))),
 (oG 76 73 true (.lenS (.t 75))),
 (oG 77 73 true (.bin .leq (.t 76) (.c (.int .i64 490)))),
 (oP 78 (.pick (.t 73) (.t 77) (.c (.bool false)))),
 (mV 2 78)])
 .ret)
 (.seq (.ops [(oP 80 (.bin .eql (.t 23) (.c (.int .i64 4)))),
 (mV 79 80)])
 (.cond (.t 79)
 (.seq (.ops [(oP 81 (.fieldAddr 7 (.t 1))),
 (oP 82 (.load false 1 (.t 81))),
 (oP 83 (.bin .eql (.t 82) (.c (.int .i64 0)))),
 (mV 84 83),
 (oG 85 84 false (.fieldAddr 7 (.t 1))),
 (oG 86 84 false (.load false 1 (.t 85))),
 (oG 87 84 false (.callF 50 [(.t 86)])),
 (oP 88 (.pick (.t 84) (.c (.bool true)) (.t 87))),
 (mV 89 88),
 (oG 90 89 true (.fieldAddr 9 (.t 1))),
 (oG 91 89 true (.load false 1 (.t 90))),
 (oG 92 89 true (.lenL (.t 91))),
 (oG 93 89 true (.bin .leq (.t 92) (.c (.int .i64 496)))),
 (oP 94 (.pick (.t 89) (.t 93) (.c (.bool false)))),
 (mV 95 94),
 (oG 96 95 true (.fieldAddr 9 (.t 1))),
 (oG 97 95 true (.load false 1 (.t 96))),
 (oG 98 95 true (.callF 53 [(.t 97)])),
 (oP 99 (.pick (.t 95) (.t 98) (.c (.bool false)))),
 (mV 100 99),
 (oG 101 100 true (.fieldAddr 9 (.t 1))),
 (oG 102 100 true (.load false 1 (.t 101))),
 (oG 103 100 true (.callF 54 [(.t 102)])),
 (oG 104 100 true (.bin .leq (.t 103) (.c (.int .i64 496)))),
 (oP 105 (.pick (.t 100) (.t 104) (.c (.bool false)))),
 (mV 106 105),
 (oG 107 106 true (.fieldAddr 9 (.t 1))),
 (oG 108 106 true (.load false 1 (.t 107))),
 (oG 109 106 true (.callF 55 [(.t 108)])),
 (oG 110 106 true (.lenS (.t 109))),
 (oG 111 106 true (.bin .leq (.t 110) (.c (.int .i64 492)))),
 (oP 112 (.pick (.t 106) (.t 111) (.c (.bool false)))),
 (mV 2 112)])
 .ret)
 .skip))))))))
 (.seq (.ops [(oP 2 (.mv (.c (.bool false))))])
 .ret))))
theorem F11 : FI 11 1 113 7 [.tmp 2] c11 := ⟨⟨Tryz.f11, Tryz.func11, by kernel_rfl, by kernel_rfl, by kernel_rfl⟩, by kernel_rfl, by decide, by kernel_rfl⟩
/- f13 understory/understoryref04.Encode: 36 temporaries, depth 6, 1 parameters, results [*t2] -/
def c13 : RC :=
 (.seq (.ops [(oP 1 (.box 25 (.t 0))),
 (oP 2 (.alloc 33 [(.str []), (.int .i64 0)]))])
 (.seq (.seq (.ops [(oP 4 (.load true 10 (.t 1))),
 (oP 5 (.callF 11 [(.t 4)])),
 (oP 6 (.un .not (.t 5)))])
 (.cond (.t 6)
 (.seq (.ops [(oP 7 (.build [(.str []), (.int .i64 0)] [(1, 1, (.c (.int .i64 2)))])),
 (oU (.store 2 (.t 2) (.t 7)))])
 .ret)
 .skip))
 (.seq (.draw [((oP 8 (.callF 64 [(.c (.int .i64 85)), (.c (.int .i64 1))])), 0),
 ((oP 9 (.fieldAddr 0 (.t 1))), 0),
 ((oP 10 (.load false 1 (.t 9))), 1),
 ((oP 11 (.callF 64 [(.t 10), (.c (.int .i64 1))])), 0),
 ((oP 12 (.bin .add (.t 8) (.t 11))), 0),
 ((oP 13 (.fieldAddr 1 (.t 1))), 0),
 ((oP 14 (.load false 1 (.t 13))), 1),
 ((oP 15 (.callF 64 [(.t 14), (.c (.int .i64 4))])), 0),
 ((oP 16 (.bin .add (.t 12) (.t 15))), 0),
 ((oP 17 (.fieldAddr 2 (.t 1))), 0),
 ((oP 18 (.load false 1 (.t 17))), 1),
 ((oP 19 (.callF 64 [(.t 18), (.c (.int .i64 6))])), 0),
 ((oP 20 (.bin .add (.t 16) (.t 19))), 0),
 ((oP 21 (.load true 10 (.t 1))), 1),
 ((oP 22 (.callF 65 [(.t 21)])), 0),
 ((oP 23 (.bin .add (.t 20) (.t 22))), 0),
 ((mV 3 23), 0)])
 (.seq (.ops [(mV 24 3),
 (mV 25 3),
 (oP 26 (.lenS (.t 25))),
 (oP 27 (.bin .sub (.c (.int .i64 508)) (.t 26))),
 (oP 28 (.mkSl 5 1 [(.int .u8 0)] (.t 27) (.t 27))),
 (oP 29 (.bytesStr (.t 28))),
 (oP 30 (.bin .add (.t 24) (.t 29))),
 (mV 3 30)])
 (.seq (.ops [(mV 31 3),
 (mV 32 3),
 (oP 33 (.callF 66 [(.t 32)])),
 (oP 34 (.bin .add (.t 31) (.t 33))),
 (oP 35 (.build [(.str []), (.int .i64 0)] [(0, 1, (.t 34))])),
 (oU (.store 2 (.t 2) (.t 35)))])
 .ret)))))
theorem F13 : FI 13 1 36 6 [.cell 2 33] c13 := ⟨⟨Tryz.f13, Tryz.func13, by kernel_rfl, by kernel_rfl, by kernel_rfl⟩, by kernel_rfl, by decide, by kernel_rfl⟩
/- f15 understory/understoryref04.Decode: 25 temporaries, depth 5, 1 parameters, results [*t2] -/
def c15 : RC :=
 (.seq (.ops [(oP 2 (.alloc 38 [(.int .i64 0), (.int .i64 0), (.int .i64 0), (.int .i64 0), (.int .i64 0), (.bool false), (.lst 0 [] true), (.int .i64 0), (.str []), (.lst 0 [] true), (.int .i64 0)]))])
 (.seq (.seq (.ops [(mV 5 0),
 (oP 6 (.lenS (.t 5))),
 (oP 7 (.bin .neq (.t 6) (.c (.int .i64 512))))])
 (.cond (.t 7)
 (.seq (.ops [(oP 8 (.build [(.int .i64 0), (.int .i64 0), (.int .i64 0), (.int .i64 0), (.int .i64 0), (.bool false), (.lst 0 [] true), (.int .i64 0), (.str []), (.lst 0 [] true), (.int .i64 0)] [(10, 1, (.c (.int .i64 8)))])),
 (oU (.store 11 (.t 2) (.t 8)))])
 .ret)
 .skip))
 (.seq (.ops [(mV 9 0),
 (oP 10 (.callF 69 [(.t 9)])),
 (oP 3 (.alloc 25 [(.int .i64 0), (.int .i64 0), (.int .i64 0), (.int .i64 0), (.int .i64 0), (.bool false), (.lst 0 [] true), (.int .i64 0), (.str []), (.lst 0 [] true)])),
 (oU (.store 10 (.t 3) (.t 10)))])
 (.seq (.ops [(oP 11 (.load true 10 (.t 3))),
 (oP 12 (.callF 13 [(.t 11)])),
 (oP 4 (.alloc 33 [(.str []), (.int .i64 0)])),
 (oU (.store 2 (.t 4) (.t 12)))])
 (.seq (.seq (.ops [(oP 13 (.fieldAddr 1 (.t 4))),
 (oP 14 (.load false 1 (.t 13))),
 (oP 15 (.bin .neq (.t 14) (.c (.int .i64 0)))),
 (mV 16 15),
 (oG 17 16 false (.fieldAddr 0 (.t 4))),
 (oG 18 16 false (.load false 1 (.t 17))),
 (oG 19 16 false (.mv (.t 0))),
 (oG 20 16 false (.bin .neq (.t 18) (.t 19))),
 (oP 21 (.pick (.t 16) (.c (.bool true)) (.t 20)))])
 (.cond (.t 21)
 (.seq (.ops [(oP 22 (.build [(.int .i64 0), (.int .i64 0), (.int .i64 0), (.int .i64 0), (.int .i64 0), (.bool false), (.lst 0 [] true), (.int .i64 0), (.str []), (.lst 0 [] true), (.int .i64 0)] [(10, 1, (.c (.int .i64 8)))])),
 (oU (.store 11 (.t 2) (.t 22)))])
 .ret)
 .skip))
 (.seq (.ops [(oP 23 (.load true 10 (.t 3))),
 (oP 24 (.build [(.int .i64 0), (.int .i64 0), (.int .i64 0), (.int .i64 0), (.int .i64 0), (.bool false), (.lst 0 [] true), (.int .i64 0), (.str []), (.lst 0 [] true), (.int .i64 0)] [(0, 10, (.t 23))])),
 (oU (.store 11 (.t 2) (.t 24)))])
 .ret))))))
theorem F15 : FI 15 1 25 5 [.cell 2 38] c15 := ⟨⟨Tryz.f15, Tryz.func15, by kernel_rfl, by kernel_rfl, by kernel_rfl⟩, by kernel_rfl, by decide, by kernel_rfl⟩
/- f17 understory/understoryref04.Same: 71 temporaries, depth 7, 2 parameters, results [t4] -/
def c17 : RC :=
 (.seq (.ops [(oP 2 (.box 25 (.t 0))),
 (oP 3 (.box 25 (.t 1))),
 (oP 4 (.mv (.c (.bool false))))])
 (.seq (.seq (.ops [(oP 5 (.fieldAddr 0 (.t 2))),
 (oP 6 (.load false 1 (.t 5))),
 (oP 7 (.fieldAddr 0 (.t 3))),
 (oP 8 (.load false 1 (.t 7))),
 (oP 9 (.bin .neq (.t 6) (.t 8))),
 (mV 10 9),
 (oG 11 10 false (.fieldAddr 1 (.t 2))),
 (oG 12 10 false (.load false 1 (.t 11))),
 (oG 13 10 false (.fieldAddr 1 (.t 3))),
 (oG 14 10 false (.load false 1 (.t 13))),
 (oG 15 10 false (.bin .neq (.t 12) (.t 14))),
 (oP 16 (.pick (.t 10) (.c (.bool true)) (.t 15))),
 (mV 17 16),
 (oG 18 17 false (.fieldAddr 2 (.t 2))),
 (oG 19 17 false (.load false 1 (.t 18))),
 (oG 20 17 false (.fieldAddr 2 (.t 3))),
 (oG 21 17 false (.load false 1 (.t 20))),
 (oG 22 17 false (.bin .neq (.t 19) (.t 21))),
 (oP 23 (.pick (.t 17) (.c (.bool true)) (.t 22))),
 (mV 24 23),
 (oG 25 24 false (.fieldAddr 3 (.t 2))),
 (oG 26 24 false (.load false 1 (.t 25))),
 (oG 27 24 false (.fieldAddr 3 (.t 3))),
 (oG 28 24 false (.load false 1 (.t 27))),
 (oG 29 24 false (.bin .neq (.t 26) (.t 28))),
 (oP 30 (.pick (.t 24) (.c (.bool true)) (.t 29))),
 (mV 31 30),
 (oG 32 31 false (.fieldAddr 4 (.t 2))),
 (oG 33 31 false (.load false 1 (.t 32))),
 (oG 34 31 false (.fieldAddr 4 (.t 3))),
 (oG 35 31 false (.load false 1 (.t 34))),
 (oG 36 31 false (.bin .neq (.t 33) (.t 35))),
 (oP 37 (.pick (.t 31) (.c (.bool true)) (.t 36))),
 (mV 38 37),
 (oG 39 38 false (.fieldAddr 5 (.t 2))),
 (oG 40 38 false (.load false 1 (.t 39))),
 (oG 41 38 false (.fieldAddr 5 (.t 3))),
 (oG 42 38 false (.load false 1 (.t 41))),
 (oG 43 38 false (.cmp true 4 (.t 40) (.t 42))),
 (oP 44 (.pick (.t 38) (.c (.bool true)) (.t 43))),
 (mV 45 44),
 (oG 46 45 false (.fieldAddr 7 (.t 2))),
 (oG 47 45 false (.load false 1 (.t 46))),
 (oG 48 45 false (.fieldAddr 7 (.t 3))),
 (oG 49 45 false (.load false 1 (.t 48))),
 (oG 50 45 false (.bin .neq (.t 47) (.t 49))),
 (oP 51 (.pick (.t 45) (.c (.bool true)) (.t 50))),
 (mV 52 51),
 (oG 53 52 false (.fieldAddr 8 (.t 2))),
 (oG 54 52 false (.load false 1 (.t 53))),
 (oG 55 52 false (.fieldAddr 8 (.t 3))),
 (oG 56 52 false (.load false 1 (.t 55))),
 (oG 57 52 false (.bin .neq (.t 54) (.t 56))),
 (oP 58 (.pick (.t 52) (.c (.bool true)) (.t 57)))])
 (.cond (.t 58)
 (.seq (.ops [(oP 4 (.mv (.c (.bool false))))])
 .ret)
 .skip))
 (.seq (.ops [(oP 59 (.fieldAddr 6 (.t 2))),
 (oP 60 (.load false 1 (.t 59))),
 (oP 61 (.fieldAddr 6 (.t 3))),
 (oP 62 (.load false 1 (.t 61))),
 (oP 63 (.callF 77 [(.t 60), (.t 62)])),
 (mV 64 63),
 (oG 65 64 true (.fieldAddr 9 (.t 2))),
 (oG 66 64 true (.load false 1 (.t 65))),
 (oG 67 64 true (.fieldAddr 9 (.t 3))),
 (oG 68 64 true (.load false 1 (.t 67))),
 (oG 69 64 true (.callF 44 [(.t 66), (.t 68)])),
 (oP 70 (.pick (.t 64) (.t 69) (.c (.bool false)))),
 (mV 4 70)])
 .ret)))
theorem F17 : FI 17 2 71 7 [.tmp 4] c17 := ⟨⟨Tryz.f17, Tryz.func17, by kernel_rfl, by kernel_rfl, by kernel_rfl⟩, by kernel_rfl, by decide, by kernel_rfl⟩
/- f44 understory/understoryref04.SameFreed: 42 temporaries, depth 6, 2 parameters, results [t4] -/
def c44 : RC :=
 (.seq (.ops [(oP 4 (.mv (.c (.bool false))))])
 (.seq (.seq (.ops [(mV 6 0),
 (oP 7 (.lenL (.t 6))),
 (mV 8 1),
 (oP 9 (.lenL (.t 8))),
 (oP 10 (.bin .neq (.t 7) (.t 9)))])
 (.cond (.t 10)
 (.seq (.ops [(oP 4 (.mv (.c (.bool false))))])
 .ret)
 .skip))
 (.seq (.seq (.ops [(oP 5 (.mv (.c (.int .i64 0))))])
 (.block 0
 (.loop
 (.seq (.seq (.ops [(mV 11 5),
 (mV 12 0),
 (oP 13 (.lenL (.t 12))),
 (oP 14 (.bin .lss (.t 11) (.t 13)))])
 (.cond (.t 14)
 .skip
 (.exit 0)))
 (.seq (.block 1
 (.seq (.draw [((mV 17 0), 0),
 ((mV 18 5), 0),
 ((oP 19 (.indexAddrL 2 (.t 17) (.t 18))), 0),
 ((oP 20 (.fieldAddr 0 (.t 19))), 0),
 ((oP 21 (.load false 1 (.t 20))), 1),
 ((mV 22 1), 0),
 ((mV 23 5), 0),
 ((oP 24 (.indexAddrL 2 (.t 22) (.t 23))), 0),
 ((oP 25 (.fieldAddr 0 (.t 24))), 0),
 ((oP 26 (.load false 1 (.t 25))), 1),
 ((oP 27 (.bin .neq (.t 21) (.t 26))), 0),
 ((mV 28 27), 0),
 ((oG 29 28 false (.mv (.t 0))), 0),
 ((oG 30 28 false (.mv (.t 5))), 0),
 ((oG 31 28 false (.indexAddrL 2 (.t 29) (.t 30))), 0),
 ((oG 32 28 false (.fieldAddr 1 (.t 31))), 0),
 ((oG 33 28 false (.load false 1 (.t 32))), 1),
 ((oG 34 28 false (.mv (.t 1))), 0),
 ((oG 35 28 false (.mv (.t 5))), 0),
 ((oG 36 28 false (.indexAddrL 2 (.t 34) (.t 35))), 0),
 ((oG 37 28 false (.fieldAddr 1 (.t 36))), 0),
 ((oG 38 28 false (.load false 1 (.t 37))), 1),
 ((oG 39 28 false (.callF 103 [(.t 33), (.t 38)])), 0),
 ((oG 40 28 false (.un .not (.t 39))), 0),
 ((oP 41 (.pick (.t 28) (.c (.bool true)) (.t 40))), 0)])
 (.cond (.t 41)
 (.seq (.ops [(oP 4 (.mv (.c (.bool false))))])
 .ret)
 .skip)))
 (.ops [(mV 15 5),
 (oP 16 (.bin .add (.t 15) (.c (.int .i64 1)))),
 (mV 5 16)]))))))
 (.cut (.seq (.ops [(oP 4 (.mv (.c (.bool true))))])
 .ret)))))
theorem F44 : FI 44 2 42 6 [.tmp 4] c44 := ⟨⟨Tryz.f44, Tryz.func44, by kernel_rfl, by kernel_rfl, by kernel_rfl⟩, by kernel_rfl, by decide, by kernel_rfl⟩
/- f50 understory/understoryref04.isPage: 9 temporaries, depth 4, 1 parameters, results [t2] -/
def c50 : RC :=
 (.seq (.ops [(oP 2 (.mv (.c (.bool false))))])
 (.seq (.ops [(mV 3 0),
 (oP 4 (.bin .geq (.t 3) (.c (.int .i64 2)))),
 (mV 5 4),
 (oG 6 5 true (.mv (.t 0))),
 (oG 7 5 true (.bin .lss (.t 6) (.c (.int .i64 4096)))),
 (oP 8 (.pick (.t 5) (.t 7) (.c (.bool false)))),
 (mV 2 8)])
 .ret))
theorem F50 : FI 50 1 9 4 [.tmp 2] c50 := ⟨⟨Tryz.f50, Tryz.func50, by kernel_rfl, by kernel_rfl, by kernel_rfl⟩, by kernel_rfl, by decide, by kernel_rfl⟩
/- f51 understory/understoryref04.plain: 62 temporaries, depth 6, 1 parameters, results [t2] -/
def c51 : RC :=
 (.seq (.ops [(oP 1 (.box 25 (.t 0))),
 (oP 2 (.mv (.c (.bool false))))])
 (.seq (.ops [(oP 4 (.fieldAddr 0 (.t 1))),
 (oP 5 (.load false 1 (.t 4))),
 (oP 6 (.bin .eql (.t 5) (.c (.int .i64 1)))),
 (mV 7 6),
 (oG 8 7 false (.fieldAddr 0 (.t 1))),
 (oG 9 7 false (.load false 1 (.t 8))),
 (oG 10 7 false (.bin .eql (.t 9) (.c (.int .i64 2)))),
 (oP 11 (.pick (.t 7) (.c (.bool true)) (.t 10))),
 (mV 3 11)])
 (.seq (.seq (.ops [(mV 12 3),
 (oP 13 (.un .not (.t 12))),
 (mV 14 13),
 (oG 15 14 true (.fieldAddr 3 (.t 1))),
 (oG 16 14 true (.load false 1 (.t 15))),
 (oG 17 14 true (.bin .neq (.t 16) (.c (.int .i64 0)))),
 (oG 18 14 true (.mv (.t 17))),
 (oG 19 18 false (.fieldAddr 4 (.t 1))),
 (oG 20 18 false (.load false 1 (.t 19))),
 (oG 21 18 false (.bin .neq (.t 20) (.c (.int .i64 0)))),
 (oG 22 14 true (.pick (.t 18) (.c (.bool true)) (.t 21))),
 (oG 23 14 true (.mv (.t 22))),
 (oG 24 23 false (.fieldAddr 5 (.t 1))),
 (oG 25 23 false (.load false 1 (.t 24))),
 (oG 26 14 true (.pick (.t 23) (.c (.bool true)) (.t 25))),
 (oG 27 14 true (.mv (.t 26))),
 (oG 28 27 false (.fieldAddr 6 (.t 1))),
 (oG 29 27 false (.load false 1 (.t 28))),
 (oG 30 27 false (.lenL (.t 29))),
 (oG 31 27 false (.bin .gtr (.t 30) (.c (.int .i64 0)))),
 (oG 32 14 true (.pick (.t 27) (.c (.bool true)) (.t 31))),
 (oP 33 (.pick (.t 14) (.t 32) (.c (.bool false))))])
 (.cond (.t 33)
 (.seq (.ops [(oP 2 (.mv (.c (.bool false))))])
 .ret)
 .skip))
 (.seq (.ops [(mV 34 3),
 (oP 35 (.un .not (.t 34))),
 (mV 36 35),
 (oG 37 36 false (.fieldAddr 7 (.t 1))),
 (oG 38 36 false (.load false 1 (.t 37))),
 (oG 39 36 false (.bin .eql (.t 38) (.c (.int .i64 0)))),
 (oP 40 (.pick (.t 36) (.c (.bool true)) (.t 39))),
 (mV 41 40),
 (oG 42 41 true (.fieldAddr 0 (.t 1))),
 (oG 43 41 true (.load false 1 (.t 42))),
 (oG 44 41 true (.bin .eql (.t 43) (.c (.int .i64 3)))),
 (oG 45 41 true (.mv (.t 44))),
 (oG 46 45 false (.fieldAddr 8 (.t 1))),
 (oG 47 45 false (.load false 1 (.t 46))),
 (oG 48 45 false (.bin .eql (.t 47) (.c (.str [])))),
 (oG 49 41 true (.pick (.t 45) (.c (.bool true)) (.t 48))),
 (oP 50 (.pick (.t 41) (.t 49) (.c (.bool false)))),
 (mV 51 50),
 (oG 52 51 true (.fieldAddr 0 (.t 1))),
 (oG 53 51 true (.load false 1 (.t 52))),
 (oG 54 51 true (.bin .eql (.t 53) (.c (.int .i64 4)))),
 (oG 55 51 true (.mv (.t 54))),
 (oG 56 55 false (.fieldAddr 9 (.t 1))),
 (oG 57 55 false (.load false 1 (.t 56))),
 (oG 58 55 false (.lenL (.t 57))),
 (oG 59 55 false (.bin .eql (.t 58) (.c (.int .i64 0)))),
 (oG 60 51 true (.pick (.t 55) (.c (.bool true)) (.t 59))),
 (oP 61 (.pick (.t 51) (.t 60) (.c (.bool false)))),
 (mV 2 61)])
 .ret))))
theorem F51 : FI 51 1 62 6 [.tmp 2] c51 := ⟨⟨Tryz.f51, Tryz.func51, by kernel_rfl, by kernel_rfl, by kernel_rfl⟩, by kernel_rfl, by decide, by kernel_rfl⟩
/- f52 understory/understoryref04.Fits: 15 temporaries, depth 5, 2 parameters, results [t4] -/
def c52 : RC :=
 (.seq (.ops [(oP 4 (.mv (.c (.bool false))))])
 (.seq (.ops [(mV 5 0),
 (mV 6 1),
 (oP 7 (.callF 106 [(.t 5), (.t 6)])),
 (mV 8 7),
 (oG 9 8 true (.mv (.t 0))),
 (oG 10 8 true (.mv (.t 1))),
 (oG 11 8 true (.callF 107 [(.t 9), (.t 10)])),
 (oG 12 8 true (.field false 1 0 (.t 11))),
 (oG 13 8 true (.bin .leq (.t 12) (.c (.int .i64 496)))),
 (oP 14 (.pick (.t 8) (.t 13) (.c (.bool false)))),
 (mV 4 14)])
 .ret))
theorem F52 : FI 52 2 15 5 [.tmp 4] c52 := ⟨⟨Tryz.f52, Tryz.func52, by kernel_rfl, by kernel_rfl, by kernel_rfl⟩, by kernel_rfl, by decide, by kernel_rfl⟩
/- f53 understory/understoryref04.freed: 77 temporaries, depth 7, 1 parameters, results [t2] -/
def c53 : RC :=
 (.seq (.ops [(oP 2 (.mv (.c (.bool false))))])
 (.seq (.seq (.ops [(oP 3 (.mv (.c (.int .i64 0))))])
 (.block 0
 (.loop
 (.seq (.seq (.ops [(mV 6 3),
 (mV 7 0),
 (oP 8 (.lenL (.t 7))),
 (oP 9 (.bin .lss (.t 6) (.t 8)))])
 (.cond (.t 9)
 .skip
 (.exit 0)))
 (.seq (.block 1
 (.seq (.ops [(mV 12 0),
 (mV 13 3),
 (oP 14 (.indexAddrL 2 (.t 12) (.t 13))),
 (oP 15 (.load true 2 (.t 14))),
 (oP 4 (.alloc 165 [(.int .i64 0), (.lst 0 [] true)])),
 (oU (.store 2 (.t 4) (.t 15)))])
 (.seq (.seq (.draw [((oP 16 (.fieldAddr 0 (.t 4))), 0),
 ((oP 17 (.load false 1 (.t 16))), 1),
 ((oP 18 (.bin .lss (.t 17) (.c (.int .i64 0)))), 0),
 ((mV 19 18), 0),
 ((oG 20 19 false (.fieldAddr 0 (.t 4))), 0),
 ((oG 21 19 false (.load false 1 (.t 20))), 1),
 ((oG 22 19 false (.bin .gtr (.t 21) (.c (.int .i64 1099511627776)))), 0),
 ((oP 23 (.pick (.t 19) (.c (.bool true)) (.t 22))), 0),
 ((mV 24 23), 0),
 ((oG 25 24 false (.mv (.t 3))), 0),
 ((oG 26 24 false (.bin .gtr (.t 25) (.c (.int .i64 0)))), 0),
 ((oG 27 24 false (.mv (.t 26))), 0),
 ((oG 28 27 true (.fieldAddr 0 (.t 4))), 0),
 ((oG 29 27 true (.load false 1 (.t 28))), 1),
 ((oG 30 27 true (.mv (.t 0))), 0),
 ((oG 31 27 true (.mv (.t 3))), 0),
 ((oG 32 27 true (.bin .sub (.t 31) (.c (.int .i64 1)))), 0),
 ((oG 33 27 true (.indexAddrL 2 (.t 30) (.t 32))), 0),
 ((oG 34 27 true (.fieldAddr 0 (.t 33))), 0),
 ((oG 35 27 true (.load false 1 (.t 34))), 1),
 ((oG 36 27 true (.bin .leq (.t 29) (.t 35))), 0),
 ((oG 37 24 false (.pick (.t 27) (.t 36) (.c (.bool false)))), 0),
 ((oP 38 (.pick (.t 24) (.c (.bool true)) (.t 37))), 0),
 ((mV 39 38), 0),
 ((oG 40 39 false (.fieldAddr 1 (.t 4))), 0),
 ((oG 41 39 false (.load false 1 (.t 40))), 1),
 ((oG 42 39 false (.lenL (.t 41))), 0),
 ((oG 43 39 false (.bin .eql (.t 42) (.c (.int .i64 0)))), 0),
 ((oP 44 (.pick (.t 39) (.c (.bool true)) (.t 43))), 0)])
 (.cond (.t 44)
 (.seq (.ops [(oP 2 (.mv (.c (.bool false))))])
 .ret)
 .skip))
 (.seq (.ops [(oP 5 (.mv (.c (.int .i64 0))))])
 (.block 2
 (.loop
 (.seq (.seq (.ops [(mV 45 5),
 (oP 46 (.fieldAddr 1 (.t 4))),
 (oP 47 (.load false 1 (.t 46))),
 (oP 48 (.lenL (.t 47))),
 (oP 49 (.bin .lss (.t 45) (.t 48)))])
 (.cond (.t 49)
 .skip
 (.exit 2)))
 (.seq (.block 3
 (.seq (.draw [((oP 52 (.fieldAddr 1 (.t 4))), 0),
 ((oP 53 (.load false 1 (.t 52))), 1),
 ((mV 54 5), 0),
 ((oP 55 (.indexAddrL 1 (.t 53) (.t 54))), 0),
 ((oP 56 (.load false 1 (.t 55))), 1),
 ((oP 57 (.callF 50 [(.t 56)])), 0),
 ((oP 58 (.un .not (.t 57))), 0),
 ((mV 59 58), 0),
 ((oG 60 59 false (.mv (.t 5))), 0),
 ((oG 61 59 false (.bin .gtr (.t 60) (.c (.int .i64 0)))), 0),
 ((oG 62 59 false (.mv (.t 61))), 0),
 ((oG 63 62 true (.fieldAddr 1 (.t 4))), 0),
 ((oG 64 62 true (.load false 1 (.t 63))), 1),
 ((oG 65 62 true (.mv (.t 5))), 0),
 ((oG 66 62 true (.indexAddrL 1 (.t 64) (.t 65))), 0),
 ((oG 67 62 true (.load false 1 (.t 66))), 1),
 ((oG 68 62 true (.fieldAddr 1 (.t 4))), 0),
 ((oG 69 62 true (.load false 1 (.t 68))), 1),
 ((oG 70 62 true (.mv (.t 5))), 0),
 ((oG 71 62 true (.bin .sub (.t 70) (.c (.int .i64 1)))), 0),
 ((oG 72 62 true (.indexAddrL 1 (.t 69) (.t 71))), 0),
 ((oG 73 62 true (.load false 1 (.t 72))), 1),
 ((oG 74 62 true (.bin .leq (.t 67) (.t 73))), 0),
 ((oG 75 59 false (.pick (.t 62) (.t 74) (.c (.bool false)))), 0),
 ((oP 76 (.pick (.t 59) (.c (.bool true)) (.t 75))), 0)])
 (.cond (.t 76)
 (.seq (.ops [(oP 2 (.mv (.c (.bool false))))])
 .ret)
 .skip)))
 (.ops [(mV 50 5),
 (oP 51 (.bin .add (.t 50) (.c (.int .i64 1)))),
 (mV 5 51)])))))))))
 (.cut (.ops [(mV 10 3),
 (oP 11 (.bin .add (.t 10) (.c (.int .i64 1)))),
 (mV 3 11)])))))))
 (.cut (.seq (.ops [(oP 2 (.mv (.c (.bool true))))])
 .ret))))
theorem F53 : FI 53 1 77 7 [.tmp 2] c53 := ⟨⟨Tryz.f53, Tryz.func53, by kernel_rfl, by kernel_rfl, by kernel_rfl⟩, by kernel_rfl, by decide, by kernel_rfl⟩
/- f54 understory/understoryref04.words: 21 temporaries, depth 5, 1 parameters, results [t2] -/
def c54 : RC :=
 (.seq (.ops [(oP 2 (.mv (.c (.int .i64 0))))])
 (.seq (.ops [(oP 3 (.mv (.c (.int .i64 0))))])
 (.seq (.seq (.ops [(oP 4 (.mv (.c (.int .i64 0))))])
 (.block 0
 (.loop
 (.seq (.seq (.ops [(mV 5 4),
 (mV 6 0),
 (oP 7 (.lenL (.t 6))),
 (oP 8 (.bin .lss (.t 5) (.t 7)))])
 (.cond (.t 8)
 .skip
 (.exit 0)))
 (.seq (.block 1
 (.ops [(mV 11 3),
 (oP 12 (.bin .add (.t 11) (.c (.int .i64 2)))),
 (mV 13 0),
 (mV 14 4),
 (oP 15 (.indexAddrL 2 (.t 13) (.t 14))),
 (oP 16 (.fieldAddr 1 (.t 15))),
 (oP 17 (.load false 1 (.t 16))),
 (oP 18 (.lenL (.t 17))),
 (oP 19 (.bin .add (.t 12) (.t 18))),
 (mV 3 19)]))
 (.ops [(mV 9 4),
 (oP 10 (.bin .add (.t 9) (.c (.int .i64 1)))),
 (mV 4 10)]))))))
 (.cut (.seq (.ops [(mV 20 3),
 (mV 2 20)])
 .ret)))))
theorem F54 : FI 54 1 21 5 [.tmp 2] c54 := ⟨⟨Tryz.f54, Tryz.func54, by kernel_rfl, by kernel_rfl, by kernel_rfl⟩, by kernel_rfl, by decide, by kernel_rfl⟩
/- f55 understory/understoryref04.list: 53 temporaries, depth 6, 1 parameters, results [t2] -/
def c55 : RC :=
 (.seq (.ops [(oP 2 (.mv (.c (.str []))))])
 (.seq (.ops [(mV 6 0),
 (oP 7 (.lenL (.t 6))),
 (oP 8 (.callF 64 [(.t 7), (.c (.int .i64 2))])),
 (mV 3 8)])
 (.seq (.seq (.ops [(oP 4 (.mv (.c (.int .i64 0))))])
 (.block 0
 (.loop
 (.seq (.seq (.ops [(mV 9 4),
 (mV 10 0),
 (oP 11 (.lenL (.t 10))),
 (oP 12 (.bin .lss (.t 9) (.t 11)))])
 (.cond (.t 12)
 .skip
 (.exit 0)))
 (.seq (.block 1
 (.seq (.draw [((mV 15 3), 0),
 ((mV 16 0), 0),
 ((mV 17 4), 0),
 ((oP 18 (.indexAddrL 2 (.t 16) (.t 17))), 0),
 ((oP 19 (.fieldAddr 0 (.t 18))), 0),
 ((oP 20 (.load false 1 (.t 19))), 1),
 ((oP 21 (.callF 64 [(.t 20), (.c (.int .i64 6))])), 0),
 ((oP 22 (.bin .add (.t 15) (.t 21))), 0),
 ((mV 23 0), 0),
 ((mV 24 4), 0),
 ((oP 25 (.indexAddrL 2 (.t 23) (.t 24))), 0),
 ((oP 26 (.fieldAddr 1 (.t 25))), 0),
 ((oP 27 (.load false 1 (.t 26))), 1),
 ((oP 28 (.lenL (.t 27))), 0),
 ((oP 29 (.callF 64 [(.t 28), (.c (.int .i64 2))])), 0),
 ((oP 30 (.bin .add (.t 22) (.t 29))), 0),
 ((mV 3 30), 0)])
 (.seq (.ops [(oP 5 (.mv (.c (.int .i64 0))))])
 (.block 2
 (.loop
 (.seq (.seq (.ops [(mV 31 5),
 (mV 32 0),
 (mV 33 4),
 (oP 34 (.indexAddrL 2 (.t 32) (.t 33))),
 (oP 35 (.fieldAddr 1 (.t 34))),
 (oP 36 (.load false 1 (.t 35))),
 (oP 37 (.lenL (.t 36))),
 (oP 38 (.bin .lss (.t 31) (.t 37)))])
 (.cond (.t 38)
 .skip
 (.exit 2)))
 (.seq (.block 3
 (.ops [(mV 41 3),
 (mV 42 0),
 (mV 43 4),
 (oP 44 (.indexAddrL 2 (.t 42) (.t 43))),
 (oP 45 (.fieldAddr 1 (.t 44))),
 (oP 46 (.load false 1 (.t 45))),
 (mV 47 5),
 (oP 48 (.indexAddrL 1 (.t 46) (.t 47))),
 (oP 49 (.load false 1 (.t 48))),
 (oP 50 (.callF 64 [(.t 49), (.c (.int .i64 4))])),
 (oP 51 (.bin .add (.t 41) (.t 50))),
 (mV 3 51)]))
 (.ops [(mV 39 5),
 (oP 40 (.bin .add (.t 39) (.c (.int .i64 1)))),
 (mV 5 40)]))))))))
 (.cut (.ops [(mV 13 4),
 (oP 14 (.bin .add (.t 13) (.c (.int .i64 1)))),
 (mV 4 14)])))))))
 (.cut (.seq (.ops [(mV 52 3),
 (mV 2 52)])
 .ret)))))
theorem F55 : FI 55 1 53 6 [.tmp 2] c55 := ⟨⟨Tryz.f55, Tryz.func55, by kernel_rfl, by kernel_rfl, by kernel_rfl⟩, by kernel_rfl, by decide, by kernel_rfl⟩
/- f64 understory/understoryref04.Number: 25 temporaries, depth 5, 2 parameters, results [t4] -/
def c64 : RC :=
 (.seq (.ops [(oP 4 (.mv (.c (.str []))))])
 (.seq (.ops [(mV 7 1),
 (oP 8 (.mkSl 5 1 [(.int .u8 0)] (.t 7) (.t 7))),
 (mV 5 8)])
 (.seq (.seq (.ops [(mV 9 1),
 (oP 10 (.bin .sub (.t 9) (.c (.int .i64 1)))),
 (mV 6 10)])
 (.block 0
 (.loop
 (.seq (.seq (.ops [(mV 11 6),
 (oP 12 (.bin .geq (.t 11) (.c (.int .i64 0))))])
 (.cond (.t 12)
 .skip
 (.exit 0)))
 (.seq (.block 1
 (.seq (.ops [(mV 15 5),
 (mV 16 6),
 (mV 17 0),
 (oP 18 (.bin .rem (.t 17) (.c (.int .i64 256)))),
 (oP 19 (.toInt .u8 (.t 18))),
 (oP 20 (.indexAddrL 1 (.t 15) (.t 16))),
 (oU (.store 1 (.t 20) (.t 19)))])
 (.ops [(mV 21 0),
 (oP 22 (.bin .quo (.t 21) (.c (.int .i64 256)))),
 (mV 0 22)])))
 (.ops [(mV 13 6),
 (oP 14 (.bin .sub (.t 13) (.c (.int .i64 1)))),
 (mV 6 14)]))))))
 (.cut (.seq (.ops [(mV 23 5),
 (oP 24 (.bytesStr (.t 23))),
 (mV 4 24)])
 .ret)))))
theorem F64 : FI 64 2 25 5 [.tmp 4] c64 := ⟨⟨Tryz.f64, Tryz.func64, by kernel_rfl, by kernel_rfl, by kernel_rfl⟩, by kernel_rfl, by decide, by kernel_rfl⟩
/- f65 understory/understoryref04.body: 60 temporaries, depth 6, 1 parameters, results [t2] -/
def c65 : RC :=
 (.seq (.ops [(oP 1 (.box 25 (.t 0))),
 (oP 2 (.mv (.c (.str []))))])
 (.seq (.seq (.ops [(oP 4 (.fieldAddr 0 (.t 1))),
 (oP 5 (.load false 1 (.t 4)))])
 (.block 0
 (.seq (.ops [(oP 7 (.bin .eql (.t 5) (.c (.int .i64 3)))),
 (mV 6 7)])
 (.cond (.t 6)
 (.seq (.draw [((oP 8 (.fieldAddr 7 (.t 1))), 0),
 ((oP 9 (.load false 1 (.t 8))), 1),
 ((oP 10 (.callF 64 [(.t 9), (.c (.int .i64 4))])), 0),
 ((oP 11 (.fieldAddr 8 (.t 1))), 0),
 ((oP 12 (.load false 1 (.t 11))), 1),
 ((oP 13 (.lenS (.t 12))), 0),
 ((oP 14 (.callF 64 [(.t 13), (.c (.int .i64 2))])), 0),
 ((oP 15 (.bin .add (.t 10) (.t 14))), 0),
 ((oP 16 (.fieldAddr 8 (.t 1))), 0),
 ((oP 17 (.load false 1 (.t 16))), 1),
 ((oP 18 (.bin .add (.t 15) (.t 17))), 0),
 ((mV 2 18), 0)])
 .ret)
 (.seq (.ops [(oP 20 (.bin .eql (.t 5) (.c (.int .i64 4)))),
 (mV 19 20)])
 (.cond (.t 19)
 (.seq (.draw [((oP 21 (.fieldAddr 7 (.t 1))), 0),
 ((oP 22 (.load false 1 (.t 21))), 1),
 ((oP 23 (.callF 64 [(.t 22), (.c (.int .i64 4))])), 0),
 ((oP 24 (.fieldAddr 9 (.t 1))), 0),
 ((oP 25 (.load false 1 (.t 24))), 1),
 ((oP 26 (.callF 55 [(.t 25)])), 0),
 ((oP 27 (.bin .add (.t 23) (.t 26))), 0),
 ((mV 2 27), 0)])
 .ret)
 .skip))))))
 (.seq (.draw [((oP 28 (.fieldAddr 3 (.t 1))), 0),
 ((oP 29 (.load false 1 (.t 28))), 1),
 ((oP 30 (.callF 64 [(.t 29), (.c (.int .i64 1))])), 0),
 ((oP 31 (.fieldAddr 4 (.t 1))), 0),
 ((oP 32 (.load false 1 (.t 31))), 1),
 ((oP 33 (.callF 64 [(.t 32), (.c (.int .i64 1))])), 0),
 ((oP 34 (.bin .add (.t 30) (.t 33))), 0),
 ((oP 35 (.fieldAddr 5 (.t 1))), 0),
 ((oP 36 (.load false 1 (.t 35))), 1),
 ((oP 37 (.callF 113 [(.t 36)])), 0),
 ((oP 38 (.callF 64 [(.t 37), (.c (.int .i64 1))])), 0),
 ((oP 39 (.bin .add (.t 34) (.t 38))), 0),
 ((oP 40 (.fieldAddr 6 (.t 1))), 0),
 ((oP 41 (.load false 1 (.t 40))), 1),
 ((oP 42 (.fieldAddr 4 (.t 1))), 0),
 ((oP 43 (.load false 1 (.t 42))), 1),
 ((oP 44 (.callF 114 [(.t 41), (.t 43)])), 0),
 ((oP 45 (.lenS (.t 44))), 0),
 ((oP 46 (.callF 64 [(.t 45), (.c (.int .i64 1))])), 0),
 ((oP 47 (.bin .add (.t 39) (.t 46))), 0),
 ((oP 48 (.fieldAddr 6 (.t 1))), 0),
 ((oP 49 (.load false 1 (.t 48))), 1),
 ((oP 50 (.lenL (.t 49))), 0),
 ((oP 51 (.callF 64 [(.t 50), (.c (.int .i64 2))])), 0),
 ((oP 52 (.bin .add (.t 47) (.t 51))), 0),
 ((mV 3 52), 0)])
 (.seq (.ops [(mV 53 3),
 (oP 54 (.fieldAddr 6 (.t 1))),
 (oP 55 (.load false 1 (.t 54))),
 (oP 56 (.fieldAddr 4 (.t 1))),
 (oP 57 (.load false 1 (.t 56))),
 (oP 58 (.callF 115 [(.t 55), (.t 57), (.c (.int .i64 18))])),
 (oP 59 (.bin .add (.t 53) (.t 58))),
 (mV 2 59)])
 .ret))))
theorem F65 : FI 65 1 60 6 [.tmp 2] c65 := ⟨⟨Tryz.f65, Tryz.func65, by kernel_rfl, by kernel_rfl, by kernel_rfl⟩, by kernel_rfl, by decide, by kernel_rfl⟩
/- f66 understory/understoryref04.Crc: 8 temporaries, depth 4, 1 parameters, results [t2] -/
def c66 : RC :=
 (.seq (.ops [(oP 2 (.mv (.c (.str []))))])
 (.seq (.ops [(mV 3 0),
 (oP 4 (.callF 117 [(.t 3)])),
 (oP 5 (.toInt .i64 (.t 4))),
 (oP 6 (.callF 64 [(.t 5), (.c (.int .i64 4))])),
 (oP 7 (.callF 116 [(.t 6)])),
 (mV 2 7)])
 .ret))
theorem F66 : FI 66 1 8 4 [.tmp 2] c66 := ⟨⟨Tryz.f66, Tryz.func66, by kernel_rfl, by kernel_rfl, by kernel_rfl⟩, by kernel_rfl, by decide, by kernel_rfl⟩
/- f69 understory/understoryref04.read: 135 temporaries, depth 8, 1 parameters, results [*t2] -/
def c69 : RC :=
 (.seq (.ops [(oP 2 (.alloc 25 [(.int .i64 0), (.int .i64 0), (.int .i64 0), (.int .i64 0), (.int .i64 0), (.bool false), (.lst 0 [] true), (.int .i64 0), (.str []), (.lst 0 [] true)]))])
 (.seq (.ops [(mV 14 0),
 (oP 15 (.sliceS (.t 14) (some (.c (.int .i64 1))) (some (.c (.int .i64 508))))),
 (oP 16 (.build [(.str []), (.bool false)] [(0, 1, (.t 15))])),
 (oP 17 (.box 195 (.t 16))),
 (mV 3 17)])
 (.seq (.ops [(mV 18 3),
 (oP 19 (.callF 120 [(.t 18), (.c (.int .i64 1))])),
 (mV 20 3),
 (oP 21 (.callF 120 [(.t 20), (.c (.int .i64 4))])),
 (mV 22 3),
 (oP 23 (.callF 120 [(.t 22), (.c (.int .i64 6))])),
 (oP 24 (.build [(.int .i64 0), (.int .i64 0), (.int .i64 0), (.int .i64 0), (.int .i64 0), (.bool false), (.lst 0 [] true), (.int .i64 0), (.str []), (.lst 0 [] true)] [(0, 1, (.t 19)), (1, 1, (.t 21)), (2, 1, (.t 23))])),
 (oP 4 (.alloc 25 [(.int .i64 0), (.int .i64 0), (.int .i64 0), (.int .i64 0), (.int .i64 0), (.bool false), (.lst 0 [] true), (.int .i64 0), (.str []), (.lst 0 [] true)])),
 (oU (.store 10 (.t 4) (.t 24)))])
 (.seq (.seq (.ops [(oP 25 (.fieldAddr 0 (.t 4))),
 (oP 26 (.load false 1 (.t 25)))])
 (.block 0
 (.seq (.seq (.ops [(oP 28 (.bin .eql (.t 26) (.c (.int .i64 1)))),
 (mV 27 28)])
 (.cond (.t 27)
 .skip
 (.ops [(oP 29 (.bin .eql (.t 26) (.c (.int .i64 2)))),
 (mV 27 29)])))
 (.cond (.t 27)
 (.seq (.ops [(mV 30 3),
 (oP 31 (.callF 120 [(.t 30), (.c (.int .i64 1))])),
 (oP 32 (.fieldAddr 3 (.t 4))),
 (oU (.store 1 (.t 32) (.t 31)))])
 (.seq (.ops [(mV 33 3),
 (oP 34 (.callF 120 [(.t 33), (.c (.int .i64 1))])),
 (oP 35 (.fieldAddr 4 (.t 4))),
 (oU (.store 1 (.t 35) (.t 34)))])
 (.seq (.ops [(mV 36 3),
 (oP 37 (.callF 120 [(.t 36), (.c (.int .i64 1))])),
 (oP 38 (.bin .eql (.t 37) (.c (.int .i64 1)))),
 (oP 39 (.fieldAddr 5 (.t 4))),
 (oU (.store 1 (.t 39) (.t 38)))])
 (.seq (.ops [(mV 40 3),
 (oP 41 (.callF 120 [(.t 40), (.c (.int .i64 1))])),
 (mV 5 41)])
 (.seq (.ops [(mV 42 3),
 (oP 43 (.callF 120 [(.t 42), (.c (.int .i64 2))])),
 (mV 6 43)])
 (.seq (.ops [(mV 44 3),
 (mV 45 5),
 (oP 46 (.callF 121 [(.t 44), (.t 45)])),
 (mV 7 46)])
 (.seq (.ops [(mV 47 3),
 (mV 48 6),
 (oP 49 (.bin .mul (.c (.int .i64 2)) (.t 48))),
 (oP 50 (.callF 121 [(.t 47), (.t 49)]))])
 (.seq (.ops [(oP 8 (.mv (.c (.int .i64 0))))])
 (.block 1
 (.loop
 (.seq (.seq (.ops [(mV 51 8),
 (mV 52 6),
 (oP 53 (.bin .lss (.t 51) (.t 52))),
 (mV 54 53),
 (oG 55 54 true (.mv (.t 3))),
 (oG 56 54 true (.nilCheck (.t 55))),
 (oG 57 54 true (.fieldAddr 1 (.t 56))),
 (oG 58 54 true (.load false 1 (.t 57))),
 (oG 59 54 true (.un .not (.t 58))),
 (oP 60 (.pick (.t 54) (.t 59) (.c (.bool false))))])
 (.cond (.t 60)
 .skip
 (.exit 1)))
 (.seq (.block 2
 (.draw [((oP 63 (.fieldAddr 6 (.t 4))), 0),
 ((oP 64 (.load false 1 (.t 63))), 1),
 ((mV 65 3), 0),
 ((mV 66 7), 0),
 ((oP 67 (.fieldAddr 4 (.t 4))), 0),
 ((oP 68 (.load false 1 (.t 67))), 1),
 ((mV 69 8), 0),
 ((oP 70 (.bin .eql (.t 69) (.c (.int .i64 0)))), 0),
 ((oP 71 (.callF 122 [(.t 65), (.t 66), (.t 68), (.t 70)])), 2),
 ((oP 72 (.mkLst 22 true 1 [(.str []), (.str []), (.int .i64 0), (.int .i64 0), (.int .i64 0), (.int .i64 0), (.int .u8 0), (.int .u8 0), (.int .u8 0), (.int .u8 0), (.int .u8 0), (.int .u8 0), (.int .u8 0), (.int .u8 0), (.int .u8 0), (.int .u8 0), (.int .u8 0), (.int .u8 0), (.int .u8 0), (.int .u8 0), (.int .u8 0), (.int .u8 0)] [(0, 22, (.t 71))])), 0),
 ((oP 73 (.app 56 22 (.t 64) (.t 72))), 2),
 ((oP 74 (.fieldAddr 6 (.t 4))), 0),
 ((oU (.store 1 (.t 74) (.t 73))), 3)]))
 (.ops [(mV 61 8),
 (oP 62 (.bin .add (.t 61) (.c (.int .i64 1)))),
 (mV 8 62)])))))))))))))
 (.seq (.ops [(oP 76 (.bin .eql (.t 26) (.c (.int .i64 3)))),
 (mV 75 76)])
 (.cond (.t 75)
 (.seq (.ops [(mV 77 3),
 (oP 78 (.callF 120 [(.t 77), (.c (.int .i64 4))])),
 (oP 79 (.fieldAddr 7 (.t 4))),
 (oU (.store 1 (.t 79) (.t 78)))])
 (.ops [(mV 80 3),
 (mV 81 3),
 (oP 82 (.callF 120 [(.t 81), (.c (.int .i64 2))])),
 (oP 83 (.callF 121 [(.t 80), (.t 82)])),
 (oP 84 (.fieldAddr 8 (.t 4))),
 (oU (.store 1 (.t 84) (.t 83)))]))
 (.seq (.ops [(oP 86 (.bin .eql (.t 26) (.c (.int .i64 4)))),
 (mV 85 86)])
 (.cond (.t 85)
 (.seq (.ops [(mV 87 3),
 (oP 88 (.callF 120 [(.t 87), (.c (.int .i64 4))])),
 (oP 89 (.fieldAddr 7 (.t 4))),
 (oU (.store 1 (.t 89) (.t 88)))])
 (.seq (.ops [(mV 90 3),
 (oP 91 (.callF 120 [(.t 90), (.c (.int .i64 2))])),
 (mV 9 91)])
 (.seq (.ops [(oP 10 (.mv (.c (.int .i64 0))))])
 (.block 3
 (.loop
 (.seq (.seq (.ops [(mV 92 10),
 (mV 93 9),
 (oP 94 (.bin .lss (.t 92) (.t 93))),
 (mV 95 94),
 (oG 96 95 true (.mv (.t 3))),
 (oG 97 95 true (.nilCheck (.t 96))),
 (oG 98 95 true (.fieldAddr 1 (.t 97))),
 (oG 99 95 true (.load false 1 (.t 98))),
 (oG 100 95 true (.un .not (.t 99))),
 (oP 101 (.pick (.t 95) (.t 100) (.c (.bool false))))])
 (.cond (.t 101)
 .skip
 (.exit 3)))
 (.seq (.block 4
 (.seq (.ops [(mV 104 3),
 (oP 105 (.callF 120 [(.t 104), (.c (.int .i64 6))])),
 (oP 106 (.build [(.int .i64 0), (.lst 0 [] true)] [(0, 1, (.t 105))])),
 (oP 11 (.alloc 165 [(.int .i64 0), (.lst 0 [] true)])),
 (oU (.store 2 (.t 11) (.t 106)))])
 (.seq (.ops [(mV 107 3),
 (oP 108 (.callF 120 [(.t 107), (.c (.int .i64 2))])),
 (mV 12 108)])
 (.seq (.seq (.ops [(oP 13 (.mv (.c (.int .i64 0))))])
 (.block 5
 (.loop
 (.seq (.seq (.ops [(mV 109 13),
 (mV 110 12),
 (oP 111 (.bin .lss (.t 109) (.t 110))),
 (mV 112 111),
 (oG 113 112 true (.mv (.t 3))),
 (oG 114 112 true (.nilCheck (.t 113))),
 (oG 115 112 true (.fieldAddr 1 (.t 114))),
 (oG 116 112 true (.load false 1 (.t 115))),
 (oG 117 112 true (.un .not (.t 116))),
 (oP 118 (.pick (.t 112) (.t 117) (.c (.bool false))))])
 (.cond (.t 118)
 .skip
 (.exit 5)))
 (.seq (.block 6
 (.draw [((oP 121 (.fieldAddr 1 (.t 11))), 0),
 ((oP 122 (.load false 1 (.t 121))), 1),
 ((mV 123 3), 0),
 ((oP 124 (.callF 120 [(.t 123), (.c (.int .i64 4))])), 2),
 ((oP 125 (.mkLst 1 false 1 [(.int .i64 0)] [(0, 1, (.t 124))])), 0),
 ((oP 126 (.app 3 1 (.t 122) (.t 125))), 3),
 ((oP 127 (.fieldAddr 1 (.t 11))), 0),
 ((oU (.store 1 (.t 127) (.t 126))), 2)]))
 (.ops [(mV 119 13),
 (oP 120 (.bin .add (.t 119) (.c (.int .i64 1)))),
 (mV 13 120)]))))))
 (.cut (.ops [(oP 128 (.fieldAddr 9 (.t 4))),
 (oP 129 (.load false 1 (.t 128))),
 (oP 130 (.load true 2 (.t 11))),
 (oP 131 (.mkLst 2 true 1 [(.int .i64 0), (.lst 0 [] true)] [(0, 2, (.t 130))])),
 (oP 132 (.app 165 2 (.t 129) (.t 131))),
 (oP 133 (.fieldAddr 9 (.t 4))),
 (oU (.store 1 (.t 133) (.t 132)))]))))))
 (.cut (.ops [(mV 102 10),
 (oP 103 (.bin .add (.t 102) (.c (.int .i64 1)))),
 (mV 10 103)])))))))))
 .skip))))))))
 (.cut (.seq (.ops [(oP 134 (.load true 10 (.t 4))),
 (oU (.store 10 (.t 2) (.t 134)))])
 .ret))))))
theorem F69 : FI 69 1 135 8 [.cell 2 25] c69 := ⟨⟨Tryz.f69, Tryz.func69, by kernel_rfl, by kernel_rfl, by kernel_rfl⟩, by kernel_rfl, by decide, by kernel_rfl⟩
/- f77 understory/understoryref04.SameEntries: 26 temporaries, depth 5, 2 parameters, results [t4] -/
def c77 : RC :=
 (.seq (.ops [(oP 4 (.mv (.c (.bool false))))])
 (.seq (.seq (.ops [(mV 6 0),
 (oP 7 (.lenL (.t 6))),
 (mV 8 1),
 (oP 9 (.lenL (.t 8))),
 (oP 10 (.bin .neq (.t 7) (.t 9)))])
 (.cond (.t 10)
 (.seq (.ops [(oP 4 (.mv (.c (.bool false))))])
 .ret)
 .skip))
 (.seq (.seq (.ops [(oP 5 (.mv (.c (.int .i64 0))))])
 (.block 0
 (.loop
 (.seq (.seq (.ops [(mV 11 5),
 (mV 12 0),
 (oP 13 (.lenL (.t 12))),
 (oP 14 (.bin .lss (.t 11) (.t 13)))])
 (.cond (.t 14)
 .skip
 (.exit 0)))
 (.seq (.block 1
 (.seq (.draw [((mV 17 0), 0),
 ((mV 18 5), 0),
 ((oP 19 (.indexAddrL 22 (.t 17) (.t 18))), 0),
 ((oP 20 (.load true 22 (.t 19))), 1),
 ((mV 21 1), 0),
 ((mV 22 5), 0),
 ((oP 23 (.indexAddrL 22 (.t 21) (.t 22))), 0),
 ((oP 24 (.load true 22 (.t 23))), 1),
 ((oP 25 (.cmp true 56 (.t 20) (.t 24))), 0)])
 (.cond (.t 25)
 (.seq (.ops [(oP 4 (.mv (.c (.bool false))))])
 .ret)
 .skip)))
 (.ops [(mV 15 5),
 (oP 16 (.bin .add (.t 15) (.c (.int .i64 1)))),
 (mV 5 16)]))))))
 (.cut (.seq (.ops [(oP 4 (.mv (.c (.bool true))))])
 .ret)))))
theorem F77 : FI 77 2 26 5 [.tmp 4] c77 := ⟨⟨Tryz.f77, Tryz.func77, by kernel_rfl, by kernel_rfl, by kernel_rfl⟩, by kernel_rfl, by decide, by kernel_rfl⟩
/- f79 understory/understoryref04.number: 19 temporaries, depth 5, 1 parameters, results [t2] -/
def c79 : RC :=
 (.seq (.ops [(oP 2 (.mv (.c (.int .i64 0))))])
 (.seq (.ops [(oP 3 (.mv (.c (.int .i64 0))))])
 (.seq (.seq (.ops [(oP 4 (.mv (.c (.int .i64 0))))])
 (.block 0
 (.loop
 (.seq (.seq (.ops [(mV 5 4),
 (mV 6 0),
 (oP 7 (.lenS (.t 6))),
 (oP 8 (.bin .lss (.t 5) (.t 7)))])
 (.cond (.t 8)
 .skip
 (.exit 0)))
 (.seq (.block 1
 (.ops [(mV 11 3),
 (oP 12 (.bin .mul (.t 11) (.c (.int .i64 256)))),
 (mV 13 0),
 (mV 14 4),
 (oP 15 (.indexS (.t 13) (.t 14))),
 (oP 16 (.toInt .i64 (.t 15))),
 (oP 17 (.bin .add (.t 12) (.t 16))),
 (mV 3 17)]))
 (.ops [(mV 9 4),
 (oP 10 (.bin .add (.t 9) (.c (.int .i64 1)))),
 (mV 4 10)]))))))
 (.cut (.seq (.ops [(mV 18 3),
 (mV 2 18)])
 .ret)))))
theorem F79 : FI 79 1 19 5 [.tmp 2] c79 := ⟨⟨Tryz.f79, Tryz.func79, by kernel_rfl, by kernel_rfl, by kernel_rfl⟩, by kernel_rfl, by decide, by kernel_rfl⟩
/- f103 understory/understoryref04.SameInts: 26 temporaries, depth 5, 2 parameters, results [t4] -/
def c103 : RC :=
 (.seq (.ops [(oP 4 (.mv (.c (.bool false))))])
 (.seq (.seq (.ops [(mV 6 0),
 (oP 7 (.lenL (.t 6))),
 (mV 8 1),
 (oP 9 (.lenL (.t 8))),
 (oP 10 (.bin .neq (.t 7) (.t 9)))])
 (.cond (.t 10)
 (.seq (.ops [(oP 4 (.mv (.c (.bool false))))])
 .ret)
 .skip))
 (.seq (.seq (.ops [(oP 5 (.mv (.c (.int .i64 0))))])
 (.block 0
 (.loop
 (.seq (.seq (.ops [(mV 11 5),
 (mV 12 0),
 (oP 13 (.lenL (.t 12))),
 (oP 14 (.bin .lss (.t 11) (.t 13)))])
 (.cond (.t 14)
 .skip
 (.exit 0)))
 (.seq (.block 1
 (.seq (.draw [((mV 17 0), 0),
 ((mV 18 5), 0),
 ((oP 19 (.indexAddrL 1 (.t 17) (.t 18))), 0),
 ((oP 20 (.load false 1 (.t 19))), 1),
 ((mV 21 1), 0),
 ((mV 22 5), 0),
 ((oP 23 (.indexAddrL 1 (.t 21) (.t 22))), 0),
 ((oP 24 (.load false 1 (.t 23))), 1),
 ((oP 25 (.bin .neq (.t 20) (.t 24))), 0)])
 (.cond (.t 25)
 (.seq (.ops [(oP 4 (.mv (.c (.bool false))))])
 .ret)
 .skip)))
 (.ops [(mV 15 5),
 (oP 16 (.bin .add (.t 15) (.c (.int .i64 1)))),
 (mV 5 16)]))))))
 (.cut (.seq (.ops [(oP 4 (.mv (.c (.bool true))))])
 .ret)))))
theorem F103 : FI 103 2 26 5 [.tmp 4] c103 := ⟨⟨Tryz.f103, Tryz.func103, by kernel_rfl, by kernel_rfl, by kernel_rfl⟩, by kernel_rfl, by decide, by kernel_rfl⟩
/- f106 understory/understoryref04.Valid: 105 temporaries, depth 7, 2 parameters, results [t4] -/
def c106 : RC :=
 (.seq (.ops [(oP 4 (.mv (.c (.bool false))))])
 (.seq (.seq (.ops [(mV 6 1),
 (oP 7 (.bin .lss (.t 6) (.c (.int .i64 0)))),
 (mV 8 7),
 (oG 9 8 false (.mv (.t 1))),
 (oG 10 8 false (.bin .gtr (.t 9) (.c (.int .i64 20)))),
 (oP 11 (.pick (.t 8) (.c (.bool true)) (.t 10))),
 (mV 12 11),
 (oG 13 12 false (.mv (.t 1))),
 (oG 14 12 false (.bin .eql (.t 13) (.c (.int .i64 0)))),
 (oG 15 12 false (.mv (.t 14))),
 (oG 16 15 true (.mv (.t 0))),
 (oG 17 15 true (.lenL (.t 16))),
 (oG 18 15 true (.bin .lss (.t 17) (.c (.int .i64 1)))),
 (oG 19 12 false (.pick (.t 15) (.t 18) (.c (.bool false)))),
 (oP 20 (.pick (.t 12) (.c (.bool true)) (.t 19))),
 (mV 21 20),
 (oG 22 21 false (.mv (.t 1))),
 (oG 23 21 false (.bin .gtr (.t 22) (.c (.int .i64 0)))),
 (oG 24 21 false (.mv (.t 23))),
 (oG 25 24 true (.mv (.t 0))),
 (oG 26 24 true (.lenL (.t 25))),
 (oG 27 24 true (.bin .lss (.t 26) (.c (.int .i64 2)))),
 (oG 28 24 true (.mv (.t 27))),
 (oG 29 28 false (.mv (.t 0))),
 (oG 30 28 false (.indexAddrL 22 (.t 29) (.c (.int .i64 0)))),
 (oG 31 28 false (.fieldAddr 0 (.t 30))),
 (oG 32 28 false (.load false 1 (.t 31))),
 (oG 33 28 false (.bin .neq (.t 32) (.c (.str [])))),
 (oG 34 24 true (.pick (.t 28) (.c (.bool true)) (.t 33))),
 (oG 35 21 false (.pick (.t 24) (.t 34) (.c (.bool false)))),
 (oP 36 (.pick (.t 21) (.c (.bool true)) (.t 35)))])
 (.cond (.t 36)
 (.seq (.ops [(oP 4 (.mv (.c (.bool false))))])
 .ret)
 .skip))
 (.seq (.seq (.ops [(oP 5 (.mv (.c (.int .i64 0))))])
 (.block 0
 (.loop
 (.seq (.seq (.ops [(mV 37 5),
 (mV 38 0),
 (oP 39 (.lenL (.t 38))),
 (oP 40 (.bin .lss (.t 37) (.t 39)))])
 (.cond (.t 40)
 .skip
 (.exit 0)))
 (.seq (.block 1
 (.seq (.seq (.ops [(mV 43 1),
 (oP 44 (.bin .eql (.t 43) (.c (.int .i64 0)))),
 (mV 45 44),
 (oG 46 45 true (.mv (.t 0))),
 (oG 47 45 true (.mv (.t 5))),
 (oG 48 45 true (.indexAddrL 22 (.t 46) (.t 47))),
 (oG 49 45 true (.load true 22 (.t 48))),
 (oG 50 45 true (.callF 141 [(.t 49)])),
 (oG 51 45 true (.un .not (.t 50))),
 (oP 52 (.pick (.t 45) (.t 51) (.c (.bool false)))),
 (mV 53 52),
 (oG 54 53 false (.mv (.t 1))),
 (oG 55 53 false (.bin .gtr (.t 54) (.c (.int .i64 0)))),
 (oG 56 53 false (.mv (.t 55))),
 (oG 57 56 true (.mv (.t 0))),
 (oG 58 56 true (.mv (.t 5))),
 (oG 59 56 true (.indexAddrL 22 (.t 57) (.t 58))),
 (oG 60 56 true (.load true 22 (.t 59))),
 (oG 61 56 true (.callF 142 [(.t 60)])),
 (oG 62 56 true (.un .not (.t 61))),
 (oG 63 53 false (.pick (.t 56) (.t 62) (.c (.bool false)))),
 (oP 64 (.pick (.t 53) (.c (.bool true)) (.t 63)))])
 (.cond (.t 64)
 (.seq (.ops [(oP 4 (.mv (.c (.bool false))))])
 .ret)
 .skip))
 (.seq (.seq (.ops [(mV 65 1),
 (oP 66 (.bin .gtr (.t 65) (.c (.int .i64 0)))),
 (mV 67 66),
 (oG 68 67 true (.mv (.t 5))),
 (oG 69 67 true (.bin .gtr (.t 68) (.c (.int .i64 0)))),
 (oP 70 (.pick (.t 67) (.t 69) (.c (.bool false)))),
 (mV 71 70),
 (oG 72 71 true (.mv (.t 0))),
 (oG 73 71 true (.mv (.t 5))),
 (oG 74 71 true (.indexAddrL 22 (.t 72) (.t 73))),
 (oG 75 71 true (.fieldAddr 0 (.t 74))),
 (oG 76 71 true (.load false 1 (.t 75))),
 (oG 77 71 true (.lenS (.t 76))),
 (oG 78 71 true (.bin .lss (.t 77) (.c (.int .i64 1)))),
 (oG 79 71 true (.mv (.t 78))),
 (oG 80 79 false (.mv (.t 0))),
 (oG 81 79 false (.mv (.t 5))),
 (oG 82 79 false (.indexAddrL 22 (.t 80) (.t 81))),
 (oG 83 79 false (.fieldAddr 0 (.t 82))),
 (oG 84 79 false (.load false 1 (.t 83))),
 (oG 85 79 false (.lenS (.t 84))),
 (oG 86 79 false (.bin .gtr (.t 85) (.c (.int .i64 48)))),
 (oG 87 71 true (.pick (.t 79) (.c (.bool true)) (.t 86))),
 (oP 88 (.pick (.t 71) (.t 87) (.c (.bool false))))])
 (.cond (.t 88)
 (.seq (.ops [(oP 4 (.mv (.c (.bool false))))])
 .ret)
 .skip))
 (.seq (.draw [((mV 89 5), 0),
 ((oP 90 (.bin .gtr (.t 89) (.c (.int .i64 0)))), 0),
 ((mV 91 90), 0),
 ((oG 92 91 true (.mv (.t 0))), 0),
 ((oG 93 91 true (.mv (.t 5))), 0),
 ((oG 94 91 true (.indexAddrL 22 (.t 92) (.t 93))), 0),
 ((oG 95 91 true (.fieldAddr 0 (.t 94))), 0),
 ((oG 96 91 true (.load false 1 (.t 95))), 1),
 ((oG 97 91 true (.mv (.t 0))), 0),
 ((oG 98 91 true (.mv (.t 5))), 0),
 ((oG 99 91 true (.bin .sub (.t 98) (.c (.int .i64 1)))), 0),
 ((oG 100 91 true (.indexAddrL 22 (.t 97) (.t 99))), 0),
 ((oG 101 91 true (.fieldAddr 0 (.t 100))), 0),
 ((oG 102 91 true (.load false 1 (.t 101))), 1),
 ((oG 103 91 true (.bin .leq (.t 96) (.t 102))), 0),
 ((oP 104 (.pick (.t 91) (.t 103) (.c (.bool false)))), 0)])
 (.cond (.t 104)
 (.seq (.ops [(oP 4 (.mv (.c (.bool false))))])
 .ret)
 .skip)))))
 (.ops [(mV 41 5),
 (oP 42 (.bin .add (.t 41) (.c (.int .i64 1)))),
 (mV 5 42)]))))))
 (.cut (.seq (.ops [(oP 4 (.mv (.c (.bool true))))])
 .ret)))))
theorem F106 : FI 106 2 105 7 [.tmp 4] c106 := ⟨⟨Tryz.f106, Tryz.func106, by kernel_rfl, by kernel_rfl, by kernel_rfl⟩, by kernel_rfl, by decide, by kernel_rfl⟩
/- f107 understory/understoryref04.Weight: 72 temporaries, depth 7, 2 parameters, results [*t4] -/
def c107 : RC :=
 (.seq (.ops [(oP 4 (.alloc 92 [(.int .i64 0), (.int .i64 0)]))])
 (.seq (.seq (.ops [(mV 7 1),
 (oP 8 (.bin .lss (.t 7) (.c (.int .i64 0)))),
 (mV 9 8),
 (oG 10 9 false (.mv (.t 1))),
 (oG 11 9 false (.bin .gtr (.t 10) (.c (.int .i64 20)))),
 (oP 12 (.pick (.t 9) (.c (.bool true)) (.t 11)))])
 (.cond (.t 12)
 (.seq (.ops [(oP 13 (.build [(.int .i64 0), (.int .i64 0)] [(1, 1, (.c (.int .i64 2)))])),
 (oU (.store 2 (.t 4) (.t 13)))])
 .ret)
 .skip))
 (.seq (.ops [(oP 5 (.mv (.c (.int .i64 6))))])
 (.seq (.seq (.ops [(oP 6 (.mv (.c (.int .i64 0))))])
 (.block 0
 (.loop
 (.seq (.seq (.ops [(mV 14 6),
 (mV 15 0),
 (oP 16 (.lenL (.t 15))),
 (oP 17 (.bin .lss (.t 14) (.t 16)))])
 (.cond (.t 17)
 .skip
 (.exit 0)))
 (.seq (.block 1
 (.seq (.seq (.ops [(mV 20 1),
 (oP 21 (.bin .eql (.t 20) (.c (.int .i64 0)))),
 (mV 22 21),
 (oG 23 22 true (.mv (.t 0))),
 (oG 24 22 true (.mv (.t 6))),
 (oG 25 22 true (.indexAddrL 22 (.t 23) (.t 24))),
 (oG 26 22 true (.load true 22 (.t 25))),
 (oG 27 22 true (.callF 141 [(.t 26)])),
 (oG 28 22 true (.un .not (.t 27))),
 (oP 29 (.pick (.t 22) (.t 28) (.c (.bool false)))),
 (mV 30 29),
 (oG 31 30 false (.mv (.t 1))),
 (oG 32 30 false (.bin .gtr (.t 31) (.c (.int .i64 0)))),
 (oG 33 30 false (.mv (.t 32))),
 (oG 34 33 true (.mv (.t 0))),
 (oG 35 33 true (.mv (.t 6))),
 (oG 36 33 true (.indexAddrL 22 (.t 34) (.t 35))),
 (oG 37 33 true (.load true 22 (.t 36))),
 (oG 38 33 true (.callF 142 [(.t 37)])),
 (oG 39 33 true (.un .not (.t 38))),
 (oG 40 33 true (.mv (.t 39))),
 (oG 41 40 false (.mv (.t 0))),
 (oG 42 40 false (.mv (.t 6))),
 (oG 43 40 false (.indexAddrL 22 (.t 41) (.t 42))),
 (oG 44 40 false (.fieldAddr 0 (.t 43))),
 (oG 45 40 false (.load false 1 (.t 44))),
 (oG 46 40 false (.lenS (.t 45))),
 (oG 47 40 false (.bin .gtr (.t 46) (.c (.int .i64 48)))),
 (oG 48 33 true (.pick (.t 40) (.c (.bool true)) (.t 47))),
 (oG 49 30 false (.pick (.t 33) (.t 48) (.c (.bool false)))),
 (oP 50 (.pick (.t 30) (.c (.bool true)) (.t 49)))])
 (.cond (.t 50)
 (.seq (.ops [(oP 51 (.build [(.int .i64 0), (.int .i64 0)] [(1, 1, (.c (.int .i64 2)))])),
 (oU (.store 2 (.t 4) (.t 51)))])
 .ret)
 .skip))
 (.draw [((mV 52 5), 0),
 ((oP 53 (.bin .add (.t 52) (.c (.int .i64 2)))), 0),
 ((oP 54 (.bin .add (.t 53) (.c (.int .i64 1)))), 0),
 ((mV 55 0), 0),
 ((mV 56 6), 0),
 ((oP 57 (.indexAddrL 22 (.t 55) (.t 56))), 0),
 ((oP 58 (.fieldAddr 0 (.t 57))), 0),
 ((oP 59 (.load false 1 (.t 58))), 1),
 ((oP 60 (.lenS (.t 59))), 0),
 ((oP 61 (.bin .add (.t 54) (.t 60))), 0),
 ((mV 62 0), 0),
 ((mV 63 6), 0),
 ((oP 64 (.indexAddrL 22 (.t 62) (.t 63))), 0),
 ((oP 65 (.load true 22 (.t 64))), 1),
 ((mV 66 1), 0),
 ((oP 67 (.callF 143 [(.t 65), (.t 66)])), 0),
 ((oP 68 (.lenS (.t 67))), 0),
 ((oP 69 (.bin .add (.t 61) (.t 68))), 0),
 ((mV 5 69), 0)])))
 (.ops [(mV 18 6),
 (oP 19 (.bin .add (.t 18) (.c (.int .i64 1)))),
 (mV 6 19)]))))))
 (.cut (.seq (.ops [(mV 70 5),
 (oP 71 (.build [(.int .i64 0), (.int .i64 0)] [(0, 1, (.t 70))])),
 (oU (.store 2 (.t 4) (.t 71)))])
 .ret))))))
theorem F107 : FI 107 2 72 7 [.cell 4 92] c107 := ⟨⟨Tryz.f107, Tryz.func107, by kernel_rfl, by kernel_rfl, by kernel_rfl⟩, by kernel_rfl, by decide, by kernel_rfl⟩
/- f113 understory/understoryref04.flag: 4 temporaries, depth 3, 1 parameters, results [t2] -/
def c113 : RC :=
 (.seq (.ops [(oP 2 (.mv (.c (.int .i64 0))))])
 (.seq (.seq (.ops [(mV 3 0)])
 (.cond (.t 3)
 (.seq (.ops [(oP 2 (.mv (.c (.int .i64 1))))])
 .ret)
 .skip))
 (.seq (.ops [(oP 2 (.mv (.c (.int .i64 0))))])
 .ret)))
theorem F113 : FI 113 1 4 3 [.tmp 2] c113 := ⟨⟨Tryz.f113, Tryz.func113, by kernel_rfl, by kernel_rfl, by kernel_rfl⟩, by kernel_rfl, by decide, by kernel_rfl⟩
/- f114 understory/understoryref04.Prefix: 56 temporaries, depth 6, 2 parameters, results [t4] -/
def c114 : RC :=
 (.seq (.ops [(oP 4 (.mv (.c (.str []))))])
 (.seq (.ops [(oP 5 (.mv (.c (.int .i64 0))))])
 (.seq (.seq (.ops [(mV 9 1),
 (oP 10 (.bin .gtr (.t 9) (.c (.int .i64 0))))])
 (.cond (.t 10)
 (.ops [(oP 5 (.mv (.c (.int .i64 1))))])
 .skip))
 (.seq (.ops [(mV 11 0),
 (mV 12 5),
 (oP 13 (.indexAddrL 22 (.t 11) (.t 12))),
 (oP 14 (.fieldAddr 0 (.t 13))),
 (oP 15 (.load false 1 (.t 14))),
 (mV 6 15)])
 (.seq (.seq (.ops [(mV 16 5),
 (mV 7 16)])
 (.block 0
 (.loop
 (.seq (.seq (.ops [(mV 17 7),
 (mV 18 0),
 (oP 19 (.lenL (.t 18))),
 (oP 20 (.bin .lss (.t 17) (.t 19)))])
 (.cond (.t 20)
 .skip
 (.exit 0)))
 (.seq (.block 1
 (.seq (.ops [(oP 8 (.mv (.c (.int .i64 0))))])
 (.seq (.block 2
 (.loop
 (.seq (.seq (.draw [((mV 23 8), 0),
 ((mV 24 6), 0),
 ((oP 25 (.lenS (.t 24))), 0),
 ((oP 26 (.bin .lss (.t 23) (.t 25))), 0),
 ((mV 27 26), 0),
 ((oG 28 27 true (.mv (.t 8))), 0),
 ((oG 29 27 true (.mv (.t 0))), 0),
 ((oG 30 27 true (.mv (.t 7))), 0),
 ((oG 31 27 true (.indexAddrL 22 (.t 29) (.t 30))), 0),
 ((oG 32 27 true (.fieldAddr 0 (.t 31))), 0),
 ((oG 33 27 true (.load false 1 (.t 32))), 1),
 ((oG 34 27 true (.lenS (.t 33))), 0),
 ((oG 35 27 true (.bin .lss (.t 28) (.t 34))), 0),
 ((oP 36 (.pick (.t 27) (.t 35) (.c (.bool false)))), 0),
 ((mV 37 36), 0),
 ((oG 38 37 true (.mv (.t 6))), 0),
 ((oG 39 37 true (.mv (.t 8))), 0),
 ((oG 40 37 true (.indexS (.t 38) (.t 39))), 0),
 ((oG 41 37 true (.mv (.t 0))), 0),
 ((oG 42 37 true (.mv (.t 7))), 0),
 ((oG 43 37 true (.indexAddrL 22 (.t 41) (.t 42))), 0),
 ((oG 44 37 true (.fieldAddr 0 (.t 43))), 0),
 ((oG 45 37 true (.load false 1 (.t 44))), 1),
 ((oG 46 37 true (.mv (.t 8))), 0),
 ((oG 47 37 true (.indexS (.t 45) (.t 46))), 0),
 ((oG 48 37 true (.bin .eql (.t 40) (.t 47))), 0),
 ((oP 49 (.pick (.t 37) (.t 48) (.c (.bool false)))), 0)])
 (.cond (.t 49)
 .skip
 (.exit 2)))
 (.block 3
 (.ops [(mV 50 8),
 (oP 51 (.bin .add (.t 50) (.c (.int .i64 1)))),
 (mV 8 51)])))))
 (.cut (.ops [(mV 52 6),
 (mV 53 8),
 (oP 54 (.sliceS (.t 52) none (some (.t 53)))),
 (mV 6 54)])))))
 (.cut (.ops [(mV 21 7),
 (oP 22 (.bin .add (.t 21) (.c (.int .i64 1)))),
 (mV 7 22)])))))))
 (.cut (.seq (.ops [(mV 55 6),
 (mV 4 55)])
 .ret)))))))
theorem F114 : FI 114 2 56 6 [.tmp 4] c114 := ⟨⟨Tryz.f114, Tryz.func114, by kernel_rfl, by kernel_rfl, by kernel_rfl⟩, by kernel_rfl, by decide, by kernel_rfl⟩
/- f115 understory/understoryref04.entries: 59 temporaries, depth 6, 3 parameters, results [t6] -/
def c115 : RC :=
 (.seq (.ops [(oP 6 (.mv (.c (.str []))))])
 (.seq (.ops [(mV 12 0),
 (mV 13 1),
 (oP 14 (.callF 114 [(.t 12), (.t 13)])),
 (mV 7 14)])
 (.seq (.ops [(oP 8 (.mv (.c (.str []))))])
 (.seq (.ops [(oP 9 (.mv (.c (.str []))))])
 (.seq (.ops [(mV 15 2),
 (mV 16 7),
 (oP 17 (.lenS (.t 16))),
 (oP 18 (.bin .add (.t 15) (.t 17))),
 (mV 19 0),
 (oP 20 (.lenL (.t 19))),
 (oP 21 (.bin .mul (.c (.int .i64 2)) (.t 20))),
 (oP 22 (.bin .add (.t 18) (.t 21))),
 (mV 2 22)])
 (.seq (.seq (.ops [(oP 10 (.mv (.c (.int .i64 0))))])
 (.block 0
 (.loop
 (.seq (.seq (.ops [(mV 23 10),
 (mV 24 0),
 (oP 25 (.lenL (.t 24))),
 (oP 26 (.bin .lss (.t 23) (.t 25)))])
 (.cond (.t 26)
 .skip
 (.exit 0)))
 (.seq (.block 1
 (.seq (.ops [(mV 29 0),
 (mV 30 1),
 (mV 31 10),
 (oP 32 (.callF 150 [(.t 29), (.t 30), (.t 31)])),
 (mV 11 32)])
 (.seq (.ops [(mV 33 8),
 (mV 34 2),
 (mV 35 9),
 (oP 36 (.lenS (.t 35))),
 (oP 37 (.bin .add (.t 34) (.t 36))),
 (oP 38 (.callF 64 [(.t 37), (.c (.int .i64 2))])),
 (oP 39 (.bin .add (.t 33) (.t 38))),
 (mV 8 39)])
 (.draw [((mV 40 9), 0),
 ((mV 41 11), 0),
 ((oP 42 (.lenS (.t 41))), 0),
 ((oP 43 (.callF 64 [(.t 42), (.c (.int .i64 1))])), 0),
 ((oP 44 (.bin .add (.t 40) (.t 43))), 0),
 ((mV 45 11), 0),
 ((oP 46 (.bin .add (.t 44) (.t 45))), 0),
 ((mV 47 0), 0),
 ((mV 48 10), 0),
 ((oP 49 (.indexAddrL 22 (.t 47) (.t 48))), 0),
 ((oP 50 (.load true 22 (.t 49))), 1),
 ((mV 51 1), 0),
 ((oP 52 (.callF 143 [(.t 50), (.t 51)])), 0),
 ((oP 53 (.bin .add (.t 46) (.t 52))), 0),
 ((mV 9 53), 0)]))))
 (.ops [(mV 27 10),
 (oP 28 (.bin .add (.t 27) (.c (.int .i64 1)))),
 (mV 10 28)]))))))
 (.cut (.seq (.ops [(mV 54 7),
 (mV 55 8),
 (oP 56 (.bin .add (.t 54) (.t 55))),
 (mV 57 9),
 (oP 58 (.bin .add (.t 56) (.t 57))),
 (mV 6 58)])
 .ret))))))))
theorem F115 : FI 115 3 59 6 [.tmp 6] c115 := ⟨⟨Tryz.f115, Tryz.func115, by kernel_rfl, by kernel_rfl, by kernel_rfl⟩, by kernel_rfl, by decide, by kernel_rfl⟩
/- f116 understory/understoryref04.reversed: 26 temporaries, depth 5, 1 parameters, results [t2] -/
def c116 : RC :=
 (.seq (.ops [(oP 2 (.mv (.c (.str []))))])
 (.seq (.ops [(mV 5 0),
 (oP 6 (.lenS (.t 5))),
 (oP 7 (.mkSl 5 1 [(.int .u8 0)] (.t 6) (.t 6))),
 (mV 3 7)])
 (.seq (.seq (.ops [(oP 4 (.mv (.c (.int .i64 0))))])
 (.block 0
 (.loop
 (.seq (.seq (.ops [(mV 8 4),
 (mV 9 0),
 (oP 10 (.lenS (.t 9))),
 (oP 11 (.bin .lss (.t 8) (.t 10)))])
 (.cond (.t 11)
 .skip
 (.exit 0)))
 (.seq (.block 1
 (.ops [(mV 14 3),
 (mV 15 0),
 (oP 16 (.lenS (.t 15))),
 (oP 17 (.bin .sub (.t 16) (.c (.int .i64 1)))),
 (mV 18 4),
 (oP 19 (.bin .sub (.t 17) (.t 18))),
 (mV 20 0),
 (mV 21 4),
 (oP 22 (.indexS (.t 20) (.t 21))),
 (oP 23 (.indexAddrL 1 (.t 14) (.t 19))),
 (oU (.store 1 (.t 23) (.t 22)))]))
 (.ops [(mV 12 4),
 (oP 13 (.bin .add (.t 12) (.c (.int .i64 1)))),
 (mV 4 13)]))))))
 (.cut (.seq (.ops [(mV 24 3),
 (oP 25 (.bytesStr (.t 24))),
 (mV 2 25)])
 .ret)))))
theorem F116 : FI 116 1 26 5 [.tmp 2] c116 := ⟨⟨Tryz.f116, Tryz.func116, by kernel_rfl, by kernel_rfl, by kernel_rfl⟩, by kernel_rfl, by decide, by kernel_rfl⟩
/- f117 understory/understoryref02.CRC: 5 temporaries, depth 3, 1 parameters, results [t2] -/
def c117 : RC :=
 (.seq (.ops [(oP 2 (.mv (.c (.int .u32 0))))])
 (.seq (.ops [(mV 3 0),
 (oP 4 (.callF 151 [(.c (.int .u32 0)), (.t 3)])),
 (mV 2 4)])
 .ret))
theorem F117 : FI 117 1 5 3 [.tmp 2] c117 := ⟨⟨Tryz.f117, Tryz.func117, by kernel_rfl, by kernel_rfl, by kernel_rfl⟩, by kernel_rfl, by decide, by kernel_rfl⟩
/- f120 (*understory/understoryref04.reader).num: 9 temporaries, depth 4, 2 parameters, results [t4] -/
def c120 : RC :=
 (.seq (.ops [(oP 4 (.mv (.c (.int .i64 0))))])
 (.seq (.ops [(mV 5 0),
 (mV 6 1),
 (oP 7 (.callF 121 [(.t 5), (.t 6)])),
 (oP 8 (.callF 79 [(.t 7)])),
 (mV 4 8)])
 .ret))
theorem F120 : FI 120 2 9 4 [.tmp 4] c120 := ⟨⟨Tryz.f120, Tryz.func120, by kernel_rfl, by kernel_rfl, by kernel_rfl⟩, by kernel_rfl, by decide, by kernel_rfl⟩
/- f121 (*understory/understoryref04.reader).take: 42 temporaries, depth 6, 2 parameters, results [t4] -/
def c121 : RC :=
 (.seq (.ops [(oP 4 (.mv (.c (.str []))))])
 (.seq (.seq (.ops [(mV 6 1),
 (oP 7 (.bin .lss (.t 6) (.c (.int .i64 0)))),
 (mV 8 7),
 (oG 9 8 false (.mv (.t 1))),
 (oG 10 8 false (.mv (.t 0))),
 (oG 11 8 false (.nilCheck (.t 10))),
 (oG 12 8 false (.fieldAddr 0 (.t 11))),
 (oG 13 8 false (.load false 1 (.t 12))),
 (oG 14 8 false (.lenS (.t 13))),
 (oG 15 8 false (.bin .gtr (.t 9) (.t 14))),
 (oP 16 (.pick (.t 8) (.c (.bool true)) (.t 15))),
 (mV 17 16),
 (oG 18 17 false (.mv (.t 0))),
 (oG 19 17 false (.nilCheck (.t 18))),
 (oG 20 17 false (.fieldAddr 1 (.t 19))),
 (oG 21 17 false (.load false 1 (.t 20))),
 (oP 22 (.pick (.t 17) (.c (.bool true)) (.t 21)))])
 (.cond (.t 22)
 (.seq (.ops [(mV 23 0),
 (oP 24 (.nilCheck (.t 23))),
 (oP 25 (.fieldAddr 1 (.t 24))),
 (oU (.store 1 (.t 25) (.c (.bool true))))])
 (.seq (.ops [(oP 4 (.mv (.c (.str []))))])
 .ret))
 .skip))
 (.seq (.ops [(mV 26 0),
 (oP 27 (.nilCheck (.t 26))),
 (oP 28 (.fieldAddr 0 (.t 27))),
 (oP 29 (.load false 1 (.t 28))),
 (mV 30 1),
 (oP 31 (.sliceS (.t 29) none (some (.t 30)))),
 (mV 5 31)])
 (.seq (.ops [(mV 32 0),
 (mV 33 0),
 (oP 34 (.nilCheck (.t 33))),
 (oP 35 (.fieldAddr 0 (.t 34))),
 (oP 36 (.load false 1 (.t 35))),
 (mV 37 1),
 (oP 38 (.sliceS (.t 36) (some (.t 37)) none)),
 (oP 39 (.nilCheck (.t 32))),
 (oP 40 (.fieldAddr 0 (.t 39))),
 (oU (.store 1 (.t 40) (.t 38)))])
 (.seq (.ops [(mV 41 5),
 (mV 4 41)])
 .ret)))))
theorem F121 : FI 121 2 42 6 [.tmp 4] c121 := ⟨⟨Tryz.f121, Tryz.func121, by kernel_rfl, by kernel_rfl, by kernel_rfl⟩, by kernel_rfl, by decide, by kernel_rfl⟩
/- f122 (*understory/understoryref04.reader).entry: 69 temporaries, depth 7, 4 parameters, results [*t8] -/
def c122 : RC :=
 (.seq (.ops [(oP 8 (.alloc 56 [(.str []), (.str []), (.int .i64 0), (.int .i64 0), (.int .i64 0), (.int .i64 0), (.int .u8 0), (.int .u8 0), (.int .u8 0), (.int .u8 0), (.int .u8 0), (.int .u8 0), (.int .u8 0), (.int .u8 0), (.int .u8 0), (.int .u8 0), (.int .u8 0), (.int .u8 0), (.int .u8 0), (.int .u8 0), (.int .u8 0), (.int .u8 0)]))])
 (.seq (.ops [(oP 9 (.alloc 56 [(.str []), (.str []), (.int .i64 0), (.int .i64 0), (.int .i64 0), (.int .i64 0), (.int .u8 0), (.int .u8 0), (.int .u8 0), (.int .u8 0), (.int .u8 0), (.int .u8 0), (.int .u8 0), (.int .u8 0), (.int .u8 0), (.int .u8 0), (.int .u8 0), (.int .u8 0), (.int .u8 0), (.int .u8 0), (.int .u8 0), (.int .u8 0)]))])
 (.seq (.ops [(mV 11 0),
 (mV 12 0),
 (oP 13 (.callF 120 [(.t 12), (.c (.int .i64 1))])),
 (oP 14 (.callF 121 [(.t 11), (.t 13)])),
 (oP 15 (.fieldAddr 0 (.t 9))),
 (oU (.store 1 (.t 15) (.t 14)))])
 (.seq (.seq (.ops [(mV 16 2),
 (oP 17 (.bin .eql (.t 16) (.c (.int .i64 0)))),
 (mV 18 17),
 (oG 19 18 false (.mv (.t 3))),
 (oG 20 18 false (.un .not (.t 19))),
 (oP 21 (.pick (.t 18) (.c (.bool true)) (.t 20)))])
 (.cond (.t 21)
 (.ops [(mV 22 1),
 (oP 23 (.fieldAddr 0 (.t 9))),
 (oP 24 (.load false 1 (.t 23))),
 (oP 25 (.bin .add (.t 22) (.t 24))),
 (oP 26 (.fieldAddr 0 (.t 9))),
 (oU (.store 1 (.t 26) (.t 25)))])
 .skip))
 (.seq (.seq (.ops [(mV 27 2),
 (oP 28 (.bin .gtr (.t 27) (.c (.int .i64 0))))])
 (.cond (.t 28)
 (.seq (.ops [(mV 29 0),
 (oP 30 (.callF 120 [(.t 29), (.c (.int .i64 4))])),
 (oP 31 (.fieldAddr 4 (.t 9))),
 (oU (.store 1 (.t 31) (.t 30)))])
 (.seq (.ops [(mV 32 0),
 (oP 33 (.callF 120 [(.t 32), (.c (.int .i64 4))])),
 (oP 34 (.fieldAddr 5 (.t 9))),
 (oU (.store 1 (.t 34) (.t 33)))])
 (.seq (.ops [(mV 35 0),
 (oP 36 (.callF 153 [(.t 35)])),
 (oP 37 (.fieldAddr 6 (.t 9))),
 (oU (.store 16 (.t 37) (.t 36)))])
 (.seq (.ops [(oP 38 (.load true 22 (.t 9))),
 (oU (.store 22 (.t 8) (.t 38)))])
 .ret))))
 .skip))
 (.seq (.ops [(mV 39 0),
 (oP 40 (.callF 120 [(.t 39), (.c (.int .i64 2))])),
 (mV 10 40)])
 (.seq (.seq (.ops [(mV 41 10)])
 (.block 0
 (.seq (.ops [(oP 47 (.bin .eql (.t 41) (.c (.int .i64 65534)))),
 (mV 46 47)])
 (.cond (.t 46)
 (.seq (.ops [(mV 48 0),
 (oP 49 (.callF 120 [(.t 48), (.c (.int .i64 4))])),
 (oP 50 (.fieldAddr 4 (.t 9))),
 (oU (.store 1 (.t 50) (.t 49)))])
 (.seq (.ops [(mV 51 0),
 (oP 52 (.callF 120 [(.t 51), (.c (.int .i64 4))])),
 (oP 53 (.fieldAddr 5 (.t 9))),
 (oU (.store 1 (.t 53) (.t 52)))])
 (.ops [(mV 54 0),
 (oP 55 (.callF 153 [(.t 54)])),
 (oP 56 (.fieldAddr 6 (.t 9))),
 (oU (.store 16 (.t 56) (.t 55)))])))
 (.seq (.ops [(oP 58 (.bin .eql (.t 41) (.c (.int .i64 65535)))),
 (mV 57 58)])
 (.cond (.t 57)
 (.seq (.ops [(mV 59 0),
 (oP 60 (.callF 120 [(.t 59), (.c (.int .i64 4))])),
 (oP 61 (.fieldAddr 2 (.t 9))),
 (oU (.store 1 (.t 61) (.t 60)))])
 (.seq (.ops [(mV 62 0),
 (oP 63 (.callF 120 [(.t 62), (.c (.int .i64 2))])),
 (oP 64 (.fieldAddr 3 (.t 9))),
 (oU (.store 1 (.t 64) (.t 63)))])
 (.ops [(mV 65 0),
 (oP 66 (.callF 153 [(.t 65)])),
 (oP 67 (.fieldAddr 6 (.t 9))),
 (oU (.store 16 (.t 67) (.t 66)))])))
 (.ops [(mV 42 0),
 (mV 43 10),
 (oP 44 (.callF 121 [(.t 42), (.t 43)])),
 (oP 45 (.fieldAddr 1 (.t 9))),
 (oU (.store 1 (.t 45) (.t 44)))])))))))
 (.seq (.ops [(oP 68 (.load true 22 (.t 9))),
 (oU (.store 22 (.t 8) (.t 68)))])
 .ret))))))))
theorem F122 : FI 122 4 69 7 [.cell 8 56] c122 := ⟨⟨Tryz.f122, Tryz.func122, by kernel_rfl, by kernel_rfl, by kernel_rfl⟩, by kernel_rfl, by decide, by kernel_rfl⟩
/- f141 understory/understoryref04.leafEntry: 85 temporaries, depth 7, 1 parameters, results [t2] -/
def c141 : RC :=
 (.seq (.ops [(oP 1 (.box 56 (.t 0))),
 (oP 2 (.mv (.c (.bool false))))])
 (.seq (.seq (.ops [(oP 3 (.fieldAddr 0 (.t 1))),
 (oP 4 (.load false 1 (.t 3))),
 (oP 5 (.lenS (.t 4))),
 (oP 6 (.bin .lss (.t 5) (.c (.int .i64 1)))),
 (mV 7 6),
 (oG 8 7 false (.fieldAddr 0 (.t 1))),
 (oG 9 7 false (.load false 1 (.t 8))),
 (oG 10 7 false (.lenS (.t 9))),
 (oG 11 7 false (.bin .gtr (.t 10) (.c (.int .i64 48)))),
 (oP 12 (.pick (.t 7) (.c (.bool true)) (.t 11)))])
 (.cond (.t 12)
 (.seq (.ops [(oP 2 (.mv (.c (.bool false))))])
 .ret)
 .skip))
 (.seq (.seq (.ops [(oP 13 (.fieldAddr 4 (.t 1))),
 (oP 14 (.load false 1 (.t 13))),
 (oP 15 (.bin .neq (.t 14) (.c (.int .i64 0))))])
 (.cond (.t 15)
 (.seq (.ops [(oP 16 (.fieldAddr 4 (.t 1))),
 (oP 17 (.load false 1 (.t 16))),
 (oP 18 (.callF 50 [(.t 17)])),
 (mV 19 18),
 (oG 20 19 true (.fieldAddr 5 (.t 1))),
 (oG 21 19 true (.load false 1 (.t 20))),
 (oG 22 19 true (.callF 165 [(.t 21)])),
 (oP 23 (.pick (.t 19) (.t 22) (.c (.bool false)))),
 (mV 24 23),
 (oG 25 24 true (.fieldAddr 1 (.t 1))),
 (oG 26 24 true (.load false 1 (.t 25))),
 (oG 27 24 true (.bin .eql (.t 26) (.c (.str [])))),
 (oP 28 (.pick (.t 24) (.t 27) (.c (.bool false)))),
 (mV 29 28),
 (oG 30 29 true (.fieldAddr 2 (.t 1))),
 (oG 31 29 true (.load false 1 (.t 30))),
 (oG 32 29 true (.bin .eql (.t 31) (.c (.int .i64 0)))),
 (oP 33 (.pick (.t 29) (.t 32) (.c (.bool false)))),
 (mV 34 33),
 (oG 35 34 true (.fieldAddr 3 (.t 1))),
 (oG 36 34 true (.load false 1 (.t 35))),
 (oG 37 34 true (.bin .eql (.t 36) (.c (.int .i64 0)))),
 (oP 38 (.pick (.t 34) (.t 37) (.c (.bool false)))),
 (mV 2 38)])
 .ret)
 .skip))
 (.seq (.seq (.ops [(oP 39 (.fieldAddr 2 (.t 1))),
 (oP 40 (.load false 1 (.t 39))),
 (oP 41 (.bin .neq (.t 40) (.c (.int .i64 0))))])
 (.cond (.t 41)
 (.seq (.ops [(oP 42 (.fieldAddr 2 (.t 1))),
 (oP 43 (.load false 1 (.t 42))),
 (oP 44 (.callF 50 [(.t 43)])),
 (mV 45 44),
 (oG 46 45 true (.fieldAddr 3 (.t 1))),
 (oG 47 45 true (.load false 1 (.t 46))),
 (oG 48 45 true (.bin .gtr (.t 47) (.c (.int .i64 64)))),
 (oP 49 (.pick (.t 45) (.t 48) (.c (.bool false)))),
 (mV 50 49),
 (oG 51 50 true (.fieldAddr 3 (.t 1))),
 (oG 52 50 true (.load false 1 (.t 51))),
 (oG 53 50 true (.bin .leq (.t 52) (.c (.int .i64 4000)))),
 (oP 54 (.pick (.t 50) (.t 53) (.c (.bool false)))),
 (mV 55 54),
 (oG 56 55 true (.fieldAddr 1 (.t 1))),
 (oG 57 55 true (.load false 1 (.t 56))),
 (oG 58 55 true (.bin .eql (.t 57) (.c (.str [])))),
 (oP 59 (.pick (.t 55) (.t 58) (.c (.bool false)))),
 (mV 60 59),
 (oG 61 60 true (.fieldAddr 5 (.t 1))),
 (oG 62 60 true (.load false 1 (.t 61))),
 (oG 63 60 true (.bin .eql (.t 62) (.c (.int .i64 0)))),
 (oP 64 (.pick (.t 60) (.t 63) (.c (.bool false)))),
 (mV 2 64)])
 .ret)
 .skip))
 (.seq (.ops [(oP 65 (.fieldAddr 1 (.t 1))),
 (oP 66 (.load false 1 (.t 65))),
 (oP 67 (.lenS (.t 66))),
 (oP 68 (.bin .leq (.t 67) (.c (.int .i64 64)))),
 (mV 69 68),
 (oG 70 69 true (.fieldAddr 3 (.t 1))),
 (oG 71 69 true (.load false 1 (.t 70))),
 (oG 72 69 true (.bin .eql (.t 71) (.c (.int .i64 0)))),
 (oP 73 (.pick (.t 69) (.t 72) (.c (.bool false)))),
 (mV 74 73),
 (oG 75 74 true (.fieldAddr 5 (.t 1))),
 (oG 76 74 true (.load false 1 (.t 75))),
 (oG 77 74 true (.bin .eql (.t 76) (.c (.int .i64 0)))),
 (oP 78 (.pick (.t 74) (.t 77) (.c (.bool false)))),
 (mV 79 78),
 (oG 80 79 true (.fieldAddr 6 (.t 1))),
 (oG 81 79 true (.load true 16 (.t 80))),
 (oG 82 79 true (.build [(.int .u8 0), (.int .u8 0), (.int .u8 0), (.int .u8 0), (.int .u8 0), (.int .u8 0), (.int .u8 0), (.int .u8 0), (.int .u8 0), (.int .u8 0), (.int .u8 0), (.int .u8 0), (.int .u8 0), (.int .u8 0), (.int .u8 0), (.int .u8 0)] [])),
 (oG 83 79 true (.cmp false 54 (.t 81) (.t 82))),
 (oP 84 (.pick (.t 79) (.t 83) (.c (.bool false)))),
 (mV 2 84)])
 .ret)))))
theorem F141 : FI 141 1 85 7 [.tmp 2] c141 := ⟨⟨Tryz.f141, Tryz.func141, by kernel_rfl, by kernel_rfl, by kernel_rfl⟩, by kernel_rfl, by decide, by kernel_rfl⟩
/- f142 understory/understoryref04.branchEntry: 26 temporaries, depth 5, 1 parameters, results [t2] -/
def c142 : RC :=
 (.seq (.ops [(oP 1 (.box 56 (.t 0))),
 (oP 2 (.mv (.c (.bool false))))])
 (.seq (.ops [(oP 3 (.fieldAddr 4 (.t 1))),
 (oP 4 (.load false 1 (.t 3))),
 (oP 5 (.callF 50 [(.t 4)])),
 (mV 6 5),
 (oG 7 6 true (.fieldAddr 5 (.t 1))),
 (oG 8 6 true (.load false 1 (.t 7))),
 (oG 9 6 true (.callF 165 [(.t 8)])),
 (oP 10 (.pick (.t 6) (.t 9) (.c (.bool false)))),
 (mV 11 10),
 (oG 12 11 true (.fieldAddr 1 (.t 1))),
 (oG 13 11 true (.load false 1 (.t 12))),
 (oG 14 11 true (.bin .eql (.t 13) (.c (.str [])))),
 (oP 15 (.pick (.t 11) (.t 14) (.c (.bool false)))),
 (mV 16 15),
 (oG 17 16 true (.fieldAddr 2 (.t 1))),
 (oG 18 16 true (.load false 1 (.t 17))),
 (oG 19 16 true (.bin .eql (.t 18) (.c (.int .i64 0)))),
 (oP 20 (.pick (.t 16) (.t 19) (.c (.bool false)))),
 (mV 21 20),
 (oG 22 21 true (.fieldAddr 3 (.t 1))),
 (oG 23 21 true (.load false 1 (.t 22))),
 (oG 24 21 true (.bin .eql (.t 23) (.c (.int .i64 0)))),
 (oP 25 (.pick (.t 21) (.t 24) (.c (.bool false)))),
 (mV 2 25)])
 .ret))
theorem F142 : FI 142 1 26 5 [.tmp 2] c142 := ⟨⟨Tryz.f142, Tryz.func142, by kernel_rfl, by kernel_rfl, by kernel_rfl⟩, by kernel_rfl, by decide, by kernel_rfl⟩
/- f143 understory/understoryref04.rest: 57 temporaries, depth 6, 2 parameters, results [t4] -/
def c143 : RC :=
 (.seq (.ops [(oP 2 (.box 56 (.t 0))),
 (oP 4 (.mv (.c (.str []))))])
 (.seq (.seq (.ops [(mV 5 1),
 (oP 6 (.bin .gtr (.t 5) (.c (.int .i64 0))))])
 (.cond (.t 6)
 (.seq (.draw [((oP 7 (.fieldAddr 4 (.t 2))), 0),
 ((oP 8 (.load false 1 (.t 7))), 1),
 ((oP 9 (.callF 64 [(.t 8), (.c (.int .i64 4))])), 0),
 ((oP 10 (.fieldAddr 5 (.t 2))), 0),
 ((oP 11 (.load false 1 (.t 10))), 1),
 ((oP 12 (.callF 64 [(.t 11), (.c (.int .i64 4))])), 0),
 ((oP 13 (.bin .add (.t 9) (.t 12))), 0),
 ((oP 14 (.fieldAddr 6 (.t 2))), 0),
 ((oP 15 (.load true 16 (.t 14))), 1),
 ((oP 16 (.callF 166 [(.t 15)])), 0),
 ((oP 17 (.bin .add (.t 13) (.t 16))), 0),
 ((mV 4 17), 0)])
 .ret)
 .skip))
 (.seq (.seq (.ops [(oP 18 (.fieldAddr 4 (.t 2))),
 (oP 19 (.load false 1 (.t 18))),
 (oP 20 (.bin .neq (.t 19) (.c (.int .i64 0))))])
 (.cond (.t 20)
 (.seq (.draw [((oP 21 (.callF 64 [(.c (.int .i64 65534)), (.c (.int .i64 2))])), 0),
 ((oP 22 (.fieldAddr 4 (.t 2))), 0),
 ((oP 23 (.load false 1 (.t 22))), 1),
 ((oP 24 (.callF 64 [(.t 23), (.c (.int .i64 4))])), 0),
 ((oP 25 (.bin .add (.t 21) (.t 24))), 0),
 ((oP 26 (.fieldAddr 5 (.t 2))), 0),
 ((oP 27 (.load false 1 (.t 26))), 1),
 ((oP 28 (.callF 64 [(.t 27), (.c (.int .i64 4))])), 0),
 ((oP 29 (.bin .add (.t 25) (.t 28))), 0),
 ((oP 30 (.fieldAddr 6 (.t 2))), 0),
 ((oP 31 (.load true 16 (.t 30))), 1),
 ((oP 32 (.callF 166 [(.t 31)])), 0),
 ((oP 33 (.bin .add (.t 29) (.t 32))), 0),
 ((mV 4 33), 0)])
 .ret)
 .skip))
 (.seq (.seq (.ops [(oP 34 (.fieldAddr 2 (.t 2))),
 (oP 35 (.load false 1 (.t 34))),
 (oP 36 (.bin .neq (.t 35) (.c (.int .i64 0))))])
 (.cond (.t 36)
 (.seq (.draw [((oP 37 (.callF 64 [(.c (.int .i64 65535)), (.c (.int .i64 2))])), 0),
 ((oP 38 (.fieldAddr 2 (.t 2))), 0),
 ((oP 39 (.load false 1 (.t 38))), 1),
 ((oP 40 (.callF 64 [(.t 39), (.c (.int .i64 4))])), 0),
 ((oP 41 (.bin .add (.t 37) (.t 40))), 0),
 ((oP 42 (.fieldAddr 3 (.t 2))), 0),
 ((oP 43 (.load false 1 (.t 42))), 1),
 ((oP 44 (.callF 64 [(.t 43), (.c (.int .i64 2))])), 0),
 ((oP 45 (.bin .add (.t 41) (.t 44))), 0),
 ((oP 46 (.fieldAddr 6 (.t 2))), 0),
 ((oP 47 (.load true 16 (.t 46))), 1),
 ((oP 48 (.callF 166 [(.t 47)])), 0),
 ((oP 49 (.bin .add (.t 45) (.t 48))), 0),
 ((mV 4 49), 0)])
 .ret)
 .skip))
 (.seq (.draw [((oP 50 (.fieldAddr 1 (.t 2))), 0),
 ((oP 51 (.load false 1 (.t 50))), 1),
 ((oP 52 (.lenS (.t 51))), 0),
 ((oP 53 (.callF 64 [(.t 52), (.c (.int .i64 2))])), 0),
 ((oP 54 (.fieldAddr 1 (.t 2))), 0),
 ((oP 55 (.load false 1 (.t 54))), 1),
 ((oP 56 (.bin .add (.t 53) (.t 55))), 0),
 ((mV 4 56), 0)])
 .ret)))))
theorem F143 : FI 143 2 57 6 [.tmp 4] c143 := ⟨⟨Tryz.f143, Tryz.func143, by kernel_rfl, by kernel_rfl, by kernel_rfl⟩, by kernel_rfl, by decide, by kernel_rfl⟩
/- f150 understory/understoryref04.suffix: 23 temporaries, depth 5, 3 parameters, results [t6] -/
def c150 : RC :=
 (.seq (.ops [(oP 6 (.mv (.c (.str []))))])
 (.seq (.seq (.ops [(mV 7 1),
 (oP 8 (.bin .gtr (.t 7) (.c (.int .i64 0)))),
 (mV 9 8),
 (oG 10 9 true (.mv (.t 2))),
 (oG 11 9 true (.bin .eql (.t 10) (.c (.int .i64 0)))),
 (oP 12 (.pick (.t 9) (.t 11) (.c (.bool false))))])
 (.cond (.t 12)
 (.seq (.ops [(oP 6 (.mv (.c (.str []))))])
 .ret)
 .skip))
 (.seq (.draw [((mV 13 0), 0),
 ((mV 14 2), 0),
 ((oP 15 (.indexAddrL 22 (.t 13) (.t 14))), 0),
 ((oP 16 (.fieldAddr 0 (.t 15))), 0),
 ((oP 17 (.load false 1 (.t 16))), 1),
 ((mV 18 0), 0),
 ((mV 19 1), 0),
 ((oP 20 (.callF 114 [(.t 18), (.t 19)])), 0),
 ((oP 21 (.lenS (.t 20))), 0),
 ((oP 22 (.sliceS (.t 17) (some (.t 21)) none)), 1),
 ((mV 6 22), 0)])
 .ret)))
theorem F150 : FI 150 3 23 5 [.tmp 6] c150 := ⟨⟨Tryz.f150, Tryz.func150, by kernel_rfl, by kernel_rfl, by kernel_rfl⟩, by kernel_rfl, by decide, by kernel_rfl⟩
/- f151 understory/understoryref02.Extend: 30 temporaries, depth 5, 2 parameters, results [t4] -/
def c151 : RC :=
 (.seq (.ops [(oP 4 (.mv (.c (.int .u32 0))))])
 (.seq (.ops [(mV 8 0),
 (oP 9 (.un .xor (.t 8))),
 (mV 5 9)])
 (.seq (.seq (.ops [(oP 6 (.mv (.c (.int .i64 0))))])
 (.block 0
 (.loop
 (.seq (.seq (.ops [(mV 10 6),
 (mV 11 1),
 (oP 12 (.lenS (.t 11))),
 (oP 13 (.bin .lss (.t 10) (.t 12)))])
 (.cond (.t 13)
 .skip
 (.exit 0)))
 (.seq (.block 1
 (.seq (.ops [(mV 16 5),
 (mV 17 1),
 (mV 18 6),
 (oP 19 (.indexS (.t 17) (.t 18))),
 (oP 20 (.toInt .u32 (.t 19))),
 (oP 21 (.bin .xor (.t 16) (.t 20))),
 (mV 5 21)])
 (.seq (.ops [(oP 7 (.mv (.c (.int .i64 0))))])
 (.block 2
 (.loop
 (.seq (.seq (.ops [(mV 22 7),
 (oP 23 (.bin .lss (.t 22) (.c (.int .i64 8))))])
 (.cond (.t 23)
 .skip
 (.exit 2)))
 (.seq (.block 3
 (.ops [(mV 26 5),
 (oP 27 (.callF 169 [(.t 26)])),
 (mV 5 27)]))
 (.ops [(mV 24 7),
 (oP 25 (.bin .add (.t 24) (.c (.int .i64 1)))),
 (mV 7 25)]))))))))
 (.cut (.ops [(mV 14 6),
 (oP 15 (.bin .add (.t 14) (.c (.int .i64 1)))),
 (mV 6 15)])))))))
 (.cut (.seq (.ops [(mV 28 5),
 (oP 29 (.un .xor (.t 28))),
 (mV 4 29)])
 .ret)))))
theorem F151 : FI 151 2 30 5 [.tmp 4] c151 := ⟨⟨Tryz.f151, Tryz.func151, by kernel_rfl, by kernel_rfl, by kernel_rfl⟩, by kernel_rfl, by decide, by kernel_rfl⟩
/- f153 (*understory/understoryref04.reader).digest: 20 temporaries, depth 5, 1 parameters, results [*t2] -/
def c153 : RC :=
 (.seq (.ops [(oP 2 (.alloc 54 [(.int .u8 0), (.int .u8 0), (.int .u8 0), (.int .u8 0), (.int .u8 0), (.int .u8 0), (.int .u8 0), (.int .u8 0), (.int .u8 0), (.int .u8 0), (.int .u8 0), (.int .u8 0), (.int .u8 0), (.int .u8 0), (.int .u8 0), (.int .u8 0)]))])
 (.seq (.ops [(oP 3 (.alloc 54 [(.int .u8 0), (.int .u8 0), (.int .u8 0), (.int .u8 0), (.int .u8 0), (.int .u8 0), (.int .u8 0), (.int .u8 0), (.int .u8 0), (.int .u8 0), (.int .u8 0), (.int .u8 0), (.int .u8 0), (.int .u8 0), (.int .u8 0), (.int .u8 0)]))])
 (.seq (.ops [(mV 6 0),
 (oP 7 (.callF 121 [(.t 6), (.c (.int .i64 16))])),
 (mV 4 7)])
 (.seq (.seq (.ops [(oP 5 (.mv (.c (.int .i64 0))))])
 (.block 0
 (.loop
 (.seq (.seq (.ops [(mV 8 5),
 (mV 9 4),
 (oP 10 (.lenS (.t 9))),
 (oP 11 (.bin .lss (.t 8) (.t 10)))])
 (.cond (.t 11)
 .skip
 (.exit 0)))
 (.seq (.block 1
 (.ops [(mV 14 5),
 (mV 15 4),
 (mV 16 5),
 (oP 17 (.indexS (.t 15) (.t 16))),
 (oP 18 (.indexAddrA 16 1 (.t 3) (.t 14))),
 (oU (.store 1 (.t 18) (.t 17)))]))
 (.ops [(mV 12 5),
 (oP 13 (.bin .add (.t 12) (.c (.int .i64 1)))),
 (mV 5 13)]))))))
 (.cut (.seq (.ops [(oP 19 (.load true 16 (.t 3))),
 (oU (.store 16 (.t 2) (.t 19)))])
 .ret))))))
theorem F153 : FI 153 1 20 5 [.cell 2 54] c153 := ⟨⟨Tryz.f153, Tryz.func153, by kernel_rfl, by kernel_rfl, by kernel_rfl⟩, by kernel_rfl, by decide, by kernel_rfl⟩
/- f165 understory/understoryref04.count: 9 temporaries, depth 4, 1 parameters, results [t2] -/
def c165 : RC :=
 (.seq (.ops [(oP 2 (.mv (.c (.bool false))))])
 (.seq (.ops [(mV 3 0),
 (oP 4 (.bin .geq (.t 3) (.c (.int .i64 1)))),
 (mV 5 4),
 (oG 6 5 true (.mv (.t 0))),
 (oG 7 5 true (.bin .leq (.t 6) (.c (.int .i64 2147483647)))),
 (oP 8 (.pick (.t 5) (.t 7) (.c (.bool false)))),
 (mV 2 8)])
 .ret))
theorem F165 : FI 165 1 9 4 [.tmp 2] c165 := ⟨⟨Tryz.f165, Tryz.func165, by kernel_rfl, by kernel_rfl, by kernel_rfl⟩, by kernel_rfl, by decide, by kernel_rfl⟩
/- f166 understory/understoryref04.sum: 5 temporaries, depth 3, 1 parameters, results [t2] -/
def c166 : RC :=
 (.seq (.ops [(oP 1 (.box 54 (.t 0))),
 (oP 2 (.mv (.c (.str []))))])
 (.seq (.ops [(oP 3 (.sliceP 16 1 (.t 1) none none none)),
 (oP 4 (.bytesStr (.t 3))),
 (mV 2 4)])
 .ret))
theorem F166 : FI 166 1 5 3 [.tmp 2] c166 := ⟨⟨Tryz.f166, Tryz.func166, by kernel_rfl, by kernel_rfl, by kernel_rfl⟩, by kernel_rfl, by decide, by kernel_rfl⟩
/- f169 understory/understoryref02.step: 11 temporaries, depth 4, 1 parameters, results [t2] -/
def c169 : RC :=
 (.seq (.ops [(oP 2 (.mv (.c (.int .u32 0))))])
 (.seq (.seq (.ops [(mV 3 0),
 (oP 4 (.bin .rem (.t 3) (.c (.int .u32 2)))),
 (oP 5 (.bin .eql (.t 4) (.c (.int .u32 1))))])
 (.cond (.t 5)
 (.seq (.ops [(mV 6 0),
 (oP 7 (.bin .shr (.t 6) (.c (.int .u64 1)))),
 (oP 8 (.bin .xor (.t 7) (.c (.int .u32 3988292384)))),
 (mV 2 8)])
 .ret)
 .skip))
 (.seq (.ops [(mV 9 0),
 (oP 10 (.bin .shr (.t 9) (.c (.int .u64 1)))),
 (mV 2 10)])
 .ret)))
theorem F169 : FI 169 1 11 4 [.tmp 2] c169 := ⟨⟨Tryz.f169, Tryz.func169, by kernel_rfl, by kernel_rfl, by kernel_rfl⟩, by kernel_rfl, by decide, by kernel_rfl⟩
end Go.Proofs
/- The looked-up text of the functions. -/
namespace Go.Proofs
open Go Go.Abs
/- f123 (*understory/page.reader).text: 51 temporaries, depth 6, 2 parameters, results [t4] -/
def c123 : RC :=
 (.seq (.ops [(oP 4 (.mv (.c (.str []))))])
 (.seq (.seq (.draw [((mV 6 1), 0),
 ((mV 7 0), 0),
 ((oP 8 (.nilCheck (.t 7))), 0),
 ((oP 9 (.fieldAddr 0 (.t 8))), 0),
 ((oP 10 (.fieldAddr 0 (.t 9))), 0),
 ((oP 11 (.load false 1 (.t 10))), 1),
 ((oP 12 (.lenS (.t 11))), 0),
 ((mV 13 0), 0),
 ((oP 14 (.nilCheck (.t 13))), 0),
 ((oP 15 (.fieldAddr 0 (.t 14))), 0),
 ((oP 16 (.fieldAddr 1 (.t 15))), 0),
 ((oP 17 (.load false 1 (.t 16))), 1),
 ((oP 18 (.bin .sub (.t 12) (.t 17))), 0),
 ((oP 19 (.bin .gtr (.t 6) (.t 18))), 0)])
 (.cond (.t 19)
 (.ops [(oP 20 (.build [] [])),
 (oP 21 (.mkIfc 190 (.t 20))),
 ⟨none, none, .pan (.t 21)⟩])
 .skip))
 (.seq (.draw [((mV 22 0), 0),
 ((oP 23 (.nilCheck (.t 22))), 0),
 ((oP 24 (.fieldAddr 0 (.t 23))), 0),
 ((oP 25 (.fieldAddr 0 (.t 24))), 0),
 ((oP 26 (.load false 1 (.t 25))), 1),
 ((mV 27 0), 0),
 ((oP 28 (.nilCheck (.t 27))), 0),
 ((oP 29 (.fieldAddr 0 (.t 28))), 0),
 ((oP 30 (.fieldAddr 1 (.t 29))), 0),
 ((oP 31 (.load false 1 (.t 30))), 1),
 ((mV 32 0), 0),
 ((oP 33 (.nilCheck (.t 32))), 0),
 ((oP 34 (.fieldAddr 0 (.t 33))), 0),
 ((oP 35 (.fieldAddr 1 (.t 34))), 0),
 ((oP 36 (.load false 1 (.t 35))), 1),
 ((mV 37 1), 0),
 ((oP 38 (.bin .add (.t 36) (.t 37))), 0),
 ((oP 39 (.sliceS (.t 26) (some (.t 31)) (some (.t 38)))), 1),
 ((mV 5 39), 0)])
 (.seq (.ops [(mV 40 0),
 (oP 41 (.nilCheck (.t 40))),
 (oP 42 (.fieldAddr 0 (.t 41))),
 (oP 43 (.fieldAddr 1 (.t 42))),
 (oP 44 (.load false 1 (.t 43))),
 (mV 45 1),
 (oP 46 (.bin .add (.t 44) (.t 45))),
 (oP 47 (.nilCheck (.t 40))),
 (oP 48 (.fieldAddr 0 (.t 47))),
 (oP 49 (.fieldAddr 1 (.t 48))),
 (oU (.store 1 (.t 49) (.t 46)))])
 (.seq (.ops [(mV 50 5),
 (mV 4 50)])
 .ret)))))
theorem F123 : FI 123 2 51 6 [.tmp 4] c123 := ⟨⟨Tryz.f123, Tryz.func123, by kernel_rfl, by kernel_rfl, by kernel_rfl⟩, by kernel_rfl, by decide, by kernel_rfl⟩
/- f78 (*understory/page.reader).number: 24 temporaries, depth 5, 2 parameters, results [t4] -/
def c78 : RC :=
 (.seq (.ops [(oP 4 (.mv (.c (.int .i64 0))))])
 (.seq (.ops [(oP 5 (.mv (.c (.int .i64 0))))])
 (.seq (.seq (.ops [(mV 8 0),
 (mV 9 1),
 (oP 10 (.callF 123 [(.t 8), (.t 9)])),
 (oP 11 (.strBytes (.t 10))),
 (oP 12 (.lenL (.t 11))),
 (oP 13 (.mv (.c (.int .i64 0))))])
 (.block 0
 (.loop
 (.seq (.ops [(oP 14 (.bin .lss (.t 13) (.t 12)))])
 (.seq (.cond (.t 14)
 .skip
 (.exit 0))
 (.seq (.block 1
 (.seq (.ops [(oP 15 (.indexAddrL 1 (.t 11) (.t 13))),
 (oP 16 (.load false 1 (.t 15))),
 (mV 7 16)])
 (.ops [(mV 17 5),
 (oP 18 (.bin .shl (.t 17) (.c (.int .u64 8)))),
 (mV 19 7),
 (oP 20 (.toInt .i64 (.t 19))),
 (oP 21 (.bin .or (.t 18) (.t 20))),
 (mV 5 21)])))
 (.ops [(oP 22 (.bin .add (.t 13) (.c (.int .i64 1)))),
 (mV 13 22)])))))))
 (.cut (.seq (.ops [(mV 23 5),
 (mV 4 23)])
 .ret)))))
theorem F78 : FI 78 2 24 5 [.tmp 4] c78 := ⟨⟨Tryz.f78, Tryz.func78, by kernel_rfl, by kernel_rfl, by kernel_rfl⟩, by kernel_rfl, by decide, by kernel_rfl⟩
/- f189 (*understory/page.reader).sum: 9 temporaries, depth 4, 1 parameters, results [*t2] -/
def c189 : RC :=
 (.seq (.ops [(oP 2 (.alloc 54 [(.int .u8 0), (.int .u8 0), (.int .u8 0), (.int .u8 0), (.int .u8 0), (.int .u8 0), (.int .u8 0), (.int .u8 0), (.int .u8 0), (.int .u8 0), (.int .u8 0), (.int .u8 0), (.int .u8 0), (.int .u8 0), (.int .u8 0), (.int .u8 0)]))])
 (.seq (.ops [(oP 3 (.alloc 54 [(.int .u8 0), (.int .u8 0), (.int .u8 0), (.int .u8 0), (.int .u8 0), (.int .u8 0), (.int .u8 0), (.int .u8 0), (.int .u8 0), (.int .u8 0), (.int .u8 0), (.int .u8 0), (.int .u8 0), (.int .u8 0), (.int .u8 0), (.int .u8 0)]))])
 (.seq (.draw [((oP 4 (.sliceP 16 1 (.t 3) none none none)), 1),
 ((mV 5 0), 0),
 ((oP 6 (.callF 123 [(.t 5), (.c (.int .i64 16))])), 2),
 ((oP 7 (.cpy 1 (.t 4) (.t 6))), 2)])
 (.seq (.ops [(oP 8 (.load true 16 (.t 3))),
 (oU (.store 16 (.t 2) (.t 8)))])
 .ret))))
theorem F189 : FI 189 1 9 4 [.cell 2 54] c189 := ⟨⟨Tryz.f189, Tryz.func189, by kernel_rfl, by kernel_rfl, by kernel_rfl⟩, by kernel_rfl, by decide, by kernel_rfl⟩
/- f171 (*understory/page.reader).content: 52 temporaries, depth 6, 3 parameters, results [] -/
def c171 : RC :=
 (.seq (.ops [(oP 6 (.mv (.c (.int .i64 65534))))])
 (.seq (.seq (.ops [(mV 7 2),
 (oP 8 (.bin .eql (.t 7) (.c (.int .i64 0))))])
 (.cond (.t 8)
 (.ops [(mV 9 0),
 (oP 10 (.callF 78 [(.t 9), (.c (.int .i64 2))])),
 (mV 6 10)])
 .skip))
 (.cut (.seq (.ops [(mV 11 6)])
 (.block 0
 (.seq (.ops [(oP 19 (.bin .eql (.t 11) (.c (.int .i64 65535)))),
 (mV 18 19)])
 (.cond (.t 18)
 (.seq (.ops [(mV 20 1),
 (mV 21 1),
 (mV 22 0),
 (oP 23 (.callF 78 [(.t 22), (.c (.int .i64 4))])),
 (mV 24 0),
 (oP 25 (.callF 78 [(.t 24), (.c (.int .i64 2))])),
 (oP 26 (.nilCheck (.t 20))),
 (oP 27 (.fieldAddr 2 (.t 26))),
 (oU (.store 1 (.t 27) (.t 23))),
 (oP 28 (.nilCheck (.t 21))),
 (oP 29 (.fieldAddr 3 (.t 28))),
 (oU (.store 1 (.t 29) (.t 25)))])
 (.ops [(mV 30 1),
 (mV 31 0),
 (oP 32 (.callF 189 [(.t 31)])),
 (oP 33 (.nilCheck (.t 30))),
 (oP 34 (.fieldAddr 6 (.t 33))),
 (oU (.store 16 (.t 34) (.t 32)))]))
 (.seq (.ops [(oP 36 (.bin .eql (.t 11) (.c (.int .i64 65534)))),
 (mV 35 36)])
 (.cond (.t 35)
 (.seq (.ops [(mV 37 1),
 (mV 38 1),
 (mV 39 0),
 (oP 40 (.callF 78 [(.t 39), (.c (.int .i64 4))])),
 (mV 41 0),
 (oP 42 (.callF 78 [(.t 41), (.c (.int .i64 4))])),
 (oP 43 (.nilCheck (.t 37))),
 (oP 44 (.fieldAddr 4 (.t 43))),
 (oU (.store 1 (.t 44) (.t 40))),
 (oP 45 (.nilCheck (.t 38))),
 (oP 46 (.fieldAddr 5 (.t 45))),
 (oU (.store 1 (.t 46) (.t 42)))])
 (.ops [(mV 47 1),
 (mV 48 0),
 (oP 49 (.callF 189 [(.t 48)])),
 (oP 50 (.nilCheck (.t 47))),
 (oP 51 (.fieldAddr 6 (.t 50))),
 (oU (.store 16 (.t 51) (.t 49)))]))
 (.ops [(mV 12 1),
 (mV 13 0),
 (mV 14 6),
 (oP 15 (.callF 123 [(.t 13), (.t 14)])),
 (oP 16 (.nilCheck (.t 12))),
 (oP 17 (.fieldAddr 1 (.t 16))),
 (oU (.store 1 (.t 17) (.t 15)))]))))))))))
theorem F171 : FI 171 3 52 6 [] c171 := ⟨⟨Tryz.f171, Tryz.func171, by kernel_rfl, by kernel_rfl, by kernel_rfl⟩, by kernel_rfl, by decide, by kernel_rfl⟩
/- f152 (*understory/page.reader).entries: 10 temporaries, depth 4, 4 parameters, results [t8] -/
def c152 : RC :=
 (.seq (.ops [(oP 4 (.box 141 (.t 0))),
 (oP 5 (.box 3 (.t 1))),
 (oP 6 (.box 3 (.t 2))),
 (oP 7 (.box 9 (.t 3))),
 (oP 8 (.mv (.c .nilf)))])
 (.seq (.ops [(oP 9 (.mkFn (.func 170) [] [(.t 5), (.t 4), (.t 6), (.t 7)])),
 (mV 8 9)])
 .ret))
theorem F152 : FI 152 4 10 4 [.tmp 8] c152 := ⟨⟨Tryz.f152, Tryz.func152, by kernel_rfl, by kernel_rfl, by kernel_rfl⟩, by kernel_rfl, by decide, by kernel_rfl⟩
/- f170 (*understory/page.reader).entries$1: 38 temporaries, depth 6, 1 parameters, results [] -/
def c170 : RC :=
 (.seq (.ops [(oP 9 (.load false 1 (.t 1))),
 (oP 10 (.mv (.c (.int .i64 0))))])
 (.block 0
 (.loop
 (.seq (.ops [(oP 11 (.bin .lss (.t 10) (.t 9)))])
 (.seq (.cond (.t 11)
 .skip
 (.exit 0))
 (.seq (.block 1
 (.seq (.ops [(mV 12 10),
 (mV 6 12)])
 (.seq (.ops [(oP 7 (.alloc 56 [(.str []), (.str []), (.int .i64 0), (.int .i64 0), (.int .i64 0), (.int .i64 0), (.int .u8 0), (.int .u8 0), (.int .u8 0), (.int .u8 0), (.int .u8 0), (.int .u8 0), (.int .u8 0), (.int .u8 0), (.int .u8 0), (.int .u8 0), (.int .u8 0), (.int .u8 0), (.int .u8 0), (.int .u8 0), (.int .u8 0), (.int .u8 0)]))])
 (.seq (.draw [((oP 13 (.load false 1 (.t 2))), 1),
 ((oP 14 (.load false 1 (.t 2))), 1),
 ((oP 15 (.callF 78 [(.t 14), (.c (.int .i64 1))])), 2),
 ((oP 16 (.callF 123 [(.t 13), (.t 15)])), 2),
 ((mV 8 16), 0)])
 (.seq (.seq (.ops [(mV 17 6),
 (oP 18 (.bin .gtr (.t 17) (.c (.int .i64 0)))),
 (mV 19 18),
 (oG 20 19 false (.load false 1 (.t 3))),
 (oG 21 19 false (.bin .eql (.t 20) (.c (.int .i64 0)))),
 (oP 22 (.pick (.t 19) (.c (.bool true)) (.t 21)))])
 (.cond (.t 22)
 (.ops [(oP 23 (.load false 1 (.t 4))),
 (oP 24 (.fieldAddr 0 (.t 7))),
 (oU (.store 1 (.t 24) (.t 23)))])
 .skip))
 (.cut (.seq (.ops [(oP 25 (.fieldAddr 0 (.t 7))),
 (oP 26 (.load false 1 (.t 25))),
 (mV 27 8),
 (oP 28 (.bin .add (.t 26) (.t 27))),
 (oP 29 (.fieldAddr 0 (.t 7))),
 (oU (.store 1 (.t 29) (.t 28)))])
 (.seq (.ops [(oP 30 (.load false 1 (.t 2))),
 (oP 31 (.load false 1 (.t 3))),
 (oP 32 (.callF 171 [(.t 30), (.t 7), (.t 31)]))])
 (.seq (.ops [(mV 33 0),
 (oP 34 (.load true 22 (.t 7))),
 (oP 35 (.callV (.t 33) [(.t 34)])),
 (oP 36 (.un .not (.t 35)))])
 (.cond (.t 36)
 .ret
 .skip))))))))))
 (.cut (.ops [(oP 37 (.bin .add (.t 10) (.c (.int .i64 1)))),
 (mV 10 37)]))))))))
theorem F170 : FI 170 5 38 6 [] c170 := ⟨⟨Tryz.f170, Tryz.func170, by kernel_rfl, by kernel_rfl, by kernel_rfl⟩, by kernel_rfl, by decide, by kernel_rfl⟩
end Go.Proofs
/- The looked-up text of the functions. -/
namespace Go.Proofs
open Go Go.Abs
/- f108 (*strings.Builder).copyCheck: 20 temporaries, depth 5, 1 parameters, results [] -/
def c108 : RC :=
 (.seq (.ops [(mV 2 0),
 (oP 3 (.nilCheck (.t 2))),
 (oP 4 (.fieldAddr 0 (.t 3))),
 (oP 5 (.load false 1 (.t 4))),
 (oP 6 (.isNil false (.t 5)))])
 (.cond (.t 6)
 (.ops [(mV 7 0),
 (mV 8 0),
 (oP 9 (.toU (.t 8))),
 (mV 10 9),
 (oP 11 (.frU 115 (.t 10))),
 (oP 12 (.nilCheck (.t 7))),
 (oP 13 (.fieldAddr 0 (.t 12))),
 (oU (.store 1 (.t 13) (.t 11)))])
 (.seq (.ops [(mV 14 0),
 (oP 15 (.nilCheck (.t 14))),
 (oP 16 (.fieldAddr 0 (.t 15))),
 (oP 17 (.load false 1 (.t 16))),
 (mV 18 0),
 (oP 19 (.cmp true 113 (.t 17) (.t 18)))])
 (.cond (.t 19)
 (.raw (.refuse "(*strings.Builder).copyCheck builder.go:41: unsupported: a written strings.Builder's value in another place: whether the library's copy check passes hangs on where the compiler lays the two"))
 .skip))))
theorem F108 : FI 108 1 20 5 [] c108 := ⟨⟨Tryz.f108, Tryz.func108, by kernel_rfl, by kernel_rfl, by kernel_rfl⟩, by kernel_rfl, by decide, by kernel_rfl⟩
/- f56 (*strings.Builder).WriteByte: 17 temporaries, depth 5, 2 parameters, results [t4] -/
def c56 : RC :=
 (.seq (.ops [(oP 4 (.mv (.c .nili)))])
 (.seq (.ops [(mV 5 0),
 (oP 6 (.callF 108 [(.t 5)]))])
 (.seq (.ops [(mV 7 0),
 (mV 8 0),
 (oP 9 (.nilCheck (.t 8))),
 (oP 10 (.fieldAddr 1 (.t 9))),
 (oP 11 (.load false 1 (.t 10))),
 (mV 12 1),
 (oP 13 (.mkLst 1 false 1 [(.int .u8 0)] [(0, 1, (.t 12))])),
 (oP 14 (.app 5 1 (.t 11) (.t 13))),
 (oP 15 (.nilCheck (.t 7))),
 (oP 16 (.fieldAddr 1 (.t 15))),
 (oU (.store 1 (.t 16) (.t 14)))])
 (.seq (.ops [(oP 4 (.mv (.c .nili)))])
 .ret))))
theorem F56 : FI 56 2 17 5 [.tmp 4] c56 := ⟨⟨Tryz.f56, Tryz.func56, by kernel_rfl, by kernel_rfl, by kernel_rfl⟩, by kernel_rfl, by decide, by kernel_rfl⟩
/- f59 (*strings.Builder).WriteString: 19 temporaries, depth 5, 2 parameters, results [t4, t5] -/
def c59 : RC :=
 (.seq (.ops [(oP 4 (.mv (.c (.int .i64 0)))),
 (oP 5 (.mv (.c .nili)))])
 (.seq (.ops [(mV 6 0),
 (oP 7 (.callF 108 [(.t 6)]))])
 (.seq (.ops [(mV 8 0),
 (mV 9 0),
 (oP 10 (.nilCheck (.t 9))),
 (oP 11 (.fieldAddr 1 (.t 10))),
 (oP 12 (.load false 1 (.t 11))),
 (mV 13 1),
 (oP 14 (.app 5 1 (.t 12) (.t 13))),
 (oP 15 (.nilCheck (.t 8))),
 (oP 16 (.fieldAddr 1 (.t 15))),
 (oU (.store 1 (.t 16) (.t 14)))])
 (.seq (.ops [(mV 17 1),
 (oP 18 (.lenS (.t 17))),
 (mV 4 18),
 (oP 5 (.mv (.c .nili)))])
 .ret))))
theorem F59 : FI 59 2 19 5 [.tmp 4, .tmp 5] c59 := ⟨⟨Tryz.f59, Tryz.func59, by kernel_rfl, by kernel_rfl, by kernel_rfl⟩, by kernel_rfl, by decide, by kernel_rfl⟩
/- f61 (*strings.Builder).Len: 8 temporaries, depth 4, 1 parameters, results [t2] -/
def c61 : RC :=
 (.seq (.ops [(oP 2 (.mv (.c (.int .i64 0))))])
 (.seq (.ops [(mV 3 0),
 (oP 4 (.nilCheck (.t 3))),
 (oP 5 (.fieldAddr 1 (.t 4))),
 (oP 6 (.load false 1 (.t 5))),
 (oP 7 (.lenL (.t 6))),
 (mV 2 7)])
 .ret))
theorem F61 : FI 61 1 8 4 [.tmp 2] c61 := ⟨⟨Tryz.f61, Tryz.func61, by kernel_rfl, by kernel_rfl, by kernel_rfl⟩, by kernel_rfl, by decide, by kernel_rfl⟩
/- f63 (*strings.Builder).String: 14 temporaries, depth 4, 1 parameters, results [t2] -/
def c63 : RC :=
 (.seq (.ops [(oP 2 (.mv (.c (.str []))))])
 (.seq (.draw [((mV 3 0), 0),
 ((oP 4 (.nilCheck (.t 3))), 0),
 ((oP 5 (.fieldAddr 1 (.t 4))), 0),
 ((oP 6 (.load false 1 (.t 5))), 1),
 ((oP 7 (.uData (.t 6))), 0),
 ((mV 8 0), 0),
 ((oP 9 (.nilCheck (.t 8))), 0),
 ((oP 10 (.fieldAddr 1 (.t 9))), 0),
 ((oP 11 (.load false 1 (.t 10))), 1),
 ((oP 12 (.lenL (.t 11))), 0),
 ((oP 13 (.uStr 5 (.t 7) (.t 12))), 2),
 ((mV 2 13), 0)])
 .ret))
theorem F63 : FI 63 1 14 4 [.tmp 2] c63 := ⟨⟨Tryz.f63, Tryz.func63, by kernel_rfl, by kernel_rfl, by kernel_rfl⟩, by kernel_rfl, by decide, by kernel_rfl⟩
/- f57 (*understory/page.writer).number: 22 temporaries, depth 5, 3 parameters, results [] -/
def c57 : RC :=
 (.seq (.ops [(mV 7 2),
 (oP 8 (.bin .sub (.t 7) (.c (.int .i64 1)))),
 (mV 6 8)])
 (.block 0
 (.loop
 (.seq (.seq (.ops [(mV 9 6),
 (oP 10 (.bin .geq (.t 9) (.c (.int .i64 0))))])
 (.cond (.t 10)
 .skip
 (.exit 0)))
 (.seq (.block 1
 (.draw [((mV 13 0), 0),
 ((oP 14 (.nilCheck (.t 13))), 0),
 ((oP 15 (.fieldAddr 0 (.t 14))), 0),
 ((mV 16 1), 0),
 ((mV 17 6), 0),
 ((oP 18 (.bin .mul (.c (.int .i64 8)) (.t 17))), 0),
 ((oP 19 (.bin .shr (.t 16) (.t 18))), 0),
 ((oP 20 (.toInt .u8 (.t 19))), 0),
 ((oP 21 (.callF 56 [(.t 15), (.t 20)])), 2)]))
 (.ops [(mV 11 6),
 (oP 12 (.bin .sub (.t 11) (.c (.int .i64 1)))),
 (mV 6 12)]))))))
theorem F57 : FI 57 3 22 5 [] c57 := ⟨⟨Tryz.f57, Tryz.func57, by kernel_rfl, by kernel_rfl, by kernel_rfl⟩, by kernel_rfl, by decide, by kernel_rfl⟩
/- f86 (*understory/page.writer).sum: 10 temporaries, depth 4, 2 parameters, results [] -/
def c86 : RC :=
 (.seq (.ops [(oP 3 (.box 54 (.t 1)))])
 (.draw [((mV 4 0), 0),
 ((oP 5 (.nilCheck (.t 4))), 0),
 ((oP 6 (.fieldAddr 0 (.t 5))), 0),
 ((oP 7 (.sliceP 16 1 (.t 3) none none none)), 1),
 ((oP 8 (.bytesStr (.t 7))), 3),
 ((oP 9 (.callF 59 [(.t 6), (.t 8)])), 2)]))
theorem F86 : FI 86 2 10 4 [] c86 := ⟨⟨Tryz.f86, Tryz.func86, by kernel_rfl, by kernel_rfl, by kernel_rfl⟩, by kernel_rfl, by decide, by kernel_rfl⟩
end Go.Proofs
/- The looked-up text of the functions. -/
namespace Go.Proofs
open Go Go.Abs
/- f24 understory/understorylaw04.few: 33 temporaries, depth 6, 1 parameters, results [t2] -/
def c24 : RC :=
 (.seq (.ops [(oP 2 (.mv (.c (.bool false))))])
 (.seq (.seq (.ops [(oP 3 (.mv (.c (.int .i64 0))))])
 (.block 0
 (.loop
 (.seq (.seq (.ops [(mV 4 3),
 (mV 5 0),
 (oP 6 (.lenL (.t 5))),
 (oP 7 (.bin .lss (.t 4) (.t 6))),
 (mV 8 7),
 (oG 9 8 true (.mv (.t 3))),
 (oG 10 8 true (.bin .leq (.t 9) (.c (.int .i64 100)))),
 (oP 11 (.pick (.t 8) (.t 10) (.c (.bool false))))])
 (.cond (.t 11)
 .skip
 (.exit 0)))
 (.seq (.block 1
 (.seq (.ops [(mV 14 0),
 (mV 15 3),
 (oP 16 (.indexAddrL 22 (.t 14) (.t 15))),
 (oP 17 (.fieldAddr 0 (.t 16))),
 (oP 18 (.load false 1 (.t 17))),
 (oP 19 (.lenS (.t 18))),
 (oP 20 (.bin .gtr (.t 19) (.c (.int .i64 300)))),
 (mV 21 20),
 (oG 22 21 false (.mv (.t 0))),
 (oG 23 21 false (.mv (.t 3))),
 (oG 24 21 false (.indexAddrL 22 (.t 22) (.t 23))),
 (oG 25 21 false (.fieldAddr 1 (.t 24))),
 (oG 26 21 false (.load false 1 (.t 25))),
 (oG 27 21 false (.lenS (.t 26))),
 (oG 28 21 false (.bin .gtr (.t 27) (.c (.int .i64 300)))),
 (oP 29 (.pick (.t 21) (.c (.bool true)) (.t 28)))])
 (.cond (.t 29)
 (.seq (.ops [(oP 2 (.mv (.c (.bool false))))])
 .ret)
 .skip)))
 (.ops [(mV 12 3),
 (oP 13 (.bin .add (.t 12) (.c (.int .i64 1)))),
 (mV 3 13)]))))))
 (.cut (.seq (.ops [(mV 30 0),
 (oP 31 (.lenL (.t 30))),
 (oP 32 (.bin .leq (.t 31) (.c (.int .i64 100)))),
 (mV 2 32)])
 .ret))))
theorem F24 : FI 24 1 33 6 [.tmp 2] c24 := ⟨⟨Tryz.f24, Tryz.func24, by kernel_rfl, by kernel_rfl, by kernel_rfl⟩, by kernel_rfl, by decide, by kernel_rfl⟩
/- f47 understory/page.Size: 37 temporaries, depth 6, 2 parameters, results [t4, t5] -/
def c47 : RC :=
 (.seq (.ops [(oP 4 (.mv (.c (.int .i64 0)))),
 (oP 5 (.mv (.c (.int .i64 0))))])
 (.seq (.seq (.ops [(mV 10 0),
 (mV 11 1),
 (oP 12 (.callF 85 [(.t 10), (.t 11)])),
 (oP 13 (.un .not (.t 12)))])
 (.cond (.t 13)
 (.seq (.ops [(oP 4 (.mv (.c (.int .i64 0)))),
 (oP 5 (.mv (.c (.int .i64 2))))])
 .ret)
 .skip))
 (.seq (.ops [(mV 15 0),
 (mV 16 1),
 (oP 17 (.callF 48 [(.t 15), (.t 16)])),
 (mV 14 17),
 (oP 18 (.extract (.t 14) 0)),
 (oP 19 (.extract (.t 14) 1)),
 (mV 6 18),
 (mV 7 19)])
 (.seq (.ops [(mV 20 0),
 (mV 21 1),
 (oP 22 (.callF 104 [(.t 20), (.t 21)])),
 (oP 23 (.lenS (.t 22))),
 (mV 8 23)])
 (.seq (.ops [(mV 24 0),
 (oP 25 (.lenL (.t 24))),
 (mV 9 25)])
 (.seq (.seq (.ops [(mV 26 1),
 (oP 27 (.bin .gtr (.t 26) (.c (.int .i64 0))))])
 (.cond (.t 27)
 (.ops [(mV 28 9),
 (oP 29 (.bin .sub (.t 28) (.c (.int .i64 1)))),
 (mV 9 29)])
 .skip))
 (.seq (.ops [(mV 30 6),
 (mV 31 9),
 (mV 32 8),
 (oP 33 (.bin .mul (.t 31) (.t 32))),
 (oP 34 (.bin .sub (.t 30) (.t 33))),
 (mV 35 8),
 (oP 36 (.bin .add (.t 34) (.t 35))),
 (mV 4 36),
 (oP 5 (.mv (.c (.int .i64 0))))])
 .ret)))))))
theorem F47 : FI 47 2 37 6 [.tmp 4, .tmp 5] c47 := ⟨⟨Tryz.f47, Tryz.func47, by kernel_rfl, by kernel_rfl, by kernel_rfl⟩, by kernel_rfl, by decide, by kernel_rfl⟩
/- f48 understory/page.Weight: 33 temporaries, depth 6, 2 parameters, results [t4, t5] -/
def c48 : RC :=
 (.seq (.ops [(oP 4 (.mv (.c (.int .i64 0)))),
 (oP 5 (.mv (.c (.int .i64 0))))])
 (.seq (.seq (.ops [(mV 11 1),
 (oP 12 (.callF 71 [(.t 11), (.c (.int .i64 0)), (.c (.int .i64 20))])),
 (oP 13 (.un .not (.t 12)))])
 (.cond (.t 13)
 (.seq (.ops [(oP 4 (.mv (.c (.int .i64 0)))),
 (oP 5 (.mv (.c (.int .i64 2))))])
 .ret)
 .skip))
 (.seq (.ops [(oP 6 (.mv (.c (.int .i64 6))))])
 (.seq (.seq (.ops [(mV 14 0),
 (oP 15 (.lenL (.t 14))),
 (oP 16 (.mv (.c (.int .i64 0))))])
 (.block 0
 (.loop
 (.seq (.ops [(oP 17 (.bin .lss (.t 16) (.t 15)))])
 (.seq (.cond (.t 17)
 .skip
 (.exit 0))
 (.seq (.block 1
 (.seq (.ops [(oP 18 (.indexAddrL 22 (.t 14) (.t 16))),
 (oP 19 (.load true 22 (.t 18))),
 (oP 8 (.alloc 56 [(.str []), (.str []), (.int .i64 0), (.int .i64 0), (.int .i64 0), (.int .i64 0), (.int .u8 0), (.int .u8 0), (.int .u8 0), (.int .u8 0), (.int .u8 0), (.int .u8 0), (.int .u8 0), (.int .u8 0), (.int .u8 0), (.int .u8 0), (.int .u8 0), (.int .u8 0), (.int .u8 0), (.int .u8 0), (.int .u8 0), (.int .u8 0)])),
 (oU (.store 22 (.t 8) (.t 19)))])
 (.seq (.ops [(oP 21 (.load true 22 (.t 8))),
 (mV 22 1),
 (oP 23 (.callF 105 [(.t 21), (.t 22)])),
 (mV 20 23),
 (oP 24 (.extract (.t 20) 0)),
 (oP 25 (.extract (.t 20) 1)),
 (mV 9 24),
 (mV 10 25)])
 (.seq (.seq (.ops [(mV 26 10),
 (oP 27 (.un .not (.t 26)))])
 (.cond (.t 27)
 (.seq (.ops [(oP 4 (.mv (.c (.int .i64 0)))),
 (oP 5 (.mv (.c (.int .i64 2))))])
 .ret)
 .skip))
 (.ops [(mV 28 6),
 (mV 29 9),
 (oP 30 (.bin .add (.t 28) (.t 29))),
 (mV 6 30)])))))
 (.ops [(oP 31 (.bin .add (.t 16) (.c (.int .i64 1)))),
 (mV 16 31)])))))))
 (.cut (.seq (.ops [(mV 32 6),
 (mV 4 32),
 (oP 5 (.mv (.c (.int .i64 0))))])
 .ret))))))
theorem F48 : FI 48 2 33 6 [.tmp 4, .tmp 5] c48 := ⟨⟨Tryz.f48, Tryz.func48, by kernel_rfl, by kernel_rfl, by kernel_rfl⟩, by kernel_rfl, by decide, by kernel_rfl⟩
/- f46 understory/page.Prefix: 13 temporaries, depth 4, 2 parameters, results [t4, t5] -/
def c46 : RC :=
 (.seq (.ops [(oP 4 (.mv (.c (.str [])))),
 (oP 5 (.mv (.c (.int .i64 0))))])
 (.seq (.seq (.ops [(mV 6 0),
 (mV 7 1),
 (oP 8 (.callF 85 [(.t 6), (.t 7)])),
 (oP 9 (.un .not (.t 8)))])
 (.cond (.t 9)
 (.seq (.ops [(oP 4 (.mv (.c (.str [])))),
 (oP 5 (.mv (.c (.int .i64 2))))])
 .ret)
 .skip))
 (.seq (.ops [(mV 10 0),
 (mV 11 1),
 (oP 12 (.callF 104 [(.t 10), (.t 11)])),
 (mV 4 12),
 (oP 5 (.mv (.c (.int .i64 0))))])
 .ret)))
theorem F46 : FI 46 2 13 4 [.tmp 4, .tmp 5] c46 := ⟨⟨Tryz.f46, Tryz.func46, by kernel_rfl, by kernel_rfl, by kernel_rfl⟩, by kernel_rfl, by decide, by kernel_rfl⟩
/- f85 understory/page.Valid: 78 temporaries, depth 7, 2 parameters, results [t4] -/
def c85 : RC :=
 (.seq (.ops [(oP 4 (.mv (.c (.bool false))))])
 (.seq (.seq (.ops [(mV 7 1),
 (oP 8 (.callF 71 [(.t 7), (.c (.int .i64 0)), (.c (.int .i64 20))])),
 (oP 9 (.un .not (.t 8))),
 (mV 10 9),
 (oG 11 10 false (.mv (.t 0))),
 (oG 12 10 false (.lenL (.t 11))),
 (oG 13 10 false (.bin .eql (.t 12) (.c (.int .i64 0)))),
 (oP 14 (.pick (.t 10) (.c (.bool true)) (.t 13))),
 (mV 15 14),
 (oG 16 15 false (.mv (.t 1))),
 (oG 17 15 false (.bin .gtr (.t 16) (.c (.int .i64 0)))),
 (oG 18 15 false (.mv (.t 17))),
 (oG 19 18 true (.mv (.t 0))),
 (oG 20 18 true (.lenL (.t 19))),
 (oG 21 18 true (.bin .lss (.t 20) (.c (.int .i64 2)))),
 (oG 22 18 true (.mv (.t 21))),
 (oG 23 22 false (.mv (.t 0))),
 (oG 24 22 false (.indexAddrL 22 (.t 23) (.c (.int .i64 0)))),
 (oG 25 22 false (.fieldAddr 0 (.t 24))),
 (oG 26 22 false (.load false 1 (.t 25))),
 (oG 27 22 false (.bin .neq (.t 26) (.c (.str [])))),
 (oG 28 18 true (.pick (.t 22) (.c (.bool true)) (.t 27))),
 (oG 29 15 false (.pick (.t 18) (.t 28) (.c (.bool false)))),
 (oP 30 (.pick (.t 15) (.c (.bool true)) (.t 29)))])
 (.cond (.t 30)
 (.seq (.ops [(oP 4 (.mv (.c (.bool false))))])
 .ret)
 .skip))
 (.seq (.seq (.ops [(mV 31 0),
 (oP 32 (.lenL (.t 31))),
 (oP 33 (.mv (.c (.int .i64 0))))])
 (.block 0
 (.loop
 (.seq (.ops [(oP 34 (.bin .lss (.t 33) (.t 32)))])
 (.seq (.cond (.t 34)
 .skip
 (.exit 0))
 (.seq (.block 1
 (.seq (.ops [(mV 35 33),
 (oP 36 (.indexAddrL 22 (.t 31) (.t 33))),
 (oP 37 (.load true 22 (.t 36))),
 (oP 6 (.alloc 56 [(.str []), (.str []), (.int .i64 0), (.int .i64 0), (.int .i64 0), (.int .i64 0), (.int .u8 0), (.int .u8 0), (.int .u8 0), (.int .u8 0), (.int .u8 0), (.int .u8 0), (.int .u8 0), (.int .u8 0), (.int .u8 0), (.int .u8 0), (.int .u8 0), (.int .u8 0), (.int .u8 0), (.int .u8 0), (.int .u8 0), (.int .u8 0)])),
 (mV 5 35),
 (oU (.store 22 (.t 6) (.t 37)))])
 (.block 2
 (.seq (.seq (.ops [(mV 39 1),
 (oP 40 (.bin .eql (.t 39) (.c (.int .i64 0)))),
 (mV 41 40),
 (oG 42 41 true (.load true 22 (.t 6))),
 (oG 43 41 true (.callF 125 [(.t 42)])),
 (oG 44 41 true (.bin .eql (.t 43) (.c (.int .i64 0)))),
 (oP 45 (.pick (.t 41) (.t 44) (.c (.bool false)))),
 (mV 38 45)])
 (.cond (.t 38)
 .skip
 (.ops [(mV 46 1),
 (oP 47 (.bin .gtr (.t 46) (.c (.int .i64 0)))),
 (mV 48 47),
 (oG 49 48 true (.load true 22 (.t 6))),
 (oG 50 48 true (.callF 126 [(.t 49)])),
 (oG 51 48 true (.un .not (.t 50))),
 (oG 52 48 true (.mv (.t 51))),
 (oG 53 52 false (.mv (.t 5))),
 (oG 54 52 false (.bin .gtr (.t 53) (.c (.int .i64 0)))),
 (oG 55 52 false (.mv (.t 54))),
 (oG 56 55 true (.fieldAddr 0 (.t 6))),
 (oG 57 55 true (.load false 1 (.t 56))),
 (oG 58 55 true (.bin .eql (.t 57) (.c (.str [])))),
 (oG 59 52 false (.pick (.t 55) (.t 58) (.c (.bool false)))),
 (oG 60 48 true (.pick (.t 52) (.c (.bool true)) (.t 59))),
 (oP 61 (.pick (.t 48) (.t 60) (.c (.bool false)))),
 (mV 38 61)])))
 (.cond (.t 38)
 (.seq (.ops [(oP 4 (.mv (.c (.bool false))))])
 .ret)
 (.seq (.draw [((mV 63 5), 0),
 ((oP 64 (.bin .gtr (.t 63) (.c (.int .i64 0)))), 0),
 ((mV 65 64), 0),
 ((oG 66 65 true (.mv (.t 0))), 0),
 ((oG 67 65 true (.mv (.t 5))), 0),
 ((oG 68 65 true (.bin .sub (.t 67) (.c (.int .i64 1)))), 0),
 ((oG 69 65 true (.indexAddrL 22 (.t 66) (.t 68))), 0),
 ((oG 70 65 true (.fieldAddr 0 (.t 69))), 0),
 ((oG 71 65 true (.load false 1 (.t 70))), 1),
 ((oG 72 65 true (.fieldAddr 0 (.t 6))), 0),
 ((oG 73 65 true (.load false 1 (.t 72))), 1),
 ((oG 74 65 true (.callF 83 [(.t 71), (.t 73)])), 0),
 ((oG 75 65 true (.bin .geq (.t 74) (.c (.int .i64 0)))), 0),
 ((oP 76 (.pick (.t 65) (.t 75) (.c (.bool false)))), 0),
 ((mV 62 76), 0)])
 (.cond (.t 62)
 (.seq (.ops [(oP 4 (.mv (.c (.bool false))))])
 .ret)
 .skip)))))))
 (.ops [(oP 77 (.bin .add (.t 33) (.c (.int .i64 1)))),
 (mV 33 77)])))))))
 (.cut (.seq (.ops [(oP 4 (.mv (.c (.bool true))))])
 .ret)))))
theorem F85 : FI 85 2 78 7 [.tmp 4] c85 := ⟨⟨Tryz.f85, Tryz.func85, by kernel_rfl, by kernel_rfl, by kernel_rfl⟩, by kernel_rfl, by decide, by kernel_rfl⟩
/- f72 understory/page.Fits: 19 temporaries, depth 5, 2 parameters, results [t4] -/
def c72 : RC :=
 (.seq (.ops [(oP 4 (.mv (.c (.bool false))))])
 (.seq (.seq (.ops [(mV 7 0),
 (mV 8 1),
 (oP 9 (.callF 85 [(.t 7), (.t 8)])),
 (oP 10 (.un .not (.t 9)))])
 (.cond (.t 10)
 (.seq (.ops [(oP 4 (.mv (.c (.bool false))))])
 .ret)
 .skip))
 (.seq (.ops [(mV 12 0),
 (mV 13 1),
 (oP 14 (.callF 48 [(.t 12), (.t 13)])),
 (mV 11 14),
 (oP 15 (.extract (.t 11) 0)),
 (oP 16 (.extract (.t 11) 1)),
 (mV 5 15),
 (mV 6 16)])
 (.seq (.ops [(mV 17 5),
 (oP 18 (.bin .leq (.t 17) (.c (.int .i64 496)))),
 (mV 4 18)])
 .ret))))
theorem F72 : FI 72 2 19 5 [.tmp 4] c72 := ⟨⟨Tryz.f72, Tryz.func72, by kernel_rfl, by kernel_rfl, by kernel_rfl⟩, by kernel_rfl, by decide, by kernel_rfl⟩
/- f49 understory/page.Capacity: 1 temporaries, depth 2, 0 parameters, results [t0] -/
def c49 : RC :=
 (.seq (.ops [(oP 0 (.mv (.c (.int .i64 0))))])
 (.seq (.ops [(oP 0 (.mv (.c (.int .i64 496))))])
 .ret))
theorem F49 : FI 49 0 1 2 [.tmp 0] c49 := ⟨⟨Tryz.f49, Tryz.func49, by kernel_rfl, by kernel_rfl, by kernel_rfl⟩, by kernel_rfl, by decide, by kernel_rfl⟩
/- f104 understory/page.shared: 31 temporaries, depth 6, 2 parameters, results [t4] -/
def c104 : RC :=
 (.seq (.ops [(oP 4 (.mv (.c (.str []))))])
 (.seq (.seq (.ops [(mV 8 1),
 (oP 9 (.bin .gtr (.t 8) (.c (.int .i64 0))))])
 (.cond (.t 9)
 (.ops [(mV 10 0),
 (oP 11 (.sliceL 22 (.t 10) (some (.c (.int .i64 1))) none none)),
 (mV 0 11)])
 .skip))
 (.cut (.seq (.ops [(mV 12 0),
 (oP 13 (.indexAddrL 22 (.t 12) (.c (.int .i64 0)))),
 (oP 14 (.fieldAddr 0 (.t 13))),
 (oP 15 (.load false 1 (.t 14))),
 (mV 5 15)])
 (.seq (.seq (.ops [(mV 16 0),
 (oP 17 (.sliceL 22 (.t 16) (some (.c (.int .i64 1))) none none)),
 (oP 18 (.lenL (.t 17))),
 (oP 19 (.mv (.c (.int .i64 0))))])
 (.block 0
 (.loop
 (.seq (.ops [(oP 20 (.bin .lss (.t 19) (.t 18)))])
 (.seq (.cond (.t 20)
 .skip
 (.exit 0))
 (.seq (.block 1
 (.seq (.ops [(oP 21 (.indexAddrL 22 (.t 17) (.t 19))),
 (oP 22 (.load true 22 (.t 21))),
 (oP 7 (.alloc 56 [(.str []), (.str []), (.int .i64 0), (.int .i64 0), (.int .i64 0), (.int .i64 0), (.int .u8 0), (.int .u8 0), (.int .u8 0), (.int .u8 0), (.int .u8 0), (.int .u8 0), (.int .u8 0), (.int .u8 0), (.int .u8 0), (.int .u8 0), (.int .u8 0), (.int .u8 0), (.int .u8 0), (.int .u8 0), (.int .u8 0), (.int .u8 0)])),
 (oU (.store 22 (.t 7) (.t 22)))])
 (.ops [(mV 23 5),
 (mV 24 5),
 (oP 25 (.fieldAddr 0 (.t 7))),
 (oP 26 (.load false 1 (.t 25))),
 (oP 27 (.callF 140 [(.t 24), (.t 26)])),
 (oP 28 (.sliceS (.t 23) none (some (.t 27)))),
 (mV 5 28)])))
 (.ops [(oP 29 (.bin .add (.t 19) (.c (.int .i64 1)))),
 (mV 19 29)])))))))
 (.cut (.seq (.ops [(mV 30 5),
 (mV 4 30)])
 .ret)))))))
theorem F104 : FI 104 2 31 6 [.tmp 4] c104 := ⟨⟨Tryz.f104, Tryz.func104, by kernel_rfl, by kernel_rfl, by kernel_rfl⟩, by kernel_rfl, by decide, by kernel_rfl⟩
/- f71 understory/page.within: 15 temporaries, depth 5, 3 parameters, results [t6] -/
def c71 : RC :=
 (.seq (.ops [(oP 6 (.mv (.c (.bool false))))])
 (.seq (.ops [(mV 7 1),
 (mV 8 0),
 (oP 9 (.bin .leq (.t 7) (.t 8))),
 (mV 10 9),
 (oG 11 10 true (.mv (.t 0))),
 (oG 12 10 true (.mv (.t 2))),
 (oG 13 10 true (.bin .leq (.t 11) (.t 12))),
 (oP 14 (.pick (.t 10) (.t 13) (.c (.bool false)))),
 (mV 6 14)])
 .ret))
theorem F71 : FI 71 3 15 5 [.tmp 6] c71 := ⟨⟨Tryz.f71, Tryz.func71, by kernel_rfl, by kernel_rfl, by kernel_rfl⟩, by kernel_rfl, by decide, by kernel_rfl⟩
/- f105 understory/page.weigh: 38 temporaries, depth 6, 2 parameters, results [t4, t5] -/
def c105 : RC :=
 (.seq (.ops [(oP 2 (.box 56 (.t 0))),
 (oP 4 (.mv (.c (.int .i64 0)))),
 (oP 5 (.mv (.c (.bool false))))])
 (.seq (.seq (.ops [(mV 6 1),
 (oP 7 (.bin .gtr (.t 6) (.c (.int .i64 0))))])
 (.cond (.t 7)
 (.seq (.draw [((oP 8 (.fieldAddr 0 (.t 2))), 0),
 ((oP 9 (.load false 1 (.t 8))), 1),
 ((oP 10 (.lenS (.t 9))), 0),
 ((oP 11 (.bin .add (.t 10) (.c (.int .i64 27)))), 0),
 ((oP 12 (.load true 22 (.t 2))), 1),
 ((oP 13 (.callF 126 [(.t 12)])), 0),
 ((mV 4 11), 0),
 ((mV 5 13), 0)])
 .ret)
 .skip))
 (.seq (.seq (.ops [(oP 14 (.load true 22 (.t 2))),
 (oP 15 (.callF 125 [(.t 14)]))])
 (.block 0
 (.seq (.ops [(oP 17 (.bin .eql (.t 15) (.c (.int .i64 1)))),
 (mV 16 17)])
 (.cond (.t 16)
 (.seq (.ops [(oP 18 (.fieldAddr 0 (.t 2))),
 (oP 19 (.load false 1 (.t 18))),
 (oP 20 (.lenS (.t 19))),
 (oP 21 (.fieldAddr 1 (.t 2))),
 (oP 22 (.load false 1 (.t 21))),
 (oP 23 (.lenS (.t 22))),
 (oP 24 (.bin .add (.t 20) (.t 23))),
 (oP 25 (.bin .add (.t 24) (.c (.int .i64 5)))),
 (mV 4 25),
 (oP 5 (.mv (.c (.bool true))))])
 .ret)
 (.seq (.ops [(oP 27 (.bin .eql (.t 15) (.c (.int .i64 2)))),
 (mV 26 27)])
 (.cond (.t 26)
 (.seq (.ops [(oP 28 (.fieldAddr 0 (.t 2))),
 (oP 29 (.load false 1 (.t 28))),
 (oP 30 (.lenS (.t 29))),
 (oP 31 (.bin .add (.t 30) (.c (.int .i64 27)))),
 (mV 4 31),
 (oP 5 (.mv (.c (.bool true))))])
 .ret)
 (.seq (.ops [(oP 33 (.bin .eql (.t 15) (.c (.int .i64 3)))),
 (mV 32 33)])
 (.cond (.t 32)
 (.seq (.ops [(oP 34 (.fieldAddr 0 (.t 2))),
 (oP 35 (.load false 1 (.t 34))),
 (oP 36 (.lenS (.t 35))),
 (oP 37 (.bin .add (.t 36) (.c (.int .i64 29)))),
 (mV 4 37),
 (oP 5 (.mv (.c (.bool true))))])
 .ret)
 .skip))))))))
 (.seq (.ops [(oP 4 (.mv (.c (.int .i64 0)))),
 (oP 5 (.mv (.c (.bool false))))])
 .ret))))
theorem F105 : FI 105 2 38 6 [.tmp 4, .tmp 5] c105 := ⟨⟨Tryz.f105, Tryz.func105, by kernel_rfl, by kernel_rfl, by kernel_rfl⟩, by kernel_rfl, by decide, by kernel_rfl⟩
/- f125 understory/page.formOf: 83 temporaries, depth 7, 1 parameters, results [t2] -/
def c125 : RC :=
 (.seq (.ops [(oP 1 (.box 56 (.t 0))),
 (oP 2 (.mv (.c (.int .i64 0))))])
 (.seq (.ops [(oP 3 (.alloc 54 [(.int .u8 0), (.int .u8 0), (.int .u8 0), (.int .u8 0), (.int .u8 0), (.int .u8 0), (.int .u8 0), (.int .u8 0), (.int .u8 0), (.int .u8 0), (.int .u8 0), (.int .u8 0), (.int .u8 0), (.int .u8 0), (.int .u8 0), (.int .u8 0)]))])
 (.seq (.block 0
 (.seq (.ops [(oP 5 (.fieldAddr 0 (.t 1))),
 (oP 6 (.load false 1 (.t 5))),
 (oP 7 (.lenS (.t 6))),
 (oP 8 (.callF 71 [(.t 7), (.c (.int .i64 1)), (.c (.int .i64 48))])),
 (oP 9 (.un .not (.t 8))),
 (mV 4 9)])
 (.cond (.t 4)
 (.seq (.ops [(oP 2 (.mv (.c (.int .i64 0))))])
 .ret)
 (.seq (.ops [(oP 11 (.fieldAddr 2 (.t 1))),
 (oP 12 (.load false 1 (.t 11))),
 (oP 13 (.bin .eql (.t 12) (.c (.int .i64 0)))),
 (mV 14 13),
 (oG 15 14 true (.fieldAddr 3 (.t 1))),
 (oG 16 14 true (.load false 1 (.t 15))),
 (oG 17 14 true (.bin .eql (.t 16) (.c (.int .i64 0)))),
 (oP 18 (.pick (.t 14) (.t 17) (.c (.bool false)))),
 (mV 19 18),
 (oG 20 19 true (.fieldAddr 4 (.t 1))),
 (oG 21 19 true (.load false 1 (.t 20))),
 (oG 22 19 true (.bin .eql (.t 21) (.c (.int .i64 0)))),
 (oP 23 (.pick (.t 19) (.t 22) (.c (.bool false)))),
 (mV 24 23),
 (oG 25 24 true (.fieldAddr 5 (.t 1))),
 (oG 26 24 true (.load false 1 (.t 25))),
 (oG 27 24 true (.bin .eql (.t 26) (.c (.int .i64 0)))),
 (oP 28 (.pick (.t 24) (.t 27) (.c (.bool false)))),
 (mV 29 28),
 (oG 30 29 true (.fieldAddr 6 (.t 1))),
 (oG 31 29 true (.load true 16 (.t 30))),
 (oG 32 29 true (.load true 16 (.t 3))),
 (oG 33 29 true (.cmp false 54 (.t 31) (.t 32))),
 (oP 34 (.pick (.t 29) (.t 33) (.c (.bool false)))),
 (mV 35 34),
 (oG 36 35 true (.fieldAddr 1 (.t 1))),
 (oG 37 35 true (.load false 1 (.t 36))),
 (oG 38 35 true (.lenS (.t 37))),
 (oG 39 35 true (.bin .leq (.t 38) (.c (.int .i64 64)))),
 (oP 40 (.pick (.t 35) (.t 39) (.c (.bool false)))),
 (mV 10 40)])
 (.cond (.t 10)
 (.seq (.ops [(oP 2 (.mv (.c (.int .i64 1))))])
 .ret)
 (.seq (.ops [(oP 42 (.fieldAddr 1 (.t 1))),
 (oP 43 (.load false 1 (.t 42))),
 (oP 44 (.bin .neq (.t 43) (.c (.str [])))),
 (mV 41 44)])
 (.cond (.t 41)
 (.seq (.ops [(oP 2 (.mv (.c (.int .i64 0))))])
 .ret)
 (.seq (.ops [(oP 46 (.fieldAddr 4 (.t 1))),
 (oP 47 (.load false 1 (.t 46))),
 (oP 48 (.bin .eql (.t 47) (.c (.int .i64 0)))),
 (mV 49 48),
 (oG 50 49 true (.fieldAddr 5 (.t 1))),
 (oG 51 49 true (.load false 1 (.t 50))),
 (oG 52 49 true (.bin .eql (.t 51) (.c (.int .i64 0)))),
 (oP 53 (.pick (.t 49) (.t 52) (.c (.bool false)))),
 (mV 54 53),
 (oG 55 54 true (.fieldAddr 2 (.t 1))),
 (oG 56 54 true (.load false 1 (.t 55))),
 (oG 57 54 true (.callF 70 [(.t 56)])),
 (oP 58 (.pick (.t 54) (.t 57) (.c (.bool false)))),
 (mV 59 58),
 (oG 60 59 true (.fieldAddr 3 (.t 1))),
 (oG 61 59 true (.load false 1 (.t 60))),
 (oG 62 59 true (.callF 71 [(.t 61), (.c (.int .i64 65)), (.c (.int .i64 4000))])),
 (oP 63 (.pick (.t 59) (.t 62) (.c (.bool false)))),
 (mV 45 63)])
 (.cond (.t 45)
 (.seq (.ops [(oP 2 (.mv (.c (.int .i64 2))))])
 .ret)
 (.seq (.ops [(oP 65 (.fieldAddr 2 (.t 1))),
 (oP 66 (.load false 1 (.t 65))),
 (oP 67 (.bin .eql (.t 66) (.c (.int .i64 0)))),
 (mV 68 67),
 (oG 69 68 true (.fieldAddr 3 (.t 1))),
 (oG 70 68 true (.load false 1 (.t 69))),
 (oG 71 68 true (.bin .eql (.t 70) (.c (.int .i64 0)))),
 (oP 72 (.pick (.t 68) (.t 71) (.c (.bool false)))),
 (mV 73 72),
 (oG 74 73 true (.fieldAddr 4 (.t 1))),
 (oG 75 73 true (.load false 1 (.t 74))),
 (oG 76 73 true (.callF 70 [(.t 75)])),
 (oP 77 (.pick (.t 73) (.t 76) (.c (.bool false)))),
 (mV 78 77),
 (oG 79 78 true (.fieldAddr 5 (.t 1))),
 (oG 80 78 true (.load false 1 (.t 79))),
 (oG 81 78 true (.callF 71 [(.t 80), (.c (.int .i64 1)), (.c (.int .i64 2147483647))])),
 (oP 82 (.pick (.t 78) (.t 81) (.c (.bool false)))),
 (mV 64 82)])
 (.cond (.t 64)
 (.seq (.ops [(oP 2 (.mv (.c (.int .i64 3))))])
 .ret)
 .skip)))))))))))
 (.seq (.ops [(oP 2 (.mv (.c (.int .i64 0))))])
 .ret))))
theorem F125 : FI 125 1 83 7 [.tmp 2] c125 := ⟨⟨Tryz.f125, Tryz.func125, by kernel_rfl, by kernel_rfl, by kernel_rfl⟩, by kernel_rfl, by decide, by kernel_rfl⟩
/- f126 understory/page.branches: 32 temporaries, depth 6, 1 parameters, results [t2] -/
def c126 : RC :=
 (.seq (.ops [(oP 1 (.box 56 (.t 0))),
 (oP 2 (.mv (.c (.bool false))))])
 (.seq (.ops [(oP 3 (.fieldAddr 0 (.t 1))),
 (oP 4 (.load false 1 (.t 3))),
 (oP 5 (.lenS (.t 4))),
 (oP 6 (.bin .leq (.t 5) (.c (.int .i64 48)))),
 (mV 7 6),
 (oG 8 7 true (.fieldAddr 1 (.t 1))),
 (oG 9 7 true (.load false 1 (.t 8))),
 (oG 10 7 true (.bin .eql (.t 9) (.c (.str [])))),
 (oP 11 (.pick (.t 7) (.t 10) (.c (.bool false)))),
 (mV 12 11),
 (oG 13 12 true (.fieldAddr 2 (.t 1))),
 (oG 14 12 true (.load false 1 (.t 13))),
 (oG 15 12 true (.bin .eql (.t 14) (.c (.int .i64 0)))),
 (oP 16 (.pick (.t 12) (.t 15) (.c (.bool false)))),
 (mV 17 16),
 (oG 18 17 true (.fieldAddr 3 (.t 1))),
 (oG 19 17 true (.load false 1 (.t 18))),
 (oG 20 17 true (.bin .eql (.t 19) (.c (.int .i64 0)))),
 (oP 21 (.pick (.t 17) (.t 20) (.c (.bool false)))),
 (mV 22 21),
 (oG 23 22 true (.fieldAddr 4 (.t 1))),
 (oG 24 22 true (.load false 1 (.t 23))),
 (oG 25 22 true (.callF 70 [(.t 24)])),
 (oP 26 (.pick (.t 22) (.t 25) (.c (.bool false)))),
 (mV 27 26),
 (oG 28 27 true (.fieldAddr 5 (.t 1))),
 (oG 29 27 true (.load false 1 (.t 28))),
 (oG 30 27 true (.callF 71 [(.t 29), (.c (.int .i64 1)), (.c (.int .i64 2147483647))])),
 (oP 31 (.pick (.t 27) (.t 30) (.c (.bool false)))),
 (mV 2 31)])
 .ret))
theorem F126 : FI 126 1 32 6 [.tmp 2] c126 := ⟨⟨Tryz.f126, Tryz.func126, by kernel_rfl, by kernel_rfl, by kernel_rfl⟩, by kernel_rfl, by decide, by kernel_rfl⟩
/- f83 understory/enc.Compare: 8 temporaries, depth 4, 2 parameters, results [t4] -/
def c83 : RC :=
 (.seq (.ops [(oP 4 (.mv (.c (.int .i64 0))))])
 (.seq (.ops [(mV 5 0),
 (mV 6 1),
 (oP 7 (.callF 124 [(.t 5), (.t 6)])),
 (mV 4 7)])
 .ret))
theorem F83 : FI 83 2 8 4 [.tmp 4] c83 := ⟨⟨Tryz.f83, Tryz.func83, by kernel_rfl, by kernel_rfl, by kernel_rfl⟩, by kernel_rfl, by decide, by kernel_rfl⟩
/- f70 understory/page.numbered: 5 temporaries, depth 3, 1 parameters, results [t2] -/
def c70 : RC :=
 (.seq (.ops [(oP 2 (.mv (.c (.bool false))))])
 (.seq (.ops [(mV 3 0),
 (oP 4 (.callF 71 [(.t 3), (.c (.int .i64 2)), (.c (.int .i64 4095))])),
 (mV 2 4)])
 .ret))
theorem F70 : FI 70 1 5 3 [.tmp 2] c70 := ⟨⟨Tryz.f70, Tryz.func70, by kernel_rfl, by kernel_rfl, by kernel_rfl⟩, by kernel_rfl, by decide, by kernel_rfl⟩
/- f140 understory/enc.Prefix: 25 temporaries, depth 5, 2 parameters, results [t4] -/
def c140 : RC :=
 (.seq (.ops [(oP 4 (.mv (.c (.int .i64 0))))])
 (.seq (.ops [(oP 5 (.mv (.c (.int .i64 0))))])
 (.seq (.block 0
 (.loop
 (.seq (.seq (.draw [((mV 6 5), 0),
 ((mV 7 0), 0),
 ((oP 8 (.lenS (.t 7))), 0),
 ((mV 9 1), 0),
 ((oP 10 (.lenS (.t 9))), 0),
 ((oP 11 (.mm false (.t 8) (.t 10))), 0),
 ((oP 12 (.bin .lss (.t 6) (.t 11))), 0),
 ((mV 13 12), 0),
 ((oG 14 13 true (.mv (.t 0))), 0),
 ((oG 15 13 true (.mv (.t 5))), 0),
 ((oG 16 13 true (.indexS (.t 14) (.t 15))), 0),
 ((oG 17 13 true (.mv (.t 1))), 0),
 ((oG 18 13 true (.mv (.t 5))), 0),
 ((oG 19 13 true (.indexS (.t 17) (.t 18))), 0),
 ((oG 20 13 true (.bin .eql (.t 16) (.t 19))), 0),
 ((oP 21 (.pick (.t 13) (.t 20) (.c (.bool false)))), 0)])
 (.cond (.t 21)
 .skip
 (.exit 0)))
 (.block 1
 (.ops [(mV 22 5),
 (oP 23 (.bin .add (.t 22) (.c (.int .i64 1)))),
 (mV 5 23)])))))
 (.cut (.seq (.ops [(mV 24 5),
 (mV 4 24)])
 .ret)))))
theorem F140 : FI 140 2 25 5 [.tmp 4] c140 := ⟨⟨Tryz.f140, Tryz.func140, by kernel_rfl, by kernel_rfl, by kernel_rfl⟩, by kernel_rfl, by decide, by kernel_rfl⟩
/- f124 cmp.Compare[string]: 20 temporaries, depth 5, 2 parameters, results [t4] -/
def c124 : RC :=
 (.seq (.ops [(oP 4 (.mv (.c (.int .i64 0))))])
 (.seq (.ops [(mV 7 0),
 (oP 8 (.callF 154 [(.t 7)])),
 (mV 5 8)])
 (.seq (.ops [(mV 9 1),
 (oP 10 (.callF 154 [(.t 9)])),
 (mV 6 10)])
 (.seq (.seq (.ops [(mV 11 5)])
 (.cond (.t 11)
 (.seq (.seq (.ops [(mV 12 6)])
 (.cond (.t 12)
 (.seq (.ops [(oP 4 (.mv (.c (.int .i64 0))))])
 .ret)
 .skip))
 (.seq (.ops [(oP 4 (.mv (.c (.int .i64 (-1)))))])
 .ret))
 .skip))
 (.seq (.seq (.ops [(mV 13 6)])
 (.cond (.t 13)
 (.seq (.ops [(oP 4 (.mv (.c (.int .i64 1))))])
 .ret)
 .skip))
 (.seq (.seq (.ops [(mV 14 0),
 (mV 15 1),
 (oP 16 (.bin .lss (.t 14) (.t 15)))])
 (.cond (.t 16)
 (.seq (.ops [(oP 4 (.mv (.c (.int .i64 (-1)))))])
 .ret)
 .skip))
 (.seq (.seq (.ops [(mV 17 0),
 (mV 18 1),
 (oP 19 (.bin .gtr (.t 17) (.t 18)))])
 (.cond (.t 19)
 (.seq (.ops [(oP 4 (.mv (.c (.int .i64 1))))])
 .ret)
 .skip))
 (.seq (.ops [(oP 4 (.mv (.c (.int .i64 0))))])
 .ret))))))))
theorem F124 : FI 124 2 20 5 [.tmp 4] c124 := ⟨⟨Tryz.f124, Tryz.func124, by kernel_rfl, by kernel_rfl, by kernel_rfl⟩, by kernel_rfl, by decide, by kernel_rfl⟩
/- f154 cmp.isNaN[string]: 6 temporaries, depth 3, 1 parameters, results [t2] -/
def c154 : RC :=
 (.seq (.ops [(oP 2 (.mv (.c (.bool false))))])
 (.seq (.ops [(mV 3 0),
 (mV 4 0),
 (oP 5 (.bin .neq (.t 3) (.t 4))),
 (mV 2 5)])
 .ret))
theorem F154 : FI 154 1 6 3 [.tmp 2] c154 := ⟨⟨Tryz.f154, Tryz.func154, by kernel_rfl, by kernel_rfl, by kernel_rfl⟩, by kernel_rfl, by decide, by kernel_rfl⟩
end Go.Proofs
/- The looked-up text of the functions. -/
namespace Go.Proofs
open Go Go.Abs
/- f112 understory/digest.CRC: 5 temporaries, depth 3, 1 parameters, results [t2] -/
def c112 : RC :=
 (.seq (.ops [(oP 2 (.mv (.c (.int .u32 0))))])
 (.seq (.ops [(mV 3 0),
 (oP 4 (.callF 149 [(.c (.int .u32 0)), (.t 3)])),
 (mV 2 4)])
 .ret))
theorem F112 : FI 112 1 5 3 [.tmp 2] c112 := ⟨⟨Tryz.f112, Tryz.func112, by kernel_rfl, by kernel_rfl, by kernel_rfl⟩, by kernel_rfl, by decide, by kernel_rfl⟩
/- f149 understory/digest.Extend: 30 temporaries, depth 5, 2 parameters, results [t4] -/
def c149 : RC :=
 (.seq (.ops [(oP 4 (.mv (.c (.int .u32 0))))])
 (.seq (.ops [(oP 8 (.callF 168 [])),
 (oP 5 (.alloc 244 [(.int .u32 0), (.int .u32 0), (.int .u32 0), (.int .u32 0), (.int .u32 0), (.int .u32 0), (.int .u32 0), (.int .u32 0), (.int .u32 0), (.int .u32 0), (.int .u32 0), (.int .u32 0), (.int .u32 0), (.int .u32 0), (.int .u32 0), (.int .u32 0), (.int .u32 0), (.int .u32 0), (.int .u32 0), (.int .u32 0), (.int .u32 0), (.int .u32 0), (.int .u32 0), (.int .u32 0), (.int .u32 0), (.int .u32 0), (.int .u32 0), (.int .u32 0), (.int .u32 0), (.int .u32 0), (.int .u32 0), (.int .u32 0), (.int .u32 0), (.int .u32 0), (.int .u32 0), (.int .u32 0), (.int .u32 0), (.int .u32 0), (.int .u32 0), (.int .u32 0), (.int .u32 0), (.int .u32 0), (.int .u32 0), (.int .u32 0), (.int .u32 0), (.int .u32 0), (.int .u32 0), (.int .u32 0), (.int .u32 0), (.int .u32 0), (.int .u32 0), (.int .u32 0), (.int .u32 0), (.int .u32 0), (.int .u32 0), (.int .u32 0), (.int .u32 0), (.int .u32 0), (.int .u32 0), (.int .u32 0), (.int .u32 0), (.int .u32 0), (.int .u32 0), (.int .u32 0), (.int .u32 0), (.int .u32 0), (.int .u32 0), (.int .u32 0), (.int .u32 0), (.int .u32 0), (.int .u32 0), (.int .u32 0), (.int .u32 0), (.int .u32 0), (.int .u32 0), (.int .u32 0), (.int .u32 0), (.int .u32 0), (.int .u32 0), (.int .u32 0), (.int .u32 0), (.int .u32 0), (.int .u32 0), (.int .u32 0), (.int .u32 0), (.int .u32 0), (.int .u32 0), (.int .u32 0), (.int .u32 0), (.int .u32 0), (.int .u32 0), (.int .u32 0), (.int .u32 0), (.int .u32 0), (.int .u32 0), (.int .u32 0), (.int .u32 0), (.int .u32 0), (.int .u32 0), (.int .u32 0), (.int .u32 0), (.int .u32 0), (.int .u32 0), (.int .u32 0), (.int .u32 0), (.int .u32 0), (.int .u32 0), (.int .u32 0), (.int .u32 0), (.int .u32 0), (.int .u32 0), (.int .u32 0), (.int .u32 0), (.int .u32 0), (.int .u32 0), (.int .u32 0), (.int .u32 0), (.int .u32 0), (.int .u32 0), (.int .u32 0), (.int .u32 0), (.int .u32 0), (.int .u32 0), (.int .u32 0), (.int .u32 0), (.int .u32 0), (.int .u32 0), (.int .u32 0), (.int .u32 0), (.int .u32 0), (.int .u32 0), (.int .u32 0), (.int .u32 0), (.int .u32 0), (.int .u32 0), (.int .u32 0), (.int .u32 0), (.int .u32 0), (.int .u32 0), (.int .u32 0), (.int .u32 0), (.int .u32 0), (.int .u32 0), (.int .u32 0), (.int .u32 0), (.int .u32 0), (.int .u32 0), (.int .u32 0), (.int .u32 0), (.int .u32 0), (.int .u32 0), (.int .u32 0), (.int .u32 0), (.int .u32 0), (.int .u32 0), (.int .u32 0), (.int .u32 0), (.int .u32 0), (.int .u32 0), (.int .u32 0), (.int .u32 0), (.int .u32 0), (.int .u32 0), (.int .u32 0), (.int .u32 0), (.int .u32 0), (.int .u32 0), (.int .u32 0), (.int .u32 0), (.int .u32 0), (.int .u32 0), (.int .u32 0), (.int .u32 0), (.int .u32 0), (.int .u32 0), (.int .u32 0), (.int .u32 0), (.int .u32 0), (.int .u32 0), (.int .u32 0), (.int .u32 0), (.int .u32 0), (.int .u32 0), (.int .u32 0), (.int .u32 0), (.int .u32 0), (.int .u32 0), (.int .u32 0), (.int .u32 0), (.int .u32 0), (.int .u32 0), (.int .u32 0), (.int .u32 0), (.int .u32 0), (.int .u32 0), (.int .u32 0), (.int .u32 0), (.int .u32 0), (.int .u32 0), (.int .u32 0), (.int .u32 0), (.int .u32 0), (.int .u32 0), (.int .u32 0), (.int .u32 0), (.int .u32 0), (.int .u32 0), (.int .u32 0), (.int .u32 0), (.int .u32 0), (.int .u32 0), (.int .u32 0), (.int .u32 0), (.int .u32 0), (.int .u32 0), (.int .u32 0), (.int .u32 0), (.int .u32 0), (.int .u32 0), (.int .u32 0), (.int .u32 0), (.int .u32 0), (.int .u32 0), (.int .u32 0), (.int .u32 0), (.int .u32 0), (.int .u32 0), (.int .u32 0), (.int .u32 0), (.int .u32 0), (.int .u32 0), (.int .u32 0), (.int .u32 0), (.int .u32 0), (.int .u32 0), (.int .u32 0), (.int .u32 0), (.int .u32 0), (.int .u32 0), (.int .u32 0), (.int .u32 0), (.int .u32 0), (.int .u32 0), (.int .u32 0), (.int .u32 0), (.int .u32 0), (.int .u32 0), (.int .u32 0), (.int .u32 0), (.int .u32 0), (.int .u32 0), (.int .u32 0), (.int .u32 0), (.int .u32 0), (.int .u32 0), (.int .u32 0)])),
 (oU (.store 256 (.t 5) (.t 8)))])
 (.seq (.ops [(mV 9 0),
 (oP 10 (.un .xor (.t 9))),
 (mV 6 10)])
 (.seq (.seq (.ops [(mV 11 1),
 (oP 12 (.lenS (.t 11))),
 (oP 13 (.mv (.c (.int .i64 0))))])
 (.block 0
 (.loop
 (.seq (.ops [(oP 14 (.bin .lss (.t 13) (.t 12)))])
 (.seq (.cond (.t 14)
 .skip
 (.exit 0))
 (.seq (.block 1
 (.seq (.ops [(mV 15 13),
 (mV 7 15)])
 (.ops [(mV 16 6),
 (oP 17 (.toInt .u8 (.t 16))),
 (mV 18 1),
 (mV 19 7),
 (oP 20 (.indexS (.t 18) (.t 19))),
 (oP 21 (.bin .xor (.t 17) (.t 20))),
 (oP 22 (.indexAddrA 256 1 (.t 5) (.t 21))),
 (oP 23 (.load false 1 (.t 22))),
 (mV 24 6),
 (oP 25 (.bin .shr (.t 24) (.c (.int .u64 8)))),
 (oP 26 (.bin .xor (.t 23) (.t 25))),
 (mV 6 26)])))
 (.ops [(oP 27 (.bin .add (.t 13) (.c (.int .i64 1)))),
 (mV 13 27)])))))))
 (.cut (.seq (.ops [(mV 28 6),
 (oP 29 (.un .xor (.t 28))),
 (mV 4 29)])
 .ret))))))
theorem F149 : FI 149 2 30 5 [.tmp 4] c149 := ⟨⟨Tryz.f149, Tryz.func149, by kernel_rfl, by kernel_rfl, by kernel_rfl⟩, by kernel_rfl, by decide, by kernel_rfl⟩
/- f168 understory/digest.table: 18 temporaries, depth 5, 0 parameters, results [*t0] -/
def c168 : RC :=
 (.seq (.ops [(oP 0 (.alloc 244 [(.int .u32 0), (.int .u32 0), (.int .u32 0), (.int .u32 0), (.int .u32 0), (.int .u32 0), (.int .u32 0), (.int .u32 0), (.int .u32 0), (.int .u32 0), (.int .u32 0), (.int .u32 0), (.int .u32 0), (.int .u32 0), (.int .u32 0), (.int .u32 0), (.int .u32 0), (.int .u32 0), (.int .u32 0), (.int .u32 0), (.int .u32 0), (.int .u32 0), (.int .u32 0), (.int .u32 0), (.int .u32 0), (.int .u32 0), (.int .u32 0), (.int .u32 0), (.int .u32 0), (.int .u32 0), (.int .u32 0), (.int .u32 0), (.int .u32 0), (.int .u32 0), (.int .u32 0), (.int .u32 0), (.int .u32 0), (.int .u32 0), (.int .u32 0), (.int .u32 0), (.int .u32 0), (.int .u32 0), (.int .u32 0), (.int .u32 0), (.int .u32 0), (.int .u32 0), (.int .u32 0), (.int .u32 0), (.int .u32 0), (.int .u32 0), (.int .u32 0), (.int .u32 0), (.int .u32 0), (.int .u32 0), (.int .u32 0), (.int .u32 0), (.int .u32 0), (.int .u32 0), (.int .u32 0), (.int .u32 0), (.int .u32 0), (.int .u32 0), (.int .u32 0), (.int .u32 0), (.int .u32 0), (.int .u32 0), (.int .u32 0), (.int .u32 0), (.int .u32 0), (.int .u32 0), (.int .u32 0), (.int .u32 0), (.int .u32 0), (.int .u32 0), (.int .u32 0), (.int .u32 0), (.int .u32 0), (.int .u32 0), (.int .u32 0), (.int .u32 0), (.int .u32 0), (.int .u32 0), (.int .u32 0), (.int .u32 0), (.int .u32 0), (.int .u32 0), (.int .u32 0), (.int .u32 0), (.int .u32 0), (.int .u32 0), (.int .u32 0), (.int .u32 0), (.int .u32 0), (.int .u32 0), (.int .u32 0), (.int .u32 0), (.int .u32 0), (.int .u32 0), (.int .u32 0), (.int .u32 0), (.int .u32 0), (.int .u32 0), (.int .u32 0), (.int .u32 0), (.int .u32 0), (.int .u32 0), (.int .u32 0), (.int .u32 0), (.int .u32 0), (.int .u32 0), (.int .u32 0), (.int .u32 0), (.int .u32 0), (.int .u32 0), (.int .u32 0), (.int .u32 0), (.int .u32 0), (.int .u32 0), (.int .u32 0), (.int .u32 0), (.int .u32 0), (.int .u32 0), (.int .u32 0), (.int .u32 0), (.int .u32 0), (.int .u32 0), (.int .u32 0), (.int .u32 0), (.int .u32 0), (.int .u32 0), (.int .u32 0), (.int .u32 0), (.int .u32 0), (.int .u32 0), (.int .u32 0), (.int .u32 0), (.int .u32 0), (.int .u32 0), (.int .u32 0), (.int .u32 0), (.int .u32 0), (.int .u32 0), (.int .u32 0), (.int .u32 0), (.int .u32 0), (.int .u32 0), (.int .u32 0), (.int .u32 0), (.int .u32 0), (.int .u32 0), (.int .u32 0), (.int .u32 0), (.int .u32 0), (.int .u32 0), (.int .u32 0), (.int .u32 0), (.int .u32 0), (.int .u32 0), (.int .u32 0), (.int .u32 0), (.int .u32 0), (.int .u32 0), (.int .u32 0), (.int .u32 0), (.int .u32 0), (.int .u32 0), (.int .u32 0), (.int .u32 0), (.int .u32 0), (.int .u32 0), (.int .u32 0), (.int .u32 0), (.int .u32 0), (.int .u32 0), (.int .u32 0), (.int .u32 0), (.int .u32 0), (.int .u32 0), (.int .u32 0), (.int .u32 0), (.int .u32 0), (.int .u32 0), (.int .u32 0), (.int .u32 0), (.int .u32 0), (.int .u32 0), (.int .u32 0), (.int .u32 0), (.int .u32 0), (.int .u32 0), (.int .u32 0), (.int .u32 0), (.int .u32 0), (.int .u32 0), (.int .u32 0), (.int .u32 0), (.int .u32 0), (.int .u32 0), (.int .u32 0), (.int .u32 0), (.int .u32 0), (.int .u32 0), (.int .u32 0), (.int .u32 0), (.int .u32 0), (.int .u32 0), (.int .u32 0), (.int .u32 0), (.int .u32 0), (.int .u32 0), (.int .u32 0), (.int .u32 0), (.int .u32 0), (.int .u32 0), (.int .u32 0), (.int .u32 0), (.int .u32 0), (.int .u32 0), (.int .u32 0), (.int .u32 0), (.int .u32 0), (.int .u32 0), (.int .u32 0), (.int .u32 0), (.int .u32 0), (.int .u32 0), (.int .u32 0), (.int .u32 0), (.int .u32 0), (.int .u32 0), (.int .u32 0), (.int .u32 0), (.int .u32 0), (.int .u32 0), (.int .u32 0), (.int .u32 0), (.int .u32 0), (.int .u32 0), (.int .u32 0), (.int .u32 0), (.int .u32 0), (.int .u32 0), (.int .u32 0), (.int .u32 0), (.int .u32 0), (.int .u32 0), (.int .u32 0), (.int .u32 0), (.int .u32 0), (.int .u32 0), (.int .u32 0), (.int .u32 0), (.int .u32 0), (.int .u32 0), (.int .u32 0), (.int .u32 0)]))])
 (.seq (.seq (.ops [(oP 3 (.mv (.c (.int .i64 0))))])
 (.block 0
 (.loop
 (.seq (.ops [(oP 4 (.bin .lss (.t 3) (.c (.int .i64 256))))])
 (.seq (.cond (.t 4)
 .skip
 (.exit 0))
 (.seq (.block 1
 (.seq (.ops [(mV 5 3),
 (mV 1 5)])
 (.seq (.ops [(mV 6 1),
 (oP 7 (.toInt .u32 (.t 6))),
 (mV 2 7)])
 (.seq (.seq (.ops [(oP 8 (.mv (.c (.int .i64 0))))])
 (.block 2
 (.loop
 (.seq (.ops [(oP 9 (.bin .lss (.t 8) (.c (.int .i64 8))))])
 (.seq (.cond (.t 9)
 .skip
 (.exit 2))
 (.seq (.block 3
 (.ops [(mV 10 2),
 (oP 11 (.callF 188 [(.t 10)])),
 (mV 2 11)]))
 (.ops [(oP 12 (.bin .add (.t 8) (.c (.int .i64 1)))),
 (mV 8 12)])))))))
 (.cut (.ops [(mV 13 1),
 (mV 14 2),
 (oP 15 (.indexAddrA 256 1 (.t 0) (.t 13))),
 (oU (.store 1 (.t 15) (.t 14)))]))))))
 (.cut (.ops [(oP 16 (.bin .add (.t 3) (.c (.int .i64 1)))),
 (mV 3 16)]))))))))
 (.cut (.seq (.ops [(oP 17 (.load true 256 (.t 0))),
 (oU (.store 256 (.t 0) (.t 17)))])
 .ret))))
theorem F168 : FI 168 0 18 5 [.cell 0 244] c168 := ⟨⟨Tryz.f168, Tryz.func168, by kernel_rfl, by kernel_rfl, by kernel_rfl⟩, by kernel_rfl, by decide, by kernel_rfl⟩
/- f188 understory/digest.bit: 11 temporaries, depth 4, 1 parameters, results [t2] -/
def c188 : RC :=
 (.seq (.ops [(oP 2 (.mv (.c (.int .u32 0))))])
 (.seq (.seq (.ops [(mV 3 0),
 (oP 4 (.bin .and (.t 3) (.c (.int .u32 1)))),
 (oP 5 (.bin .eql (.t 4) (.c (.int .u32 1))))])
 (.cond (.t 5)
 (.seq (.ops [(mV 6 0),
 (oP 7 (.bin .shr (.t 6) (.c (.int .u64 1)))),
 (oP 8 (.bin .xor (.t 7) (.c (.int .u32 3988292384)))),
 (mV 2 8)])
 .ret)
 .skip))
 (.seq (.ops [(mV 9 0),
 (oP 10 (.bin .shr (.t 9) (.c (.int .u64 1)))),
 (mV 2 10)])
 .ret)))
theorem F188 : FI 188 1 11 4 [.tmp 2] c188 := ⟨⟨Tryz.f188, Tryz.func188, by kernel_rfl, by kernel_rfl, by kernel_rfl⟩, by kernel_rfl, by decide, by kernel_rfl⟩
end Go.Proofs
