/- Texts put together: T0, Xd, Ya, Fa, Ra, Wa, Ta, Sa, Sb, Sc, C0, Tb, Wb, Wc. -/
import Derived.Test.YtfddiediieblhaaGreatFin6
import Derived.Test.YtfddiediieblhaaGreatProg
import Derived.KernelRfl
/- Which functions work in their caller's memory. -/
namespace Go.Proofs
open Go Go.Abs
def inlL : List Nat := [56, 57, 59, 61, 63, 108, 111, 148, 217, 218, 219, 220, 221, 86, 78, 123, 189, 119, 152, 170, 171, 118, 120, 121, 122, 153]
def inl0 : FuncId → Bool := fun f => inlL.contains f || decide (223 ≤ f)
abbrev mV (d a : Nat) : RI := ⟨some d, none, .op (.mv (.t a))⟩
abbrev oP (d : Nat) (x : RO) : RI := ⟨some d, none, .op x⟩
abbrev oG (d g : Nat) (b : Bool) (x : RO) : RI := ⟨some d, some (g, b), .op x⟩
abbrev oU (x : RO) : RI := ⟨none, none, .op x⟩
abbrev FI := FunIs Tryz.prog inl0
abbrev DefI := DefIs Tryz.prog inl0
end Go.Proofs
/- The looked-up text of the functions. -/
namespace Go.Proofs
open Go Go.Abs
/- f4 understory/understorylaw04.PageFinds: 125 temporaries, depth 7, 5 parameters, results [t10] -/
def c4 : RC :=
 (.seq (.ops [(oP 5 (.box 25 (.t 0))),
 (oP 10 (.mv (.c (.bool false))))])
 (.seq (.ops [(oP 24 (.callF 9 [])),
 (mV 11 24)])
 (.seq (.seq (.ops [(oP 25 (.load true 10 (.t 5))),
 (oP 26 (.mkLst 10 true 1 [(.int .i64 0), (.int .i64 0), (.int .i64 0), (.int .i64 0), (.int .i64 0), (.bool false), (.lst 0 [] true), (.int .i64 0), (.str []), (.lst 0 [] true)] [(0, 10, (.t 25))])),
 (oP 27 (.callF 10 [(.t 26)])),
 (oP 28 (.un .not (.t 27))),
 (mV 29 28),
 (oG 30 29 false (.mv (.t 1))),
 (oG 31 29 false (.lenS (.t 30))),
 (oG 32 29 false (.bin .gtr (.t 31) (.c (.int .i64 600)))),
 (oP 33 (.pick (.t 29) (.c (.bool true)) (.t 32))),
 (mV 34 33),
 (oG 35 34 false (.mv (.t 3))),
 (oG 36 34 false (.lenS (.t 35))),
 (oG 37 34 false (.bin .gtr (.t 36) (.c (.int .i64 300)))),
 (oP 38 (.pick (.t 34) (.c (.bool true)) (.t 37)))])
 (.cond (.t 38)
 (.seq (.ops [(mV 39 11),
 (mV 10 39)])
 .ret)
 .skip))
 (.seq (.seq (.ops [(mV 40 2)])
 (.cond (.t 40)
 (.ops [(oP 41 (.load true 10 (.t 5))),
 (oP 42 (.callF 13 [(.t 41)])),
 (oP 43 (.field false 1 0 (.t 42))),
 (mV 1 43)])
 .skip))
 (.seq (.ops [(mV 45 1),
 (oP 46 (.callF 18 [(.t 45)])),
 (mV 44 46),
 (oP 47 (.extract (.t 44) 0)),
 (oP 48 (.extract (.t 44) 1)),
 (oP 49 (.extract (.t 44) 2)),
 (oP 50 (.extract (.t 44) 3)),
 (mV 12 47),
 (mV 13 48),
 (mV 14 49),
 (mV 15 50)])
 (.seq (.ops [(mV 51 1),
 (oP 52 (.callF 19 [(.t 51)])),
 (oP 16 (.alloc 46 [(.int .i64 0), (.int .i64 0), (.int .i64 0), (.int .i64 0)])),
 (oU (.store 4 (.t 16) (.t 52)))])
 (.seq (.ops [(mV 54 1),
 (mV 55 3),
 (oP 56 (.callF 20 [(.t 54), (.t 55)])),
 (mV 53 56),
 (oP 57 (.extract (.t 53) 0)),
 (oP 58 (.extract (.t 53) 1)),
 (oP 59 (.extract (.t 53) 2)),
 (mV 17 57),
 (mV 18 58),
 (mV 19 59)])
 (.seq (.ops [(mV 60 1),
 (mV 61 3),
 (oP 62 (.callF 21 [(.t 60), (.t 61)])),
 (oP 20 (.alloc 51 [(.int .i64 0), (.bool false), (.int .i64 0)])),
 (oU (.store 3 (.t 20) (.t 62)))])
 (.seq (.ops [(mV 64 1),
 (mV 65 4),
 (oP 66 (.callF 22 [(.t 64), (.t 65)])),
 (mV 63 66),
 (oP 67 (.extract (.t 63) 0)),
 (oP 68 (.extract (.t 63) 1)),
 (oP 21 (.alloc 56 [(.str []), (.str []), (.int .i64 0), (.int .i64 0), (.int .i64 0), (.int .i64 0), (.int .u8 0), (.int .u8 0), (.int .u8 0), (.int .u8 0), (.int .u8 0), (.int .u8 0), (.int .u8 0), (.int .u8 0), (.int .u8 0), (.int .u8 0), (.int .u8 0), (.int .u8 0), (.int .u8 0), (.int .u8 0), (.int .u8 0), (.int .u8 0)])),
 (oU (.store 22 (.t 21) (.t 67))),
 (mV 22 68)])
 (.seq (.ops [(mV 69 1),
 (mV 70 4),
 (oP 71 (.callF 23 [(.t 69), (.t 70)])),
 (oP 23 (.alloc 60 [(.str []), (.str []), (.int .i64 0), (.int .i64 0), (.int .i64 0), (.int .i64 0), (.int .u8 0), (.int .u8 0), (.int .u8 0), (.int .u8 0), (.int .u8 0), (.int .u8 0), (.int .u8 0), (.int .u8 0), (.int .u8 0), (.int .u8 0), (.int .u8 0), (.int .u8 0), (.int .u8 0), (.int .u8 0), (.int .u8 0), (.int .u8 0), (.int .i64 0)])),
 (oU (.store 23 (.t 23) (.t 71)))])
 (.seq (.seq (.ops [(mV 72 12),
 (oP 73 (.fieldAddr 0 (.t 16))),
 (oP 74 (.load false 1 (.t 73))),
 (oP 75 (.bin .neq (.t 72) (.t 74))),
 (mV 76 75),
 (oG 77 76 false (.mv (.t 13))),
 (oG 78 76 false (.fieldAddr 1 (.t 16))),
 (oG 79 76 false (.load false 1 (.t 78))),
 (oG 80 76 false (.bin .neq (.t 77) (.t 79))),
 (oP 81 (.pick (.t 76) (.c (.bool true)) (.t 80))),
 (mV 82 81),
 (oG 83 82 false (.mv (.t 14))),
 (oG 84 82 false (.fieldAddr 2 (.t 16))),
 (oG 85 82 false (.load false 1 (.t 84))),
 (oG 86 82 false (.bin .neq (.t 83) (.t 85))),
 (oP 87 (.pick (.t 82) (.c (.bool true)) (.t 86))),
 (mV 88 87),
 (oG 89 88 false (.mv (.t 15))),
 (oG 90 88 false (.fieldAddr 3 (.t 16))),
 (oG 91 88 false (.load false 1 (.t 90))),
 (oG 92 88 false (.bin .neq (.t 89) (.t 91))),
 (oP 93 (.pick (.t 88) (.c (.bool true)) (.t 92)))])
 (.cond (.t 93)
 (.seq (.ops [(oP 10 (.mv (.c (.bool false))))])
 .ret)
 .skip))
 (.seq (.ops [(mV 94 11),
 (mV 95 94),
 (oG 96 95 true (.mv (.t 17))),
 (oG 97 95 true (.fieldAddr 0 (.t 20))),
 (oG 98 95 true (.load false 1 (.t 97))),
 (oG 99 95 true (.bin .eql (.t 96) (.t 98))),
 (oP 100 (.pick (.t 95) (.t 99) (.c (.bool false)))),
 (mV 101 100),
 (oG 102 101 true (.mv (.t 18))),
 (oG 103 101 true (.fieldAddr 1 (.t 20))),
 (oG 104 101 true (.load false 1 (.t 103))),
 (oG 105 101 true (.cmp false 4 (.t 102) (.t 104))),
 (oP 106 (.pick (.t 101) (.t 105) (.c (.bool false)))),
 (mV 107 106),
 (oG 108 107 true (.mv (.t 19))),
 (oG 109 107 true (.fieldAddr 2 (.t 20))),
 (oG 110 107 true (.load false 1 (.t 109))),
 (oG 111 107 true (.bin .eql (.t 108) (.t 110))),
 (oP 112 (.pick (.t 107) (.t 111) (.c (.bool false)))),
 (mV 113 112),
 (oG 114 113 true (.load true 22 (.t 21))),
 (oG 115 113 true (.fieldAddr 0 (.t 23))),
 (oG 116 113 true (.load true 22 (.t 115))),
 (oG 117 113 true (.cmp false 56 (.t 114) (.t 116))),
 (oP 118 (.pick (.t 113) (.t 117) (.c (.bool false)))),
 (mV 119 118),
 (oG 120 119 true (.mv (.t 22))),
 (oG 121 119 true (.fieldAddr 22 (.t 23))),
 (oG 122 119 true (.load false 1 (.t 121))),
 (oG 123 119 true (.bin .eql (.t 120) (.t 122))),
 (oP 124 (.pick (.t 119) (.t 123) (.c (.bool false)))),
 (mV 10 124)])
 .ret))))))))))))
theorem F4 : FI 4 5 125 7 [.tmp 10] c4 := ⟨⟨Tryz.f4, Tryz.func4, by kernel_rfl, by kernel_rfl, by kernel_rfl⟩, by kernel_rfl, by decide, by kernel_rfl⟩
end Go.Proofs
/- The looked-up text of the functions. -/
namespace Go.Proofs
open Go Go.Abs
/- f19 understory/understoryref04.Head: 40 temporaries, depth 6, 1 parameters, results [*t2] -/
def c19 : RC :=
 (.seq (.ops [(oP 2 (.alloc 46 [(.int .i64 0), (.int .i64 0), (.int .i64 0), (.int .i64 0)]))])
 (.seq (.seq (.draw [((mV 3 0), 0),
 ((oP 4 (.lenS (.t 3))), 0),
 ((oP 5 (.bin .neq (.t 4) (.c (.int .i64 512)))), 0),
 ((mV 6 5), 0),
 ((oG 7 6 false (.mv (.t 0))), 0),
 ((oG 8 6 false (.indexS (.t 7) (.c (.int .i64 0)))), 0),
 ((oG 9 6 false (.bin .neq (.t 8) (.c (.int .u8 85)))), 0),
 ((oP 10 (.pick (.t 6) (.c (.bool true)) (.t 9))), 0),
 ((mV 11 10), 0),
 ((oG 12 11 false (.mv (.t 0))), 0),
 ((oG 13 11 false (.sliceS (.t 12) (some (.c (.int .i64 508))) none)), 1),
 ((oG 14 11 false (.mv (.t 0))), 0),
 ((oG 15 11 false (.sliceS (.t 14) none (some (.c (.int .i64 508))))), 1),
 ((oG 16 11 false (.callF 66 [(.t 15)])), 0),
 ((oG 17 11 false (.bin .neq (.t 13) (.t 16))), 0),
 ((oP 18 (.pick (.t 11) (.c (.bool true)) (.t 17))), 0),
 ((mV 19 18), 0),
 ((oG 20 19 false (.mv (.t 0))), 0),
 ((oG 21 19 false (.indexS (.t 20) (.c (.int .i64 1)))), 0),
 ((oG 22 19 false (.bin .lss (.t 21) (.c (.int .u8 1)))), 0),
 ((oP 23 (.pick (.t 19) (.c (.bool true)) (.t 22))), 0),
 ((mV 24 23), 0),
 ((oG 25 24 false (.mv (.t 0))), 0),
 ((oG 26 24 false (.indexS (.t 25) (.c (.int .i64 1)))), 0),
 ((oG 27 24 false (.bin .gtr (.t 26) (.c (.int .u8 4)))), 0),
 ((oP 28 (.pick (.t 24) (.c (.bool true)) (.t 27))), 0)])
 (.cond (.t 28)
 (.seq (.ops [(oP 29 (.build [(.int .i64 0), (.int .i64 0), (.int .i64 0), (.int .i64 0)] [(3, 1, (.c (.int .i64 8)))])),
 (oU (.store 4 (.t 2) (.t 29)))])
 .ret)
 .skip))
 (.seq (.draw [((mV 30 0), 0),
 ((oP 31 (.indexS (.t 30) (.c (.int .i64 1)))), 0),
 ((oP 32 (.toInt .i64 (.t 31))), 0),
 ((mV 33 0), 0),
 ((oP 34 (.sliceS (.t 33) (some (.c (.int .i64 2))) (some (.c (.int .i64 6))))), 1),
 ((oP 35 (.callF 79 [(.t 34)])), 0),
 ((mV 36 0), 0),
 ((oP 37 (.sliceS (.t 36) (some (.c (.int .i64 6))) (some (.c (.int .i64 12))))), 1),
 ((oP 38 (.callF 79 [(.t 37)])), 0),
 ((oP 39 (.build [(.int .i64 0), (.int .i64 0), (.int .i64 0), (.int .i64 0)] [(0, 1, (.t 32)), (1, 1, (.t 35)), (2, 1, (.t 38))])), 0),
 ((oU (.store 4 (.t 2) (.t 39))), 3)])
 .ret)))
theorem F19 : FI 19 1 40 6 [.cell 2 46] c19 := ⟨⟨Tryz.f19, Tryz.func19, by kernel_rfl, by kernel_rfl, by kernel_rfl⟩, by kernel_rfl, by decide, by kernel_rfl⟩
/- f21 understory/understoryref04.Find: 53 temporaries, depth 6, 2 parameters, results [*t4] -/
def c21 : RC :=
 (.seq (.ops [(oP 4 (.alloc 51 [(.int .i64 0), (.bool false), (.int .i64 0)]))])
 (.seq (.ops [(mV 7 0),
 (oP 8 (.callF 84 [(.t 7)])),
 (oP 5 (.alloc 38 [(.int .i64 0), (.int .i64 0), (.int .i64 0), (.int .i64 0), (.int .i64 0), (.bool false), (.lst 0 [] true), (.int .i64 0), (.str []), (.lst 0 [] true), (.int .i64 0)])),
 (oU (.store 11 (.t 5) (.t 8)))])
 (.seq (.seq (.ops [(oP 9 (.fieldAddr 10 (.t 5))),
 (oP 10 (.load false 1 (.t 9))),
 (oP 11 (.bin .neq (.t 10) (.c (.int .i64 0))))])
 (.cond (.t 11)
 (.seq (.ops [(oP 12 (.fieldAddr 10 (.t 5))),
 (oP 13 (.load false 1 (.t 12))),
 (oP 14 (.build [(.int .i64 0), (.bool false), (.int .i64 0)] [(2, 1, (.t 13))])),
 (oU (.store 3 (.t 4) (.t 14)))])
 .ret)
 .skip))
 (.seq (.ops [(oP 6 (.mv (.c (.int .i64 0))))])
 (.seq (.block 0
 (.loop
 (.seq (.seq (.ops [(mV 15 6),
 (oP 16 (.fieldAddr 0 (.t 5))),
 (oP 17 (.fieldAddr 6 (.t 16))),
 (oP 18 (.load false 1 (.t 17))),
 (oP 19 (.lenL (.t 18))),
 (oP 20 (.bin .lss (.t 15) (.t 19))),
 (mV 21 20),
 (oG 22 21 true (.fieldAddr 0 (.t 5))),
 (oG 23 21 true (.fieldAddr 6 (.t 22))),
 (oG 24 21 true (.load false 1 (.t 23))),
 (oG 25 21 true (.mv (.t 6))),
 (oG 26 21 true (.indexAddrL 22 (.t 24) (.t 25))),
 (oG 27 21 true (.fieldAddr 0 (.t 26))),
 (oG 28 21 true (.load false 1 (.t 27))),
 (oG 29 21 true (.mv (.t 1))),
 (oG 30 21 true (.bin .lss (.t 28) (.t 29))),
 (oP 31 (.pick (.t 21) (.t 30) (.c (.bool false))))])
 (.cond (.t 31)
 .skip
 (.exit 0)))
 (.block 1
 (.ops [(mV 32 6),
 (oP 33 (.bin .add (.t 32) (.c (.int .i64 1)))),
 (mV 6 33)])))))
 (.cut (.seq (.ops [(mV 34 6),
 (mV 35 6),
 (oP 36 (.fieldAddr 0 (.t 5))),
 (oP 37 (.fieldAddr 6 (.t 36))),
 (oP 38 (.load false 1 (.t 37))),
 (oP 39 (.lenL (.t 38))),
 (oP 40 (.bin .lss (.t 35) (.t 39))),
 (mV 41 40),
 (oG 42 41 true (.fieldAddr 0 (.t 5))),
 (oG 43 41 true (.fieldAddr 6 (.t 42))),
 (oG 44 41 true (.load false 1 (.t 43))),
 (oG 45 41 true (.mv (.t 6))),
 (oG 46 41 true (.indexAddrL 22 (.t 44) (.t 45))),
 (oG 47 41 true (.fieldAddr 0 (.t 46))),
 (oG 48 41 true (.load false 1 (.t 47))),
 (oG 49 41 true (.mv (.t 1))),
 (oG 50 41 true (.bin .eql (.t 48) (.t 49))),
 (oP 51 (.pick (.t 41) (.t 50) (.c (.bool false)))),
 (oP 52 (.build [(.int .i64 0), (.bool false), (.int .i64 0)] [(0, 1, (.t 34)), (1, 1, (.t 51))])),
 (oU (.store 3 (.t 4) (.t 52)))])
 .ret)))))))
theorem F21 : FI 21 2 53 6 [.cell 4 51] c21 := ⟨⟨Tryz.f21, Tryz.func21, by kernel_rfl, by kernel_rfl, by kernel_rfl⟩, by kernel_rfl, by decide, by kernel_rfl⟩
/- f23 understory/understoryref04.EntryAt: 32 temporaries, depth 6, 2 parameters, results [*t4] -/
def c23 : RC :=
 (.seq (.ops [(oP 4 (.alloc 60 [(.str []), (.str []), (.int .i64 0), (.int .i64 0), (.int .i64 0), (.int .i64 0), (.int .u8 0), (.int .u8 0), (.int .u8 0), (.int .u8 0), (.int .u8 0), (.int .u8 0), (.int .u8 0), (.int .u8 0), (.int .u8 0), (.int .u8 0), (.int .u8 0), (.int .u8 0), (.int .u8 0), (.int .u8 0), (.int .u8 0), (.int .u8 0), (.int .i64 0)]))])
 (.seq (.ops [(mV 6 0),
 (oP 7 (.callF 84 [(.t 6)])),
 (oP 5 (.alloc 38 [(.int .i64 0), (.int .i64 0), (.int .i64 0), (.int .i64 0), (.int .i64 0), (.bool false), (.lst 0 [] true), (.int .i64 0), (.str []), (.lst 0 [] true), (.int .i64 0)])),
 (oU (.store 11 (.t 5) (.t 7)))])
 (.seq (.seq (.ops [(oP 8 (.fieldAddr 10 (.t 5))),
 (oP 9 (.load false 1 (.t 8))),
 (oP 10 (.bin .neq (.t 9) (.c (.int .i64 0))))])
 (.cond (.t 10)
 (.seq (.ops [(oP 11 (.fieldAddr 10 (.t 5))),
 (oP 12 (.load false 1 (.t 11))),
 (oP 13 (.build [(.str []), (.str []), (.int .i64 0), (.int .i64 0), (.int .i64 0), (.int .i64 0), (.int .u8 0), (.int .u8 0), (.int .u8 0), (.int .u8 0), (.int .u8 0), (.int .u8 0), (.int .u8 0), (.int .u8 0), (.int .u8 0), (.int .u8 0), (.int .u8 0), (.int .u8 0), (.int .u8 0), (.int .u8 0), (.int .u8 0), (.int .u8 0), (.int .i64 0)] [(22, 1, (.t 12))])),
 (oU (.store 23 (.t 4) (.t 13)))])
 .ret)
 .skip))
 (.seq (.seq (.ops [(mV 14 1),
 (oP 15 (.bin .lss (.t 14) (.c (.int .i64 0)))),
 (mV 16 15),
 (oG 17 16 false (.mv (.t 1))),
 (oG 18 16 false (.fieldAddr 0 (.t 5))),
 (oG 19 16 false (.fieldAddr 6 (.t 18))),
 (oG 20 16 false (.load false 1 (.t 19))),
 (oG 21 16 false (.lenL (.t 20))),
 (oG 22 16 false (.bin .geq (.t 17) (.t 21))),
 (oP 23 (.pick (.t 16) (.c (.bool true)) (.t 22)))])
 (.cond (.t 23)
 (.seq (.ops [(oP 24 (.build [(.str []), (.str []), (.int .i64 0), (.int .i64 0), (.int .i64 0), (.int .i64 0), (.int .u8 0), (.int .u8 0), (.int .u8 0), (.int .u8 0), (.int .u8 0), (.int .u8 0), (.int .u8 0), (.int .u8 0), (.int .u8 0), (.int .u8 0), (.int .u8 0), (.int .u8 0), (.int .u8 0), (.int .u8 0), (.int .u8 0), (.int .u8 0), (.int .i64 0)] [(22, 1, (.c (.int .i64 1)))])),
 (oU (.store 23 (.t 4) (.t 24)))])
 .ret)
 .skip))
 (.seq (.ops [(oP 25 (.fieldAddr 0 (.t 5))),
 (oP 26 (.fieldAddr 6 (.t 25))),
 (oP 27 (.load false 1 (.t 26))),
 (mV 28 1),
 (oP 29 (.indexAddrL 22 (.t 27) (.t 28))),
 (oP 30 (.load true 22 (.t 29))),
 (oP 31 (.build [(.str []), (.str []), (.int .i64 0), (.int .i64 0), (.int .i64 0), (.int .i64 0), (.int .u8 0), (.int .u8 0), (.int .u8 0), (.int .u8 0), (.int .u8 0), (.int .u8 0), (.int .u8 0), (.int .u8 0), (.int .u8 0), (.int .u8 0), (.int .u8 0), (.int .u8 0), (.int .u8 0), (.int .u8 0), (.int .u8 0), (.int .u8 0), (.int .i64 0)] [(0, 22, (.t 30))])),
 (oU (.store 23 (.t 4) (.t 31)))])
 .ret)))))
theorem F23 : FI 23 2 32 6 [.cell 4 60] c23 := ⟨⟨Tryz.f23, Tryz.func23, by kernel_rfl, by kernel_rfl, by kernel_rfl⟩, by kernel_rfl, by decide, by kernel_rfl⟩
/- f84 understory/understoryref04.tree: 23 temporaries, depth 5, 1 parameters, results [*t2] -/
def c84 : RC :=
 (.seq (.ops [(oP 2 (.alloc 38 [(.int .i64 0), (.int .i64 0), (.int .i64 0), (.int .i64 0), (.int .i64 0), (.bool false), (.lst 0 [] true), (.int .i64 0), (.str []), (.lst 0 [] true), (.int .i64 0)]))])
 (.seq (.ops [(mV 4 0),
 (oP 5 (.callF 15 [(.t 4)])),
 (oP 3 (.alloc 38 [(.int .i64 0), (.int .i64 0), (.int .i64 0), (.int .i64 0), (.int .i64 0), (.bool false), (.lst 0 [] true), (.int .i64 0), (.str []), (.lst 0 [] true), (.int .i64 0)])),
 (oU (.store 11 (.t 3) (.t 5)))])
 (.seq (.seq (.ops [(oP 6 (.fieldAddr 10 (.t 3))),
 (oP 7 (.load false 1 (.t 6))),
 (oP 8 (.bin .eql (.t 7) (.c (.int .i64 0)))),
 (mV 9 8),
 (oG 10 9 true (.fieldAddr 0 (.t 3))),
 (oG 11 9 true (.fieldAddr 0 (.t 10))),
 (oG 12 9 true (.load false 1 (.t 11))),
 (oG 13 9 true (.bin .neq (.t 12) (.c (.int .i64 1)))),
 (oP 14 (.pick (.t 9) (.t 13) (.c (.bool false)))),
 (mV 15 14),
 (oG 16 15 true (.fieldAddr 0 (.t 3))),
 (oG 17 15 true (.fieldAddr 0 (.t 16))),
 (oG 18 15 true (.load false 1 (.t 17))),
 (oG 19 15 true (.bin .neq (.t 18) (.c (.int .i64 2)))),
 (oP 20 (.pick (.t 15) (.t 19) (.c (.bool false))))])
 (.cond (.t 20)
 (.seq (.ops [(oP 21 (.build [(.int .i64 0), (.int .i64 0), (.int .i64 0), (.int .i64 0), (.int .i64 0), (.bool false), (.lst 0 [] true), (.int .i64 0), (.str []), (.lst 0 [] true), (.int .i64 0)] [(10, 1, (.c (.int .i64 2)))])),
 (oU (.store 11 (.t 2) (.t 21)))])
 .ret)
 .skip))
 (.seq (.ops [(oP 22 (.load true 11 (.t 3))),
 (oU (.store 11 (.t 2) (.t 22)))])
 .ret))))
theorem F84 : FI 84 1 23 5 [.cell 2 38] c84 := ⟨⟨Tryz.f84, Tryz.func84, by kernel_rfl, by kernel_rfl, by kernel_rfl⟩, by kernel_rfl, by decide, by kernel_rfl⟩
end Go.Proofs
/- The looked-up text of the functions. -/
namespace Go.Proofs
open Go Go.Abs
/- f20 understory/page.Find: 25 temporaries, depth 5, 2 parameters, results [t4, t5, t6] -/
def c20 : RC :=
 (.seq (.ops [(oP 4 (.mv (.c (.int .i64 0)))),
 (oP 5 (.mv (.c (.bool false)))),
 (oP 6 (.mv (.c (.int .i64 0))))])
 (.seq (.ops [(mV 9 0),
 (oP 10 (.callF 80 [(.t 9)])),
 (mV 8 10),
 (oP 11 (.extract (.t 8) 0)),
 (oP 12 (.extract (.t 8) 1)),
 (oP 7 (.alloc 25 [(.int .i64 0), (.int .i64 0), (.int .i64 0), (.int .i64 0), (.int .i64 0), (.bool false), (.lst 0 [] true), (.int .i64 0), (.str []), (.lst 0 [] true)])),
 (oU (.store 10 (.t 7) (.t 11))),
 (mV 6 12)])
 (.seq (.seq (.ops [(mV 13 6),
 (oP 14 (.bin .neq (.t 13) (.c (.int .i64 0))))])
 (.cond (.t 14)
 (.seq (.ops [(mV 15 6),
 (oP 4 (.mv (.c (.int .i64 0)))),
 (oP 5 (.mv (.c (.bool false)))),
 (mV 6 15)])
 .ret)
 .skip))
 (.seq (.ops [(oP 17 (.fieldAddr 6 (.t 7))),
 (oP 18 (.load false 1 (.t 17))),
 (mV 19 1),
 (oP 20 (.callF 81 [(.t 18), (.t 19), (.c (.fn (.func 82) [] []))])),
 (mV 16 20),
 (oP 21 (.extract (.t 16) 0)),
 (oP 22 (.extract (.t 16) 1)),
 (mV 4 21),
 (mV 5 22)])
 (.seq (.ops [(mV 23 4),
 (mV 24 5),
 (mV 4 23),
 (mV 5 24),
 (oP 6 (.mv (.c (.int .i64 0))))])
 .ret)))))
theorem F20 : FI 20 2 25 5 [.tmp 4, .tmp 5, .tmp 6] c20 := ⟨⟨Tryz.f20, Tryz.func20, by kernel_rfl, by kernel_rfl, by kernel_rfl⟩, by kernel_rfl, by decide, by kernel_rfl⟩
/- f22 understory/page.EntryAt: 32 temporaries, depth 6, 2 parameters, results [*t4, t5] -/
def c22 : RC :=
 (.seq (.ops [(oP 4 (.alloc 56 [(.str []), (.str []), (.int .i64 0), (.int .i64 0), (.int .i64 0), (.int .i64 0), (.int .u8 0), (.int .u8 0), (.int .u8 0), (.int .u8 0), (.int .u8 0), (.int .u8 0), (.int .u8 0), (.int .u8 0), (.int .u8 0), (.int .u8 0), (.int .u8 0), (.int .u8 0), (.int .u8 0), (.int .u8 0), (.int .u8 0), (.int .u8 0)])),
 (oP 5 (.mv (.c (.int .i64 0))))])
 (.seq (.ops [(mV 9 0),
 (oP 10 (.callF 80 [(.t 9)])),
 (mV 8 10),
 (oP 11 (.extract (.t 8) 0)),
 (oP 12 (.extract (.t 8) 1)),
 (oP 6 (.alloc 25 [(.int .i64 0), (.int .i64 0), (.int .i64 0), (.int .i64 0), (.int .i64 0), (.bool false), (.lst 0 [] true), (.int .i64 0), (.str []), (.lst 0 [] true)])),
 (oU (.store 10 (.t 6) (.t 11))),
 (mV 7 12)])
 (.seq (.seq (.ops [(mV 13 7),
 (oP 14 (.bin .neq (.t 13) (.c (.int .i64 0))))])
 (.cond (.t 14)
 (.seq (.ops [(oP 15 (.build [(.str []), (.str []), (.int .i64 0), (.int .i64 0), (.int .i64 0), (.int .i64 0), (.int .u8 0), (.int .u8 0), (.int .u8 0), (.int .u8 0), (.int .u8 0), (.int .u8 0), (.int .u8 0), (.int .u8 0), (.int .u8 0), (.int .u8 0), (.int .u8 0), (.int .u8 0), (.int .u8 0), (.int .u8 0), (.int .u8 0), (.int .u8 0)] [])),
 (mV 16 7),
 (oU (.store 22 (.t 4) (.t 15))),
 (mV 5 16)])
 .ret)
 .skip))
 (.seq (.seq (.ops [(mV 17 1),
 (oP 18 (.bin .lss (.t 17) (.c (.int .i64 0)))),
 (mV 19 18),
 (oG 20 19 false (.mv (.t 1))),
 (oG 21 19 false (.fieldAddr 6 (.t 6))),
 (oG 22 19 false (.load false 1 (.t 21))),
 (oG 23 19 false (.lenL (.t 22))),
 (oG 24 19 false (.bin .geq (.t 20) (.t 23))),
 (oP 25 (.pick (.t 19) (.c (.bool true)) (.t 24)))])
 (.cond (.t 25)
 (.seq (.ops [(oP 26 (.build [(.str []), (.str []), (.int .i64 0), (.int .i64 0), (.int .i64 0), (.int .i64 0), (.int .u8 0), (.int .u8 0), (.int .u8 0), (.int .u8 0), (.int .u8 0), (.int .u8 0), (.int .u8 0), (.int .u8 0), (.int .u8 0), (.int .u8 0), (.int .u8 0), (.int .u8 0), (.int .u8 0), (.int .u8 0), (.int .u8 0), (.int .u8 0)] [])),
 (oU (.store 22 (.t 4) (.t 26))),
 (oP 5 (.mv (.c (.int .i64 1))))])
 .ret)
 .skip))
 (.seq (.ops [(oP 27 (.fieldAddr 6 (.t 6))),
 (oP 28 (.load false 1 (.t 27))),
 (mV 29 1),
 (oP 30 (.indexAddrL 22 (.t 28) (.t 29))),
 (oP 31 (.load true 22 (.t 30))),
 (oU (.store 22 (.t 4) (.t 31))),
 (oP 5 (.mv (.c (.int .i64 0))))])
 .ret)))))
theorem F22 : FI 22 2 32 6 [.cell 4 56, .tmp 5] c22 := ⟨⟨Tryz.f22, Tryz.func22, by kernel_rfl, by kernel_rfl, by kernel_rfl⟩, by kernel_rfl, by decide, by kernel_rfl⟩
/- f80 understory/page.treePage: 25 temporaries, depth 5, 1 parameters, results [*t2, t3] -/
def c80 : RC :=
 (.seq (.ops [(oP 2 (.alloc 25 [(.int .i64 0), (.int .i64 0), (.int .i64 0), (.int .i64 0), (.int .i64 0), (.bool false), (.lst 0 [] true), (.int .i64 0), (.str []), (.lst 0 [] true)])),
 (oP 3 (.mv (.c (.int .i64 0))))])
 (.seq (.ops [(mV 7 0),
 (oP 8 (.callF 14 [(.t 7)])),
 (mV 6 8),
 (oP 9 (.extract (.t 6) 0)),
 (oP 10 (.extract (.t 6) 1)),
 (oP 4 (.alloc 25 [(.int .i64 0), (.int .i64 0), (.int .i64 0), (.int .i64 0), (.int .i64 0), (.bool false), (.lst 0 [] true), (.int .i64 0), (.str []), (.lst 0 [] true)])),
 (oU (.store 10 (.t 4) (.t 9))),
 (mV 5 10)])
 (.seq (.seq (.ops [(mV 11 5),
 (oP 12 (.bin .neq (.t 11) (.c (.int .i64 0))))])
 (.cond (.t 12)
 (.seq (.ops [(oP 13 (.build [(.int .i64 0), (.int .i64 0), (.int .i64 0), (.int .i64 0), (.int .i64 0), (.bool false), (.lst 0 [] true), (.int .i64 0), (.str []), (.lst 0 [] true)] [])),
 (mV 14 5),
 (oU (.store 10 (.t 2) (.t 13))),
 (mV 3 14)])
 .ret)
 .skip))
 (.seq (.seq (.ops [(oP 15 (.fieldAddr 0 (.t 4))),
 (oP 16 (.load false 1 (.t 15))),
 (oP 17 (.bin .neq (.t 16) (.c (.int .i64 1)))),
 (mV 18 17),
 (oG 19 18 true (.fieldAddr 0 (.t 4))),
 (oG 20 18 true (.load false 1 (.t 19))),
 (oG 21 18 true (.bin .neq (.t 20) (.c (.int .i64 2)))),
 (oP 22 (.pick (.t 18) (.t 21) (.c (.bool false))))])
 (.cond (.t 22)
 (.seq (.ops [(oP 23 (.build [(.int .i64 0), (.int .i64 0), (.int .i64 0), (.int .i64 0), (.int .i64 0), (.bool false), (.lst 0 [] true), (.int .i64 0), (.str []), (.lst 0 [] true)] [])),
 (oU (.store 10 (.t 2) (.t 23))),
 (oP 3 (.mv (.c (.int .i64 2))))])
 .ret)
 .skip))
 (.seq (.ops [(oP 24 (.load true 10 (.t 4))),
 (oU (.store 10 (.t 2) (.t 24))),
 (oP 3 (.mv (.c (.int .i64 0))))])
 .ret)))))
theorem F80 : FI 80 1 25 5 [.cell 2 25, .tmp 3] c80 := ⟨⟨Tryz.f80, Tryz.func80, by kernel_rfl, by kernel_rfl, by kernel_rfl⟩, by kernel_rfl, by decide, by kernel_rfl⟩
/- f82 understory/page.Find$1: 9 temporaries, depth 4, 2 parameters, results [t4] -/
def c82 : RC :=
 (.seq (.ops [(oP 2 (.box 56 (.t 0))),
 (oP 4 (.mv (.c (.int .i64 0))))])
 (.seq (.ops [(oP 5 (.fieldAddr 0 (.t 2))),
 (oP 6 (.load false 1 (.t 5))),
 (mV 7 1),
 (oP 8 (.callF 83 [(.t 6), (.t 7)])),
 (mV 4 8)])
 .ret))
theorem F82 : FI 82 2 9 4 [.tmp 4] c82 := ⟨⟨Tryz.f82, Tryz.func82, by kernel_rfl, by kernel_rfl, by kernel_rfl⟩, by kernel_rfl, by decide, by kernel_rfl⟩
/- f81 slices.BinarySearchFunc[[]understory/api.Entry,understory/api.Entry,string]: 49 temporaries, depth 6, 3 parameters, results [t6, t7] -/
def c81 : RC :=
 (.seq (.ops [(oP 6 (.mv (.c (.int .i64 0)))),
 (oP 7 (.mv (.c (.bool false))))])
 (.seq (.ops [(mV 12 0),
 (oP 13 (.lenL (.t 12))),
 (mV 8 13)])
 (.seq (.ops [(mV 14 8),
 (oP 9 (.mv (.c (.int .i64 0)))),
 (mV 10 14)])
 (.seq (.block 0
 (.loop
 (.seq (.seq (.ops [(mV 15 9),
 (mV 16 10),
 (oP 17 (.bin .lss (.t 15) (.t 16)))])
 (.cond (.t 17)
 .skip
 (.exit 0)))
 (.block 1
 (.seq (.ops [(mV 18 9),
 (mV 19 10),
 (oP 20 (.bin .add (.t 18) (.t 19))),
 (oP 21 (.toInt .u64 (.t 20))),
 (oP 22 (.bin .shr (.t 21) (.c (.int .u64 1)))),
 (oP 23 (.toInt .i64 (.t 22))),
 (mV 11 23)])
 (.seq (.ops [(mV 24 2),
 (mV 25 0),
 (mV 26 11),
 (oP 27 (.indexAddrL 22 (.t 25) (.t 26))),
 (oP 28 (.load true 22 (.t 27))),
 (mV 29 1),
 (oP 30 (.callV (.t 24) [(.t 28), (.t 29)])),
 (oP 31 (.bin .lss (.t 30) (.c (.int .i64 0))))])
 (.cond (.t 31)
 (.ops [(mV 32 11),
 (oP 33 (.bin .add (.t 32) (.c (.int .i64 1)))),
 (mV 9 33)])
 (.ops [(mV 34 11),
 (mV 10 34)]))))))))
 (.cut (.seq (.ops [(mV 35 9),
 (mV 36 9),
 (mV 37 8),
 (oP 38 (.bin .lss (.t 36) (.t 37))),
 (mV 39 38),
 (oG 40 39 true (.mv (.t 2))),
 (oG 41 39 true (.mv (.t 0))),
 (oG 42 39 true (.mv (.t 9))),
 (oG 43 39 true (.indexAddrL 22 (.t 41) (.t 42))),
 (oG 44 39 true (.load true 22 (.t 43))),
 (oG 45 39 true (.mv (.t 1))),
 (oG 46 39 true (.callV (.t 40) [(.t 44), (.t 45)])),
 (oG 47 39 true (.bin .eql (.t 46) (.c (.int .i64 0)))),
 (oP 48 (.pick (.t 39) (.t 47) (.c (.bool false)))),
 (mV 6 35),
 (mV 7 48)])
 .ret))))))
theorem F81 : FI 81 3 49 6 [.tmp 6, .tmp 7] c81 := ⟨⟨Tryz.f81, Tryz.func81, by kernel_rfl, by kernel_rfl, by kernel_rfl⟩, by kernel_rfl, by decide, by kernel_rfl⟩
end Go.Proofs
/- The looked-up text of the functions. -/
namespace Go.Proofs
open Go Go.Abs
/- f123 (*understory/page.reader).text: 51 temporaries, depth 6, 2 parameters, results [t4] -/
def c123 : RC :=
 (.seq (.ops [(oP 4 (.mv (.c (.str []))))])
 (.seq (.seq (.draw [((mV 6 1), 0),
 ((mV 7 0), 0),
 ((oP 8 (.nilCheck (.t 7))), 0),
 ((oP 9 (.fieldAddr 0 (.t 8))), 0),
 ((oP 10 (.fieldAddr 0 (.t 9))), 0),
 ((oP 11 (.load false 1 (.t 10))), 1),
 ((oP 12 (.lenS (.t 11))), 0),
 ((mV 13 0), 0),
 ((oP 14 (.nilCheck (.t 13))), 0),
 ((oP 15 (.fieldAddr 0 (.t 14))), 0),
 ((oP 16 (.fieldAddr 1 (.t 15))), 0),
 ((oP 17 (.load false 1 (.t 16))), 1),
 ((oP 18 (.bin .sub (.t 12) (.t 17))), 0),
 ((oP 19 (.bin .gtr (.t 6) (.t 18))), 0)])
 (.cond (.t 19)
 (.ops [(oP 20 (.build [] [])),
 (oP 21 (.mkIfc 190 (.t 20))),
 ⟨none, none, .pan (.t 21)⟩])
 .skip))
 (.seq (.draw [((mV 22 0), 0),
 ((oP 23 (.nilCheck (.t 22))), 0),
 ((oP 24 (.fieldAddr 0 (.t 23))), 0),
 ((oP 25 (.fieldAddr 0 (.t 24))), 0),
 ((oP 26 (.load false 1 (.t 25))), 1),
 ((mV 27 0), 0),
 ((oP 28 (.nilCheck (.t 27))), 0),
 ((oP 29 (.fieldAddr 0 (.t 28))), 0),
 ((oP 30 (.fieldAddr 1 (.t 29))), 0),
 ((oP 31 (.load false 1 (.t 30))), 1),
 ((mV 32 0), 0),
 ((oP 33 (.nilCheck (.t 32))), 0),
 ((oP 34 (.fieldAddr 0 (.t 33))), 0),
 ((oP 35 (.fieldAddr 1 (.t 34))), 0),
 ((oP 36 (.load false 1 (.t 35))), 1),
 ((mV 37 1), 0),
 ((oP 38 (.bin .add (.t 36) (.t 37))), 0),
 ((oP 39 (.sliceS (.t 26) (some (.t 31)) (some (.t 38)))), 1),
 ((mV 5 39), 0)])
 (.seq (.ops [(mV 40 0),
 (oP 41 (.nilCheck (.t 40))),
 (oP 42 (.fieldAddr 0 (.t 41))),
 (oP 43 (.fieldAddr 1 (.t 42))),
 (oP 44 (.load false 1 (.t 43))),
 (mV 45 1),
 (oP 46 (.bin .add (.t 44) (.t 45))),
 (oP 47 (.nilCheck (.t 40))),
 (oP 48 (.fieldAddr 0 (.t 47))),
 (oP 49 (.fieldAddr 1 (.t 48))),
 (oU (.store 1 (.t 49) (.t 46)))])
 (.seq (.ops [(mV 50 5),
 (mV 4 50)])
 .ret)))))
theorem F123 : FI 123 2 51 6 [.tmp 4] c123 := ⟨⟨Tryz.f123, Tryz.func123, by kernel_rfl, by kernel_rfl, by kernel_rfl⟩, by kernel_rfl, by decide, by kernel_rfl⟩
/- f78 (*understory/page.reader).number: 24 temporaries, depth 5, 2 parameters, results [t4] -/
def c78 : RC :=
 (.seq (.ops [(oP 4 (.mv (.c (.int .i64 0))))])
 (.seq (.ops [(oP 5 (.mv (.c (.int .i64 0))))])
 (.seq (.seq (.ops [(mV 8 0),
 (mV 9 1),
 (oP 10 (.callF 123 [(.t 8), (.t 9)])),
 (oP 11 (.strBytes (.t 10))),
 (oP 12 (.lenL (.t 11))),
 (oP 13 (.mv (.c (.int .i64 0))))])
 (.block 0
 (.loop
 (.seq (.ops [(oP 14 (.bin .lss (.t 13) (.t 12)))])
 (.seq (.cond (.t 14)
 .skip
 (.exit 0))
 (.seq (.block 1
 (.seq (.ops [(oP 15 (.indexAddrL 1 (.t 11) (.t 13))),
 (oP 16 (.load false 1 (.t 15))),
 (mV 7 16)])
 (.ops [(mV 17 5),
 (oP 18 (.bin .shl (.t 17) (.c (.int .u64 8)))),
 (mV 19 7),
 (oP 20 (.toInt .i64 (.t 19))),
 (oP 21 (.bin .or (.t 18) (.t 20))),
 (mV 5 21)])))
 (.ops [(oP 22 (.bin .add (.t 13) (.c (.int .i64 1)))),
 (mV 13 22)])))))))
 (.cut (.seq (.ops [(mV 23 5),
 (mV 4 23)])
 .ret)))))
theorem F78 : FI 78 2 24 5 [.tmp 4] c78 := ⟨⟨Tryz.f78, Tryz.func78, by kernel_rfl, by kernel_rfl, by kernel_rfl⟩, by kernel_rfl, by decide, by kernel_rfl⟩
/- f189 (*understory/page.reader).sum: 9 temporaries, depth 4, 1 parameters, results [*t2] -/
def c189 : RC :=
 (.seq (.ops [(oP 2 (.alloc 54 [(.int .u8 0), (.int .u8 0), (.int .u8 0), (.int .u8 0), (.int .u8 0), (.int .u8 0), (.int .u8 0), (.int .u8 0), (.int .u8 0), (.int .u8 0), (.int .u8 0), (.int .u8 0), (.int .u8 0), (.int .u8 0), (.int .u8 0), (.int .u8 0)]))])
 (.seq (.ops [(oP 3 (.alloc 54 [(.int .u8 0), (.int .u8 0), (.int .u8 0), (.int .u8 0), (.int .u8 0), (.int .u8 0), (.int .u8 0), (.int .u8 0), (.int .u8 0), (.int .u8 0), (.int .u8 0), (.int .u8 0), (.int .u8 0), (.int .u8 0), (.int .u8 0), (.int .u8 0)]))])
 (.seq (.draw [((oP 4 (.sliceP 16 1 (.t 3) none none none)), 1),
 ((mV 5 0), 0),
 ((oP 6 (.callF 123 [(.t 5), (.c (.int .i64 16))])), 2),
 ((oP 7 (.cpy 1 (.t 4) (.t 6))), 2)])
 (.seq (.ops [(oP 8 (.load true 16 (.t 3))),
 (oU (.store 16 (.t 2) (.t 8)))])
 .ret))))
theorem F189 : FI 189 1 9 4 [.cell 2 54] c189 := ⟨⟨Tryz.f189, Tryz.func189, by kernel_rfl, by kernel_rfl, by kernel_rfl⟩, by kernel_rfl, by decide, by kernel_rfl⟩
/- f171 (*understory/page.reader).content: 52 temporaries, depth 6, 3 parameters, results [] -/
def c171 : RC :=
 (.seq (.ops [(oP 6 (.mv (.c (.int .i64 65534))))])
 (.seq (.seq (.ops [(mV 7 2),
 (oP 8 (.bin .eql (.t 7) (.c (.int .i64 0))))])
 (.cond (.t 8)
 (.ops [(mV 9 0),
 (oP 10 (.callF 78 [(.t 9), (.c (.int .i64 2))])),
 (mV 6 10)])
 .skip))
 (.cut (.seq (.ops [(mV 11 6)])
 (.block 0
 (.seq (.ops [(oP 19 (.bin .eql (.t 11) (.c (.int .i64 65535)))),
 (mV 18 19)])
 (.cond (.t 18)
 (.seq (.ops [(mV 20 1),
 (mV 21 1),
 (mV 22 0),
 (oP 23 (.callF 78 [(.t 22), (.c (.int .i64 4))])),
 (mV 24 0),
 (oP 25 (.callF 78 [(.t 24), (.c (.int .i64 2))])),
 (oP 26 (.nilCheck (.t 20))),
 (oP 27 (.fieldAddr 2 (.t 26))),
 (oU (.store 1 (.t 27) (.t 23))),
 (oP 28 (.nilCheck (.t 21))),
 (oP 29 (.fieldAddr 3 (.t 28))),
 (oU (.store 1 (.t 29) (.t 25)))])
 (.ops [(mV 30 1),
 (mV 31 0),
 (oP 32 (.callF 189 [(.t 31)])),
 (oP 33 (.nilCheck (.t 30))),
 (oP 34 (.fieldAddr 6 (.t 33))),
 (oU (.store 16 (.t 34) (.t 32)))]))
 (.seq (.ops [(oP 36 (.bin .eql (.t 11) (.c (.int .i64 65534)))),
 (mV 35 36)])
 (.cond (.t 35)
 (.seq (.ops [(mV 37 1),
 (mV 38 1),
 (mV 39 0),
 (oP 40 (.callF 78 [(.t 39), (.c (.int .i64 4))])),
 (mV 41 0),
 (oP 42 (.callF 78 [(.t 41), (.c (.int .i64 4))])),
 (oP 43 (.nilCheck (.t 37))),
 (oP 44 (.fieldAddr 4 (.t 43))),
 (oU (.store 1 (.t 44) (.t 40))),
 (oP 45 (.nilCheck (.t 38))),
 (oP 46 (.fieldAddr 5 (.t 45))),
 (oU (.store 1 (.t 46) (.t 42)))])
 (.ops [(mV 47 1),
 (mV 48 0),
 (oP 49 (.callF 189 [(.t 48)])),
 (oP 50 (.nilCheck (.t 47))),
 (oP 51 (.fieldAddr 6 (.t 50))),
 (oU (.store 16 (.t 51) (.t 49)))]))
 (.ops [(mV 12 1),
 (mV 13 0),
 (mV 14 6),
 (oP 15 (.callF 123 [(.t 13), (.t 14)])),
 (oP 16 (.nilCheck (.t 12))),
 (oP 17 (.fieldAddr 1 (.t 16))),
 (oU (.store 1 (.t 17) (.t 15)))]))))))))))
theorem F171 : FI 171 3 52 6 [] c171 := ⟨⟨Tryz.f171, Tryz.func171, by kernel_rfl, by kernel_rfl, by kernel_rfl⟩, by kernel_rfl, by decide, by kernel_rfl⟩
/- f152 (*understory/page.reader).entries: 10 temporaries, depth 4, 4 parameters, results [t8] -/
def c152 : RC :=
 (.seq (.ops [(oP 4 (.box 141 (.t 0))),
 (oP 5 (.box 3 (.t 1))),
 (oP 6 (.box 3 (.t 2))),
 (oP 7 (.box 9 (.t 3))),
 (oP 8 (.mv (.c .nilf)))])
 (.seq (.ops [(oP 9 (.mkFn (.func 170) [] [(.t 5), (.t 4), (.t 6), (.t 7)])),
 (mV 8 9)])
 .ret))
theorem F152 : FI 152 4 10 4 [.tmp 8] c152 := ⟨⟨Tryz.f152, Tryz.func152, by kernel_rfl, by kernel_rfl, by kernel_rfl⟩, by kernel_rfl, by decide, by kernel_rfl⟩
/- f170 (*understory/page.reader).entries$1: 38 temporaries, depth 6, 1 parameters, results [] -/
def c170 : RC :=
 (.seq (.ops [(oP 9 (.load false 1 (.t 1))),
 (oP 10 (.mv (.c (.int .i64 0))))])
 (.block 0
 (.loop
 (.seq (.ops [(oP 11 (.bin .lss (.t 10) (.t 9)))])
 (.seq (.cond (.t 11)
 .skip
 (.exit 0))
 (.seq (.block 1
 (.seq (.ops [(mV 12 10),
 (mV 6 12)])
 (.seq (.ops [(oP 7 (.alloc 56 [(.str []), (.str []), (.int .i64 0), (.int .i64 0), (.int .i64 0), (.int .i64 0), (.int .u8 0), (.int .u8 0), (.int .u8 0), (.int .u8 0), (.int .u8 0), (.int .u8 0), (.int .u8 0), (.int .u8 0), (.int .u8 0), (.int .u8 0), (.int .u8 0), (.int .u8 0), (.int .u8 0), (.int .u8 0), (.int .u8 0), (.int .u8 0)]))])
 (.seq (.draw [((oP 13 (.load false 1 (.t 2))), 1),
 ((oP 14 (.load false 1 (.t 2))), 1),
 ((oP 15 (.callF 78 [(.t 14), (.c (.int .i64 1))])), 2),
 ((oP 16 (.callF 123 [(.t 13), (.t 15)])), 2),
 ((mV 8 16), 0)])
 (.seq (.seq (.ops [(mV 17 6),
 (oP 18 (.bin .gtr (.t 17) (.c (.int .i64 0)))),
 (mV 19 18),
 (oG 20 19 false (.load false 1 (.t 3))),
 (oG 21 19 false (.bin .eql (.t 20) (.c (.int .i64 0)))),
 (oP 22 (.pick (.t 19) (.c (.bool true)) (.t 21)))])
 (.cond (.t 22)
 (.ops [(oP 23 (.load false 1 (.t 4))),
 (oP 24 (.fieldAddr 0 (.t 7))),
 (oU (.store 1 (.t 24) (.t 23)))])
 .skip))
 (.cut (.seq (.ops [(oP 25 (.fieldAddr 0 (.t 7))),
 (oP 26 (.load false 1 (.t 25))),
 (mV 27 8),
 (oP 28 (.bin .add (.t 26) (.t 27))),
 (oP 29 (.fieldAddr 0 (.t 7))),
 (oU (.store 1 (.t 29) (.t 28)))])
 (.seq (.ops [(oP 30 (.load false 1 (.t 2))),
 (oP 31 (.load false 1 (.t 3))),
 (oP 32 (.callF 171 [(.t 30), (.t 7), (.t 31)]))])
 (.seq (.ops [(mV 33 0),
 (oP 34 (.load true 22 (.t 7))),
 (oP 35 (.callV (.t 33) [(.t 34)])),
 (oP 36 (.un .not (.t 35)))])
 (.cond (.t 36)
 .ret
 .skip))))))))))
 (.cut (.ops [(oP 37 (.bin .add (.t 10) (.c (.int .i64 1)))),
 (mV 10 37)]))))))))
theorem F170 : FI 170 5 38 6 [] c170 := ⟨⟨Tryz.f170, Tryz.func170, by kernel_rfl, by kernel_rfl, by kernel_rfl⟩, by kernel_rfl, by decide, by kernel_rfl⟩
end Go.Proofs
/- The looked-up text of the functions. -/
namespace Go.Proofs
open Go Go.Abs
/- f108 (*strings.Builder).copyCheck: 20 temporaries, depth 5, 1 parameters, results [] -/
def c108 : RC :=
 (.seq (.ops [(mV 2 0),
 (oP 3 (.nilCheck (.t 2))),
 (oP 4 (.fieldAddr 0 (.t 3))),
 (oP 5 (.load false 1 (.t 4))),
 (oP 6 (.isNil false (.t 5)))])
 (.cond (.t 6)
 (.ops [(mV 7 0),
 (mV 8 0),
 (oP 9 (.toU (.t 8))),
 (mV 10 9),
 (oP 11 (.frU 115 (.t 10))),
 (oP 12 (.nilCheck (.t 7))),
 (oP 13 (.fieldAddr 0 (.t 12))),
 (oU (.store 1 (.t 13) (.t 11)))])
 (.seq (.ops [(mV 14 0),
 (oP 15 (.nilCheck (.t 14))),
 (oP 16 (.fieldAddr 0 (.t 15))),
 (oP 17 (.load false 1 (.t 16))),
 (mV 18 0),
 (oP 19 (.cmp true 113 (.t 17) (.t 18)))])
 (.cond (.t 19)
 (.raw (.refuse "(*strings.Builder).copyCheck builder.go:41: unsupported: a written strings.Builder's value in another place: whether the library's copy check passes hangs on where the compiler lays the two"))
 .skip))))
theorem F108 : FI 108 1 20 5 [] c108 := ⟨⟨Tryz.f108, Tryz.func108, by kernel_rfl, by kernel_rfl, by kernel_rfl⟩, by kernel_rfl, by decide, by kernel_rfl⟩
/- f56 (*strings.Builder).WriteByte: 17 temporaries, depth 5, 2 parameters, results [t4] -/
def c56 : RC :=
 (.seq (.ops [(oP 4 (.mv (.c .nili)))])
 (.seq (.ops [(mV 5 0),
 (oP 6 (.callF 108 [(.t 5)]))])
 (.seq (.ops [(mV 7 0),
 (mV 8 0),
 (oP 9 (.nilCheck (.t 8))),
 (oP 10 (.fieldAddr 1 (.t 9))),
 (oP 11 (.load false 1 (.t 10))),
 (mV 12 1),
 (oP 13 (.mkLst 1 false 1 [(.int .u8 0)] [(0, 1, (.t 12))])),
 (oP 14 (.app 5 1 (.t 11) (.t 13))),
 (oP 15 (.nilCheck (.t 7))),
 (oP 16 (.fieldAddr 1 (.t 15))),
 (oU (.store 1 (.t 16) (.t 14)))])
 (.seq (.ops [(oP 4 (.mv (.c .nili)))])
 .ret))))
theorem F56 : FI 56 2 17 5 [.tmp 4] c56 := ⟨⟨Tryz.f56, Tryz.func56, by kernel_rfl, by kernel_rfl, by kernel_rfl⟩, by kernel_rfl, by decide, by kernel_rfl⟩
/- f59 (*strings.Builder).WriteString: 19 temporaries, depth 5, 2 parameters, results [t4, t5] -/
def c59 : RC :=
 (.seq (.ops [(oP 4 (.mv (.c (.int .i64 0)))),
 (oP 5 (.mv (.c .nili)))])
 (.seq (.ops [(mV 6 0),
 (oP 7 (.callF 108 [(.t 6)]))])
 (.seq (.ops [(mV 8 0),
 (mV 9 0),
 (oP 10 (.nilCheck (.t 9))),
 (oP 11 (.fieldAddr 1 (.t 10))),
 (oP 12 (.load false 1 (.t 11))),
 (mV 13 1),
 (oP 14 (.app 5 1 (.t 12) (.t 13))),
 (oP 15 (.nilCheck (.t 8))),
 (oP 16 (.fieldAddr 1 (.t 15))),
 (oU (.store 1 (.t 16) (.t 14)))])
 (.seq (.ops [(mV 17 1),
 (oP 18 (.lenS (.t 17))),
 (mV 4 18),
 (oP 5 (.mv (.c .nili)))])
 .ret))))
theorem F59 : FI 59 2 19 5 [.tmp 4, .tmp 5] c59 := ⟨⟨Tryz.f59, Tryz.func59, by kernel_rfl, by kernel_rfl, by kernel_rfl⟩, by kernel_rfl, by decide, by kernel_rfl⟩
/- f61 (*strings.Builder).Len: 8 temporaries, depth 4, 1 parameters, results [t2] -/
def c61 : RC :=
 (.seq (.ops [(oP 2 (.mv (.c (.int .i64 0))))])
 (.seq (.ops [(mV 3 0),
 (oP 4 (.nilCheck (.t 3))),
 (oP 5 (.fieldAddr 1 (.t 4))),
 (oP 6 (.load false 1 (.t 5))),
 (oP 7 (.lenL (.t 6))),
 (mV 2 7)])
 .ret))
theorem F61 : FI 61 1 8 4 [.tmp 2] c61 := ⟨⟨Tryz.f61, Tryz.func61, by kernel_rfl, by kernel_rfl, by kernel_rfl⟩, by kernel_rfl, by decide, by kernel_rfl⟩
/- f63 (*strings.Builder).String: 14 temporaries, depth 4, 1 parameters, results [t2] -/
def c63 : RC :=
 (.seq (.ops [(oP 2 (.mv (.c (.str []))))])
 (.seq (.draw [((mV 3 0), 0),
 ((oP 4 (.nilCheck (.t 3))), 0),
 ((oP 5 (.fieldAddr 1 (.t 4))), 0),
 ((oP 6 (.load false 1 (.t 5))), 1),
 ((oP 7 (.uData (.t 6))), 0),
 ((mV 8 0), 0),
 ((oP 9 (.nilCheck (.t 8))), 0),
 ((oP 10 (.fieldAddr 1 (.t 9))), 0),
 ((oP 11 (.load false 1 (.t 10))), 1),
 ((oP 12 (.lenL (.t 11))), 0),
 ((oP 13 (.uStr 5 (.t 7) (.t 12))), 2),
 ((mV 2 13), 0)])
 .ret))
theorem F63 : FI 63 1 14 4 [.tmp 2] c63 := ⟨⟨Tryz.f63, Tryz.func63, by kernel_rfl, by kernel_rfl, by kernel_rfl⟩, by kernel_rfl, by decide, by kernel_rfl⟩
/- f57 (*understory/page.writer).number: 22 temporaries, depth 5, 3 parameters, results [] -/
def c57 : RC :=
 (.seq (.ops [(mV 7 2),
 (oP 8 (.bin .sub (.t 7) (.c (.int .i64 1)))),
 (mV 6 8)])
 (.block 0
 (.loop
 (.seq (.seq (.ops [(mV 9 6),
 (oP 10 (.bin .geq (.t 9) (.c (.int .i64 0))))])
 (.cond (.t 10)
 .skip
 (.exit 0)))
 (.seq (.block 1
 (.draw [((mV 13 0), 0),
 ((oP 14 (.nilCheck (.t 13))), 0),
 ((oP 15 (.fieldAddr 0 (.t 14))), 0),
 ((mV 16 1), 0),
 ((mV 17 6), 0),
 ((oP 18 (.bin .mul (.c (.int .i64 8)) (.t 17))), 0),
 ((oP 19 (.bin .shr (.t 16) (.t 18))), 0),
 ((oP 20 (.toInt .u8 (.t 19))), 0),
 ((oP 21 (.callF 56 [(.t 15), (.t 20)])), 2)]))
 (.ops [(mV 11 6),
 (oP 12 (.bin .sub (.t 11) (.c (.int .i64 1)))),
 (mV 6 12)]))))))
theorem F57 : FI 57 3 22 5 [] c57 := ⟨⟨Tryz.f57, Tryz.func57, by kernel_rfl, by kernel_rfl, by kernel_rfl⟩, by kernel_rfl, by decide, by kernel_rfl⟩
/- f86 (*understory/page.writer).sum: 10 temporaries, depth 4, 2 parameters, results [] -/
def c86 : RC :=
 (.seq (.ops [(oP 3 (.box 54 (.t 1)))])
 (.draw [((mV 4 0), 0),
 ((oP 5 (.nilCheck (.t 4))), 0),
 ((oP 6 (.fieldAddr 0 (.t 5))), 0),
 ((oP 7 (.sliceP 16 1 (.t 3) none none none)), 1),
 ((oP 8 (.bytesStr (.t 7))), 3),
 ((oP 9 (.callF 59 [(.t 6), (.t 8)])), 2)]))
theorem F86 : FI 86 2 10 4 [] c86 := ⟨⟨Tryz.f86, Tryz.func86, by kernel_rfl, by kernel_rfl, by kernel_rfl⟩, by kernel_rfl, by decide, by kernel_rfl⟩
end Go.Proofs
/- The looked-up text of the functions. -/
namespace Go.Proofs
open Go Go.Abs
/- f24 understory/understorylaw04.few: 33 temporaries, depth 6, 1 parameters, results [t2] -/
def c24 : RC :=
 (.seq (.ops [(oP 2 (.mv (.c (.bool false))))])
 (.seq (.seq (.ops [(oP 3 (.mv (.c (.int .i64 0))))])
 (.block 0
 (.loop
 (.seq (.seq (.ops [(mV 4 3),
 (mV 5 0),
 (oP 6 (.lenL (.t 5))),
 (oP 7 (.bin .lss (.t 4) (.t 6))),
 (mV 8 7),
 (oG 9 8 true (.mv (.t 3))),
 (oG 10 8 true (.bin .leq (.t 9) (.c (.int .i64 100)))),
 (oP 11 (.pick (.t 8) (.t 10) (.c (.bool false))))])
 (.cond (.t 11)
 .skip
 (.exit 0)))
 (.seq (.block 1
 (.seq (.ops [(mV 14 0),
 (mV 15 3),
 (oP 16 (.indexAddrL 22 (.t 14) (.t 15))),
 (oP 17 (.fieldAddr 0 (.t 16))),
 (oP 18 (.load false 1 (.t 17))),
 (oP 19 (.lenS (.t 18))),
 (oP 20 (.bin .gtr (.t 19) (.c (.int .i64 300)))),
 (mV 21 20),
 (oG 22 21 false (.mv (.t 0))),
 (oG 23 21 false (.mv (.t 3))),
 (oG 24 21 false (.indexAddrL 22 (.t 22) (.t 23))),
 (oG 25 21 false (.fieldAddr 1 (.t 24))),
 (oG 26 21 false (.load false 1 (.t 25))),
 (oG 27 21 false (.lenS (.t 26))),
 (oG 28 21 false (.bin .gtr (.t 27) (.c (.int .i64 300)))),
 (oP 29 (.pick (.t 21) (.c (.bool true)) (.t 28)))])
 (.cond (.t 29)
 (.seq (.ops [(oP 2 (.mv (.c (.bool false))))])
 .ret)
 .skip)))
 (.ops [(mV 12 3),
 (oP 13 (.bin .add (.t 12) (.c (.int .i64 1)))),
 (mV 3 13)]))))))
 (.cut (.seq (.ops [(mV 30 0),
 (oP 31 (.lenL (.t 30))),
 (oP 32 (.bin .leq (.t 31) (.c (.int .i64 100)))),
 (mV 2 32)])
 .ret))))
theorem F24 : FI 24 1 33 6 [.tmp 2] c24 := ⟨⟨Tryz.f24, Tryz.func24, by kernel_rfl, by kernel_rfl, by kernel_rfl⟩, by kernel_rfl, by decide, by kernel_rfl⟩
/- f47 understory/page.Size: 37 temporaries, depth 6, 2 parameters, results [t4, t5] -/
def c47 : RC :=
 (.seq (.ops [(oP 4 (.mv (.c (.int .i64 0)))),
 (oP 5 (.mv (.c (.int .i64 0))))])
 (.seq (.seq (.ops [(mV 10 0),
 (mV 11 1),
 (oP 12 (.callF 85 [(.t 10), (.t 11)])),
 (oP 13 (.un .not (.t 12)))])
 (.cond (.t 13)
 (.seq (.ops [(oP 4 (.mv (.c (.int .i64 0)))),
 (oP 5 (.mv (.c (.int .i64 2))))])
 .ret)
 .skip))
 (.seq (.ops [(mV 15 0),
 (mV 16 1),
 (oP 17 (.callF 48 [(.t 15), (.t 16)])),
 (mV 14 17),
 (oP 18 (.extract (.t 14) 0)),
 (oP 19 (.extract (.t 14) 1)),
 (mV 6 18),
 (mV 7 19)])
 (.seq (.ops [(mV 20 0),
 (mV 21 1),
 (oP 22 (.callF 104 [(.t 20), (.t 21)])),
 (oP 23 (.lenS (.t 22))),
 (mV 8 23)])
 (.seq (.ops [(mV 24 0),
 (oP 25 (.lenL (.t 24))),
 (mV 9 25)])
 (.seq (.seq (.ops [(mV 26 1),
 (oP 27 (.bin .gtr (.t 26) (.c (.int .i64 0))))])
 (.cond (.t 27)
 (.ops [(mV 28 9),
 (oP 29 (.bin .sub (.t 28) (.c (.int .i64 1)))),
 (mV 9 29)])
 .skip))
 (.seq (.ops [(mV 30 6),
 (mV 31 9),
 (mV 32 8),
 (oP 33 (.bin .mul (.t 31) (.t 32))),
 (oP 34 (.bin .sub (.t 30) (.t 33))),
 (mV 35 8),
 (oP 36 (.bin .add (.t 34) (.t 35))),
 (mV 4 36),
 (oP 5 (.mv (.c (.int .i64 0))))])
 .ret)))))))
theorem F47 : FI 47 2 37 6 [.tmp 4, .tmp 5] c47 := ⟨⟨Tryz.f47, Tryz.func47, by kernel_rfl, by kernel_rfl, by kernel_rfl⟩, by kernel_rfl, by decide, by kernel_rfl⟩
/- f48 understory/page.Weight: 33 temporaries, depth 6, 2 parameters, results [t4, t5] -/
def c48 : RC :=
 (.seq (.ops [(oP 4 (.mv (.c (.int .i64 0)))),
 (oP 5 (.mv (.c (.int .i64 0))))])
 (.seq (.seq (.ops [(mV 11 1),
 (oP 12 (.callF 71 [(.t 11), (.c (.int .i64 0)), (.c (.int .i64 20))])),
 (oP 13 (.un .not (.t 12)))])
 (.cond (.t 13)
 (.seq (.ops [(oP 4 (.mv (.c (.int .i64 0)))),
 (oP 5 (.mv (.c (.int .i64 2))))])
 .ret)
 .skip))
 (.seq (.ops [(oP 6 (.mv (.c (.int .i64 6))))])
 (.seq (.seq (.ops [(mV 14 0),
 (oP 15 (.lenL (.t 14))),
 (oP 16 (.mv (.c (.int .i64 0))))])
 (.block 0
 (.loop
 (.seq (.ops [(oP 17 (.bin .lss (.t 16) (.t 15)))])
 (.seq (.cond (.t 17)
 .skip
 (.exit 0))
 (.seq (.block 1
 (.seq (.ops [(oP 18 (.indexAddrL 22 (.t 14) (.t 16))),
 (oP 19 (.load true 22 (.t 18))),
 (oP 8 (.alloc 56 [(.str []), (.str []), (.int .i64 0), (.int .i64 0), (.int .i64 0), (.int .i64 0), (.int .u8 0), (.int .u8 0), (.int .u8 0), (.int .u8 0), (.int .u8 0), (.int .u8 0), (.int .u8 0), (.int .u8 0), (.int .u8 0), (.int .u8 0), (.int .u8 0), (.int .u8 0), (.int .u8 0), (.int .u8 0), (.int .u8 0), (.int .u8 0)])),
 (oU (.store 22 (.t 8) (.t 19)))])
 (.seq (.ops [(oP 21 (.load true 22 (.t 8))),
 (mV 22 1),
 (oP 23 (.callF 105 [(.t 21), (.t 22)])),
 (mV 20 23),
 (oP 24 (.extract (.t 20) 0)),
 (oP 25 (.extract (.t 20) 1)),
 (mV 9 24),
 (mV 10 25)])
 (.seq (.seq (.ops [(mV 26 10),
 (oP 27 (.un .not (.t 26)))])
 (.cond (.t 27)
 (.seq (.ops [(oP 4 (.mv (.c (.int .i64 0)))),
 (oP 5 (.mv (.c (.int .i64 2))))])
 .ret)
 .skip))
 (.ops [(mV 28 6),
 (mV 29 9),
 (oP 30 (.bin .add (.t 28) (.t 29))),
 (mV 6 30)])))))
 (.ops [(oP 31 (.bin .add (.t 16) (.c (.int .i64 1)))),
 (mV 16 31)])))))))
 (.cut (.seq (.ops [(mV 32 6),
 (mV 4 32),
 (oP 5 (.mv (.c (.int .i64 0))))])
 .ret))))))
theorem F48 : FI 48 2 33 6 [.tmp 4, .tmp 5] c48 := ⟨⟨Tryz.f48, Tryz.func48, by kernel_rfl, by kernel_rfl, by kernel_rfl⟩, by kernel_rfl, by decide, by kernel_rfl⟩
/- f46 understory/page.Prefix: 13 temporaries, depth 4, 2 parameters, results [t4, t5] -/
def c46 : RC :=
 (.seq (.ops [(oP 4 (.mv (.c (.str [])))),
 (oP 5 (.mv (.c (.int .i64 0))))])
 (.seq (.seq (.ops [(mV 6 0),
 (mV 7 1),
 (oP 8 (.callF 85 [(.t 6), (.t 7)])),
 (oP 9 (.un .not (.t 8)))])
 (.cond (.t 9)
 (.seq (.ops [(oP 4 (.mv (.c (.str [])))),
 (oP 5 (.mv (.c (.int .i64 2))))])
 .ret)
 .skip))
 (.seq (.ops [(mV 10 0),
 (mV 11 1),
 (oP 12 (.callF 104 [(.t 10), (.t 11)])),
 (mV 4 12),
 (oP 5 (.mv (.c (.int .i64 0))))])
 .ret)))
theorem F46 : FI 46 2 13 4 [.tmp 4, .tmp 5] c46 := ⟨⟨Tryz.f46, Tryz.func46, by kernel_rfl, by kernel_rfl, by kernel_rfl⟩, by kernel_rfl, by decide, by kernel_rfl⟩
/- f85 understory/page.Valid: 78 temporaries, depth 7, 2 parameters, results [t4] -/
def c85 : RC :=
 (.seq (.ops [(oP 4 (.mv (.c (.bool false))))])
 (.seq (.seq (.ops [(mV 7 1),
 (oP 8 (.callF 71 [(.t 7), (.c (.int .i64 0)), (.c (.int .i64 20))])),
 (oP 9 (.un .not (.t 8))),
 (mV 10 9),
 (oG 11 10 false (.mv (.t 0))),
 (oG 12 10 false (.lenL (.t 11))),
 (oG 13 10 false (.bin .eql (.t 12) (.c (.int .i64 0)))),
 (oP 14 (.pick (.t 10) (.c (.bool true)) (.t 13))),
 (mV 15 14),
 (oG 16 15 false (.mv (.t 1))),
 (oG 17 15 false (.bin .gtr (.t 16) (.c (.int .i64 0)))),
 (oG 18 15 false (.mv (.t 17))),
 (oG 19 18 true (.mv (.t 0))),
 (oG 20 18 true (.lenL (.t 19))),
 (oG 21 18 true (.bin .lss (.t 20) (.c (.int .i64 2)))),
 (oG 22 18 true (.mv (.t 21))),
 (oG 23 22 false (.mv (.t 0))),
 (oG 24 22 false (.indexAddrL 22 (.t 23) (.c (.int .i64 0)))),
 (oG 25 22 false (.fieldAddr 0 (.t 24))),
 (oG 26 22 false (.load false 1 (.t 25))),
 (oG 27 22 false (.bin .neq (.t 26) (.c (.str [])))),
 (oG 28 18 true (.pick (.t 22) (.c (.bool true)) (.t 27))),
 (oG 29 15 false (.pick (.t 18) (.t 28) (.c (.bool false)))),
 (oP 30 (.pick (.t 15) (.c (.bool true)) (.t 29)))])
 (.cond (.t 30)
 (.seq (.ops [(oP 4 (.mv (.c (.bool false))))])
 .ret)
 .skip))
 (.seq (.seq (.ops [(mV 31 0),
 (oP 32 (.lenL (.t 31))),
 (oP 33 (.mv (.c (.int .i64 0))))])
 (.block 0
 (.loop
 (.seq (.ops [(oP 34 (.bin .lss (.t 33) (.t 32)))])
 (.seq (.cond (.t 34)
 .skip
 (.exit 0))
 (.seq (.block 1
 (.seq (.ops [(mV 35 33),
 (oP 36 (.indexAddrL 22 (.t 31) (.t 33))),
 (oP 37 (.load true 22 (.t 36))),
 (oP 6 (.alloc 56 [(.str []), (.str []), (.int .i64 0), (.int .i64 0), (.int .i64 0), (.int .i64 0), (.int .u8 0), (.int .u8 0), (.int .u8 0), (.int .u8 0), (.int .u8 0), (.int .u8 0), (.int .u8 0), (.int .u8 0), (.int .u8 0), (.int .u8 0), (.int .u8 0), (.int .u8 0), (.int .u8 0), (.int .u8 0), (.int .u8 0), (.int .u8 0)])),
 (mV 5 35),
 (oU (.store 22 (.t 6) (.t 37)))])
 (.block 2
 (.seq (.seq (.ops [(mV 39 1),
 (oP 40 (.bin .eql (.t 39) (.c (.int .i64 0)))),
 (mV 41 40),
 (oG 42 41 true (.load true 22 (.t 6))),
 (oG 43 41 true (.callF 125 [(.t 42)])),
 (oG 44 41 true (.bin .eql (.t 43) (.c (.int .i64 0)))),
 (oP 45 (.pick (.t 41) (.t 44) (.c (.bool false)))),
 (mV 38 45)])
 (.cond (.t 38)
 .skip
 (.ops [(mV 46 1),
 (oP 47 (.bin .gtr (.t 46) (.c (.int .i64 0)))),
 (mV 48 47),
 (oG 49 48 true (.load true 22 (.t 6))),
 (oG 50 48 true (.callF 126 [(.t 49)])),
 (oG 51 48 true (.un .not (.t 50))),
 (oG 52 48 true (.mv (.t 51))),
 (oG 53 52 false (.mv (.t 5))),
 (oG 54 52 false (.bin .gtr (.t 53) (.c (.int .i64 0)))),
 (oG 55 52 false (.mv (.t 54))),
 (oG 56 55 true (.fieldAddr 0 (.t 6))),
 (oG 57 55 true (.load false 1 (.t 56))),
 (oG 58 55 true (.bin .eql (.t 57) (.c (.str [])))),
 (oG 59 52 false (.pick (.t 55) (.t 58) (.c (.bool false)))),
 (oG 60 48 true (.pick (.t 52) (.c (.bool true)) (.t 59))),
 (oP 61 (.pick (.t 48) (.t 60) (.c (.bool false)))),
 (mV 38 61)])))
 (.cond (.t 38)
 (.seq (.ops [(oP 4 (.mv (.c (.bool false))))])
 .ret)
 (.seq (.draw [((mV 63 5), 0),
 ((oP 64 (.bin .gtr (.t 63) (.c (.int .i64 0)))), 0),
 ((mV 65 64), 0),
 ((oG 66 65 true (.mv (.t 0))), 0),
 ((oG 67 65 true (.mv (.t 5))), 0),
 ((oG 68 65 true (.bin .sub (.t 67) (.c (.int .i64 1)))), 0),
 ((oG 69 65 true (.indexAddrL 22 (.t 66) (.t 68))), 0),
 ((oG 70 65 true (.fieldAddr 0 (.t 69))), 0),
 ((oG 71 65 true (.load false 1 (.t 70))), 1),
 ((oG 72 65 true (.fieldAddr 0 (.t 6))), 0),
 ((oG 73 65 true (.load false 1 (.t 72))), 1),
 ((oG 74 65 true (.callF 83 [(.t 71), (.t 73)])), 0),
 ((oG 75 65 true (.bin .geq (.t 74) (.c (.int .i64 0)))), 0),
 ((oP 76 (.pick (.t 65) (.t 75) (.c (.bool false)))), 0),
 ((mV 62 76), 0)])
 (.cond (.t 62)
 (.seq (.ops [(oP 4 (.mv (.c (.bool false))))])
 .ret)
 .skip)))))))
 (.ops [(oP 77 (.bin .add (.t 33) (.c (.int .i64 1)))),
 (mV 33 77)])))))))
 (.cut (.seq (.ops [(oP 4 (.mv (.c (.bool true))))])
 .ret)))))
theorem F85 : FI 85 2 78 7 [.tmp 4] c85 := ⟨⟨Tryz.f85, Tryz.func85, by kernel_rfl, by kernel_rfl, by kernel_rfl⟩, by kernel_rfl, by decide, by kernel_rfl⟩
/- f72 understory/page.Fits: 19 temporaries, depth 5, 2 parameters, results [t4] -/
def c72 : RC :=
 (.seq (.ops [(oP 4 (.mv (.c (.bool false))))])
 (.seq (.seq (.ops [(mV 7 0),
 (mV 8 1),
 (oP 9 (.callF 85 [(.t 7), (.t 8)])),
 (oP 10 (.un .not (.t 9)))])
 (.cond (.t 10)
 (.seq (.ops [(oP 4 (.mv (.c (.bool false))))])
 .ret)
 .skip))
 (.seq (.ops [(mV 12 0),
 (mV 13 1),
 (oP 14 (.callF 48 [(.t 12), (.t 13)])),
 (mV 11 14),
 (oP 15 (.extract (.t 11) 0)),
 (oP 16 (.extract (.t 11) 1)),
 (mV 5 15),
 (mV 6 16)])
 (.seq (.ops [(mV 17 5),
 (oP 18 (.bin .leq (.t 17) (.c (.int .i64 496)))),
 (mV 4 18)])
 .ret))))
theorem F72 : FI 72 2 19 5 [.tmp 4] c72 := ⟨⟨Tryz.f72, Tryz.func72, by kernel_rfl, by kernel_rfl, by kernel_rfl⟩, by kernel_rfl, by decide, by kernel_rfl⟩
/- f49 understory/page.Capacity: 1 temporaries, depth 2, 0 parameters, results [t0] -/
def c49 : RC :=
 (.seq (.ops [(oP 0 (.mv (.c (.int .i64 0))))])
 (.seq (.ops [(oP 0 (.mv (.c (.int .i64 496))))])
 .ret))
theorem F49 : FI 49 0 1 2 [.tmp 0] c49 := ⟨⟨Tryz.f49, Tryz.func49, by kernel_rfl, by kernel_rfl, by kernel_rfl⟩, by kernel_rfl, by decide, by kernel_rfl⟩
/- f104 understory/page.shared: 31 temporaries, depth 6, 2 parameters, results [t4] -/
def c104 : RC :=
 (.seq (.ops [(oP 4 (.mv (.c (.str []))))])
 (.seq (.seq (.ops [(mV 8 1),
 (oP 9 (.bin .gtr (.t 8) (.c (.int .i64 0))))])
 (.cond (.t 9)
 (.ops [(mV 10 0),
 (oP 11 (.sliceL 22 (.t 10) (some (.c (.int .i64 1))) none none)),
 (mV 0 11)])
 .skip))
 (.cut (.seq (.ops [(mV 12 0),
 (oP 13 (.indexAddrL 22 (.t 12) (.c (.int .i64 0)))),
 (oP 14 (.fieldAddr 0 (.t 13))),
 (oP 15 (.load false 1 (.t 14))),
 (mV 5 15)])
 (.seq (.seq (.ops [(mV 16 0),
 (oP 17 (.sliceL 22 (.t 16) (some (.c (.int .i64 1))) none none)),
 (oP 18 (.lenL (.t 17))),
 (oP 19 (.mv (.c (.int .i64 0))))])
 (.block 0
 (.loop
 (.seq (.ops [(oP 20 (.bin .lss (.t 19) (.t 18)))])
 (.seq (.cond (.t 20)
 .skip
 (.exit 0))
 (.seq (.block 1
 (.seq (.ops [(oP 21 (.indexAddrL 22 (.t 17) (.t 19))),
 (oP 22 (.load true 22 (.t 21))),
 (oP 7 (.alloc 56 [(.str []), (.str []), (.int .i64 0), (.int .i64 0), (.int .i64 0), (.int .i64 0), (.int .u8 0), (.int .u8 0), (.int .u8 0), (.int .u8 0), (.int .u8 0), (.int .u8 0), (.int .u8 0), (.int .u8 0), (.int .u8 0), (.int .u8 0), (.int .u8 0), (.int .u8 0), (.int .u8 0), (.int .u8 0), (.int .u8 0), (.int .u8 0)])),
 (oU (.store 22 (.t 7) (.t 22)))])
 (.ops [(mV 23 5),
 (mV 24 5),
 (oP 25 (.fieldAddr 0 (.t 7))),
 (oP 26 (.load false 1 (.t 25))),
 (oP 27 (.callF 140 [(.t 24), (.t 26)])),
 (oP 28 (.sliceS (.t 23) none (some (.t 27)))),
 (mV 5 28)])))
 (.ops [(oP 29 (.bin .add (.t 19) (.c (.int .i64 1)))),
 (mV 19 29)])))))))
 (.cut (.seq (.ops [(mV 30 5),
 (mV 4 30)])
 .ret)))))))
theorem F104 : FI 104 2 31 6 [.tmp 4] c104 := ⟨⟨Tryz.f104, Tryz.func104, by kernel_rfl, by kernel_rfl, by kernel_rfl⟩, by kernel_rfl, by decide, by kernel_rfl⟩
/- f71 understory/page.within: 15 temporaries, depth 5, 3 parameters, results [t6] -/
def c71 : RC :=
 (.seq (.ops [(oP 6 (.mv (.c (.bool false))))])
 (.seq (.ops [(mV 7 1),
 (mV 8 0),
 (oP 9 (.bin .leq (.t 7) (.t 8))),
 (mV 10 9),
 (oG 11 10 true (.mv (.t 0))),
 (oG 12 10 true (.mv (.t 2))),
 (oG 13 10 true (.bin .leq (.t 11) (.t 12))),
 (oP 14 (.pick (.t 10) (.t 13) (.c (.bool false)))),
 (mV 6 14)])
 .ret))
theorem F71 : FI 71 3 15 5 [.tmp 6] c71 := ⟨⟨Tryz.f71, Tryz.func71, by kernel_rfl, by kernel_rfl, by kernel_rfl⟩, by kernel_rfl, by decide, by kernel_rfl⟩
/- f105 understory/page.weigh: 38 temporaries, depth 6, 2 parameters, results [t4, t5] -/
def c105 : RC :=
 (.seq (.ops [(oP 2 (.box 56 (.t 0))),
 (oP 4 (.mv (.c (.int .i64 0)))),
 (oP 5 (.mv (.c (.bool false))))])
 (.seq (.seq (.ops [(mV 6 1),
 (oP 7 (.bin .gtr (.t 6) (.c (.int .i64 0))))])
 (.cond (.t 7)
 (.seq (.draw [((oP 8 (.fieldAddr 0 (.t 2))), 0),
 ((oP 9 (.load false 1 (.t 8))), 1),
 ((oP 10 (.lenS (.t 9))), 0),
 ((oP 11 (.bin .add (.t 10) (.c (.int .i64 27)))), 0),
 ((oP 12 (.load true 22 (.t 2))), 1),
 ((oP 13 (.callF 126 [(.t 12)])), 0),
 ((mV 4 11), 0),
 ((mV 5 13), 0)])
 .ret)
 .skip))
 (.seq (.seq (.ops [(oP 14 (.load true 22 (.t 2))),
 (oP 15 (.callF 125 [(.t 14)]))])
 (.block 0
 (.seq (.ops [(oP 17 (.bin .eql (.t 15) (.c (.int .i64 1)))),
 (mV 16 17)])
 (.cond (.t 16)
 (.seq (.ops [(oP 18 (.fieldAddr 0 (.t 2))),
 (oP 19 (.load false 1 (.t 18))),
 (oP 20 (.lenS (.t 19))),
 (oP 21 (.fieldAddr 1 (.t 2))),
 (oP 22 (.load false 1 (.t 21))),
 (oP 23 (.lenS (.t 22))),
 (oP 24 (.bin .add (.t 20) (.t 23))),
 (oP 25 (.bin .add (.t 24) (.c (.int .i64 5)))),
 (mV 4 25),
 (oP 5 (.mv (.c (.bool true))))])
 .ret)
 (.seq (.ops [(oP 27 (.bin .eql (.t 15) (.c (.int .i64 2)))),
 (mV 26 27)])
 (.cond (.t 26)
 (.seq (.ops [(oP 28 (.fieldAddr 0 (.t 2))),
 (oP 29 (.load false 1 (.t 28))),
 (oP 30 (.lenS (.t 29))),
 (oP 31 (.bin .add (.t 30) (.c (.int .i64 27)))),
 (mV 4 31),
 (oP 5 (.mv (.c (.bool true))))])
 .ret)
 (.seq (.ops [(oP 33 (.bin .eql (.t 15) (.c (.int .i64 3)))),
 (mV 32 33)])
 (.cond (.t 32)
 (.seq (.ops [(oP 34 (.fieldAddr 0 (.t 2))),
 (oP 35 (.load false 1 (.t 34))),
 (oP 36 (.lenS (.t 35))),
 (oP 37 (.bin .add (.t 36) (.c (.int .i64 29)))),
 (mV 4 37),
 (oP 5 (.mv (.c (.bool true))))])
 .ret)
 .skip))))))))
 (.seq (.ops [(oP 4 (.mv (.c (.int .i64 0)))),
 (oP 5 (.mv (.c (.bool false))))])
 .ret))))
theorem F105 : FI 105 2 38 6 [.tmp 4, .tmp 5] c105 := ⟨⟨Tryz.f105, Tryz.func105, by kernel_rfl, by kernel_rfl, by kernel_rfl⟩, by kernel_rfl, by decide, by kernel_rfl⟩
/- f125 understory/page.formOf: 83 temporaries, depth 7, 1 parameters, results [t2] -/
def c125 : RC :=
 (.seq (.ops [(oP 1 (.box 56 (.t 0))),
 (oP 2 (.mv (.c (.int .i64 0))))])
 (.seq (.ops [(oP 3 (.alloc 54 [(.int .u8 0), (.int .u8 0), (.int .u8 0), (.int .u8 0), (.int .u8 0), (.int .u8 0), (.int .u8 0), (.int .u8 0), (.int .u8 0), (.int .u8 0), (.int .u8 0), (.int .u8 0), (.int .u8 0), (.int .u8 0), (.int .u8 0), (.int .u8 0)]))])
 (.seq (.block 0
 (.seq (.ops [(oP 5 (.fieldAddr 0 (.t 1))),
 (oP 6 (.load false 1 (.t 5))),
 (oP 7 (.lenS (.t 6))),
 (oP 8 (.callF 71 [(.t 7), (.c (.int .i64 1)), (.c (.int .i64 48))])),
 (oP 9 (.un .not (.t 8))),
 (mV 4 9)])
 (.cond (.t 4)
 (.seq (.ops [(oP 2 (.mv (.c (.int .i64 0))))])
 .ret)
 (.seq (.ops [(oP 11 (.fieldAddr 2 (.t 1))),
 (oP 12 (.load false 1 (.t 11))),
 (oP 13 (.bin .eql (.t 12) (.c (.int .i64 0)))),
 (mV 14 13),
 (oG 15 14 true (.fieldAddr 3 (.t 1))),
 (oG 16 14 true (.load false 1 (.t 15))),
 (oG 17 14 true (.bin .eql (.t 16) (.c (.int .i64 0)))),
 (oP 18 (.pick (.t 14) (.t 17) (.c (.bool false)))),
 (mV 19 18),
 (oG 20 19 true (.fieldAddr 4 (.t 1))),
 (oG 21 19 true (.load false 1 (.t 20))),
 (oG 22 19 true (.bin .eql (.t 21) (.c (.int .i64 0)))),
 (oP 23 (.pick (.t 19) (.t 22) (.c (.bool false)))),
 (mV 24 23),
 (oG 25 24 true (.fieldAddr 5 (.t 1))),
 (oG 26 24 true (.load false 1 (.t 25))),
 (oG 27 24 true (.bin .eql (.t 26) (.c (.int .i64 0)))),
 (oP 28 (.pick (.t 24) (.t 27) (.c (.bool false)))),
 (mV 29 28),
 (oG 30 29 true (.fieldAddr 6 (.t 1))),
 (oG 31 29 true (.load true 16 (.t 30))),
 (oG 32 29 true (.load true 16 (.t 3))),
 (oG 33 29 true (.cmp false 54 (.t 31) (.t 32))),
 (oP 34 (.pick (.t 29) (.t 33) (.c (.bool false)))),
 (mV 35 34),
 (oG 36 35 true (.fieldAddr 1 (.t 1))),
 (oG 37 35 true (.load false 1 (.t 36))),
 (oG 38 35 true (.lenS (.t 37))),
 (oG 39 35 true (.bin .leq (.t 38) (.c (.int .i64 64)))),
 (oP 40 (.pick (.t 35) (.t 39) (.c (.bool false)))),
 (mV 10 40)])
 (.cond (.t 10)
 (.seq (.ops [(oP 2 (.mv (.c (.int .i64 1))))])
 .ret)
 (.seq (.ops [(oP 42 (.fieldAddr 1 (.t 1))),
 (oP 43 (.load false 1 (.t 42))),
 (oP 44 (.bin .neq (.t 43) (.c (.str [])))),
 (mV 41 44)])
 (.cond (.t 41)
 (.seq (.ops [(oP 2 (.mv (.c (.int .i64 0))))])
 .ret)
 (.seq (.ops [(oP 46 (.fieldAddr 4 (.t 1))),
 (oP 47 (.load false 1 (.t 46))),
 (oP 48 (.bin .eql (.t 47) (.c (.int .i64 0)))),
 (mV 49 48),
 (oG 50 49 true (.fieldAddr 5 (.t 1))),
 (oG 51 49 true (.load false 1 (.t 50))),
 (oG 52 49 true (.bin .eql (.t 51) (.c (.int .i64 0)))),
 (oP 53 (.pick (.t 49) (.t 52) (.c (.bool false)))),
 (mV 54 53),
 (oG 55 54 true (.fieldAddr 2 (.t 1))),
 (oG 56 54 true (.load false 1 (.t 55))),
 (oG 57 54 true (.callF 70 [(.t 56)])),
 (oP 58 (.pick (.t 54) (.t 57) (.c (.bool false)))),
 (mV 59 58),
 (oG 60 59 true (.fieldAddr 3 (.t 1))),
 (oG 61 59 true (.load false 1 (.t 60))),
 (oG 62 59 true (.callF 71 [(.t 61), (.c (.int .i64 65)), (.c (.int .i64 4000))])),
 (oP 63 (.pick (.t 59) (.t 62) (.c (.bool false)))),
 (mV 45 63)])
 (.cond (.t 45)
 (.seq (.ops [(oP 2 (.mv (.c (.int .i64 2))))])
 .ret)
 (.seq (.ops [(oP 65 (.fieldAddr 2 (.t 1))),
 (oP 66 (.load false 1 (.t 65))),
 (oP 67 (.bin .eql (.t 66) (.c (.int .i64 0)))),
 (mV 68 67),
 (oG 69 68 true (.fieldAddr 3 (.t 1))),
 (oG 70 68 true (.load false 1 (.t 69))),
 (oG 71 68 true (.bin .eql (.t 70) (.c (.int .i64 0)))),
 (oP 72 (.pick (.t 68) (.t 71) (.c (.bool false)))),
 (mV 73 72),
 (oG 74 73 true (.fieldAddr 4 (.t 1))),
 (oG 75 73 true (.load false 1 (.t 74))),
 (oG 76 73 true (.callF 70 [(.t 75)])),
 (oP 77 (.pick (.t 73) (.t 76) (.c (.bool false)))),
 (mV 78 77),
 (oG 79 78 true (.fieldAddr 5 (.t 1))),
 (oG 80 78 true (.load false 1 (.t 79))),
 (oG 81 78 true (.callF 71 [(.t 80), (.c (.int .i64 1)), (.c (.int .i64 2147483647))])),
 (oP 82 (.pick (.t 78) (.t 81) (.c (.bool false)))),
 (mV 64 82)])
 (.cond (.t 64)
 (.seq (.ops [(oP 2 (.mv (.c (.int .i64 3))))])
 .ret)
 .skip)))))))))))
 (.seq (.ops [(oP 2 (.mv (.c (.int .i64 0))))])
 .ret))))
theorem F125 : FI 125 1 83 7 [.tmp 2] c125 := ⟨⟨Tryz.f125, Tryz.func125, by kernel_rfl, by kernel_rfl, by kernel_rfl⟩, by kernel_rfl, by decide, by kernel_rfl⟩
/- f126 understory/page.branches: 32 temporaries, depth 6, 1 parameters, results [t2] -/
def c126 : RC :=
 (.seq (.ops [(oP 1 (.box 56 (.t 0))),
 (oP 2 (.mv (.c (.bool false))))])
 (.seq (.ops [(oP 3 (.fieldAddr 0 (.t 1))),
 (oP 4 (.load false 1 (.t 3))),
 (oP 5 (.lenS (.t 4))),
 (oP 6 (.bin .leq (.t 5) (.c (.int .i64 48)))),
 (mV 7 6),
 (oG 8 7 true (.fieldAddr 1 (.t 1))),
 (oG 9 7 true (.load false 1 (.t 8))),
 (oG 10 7 true (.bin .eql (.t 9) (.c (.str [])))),
 (oP 11 (.pick (.t 7) (.t 10) (.c (.bool false)))),
 (mV 12 11),
 (oG 13 12 true (.fieldAddr 2 (.t 1))),
 (oG 14 12 true (.load false 1 (.t 13))),
 (oG 15 12 true (.bin .eql (.t 14) (.c (.int .i64 0)))),
 (oP 16 (.pick (.t 12) (.t 15) (.c (.bool false)))),
 (mV 17 16),
 (oG 18 17 true (.fieldAddr 3 (.t 1))),
 (oG 19 17 true (.load false 1 (.t 18))),
 (oG 20 17 true (.bin .eql (.t 19) (.c (.int .i64 0)))),
 (oP 21 (.pick (.t 17) (.t 20) (.c (.bool false)))),
 (mV 22 21),
 (oG 23 22 true (.fieldAddr 4 (.t 1))),
 (oG 24 22 true (.load false 1 (.t 23))),
 (oG 25 22 true (.callF 70 [(.t 24)])),
 (oP 26 (.pick (.t 22) (.t 25) (.c (.bool false)))),
 (mV 27 26),
 (oG 28 27 true (.fieldAddr 5 (.t 1))),
 (oG 29 27 true (.load false 1 (.t 28))),
 (oG 30 27 true (.callF 71 [(.t 29), (.c (.int .i64 1)), (.c (.int .i64 2147483647))])),
 (oP 31 (.pick (.t 27) (.t 30) (.c (.bool false)))),
 (mV 2 31)])
 .ret))
theorem F126 : FI 126 1 32 6 [.tmp 2] c126 := ⟨⟨Tryz.f126, Tryz.func126, by kernel_rfl, by kernel_rfl, by kernel_rfl⟩, by kernel_rfl, by decide, by kernel_rfl⟩
/- f83 understory/enc.Compare: 8 temporaries, depth 4, 2 parameters, results [t4] -/
def c83 : RC :=
 (.seq (.ops [(oP 4 (.mv (.c (.int .i64 0))))])
 (.seq (.ops [(mV 5 0),
 (mV 6 1),
 (oP 7 (.callF 124 [(.t 5), (.t 6)])),
 (mV 4 7)])
 .ret))
theorem F83 : FI 83 2 8 4 [.tmp 4] c83 := ⟨⟨Tryz.f83, Tryz.func83, by kernel_rfl, by kernel_rfl, by kernel_rfl⟩, by kernel_rfl, by decide, by kernel_rfl⟩
/- f70 understory/page.numbered: 5 temporaries, depth 3, 1 parameters, results [t2] -/
def c70 : RC :=
 (.seq (.ops [(oP 2 (.mv (.c (.bool false))))])
 (.seq (.ops [(mV 3 0),
 (oP 4 (.callF 71 [(.t 3), (.c (.int .i64 2)), (.c (.int .i64 4095))])),
 (mV 2 4)])
 .ret))
theorem F70 : FI 70 1 5 3 [.tmp 2] c70 := ⟨⟨Tryz.f70, Tryz.func70, by kernel_rfl, by kernel_rfl, by kernel_rfl⟩, by kernel_rfl, by decide, by kernel_rfl⟩
/- f140 understory/enc.Prefix: 25 temporaries, depth 5, 2 parameters, results [t4] -/
def c140 : RC :=
 (.seq (.ops [(oP 4 (.mv (.c (.int .i64 0))))])
 (.seq (.ops [(oP 5 (.mv (.c (.int .i64 0))))])
 (.seq (.block 0
 (.loop
 (.seq (.seq (.draw [((mV 6 5), 0),
 ((mV 7 0), 0),
 ((oP 8 (.lenS (.t 7))), 0),
 ((mV 9 1), 0),
 ((oP 10 (.lenS (.t 9))), 0),
 ((oP 11 (.mm false (.t 8) (.t 10))), 0),
 ((oP 12 (.bin .lss (.t 6) (.t 11))), 0),
 ((mV 13 12), 0),
 ((oG 14 13 true (.mv (.t 0))), 0),
 ((oG 15 13 true (.mv (.t 5))), 0),
 ((oG 16 13 true (.indexS (.t 14) (.t 15))), 0),
 ((oG 17 13 true (.mv (.t 1))), 0),
 ((oG 18 13 true (.mv (.t 5))), 0),
 ((oG 19 13 true (.indexS (.t 17) (.t 18))), 0),
 ((oG 20 13 true (.bin .eql (.t 16) (.t 19))), 0),
 ((oP 21 (.pick (.t 13) (.t 20) (.c (.bool false)))), 0)])
 (.cond (.t 21)
 .skip
 (.exit 0)))
 (.block 1
 (.ops [(mV 22 5),
 (oP 23 (.bin .add (.t 22) (.c (.int .i64 1)))),
 (mV 5 23)])))))
 (.cut (.seq (.ops [(mV 24 5),
 (mV 4 24)])
 .ret)))))
theorem F140 : FI 140 2 25 5 [.tmp 4] c140 := ⟨⟨Tryz.f140, Tryz.func140, by kernel_rfl, by kernel_rfl, by kernel_rfl⟩, by kernel_rfl, by decide, by kernel_rfl⟩
/- f124 cmp.Compare[string]: 20 temporaries, depth 5, 2 parameters, results [t4] -/
def c124 : RC :=
 (.seq (.ops [(oP 4 (.mv (.c (.int .i64 0))))])
 (.seq (.ops [(mV 7 0),
 (oP 8 (.callF 154 [(.t 7)])),
 (mV 5 8)])
 (.seq (.ops [(mV 9 1),
 (oP 10 (.callF 154 [(.t 9)])),
 (mV 6 10)])
 (.seq (.seq (.ops [(mV 11 5)])
 (.cond (.t 11)
 (.seq (.seq (.ops [(mV 12 6)])
 (.cond (.t 12)
 (.seq (.ops [(oP 4 (.mv (.c (.int .i64 0))))])
 .ret)
 .skip))
 (.seq (.ops [(oP 4 (.mv (.c (.int .i64 (-1)))))])
 .ret))
 .skip))
 (.seq (.seq (.ops [(mV 13 6)])
 (.cond (.t 13)
 (.seq (.ops [(oP 4 (.mv (.c (.int .i64 1))))])
 .ret)
 .skip))
 (.seq (.seq (.ops [(mV 14 0),
 (mV 15 1),
 (oP 16 (.bin .lss (.t 14) (.t 15)))])
 (.cond (.t 16)
 (.seq (.ops [(oP 4 (.mv (.c (.int .i64 (-1)))))])
 .ret)
 .skip))
 (.seq (.seq (.ops [(mV 17 0),
 (mV 18 1),
 (oP 19 (.bin .gtr (.t 17) (.t 18)))])
 (.cond (.t 19)
 (.seq (.ops [(oP 4 (.mv (.c (.int .i64 1))))])
 .ret)
 .skip))
 (.seq (.ops [(oP 4 (.mv (.c (.int .i64 0))))])
 .ret))))))))
theorem F124 : FI 124 2 20 5 [.tmp 4] c124 := ⟨⟨Tryz.f124, Tryz.func124, by kernel_rfl, by kernel_rfl, by kernel_rfl⟩, by kernel_rfl, by decide, by kernel_rfl⟩
/- f154 cmp.isNaN[string]: 6 temporaries, depth 3, 1 parameters, results [t2] -/
def c154 : RC :=
 (.seq (.ops [(oP 2 (.mv (.c (.bool false))))])
 (.seq (.ops [(mV 3 0),
 (mV 4 0),
 (oP 5 (.bin .neq (.t 3) (.t 4))),
 (mV 2 5)])
 .ret))
theorem F154 : FI 154 1 6 3 [.tmp 2] c154 := ⟨⟨Tryz.f154, Tryz.func154, by kernel_rfl, by kernel_rfl, by kernel_rfl⟩, by kernel_rfl, by decide, by kernel_rfl⟩
end Go.Proofs
/- The looked-up text of the functions. -/
namespace Go.Proofs
open Go Go.Abs
/- f112 understory/digest.CRC: 5 temporaries, depth 3, 1 parameters, results [t2] -/
def c112 : RC :=
 (.seq (.ops [(oP 2 (.mv (.c (.int .u32 0))))])
 (.seq (.ops [(mV 3 0),
 (oP 4 (.callF 149 [(.c (.int .u32 0)), (.t 3)])),
 (mV 2 4)])
 .ret))
theorem F112 : FI 112 1 5 3 [.tmp 2] c112 := ⟨⟨Tryz.f112, Tryz.func112, by kernel_rfl, by kernel_rfl, by kernel_rfl⟩, by kernel_rfl, by decide, by kernel_rfl⟩
/- f149 understory/digest.Extend: 30 temporaries, depth 5, 2 parameters, results [t4] -/
def c149 : RC :=
 (.seq (.ops [(oP 4 (.mv (.c (.int .u32 0))))])
 (.seq (.ops [(oP 8 (.callF 168 [])),
 (oP 5 (.alloc 244 [(.int .u32 0), (.int .u32 0), (.int .u32 0), (.int .u32 0), (.int .u32 0), (.int .u32 0), (.int .u32 0), (.int .u32 0), (.int .u32 0), (.int .u32 0), (.int .u32 0), (.int .u32 0), (.int .u32 0), (.int .u32 0), (.int .u32 0), (.int .u32 0), (.int .u32 0), (.int .u32 0), (.int .u32 0), (.int .u32 0), (.int .u32 0), (.int .u32 0), (.int .u32 0), (.int .u32 0), (.int .u32 0), (.int .u32 0), (.int .u32 0), (.int .u32 0), (.int .u32 0), (.int .u32 0), (.int .u32 0), (.int .u32 0), (.int .u32 0), (.int .u32 0), (.int .u32 0), (.int .u32 0), (.int .u32 0), (.int .u32 0), (.int .u32 0), (.int .u32 0), (.int .u32 0), (.int .u32 0), (.int .u32 0), (.int .u32 0), (.int .u32 0), (.int .u32 0), (.int .u32 0), (.int .u32 0), (.int .u32 0), (.int .u32 0), (.int .u32 0), (.int .u32 0), (.int .u32 0), (.int .u32 0), (.int .u32 0), (.int .u32 0), (.int .u32 0), (.int .u32 0), (.int .u32 0), (.int .u32 0), (.int .u32 0), (.int .u32 0), (.int .u32 0), (.int .u32 0), (.int .u32 0), (.int .u32 0), (.int .u32 0), (.int .u32 0), (.int .u32 0), (.int .u32 0), (.int .u32 0), (.int .u32 0), (.int .u32 0), (.int .u32 0), (.int .u32 0), (.int .u32 0), (.int .u32 0), (.int .u32 0), (.int .u32 0), (.int .u32 0), (.int .u32 0), (.int .u32 0), (.int .u32 0), (.int .u32 0), (.int .u32 0), (.int .u32 0), (.int .u32 0), (.int .u32 0), (.int .u32 0), (.int .u32 0), (.int .u32 0), (.int .u32 0), (.int .u32 0), (.int .u32 0), (.int .u32 0), (.int .u32 0), (.int .u32 0), (.int .u32 0), (.int .u32 0), (.int .u32 0), (.int .u32 0), (.int .u32 0), (.int .u32 0), (.int .u32 0), (.int .u32 0), (.int .u32 0), (.int .u32 0), (.int .u32 0), (.int .u32 0), (.int .u32 0), (.int .u32 0), (.int .u32 0), (.int .u32 0), (.int .u32 0), (.int .u32 0), (.int .u32 0), (.int .u32 0), (.int .u32 0), (.int .u32 0), (.int .u32 0), (.int .u32 0), (.int .u32 0), (.int .u32 0), (.int .u32 0), (.int .u32 0), (.int .u32 0), (.int .u32 0), (.int .u32 0), (.int .u32 0), (.int .u32 0), (.int .u32 0), (.int .u32 0), (.int .u32 0), (.int .u32 0), (.int .u32 0), (.int .u32 0), (.int .u32 0), (.int .u32 0), (.int .u32 0), (.int .u32 0), (.int .u32 0), (.int .u32 0), (.int .u32 0), (.int .u32 0), (.int .u32 0), (.int .u32 0), (.int .u32 0), (.int .u32 0), (.int .u32 0), (.int .u32 0), (.int .u32 0), (.int .u32 0), (.int .u32 0), (.int .u32 0), (.int .u32 0), (.int .u32 0), (.int .u32 0), (.int .u32 0), (.int .u32 0), (.int .u32 0), (.int .u32 0), (.int .u32 0), (.int .u32 0), (.int .u32 0), (.int .u32 0), (.int .u32 0), (.int .u32 0), (.int .u32 0), (.int .u32 0), (.int .u32 0), (.int .u32 0), (.int .u32 0), (.int .u32 0), (.int .u32 0), (.int .u32 0), (.int .u32 0), (.int .u32 0), (.int .u32 0), (.int .u32 0), (.int .u32 0), (.int .u32 0), (.int .u32 0), (.int .u32 0), (.int .u32 0), (.int .u32 0), (.int .u32 0), (.int .u32 0), (.int .u32 0), (.int .u32 0), (.int .u32 0), (.int .u32 0), (.int .u32 0), (.int .u32 0), (.int .u32 0), (.int .u32 0), (.int .u32 0), (.int .u32 0), (.int .u32 0), (.int .u32 0), (.int .u32 0), (.int .u32 0), (.int .u32 0), (.int .u32 0), (.int .u32 0), (.int .u32 0), (.int .u32 0), (.int .u32 0), (.int .u32 0), (.int .u32 0), (.int .u32 0), (.int .u32 0), (.int .u32 0), (.int .u32 0), (.int .u32 0), (.int .u32 0), (.int .u32 0), (.int .u32 0), (.int .u32 0), (.int .u32 0), (.int .u32 0), (.int .u32 0), (.int .u32 0), (.int .u32 0), (.int .u32 0), (.int .u32 0), (.int .u32 0), (.int .u32 0), (.int .u32 0), (.int .u32 0), (.int .u32 0), (.int .u32 0), (.int .u32 0), (.int .u32 0), (.int .u32 0), (.int .u32 0), (.int .u32 0), (.int .u32 0), (.int .u32 0), (.int .u32 0), (.int .u32 0), (.int .u32 0), (.int .u32 0), (.int .u32 0), (.int .u32 0), (.int .u32 0), (.int .u32 0), (.int .u32 0), (.int .u32 0), (.int .u32 0), (.int .u32 0), (.int .u32 0), (.int .u32 0), (.int .u32 0), (.int .u32 0), (.int .u32 0), (.int .u32 0)])),
 (oU (.store 256 (.t 5) (.t 8)))])
 (.seq (.ops [(mV 9 0),
 (oP 10 (.un .xor (.t 9))),
 (mV 6 10)])
 (.seq (.seq (.ops [(mV 11 1),
 (oP 12 (.lenS (.t 11))),
 (oP 13 (.mv (.c (.int .i64 0))))])
 (.block 0
 (.loop
 (.seq (.ops [(oP 14 (.bin .lss (.t 13) (.t 12)))])
 (.seq (.cond (.t 14)
 .skip
 (.exit 0))
 (.seq (.block 1
 (.seq (.ops [(mV 15 13),
 (mV 7 15)])
 (.ops [(mV 16 6),
 (oP 17 (.toInt .u8 (.t 16))),
 (mV 18 1),
 (mV 19 7),
 (oP 20 (.indexS (.t 18) (.t 19))),
 (oP 21 (.bin .xor (.t 17) (.t 20))),
 (oP 22 (.indexAddrA 256 1 (.t 5) (.t 21))),
 (oP 23 (.load false 1 (.t 22))),
 (mV 24 6),
 (oP 25 (.bin .shr (.t 24) (.c (.int .u64 8)))),
 (oP 26 (.bin .xor (.t 23) (.t 25))),
 (mV 6 26)])))
 (.ops [(oP 27 (.bin .add (.t 13) (.c (.int .i64 1)))),
 (mV 13 27)])))))))
 (.cut (.seq (.ops [(mV 28 6),
 (oP 29 (.un .xor (.t 28))),
 (mV 4 29)])
 .ret))))))
theorem F149 : FI 149 2 30 5 [.tmp 4] c149 := ⟨⟨Tryz.f149, Tryz.func149, by kernel_rfl, by kernel_rfl, by kernel_rfl⟩, by kernel_rfl, by decide, by kernel_rfl⟩
/- f168 understory/digest.table: 18 temporaries, depth 5, 0 parameters, results [*t0] -/
def c168 : RC :=
 (.seq (.ops [(oP 0 (.alloc 244 [(.int .u32 0), (.int .u32 0), (.int .u32 0), (.int .u32 0), (.int .u32 0), (.int .u32 0), (.int .u32 0), (.int .u32 0), (.int .u32 0), (.int .u32 0), (.int .u32 0), (.int .u32 0), (.int .u32 0), (.int .u32 0), (.int .u32 0), (.int .u32 0), (.int .u32 0), (.int .u32 0), (.int .u32 0), (.int .u32 0), (.int .u32 0), (.int .u32 0), (.int .u32 0), (.int .u32 0), (.int .u32 0), (.int .u32 0), (.int .u32 0), (.int .u32 0), (.int .u32 0), (.int .u32 0), (.int .u32 0), (.int .u32 0), (.int .u32 0), (.int .u32 0), (.int .u32 0), (.int .u32 0), (.int .u32 0), (.int .u32 0), (.int .u32 0), (.int .u32 0), (.int .u32 0), (.int .u32 0), (.int .u32 0), (.int .u32 0), (.int .u32 0), (.int .u32 0), (.int .u32 0), (.int .u32 0), (.int .u32 0), (.int .u32 0), (.int .u32 0), (.int .u32 0), (.int .u32 0), (.int .u32 0), (.int .u32 0), (.int .u32 0), (.int .u32 0), (.int .u32 0), (.int .u32 0), (.int .u32 0), (.int .u32 0), (.int .u32 0), (.int .u32 0), (.int .u32 0), (.int .u32 0), (.int .u32 0), (.int .u32 0), (.int .u32 0), (.int .u32 0), (.int .u32 0), (.int .u32 0), (.int .u32 0), (.int .u32 0), (.int .u32 0), (.int .u32 0), (.int .u32 0), (.int .u32 0), (.int .u32 0), (.int .u32 0), (.int .u32 0), (.int .u32 0), (.int .u32 0), (.int .u32 0), (.int .u32 0), (.int .u32 0), (.int .u32 0), (.int .u32 0), (.int .u32 0), (.int .u32 0), (.int .u32 0), (.int .u32 0), (.int .u32 0), (.int .u32 0), (.int .u32 0), (.int .u32 0), (.int .u32 0), (.int .u32 0), (.int .u32 0), (.int .u32 0), (.int .u32 0), (.int .u32 0), (.int .u32 0), (.int .u32 0), (.int .u32 0), (.int .u32 0), (.int .u32 0), (.int .u32 0), (.int .u32 0), (.int .u32 0), (.int .u32 0), (.int .u32 0), (.int .u32 0), (.int .u32 0), (.int .u32 0), (.int .u32 0), (.int .u32 0), (.int .u32 0), (.int .u32 0), (.int .u32 0), (.int .u32 0), (.int .u32 0), (.int .u32 0), (.int .u32 0), (.int .u32 0), (.int .u32 0), (.int .u32 0), (.int .u32 0), (.int .u32 0), (.int .u32 0), (.int .u32 0), (.int .u32 0), (.int .u32 0), (.int .u32 0), (.int .u32 0), (.int .u32 0), (.int .u32 0), (.int .u32 0), (.int .u32 0), (.int .u32 0), (.int .u32 0), (.int .u32 0), (.int .u32 0), (.int .u32 0), (.int .u32 0), (.int .u32 0), (.int .u32 0), (.int .u32 0), (.int .u32 0), (.int .u32 0), (.int .u32 0), (.int .u32 0), (.int .u32 0), (.int .u32 0), (.int .u32 0), (.int .u32 0), (.int .u32 0), (.int .u32 0), (.int .u32 0), (.int .u32 0), (.int .u32 0), (.int .u32 0), (.int .u32 0), (.int .u32 0), (.int .u32 0), (.int .u32 0), (.int .u32 0), (.int .u32 0), (.int .u32 0), (.int .u32 0), (.int .u32 0), (.int .u32 0), (.int .u32 0), (.int .u32 0), (.int .u32 0), (.int .u32 0), (.int .u32 0), (.int .u32 0), (.int .u32 0), (.int .u32 0), (.int .u32 0), (.int .u32 0), (.int .u32 0), (.int .u32 0), (.int .u32 0), (.int .u32 0), (.int .u32 0), (.int .u32 0), (.int .u32 0), (.int .u32 0), (.int .u32 0), (.int .u32 0), (.int .u32 0), (.int .u32 0), (.int .u32 0), (.int .u32 0), (.int .u32 0), (.int .u32 0), (.int .u32 0), (.int .u32 0), (.int .u32 0), (.int .u32 0), (.int .u32 0), (.int .u32 0), (.int .u32 0), (.int .u32 0), (.int .u32 0), (.int .u32 0), (.int .u32 0), (.int .u32 0), (.int .u32 0), (.int .u32 0), (.int .u32 0), (.int .u32 0), (.int .u32 0), (.int .u32 0), (.int .u32 0), (.int .u32 0), (.int .u32 0), (.int .u32 0), (.int .u32 0), (.int .u32 0), (.int .u32 0), (.int .u32 0), (.int .u32 0), (.int .u32 0), (.int .u32 0), (.int .u32 0), (.int .u32 0), (.int .u32 0), (.int .u32 0), (.int .u32 0), (.int .u32 0), (.int .u32 0), (.int .u32 0), (.int .u32 0), (.int .u32 0), (.int .u32 0), (.int .u32 0), (.int .u32 0), (.int .u32 0), (.int .u32 0), (.int .u32 0), (.int .u32 0), (.int .u32 0), (.int .u32 0), (.int .u32 0), (.int .u32 0), (.int .u32 0), (.int .u32 0), (.int .u32 0), (.int .u32 0), (.int .u32 0), (.int .u32 0), (.int .u32 0), (.int .u32 0), (.int .u32 0)]))])
 (.seq (.seq (.ops [(oP 3 (.mv (.c (.int .i64 0))))])
 (.block 0
 (.loop
 (.seq (.ops [(oP 4 (.bin .lss (.t 3) (.c (.int .i64 256))))])
 (.seq (.cond (.t 4)
 .skip
 (.exit 0))
 (.seq (.block 1
 (.seq (.ops [(mV 5 3),
 (mV 1 5)])
 (.seq (.ops [(mV 6 1),
 (oP 7 (.toInt .u32 (.t 6))),
 (mV 2 7)])
 (.seq (.seq (.ops [(oP 8 (.mv (.c (.int .i64 0))))])
 (.block 2
 (.loop
 (.seq (.ops [(oP 9 (.bin .lss (.t 8) (.c (.int .i64 8))))])
 (.seq (.cond (.t 9)
 .skip
 (.exit 2))
 (.seq (.block 3
 (.ops [(mV 10 2),
 (oP 11 (.callF 188 [(.t 10)])),
 (mV 2 11)]))
 (.ops [(oP 12 (.bin .add (.t 8) (.c (.int .i64 1)))),
 (mV 8 12)])))))))
 (.cut (.ops [(mV 13 1),
 (mV 14 2),
 (oP 15 (.indexAddrA 256 1 (.t 0) (.t 13))),
 (oU (.store 1 (.t 15) (.t 14)))]))))))
 (.cut (.ops [(oP 16 (.bin .add (.t 3) (.c (.int .i64 1)))),
 (mV 3 16)]))))))))
 (.cut (.seq (.ops [(oP 17 (.load true 256 (.t 0))),
 (oU (.store 256 (.t 0) (.t 17)))])
 .ret))))
theorem F168 : FI 168 0 18 5 [.cell 0 244] c168 := ⟨⟨Tryz.f168, Tryz.func168, by kernel_rfl, by kernel_rfl, by kernel_rfl⟩, by kernel_rfl, by decide, by kernel_rfl⟩
/- f188 understory/digest.bit: 11 temporaries, depth 4, 1 parameters, results [t2] -/
def c188 : RC :=
 (.seq (.ops [(oP 2 (.mv (.c (.int .u32 0))))])
 (.seq (.seq (.ops [(mV 3 0),
 (oP 4 (.bin .and (.t 3) (.c (.int .u32 1)))),
 (oP 5 (.bin .eql (.t 4) (.c (.int .u32 1))))])
 (.cond (.t 5)
 (.seq (.ops [(mV 6 0),
 (oP 7 (.bin .shr (.t 6) (.c (.int .u64 1)))),
 (oP 8 (.bin .xor (.t 7) (.c (.int .u32 3988292384)))),
 (mV 2 8)])
 .ret)
 .skip))
 (.seq (.ops [(mV 9 0),
 (oP 10 (.bin .shr (.t 9) (.c (.int .u64 1)))),
 (mV 2 10)])
 .ret)))
theorem F188 : FI 188 1 11 4 [.tmp 2] c188 := ⟨⟨Tryz.f188, Tryz.func188, by kernel_rfl, by kernel_rfl, by kernel_rfl⟩, by kernel_rfl, by decide, by kernel_rfl⟩
end Go.Proofs
/- The checksum: what CRC computes. -/
set_option linter.unusedVariables false
set_option linter.unusedSimpArgs false
namespace Go.Proofs
open Go Go.Abs
def cfgN : Cfg := ⟨inl0, fun _ _ => none⟩
noncomputable abbrev CC (n : Nat) : CallF := CN Tryz.prog cfgN n
@[reducible] def u32 (c : UInt32) : AV := .int .u32 c.toNat

theorem wrap_u32 (b : BitVec 32) : IntKind.u32.wrap (b.toNat : Int) = (b.toNat : Int) := by
  have h := b.isLt
  show (if (IntKind.u32.signed && decide ((b.toNat : Int) % (2 ^ 32 : Int) ≥ (2 ^ (32 - 1) : Int))) = true then (b.toNat : Int) % (2 ^ 32 : Int) - 2 ^ 32 else (b.toNat : Int) % (2 ^ 32 : Int)) = _
  rw [if_neg (by simp [IntKind.signed])]
  omega
theorem wrap_u8 (b : BitVec 8) : IntKind.u8.wrap (b.toNat : Int) = (b.toNat : Int) := by
  have h := b.isLt
  show (if (IntKind.u8.signed && decide ((b.toNat : Int) % (2 ^ 8 : Int) ≥ (2 ^ (8 - 1) : Int))) = true then (b.toNat : Int) % (2 ^ 8 : Int) - 2 ^ 8 else (b.toNat : Int) % (2 ^ 8 : Int)) = _
  rw [if_neg (by simp [IntKind.signed])]
  omega
theorem bv32 (c : UInt32) : BitVec.ofInt 32 (c.toNat : Int) = c.toBitVec := by
  rw [BitVec.ofInt_natCast]; apply BitVec.eq_of_toNat_eq; simp
theorem and_u32 (c d : UInt32) : IntKind.u32.wrap (BitVec.ofInt IntKind.u32.bits (c.toNat : Int) &&& BitVec.ofInt IntKind.u32.bits (d.toNat : Int)).toNat = ((c &&& d).toNat : Int) := by
  show IntKind.u32.wrap (BitVec.ofInt 32 (c.toNat : Int) &&& BitVec.ofInt 32 (d.toNat : Int)).toNat = _
  rw [bv32, bv32, wrap_u32]; rfl
theorem xor_u32 (c d : UInt32) : IntKind.u32.wrap (BitVec.ofInt IntKind.u32.bits (c.toNat : Int) ^^^ BitVec.ofInt IntKind.u32.bits (d.toNat : Int)).toNat = ((c ^^^ d).toNat : Int) := by
  show IntKind.u32.wrap (BitVec.ofInt 32 (c.toNat : Int) ^^^ BitVec.ofInt 32 (d.toNat : Int)).toNat = _
  rw [bv32, bv32, wrap_u32]; rfl
theorem xor_u8 (c d : UInt8) : IntKind.u8.wrap (BitVec.ofInt IntKind.u8.bits (c.toNat : Int) ^^^ BitVec.ofInt IntKind.u8.bits (d.toNat : Int)).toNat = ((c ^^^ d).toNat : Int) := by
  show IntKind.u8.wrap (BitVec.ofInt 8 (c.toNat : Int) ^^^ BitVec.ofInt 8 (d.toNat : Int)).toNat = _
  have e : ∀ c : UInt8, BitVec.ofInt 8 (c.toNat : Int) = c.toBitVec := fun c => by rw [BitVec.ofInt_natCast]; apply BitVec.eq_of_toNat_eq; simp
  rw [e, e, wrap_u8]; rfl
theorem not_u32 (c : UInt32) : IntKind.u32.wrap (BitVec.ofInt IntKind.u32.bits (if IntKind.u32.signed then -1 else IntKind.u32.max) ^^^ BitVec.ofInt IntKind.u32.bits (c.toNat : Int)).toNat = ((~~~c).toNat : Int) := by
  show IntKind.u32.wrap (BitVec.ofInt 32 4294967295 ^^^ BitVec.ofInt 32 (c.toNat : Int)).toNat = _
  rw [bv32, wrap_u32]
  have : (BitVec.ofInt 32 4294967295 ^^^ c.toBitVec) = ~~~c.toBitVec := by
    rw [show BitVec.ofInt 32 4294967295 = BitVec.allOnes 32 by decide]
    exact BitVec.allOnes_xor
  rw [this]; rfl
theorem shr_u32 (c : UInt32) (k : Nat) (hk : k < 32) : ((c.toNat : Int)).fdiv (2 ^ (min (k : Int).toNat IntKind.u32.bits)) = ((c >>> (UInt32.ofNat k)).toNat : Int) := by
  have h1 : min (k : Int).toNat IntKind.u32.bits = k := by show min (k : Int).toNat 32 = k; omega
  rw [h1]
  have h2 : (c >>> (UInt32.ofNat k)).toNat = c.toNat / 2 ^ k := by
    rw [UInt32.toNat_shiftRight, UInt32.toNat_ofNat', Nat.shiftRight_eq_div_pow]
    rw [Nat.mod_eq_of_lt (show k < 2 ^ 32 by omega), Nat.mod_eq_of_lt hk]
  rw [h2, Int.fdiv_eq_ediv_of_nonneg _ (by exact Int.pow_nonneg (by decide))]
  norm_cast
theorem low_u8 (c : UInt32) : IntKind.u8.wrap (c.toNat : Int) = (c.toUInt8.toNat : Int) := by
  have h := c.toNat_lt
  show (if (IntKind.u8.signed && decide ((c.toNat : Int) % (2 ^ 8 : Int) ≥ (2 ^ (8 - 1) : Int))) = true then (c.toNat : Int) % (2 ^ 8 : Int) - 2 ^ 8 else (c.toNat : Int) % (2 ^ 8 : Int)) = _
  rw [if_neg (by simp [IntKind.signed]), UInt32.toNat_toUInt8]
  omega

def bit (c : UInt32) : UInt32 := if c &&& 1 = 1 then (c >>> 1) ^^^ 3988292384 else c >>> 1
theorem u32_eq {c d : UInt32} : ((c.toNat : Int) == (d.toNat : Int)) = decide (c = d) := by
  by_cases h : c = d
  · subst h; simp
  · simp [h]; intro h'; exact h (UInt32.toNat_inj.1 (by omega))
section
variable {n : Nat} {h : AHeap}
theorem bit_eq (hn : 1 ≤ n) (c : UInt32) : CC n 188 [u32 c] h = some (.ret (u32 (bit c)), h) := by
  obtain ⟨m, rfl⟩ : ∃ m, n = m + 1 := ⟨n - 1, by omega⟩
  refine fun_pure F188 rfl rfl rfl rfl ?_
  conv => whnf
  refine zI (and_u32 c 1) ?_
  conv => whnf
  have e1 := @u32_eq (c &&& 1) 1
  refine br (fun a => ?_) (fun a => ?_)
  · have a' : c &&& 1 = 1 := by simpa [e1] using e1.symm.trans a
    conv => whnf
    refine ⟨by decide, _, shr_u32 c 1 (by decide), ?_⟩
    conv => whnf
    refine zI (xor_u32 _ 3988292384) ?_
    conv => whnf
    exact retP rfl (frz_int (by simp [bit, a']))
  · have a' : ¬ c &&& 1 = 1 := by simpa [e1] using e1.symm.trans a
    conv => whnf
    refine ⟨by decide, _, shr_u32 c 1 (by decide), ?_⟩
    conv => whnf
    exact retP rfl (frz_int (by simp [bit, a']))

def tab (i : UInt8) : UInt32 := bit (bit (bit (bit (bit (bit (bit (bit i.toUInt32)))))))
def bits : Nat → UInt32 → UInt32
  | 0, c => c
  | k + 1, c => bits k (bit c)
theorem bits_succ : ∀ (k : Nat) (c : UInt32), bits (k + 1) c = bit (bits k c)
  | 0, c => rfl
  | k + 1, c => bits_succ k (bit c)
def tabV (j : Nat) : AV := u32 (bits 8 (UInt32.ofNat j))
def tabC (i : Nat) : List AV := (List.range 256).map fun j => if j < i then tabV j else .int .u32 0
theorem tabC_len (i : Nat) : (tabC i).length = 256 := by simp [tabC]
theorem tabC_scal (i : Nat) : (tabC i).all AV.scal = true := by
  rw [List.all_eq_true]
  intro x hx
  obtain ⟨j, _, rfl⟩ := List.mem_map.1 hx
  split <;> rfl
theorem tabC_cells (i : Nat) : (AV.agg (tabC i)).cells? = some (tabC i) := by
  show (if (tabC i).all AV.scal = true then some (tabC i) else none) = _
  rw [if_pos (tabC_scal i)]
theorem tabC_frz (i n : Nat) : FrzOk (n + 2) (.agg (tabC i)) := frzOk_agg fun x hx => by
  obtain ⟨j, _, rfl⟩ := List.mem_map.1 hx
  split <;> exact frzOk_int
theorem tabC_over {zs : List AV} (hz : zs.length = 256) (i : Nat) : putAt zs 0 (tabC i) = tabC i := by
  unfold putAt
  rw [tabC_len, List.take_zero, List.drop_of_length_le (by omega)]
  simp
theorem tabC_same (i : Nat) : putAt (tabC i) 0 (tabC i) = tabC i := tabC_over (tabC_len i) i
theorem loadT {cs : List AV} (hcs : cs.length = 256) : loadA Tryz.prog [.cells 0 (some 244) cs 0] 244 (.ptr 0 0 0) = some (.agg cs) := by
  have ht : (ti Tryz.prog 244).map (fun d => (isAggD d.desc, d.size)) = some (true, 256) := by kernel_rfl
  obtain ⟨d, h1, h2⟩ := Option.map_eq_some_iff.1 ht
  simp only [Prod.mk.injEq] at h2
  unfold loadA
  simp only [h1, List.getElem?_cons_zero, if_true]
  unfold partA
  rw [h2.1, h2.2, hcs]
  simp [← hcs]
theorem tabC_put {i : Nat} (hi : i < 256) : putAt (tabC i) i [tabV i] = tabC (i + 1) := by
  apply List.ext_getElem?
  intro k
  unfold putAt tabC
  rw [List.append_assoc]
  by_cases h1 : k < i
  · rw [List.getElem?_append_left (by simp; omega), List.getElem?_take, if_pos h1]
    simp only [List.getElem?_map]
    by_cases h2 : k < 256
    · simp [List.getElem?_range h2, h1, show k < i + 1 by omega]
    · omega
  · rw [List.getElem?_append_right (by simp; omega)]
    by_cases h2 : k = i
    · subst h2
      simp [List.getElem?_range hi, hi, Nat.min_eq_left (Nat.le_of_lt hi)]
    · rw [List.getElem?_append_right (by simp; omega)]
      simp only [List.length_take, List.length_map, List.length_range, List.length_cons, List.length_nil, List.getElem?_drop, List.getElem?_map]
      rw [Nat.min_eq_left (Nat.le_of_lt hi), show i + (0 + 1) + (k - i - (0 + 1)) = k by omega]
      by_cases h3 : k < 256
      · simp [List.getElem?_range h3, show ¬ k < i by omega, show ¬ k < i + 1 by omega]
      · rw [List.getElem?_eq_none (by simp; omega)]; rfl

theorem wrap_u32n {j : Nat} (hj : j < 256) : IntKind.u32.wrap (j : Int) = ((UInt32.ofNat j).toNat : Int) := by
  have : ((UInt32.ofNat j).toNat : Int) = j := by rw [UInt32.toNat_ofNat']; omega
  rw [this]
  have := wrap_u32 (BitVec.ofNat 32 j)
  rwa [BitVec.toNat_ofNat, Nat.mod_eq_of_lt (show j < 2 ^ 32 by omega)] at this

theorem table_in {m : Nat} (hn : 1 ≤ m) (j : Nat) (hj : j < 256) (hp : AHeap) {Q : Ex → LS → Prop} {s : LS} (hs : LS.sub ⟨[(0, .ptr 0 0 0), (1, i64 j), (2, u32 (UInt32.ofNat j)), (3, i64 j), (8, i64 0)], hp, []⟩ s)
    (hE : ∀ L, subL [(0, .ptr 0 0 0), (1, i64 j), (2, tabV j), (3, i64 j)] L → Q (.exit 2) ⟨L, hp, []⟩) : OkR Tryz.prog (CC m) cfgN.inl KK 18 5 (.loop (c168.lp 1)) s Q := by
  refine loopI (by decide) rfl (α := Nat) (fun x => ⟨[(0, .ptr 0 0 0), (1, i64 j), (2, u32 (bits x (UInt32.ofNat j))), (3, i64 j), (8, i64 x)], hp, []⟩) (fun x => x ≤ 8) (fun x => 8 - x) 0 hs (by simp) (by show 8 - 0 < KK; simp only [KK]; omega) ?_
  intro x hx
  conv => whnf
  refine brd (fun a => ?_) (fun a => ?_)
  · conv => whnf
    refine clI (bit_eq (by omega) (bits x (UInt32.ofNat j))) ?_
    conv => whnf
    refine zI (z := ((x + 1 : Nat) : Int)) (by rw [wrap_i64 (by omega) (by omega)]; rfl) ?_
    refine nxI (x + 1) (by omega) (by omega) ⟨⟨rfl, rfl, ?_, rfl, rfl⟩, rfl, rfl⟩
    rw [bits_succ]; rfl
  · have : x = 8 := by omega
    subst this
    conv => whnf
    exact hE _ ⟨rfl, rfl, rfl, rfl⟩

set_option maxRecDepth 100000 in
theorem table_eq (hn : 2 ≤ n) : CC n 168 [] h = some (.ret (.agg (tabC 256)), h) := by
  obtain ⟨m, rfl⟩ : ∃ m, n = m + 1 := ⟨n - 1, by omega⟩
  refine fun_pure F168 rfl rfl rfl rfl ?_
  conv => whnf
  refine loopI (by decide) rfl (α := Nat) (fun x => ⟨[(0, .ptr 0 0 0), (3, i64 x)], [.cells 0 (some 244) (tabC x) 0], []⟩) (fun x => x ≤ 256) (fun x => 256 - x) 0 ⟨⟨rfl, rfl⟩, by kernel_rfl, rfl⟩ (by simp) (by show 256 - 0 < KK; simp only [KK]; omega) ?_
  intro x hx
  conv => whnf
  refine brd (fun a => ?_) (fun a => ?_)
  · have hx' : x < 256 := by omega
    conv => whnf
    refine zI (wrap_u32n hx') ?_
    conv => whnf
    refine table_in (by omega) x hx' _ ⟨⟨rfl, rfl, rfl, rfl, rfl⟩, rfl, rfl⟩ fun L hL => ?_
    conv => whnf
    refine cutI (by decide) rfl (t := ⟨[(0, .ptr 0 0 0), (1, i64 x), (2, tabV x), (3, i64 x)], [.cells 0 (some 244) (tabC x) 0], []⟩) ⟨hL, rfl, rfl⟩ ?_
    conv => whnf
    refine ⟨by omega, by omega, ?_⟩
    conv => whnf
    refine stI (cs := tabC x) (by rfl) (by rfl) (by rfl) (by rw [tabC_len]; show Nat.ble (0 + (x : Int).toNat * 1 + 1) 256 = true; exact Nat.ble_eq_true_of_le (by omega)) (by rfl) ?_
    refine cutI (by decide) rfl (t := ⟨[(0, .ptr 0 0 0), (3, i64 x)], [.cells 0 (some 244) (tabC (x + 1)) 0], []⟩) ⟨⟨rfl, rfl⟩, ?_, rfl⟩ ?_
    · show [AB.cells 0 (some 244) (putAt (tabC x) (0 + (x : Int).toNat * 1) [tabV x]) 0] = _
      rw [show 0 + (x : Int).toNat * 1 = x by omega, tabC_put hx']
    · conv => whnf
      refine zI (z := ((x + 1 : Nat) : Int)) (by rw [wrap_i64 (by omega) (by omega)]; rfl) ?_
      exact nxI (x + 1) (by omega) (by omega) ⟨⟨rfl, rfl⟩, rfl, rfl⟩
  · have : x = 256 := by omega
    subst this
    refine cutI (by decide) rfl (t := ⟨[(0, .ptr 0 0 0)], [.cells 0 (some 244) (tabC 256) 0], []⟩) ⟨rfl, rfl, rfl⟩ ?_
    conv => whnf
    refine ldI (cs := tabC 256) (by rfl) ?_
    conv => whnf
    have hcs : List.take 256 (List.drop 0 (tabC 256)) = tabC 256 := by rw [List.drop_zero, List.take_of_length_le (by rw [tabC_len]; decide)]
    refine stI (cs := tabC 256) (xs := tabC 256) (by rfl) (by show AV.cells? (.agg (List.take 256 (List.drop 0 (tabC 256)))) = _; rw [hcs]; exact tabC_cells 256) (tabC_len 256) (by rw [tabC_len]; rfl) (by rfl) ?_
    refine ⟨rfl, [.agg (tabC 256)], ?_, ?_⟩
    · show (match loadA Tryz.prog [.cells 0 (some 244) (putAt (tabC 256) 0 (tabC 256)) 0] 244 (.ptr 0 0 0) with | some v => some [v] | none => none) = _
      rw [tabC_same, loadT (tabC_len 256)]
    · exact tabC_frz 256 62 _

/-- The checksum of bytes. -/
def ext (s : List UInt8) (c : UInt32) : UInt32 := s.foldl (fun c b => tab (c.toUInt8 ^^^ b) ^^^ (c >>> 8)) c
def crc (s : List UInt8) : UInt32 := ~~~(ext s (~~~0))

theorem tab_at (b : UInt8) : (tabC 256)[b.toNat]? = some (u32 (tab b)) := by
  have h := b.toNat_lt
  unfold tabC
  rw [List.getElem?_map, List.getElem?_range (by omega)]
  simp only [Option.map_some]
  rw [if_pos (by omega)]
  have : UInt32.ofNat b.toNat = b.toUInt32 := by
    apply UInt32.toNat_inj.1
    rw [UInt32.toNat_ofNat', UInt8.toNat_toUInt32]
    omega
  unfold tabV bits bits bits bits bits bits bits bits bits tab
  rw [this]

theorem ext_loop {m : Nat} (s : Str) (hs : s.length < 1099511627776) (c0 : UInt32) {Q : Ex → LS → Prop} {st : LS} (h0 : LS.sub ⟨[(1, .str s), (5, .ptr 0 0 0), (6, u32 c0), (12, i64 s.length), (13, i64 0)], [.cells 0 (some 244) (tabC 256) 0], []⟩ st)
    (hE : ∀ L hp, lk L 6 = some (u32 (ext s c0)) → Q (.exit 0) ⟨L, hp, []⟩) : OkR Tryz.prog (CC m) cfgN.inl KK 30 5 (.loop (c149.lp 0)) st Q := by
  refine loopI (by decide) rfl (α := Nat × UInt32) (fun x => ⟨[(1, .str s), (5, .ptr 0 0 0), (6, u32 x.2), (12, i64 s.length), (13, i64 x.1)], [.cells 0 (some 244) (tabC 256) 0], []⟩) (fun x => x.1 ≤ s.length ∧ x.2 = ext (s.take x.1) c0) (fun x => s.length - x.1) (0, c0) h0 (by simp [ext]) (by show s.length - 0 < KK; simp only [KK]; omega) ?_
  rintro ⟨x, c⟩ ⟨hx, hc⟩
  simp only at hx hc
  conv => whnf
  refine brd (fun a => ?_) (fun a => ?_)
  · simp only at a
    have hx' : x < s.length := by omega
    have hst : tab (c.toUInt8 ^^^ s[x]) ^^^ (c >>> 8) = ext (s.take (x + 1)) c0 := by
      subst hc
      unfold ext
      rw [List.take_succ_eq_append_getElem hx', List.foldl_append]; rfl
    conv => whnf
    refine zI (low_u8 c) ?_
    conv => whnf
    refine ⟨by omega, s[x], by rw [Int.toNat_natCast]; exact List.getElem?_eq_getElem hx', ?_⟩
    conv => whnf
    refine zI (xor_u8 c.toUInt8 s[x]) ?_
    conv => whnf
    have hlt := (c.toUInt8 ^^^ s[x]).toNat_lt
    refine ⟨by omega, by omega, ?_⟩
    conv => whnf
    refine ldI (cs := tabC 256) (by rfl) ?_
    refine wpartI (v := u32 (tab (c.toUInt8 ^^^ s[x]))) (by show (tabC 256)[0 + (((c.toUInt8 ^^^ s[x]).toNat : Nat) : Int).toNat * 1]? = _; rw [Int.toNat_natCast, Nat.zero_add, Nat.mul_one]; exact tab_at _) ?_
    conv => whnf
    refine ⟨by decide, _, shr_u32 c 8 (by decide), ?_⟩
    conv => whnf
    refine zI (xor_u32 _ _) ?_
    conv => whnf
    refine zI (z := ((x + 1 : Nat) : Int)) (by rw [wrap_i64 (by omega) (by omega)]; rfl) ?_
    exact nxI (x + 1, tab (c.toUInt8 ^^^ s[x]) ^^^ (c >>> 8)) ⟨hx', hst⟩ (by simp only; omega) ⟨⟨rfl, rfl, rfl, rfl, rfl⟩, rfl, rfl⟩
  · simp only at a
    have : x = s.length := by omega
    subst this
    rw [List.take_length] at hc
    subst hc
    conv => whnf
    exact hE _ _ rfl

set_option maxRecDepth 100000 in
theorem extend_eq (hn : 3 ≤ n) (s : Str) (hs : s.length < 1099511627776) (c : UInt32) : CC n 149 [u32 c, .str s] h = some (.ret (u32 (~~~(ext s (~~~c)))), h) := by
  obtain ⟨m, rfl⟩ : ∃ m, n = m + 1 := ⟨n - 1, by omega⟩
  refine fun_pure F149 rfl rfl rfl rfl ?_
  conv => whnf
  refine clI (table_eq (by omega)) ?_
  conv => whnf
  refine stI (xs := tabC 256) (by rfl) (tabC_cells 256) (tabC_len 256) (by rw [tabC_len]; rfl) (by rfl) ?_
  conv => whnf
  refine zI (not_u32 c) ?_
  conv => whnf
  refine ext_loop s hs (~~~c) ⟨⟨rfl, rfl, rfl, rfl, rfl⟩, ?_, rfl⟩ fun L hp hL => ?_
  · exact congrArg (fun cs => [AB.cells 0 (some 244) cs 0]) (tabC_over (by rfl) 256)
  · refine cutI (by decide) rfl (t := ⟨[(6, u32 (ext s (~~~c)))], hp, []⟩) ⟨hL, rfl, rfl⟩ ?_
    conv => whnf
    refine zI (not_u32 _) ?_
    conv => whnf
    exact retP rfl (frz_int rfl)

theorem crc_eq (hn : 4 ≤ n) (s : Str) (hs : s.length < 1099511627776) : CC n 112 [.str s] h = some (.ret (u32 (crc s)), h) := by
  obtain ⟨m, rfl⟩ : ∃ m, n = m + 1 := ⟨n - 1, by omega⟩
  refine fun_pure F112 rfl rfl rfl rfl ?_
  conv => whnf
  refine clI (extend_eq (by omega) s hs 0) ?_
  conv => whnf
  exact retP rfl (frz_int rfl)
end
end Go.Proofs
/- What is known of the checksum. -/
set_option linter.unusedVariables false
set_option linter.unusedSimpArgs false
namespace Go.Proofs
open Go Go.Abs
def bitN (c : Nat) : Nat := Nat.xor (Nat.shiftRight c 1) (Nat.mul (Nat.land c 1) 3988292384)
def byteN (c : Nat) : Nat := bitN (bitN (bitN (bitN (bitN (bitN (bitN (bitN c)))))))
def extN : List UInt8 → Nat → Nat
  | [], c => c
  | b :: r, c => extN r (Nat.xor (byteN (Nat.xor (Nat.mod c 256) b.toNat)) (Nat.shiftRight c 8))
def crcN (s : List UInt8) : Nat := Nat.xor (extN s 4294967295) 4294967295
theorem bitN_eq (c : UInt32) : bitN c.toNat = (bit c).toNat := by
  have h1 : (c &&& 1).toNat = c.toNat % 2 := by
    rw [UInt32.toNat_and]; exact Nat.and_one_is_mod _
  have h2 : (c >>> 1).toNat = c.toNat >>> 1 := by
    rw [UInt32.toNat_shiftRight]; rfl
  have h3 : Nat.land c.toNat 1 = c.toNat % 2 := Nat.and_one_is_mod _
  unfold bitN bit
  rw [h3]
  have h4 := Nat.mod_two_eq_zero_or_one c.toNat
  by_cases h : c &&& 1 = 1
  · rw [if_pos h, UInt32.toNat_xor, h2]
    have : c.toNat % 2 = 1 := by rw [← h1, h]; rfl
    rw [this]; rfl
  · rw [if_neg h, h2]
    have : c.toNat % 2 = 0 := by
      rcases h4 with h4 | h4
      · exact h4
      · exact (h (UInt32.toNat_inj.1 (by rw [h1, h4]; rfl))).elim
    rw [this]
    exact Nat.xor_zero _
theorem byteN_eq (i : UInt8) : byteN i.toNat = (tab i).toNat := by
  unfold byteN tab
  have : i.toNat = i.toUInt32.toNat := by simp
  rw [this, bitN_eq, bitN_eq, bitN_eq, bitN_eq, bitN_eq, bitN_eq, bitN_eq, bitN_eq]
theorem extN_eq : ∀ (s : List UInt8) (c : UInt32), extN s c.toNat = (ext s c).toNat
  | [], c => rfl
  | b :: r, c => by
    have h1 : Nat.xor (Nat.mod c.toNat 256) b.toNat = (c.toUInt8 ^^^ b).toNat := by
      rw [UInt8.toNat_xor, UInt32.toNat_toUInt8]; rfl
    have h2 : Nat.shiftRight c.toNat 8 = (c >>> 8).toNat := by rw [UInt32.toNat_shiftRight]; rfl
    show extN r (Nat.xor (byteN (Nat.xor (Nat.mod c.toNat 256) b.toNat)) (Nat.shiftRight c.toNat 8)) = _
    rw [h1, byteN_eq, h2]
    have h3 : Nat.xor (tab (c.toUInt8 ^^^ b)).toNat (c >>> 8).toNat = (tab (c.toUInt8 ^^^ b) ^^^ (c >>> 8)).toNat := by rw [UInt32.toNat_xor]; rfl
    rw [h3, extN_eq r]
    rfl
theorem crcN_eq (s : List UInt8) : crcN s = (crc s).toNat := by
  unfold crcN crc
  have h := extN_eq s (~~~0)
  rw [show (~~~(0 : UInt32)).toNat = 4294967295 by decide] at h
  rw [h]
  have : ~~~(ext s (~~~0)) = ext s (~~~0) ^^^ 4294967295 := by
    rw [show (4294967295 : UInt32) = -1 by decide, UInt32.xor_neg_one]
  rw [this, UInt32.toNat_xor]; rfl

/-- What is known of the checksum. -/
def sum1 : FuncId → List AV → Option AV := fun f args => cond (Nat.beq f 112) (match args with
  | [.str s] => cond (Nat.blt s.length 1099511627776) (some (.int .u32 (Int.ofNat (crcN s)))) none
  | _ => none) none
def cfg1 : Cfg := ⟨inl0, sum1⟩
theorem sumN_ok : SumOk Tryz.prog cfgN := fun f args v h => by cases h
theorem crc_pure (s : Str) (hs : s.length < 1099511627776) : PureCalls Tryz.prog 112 [.str s] (.ret (u32 (crc s))) := pure_of_CN (c := cfgN) (n := 9) sumN_ok rfl (crc_eq (by omega) s hs)
theorem sum1_ok : SumOk Tryz.prog cfg1 := fun f args v h => by
  change sum1 f args = some v at h
  unfold sum1 at h
  cases hf : Nat.beq f 112 with
  | false => rw [hf] at h; cases h
  | true =>
    rw [hf] at h
    have : f = 112 := Nat.eq_of_beq_eq_true hf
    subst this
    simp only [cond] at h
    split at h
    · rename_i s
      cases hl : Nat.blt s.length 1099511627776 with
      | false => rw [hl] at h; cases h
      | true =>
        rw [hl] at h
        cases h
        have hl' : s.length < 1099511627776 := by rwa [Nat.blt_eq] at hl
        have := crc_pure s hl'
        rw [crcN_eq]
        exact this
    · cases h

end Go.Proofs
/- Calls, with what is known of the examples and of the checksum. -/
set_option linter.unusedVariables false
set_option linter.unusedSimpArgs false
namespace Go.Proofs
open Go Go.Abs
/-- The chapter's examples: shown by themselves. -/
def sum0 : FuncId → List AV → Option AV := fun f args => cond (Nat.beq f 9) (match args with | [] => some (.bool true) | _ => none) (sum1 f args)
def cfg0 : Cfg := ⟨inl0, sum0⟩
noncomputable abbrev C (n : Nat) : CallF := CN Tryz.prog cfg0 n
theorem crcC_eq {n : Nat} {h : AHeap} (hn : 1 ≤ n) (s : Str) (hs : s.length < 1099511627776) : C n 112 [.str s] h = some (.ret (u32 (crc s)), h) := by
  obtain ⟨m, rfl⟩ : ∃ m, n = m + 1 := ⟨n - 1, by omega⟩
  refine fun_sum rfl (of_decide_eq_true (by kernel_rfl)) ?_ rfl
  show cond (Nat.blt s.length 1099511627776) (some (AV.int .u32 (Int.ofNat (crcN s)))) none = some (u32 (crc s))
  rw [show Nat.blt s.length 1099511627776 = true by rw [Nat.blt_eq]; exact hs, crcN_eq]
  rfl
theorem sane_eq {n : Nat} (hn : 1 ≤ n) (h : AHeap) : C n 9 [] h = some (.ret (.bool true), h) := by
  obtain ⟨m, rfl⟩ : ∃ m, n = m + 1 := ⟨n - 1, by omega⟩
  exact fun_sum rfl (of_decide_eq_true (by kernel_rfl)) rfl rfl
end Go.Proofs
/- Contracts of functions of a page: forms and weights of entries. -/
set_option linter.unusedVariables false
set_option linter.unusedSimpArgs false
namespace Go.Proofs
open Go Go.Abs

structure Dg where
  (b0 b1 b2 b3 b4 b5 b6 b7 b8 b9 b10 b11 b12 b13 b14 b15 : UInt8)
  deriving DecidableEq
structure Entry where
  key : Str
  val : Str
  over : Int
  len : Int
  child : Int
  count : Int
  sum : Dg
  deriving DecidableEq

def Dg.cells (d : Dg) : List AV := [u8 d.b0, u8 d.b1, u8 d.b2, u8 d.b3, u8 d.b4, u8 d.b5, u8 d.b6, u8 d.b7, u8 d.b8, u8 d.b9, u8 d.b10, u8 d.b11, u8 d.b12, u8 d.b13, u8 d.b14, u8 d.b15]
def Entry.cells (e : Entry) : List AV := .str e.key :: .str e.val :: i64 e.over :: i64 e.len :: i64 e.child :: i64 e.count :: e.sum.cells
def Entry.av (e : Entry) : AV := .agg e.cells
def Dg.zero : Dg := ⟨0, 0, 0, 0, 0, 0, 0, 0, 0, 0, 0, 0, 0, 0, 0, 0⟩


def within (x lo hi : Int) : Bool := decide (lo ≤ x) && decide (x ≤ hi)
def numbered (n : Int) : Bool := within n 2 4095

section
variable {n : Nat} {h : AHeap}

theorem within_eq (hn : 1 ≤ n) (x lo hi : Int) : C n 71 [i64 x, i64 lo, i64 hi] h = some (.ret (.bool (within x lo hi)), h) := by
  obtain ⟨m, rfl⟩ : ∃ m, n = m + 1 := ⟨n - 1, by omega⟩
  refine fun_pure F71 rfl rfl rfl rfl ?_
  refine br (fun a => ?_) (fun a => ?_)
  · exact ⟨rfl, _, rfl, frz_bool (by simp [within, a])⟩
  · exact ⟨rfl, _, rfl, frz_bool (by simp [within, a])⟩

theorem numbered_eq (hn : 2 ≤ n) (x : Int) : C n 70 [i64 x] h = some (.ret (.bool (numbered x)), h) := by
  obtain ⟨m, rfl⟩ : ∃ m, n = m + 1 := ⟨n - 1, by omega⟩
  refine fun_pure F70 rfl rfl rfl rfl ?_
  refine clI (within_eq (by omega) _ _ _) ?_
  exact ⟨rfl, _, rfl, frz_bool rfl⟩

theorem isNaN_eq (hn : 1 ≤ n) (x : Str) : C n 154 [.str x] h = some (.ret (.bool false), h) := by
  obtain ⟨m, rfl⟩ : ∃ m, n = m + 1 := ⟨n - 1, by omega⟩
  refine fun_pure F154 rfl rfl rfl rfl ?_
  exact ⟨rfl, _, rfl, frz_bool (by simp)⟩

def cmpS (x y : Str) : Int := if Op.bytesLess x y then -1 else if Op.bytesLess y x then 1 else 0

theorem less_irrefl : ∀ (x : Str), Op.bytesLess x x = false
  | [] => rfl
  | a :: x => by simp [Op.bytesLess, less_irrefl x]
theorem less_asymm : ∀ (x y : Str), Op.bytesLess x y = true → Op.bytesLess y x = false
  | [], [], h => by simp [Op.bytesLess] at h
  | [], b :: y, _ => by simp [Op.bytesLess]
  | a :: x, [], h => by simp [Op.bytesLess] at h
  | a :: x, b :: y, h => by
    simp [Op.bytesLess] at h ⊢
    rcases h with h | ⟨h1, h2⟩
    · exact ⟨UInt8.le_of_lt h, fun e => by subst e; simp at h⟩
    · subst h1; exact ⟨UInt8.le_refl _, fun _ => less_asymm x y h2⟩
theorem less_total : ∀ (x y : Str), Op.bytesLess x y = false → Op.bytesLess y x = false → x = y
  | [], [], _, _ => rfl
  | [], b :: y, h, _ => by simp [Op.bytesLess] at h
  | a :: x, [], _, h => by simp [Op.bytesLess] at h
  | a :: x, b :: y, h1, h2 => by
    simp [Op.bytesLess] at h1 h2
    have e : a = b := UInt8.le_antisymm h2.1 h1.1
    subst e
    rw [less_total x y (h1.2 rfl) (h2.2 rfl)]
theorem bytesLess_tri (x y : Str) : (Op.bytesLess x y || x == y) = !Op.bytesLess y x := by
  cases h : Op.bytesLess x y with
  | true => simp [less_asymm x y h]
  | false =>
    cases h2 : Op.bytesLess y x with
    | true =>
      simp
      intro e; subst e; rw [less_irrefl] at h2; cases h2
    | false => simp [less_total x y h h2]

theorem cmpCompare_eq (hn : 2 ≤ n) (x y : Str) : C n 124 [.str x, .str y] h = some (.ret (i64 (cmpS x y)), h) := by
  obtain ⟨m, rfl⟩ : ∃ m, n = m + 1 := ⟨n - 1, by omega⟩
  refine fun_pure F124 rfl rfl rfl rfl ?_
  refine clI (isNaN_eq (by omega) _) ?_
  refine clI (isNaN_eq (by omega) _) ?_
  refine br (fun a => ?_) (fun a => ?_)
  · exact ⟨rfl, _, rfl, frz_int (by simp [cmpS, a])⟩
  · refine br (fun b => ?_) (fun b => ?_)
    · rw [bytesLess_tri] at b
      exact ⟨rfl, _, rfl, frz_int (by simp at b; simp [cmpS, a, b])⟩
    · rw [bytesLess_tri] at b
      exact ⟨rfl, _, rfl, frz_int (by simp at b; simp [cmpS, a, b])⟩

theorem compare_eq (hn : 3 ≤ n) (x y : Str) : C n 83 [.str x, .str y] h = some (.ret (i64 (cmpS x y)), h) := by
  obtain ⟨m, rfl⟩ : ∃ m, n = m + 1 := ⟨n - 1, by omega⟩
  refine fun_pure F83 rfl rfl rfl rfl ?_
  refine clI (cmpCompare_eq (by omega) _ _) ?_
  exact ⟨rfl, _, rfl, frz_int rfl⟩

def branches (e : Entry) : Bool := decide (e.key.length ≤ 48) && e.val == [] && e.over == 0 && e.len == 0 && numbered e.child && within e.count 1 2147483647

theorem branches_eq (hn : 3 ≤ n) (e : Entry) : C n 126 [e.av] h = some (.ret (.bool (branches e)), h) := by
  obtain ⟨m, rfl⟩ : ∃ m, n = m + 1 := ⟨n - 1, by omega⟩
  refine fun_pure F126 rfl rfl rfl rfl ?_
  repeat' (conv => whnf); first
    | refine br (fun _ => ?_) (fun _ => ?_)
    | refine ldI rfl ?_
    | refine clI (numbered_eq (by omega) _) ?_
    | refine clI (within_eq (by omega) _ _ _) ?_
    | refine retP rfl (frz_bool ?_)
  all_goals simp_all [branches]
  all_goals omega

def isShort (e : Entry) : Bool := e.over == 0 && e.len == 0 && e.child == 0 && e.count == 0 && e.sum == Dg.zero && decide (e.val.length ≤ 64)
def isLong (e : Entry) : Bool := e.child == 0 && e.count == 0 && numbered e.over && within e.len 65 4000
def isNest (e : Entry) : Bool := e.over == 0 && e.len == 0 && numbered e.child && within e.count 1 2147483647
def formOf (e : Entry) : Int := if within e.key.length 1 48 = false then 0 else if isShort e then 1 else if e.val ≠ [] then 0 else if isLong e then 2 else if isNest e then 3 else 0

def Dg.list (d : Dg) : List UInt8 := [d.b0, d.b1, d.b2, d.b3, d.b4, d.b5, d.b6, d.b7, d.b8, d.b9, d.b10, d.b11, d.b12, d.b13, d.b14, d.b15]
theorem Dg.list_inj {a b : Dg} : a.list = b.list ↔ a = b := by
  constructor
  · intro h
    obtain ⟨a0, a1, a2, a3, a4, a5, a6, a7, a8, a9, a10, a11, a12, a13, a14, a15⟩ := a
    obtain ⟨c0, c1, c2, c3, c4, c5, c6, c7, c8, c9, c10, c11, c12, c13, c14, c15⟩ := b
    simpa [Dg.list] using h
  · intro h; rw [h]
theorem eq_u8 (x y : UInt8) : ((((x.toNat : Nat) : Int) == y.toNat) : Bool) = decide (x = y) := by
  by_cases h : x = y
  · subst h; simp
  · simp [h]; intro h'; exact h (UInt8.toNat_inj.1 (by omega))
theorem allEq_u8 {f : Nat → AV → AV → Option Bool} {t : Nat} (hf : ∀ x y, f t (u8 x) (u8 y) = some (decide (x = y))) : ∀ (xs ys : List UInt8), xs.length = ys.length → allEq f (zipE t (xs.map u8) (ys.map u8)) = some (decide (xs = ys))
  | [], [], _ => rfl
  | [], y :: ys, h => by simp at h
  | x :: xs, [], h => by simp at h
  | x :: xs, y :: ys, h => by
    have ih := allEq_u8 hf xs ys (by simpa using h)
    show (match f t (u8 x) (u8 y) with | some true => allEq f (zipE t (xs.map u8) (ys.map u8)) | some false => some false | none => none) = _
    rw [hf, ih]
    by_cases h : x = y <;> simp [h]
theorem eq_dg (a b : Dg) : eqA Tryz.prog 20 54 (.agg a.cells) (.agg b.cells) = some (decide (a = b)) := by
  have e1 : eqA Tryz.prog 20 54 (.agg a.cells) (.agg b.cells) = allEq (eqA Tryz.prog 19) (zipE 5 (a.list.map u8) (b.list.map u8)) := by kernel_rfl
  have e2 : ∀ (x y : UInt8), eqA Tryz.prog 19 5 (.int .u8 x.toNat) (.int .u8 y.toNat) = some (((x.toNat : Nat) : Int) == y.toNat) := fun x y => by kernel_rfl
  rw [e1, allEq_u8 (fun x y => by rw [e2, eq_u8]) a.list b.list rfl]
  simp only [Dg.list_inj]

theorem formOf_eq (hn : 3 ≤ n) (e : Entry) : C n 125 [e.av] h = some (.ret (i64 (formOf e)), h) := by
  obtain ⟨m, rfl⟩ : ∃ m, n = m + 1 := ⟨n - 1, by omega⟩
  refine fun_pure F125 rfl rfl rfl rfl ?_
  repeat' (conv => whnf); first
    | refine br (fun _ => ?_) (fun _ => ?_)
    | refine ldI rfl ?_
    | refine clI (numbered_eq (by omega) _) ?_
    | refine clI (within_eq (by omega) _ _ _) ?_
    | refine eqI (eq_dg e.sum Dg.zero) ?_
    | refine retP rfl (frz_int ?_)
  all_goals simp_all [formOf, isShort, isLong, isNest]
  all_goals omega


def weighW (e : Entry) (lv : Int) : Int := if 0 < lv then e.key.length + 27 else if formOf e = 1 then e.key.length + e.val.length + 5 else if formOf e = 2 then e.key.length + 27 else if formOf e = 3 then e.key.length + 29 else 0
def weighB (e : Entry) (lv : Int) : Bool := if 0 < lv then branches e else formOf e == 1 || formOf e == 2 || formOf e == 3
/-- Strings are short enough for a machine. -/
def Entry.Ok (e : Entry) : Prop := e.key.length < 1099511627776 ∧ e.val.length < 1099511627776

theorem weigh_eq (hn : 4 ≤ n) (e : Entry) (he : e.Ok) (lv : Int) : C n 105 [e.av, i64 lv] h = some (.ret (.tup [i64 (weighW e lv), .bool (weighB e lv)]), h) := by
  obtain ⟨m, rfl⟩ : ∃ m, n = m + 1 := ⟨n - 1, by omega⟩
  obtain ⟨h1, h2⟩ := he
  refine fun_pure F105 rfl rfl rfl rfl ?_
  repeat' (conv => whnf); first
    | refine br (fun _ => ?_) (fun _ => ?_)
    | refine ldI rfl ?_
    | refine clI (branches_eq (by omega) e) ?_
    | refine clI (formOf_eq (by omega) e) ?_
    | refine zI (wrap_i64 (by omega) (by omega)) ?_
    | refine retP rfl (frz_ib ?_ ?_)
  all_goals simp_all [weighW, weighB]
  all_goals (intros; omega)

def wsum (lv : Int) : List Entry → Option Int
  | [] => some 0
  | e :: r => if weighB e lv then (wsum lv r).map (weighW e lv + ·) else none
def weight (l : List Entry) (lv : Int) : Option Int := if within lv 0 20 then (wsum lv l).map (6 + ·) else none
def weightR (l : List Entry) (lv : Int) : AV := match weight l lv with
  | some n => .tup [i64 n, i64 0]
  | none => .tup [i64 0, i64 2]

theorem wsum_append (lv : Int) : ∀ (a b : List Entry), wsum lv (a ++ b) = match wsum lv a, wsum lv b with | some x, some y => some (x + y) | _, _ => none
  | [], b => by cases h : wsum lv b <;> simp [wsum, h]
  | e :: a, b => by
    simp only [List.cons_append, wsum, wsum_append lv a b]
    by_cases hw : weighB e lv
    · simp only [hw, if_true]
      cases wsum lv a <;> cases wsum lv b <;> simp
      omega
    · simp [hw]

theorem within_iff {x lo hi : Int} : within x lo hi = true ↔ lo ≤ x ∧ x ≤ hi := by simp [within]
theorem form_key {e : Entry} (hf : formOf e ≠ 0) : 1 ≤ e.key.length ∧ e.key.length ≤ 48 := by
  by_cases h : within e.key.length 1 48
  · rw [within_iff] at h; omega
  · simp [formOf, h] at hf
theorem form_short {e : Entry} (hf : formOf e = 1) : e.val.length ≤ 64 := by
  by_cases hs : isShort e
  · simp [isShort] at hs; exact hs.2
  · simp only [formOf, hs] at hf
    split at hf
    · simp at hf
    · simp at hf
      repeat' (first | split at hf)
      all_goals simp at hf
theorem weigh_bound {e : Entry} {lv : Int} (hb : weighB e lv = true) : 5 ≤ weighW e lv ∧ weighW e lv ≤ 117 := by
  unfold weighB at hb
  unfold weighW
  split
  · rename_i hl
    rw [if_pos hl] at hb
    simp [branches] at hb
    omega
  · rename_i hl
    rw [if_neg hl] at hb
    have hk := @form_key e (by intro e0; simp [e0] at hb)
    split
    · rename_i h1; have := form_short h1; omega
    · split
      · omega
      · split
        · omega
        · exfalso; simp_all
theorem wsum_take {lv : Int} {l : List Entry} {j : Nat} (hj : j < l.length) {s : Int} (hs : wsum lv (l.take j) = some s) : wsum lv (l.take (j + 1)) = if weighB l[j] lv then some (s + weighW l[j] lv) else none := by
  rw [List.take_succ_eq_append_getElem hj, wsum_append, hs]
  by_cases hw : weighB l[j] lv <;> simp [wsum, hw]
theorem wsum_none {lv : Int} {l : List Entry} {j : Nat} (hs : wsum lv (l.take j) = none) : wsum lv l = none := by
  have := wsum_append lv (l.take j) (l.drop j)
  rw [List.take_append_drop, hs] at this
  exact this

theorem entry_cells (e : Entry) : e.av.cells? = some e.cells := rfl

theorem pure_map {α : Type} {f : α → AV} (hf : ∀ a, (f a).pureB = true) : ∀ (l : List α), pureBs (l.map f) = true
  | [] => rfl
  | a :: r => by simp [pureBs, hf a, pure_map hf r]
theorem pure_lst {α : Type} {f : α → AV} (hf : ∀ a, (f a).pureB = true) (l : List α) {sz : Nat} {c : Bool} {r : List AV} (hr : pureBs r = true) : pureBs (.lst sz (l.map f) c :: r) = true := by
  simp [pureBs, AV.pureB, pure_map hf l, hr]
theorem entry_pure (e : Entry) : e.av.pureB = true := rfl

end
end Go.Proofs
/- Contracts: a builder of strings, and numbers and digests that are written into it. -/
set_option linter.unusedVariables false
set_option linter.unusedSimpArgs false
namespace Go.Proofs
open Go Go.Abs

/-- What is not in F stays. -/
def Keep (hp hp' : AHeap) (F : List Nat) : Prop := hp.length ≤ hp'.length ∧ ∀ x, x < hp.length → x ∉ F → hp'[x]? = hp[x]?
theorem Keep.refl (hp : AHeap) (F : List Nat) : Keep hp hp F := ⟨Nat.le_refl _, fun _ _ _ => rfl⟩
theorem Keep.trans {a b c : AHeap} {F G : List Nat} (h1 : Keep a b F) (h2 : Keep b c G) (hs : ∀ x ∈ G, x ∈ F ∨ a.length ≤ x) : Keep a c F :=
  ⟨Nat.le_trans h1.1 h2.1, fun x hx hn => by
    rw [h2.2 x (Nat.lt_of_lt_of_le hx h1.1) fun hg => ?_, h1.2 x hx hn]
    rcases hs x hg with h | h
    · exact hn h
    · omega⟩
theorem Keep.mono {a b : AHeap} {F G : List Nat} (h : Keep a b F) (hs : ∀ x ∈ F, x ∈ G) : Keep a b G := ⟨h.1, fun x hx hn => h.2 x hx fun hf => hn (hs x hf)⟩
theorem Keep.app (h : AHeap) (x : AB) (F : List Nat) : Keep h (h ++ [x]) F := ⟨by simp, fun y hy _ => List.getElem?_append_left hy⟩
theorem Keep.set {h : AHeap} {b : Nat} {x : AB} {F : List Nat} (hb : b ∈ F) : Keep h (h.set b x) F := ⟨by simp, fun y hy hn => by rw [List.getElem?_set_ne]; rintro rfl; exact hn hb⟩
theorem Keep.set' {h h' : AHeap} {b : Nat} {x : AB} {F : List Nat} (k : Keep h h' F) (hb : b ∈ F ∨ h.length ≤ b) : Keep h (h'.set b x) F := ⟨by simp [k.1], fun y hy hn => by
  rw [List.getElem?_set_ne, k.2 y hy hn]
  rintro rfl
  rcases hb with hb | hb
  · exact hn hb
  · omega⟩
theorem lt_of_get {h : AHeap} {b : Nat} {x : AB} (hb : h[b]? = some x) : b < h.length := by
  rcases Nat.lt_or_ge b h.length with q | q
  · exact q
  · rw [List.getElem?_eq_none q] at hb; cases hb

def Buf (hp : AHeap) (b : Nat) (buf : AV) (bs : Str) (F : List Nat) : Prop :=
  (buf = .lst 0 [] true ∧ bs = [] ∧ F = [b]) ∨ (∃ bb ver frz, buf = .sl 1 bb ver 0 bs.length ∧ hp[bb]? = some (.cells ver (some 5) (bs.map u8) frz) ∧ b ≠ bb ∧ frz ≤ bs.length ∧ F = [b, bb])
abbrev tBld : Nat := 115
abbrev tWri : Nat := 117
/-- A builder in memory: its bytes, the blocks that are its own. -/
def BW (hp : AHeap) (b : Nat) (bs : Str) (F : List Nat) : Prop :=
  ∃ t a buf, hp[b]? = some (.cells 0 (some t) [a, buf] 0) ∧ (a = .nilp ∨ a = .ptr b 0 0) ∧ (t = tBld ∨ t = tWri) ∧ Buf hp b buf bs F
def Wrote (hp hp' : AHeap) (b : Nat) (F F' : List Nat) (bs : Str) : Prop := BW hp' b bs F' ∧ Keep hp hp' F ∧ ∀ x ∈ F', x ∈ F ∨ hp.length ≤ x
theorem Wrote.trans {h0 h1 h2 : AHeap} {b : Nat} {F F1 F2 : List Nat} {s1 s2 : Str} (w1 : Wrote h0 h1 b F F1 s1) (w2 : Wrote h1 h2 b F1 F2 s2) : Wrote h0 h2 b F F2 s2 :=
  ⟨w2.1, w1.2.1.trans w2.2.1 w1.2.2, fun x hx => by
    rcases w2.2.2 x hx with h | h
    · exact w1.2.2 x h
    · exact .inr (Nat.le_trans w1.2.1.1 h)⟩
theorem Wrote.refl {h : AHeap} {b : Nat} {F : List Nat} {s : Str} (w : BW h b s F) : Wrote h h b F F s := ⟨w, Keep.refl _ _, fun x hx => .inl hx⟩
theorem Buf.lt {hp : AHeap} {b : Nat} {buf : AV} {bs : Str} {F : List Nat} (h : Buf hp b buf bs F) : ∀ x ∈ F, x = b ∨ x < hp.length := by
  intro x hx
  rcases h with ⟨_, _, rfl⟩ | ⟨bb, ver, frz, _, h2, _, _, rfl⟩
  · simp at hx; exact .inl hx
  · simp at hx
    rcases hx with rfl | rfl
    · exact .inl rfl
    · exact .inr (lt_of_get h2)
theorem BW.lt {hp : AHeap} {b : Nat} {bs : Str} {F : List Nat} (h : BW hp b bs F) : ∀ x ∈ F, x < hp.length := by
  obtain ⟨t, a, buf, h1, _, _, h4⟩ := h
  intro x hx
  rcases h4.lt x hx with rfl | h
  · exact lt_of_get h1
  · exact h
theorem Buf.mem {hp : AHeap} {b : Nat} {buf : AV} {bs : Str} {F : List Nat} (h : Buf hp b buf bs F) : b ∈ F := by
  rcases h with ⟨_, _, rfl⟩ | ⟨bb, ver, frz, _, h2, _, _, rfl⟩ <;> simp
theorem BW.mem {hp : AHeap} {b : Nat} {bs : Str} {F : List Nat} (h : BW hp b bs F) : b ∈ F := by
  obtain ⟨t, a, buf, h1, _, _, h4⟩ := h
  exact h4.mem
/-- A builder stays where its blocks stay. -/
theorem BW.stays {hp hp' : AHeap} {b : Nat} {bs : Str} {F G : List Nat} (h : BW hp b bs F) (k : Keep hp hp' G) (hd : ∀ x ∈ F, x ∉ G) : BW hp' b bs F := by
  have hl := h.lt
  obtain ⟨t, a, buf, h1, h2, h3, h4⟩ := h
  refine ⟨t, a, buf, ?_, h2, h3, ?_⟩
  · rw [k.2 b (lt_of_get h1) (hd b h4.mem)]; exact h1
  · rcases h4 with h4 | ⟨bb, ver, frz, g1, g2, g3, g4, rfl⟩
    · exact .inl h4
    · refine .inr ⟨bb, ver, frz, g1, ?_, g3, g4, rfl⟩
      rw [k.2 bb (hl bb (by simp)) (hd bb (by simp))]; exact g2

theorem u8_scal (s : Str) : ((s.map u8).all AV.scal) = true := by
  rw [List.all_eq_true]
  intro x hx
  obtain ⟨b, _, rfl⟩ := List.mem_map.1 hx
  rfl
theorem toBytes_map : ∀ (s : Str), toBytes (s.map u8) = some s
  | [] => rfl
  | b :: r => by
    show (toBytes (r.map u8)).map (UInt8.ofNat (b.toNat : Int).toNat :: ·) = _
    rw [toBytes_map r]; simp
theorem bytesB_map (s : Str) : ((s.map u8).all AV.byteB) = true := by
  rw [List.all_eq_true]
  intro x hx
  obtain ⟨b, _, rfl⟩ := List.mem_map.1 hx
  have := b.toNat_lt
  show (decide (0 ≤ (b.toNat : Int)) && decide ((b.toNat : Int) < 256)) = true
  simp; omega
theorem first_str (h : AHeap) (s : Str) : firstA h 1 s.length (.str s) = some (s.map u8) := by
  simp [firstA]
theorem flat_u8 : ∀ (s : Str), (((s.map u8).map AV.cells?).flatMap fun o => o.getD []) = s.map u8
  | [] => rfl
  | b :: r => by
    show [u8 b] ++ (((r.map u8).map AV.cells?).flatMap fun o => o.getD []) = _
    rw [flat_u8 r]; rfl
theorem first_lst (h : AHeap) (s : Str) (c : Bool) : firstA h 1 s.length (.lst 1 (s.map u8) c) = some (s.map u8) := by
  unfold firstA
  simp only
  rw [if_pos ⟨by simp, .inl trivial⟩]
  rw [show (s.map u8).take s.length = s.map u8 from List.take_of_length_le (by simp), flat_u8]
  rw [if_pos]
  rw [List.all_eq_true]
  intro x hx
  obtain ⟨y, hy, rfl⟩ := List.mem_map.1 hx
  obtain ⟨b, _, rfl⟩ := List.mem_map.1 hy
  rfl

/-- Bytes that are appended. -/
def Data (h : AHeap) (x : AV) (s : Str) : Prop := lenA x = some s.length ∧ firstA h 1 s.length x = some (s.map u8)
theorem buf_app {hp : AHeap} {b : Nat} {buf x : AV} {bs s : Str} {F : List Nat} (hB : Buf hp b buf bs F) (hx : Data hp x s) (hb : b < hp.length) (hl : bs.length + s.length ≤ 1073741824) :
    ∃ v oh, appR hp 5 1 buf x = some (v, oh) ∧ ∃ hp' F', hp' = oh.getD hp ∧ hp'[b]? = hp[b]? ∧ Buf hp' b v (bs ++ s) F' ∧ Keep hp hp' F ∧ (∀ x ∈ F', x ∈ F ∨ hp.length ≤ x) ∧ (∃ xs, v.cells? = some xs ∧ xs = [v]) := by
  obtain ⟨h1, h2⟩ := hx
  unfold appR
  rw [h1]
  simp only
  rw [h2]
  simp only [u8_scal, Bool.not_true, Bool.false_eq_true, if_false]
  rcases hB with ⟨rfl, rfl, rfl⟩ | ⟨bb, ver, frz, rfl, g1, g2, g3, rfl⟩
  · by_cases e : s.length = 0
    · have : s = [] := List.length_eq_zero_iff.1 e
      subst this
      simp only [List.length_nil, if_true]
      exact ⟨_, _, rfl, hp, [b], rfl, rfl, .inl ⟨rfl, rfl, rfl⟩, Keep.refl _ _, fun x hx => .inl hx, _, rfl, rfl⟩
    · simp only
      rw [if_neg e]
      have h3 : firstA hp 1 ([] : List AV).length (.lst 0 [] true) = some [] := rfl
      rw [h3]
      simp only [List.length_nil, Nat.zero_add]
      rw [if_pos ⟨by simpa using hl, rfl⟩]
      refine ⟨_, _, rfl, _, [b, hp.length], rfl, ?_, .inr ⟨hp.length, 0, 0, rfl, ?_, by omega, Nat.zero_le _, rfl⟩, Keep.app _ _ _, ?_, _, rfl, rfl⟩
      · simp only [Option.getD_some]; rw [List.getElem?_append_left hb]
      · simp
      · intro x hx; simp at hx; rcases hx with rfl | rfl <;> simp
  · simp only
    rw [g1]
    simp only
    rw [if_pos ⟨.inl trivial, trivial, trivial, trivial, by simp, u8_scal _, hl, by simpa using g3⟩]
    by_cases e : s.length = 0
    · have : s = [] := List.length_eq_zero_iff.1 e
      subst this
      rw [if_pos (show ([] : Str).length = 0 from rfl)]
      exact ⟨_, _, rfl, hp, [b, bb], rfl, rfl, .inr ⟨bb, ver, frz, by simp, by simpa using g1, g2, by simpa using g3, rfl⟩, Keep.refl _ _, fun x hx => .inl hx, _, rfl, rfl⟩
    · rw [if_neg e]
      refine ⟨_, _, rfl, _, [b, bb], rfl, ?_, .inr ⟨bb, ver + 1, frz, by simp, ?_, g2, by simp; omega, rfl⟩, Keep.set (by simp), fun x hx => .inl hx, _, rfl, rfl⟩
      · simp only [Option.getD_some]; rw [List.getElem?_set_ne (fun e => g2 e.symm)]
      · simp only [Option.getD_some, List.map_append]; rw [List.getElem?_set_self (lt_of_get g1)]

theorem eq_bld (b : Nat) : eqA Tryz.prog 20 113 (.ptr b 0 0) (.ptr b 0 0) = some true := by
  have h1 : Tryz.prog.underlying 113 = some (.pointer tBld) := by kernel_rfl
  have h2 : (ti Tryz.prog tBld).isSome = true := by kernel_rfl
  unfold eqA
  rw [h1]
  simp only
  rw [if_pos ⟨trivial, trivial, trivial, h2⟩]
theorem lies_bld : liesAt Tryz.prog Tryz.prog.depth tBld (2 / Tryz.prog.cellsOf tBld) 0 tBld 1 = true := by kernel_rfl
theorem lies_wri : liesAt Tryz.prog Tryz.prog.depth tWri (2 / Tryz.prog.cellsOf tWri) 0 tBld 1 = true := by kernel_rfl

section
variable {n : Nat}
theorem copyCheck_eq (hn : 1 ≤ n) {hp : AHeap} {b : Nat} {bs : Str} {F : List Nat} (w : BW hp b bs F) :
    ∃ hp' t buf, C n 108 [.ptr b 0 0] hp = some (.ret (.tup []), hp') ∧ hp'[b]? = some (.cells 0 (some t) [.ptr b 0 0, buf] 0) ∧ (t = tBld ∨ t = tWri) ∧ Buf hp' b buf bs F ∧ Keep hp hp' F := by
  obtain ⟨m, rfl⟩ : ∃ m, n = m + 1 := ⟨n - 1, by omega⟩
  obtain ⟨t, a, buf, h1, h2, h3, h4⟩ := w
  rcases h2 with rfl | rfl
  · refine ⟨hp.set b (.cells 0 (some t) (putAt [.nilp, buf] 0 [.ptr b 0 0]) 0), t, buf, ?_, ?_, h3, ?_, Keep.set h4.mem⟩
    · refine fun_inl F108 rfl rfl ?_
      conv => whnf
      refine ldI h1 ?_
      conv => whnf
      refine ⟨_, _, _, h1, by show 0 < 2; decide, ?_⟩
      conv => whnf
      refine ⟨_, _, _, h1, ?_, ?_⟩
      · rcases h3 with rfl | rfl
        · exact lies_bld
        · exact lies_wri
      conv => whnf
      refine stI h1 (by rfl) (by rfl) (by rfl) (by rfl) ?_
      exact ⟨rfl, [], rfl, rfl, rfl⟩
    · rw [List.getElem?_set_self (lt_of_get h1)]; rfl
    · rcases h4 with h4 | ⟨bb, ver, frz, g1, g2, g3, g4, rfl⟩
      · exact .inl h4
      · exact .inr ⟨bb, ver, frz, g1, by rw [List.getElem?_set_ne g3]; exact g2, g3, g4, rfl⟩
  · refine ⟨hp, t, buf, ?_, h1, h3, h4, Keep.refl _ _⟩
    refine fun_inl F108 rfl rfl ?_
    conv => whnf
    refine ldI h1 ?_
    conv => whnf
    refine ldI h1 ?_
    conv => whnf
    refine eqI (eq_bld b) ?_
    exact ⟨rfl, [], rfl, rfl, rfl⟩

theorem wrote_of {hp hp1 hp2 : AHeap} {b t : Nat} {F F' : List Nat} {bs : Str} {v : AV} (h3 : t = tBld ∨ t = tWri) (k1 : Keep hp hp1 F) (e2 : hp2[b]? = some (.cells 0 (some t) [.ptr b 0 0, v] 0)) (hb : b ∈ F) (hB : Buf hp2 b v bs F') (k2 : Keep hp1 hp2 F) (hF : ∀ x ∈ F', x ∈ F ∨ hp1.length ≤ x) : Wrote hp hp2 b F F' bs :=
  ⟨⟨t, _, _, e2, .inr rfl, h3, hB⟩, k1.trans k2 (fun x hx => .inl hx), fun x hx => (hF x hx).imp id fun h => Nat.le_trans k1.1 h⟩

theorem buf_set {hp : AHeap} {b : Nat} {x : AB} {buf : AV} {bs : Str} {F : List Nat} (h : Buf hp b buf bs F) : Buf (hp.set b x) b buf bs F := by
  rcases h with h | ⟨bb, ver, frz, g1, g2, g3, g4, rfl⟩
  · exact .inl h
  · exact .inr ⟨bb, ver, frz, g1, by rw [List.getElem?_set_ne g3]; exact g2, g3, g4, rfl⟩

theorem WriteString_eq (hn : 2 ≤ n) {hp : AHeap} {b : Nat} {bs : Str} {F : List Nat} (w : BW hp b bs F) (s : Str) (hl : bs.length + s.length ≤ 1073741824) :
    ∃ hp' F', C n 59 [.ptr b 0 0, .str s] hp = some (.ret (.tup [i64 s.length, .nili]), hp') ∧ Wrote hp hp' b F F' (bs ++ s) := by
  obtain ⟨m, rfl⟩ : ∃ m, n = m + 1 := ⟨n - 1, by omega⟩
  have hm := w.mem
  obtain ⟨hp1, t, buf, e1, h1, h3, h4, k1⟩ := copyCheck_eq (n := m) (by omega) w
  obtain ⟨v, oh, e2, hp2, F', rfl, g1, g2, g3, g4, xs, g5, rfl⟩ := buf_app h4 (x := .str s) ⟨rfl, first_str _ _⟩ (lt_of_get h1) hl
  have g1' := g1.trans h1
  refine ⟨(oh.getD hp1).set b (.cells 0 (some t) (putAt [.ptr b 0 0, buf] 1 [v]) 0), F', ?_, ?_⟩
  · refine fun_inl F59 rfl rfl ?_
    conv => whnf
    refine clI e1 ?_
    conv => whnf
    refine ldI h1 ?_
    refine ⟨_, e2, ?_⟩
    cases oh with
    | none =>
      conv => whnf
      refine stI h1 g5 (by rfl) (by rfl) (by rfl) ?_
      exact ⟨rfl, [i64 s.length, .nili], rfl, rfl, rfl⟩
    | some h2 =>
      conv => whnf
      refine stI g1' g5 (by rfl) (by rfl) (by rfl) ?_
      exact ⟨rfl, [i64 s.length, .nili], rfl, rfl, rfl⟩
  · exact wrote_of h3 k1 (by rw [List.getElem?_set_self (lt_of_get g1')]; rfl) hm (buf_set g2) (g3.set' (.inl hm)) g4

theorem WriteByte_eq (hn : 2 ≤ n) {hp : AHeap} {b : Nat} {bs : Str} {F : List Nat} (w : BW hp b bs F) (c : UInt8) (hl : bs.length + 1 ≤ 1073741824) :
    ∃ hp' F', C n 56 [.ptr b 0 0, u8 c] hp = some (.ret .nili, hp') ∧ Wrote hp hp' b F F' (bs ++ [c]) := by
  obtain ⟨m, rfl⟩ : ∃ m, n = m + 1 := ⟨n - 1, by omega⟩
  have hm := w.mem
  obtain ⟨hp1, t, buf, e1, h1, h3, h4, k1⟩ := copyCheck_eq (n := m) (by omega) w
  obtain ⟨v, oh, e2, hp2, F', rfl, g1, g2, g3, g4, xs, g5, rfl⟩ := buf_app h4 (x := .lst 1 ([c].map u8) true) ⟨rfl, first_lst _ _ _⟩ (lt_of_get h1) hl
  have g1' := g1.trans h1
  refine ⟨(oh.getD hp1).set b (.cells 0 (some t) (putAt [.ptr b 0 0, buf] 1 [v]) 0), F', ?_, ?_⟩
  · refine fun_inl F56 rfl rfl ?_
    conv => whnf
    refine clI e1 ?_
    conv => whnf
    refine ldI h1 ?_
    conv => whnf
    refine ⟨rfl, ?_⟩
    refine ⟨_, e2, ?_⟩
    cases oh with
    | none =>
      conv => whnf
      refine stI h1 g5 (by rfl) (by rfl) (by rfl) ?_
      exact ⟨rfl, [.nili], rfl, rfl, rfl⟩
    | some h2 =>
      conv => whnf
      refine stI g1' g5 (by rfl) (by rfl) (by rfl) ?_
      exact ⟨rfl, [.nili], rfl, rfl, rfl⟩
  · exact wrote_of h3 k1 (by rw [List.getElem?_set_self (lt_of_get g1')]; rfl) hm (buf_set g2) (g3.set' (.inl hm)) g4

theorem Len_eq (hn : 1 ≤ n) {hp : AHeap} {b : Nat} {bs : Str} {F : List Nat} (w : BW hp b bs F) : C n 61 [.ptr b 0 0] hp = some (.ret (i64 bs.length), hp) := by
  obtain ⟨m, rfl⟩ : ∃ m, n = m + 1 := ⟨n - 1, by omega⟩
  obtain ⟨t, a, buf, h1, h2, h3, h4⟩ := w
  refine fun_inl F61 rfl rfl ?_
  conv => whnf
  refine ldI h1 ?_
  rcases h4 with ⟨rfl, rfl, rfl⟩ | ⟨bb, ver, frz, rfl, g2, g3, g4, rfl⟩
  · exact ⟨rfl, [i64 0], rfl, rfl, rfl⟩
  · exact ⟨rfl, [i64 bs.length], rfl, rfl, rfl⟩

theorem String_eq (hn : 1 ≤ n) {hp : AHeap} {b : Nat} {bs : Str} {F : List Nat} (w : BW hp b bs F) (h0 : bs ≠ []) (hl : bs.length ≤ 1073741824) : ∃ hp', C n 63 [.ptr b 0 0] hp = some (.ret (.str bs), hp') ∧ Wrote hp hp' b F F bs := by
  obtain ⟨m, rfl⟩ : ∃ m, n = m + 1 := ⟨n - 1, by omega⟩
  obtain ⟨t, a, buf, h1, h2, h3, h4⟩ := w
  rcases h4 with ⟨rfl, rfl, rfl⟩ | ⟨bb, ver, frz, rfl, g2, g3, g4, rfl⟩
  · exact (h0 rfl).elim
  · have hpos : 0 < bs.length := by cases bs with | nil => exact (h0 rfl).elim | cons => simp
    have e1 : (hp.set bb (.cells ver (some 5) (bs.map u8) (max frz bs.length)))[b]? = some (.cells 0 (some t) [a, .sl 1 bb ver 0 bs.length] 0) := by rw [List.getElem?_set_ne (fun e => g3 e.symm)]; exact h1
    refine ⟨hp.set bb (.cells ver (some 5) (bs.map u8) (max frz bs.length)), ?_, ⟨t, a, _, e1, h2, h3, .inr ⟨bb, ver, _, rfl, by rw [List.getElem?_set_self (lt_of_get g2)], g3, by omega, rfl⟩⟩, Keep.set (by simp), fun x hx => .inl hx⟩
    refine fun_inl F63 rfl rfl ?_
    conv => whnf
    refine ldI h1 ?_
    conv => whnf
    refine ⟨by omega, ?_⟩
    conv => whnf
    refine ldI h1 ?_
    conv => whnf
    have e : (bs.map u8).take (bs.length : Int).toNat = bs.map u8 := by rw [Int.toNat_natCast]; exact List.take_of_length_le (by simp)
    refine ⟨by omega, _, _, bs, g2, ⟨by simp, by simpa using hl⟩, by rw [e]; exact bytesB_map bs, by rw [e]; exact toBytes_map bs, ?_⟩
    conv => whnf
    refine ⟨?_, ?_⟩
    · refine ⟨?_, ?_⟩
      · conv => whnf
        exact ldI e1 rfl
      · conv => whnf
        exact ldI e1 rfl
    · exact ⟨rfl, [.str bs], rfl, rfl, by simp⟩
end
end Go.Proofs
/- Contracts: numbers and digests that are written into a builder. -/
set_option linter.unusedVariables false
set_option linter.unusedSimpArgs false
namespace Go.Proofs
open Go Go.Abs

/-- A number of so many bytes, the most significant one first. -/
def num (k : Nat) : Nat → Str
  | 0 => []
  | w + 1 => UInt8.ofNat (k / 256 ^ w) :: num k w
theorem num_len (k : Nat) : ∀ w, (num k w).length = w
  | 0 => rfl
  | w + 1 => by simp [num, num_len k w]
theorem byte_of {k i : Nat} (hi : i ≤ 7) : IntKind.u8.wrap (((k : Int)).fdiv (2 ^ (min ((8 * (i : Int))).toNat IntKind.i64.bits))) = ((UInt8.ofNat (k / 256 ^ i)).toNat : Int) := by
  have h1 : min (8 * (i : Int)).toNat IntKind.i64.bits = 8 * i := by show min (8 * (i : Int)).toNat 64 = 8 * i; omega
  rw [h1, Int.fdiv_eq_ediv_of_nonneg _ (by exact Int.pow_nonneg (by decide))]
  have h2 : ((k : Int)) / (2 ^ (8 * i) : Int) = ((k / 256 ^ i : Nat) : Int) := by
    rw [show (256 : Nat) = 2 ^ 8 by rfl, ← Nat.pow_mul]
    norm_cast
  rw [h2]
  show (if (IntKind.u8.signed && decide (((k / 256 ^ i : Nat) : Int) % (2 ^ 8 : Int) ≥ (2 ^ (8 - 1) : Int))) = true then ((k / 256 ^ i : Nat) : Int) % (2 ^ 8 : Int) - 2 ^ 8 else ((k / 256 ^ i : Nat) : Int) % (2 ^ 8 : Int)) = _
  rw [if_neg (by simp [IntKind.signed]), UInt8.toNat_ofNat']
  omega
def Dg.bytes (d : Dg) : Str := d.list
theorem Dg.bytes_len (d : Dg) : d.bytes.length = 16 := rfl
theorem Dg.cells_map (d : Dg) : d.cells = d.bytes.map u8 := rfl

section
variable {n : Nat}
theorem number_eq (hn : 3 ≤ n) {hp : AHeap} {b : Nat} {bs : Str} {F : List Nat} (w : BW hp b bs F) (k wd : Nat) (hw : wd ≤ 8) (hl : bs.length + wd ≤ 1073741824) :
    ∃ hp' F', C n 57 [.ptr b 0 0, i64 k, i64 wd] hp = some (.ret (.tup []), hp') ∧ Wrote hp hp' b F F' (bs ++ num k wd) := by
  obtain ⟨m, rfl⟩ : ∃ m, n = m + 1 := ⟨n - 1, by omega⟩
  have := fun_inlR (n := m) (c := cfg0) (args := [.ptr b 0 0, i64 k, i64 wd]) (h := hp) (R := fun v hp' => v = .tup [] ∧ ∃ F', Wrote hp hp' b F F' (bs ++ num k wd)) F57 rfl rfl ?_
  · obtain ⟨v, hp', e, rfl, F', hW⟩ := this
    exact ⟨hp', F', e, hW⟩
  conv => whnf
  refine zI (wrap_i64 (by omega) (by omega)) ?_
  conv => whnf
  refine loopI (by decide) rfl (α := Nat × Str × List Nat × AHeap) (fun x => ⟨[(0, .ptr b 0 0), (1, i64 k), (6, i64 ((x.1 : Int) - 1))], x.2.2.2, []⟩)
    (fun x => x.1 ≤ wd ∧ Wrote hp x.2.2.2 b F x.2.2.1 (bs ++ x.2.1) ∧ x.2.1 ++ num k x.1 = num k wd) (fun x => x.1) (wd, [], F, hp) ⟨⟨rfl, rfl, rfl⟩, rfl, rfl⟩ ?_ (by simp only [KK]; omega) ?_
  · exact ⟨Nat.le_refl _, by simpa using Wrote.refl w, rfl⟩
  · rintro ⟨r, o, G, h1⟩ ⟨g1, g2, g3⟩
    simp only at g1 g2 g3
    conv => whnf
    refine brd (fun a => ?_) (fun a => ?_)
    · simp only at a
      obtain ⟨q, rfl⟩ : ∃ q, r = q + 1 := ⟨r - 1, by omega⟩
      have hlen : o.length + (q + 1) = wd := by
        have := congrArg List.length g3
        simpa [num_len] using this
      conv => whnf
      refine zI (z := 8 * (q : Int)) (by rw [wrap_i64 (by omega) (by omega)]; omega) ?_
      conv => whnf
      refine ⟨by omega, _, rfl, ?_⟩
      conv => whnf
      refine zI (byte_of (k := k) (i := q) (by omega)) ?_
      obtain ⟨h2, G2, e2, w2⟩ := WriteByte_eq (n := m) (by omega) g2.1 (UInt8.ofNat (k / 256 ^ q)) (by simp; omega)
      conv => whnf
      refine clI e2 ?_
      conv => whnf
      refine zI (z := (q : Int) - 1) (by rw [wrap_i64 (by omega) (by omega)]; omega) ?_
      refine nxI (q, o ++ [UInt8.ofNat (k / 256 ^ q)], G2, h2) ⟨by omega, ?_, ?_⟩ (by simp) ⟨⟨rfl, rfl, rfl⟩, rfl, rfl⟩
      · have := g2.trans w2
        simpa using this
      · rw [← g3]; simp [num]
    · simp only at a
      have : r = 0 := by omega
      subst this
      conv => whnf
      refine ⟨rfl, [], rfl, rfl, G, ?_⟩
      have g4 : Wrote hp h1 b F G (bs ++ num k wd) := by rw [← g3]; simpa [num] using g2
      exact g4

theorem first_sl (h : AHeap) {bb ver : Nat} {el : Option TypeId} {s : Str} {frz : Nat} (hb : h[bb]? = some (.cells ver el (s.map u8) frz)) : firstA h 1 s.length (.sl 1 bb ver 0 s.length) = some (s.map u8) := by
  unfold firstA
  simp only
  rw [if_pos ⟨Nat.le_refl _, trivial⟩, hb]
  simp only
  rw [if_pos ⟨trivial, by simp⟩]
  rw [List.drop_zero, Nat.mul_one, List.take_of_length_le (by simp)]

theorem wsum_eq (hn : 3 ≤ n) {hp : AHeap} {b : Nat} {bs : Str} {F : List Nat} (w : BW hp b bs F) (d : Dg) (hl : bs.length + 16 ≤ 1073741824) :
    ∃ hp' F', C n 86 [.ptr b 0 0, .agg d.cells] hp = some (.ret (.tup []), hp') ∧ Wrote hp hp' b F F' (bs ++ d.bytes) := by
  obtain ⟨m, rfl⟩ : ∃ m, n = m + 1 := ⟨n - 1, by omega⟩
  have hb := w.lt b w.mem
  have k0 : Keep hp (hp ++ [.cells 0 (some 54) d.cells 0]) [] := Keep.app _ _ _
  have w1 := w.stays k0 (by simp)
  obtain ⟨h2, G2, e2, w2⟩ := WriteString_eq (n := m) (by omega) w1 d.bytes (by rw [d.bytes_len]; exact hl)
  refine ⟨h2, G2, ?_, w2.1, (k0.mono (by simp)).trans w2.2.1 (fun x hx => .inl hx), fun x hx => (w2.2.2 x hx).imp id fun h => by simp at h; omega⟩
  have hd : (hp ++ [.cells 0 (some 54) d.cells 0])[hp.length]? = some (.cells 0 (some 54) (d.bytes.map u8) 0) := get_last _ _
  have hs : h2[hp.length]? = some (.cells 0 (some 54) (d.bytes.map u8) 0) := by
    rw [w2.2.1.2 hp.length (by simp) (fun h => by have := w.lt _ h; omega)]
    exact hd
  refine fun_inl F86 rfl rfl ?_
  conv => whnf
  refine ⟨_, _, _, hd, ⟨by rw [List.length_map, d.bytes_len]; decide, by decide⟩, ?_⟩
  refine slI (v := .sl 1 hp.length 0 0 16) rfl ?_
  conv => whnf
  refine ⟨_, d.bytes, first_sl _ hd, toBytes_map _, ?_⟩
  conv => whnf
  refine clI e2 ?_
  · exact ⟨rfl, [], rfl, rfl, rfl⟩
end
end Go.Proofs
