/- Texts put together: T0, Ra5, Ea, Ra, Wa, Ta, Sa, Sb, Sc, C0, Tb, Wb, Wc, Wd0, Wd, Rb, Rc, We, Rd, Rh0, Re, Rf, Rg, Rh, Ri, Rj, Rk, Rl, Rm, La, Ha, Ga, Tc, Td, Te, Pa, Pb, Gb, Wf, Wg, Gc, Wr0, Wr, Gd, Ge, Hb, Rn, Ro, Hc, Hd, Kb, He, Kc, Eb, Ep, Eq, Ka, Ec. -/
import Derived.Test.YtalaebjjleddaaaGreatFbk6
import Derived.Test.YtalaebjjleddaaaGreatProg
import Derived.KernelRfl
/- Chapter 5: which functions work in their caller's memory. -/
namespace Go.Proofs
open Go Go.Abs
def inlL : List Nat := [284, 284, 284, 284, 128, 284, 173, 174, 176, 178, 180, 214, 217, 240, 275, 276, 277, 278, 280, 282, 229, 249, 259, 231, 250, 255, 256, 230, 209, 210, 211, 233, 134, 65, 137, 138, 139, 140, 141, 67, 68, 69, 70, 71, 72, 73, 78, 79, 81, 86, 89, 90, 91, 93, 96, 97, 99, 100, 104, 105, 106, 108, 111, 112, 113, 114, 115, 116, 117, 120, 124, 125, 129, 142, 144, 145, 146, 155, 160, 164, 165, 168, 169, 170, 171, 212, 234, 235, 251, 257]
def inl0 : FuncId → Bool := fun f => inlL.contains f || decide (284 ≤ f)
/-- .. and where the examples are run. -/
def pureL : List Nat := [135, 119, 162, 143, 161, 182, 51, 121, 15, 17, 19, 52, 38, 45, 47, 23, 25, 33, 59, 27, 14]
def inlA : FuncId → Bool := fun f => !(pureL.contains f)
abbrev mV (d a : Nat) : RI := ⟨some d, none, .op (.mv (.t a))⟩
abbrev oP (d : Nat) (x : RO) : RI := ⟨some d, none, .op x⟩
abbrev oG (d g : Nat) (b : Bool) (x : RO) : RI := ⟨some d, some (g, b), .op x⟩
abbrev oU (x : RO) : RI := ⟨none, none, .op x⟩
abbrev FI := FunIs Tryz.prog inl0
end Go.Proofs
/- The looked-up text of the functions. -/
namespace Go.Proofs
open Go Go.Abs
/- f59 understory/file.recordOf: 36 temporaries, depth 6, 1 parameters, results [*t2] -/
def c59 : RC :=
 (.seq (.ops [(oP 1 (.box 27 (.t 0))),
 (oP 2 (.alloc 127 [(.int .u8 0), (.int .u8 0), (.int .u8 0), (.int .u8 0), (.int .u8 0), (.int .u8 0), (.int .u8 0), (.int .u8 0), (.int .u8 0), (.int .u8 0), (.int .u8 0), (.int .u8 0), (.int .u8 0), (.int .u8 0), (.int .u8 0), (.int .u8 0), (.int .u8 0), (.int .u8 0), (.int .u8 0), (.int .u8 0), (.int .u8 0), (.int .u8 0), (.int .u8 0), (.int .u8 0), (.int .u8 0), (.int .u8 0), (.int .u8 0), (.int .u8 0), (.int .u8 0), (.int .u8 0), (.int .u8 0), (.int .u8 0), (.int .u8 0), (.int .u8 0), (.int .u8 0), (.int .u8 0), (.int .u8 0), (.int .u8 0), (.int .u8 0), (.int .u8 0), (.int .u8 0), (.int .u8 0), (.int .u8 0), (.int .u8 0), (.int .u8 0), (.int .u8 0), (.int .u8 0), (.int .u8 0), (.int .u8 0), (.int .u8 0), (.int .u8 0), (.int .u8 0), (.int .u8 0), (.int .u8 0), (.int .u8 0), (.int .u8 0), (.int .u8 0), (.int .u8 0), (.int .u8 0), (.int .u8 0), (.int .u8 0), (.int .u8 0), (.int .u8 0), (.int .u8 0)]))])
 (.seq (.ops [(oP 3 (.alloc 127 [(.int .u8 0), (.int .u8 0), (.int .u8 0), (.int .u8 0), (.int .u8 0), (.int .u8 0), (.int .u8 0), (.int .u8 0), (.int .u8 0), (.int .u8 0), (.int .u8 0), (.int .u8 0), (.int .u8 0), (.int .u8 0), (.int .u8 0), (.int .u8 0), (.int .u8 0), (.int .u8 0), (.int .u8 0), (.int .u8 0), (.int .u8 0), (.int .u8 0), (.int .u8 0), (.int .u8 0), (.int .u8 0), (.int .u8 0), (.int .u8 0), (.int .u8 0), (.int .u8 0), (.int .u8 0), (.int .u8 0), (.int .u8 0), (.int .u8 0), (.int .u8 0), (.int .u8 0), (.int .u8 0), (.int .u8 0), (.int .u8 0), (.int .u8 0), (.int .u8 0), (.int .u8 0), (.int .u8 0), (.int .u8 0), (.int .u8 0), (.int .u8 0), (.int .u8 0), (.int .u8 0), (.int .u8 0), (.int .u8 0), (.int .u8 0), (.int .u8 0), (.int .u8 0), (.int .u8 0), (.int .u8 0), (.int .u8 0), (.int .u8 0), (.int .u8 0), (.int .u8 0), (.int .u8 0), (.int .u8 0), (.int .u8 0), (.int .u8 0), (.int .u8 0), (.int .u8 0)]))])
 (.seq (.ops [(oP 6 (.indexAddrA 64 1 (.t 3) (.c (.int .i64 0)))),
 (oU (.store 1 (.t 6) (.c (.int .u8 82)))),
 (oP 7 (.indexAddrA 64 1 (.t 3) (.c (.int .i64 63)))),
 (oU (.store 1 (.t 7) (.c (.int .u8 82))))])
 (.seq (.seq (.ops [(oP 8 (.callF 64 [])),
 (oP 9 (.lenL (.t 8))),
 (oP 10 (.mv (.c (.int .i64 0))))])
 (.block 0
 (.loop
 (.seq (.ops [(oP 11 (.bin .lss (.t 10) (.t 9)))])
 (.seq (.cond (.t 11)
 .skip
 (.exit 0))
 (.seq (.block 1
 (.seq (.ops [(oP 12 (.indexAddrL 3 (.t 8) (.t 10))),
 (oP 13 (.load true 3 (.t 12))),
 (oP 5 (.alloc 138 [(.int .i64 0), (.int .i64 0), .nilf])),
 (oU (.store 3 (.t 5) (.t 13)))])
 (.draw [((oP 14 (.fieldAddr 0 (.t 5))), 0),
 ((oP 15 (.load false 1 (.t 14))), 1),
 ((oP 16 (.fieldAddr 1 (.t 5))), 0),
 ((oP 17 (.load false 1 (.t 16))), 1),
 ((oP 18 (.fieldAddr 2 (.t 5))), 0),
 ((oP 19 (.load false 1 (.t 18))), 1),
 ((oP 20 (.callV (.t 19) [(.t 1)])), 2),
 ((oP 21 (.nilCheck (.t 20))), 0),
 ((oP 22 (.load false 1 (.t 21))), 1),
 ((oP 23 (.callF 134 [(.t 3), (.t 15), (.t 17), (.t 22)])), 2)])))
 (.ops [(oP 24 (.bin .add (.t 10) (.c (.int .i64 1)))),
 (mV 10 24)])))))))
 (.cut (.seq (.draw [((oP 25 (.sliceP 64 1 (.t 3) (some (.c (.int .i64 15))) none none)), 1),
 ((oP 26 (.fieldAddr 1 (.t 1))), 0),
 ((oP 27 (.fieldAddr 2 (.t 26))), 0),
 ((oP 28 (.sliceP 16 1 (.t 27) none none none)), 1),
 ((oP 29 (.cpy 1 (.t 25) (.t 28))), 2)])
 (.seq (.ops [(oP 30 (.sliceP 64 1 (.t 3) none (some (.c (.int .i64 59))) none)),
 (oP 31 (.bytesStr (.t 30))),
 (oP 32 (.callF 135 [(.t 31)])),
 (oP 33 (.toInt .i64 (.t 32))),
 (oP 34 (.callF 134 [(.t 3), (.c (.int .i64 59)), (.c (.int .i64 4)), (.t 33)]))])
 (.seq (.ops [(oP 35 (.load true 64 (.t 3))),
 (oU (.store 64 (.t 2) (.t 35)))])
 .ret))))))))
theorem F59 : FI 59 1 36 6 [.cell 2 127] c59 := ⟨⟨Tryz.f59, Tryz.func59, by kernel_rfl, by kernel_rfl, by kernel_rfl⟩, by kernel_rfl, by decide, by kernel_rfl⟩
/- f64 understory/file.fields: 7 temporaries, depth 4, 0 parameters, results [t0] -/
def c64 : RC :=
 (.seq (.ops [(oP 0 (.mv (.c (.lst 0 [] true))))])
 (.seq (.ops [(oP 1 (.build [(.int .i64 0), (.int .i64 0), .nilf] [(0, 1, (.c (.int .i64 1))), (1, 1, (.c (.int .i64 6))), (2, 1, (.c (.fn (.func 137) [] [])))])),
 (oP 2 (.build [(.int .i64 0), (.int .i64 0), .nilf] [(0, 1, (.c (.int .i64 7))), (1, 1, (.c (.int .i64 4))), (2, 1, (.c (.fn (.func 138) [] [])))])),
 (oP 3 (.build [(.int .i64 0), (.int .i64 0), .nilf] [(0, 1, (.c (.int .i64 11))), (1, 1, (.c (.int .i64 4))), (2, 1, (.c (.fn (.func 139) [] [])))])),
 (oP 4 (.build [(.int .i64 0), (.int .i64 0), .nilf] [(0, 1, (.c (.int .i64 31))), (1, 1, (.c (.int .i64 4))), (2, 1, (.c (.fn (.func 140) [] [])))])),
 (oP 5 (.build [(.int .i64 0), (.int .i64 0), .nilf] [(0, 1, (.c (.int .i64 35))), (1, 1, (.c (.int .i64 4))), (2, 1, (.c (.fn (.func 141) [] [])))])),
 (oP 6 (.mkLst 3 true 5 [(.int .i64 0), (.int .i64 0), .nilf] [(0, 3, (.t 1)), (3, 3, (.t 2)), (6, 3, (.t 3)), (9, 3, (.t 4)), (12, 3, (.t 5))])),
 (mV 0 6)])
 .ret))
theorem F64 : FI 64 0 7 4 [.tmp 0] c64 := ⟨⟨Tryz.f64, Tryz.func64, by kernel_rfl, by kernel_rfl, by kernel_rfl⟩, by kernel_rfl, by decide, by kernel_rfl⟩
/- f137 understory/file.fields$1: 6 temporaries, depth 3, 1 parameters, results [t2] -/
def c137 : RC :=
 (.seq (.ops [(oP 2 (.mv (.c .nilp)))])
 (.seq (.ops [(mV 3 0),
 (oP 4 (.nilCheck (.t 3))),
 (oP 5 (.fieldAddr 0 (.t 4))),
 (mV 2 5)])
 .ret))
theorem F137 : FI 137 1 6 3 [.tmp 2] c137 := ⟨⟨Tryz.f137, Tryz.func137, by kernel_rfl, by kernel_rfl, by kernel_rfl⟩, by kernel_rfl, by decide, by kernel_rfl⟩
/- f138 understory/file.fields$2: 7 temporaries, depth 4, 1 parameters, results [t2] -/
def c138 : RC :=
 (.seq (.ops [(oP 2 (.mv (.c .nilp)))])
 (.seq (.ops [(mV 3 0),
 (oP 4 (.nilCheck (.t 3))),
 (oP 5 (.fieldAddr 1 (.t 4))),
 (oP 6 (.fieldAddr 0 (.t 5))),
 (mV 2 6)])
 .ret))
theorem F138 : FI 138 1 7 4 [.tmp 2] c138 := ⟨⟨Tryz.f138, Tryz.func138, by kernel_rfl, by kernel_rfl, by kernel_rfl⟩, by kernel_rfl, by decide, by kernel_rfl⟩
/- f139 understory/file.fields$3: 7 temporaries, depth 4, 1 parameters, results [t2] -/
def c139 : RC :=
 (.seq (.ops [(oP 2 (.mv (.c .nilp)))])
 (.seq (.ops [(mV 3 0),
 (oP 4 (.nilCheck (.t 3))),
 (oP 5 (.fieldAddr 1 (.t 4))),
 (oP 6 (.fieldAddr 1 (.t 5))),
 (mV 2 6)])
 .ret))
theorem F139 : FI 139 1 7 4 [.tmp 2] c139 := ⟨⟨Tryz.f139, Tryz.func139, by kernel_rfl, by kernel_rfl, by kernel_rfl⟩, by kernel_rfl, by decide, by kernel_rfl⟩
/- f140 understory/file.fields$4: 6 temporaries, depth 3, 1 parameters, results [t2] -/
def c140 : RC :=
 (.seq (.ops [(oP 2 (.mv (.c .nilp)))])
 (.seq (.ops [(mV 3 0),
 (oP 4 (.nilCheck (.t 3))),
 (oP 5 (.fieldAddr 19 (.t 4))),
 (mV 2 5)])
 .ret))
theorem F140 : FI 140 1 6 3 [.tmp 2] c140 := ⟨⟨Tryz.f140, Tryz.func140, by kernel_rfl, by kernel_rfl, by kernel_rfl⟩, by kernel_rfl, by decide, by kernel_rfl⟩
/- f141 understory/file.fields$5: 6 temporaries, depth 3, 1 parameters, results [t2] -/
def c141 : RC :=
 (.seq (.ops [(oP 2 (.mv (.c .nilp)))])
 (.seq (.ops [(mV 3 0),
 (oP 4 (.nilCheck (.t 3))),
 (oP 5 (.fieldAddr 20 (.t 4))),
 (mV 2 5)])
 .ret))
theorem F141 : FI 141 1 6 3 [.tmp 2] c141 := ⟨⟨Tryz.f141, Tryz.func141, by kernel_rfl, by kernel_rfl, by kernel_rfl⟩, by kernel_rfl, by decide, by kernel_rfl⟩
/- f134 (*understory/file.record).put: 28 temporaries, depth 5, 4 parameters, results [] -/
def c134 : RC :=
 (.seq (.ops [(mV 9 2),
 (oP 10 (.mv (.c (.int .i64 0))))])
 (.block 0
 (.loop
 (.seq (.ops [(oP 11 (.bin .lss (.t 10) (.t 9)))])
 (.seq (.cond (.t 11)
 .skip
 (.exit 0))
 (.seq (.block 1
 (.seq (.ops [(mV 12 10),
 (mV 8 12)])
 (.draw [((mV 13 0), 0),
 ((mV 14 1), 0),
 ((mV 15 2), 0),
 ((oP 16 (.bin .add (.t 14) (.t 15))), 0),
 ((oP 17 (.bin .sub (.t 16) (.c (.int .i64 1)))), 0),
 ((mV 18 8), 0),
 ((oP 19 (.bin .sub (.t 17) (.t 18))), 0),
 ((mV 20 3), 0),
 ((mV 21 8), 0),
 ((oP 22 (.bin .mul (.c (.int .i64 8)) (.t 21))), 0),
 ((oP 23 (.bin .shr (.t 20) (.t 22))), 0),
 ((oP 24 (.toInt .u8 (.t 23))), 0),
 ((oP 25 (.nilCheck (.t 13))), 0),
 ((oP 26 (.indexAddrA 64 1 (.t 25) (.t 19))), 0),
 ((oU (.store 1 (.t 26) (.t 24))), 2)])))
 (.ops [(oP 27 (.bin .add (.t 10) (.c (.int .i64 1)))),
 (mV 10 27)])))))))
theorem F134 : FI 134 4 28 5 [] c134 := ⟨⟨Tryz.f134, Tryz.func134, by kernel_rfl, by kernel_rfl, by kernel_rfl⟩, by kernel_rfl, by decide, by kernel_rfl⟩
/- f65 (*understory/file.record).get: 29 temporaries, depth 5, 3 parameters, results [t6] -/
def c65 : RC :=
 (.seq (.ops [(oP 6 (.mv (.c (.int .i64 0))))])
 (.seq (.ops [(oP 7 (.mv (.c (.int .i64 0))))])
 (.seq (.seq (.ops [(mV 10 0),
 (oP 11 (.nilCheck (.t 10))),
 (mV 12 1),
 (mV 13 1),
 (mV 14 2),
 (oP 15 (.bin .add (.t 13) (.t 14))),
 (oP 16 (.sliceP 64 1 (.t 11) (some (.t 12)) (some (.t 15)) none)),
 (oP 17 (.lenL (.t 16))),
 (oP 18 (.mv (.c (.int .i64 0))))])
 (.block 0
 (.loop
 (.seq (.ops [(oP 19 (.bin .lss (.t 18) (.t 17)))])
 (.seq (.cond (.t 19)
 .skip
 (.exit 0))
 (.seq (.block 1
 (.seq (.ops [(oP 20 (.indexAddrL 1 (.t 16) (.t 18))),
 (oP 21 (.load false 1 (.t 20))),
 (mV 9 21)])
 (.ops [(mV 22 7),
 (oP 23 (.bin .shl (.t 22) (.c (.int .u64 8)))),
 (mV 24 9),
 (oP 25 (.toInt .i64 (.t 24))),
 (oP 26 (.bin .or (.t 23) (.t 25))),
 (mV 7 26)])))
 (.ops [(oP 27 (.bin .add (.t 18) (.c (.int .i64 1)))),
 (mV 18 27)])))))))
 (.cut (.seq (.ops [(mV 28 7),
 (mV 6 28)])
 .ret)))))
theorem F65 : FI 65 3 29 5 [.tmp 6] c65 := ⟨⟨Tryz.f65, Tryz.func65, by kernel_rfl, by kernel_rfl, by kernel_rfl⟩, by kernel_rfl, by decide, by kernel_rfl⟩
/- f19 understory/file.CheckRoot: 64 temporaries, depth 7, 1 parameters, results [t2] -/
def c19 : RC :=
 (.seq (.ops [(oP 1 (.box 27 (.t 0))),
 (oP 2 (.mv (.c (.int .i64 0))))])
 (.seq (.ops [(oP 5 (.mkFn (.func 67) [] [(.t 1)])),
 (mV 3 5)])
 (.seq (.ops [(oP 6 (.fieldAddr 0 (.t 1))),
 (oP 7 (.load false 1 (.t 6))),
 (oP 8 (.bin .geq (.t 7) (.c (.int .i64 0)))),
 (mV 9 8),
 (oG 10 9 true (.fieldAddr 0 (.t 1))),
 (oG 11 9 true (.load false 1 (.t 10))),
 (oG 12 9 true (.bin .leq (.t 11) (.c (.int .i64 1099511627776)))),
 (oP 13 (.pick (.t 9) (.t 12) (.c (.bool false)))),
 (mV 14 13),
 (oG 15 14 true (.fieldAddr 20 (.t 1))),
 (oG 16 14 true (.load false 1 (.t 15))),
 (oG 17 14 true (.bin .geq (.t 16) (.c (.int .i64 2)))),
 (oP 18 (.pick (.t 14) (.t 17) (.c (.bool false)))),
 (mV 19 18),
 (oG 20 19 true (.fieldAddr 20 (.t 1))),
 (oG 21 19 true (.load false 1 (.t 20))),
 (oG 22 19 true (.bin .leq (.t 21) (.c (.int .i64 4096)))),
 (oP 23 (.pick (.t 19) (.t 22) (.c (.bool false)))),
 (mV 4 23)])
 (.seq (.ops [(mV 24 4),
 (mV 25 24),
 (oG 26 25 true (.fieldAddr 19 (.t 1))),
 (oG 27 25 true (.load false 1 (.t 26))),
 (oG 28 25 true (.bin .eql (.t 27) (.c (.int .i64 0)))),
 (oG 29 25 true (.mv (.t 28))),
 (oG 30 29 false (.mv (.t 3))),
 (oG 31 29 false (.fieldAddr 19 (.t 1))),
 (oG 32 29 false (.load false 1 (.t 31))),
 (oG 33 29 false (.callV (.t 30) [(.t 32)])),
 (oG 34 25 true (.pick (.t 29) (.c (.bool true)) (.t 33))),
 (oP 35 (.pick (.t 25) (.t 34) (.c (.bool false)))),
 (mV 4 35)])
 (.seq (.ops [(mV 36 4),
 (mV 37 36),
 (oG 38 37 true (.fieldAddr 1 (.t 1))),
 (oG 39 37 true (.load true 18 (.t 38))),
 (oG 40 37 true (.build [(.int .i64 0), (.int .i64 0), (.int .u8 0), (.int .u8 0), (.int .u8 0), (.int .u8 0), (.int .u8 0), (.int .u8 0), (.int .u8 0), (.int .u8 0), (.int .u8 0), (.int .u8 0), (.int .u8 0), (.int .u8 0), (.int .u8 0), (.int .u8 0), (.int .u8 0), (.int .u8 0)] [])),
 (oG 41 37 true (.cmp false 25 (.t 39) (.t 40))),
 (oG 42 37 true (.mv (.t 41))),
 (oG 43 42 false (.mv (.t 3))),
 (oG 44 42 false (.fieldAddr 1 (.t 1))),
 (oG 45 42 false (.fieldAddr 0 (.t 44))),
 (oG 46 42 false (.load false 1 (.t 45))),
 (oG 47 42 false (.callV (.t 43) [(.t 46)])),
 (oG 48 42 false (.mv (.t 47))),
 (oG 49 48 true (.fieldAddr 1 (.t 1))),
 (oG 50 48 true (.fieldAddr 1 (.t 49))),
 (oG 51 48 true (.load false 1 (.t 50))),
 (oG 52 48 true (.bin .geq (.t 51) (.c (.int .i64 1)))),
 (oG 53 42 false (.pick (.t 48) (.t 52) (.c (.bool false)))),
 (oG 54 42 false (.mv (.t 53))),
 (oG 55 54 true (.fieldAddr 1 (.t 1))),
 (oG 56 54 true (.fieldAddr 1 (.t 55))),
 (oG 57 54 true (.load false 1 (.t 56))),
 (oG 58 54 true (.bin .lss (.t 57) (.c (.int .i64 2147483648)))),
 (oG 59 42 false (.pick (.t 54) (.t 58) (.c (.bool false)))),
 (oG 60 37 true (.pick (.t 42) (.c (.bool true)) (.t 59))),
 (oP 61 (.pick (.t 37) (.t 60) (.c (.bool false)))),
 (mV 4 61)])
 (.seq (.seq (.ops [(mV 62 4),
 (oP 63 (.un .not (.t 62)))])
 (.cond (.t 63)
 (.seq (.ops [(oP 2 (.mv (.c (.int .i64 2))))])
 .ret)
 .skip))
 (.seq (.ops [(oP 2 (.mv (.c (.int .i64 0))))])
 .ret)))))))
theorem F19 : FI 19 1 64 7 [.tmp 2] c19 := ⟨⟨Tryz.f19, Tryz.func19, by kernel_rfl, by kernel_rfl, by kernel_rfl⟩, by kernel_rfl, by decide, by kernel_rfl⟩
/- f67 understory/file.CheckRoot$1: 12 temporaries, depth 4, 1 parameters, results [t3] -/
def c67 : RC :=
 (.seq (.ops [(oP 3 (.mv (.c (.bool false))))])
 (.seq (.ops [(mV 4 0),
 (oP 5 (.bin .geq (.t 4) (.c (.int .i64 2)))),
 (mV 6 5),
 (oG 7 6 true (.mv (.t 0))),
 (oG 8 6 true (.fieldAddr 20 (.t 1))),
 (oG 9 6 true (.load false 1 (.t 8))),
 (oG 10 6 true (.bin .lss (.t 7) (.t 9))),
 (oP 11 (.pick (.t 6) (.t 10) (.c (.bool false)))),
 (mV 3 11)])
 .ret))
theorem F67 : FI 67 2 12 4 [.tmp 3] c67 := ⟨⟨Tryz.f67, Tryz.func67, by kernel_rfl, by kernel_rfl, by kernel_rfl⟩, by kernel_rfl, by decide, by kernel_rfl⟩
/- f15 understory/file.Record: 15 temporaries, depth 5, 1 parameters, results [t2, t3] -/
def c15 : RC :=
 (.seq (.ops [(oP 1 (.box 27 (.t 0))),
 (oP 2 (.mv (.c (.str [])))),
 (oP 3 (.mv (.c (.int .i64 0))))])
 (.seq (.seq (.ops [(oP 6 (.load true 21 (.t 1))),
 (oP 7 (.callF 19 [(.t 6)])),
 (mV 4 7)])
 (.seq (.ops [(mV 8 4),
 (oP 9 (.bin .neq (.t 8) (.c (.int .i64 0))))])
 (.cond (.t 9)
 (.seq (.ops [(mV 10 4),
 (oP 2 (.mv (.c (.str [])))),
 (mV 3 10)])
 .ret)
 .skip)))
 (.seq (.ops [(oP 11 (.load true 21 (.t 1))),
 (oP 12 (.callF 59 [(.t 11)])),
 (oP 5 (.alloc 127 [(.int .u8 0), (.int .u8 0), (.int .u8 0), (.int .u8 0), (.int .u8 0), (.int .u8 0), (.int .u8 0), (.int .u8 0), (.int .u8 0), (.int .u8 0), (.int .u8 0), (.int .u8 0), (.int .u8 0), (.int .u8 0), (.int .u8 0), (.int .u8 0), (.int .u8 0), (.int .u8 0), (.int .u8 0), (.int .u8 0), (.int .u8 0), (.int .u8 0), (.int .u8 0), (.int .u8 0), (.int .u8 0), (.int .u8 0), (.int .u8 0), (.int .u8 0), (.int .u8 0), (.int .u8 0), (.int .u8 0), (.int .u8 0), (.int .u8 0), (.int .u8 0), (.int .u8 0), (.int .u8 0), (.int .u8 0), (.int .u8 0), (.int .u8 0), (.int .u8 0), (.int .u8 0), (.int .u8 0), (.int .u8 0), (.int .u8 0), (.int .u8 0), (.int .u8 0), (.int .u8 0), (.int .u8 0), (.int .u8 0), (.int .u8 0), (.int .u8 0), (.int .u8 0), (.int .u8 0), (.int .u8 0), (.int .u8 0), (.int .u8 0), (.int .u8 0), (.int .u8 0), (.int .u8 0), (.int .u8 0), (.int .u8 0), (.int .u8 0), (.int .u8 0), (.int .u8 0)])),
 (oU (.store 64 (.t 5) (.t 12)))])
 (.seq (.ops [(oP 13 (.sliceP 64 1 (.t 5) none none none)),
 (oP 14 (.bytesStr (.t 13))),
 (mV 2 14),
 (oP 3 (.mv (.c (.int .i64 0))))])
 .ret))))
theorem F15 : FI 15 1 15 5 [.tmp 2, .tmp 3] c15 := ⟨⟨Tryz.f15, Tryz.func15, by kernel_rfl, by kernel_rfl, by kernel_rfl⟩, by kernel_rfl, by decide, by kernel_rfl⟩
/- f17 understory/file.Parse: 48 temporaries, depth 6, 1 parameters, results [*t2, t3] -/
def c17 : RC :=
 (.seq (.ops [(oP 2 (.alloc 27 [(.int .i64 0), (.int .i64 0), (.int .i64 0), (.int .u8 0), (.int .u8 0), (.int .u8 0), (.int .u8 0), (.int .u8 0), (.int .u8 0), (.int .u8 0), (.int .u8 0), (.int .u8 0), (.int .u8 0), (.int .u8 0), (.int .u8 0), (.int .u8 0), (.int .u8 0), (.int .u8 0), (.int .u8 0), (.int .i64 0), (.int .i64 0)])),
 (oP 3 (.mv (.c (.int .i64 0))))])
 (.seq (.seq (.ops [(mV 8 0),
 (oP 9 (.lenS (.t 8))),
 (oP 10 (.bin .neq (.t 9) (.c (.int .i64 64))))])
 (.cond (.t 10)
 (.seq (.ops [(oP 11 (.build [(.int .i64 0), (.int .i64 0), (.int .i64 0), (.int .u8 0), (.int .u8 0), (.int .u8 0), (.int .u8 0), (.int .u8 0), (.int .u8 0), (.int .u8 0), (.int .u8 0), (.int .u8 0), (.int .u8 0), (.int .u8 0), (.int .u8 0), (.int .u8 0), (.int .u8 0), (.int .u8 0), (.int .u8 0), (.int .i64 0), (.int .i64 0)] [])),
 (oU (.store 21 (.t 2) (.t 11))),
 (oP 3 (.mv (.c (.int .i64 8))))])
 .ret)
 .skip))
 (.seq (.ops [(mV 12 0),
 (oP 13 (.strBytes (.t 12))),
 (oP 14 (.s2a 64 (.t 13))),
 (oP 15 (.load true 64 (.t 14))),
 (oP 4 (.alloc 127 [(.int .u8 0), (.int .u8 0), (.int .u8 0), (.int .u8 0), (.int .u8 0), (.int .u8 0), (.int .u8 0), (.int .u8 0), (.int .u8 0), (.int .u8 0), (.int .u8 0), (.int .u8 0), (.int .u8 0), (.int .u8 0), (.int .u8 0), (.int .u8 0), (.int .u8 0), (.int .u8 0), (.int .u8 0), (.int .u8 0), (.int .u8 0), (.int .u8 0), (.int .u8 0), (.int .u8 0), (.int .u8 0), (.int .u8 0), (.int .u8 0), (.int .u8 0), (.int .u8 0), (.int .u8 0), (.int .u8 0), (.int .u8 0), (.int .u8 0), (.int .u8 0), (.int .u8 0), (.int .u8 0), (.int .u8 0), (.int .u8 0), (.int .u8 0), (.int .u8 0), (.int .u8 0), (.int .u8 0), (.int .u8 0), (.int .u8 0), (.int .u8 0), (.int .u8 0), (.int .u8 0), (.int .u8 0), (.int .u8 0), (.int .u8 0), (.int .u8 0), (.int .u8 0), (.int .u8 0), (.int .u8 0), (.int .u8 0), (.int .u8 0), (.int .u8 0), (.int .u8 0), (.int .u8 0), (.int .u8 0), (.int .u8 0), (.int .u8 0), (.int .u8 0), (.int .u8 0)])),
 (oU (.store 64 (.t 4) (.t 15)))])
 (.seq (.ops [(oP 5 (.alloc 27 [(.int .i64 0), (.int .i64 0), (.int .i64 0), (.int .u8 0), (.int .u8 0), (.int .u8 0), (.int .u8 0), (.int .u8 0), (.int .u8 0), (.int .u8 0), (.int .u8 0), (.int .u8 0), (.int .u8 0), (.int .u8 0), (.int .u8 0), (.int .u8 0), (.int .u8 0), (.int .u8 0), (.int .u8 0), (.int .i64 0), (.int .i64 0)]))])
 (.seq (.seq (.ops [(oP 16 (.callF 64 [])),
 (oP 17 (.lenL (.t 16))),
 (oP 18 (.mv (.c (.int .i64 0))))])
 (.block 0
 (.loop
 (.seq (.ops [(oP 19 (.bin .lss (.t 18) (.t 17)))])
 (.seq (.cond (.t 19)
 .skip
 (.exit 0))
 (.seq (.block 1
 (.seq (.ops [(oP 20 (.indexAddrL 3 (.t 16) (.t 18))),
 (oP 21 (.load true 3 (.t 20))),
 (oP 7 (.alloc 138 [(.int .i64 0), (.int .i64 0), .nilf])),
 (oU (.store 3 (.t 7) (.t 21)))])
 (.draw [((oP 22 (.fieldAddr 2 (.t 7))), 0),
 ((oP 23 (.load false 1 (.t 22))), 1),
 ((oP 25 (.fieldAddr 0 (.t 7))), 0),
 ((oP 26 (.load false 1 (.t 25))), 1),
 ((oP 27 (.fieldAddr 1 (.t 7))), 0),
 ((oP 28 (.load false 1 (.t 27))), 1),
 ((oP 24 (.callV (.t 23) [(.t 5)])), 2),
 ((oP 29 (.callF 65 [(.t 4), (.t 26), (.t 28)])), 2),
 ((oP 30 (.nilCheck (.t 24))), 0),
 ((oU (.store 1 (.t 30) (.t 29))), 3)])))
 (.ops [(oP 31 (.bin .add (.t 18) (.c (.int .i64 1)))),
 (mV 18 31)])))))))
 (.cut (.seq (.draw [((oP 32 (.fieldAddr 1 (.t 5))), 0),
 ((oP 33 (.fieldAddr 2 (.t 32))), 0),
 ((oP 34 (.sliceP 16 1 (.t 33) none none none)), 1),
 ((oP 35 (.sliceP 64 1 (.t 4) (some (.c (.int .i64 15))) none none)), 1),
 ((oP 36 (.cpy 1 (.t 34) (.t 35))), 2)])
 (.seq (.seq (.draw [((oP 37 (.load true 21 (.t 5))), 1),
 ((oP 38 (.callF 19 [(.t 37)])), 0),
 ((oP 39 (.bin .neq (.t 38) (.c (.int .i64 0)))), 0),
 ((mV 40 39), 0),
 ((oG 41 40 false (.load true 21 (.t 5))), 1),
 ((oG 42 40 false (.callF 59 [(.t 41)])), 0),
 ((oG 43 40 false (.load true 64 (.t 4))), 1),
 ((oG 44 40 false (.cmp true 127 (.t 42) (.t 43))), 0),
 ((oP 45 (.pick (.t 40) (.c (.bool true)) (.t 44))), 0)])
 (.cond (.t 45)
 (.seq (.ops [(oP 46 (.build [(.int .i64 0), (.int .i64 0), (.int .i64 0), (.int .u8 0), (.int .u8 0), (.int .u8 0), (.int .u8 0), (.int .u8 0), (.int .u8 0), (.int .u8 0), (.int .u8 0), (.int .u8 0), (.int .u8 0), (.int .u8 0), (.int .u8 0), (.int .u8 0), (.int .u8 0), (.int .u8 0), (.int .u8 0), (.int .i64 0), (.int .i64 0)] [])),
 (oU (.store 21 (.t 2) (.t 46))),
 (oP 3 (.mv (.c (.int .i64 8))))])
 .ret)
 .skip))
 (.seq (.ops [(oP 47 (.load true 21 (.t 5))),
 (oU (.store 21 (.t 2) (.t 47))),
 (oP 3 (.mv (.c (.int .i64 0))))])
 .ret)))))))))
theorem F17 : FI 17 1 48 6 [.cell 2 27, .tmp 3] c17 := ⟨⟨Tryz.f17, Tryz.func17, by kernel_rfl, by kernel_rfl, by kernel_rfl⟩, by kernel_rfl, by decide, by kernel_rfl⟩
end Go.Proofs
/- The looked-up text of the functions. -/
namespace Go.Proofs
open Go Go.Abs
/- f76 understory/understoryref04.IsPage: 113 temporaries, depth 7, 1 parameters, results [t2] -/
/- f77 understory/understoryref04.Encode: 36 temporaries, depth 6, 1 parameters, results [*t2] -/
/- f103 understory/understoryref04.Decode: 25 temporaries, depth 5, 1 parameters, results [*t2] -/
/- f34 understory/understoryref04.Same: 71 temporaries, depth 7, 2 parameters, results [t4] -/
/- f95 understory/understoryref04.SameFreed: 42 temporaries, depth 6, 2 parameters, results [t4] -/
/- f147 understory/understoryref04.isPage: 9 temporaries, depth 4, 1 parameters, results [t2] -/
/- f148 understory/understoryref04.plain: 62 temporaries, depth 6, 1 parameters, results [t2] -/
/- f149 understory/understoryref04.Fits: 15 temporaries, depth 5, 2 parameters, results [t4] -/
/- f150 understory/understoryref04.freed: 77 temporaries, depth 7, 1 parameters, results [t2] -/
/- f151 understory/understoryref04.words: 21 temporaries, depth 5, 1 parameters, results [t2] -/
/- f152 understory/understoryref04.list: 53 temporaries, depth 6, 1 parameters, results [t2] -/
/- f61 understory/understoryref04.Number: 25 temporaries, depth 5, 2 parameters, results [t4] -/
/- f153 understory/understoryref04.body: 60 temporaries, depth 6, 1 parameters, results [t2] -/
/- f154 understory/understoryref04.Crc: 8 temporaries, depth 4, 1 parameters, results [t2] -/
/- f167 understory/understoryref04.read: 135 temporaries, depth 8, 1 parameters, results [*t2] -/
/- f94 understory/understoryref04.SameEntries: 26 temporaries, depth 5, 2 parameters, results [t4] -/
/- f232 understory/understoryref04.number: 19 temporaries, depth 5, 1 parameters, results [t2] -/
/- f163 understory/understoryref04.SameInts: 26 temporaries, depth 5, 2 parameters, results [t4] -/
/- f197 understory/understoryref04.Valid: 105 temporaries, depth 7, 2 parameters, results [t4] -/
/- f198 understory/understoryref04.Weight: 72 temporaries, depth 7, 2 parameters, results [*t4] -/
/- f199 understory/understoryref04.flag: 4 temporaries, depth 3, 1 parameters, results [t2] -/
/- f200 understory/understoryref04.Prefix: 56 temporaries, depth 6, 2 parameters, results [t4] -/
/- f201 understory/understoryref04.entries: 59 temporaries, depth 6, 3 parameters, results [t6] -/
/- f202 understory/understoryref04.reversed: 26 temporaries, depth 5, 1 parameters, results [t2] -/
/- f63 understory/understoryref02.CRC: 5 temporaries, depth 3, 1 parameters, results [t2] -/
/- f209 (*understory/understoryref04.reader).num: 9 temporaries, depth 4, 2 parameters, results [t4] -/
/- f210 (*understory/understoryref04.reader).take: 42 temporaries, depth 6, 2 parameters, results [t4] -/
/- f211 (*understory/understoryref04.reader).entry: 69 temporaries, depth 7, 4 parameters, results [*t8] -/
/- f225 understory/understoryref04.leafEntry: 85 temporaries, depth 7, 1 parameters, results [t2] -/
/- f226 understory/understoryref04.branchEntry: 26 temporaries, depth 5, 1 parameters, results [t2] -/
/- f227 understory/understoryref04.rest: 57 temporaries, depth 6, 2 parameters, results [t4] -/
/- f228 understory/understoryref04.suffix: 23 temporaries, depth 5, 3 parameters, results [t6] -/
/- f136 understory/understoryref02.Extend: 30 temporaries, depth 5, 2 parameters, results [t4] -/
/- f233 (*understory/understoryref04.reader).digest: 20 temporaries, depth 5, 1 parameters, results [*t2] -/
/- f247 understory/understoryref04.count: 9 temporaries, depth 4, 1 parameters, results [t2] -/
/- f248 understory/understoryref04.sum: 5 temporaries, depth 3, 1 parameters, results [t2] -/
/- f189 understory/understoryref02.step: 11 temporaries, depth 4, 1 parameters, results [t2] -/
end Go.Proofs
/- The looked-up text of the functions. -/
namespace Go.Proofs
open Go Go.Abs
/- f249 (*understory/page.reader).text: 51 temporaries, depth 6, 2 parameters, results [t4] -/
/- f229 (*understory/page.reader).number: 24 temporaries, depth 5, 2 parameters, results [t4] -/
/- f259 (*understory/page.reader).sum: 9 temporaries, depth 4, 1 parameters, results [*t2] -/
/- f256 (*understory/page.reader).content: 52 temporaries, depth 6, 3 parameters, results [] -/
/- f250 (*understory/page.reader).entries: 10 temporaries, depth 4, 4 parameters, results [t8] -/
/- f255 (*understory/page.reader).entries$1: 38 temporaries, depth 6, 1 parameters, results [] -/
end Go.Proofs
/- The looked-up text of the functions. -/
namespace Go.Proofs
open Go Go.Abs
/- f214 (*strings.Builder).copyCheck: 20 temporaries, depth 5, 1 parameters, results [] -/
/- f173 (*strings.Builder).WriteByte: 17 temporaries, depth 5, 2 parameters, results [t4] -/
/- f176 (*strings.Builder).WriteString: 19 temporaries, depth 5, 2 parameters, results [t4, t5] -/
/- f178 (*strings.Builder).Len: 8 temporaries, depth 4, 1 parameters, results [t2] -/
/- f180 (*strings.Builder).String: 14 temporaries, depth 4, 1 parameters, results [t2] -/
/- f174 (*understory/page.writer).number: 22 temporaries, depth 5, 3 parameters, results [] -/
/- f282 (*understory/page.writer).sum: 10 temporaries, depth 4, 2 parameters, results [] -/
end Go.Proofs
/- The looked-up text of the functions. -/
namespace Go.Proofs
open Go Go.Abs
/- f224 understory/page.Weight: 33 temporaries, depth 6, 2 parameters, results [t4, t5] -/
/- f223 understory/page.Valid: 78 temporaries, depth 7, 2 parameters, results [t4] -/
/- f192 understory/page.Fits: 19 temporaries, depth 5, 2 parameters, results [t4] -/
/- f279 understory/page.shared: 31 temporaries, depth 6, 2 parameters, results [t4] -/
/- f191 understory/page.within: 15 temporaries, depth 5, 3 parameters, results [t6] -/
/- f246 understory/page.weigh: 38 temporaries, depth 6, 2 parameters, results [t4, t5] -/
/- f243 understory/page.formOf: 83 temporaries, depth 7, 1 parameters, results [t2] -/
/- f244 understory/page.branches: 32 temporaries, depth 6, 1 parameters, results [t2] -/
/- f245 understory/enc.Compare: 8 temporaries, depth 4, 2 parameters, results [t4] -/
/- f190 understory/page.numbered: 5 temporaries, depth 3, 1 parameters, results [t2] -/
/- f281 understory/enc.Prefix: 25 temporaries, depth 5, 2 parameters, results [t4] -/
/- f254 cmp.Compare[string]: 20 temporaries, depth 5, 2 parameters, results [t4] -/
/- f258 cmp.isNaN[string]: 6 temporaries, depth 3, 1 parameters, results [t2] -/
end Go.Proofs
/- The looked-up text of the functions. -/
namespace Go.Proofs
open Go Go.Abs
/- f135 understory/digest.CRC: 5 temporaries, depth 3, 1 parameters, results [t2] -/
def c135 : RC :=
 (.seq (.ops [(oP 2 (.mv (.c (.int .u32 0))))])
 (.seq (.ops [(mV 3 0),
 (oP 4 (.callF 188 [(.c (.int .u32 0)), (.t 3)])),
 (mV 2 4)])
 .ret))
theorem F135 : FI 135 1 5 3 [.tmp 2] c135 := ⟨⟨Tryz.f135, Tryz.func135, by kernel_rfl, by kernel_rfl, by kernel_rfl⟩, by kernel_rfl, by decide, by kernel_rfl⟩
/- f188 understory/digest.Extend: 30 temporaries, depth 5, 2 parameters, results [t4] -/
def c188 : RC :=
 (.seq (.ops [(oP 4 (.mv (.c (.int .u32 0))))])
 (.seq (.ops [(oP 8 (.callF 222 [])),
 (oP 5 (.alloc 303 [(.int .u32 0), (.int .u32 0), (.int .u32 0), (.int .u32 0), (.int .u32 0), (.int .u32 0), (.int .u32 0), (.int .u32 0), (.int .u32 0), (.int .u32 0), (.int .u32 0), (.int .u32 0), (.int .u32 0), (.int .u32 0), (.int .u32 0), (.int .u32 0), (.int .u32 0), (.int .u32 0), (.int .u32 0), (.int .u32 0), (.int .u32 0), (.int .u32 0), (.int .u32 0), (.int .u32 0), (.int .u32 0), (.int .u32 0), (.int .u32 0), (.int .u32 0), (.int .u32 0), (.int .u32 0), (.int .u32 0), (.int .u32 0), (.int .u32 0), (.int .u32 0), (.int .u32 0), (.int .u32 0), (.int .u32 0), (.int .u32 0), (.int .u32 0), (.int .u32 0), (.int .u32 0), (.int .u32 0), (.int .u32 0), (.int .u32 0), (.int .u32 0), (.int .u32 0), (.int .u32 0), (.int .u32 0), (.int .u32 0), (.int .u32 0), (.int .u32 0), (.int .u32 0), (.int .u32 0), (.int .u32 0), (.int .u32 0), (.int .u32 0), (.int .u32 0), (.int .u32 0), (.int .u32 0), (.int .u32 0), (.int .u32 0), (.int .u32 0), (.int .u32 0), (.int .u32 0), (.int .u32 0), (.int .u32 0), (.int .u32 0), (.int .u32 0), (.int .u32 0), (.int .u32 0), (.int .u32 0), (.int .u32 0), (.int .u32 0), (.int .u32 0), (.int .u32 0), (.int .u32 0), (.int .u32 0), (.int .u32 0), (.int .u32 0), (.int .u32 0), (.int .u32 0), (.int .u32 0), (.int .u32 0), (.int .u32 0), (.int .u32 0), (.int .u32 0), (.int .u32 0), (.int .u32 0), (.int .u32 0), (.int .u32 0), (.int .u32 0), (.int .u32 0), (.int .u32 0), (.int .u32 0), (.int .u32 0), (.int .u32 0), (.int .u32 0), (.int .u32 0), (.int .u32 0), (.int .u32 0), (.int .u32 0), (.int .u32 0), (.int .u32 0), (.int .u32 0), (.int .u32 0), (.int .u32 0), (.int .u32 0), (.int .u32 0), (.int .u32 0), (.int .u32 0), (.int .u32 0), (.int .u32 0), (.int .u32 0), (.int .u32 0), (.int .u32 0), (.int .u32 0), (.int .u32 0), (.int .u32 0), (.int .u32 0), (.int .u32 0), (.int .u32 0), (.int .u32 0), (.int .u32 0), (.int .u32 0), (.int .u32 0), (.int .u32 0), (.int .u32 0), (.int .u32 0), (.int .u32 0), (.int .u32 0), (.int .u32 0), (.int .u32 0), (.int .u32 0), (.int .u32 0), (.int .u32 0), (.int .u32 0), (.int .u32 0), (.int .u32 0), (.int .u32 0), (.int .u32 0), (.int .u32 0), (.int .u32 0), (.int .u32 0), (.int .u32 0), (.int .u32 0), (.int .u32 0), (.int .u32 0), (.int .u32 0), (.int .u32 0), (.int .u32 0), (.int .u32 0), (.int .u32 0), (.int .u32 0), (.int .u32 0), (.int .u32 0), (.int .u32 0), (.int .u32 0), (.int .u32 0), (.int .u32 0), (.int .u32 0), (.int .u32 0), (.int .u32 0), (.int .u32 0), (.int .u32 0), (.int .u32 0), (.int .u32 0), (.int .u32 0), (.int .u32 0), (.int .u32 0), (.int .u32 0), (.int .u32 0), (.int .u32 0), (.int .u32 0), (.int .u32 0), (.int .u32 0), (.int .u32 0), (.int .u32 0), (.int .u32 0), (.int .u32 0), (.int .u32 0), (.int .u32 0), (.int .u32 0), (.int .u32 0), (.int .u32 0), (.int .u32 0), (.int .u32 0), (.int .u32 0), (.int .u32 0), (.int .u32 0), (.int .u32 0), (.int .u32 0), (.int .u32 0), (.int .u32 0), (.int .u32 0), (.int .u32 0), (.int .u32 0), (.int .u32 0), (.int .u32 0), (.int .u32 0), (.int .u32 0), (.int .u32 0), (.int .u32 0), (.int .u32 0), (.int .u32 0), (.int .u32 0), (.int .u32 0), (.int .u32 0), (.int .u32 0), (.int .u32 0), (.int .u32 0), (.int .u32 0), (.int .u32 0), (.int .u32 0), (.int .u32 0), (.int .u32 0), (.int .u32 0), (.int .u32 0), (.int .u32 0), (.int .u32 0), (.int .u32 0), (.int .u32 0), (.int .u32 0), (.int .u32 0), (.int .u32 0), (.int .u32 0), (.int .u32 0), (.int .u32 0), (.int .u32 0), (.int .u32 0), (.int .u32 0), (.int .u32 0), (.int .u32 0), (.int .u32 0), (.int .u32 0), (.int .u32 0), (.int .u32 0), (.int .u32 0), (.int .u32 0), (.int .u32 0), (.int .u32 0), (.int .u32 0), (.int .u32 0), (.int .u32 0), (.int .u32 0), (.int .u32 0), (.int .u32 0), (.int .u32 0), (.int .u32 0), (.int .u32 0), (.int .u32 0), (.int .u32 0), (.int .u32 0), (.int .u32 0), (.int .u32 0), (.int .u32 0), (.int .u32 0)])),
 (oU (.store 256 (.t 5) (.t 8)))])
 (.seq (.ops [(mV 9 0),
 (oP 10 (.un .xor (.t 9))),
 (mV 6 10)])
 (.seq (.seq (.ops [(mV 11 1),
 (oP 12 (.lenS (.t 11))),
 (oP 13 (.mv (.c (.int .i64 0))))])
 (.block 0
 (.loop
 (.seq (.ops [(oP 14 (.bin .lss (.t 13) (.t 12)))])
 (.seq (.cond (.t 14)
 .skip
 (.exit 0))
 (.seq (.block 1
 (.seq (.ops [(mV 15 13),
 (mV 7 15)])
 (.ops [(mV 16 6),
 (oP 17 (.toInt .u8 (.t 16))),
 (mV 18 1),
 (mV 19 7),
 (oP 20 (.indexS (.t 18) (.t 19))),
 (oP 21 (.bin .xor (.t 17) (.t 20))),
 (oP 22 (.indexAddrA 256 1 (.t 5) (.t 21))),
 (oP 23 (.load false 1 (.t 22))),
 (mV 24 6),
 (oP 25 (.bin .shr (.t 24) (.c (.int .u64 8)))),
 (oP 26 (.bin .xor (.t 23) (.t 25))),
 (mV 6 26)])))
 (.ops [(oP 27 (.bin .add (.t 13) (.c (.int .i64 1)))),
 (mV 13 27)])))))))
 (.cut (.seq (.ops [(mV 28 6),
 (oP 29 (.un .xor (.t 28))),
 (mV 4 29)])
 .ret))))))
theorem F188 : FI 188 2 30 5 [.tmp 4] c188 := ⟨⟨Tryz.f188, Tryz.func188, by kernel_rfl, by kernel_rfl, by kernel_rfl⟩, by kernel_rfl, by decide, by kernel_rfl⟩
/- f222 understory/digest.table: 18 temporaries, depth 5, 0 parameters, results [*t0] -/
def c222 : RC :=
 (.seq (.ops [(oP 0 (.alloc 303 [(.int .u32 0), (.int .u32 0), (.int .u32 0), (.int .u32 0), (.int .u32 0), (.int .u32 0), (.int .u32 0), (.int .u32 0), (.int .u32 0), (.int .u32 0), (.int .u32 0), (.int .u32 0), (.int .u32 0), (.int .u32 0), (.int .u32 0), (.int .u32 0), (.int .u32 0), (.int .u32 0), (.int .u32 0), (.int .u32 0), (.int .u32 0), (.int .u32 0), (.int .u32 0), (.int .u32 0), (.int .u32 0), (.int .u32 0), (.int .u32 0), (.int .u32 0), (.int .u32 0), (.int .u32 0), (.int .u32 0), (.int .u32 0), (.int .u32 0), (.int .u32 0), (.int .u32 0), (.int .u32 0), (.int .u32 0), (.int .u32 0), (.int .u32 0), (.int .u32 0), (.int .u32 0), (.int .u32 0), (.int .u32 0), (.int .u32 0), (.int .u32 0), (.int .u32 0), (.int .u32 0), (.int .u32 0), (.int .u32 0), (.int .u32 0), (.int .u32 0), (.int .u32 0), (.int .u32 0), (.int .u32 0), (.int .u32 0), (.int .u32 0), (.int .u32 0), (.int .u32 0), (.int .u32 0), (.int .u32 0), (.int .u32 0), (.int .u32 0), (.int .u32 0), (.int .u32 0), (.int .u32 0), (.int .u32 0), (.int .u32 0), (.int .u32 0), (.int .u32 0), (.int .u32 0), (.int .u32 0), (.int .u32 0), (.int .u32 0), (.int .u32 0), (.int .u32 0), (.int .u32 0), (.int .u32 0), (.int .u32 0), (.int .u32 0), (.int .u32 0), (.int .u32 0), (.int .u32 0), (.int .u32 0), (.int .u32 0), (.int .u32 0), (.int .u32 0), (.int .u32 0), (.int .u32 0), (.int .u32 0), (.int .u32 0), (.int .u32 0), (.int .u32 0), (.int .u32 0), (.int .u32 0), (.int .u32 0), (.int .u32 0), (.int .u32 0), (.int .u32 0), (.int .u32 0), (.int .u32 0), (.int .u32 0), (.int .u32 0), (.int .u32 0), (.int .u32 0), (.int .u32 0), (.int .u32 0), (.int .u32 0), (.int .u32 0), (.int .u32 0), (.int .u32 0), (.int .u32 0), (.int .u32 0), (.int .u32 0), (.int .u32 0), (.int .u32 0), (.int .u32 0), (.int .u32 0), (.int .u32 0), (.int .u32 0), (.int .u32 0), (.int .u32 0), (.int .u32 0), (.int .u32 0), (.int .u32 0), (.int .u32 0), (.int .u32 0), (.int .u32 0), (.int .u32 0), (.int .u32 0), (.int .u32 0), (.int .u32 0), (.int .u32 0), (.int .u32 0), (.int .u32 0), (.int .u32 0), (.int .u32 0), (.int .u32 0), (.int .u32 0), (.int .u32 0), (.int .u32 0), (.int .u32 0), (.int .u32 0), (.int .u32 0), (.int .u32 0), (.int .u32 0), (.int .u32 0), (.int .u32 0), (.int .u32 0), (.int .u32 0), (.int .u32 0), (.int .u32 0), (.int .u32 0), (.int .u32 0), (.int .u32 0), (.int .u32 0), (.int .u32 0), (.int .u32 0), (.int .u32 0), (.int .u32 0), (.int .u32 0), (.int .u32 0), (.int .u32 0), (.int .u32 0), (.int .u32 0), (.int .u32 0), (.int .u32 0), (.int .u32 0), (.int .u32 0), (.int .u32 0), (.int .u32 0), (.int .u32 0), (.int .u32 0), (.int .u32 0), (.int .u32 0), (.int .u32 0), (.int .u32 0), (.int .u32 0), (.int .u32 0), (.int .u32 0), (.int .u32 0), (.int .u32 0), (.int .u32 0), (.int .u32 0), (.int .u32 0), (.int .u32 0), (.int .u32 0), (.int .u32 0), (.int .u32 0), (.int .u32 0), (.int .u32 0), (.int .u32 0), (.int .u32 0), (.int .u32 0), (.int .u32 0), (.int .u32 0), (.int .u32 0), (.int .u32 0), (.int .u32 0), (.int .u32 0), (.int .u32 0), (.int .u32 0), (.int .u32 0), (.int .u32 0), (.int .u32 0), (.int .u32 0), (.int .u32 0), (.int .u32 0), (.int .u32 0), (.int .u32 0), (.int .u32 0), (.int .u32 0), (.int .u32 0), (.int .u32 0), (.int .u32 0), (.int .u32 0), (.int .u32 0), (.int .u32 0), (.int .u32 0), (.int .u32 0), (.int .u32 0), (.int .u32 0), (.int .u32 0), (.int .u32 0), (.int .u32 0), (.int .u32 0), (.int .u32 0), (.int .u32 0), (.int .u32 0), (.int .u32 0), (.int .u32 0), (.int .u32 0), (.int .u32 0), (.int .u32 0), (.int .u32 0), (.int .u32 0), (.int .u32 0), (.int .u32 0), (.int .u32 0), (.int .u32 0), (.int .u32 0), (.int .u32 0), (.int .u32 0), (.int .u32 0), (.int .u32 0), (.int .u32 0), (.int .u32 0), (.int .u32 0), (.int .u32 0), (.int .u32 0), (.int .u32 0), (.int .u32 0), (.int .u32 0), (.int .u32 0), (.int .u32 0), (.int .u32 0), (.int .u32 0)]))])
 (.seq (.seq (.ops [(oP 3 (.mv (.c (.int .i64 0))))])
 (.block 0
 (.loop
 (.seq (.ops [(oP 4 (.bin .lss (.t 3) (.c (.int .i64 256))))])
 (.seq (.cond (.t 4)
 .skip
 (.exit 0))
 (.seq (.block 1
 (.seq (.ops [(mV 5 3),
 (mV 1 5)])
 (.seq (.ops [(mV 6 1),
 (oP 7 (.toInt .u32 (.t 6))),
 (mV 2 7)])
 (.seq (.seq (.ops [(oP 8 (.mv (.c (.int .i64 0))))])
 (.block 2
 (.loop
 (.seq (.ops [(oP 9 (.bin .lss (.t 8) (.c (.int .i64 8))))])
 (.seq (.cond (.t 9)
 .skip
 (.exit 2))
 (.seq (.block 3
 (.ops [(mV 10 2),
 (oP 11 (.callF 242 [(.t 10)])),
 (mV 2 11)]))
 (.ops [(oP 12 (.bin .add (.t 8) (.c (.int .i64 1)))),
 (mV 8 12)])))))))
 (.cut (.ops [(mV 13 1),
 (mV 14 2),
 (oP 15 (.indexAddrA 256 1 (.t 0) (.t 13))),
 (oU (.store 1 (.t 15) (.t 14)))]))))))
 (.cut (.ops [(oP 16 (.bin .add (.t 3) (.c (.int .i64 1)))),
 (mV 3 16)]))))))))
 (.cut (.seq (.ops [(oP 17 (.load true 256 (.t 0))),
 (oU (.store 256 (.t 0) (.t 17)))])
 .ret))))
theorem F222 : FI 222 0 18 5 [.cell 0 303] c222 := ⟨⟨Tryz.f222, Tryz.func222, by kernel_rfl, by kernel_rfl, by kernel_rfl⟩, by kernel_rfl, by decide, by kernel_rfl⟩
/- f242 understory/digest.bit: 11 temporaries, depth 4, 1 parameters, results [t2] -/
def c242 : RC :=
 (.seq (.ops [(oP 2 (.mv (.c (.int .u32 0))))])
 (.seq (.seq (.ops [(mV 3 0),
 (oP 4 (.bin .and (.t 3) (.c (.int .u32 1)))),
 (oP 5 (.bin .eql (.t 4) (.c (.int .u32 1))))])
 (.cond (.t 5)
 (.seq (.ops [(mV 6 0),
 (oP 7 (.bin .shr (.t 6) (.c (.int .u64 1)))),
 (oP 8 (.bin .xor (.t 7) (.c (.int .u32 3988292384)))),
 (mV 2 8)])
 .ret)
 .skip))
 (.seq (.ops [(mV 9 0),
 (oP 10 (.bin .shr (.t 9) (.c (.int .u64 1)))),
 (mV 2 10)])
 .ret)))
theorem F242 : FI 242 1 11 4 [.tmp 2] c242 := ⟨⟨Tryz.f242, Tryz.func242, by kernel_rfl, by kernel_rfl, by kernel_rfl⟩, by kernel_rfl, by decide, by kernel_rfl⟩
end Go.Proofs
/- The checksum: what CRC computes. -/
set_option linter.unusedVariables false
set_option linter.unusedSimpArgs false
namespace Go.Proofs
open Go Go.Abs
def cfgN : Cfg := ⟨inl0, fun _ _ => none, fun _ _ _ => none, fun _ => false⟩
noncomputable abbrev CC (n : Nat) : CallF := CN Tryz.prog cfgN n
@[reducible] def u32 (c : UInt32) : AV := .int .u32 c.toNat

theorem wrap_u32 (b : BitVec 32) : IntKind.u32.wrap (b.toNat : Int) = (b.toNat : Int) := by
  have h := b.isLt
  show (if (IntKind.u32.signed && decide ((b.toNat : Int) % (2 ^ 32 : Int) ≥ (2 ^ (32 - 1) : Int))) = true then (b.toNat : Int) % (2 ^ 32 : Int) - 2 ^ 32 else (b.toNat : Int) % (2 ^ 32 : Int)) = _
  rw [if_neg (by simp [IntKind.signed])]
  omega
theorem wrap_u8 (b : BitVec 8) : IntKind.u8.wrap (b.toNat : Int) = (b.toNat : Int) := by
  have h := b.isLt
  show (if (IntKind.u8.signed && decide ((b.toNat : Int) % (2 ^ 8 : Int) ≥ (2 ^ (8 - 1) : Int))) = true then (b.toNat : Int) % (2 ^ 8 : Int) - 2 ^ 8 else (b.toNat : Int) % (2 ^ 8 : Int)) = _
  rw [if_neg (by simp [IntKind.signed])]
  omega
theorem bv32 (c : UInt32) : BitVec.ofInt 32 (c.toNat : Int) = c.toBitVec := by
  rw [BitVec.ofInt_natCast]; apply BitVec.eq_of_toNat_eq; simp
theorem and_u32 (c d : UInt32) : IntKind.u32.wrap (BitVec.ofInt IntKind.u32.bits (c.toNat : Int) &&& BitVec.ofInt IntKind.u32.bits (d.toNat : Int)).toNat = ((c &&& d).toNat : Int) := by
  show IntKind.u32.wrap (BitVec.ofInt 32 (c.toNat : Int) &&& BitVec.ofInt 32 (d.toNat : Int)).toNat = _
  rw [bv32, bv32, wrap_u32]; rfl
theorem xor_u32 (c d : UInt32) : IntKind.u32.wrap (BitVec.ofInt IntKind.u32.bits (c.toNat : Int) ^^^ BitVec.ofInt IntKind.u32.bits (d.toNat : Int)).toNat = ((c ^^^ d).toNat : Int) := by
  show IntKind.u32.wrap (BitVec.ofInt 32 (c.toNat : Int) ^^^ BitVec.ofInt 32 (d.toNat : Int)).toNat = _
  rw [bv32, bv32, wrap_u32]; rfl
theorem xor_u8 (c d : UInt8) : IntKind.u8.wrap (BitVec.ofInt IntKind.u8.bits (c.toNat : Int) ^^^ BitVec.ofInt IntKind.u8.bits (d.toNat : Int)).toNat = ((c ^^^ d).toNat : Int) := by
  show IntKind.u8.wrap (BitVec.ofInt 8 (c.toNat : Int) ^^^ BitVec.ofInt 8 (d.toNat : Int)).toNat = _
  have e : ∀ c : UInt8, BitVec.ofInt 8 (c.toNat : Int) = c.toBitVec := fun c => by rw [BitVec.ofInt_natCast]; apply BitVec.eq_of_toNat_eq; simp
  rw [e, e, wrap_u8]; rfl
theorem not_u32 (c : UInt32) : IntKind.u32.wrap (BitVec.ofInt IntKind.u32.bits (if IntKind.u32.signed then -1 else IntKind.u32.max) ^^^ BitVec.ofInt IntKind.u32.bits (c.toNat : Int)).toNat = ((~~~c).toNat : Int) := by
  show IntKind.u32.wrap (BitVec.ofInt 32 4294967295 ^^^ BitVec.ofInt 32 (c.toNat : Int)).toNat = _
  rw [bv32, wrap_u32]
  have : (BitVec.ofInt 32 4294967295 ^^^ c.toBitVec) = ~~~c.toBitVec := by
    rw [show BitVec.ofInt 32 4294967295 = BitVec.allOnes 32 by decide]
    exact BitVec.allOnes_xor
  rw [this]; rfl
theorem shr_u32 (c : UInt32) (k : Nat) (hk : k < 32) : ((c.toNat : Int)).fdiv (2 ^ (min (k : Int).toNat IntKind.u32.bits)) = ((c >>> (UInt32.ofNat k)).toNat : Int) := by
  have h1 : min (k : Int).toNat IntKind.u32.bits = k := by show min (k : Int).toNat 32 = k; omega
  rw [h1]
  have h2 : (c >>> (UInt32.ofNat k)).toNat = c.toNat / 2 ^ k := by
    rw [UInt32.toNat_shiftRight, UInt32.toNat_ofNat', Nat.shiftRight_eq_div_pow]
    rw [Nat.mod_eq_of_lt (show k < 2 ^ 32 by omega), Nat.mod_eq_of_lt hk]
  rw [h2, Int.fdiv_eq_ediv_of_nonneg _ (by exact Int.pow_nonneg (by decide))]
  norm_cast
theorem low_u8 (c : UInt32) : IntKind.u8.wrap (c.toNat : Int) = (c.toUInt8.toNat : Int) := by
  have h := c.toNat_lt
  show (if (IntKind.u8.signed && decide ((c.toNat : Int) % (2 ^ 8 : Int) ≥ (2 ^ (8 - 1) : Int))) = true then (c.toNat : Int) % (2 ^ 8 : Int) - 2 ^ 8 else (c.toNat : Int) % (2 ^ 8 : Int)) = _
  rw [if_neg (by simp [IntKind.signed]), UInt32.toNat_toUInt8]
  omega

def bit (c : UInt32) : UInt32 := if c &&& 1 = 1 then (c >>> 1) ^^^ 3988292384 else c >>> 1
theorem u32_eq {c d : UInt32} : ((c.toNat : Int) == (d.toNat : Int)) = decide (c = d) := by
  by_cases h : c = d
  · subst h; simp
  · simp [h]; intro h'; exact h (UInt32.toNat_inj.1 (by omega))
section
variable {n : Nat} {h : AHeap}
theorem bit_eq (hn : 1 ≤ n) (c : UInt32) : CC n 242 [u32 c] h = some (.ret (u32 (bit c)), h) := by
  obtain ⟨m, rfl⟩ : ∃ m, n = m + 1 := ⟨n - 1, by omega⟩
  refine fun_pure F242 rfl rfl rfl rfl ?_
  conv => whnf
  refine zI (and_u32 c 1) ?_
  conv => whnf
  have e1 := @u32_eq (c &&& 1) 1
  refine br (fun a => ?_) (fun a => ?_)
  · have a' : c &&& 1 = 1 := by simpa [e1] using e1.symm.trans a
    conv => whnf
    refine ⟨by decide, _, shr_u32 c 1 (by decide), ?_⟩
    conv => whnf
    refine zI (xor_u32 _ 3988292384) ?_
    conv => whnf
    exact retP rfl (frz_int (by simp [bit, a']))
  · have a' : ¬ c &&& 1 = 1 := by simpa [e1] using e1.symm.trans a
    conv => whnf
    refine ⟨by decide, _, shr_u32 c 1 (by decide), ?_⟩
    conv => whnf
    exact retP rfl (frz_int (by simp [bit, a']))

def tab (i : UInt8) : UInt32 := bit (bit (bit (bit (bit (bit (bit (bit i.toUInt32)))))))
def bits : Nat → UInt32 → UInt32
  | 0, c => c
  | k + 1, c => bits k (bit c)
theorem bits_succ : ∀ (k : Nat) (c : UInt32), bits (k + 1) c = bit (bits k c)
  | 0, c => rfl
  | k + 1, c => bits_succ k (bit c)
def tabV (j : Nat) : AV := u32 (bits 8 (UInt32.ofNat j))
def tabC (i : Nat) : List AV := (List.range 256).map fun j => if j < i then tabV j else .int .u32 0
theorem tabC_len (i : Nat) : (tabC i).length = 256 := by simp [tabC]
theorem tabC_scal (i : Nat) : (tabC i).all AV.scal = true := by
  rw [List.all_eq_true]
  intro x hx
  obtain ⟨j, _, rfl⟩ := List.mem_map.1 hx
  split <;> rfl
theorem tabC_cells (i : Nat) : (AV.agg (tabC i)).cells? = some (tabC i) := by
  show (if (tabC i).all AV.scal = true then some (tabC i) else none) = _
  rw [if_pos (tabC_scal i)]
theorem tabC_frz (i n : Nat) : FrzOk (n + 2) (.agg (tabC i)) := frzOk_agg fun x hx => by
  obtain ⟨j, _, rfl⟩ := List.mem_map.1 hx
  split <;> exact frzOk_int
theorem tabC_over {zs : List AV} (hz : zs.length = 256) (i : Nat) : putAt zs 0 (tabC i) = tabC i := by
  unfold putAt
  rw [tabC_len, List.take_zero, List.drop_of_length_le (by omega)]
  simp
theorem tabC_same (i : Nat) : putAt (tabC i) 0 (tabC i) = tabC i := tabC_over (tabC_len i) i
theorem loadT {cs : List AV} (hcs : cs.length = 256) : loadA Tryz.prog [.cells 0 (some 303) cs 0] 303 (.ptr 0 0 0) = some (.agg cs) := by
  have ht : (ti Tryz.prog 303).map (fun d => (isAggD d.desc, d.size)) = some (true, 256) := by kernel_rfl
  obtain ⟨d, h1, h2⟩ := Option.map_eq_some_iff.1 ht
  simp only [Prod.mk.injEq] at h2
  unfold loadA
  simp only [h1, List.getElem?_cons_zero, if_true]
  unfold partA
  rw [h2.1, h2.2, hcs]
  simp [← hcs]
theorem tabC_put {i : Nat} (hi : i < 256) : putAt (tabC i) i [tabV i] = tabC (i + 1) := by
  apply List.ext_getElem?
  intro k
  unfold putAt tabC
  rw [List.append_assoc]
  by_cases h1 : k < i
  · rw [List.getElem?_append_left (by simp; omega), List.getElem?_take, if_pos h1]
    simp only [List.getElem?_map]
    by_cases h2 : k < 256
    · simp [List.getElem?_range h2, h1, show k < i + 1 by omega]
    · omega
  · rw [List.getElem?_append_right (by simp; omega)]
    by_cases h2 : k = i
    · subst h2
      simp [List.getElem?_range hi, hi, Nat.min_eq_left (Nat.le_of_lt hi)]
    · rw [List.getElem?_append_right (by simp; omega)]
      simp only [List.length_take, List.length_map, List.length_range, List.length_cons, List.length_nil, List.getElem?_drop, List.getElem?_map]
      rw [Nat.min_eq_left (Nat.le_of_lt hi), show i + (0 + 1) + (k - i - (0 + 1)) = k by omega]
      by_cases h3 : k < 256
      · simp [List.getElem?_range h3, show ¬ k < i by omega, show ¬ k < i + 1 by omega]
      · rw [List.getElem?_eq_none (by simp; omega)]; rfl

theorem wrap_u32n {j : Nat} (hj : j < 256) : IntKind.u32.wrap (j : Int) = ((UInt32.ofNat j).toNat : Int) := by
  have : ((UInt32.ofNat j).toNat : Int) = j := by rw [UInt32.toNat_ofNat']; omega
  rw [this]
  have := wrap_u32 (BitVec.ofNat 32 j)
  rwa [BitVec.toNat_ofNat, Nat.mod_eq_of_lt (show j < 2 ^ 32 by omega)] at this

theorem table_in {m : Nat} (hn : 1 ≤ m) (j : Nat) (hj : j < 256) (hp : AHeap) {Q : Ex → LS → Prop} {s : LS} (hs : LS.sub ⟨[(0, .ptr 0 0 0), (1, i64 j), (2, u32 (UInt32.ofNat j)), (3, i64 j), (8, i64 0)], hp, []⟩ s)
    (hE : ∀ L, subL [(0, .ptr 0 0 0), (1, i64 j), (2, tabV j), (3, i64 j)] L → Q (.exit 2) ⟨L, hp, []⟩) : OkR Tryz.prog (CC m) cfgN.inl KK 18 5 (.loop (c222.lp 1)) s Q := by
  refine loopI (by decide) rfl (α := Nat) (fun x => ⟨[(0, .ptr 0 0 0), (1, i64 j), (2, u32 (bits x (UInt32.ofNat j))), (3, i64 j), (8, i64 x)], hp, []⟩) (fun x => x ≤ 8) (fun x => 8 - x) 0 hs (by simp) (by show 8 - 0 < KK; simp only [KK]; omega) ?_
  intro x hx
  conv => whnf
  refine brd (fun a => ?_) (fun a => ?_)
  · conv => whnf
    refine clI (bit_eq (by omega) (bits x (UInt32.ofNat j))) ?_
    conv => whnf
    refine zI (z := ((x + 1 : Nat) : Int)) (by rw [wrap_i64 (by omega) (by omega)]; rfl) ?_
    refine nxI (x + 1) (by omega) (by omega) ⟨⟨rfl, rfl, ?_, rfl, rfl⟩, rfl, rfl⟩
    rw [bits_succ]; rfl
  · have : x = 8 := by omega
    subst this
    conv => whnf
    exact hE _ ⟨rfl, rfl, rfl, rfl⟩

set_option maxRecDepth 100000 in
theorem table_eq (hn : 2 ≤ n) : CC n 222 [] h = some (.ret (.agg (tabC 256)), h) := by
  obtain ⟨m, rfl⟩ : ∃ m, n = m + 1 := ⟨n - 1, by omega⟩
  refine fun_pure F222 rfl rfl rfl rfl ?_
  conv => whnf
  refine loopI (by decide) rfl (α := Nat) (fun x => ⟨[(0, .ptr 0 0 0), (3, i64 x)], [.cells 0 (some 303) (tabC x) 0], []⟩) (fun x => x ≤ 256) (fun x => 256 - x) 0 ⟨⟨rfl, rfl⟩, by kernel_rfl, rfl⟩ (by simp) (by show 256 - 0 < KK; simp only [KK]; omega) ?_
  intro x hx
  conv => whnf
  refine brd (fun a => ?_) (fun a => ?_)
  · have hx' : x < 256 := by omega
    conv => whnf
    refine zI (wrap_u32n hx') ?_
    conv => whnf
    refine table_in (by omega) x hx' _ ⟨⟨rfl, rfl, rfl, rfl, rfl⟩, rfl, rfl⟩ fun L hL => ?_
    conv => whnf
    refine cutI (by decide) rfl (t := ⟨[(0, .ptr 0 0 0), (1, i64 x), (2, tabV x), (3, i64 x)], [.cells 0 (some 303) (tabC x) 0], []⟩) ⟨hL, rfl, rfl⟩ ?_
    conv => whnf
    refine ⟨by omega, by omega, ?_⟩
    conv => whnf
    refine stI (cs := tabC x) (by rfl) (by rfl) (by rfl) (by rw [tabC_len]; show Nat.ble (0 + (x : Int).toNat * 1 + 1) 256 = true; exact Nat.ble_eq_true_of_le (by omega)) (by rfl) ?_
    refine cutI (by decide) rfl (t := ⟨[(0, .ptr 0 0 0), (3, i64 x)], [.cells 0 (some 303) (tabC (x + 1)) 0], []⟩) ⟨⟨rfl, rfl⟩, ?_, rfl⟩ ?_
    · show [AB.cells 0 (some 303) (putAt (tabC x) (0 + (x : Int).toNat * 1) [tabV x]) 0] = _
      rw [show 0 + (x : Int).toNat * 1 = x by omega, tabC_put hx']
    · conv => whnf
      refine zI (z := ((x + 1 : Nat) : Int)) (by rw [wrap_i64 (by omega) (by omega)]; rfl) ?_
      exact nxI (x + 1) (by omega) (by omega) ⟨⟨rfl, rfl⟩, rfl, rfl⟩
  · have : x = 256 := by omega
    subst this
    refine cutI (by decide) rfl (t := ⟨[(0, .ptr 0 0 0)], [.cells 0 (some 303) (tabC 256) 0], []⟩) ⟨rfl, rfl, rfl⟩ ?_
    conv => whnf
    refine ldI (cs := tabC 256) (by rfl) ?_
    conv => whnf
    have hcs : List.take 256 (List.drop 0 (tabC 256)) = tabC 256 := by rw [List.drop_zero, List.take_of_length_le (by rw [tabC_len]; decide)]
    refine stI (cs := tabC 256) (xs := tabC 256) (by rfl) (by show AV.cells? (.agg (List.take 256 (List.drop 0 (tabC 256)))) = _; rw [hcs]; exact tabC_cells 256) (tabC_len 256) (by rw [tabC_len]; rfl) (by rfl) ?_
    refine ⟨rfl, [.agg (tabC 256)], ?_, ?_⟩
    · show (match loadA Tryz.prog [.cells 0 (some 303) (putAt (tabC 256) 0 (tabC 256)) 0] 303 (.ptr 0 0 0) with | some v => some [v] | none => none) = _
      rw [tabC_same, loadT (tabC_len 256)]
    · exact tabC_frz 256 62 _

/-- The checksum of bytes. -/
def ext (s : List UInt8) (c : UInt32) : UInt32 := s.foldl (fun c b => tab (c.toUInt8 ^^^ b) ^^^ (c >>> 8)) c
def crc (s : List UInt8) : UInt32 := ~~~(ext s (~~~0))

theorem tab_at (b : UInt8) : (tabC 256)[b.toNat]? = some (u32 (tab b)) := by
  have h := b.toNat_lt
  unfold tabC
  rw [List.getElem?_map, List.getElem?_range (by omega)]
  simp only [Option.map_some]
  rw [if_pos (by omega)]
  have : UInt32.ofNat b.toNat = b.toUInt32 := by
    apply UInt32.toNat_inj.1
    rw [UInt32.toNat_ofNat', UInt8.toNat_toUInt32]
    omega
  unfold tabV bits bits bits bits bits bits bits bits bits tab
  rw [this]

theorem ext_loop {m : Nat} (s : Str) (hs : s.length < 1099511627776) (c0 : UInt32) {Q : Ex → LS → Prop} {st : LS} (h0 : LS.sub ⟨[(1, .str s), (5, .ptr 0 0 0), (6, u32 c0), (12, i64 s.length), (13, i64 0)], [.cells 0 (some 303) (tabC 256) 0], []⟩ st)
    (hE : ∀ L hp, lk L 6 = some (u32 (ext s c0)) → Q (.exit 0) ⟨L, hp, []⟩) : OkR Tryz.prog (CC m) cfgN.inl KK 30 5 (.loop (c188.lp 0)) st Q := by
  refine loopI (by decide) rfl (α := Nat × UInt32) (fun x => ⟨[(1, .str s), (5, .ptr 0 0 0), (6, u32 x.2), (12, i64 s.length), (13, i64 x.1)], [.cells 0 (some 303) (tabC 256) 0], []⟩) (fun x => x.1 ≤ s.length ∧ x.2 = ext (s.take x.1) c0) (fun x => s.length - x.1) (0, c0) h0 (by simp [ext]) (by show s.length - 0 < KK; simp only [KK]; omega) ?_
  rintro ⟨x, c⟩ ⟨hx, hc⟩
  simp only at hx hc
  conv => whnf
  refine brd (fun a => ?_) (fun a => ?_)
  · simp only at a
    have hx' : x < s.length := by omega
    have hst : tab (c.toUInt8 ^^^ s[x]) ^^^ (c >>> 8) = ext (s.take (x + 1)) c0 := by
      subst hc
      unfold ext
      rw [List.take_succ_eq_append_getElem hx', List.foldl_append]; rfl
    conv => whnf
    refine zI (low_u8 c) ?_
    conv => whnf
    refine ⟨by omega, s[x], by rw [Int.toNat_natCast]; exact List.getElem?_eq_getElem hx', ?_⟩
    conv => whnf
    refine zI (xor_u8 c.toUInt8 s[x]) ?_
    conv => whnf
    have hlt := (c.toUInt8 ^^^ s[x]).toNat_lt
    refine ⟨by omega, by omega, ?_⟩
    conv => whnf
    refine ldI (cs := tabC 256) (by rfl) ?_
    refine wpartI (v := u32 (tab (c.toUInt8 ^^^ s[x]))) (by show (tabC 256)[0 + (((c.toUInt8 ^^^ s[x]).toNat : Nat) : Int).toNat * 1]? = _; rw [Int.toNat_natCast, Nat.zero_add, Nat.mul_one]; exact tab_at _) ?_
    conv => whnf
    refine ⟨by decide, _, shr_u32 c 8 (by decide), ?_⟩
    conv => whnf
    refine zI (xor_u32 _ _) ?_
    conv => whnf
    refine zI (z := ((x + 1 : Nat) : Int)) (by rw [wrap_i64 (by omega) (by omega)]; rfl) ?_
    exact nxI (x + 1, tab (c.toUInt8 ^^^ s[x]) ^^^ (c >>> 8)) ⟨hx', hst⟩ (by simp only; omega) ⟨⟨rfl, rfl, rfl, rfl, rfl⟩, rfl, rfl⟩
  · simp only at a
    have : x = s.length := by omega
    subst this
    rw [List.take_length] at hc
    subst hc
    conv => whnf
    exact hE _ _ rfl

set_option maxRecDepth 100000 in
theorem extend_eq (hn : 3 ≤ n) (s : Str) (hs : s.length < 1099511627776) (c : UInt32) : CC n 188 [u32 c, .str s] h = some (.ret (u32 (~~~(ext s (~~~c)))), h) := by
  obtain ⟨m, rfl⟩ : ∃ m, n = m + 1 := ⟨n - 1, by omega⟩
  refine fun_pure F188 rfl rfl rfl rfl ?_
  conv => whnf
  refine clI (table_eq (by omega)) ?_
  conv => whnf
  refine stI (xs := tabC 256) (by rfl) (tabC_cells 256) (tabC_len 256) (by rw [tabC_len]; rfl) (by rfl) ?_
  conv => whnf
  refine zI (not_u32 c) ?_
  conv => whnf
  refine ext_loop s hs (~~~c) ⟨⟨rfl, rfl, rfl, rfl, rfl⟩, ?_, rfl⟩ fun L hp hL => ?_
  · exact congrArg (fun cs => [AB.cells 0 (some 303) cs 0]) (tabC_over (by rfl) 256)
  · refine cutI (by decide) rfl (t := ⟨[(6, u32 (ext s (~~~c)))], hp, []⟩) ⟨hL, rfl, rfl⟩ ?_
    conv => whnf
    refine zI (not_u32 _) ?_
    conv => whnf
    exact retP rfl (frz_int rfl)

theorem crc_eq (hn : 4 ≤ n) (s : Str) (hs : s.length < 1099511627776) : CC n 135 [.str s] h = some (.ret (u32 (crc s)), h) := by
  obtain ⟨m, rfl⟩ : ∃ m, n = m + 1 := ⟨n - 1, by omega⟩
  refine fun_pure F135 rfl rfl rfl rfl ?_
  conv => whnf
  refine clI (extend_eq (by omega) s hs 0) ?_
  conv => whnf
  exact retP rfl (frz_int rfl)
end
end Go.Proofs
/- What is known of the checksum. -/
set_option linter.unusedVariables false
set_option linter.unusedSimpArgs false
namespace Go.Proofs
open Go Go.Abs
def bitN (c : Nat) : Nat := Nat.xor (Nat.shiftRight c 1) (Nat.mul (Nat.land c 1) 3988292384)
def byteN (c : Nat) : Nat := bitN (bitN (bitN (bitN (bitN (bitN (bitN (bitN c)))))))
def extN : List UInt8 → Nat → Nat
  | [], c => c
  | b :: r, c => extN r (Nat.xor (byteN (Nat.xor (Nat.mod c 256) b.toNat)) (Nat.shiftRight c 8))
def crcN (s : List UInt8) : Nat := Nat.xor (extN s 4294967295) 4294967295
theorem bitN_eq (c : UInt32) : bitN c.toNat = (bit c).toNat := by
  have h1 : (c &&& 1).toNat = c.toNat % 2 := by
    rw [UInt32.toNat_and]; exact Nat.and_one_is_mod _
  have h2 : (c >>> 1).toNat = c.toNat >>> 1 := by
    rw [UInt32.toNat_shiftRight]; rfl
  have h3 : Nat.land c.toNat 1 = c.toNat % 2 := Nat.and_one_is_mod _
  unfold bitN bit
  rw [h3]
  have h4 := Nat.mod_two_eq_zero_or_one c.toNat
  by_cases h : c &&& 1 = 1
  · rw [if_pos h, UInt32.toNat_xor, h2]
    have : c.toNat % 2 = 1 := by rw [← h1, h]; rfl
    rw [this]; rfl
  · rw [if_neg h, h2]
    have : c.toNat % 2 = 0 := by
      rcases h4 with h4 | h4
      · exact h4
      · exact (h (UInt32.toNat_inj.1 (by rw [h1, h4]; rfl))).elim
    rw [this]
    exact Nat.xor_zero _
theorem byteN_eq (i : UInt8) : byteN i.toNat = (tab i).toNat := by
  unfold byteN tab
  have : i.toNat = i.toUInt32.toNat := by simp
  rw [this, bitN_eq, bitN_eq, bitN_eq, bitN_eq, bitN_eq, bitN_eq, bitN_eq, bitN_eq]
theorem extN_eq : ∀ (s : List UInt8) (c : UInt32), extN s c.toNat = (ext s c).toNat
  | [], c => rfl
  | b :: r, c => by
    have h1 : Nat.xor (Nat.mod c.toNat 256) b.toNat = (c.toUInt8 ^^^ b).toNat := by
      rw [UInt8.toNat_xor, UInt32.toNat_toUInt8]; rfl
    have h2 : Nat.shiftRight c.toNat 8 = (c >>> 8).toNat := by rw [UInt32.toNat_shiftRight]; rfl
    show extN r (Nat.xor (byteN (Nat.xor (Nat.mod c.toNat 256) b.toNat)) (Nat.shiftRight c.toNat 8)) = _
    rw [h1, byteN_eq, h2]
    have h3 : Nat.xor (tab (c.toUInt8 ^^^ b)).toNat (c >>> 8).toNat = (tab (c.toUInt8 ^^^ b) ^^^ (c >>> 8)).toNat := by rw [UInt32.toNat_xor]; rfl
    rw [h3, extN_eq r]
    rfl
theorem crcN_eq (s : List UInt8) : crcN s = (crc s).toNat := by
  unfold crcN crc
  have h := extN_eq s (~~~0)
  rw [show (~~~(0 : UInt32)).toNat = 4294967295 by decide] at h
  rw [h]
  have : ~~~(ext s (~~~0)) = ext s (~~~0) ^^^ 4294967295 := by
    rw [show (4294967295 : UInt32) = -1 by decide, UInt32.xor_neg_one]
  rw [this, UInt32.toNat_xor]; rfl

/-- What is known of the checksum. -/
def sum1 : FuncId → List AV → Option AV := fun f args => cond (Nat.beq f 135) (match args with
  | [.str s] => cond (Nat.blt s.length 1099511627776) (some (.int .u32 (Int.ofNat (crcN s)))) none
  | _ => none) none
def cfg1 : Cfg := ⟨inl0, sum1, fun _ _ _ => none, fun _ => false⟩
theorem sumN_ok : SumOk Tryz.prog cfgN := ⟨fun f args v h => (by cases h), noMem _⟩
theorem crc_pure (s : Str) (hs : s.length < 1099511627776) : PureCalls Tryz.prog 135 [.str s] (.ret (u32 (crc s))) := pure_of_CN (c := cfgN) (n := 9) sumN_ok rfl (crc_eq (by omega) s hs)
theorem sum1_sound : ∀ f args v, cfg1.sum f args = some v → PureCalls Tryz.prog f args (.ret v) := fun f args v h => by
  change sum1 f args = some v at h
  unfold sum1 at h
  cases hf : Nat.beq f 135 with
  | false => rw [hf] at h; cases h
  | true =>
    rw [hf] at h
    have : f = 135 := Nat.eq_of_beq_eq_true hf
    subst this
    simp only [cond] at h
    split at h
    · rename_i s
      cases hl : Nat.blt s.length 1099511627776 with
      | false => rw [hl] at h; cases h
      | true =>
        rw [hl] at h
        cases h
        have hl' : s.length < 1099511627776 := by rwa [Nat.blt_eq] at hl
        have := crc_pure s hl'
        rw [crcN_eq]
        exact this
    · cases h

end Go.Proofs
/- Chapter 5: calls, with what is known of the examples and of the checksum. -/
set_option linter.unusedVariables false
set_option linter.unusedSimpArgs false
namespace Go.Proofs
open Go Go.Abs
/-- The chapter's examples: shown by themselves. -/
def sum0 : FuncId → List AV → Option AV := fun f args => cond (Nat.beq f 14) (match args with | [] => some (.bool true) | _ => none) (sum1 f args)
def cfg0 : Cfg := ⟨inl0, sum0, fun _ _ _ => none, fun _ => false⟩
noncomputable abbrev C (n : Nat) : CallF := CN Tryz.prog cfg0 n
theorem crcC_eq {n : Nat} {h : AHeap} (hn : 1 ≤ n) (s : Str) (hs : s.length < 1099511627776) : C n 135 [.str s] h = some (.ret (u32 (crc s)), h) := by
  obtain ⟨m, rfl⟩ : ∃ m, n = m + 1 := ⟨n - 1, by omega⟩
  refine fun_sum rfl (of_decide_eq_true (by kernel_rfl)) ?_ rfl
  show cond (Nat.blt s.length 1099511627776) (some (AV.int .u32 (Int.ofNat (crcN s)))) none = some (u32 (crc s))
  rw [show Nat.blt s.length 1099511627776 = true by rw [Nat.blt_eq]; exact hs, crcN_eq]
  rfl
theorem sane_eq {n : Nat} (hn : 1 ≤ n) (h : AHeap) : C n 14 [] h = some (.ret (.bool true), h) := by
  obtain ⟨m, rfl⟩ : ∃ m, n = m + 1 := ⟨n - 1, by omega⟩
  exact fun_sum rfl (of_decide_eq_true (by kernel_rfl)) rfl rfl
end Go.Proofs
/- Contracts of functions of a page: forms and weights of entries. -/
set_option linter.unusedVariables false
set_option linter.unusedSimpArgs false
namespace Go.Proofs
open Go Go.Abs

structure Dg where
  (b0 b1 b2 b3 b4 b5 b6 b7 b8 b9 b10 b11 b12 b13 b14 b15 : UInt8)
  deriving DecidableEq
structure Entry where
  key : Str
  val : Str
  over : Int
  len : Int
  child : Int
  count : Int
  sum : Dg
  deriving DecidableEq

def Dg.cells (d : Dg) : List AV := [u8 d.b0, u8 d.b1, u8 d.b2, u8 d.b3, u8 d.b4, u8 d.b5, u8 d.b6, u8 d.b7, u8 d.b8, u8 d.b9, u8 d.b10, u8 d.b11, u8 d.b12, u8 d.b13, u8 d.b14, u8 d.b15]
def Entry.cells (e : Entry) : List AV := .str e.key :: .str e.val :: i64 e.over :: i64 e.len :: i64 e.child :: i64 e.count :: e.sum.cells
def Entry.av (e : Entry) : AV := .agg e.cells
def Dg.zero : Dg := ⟨0, 0, 0, 0, 0, 0, 0, 0, 0, 0, 0, 0, 0, 0, 0, 0⟩


def within (x lo hi : Int) : Bool := decide (lo ≤ x) && decide (x ≤ hi)
def numbered (n : Int) : Bool := within n 2 4095

section
variable {n : Nat} {h : AHeap}

def cmpS (x y : Str) : Int := if Op.bytesLess x y then -1 else if Op.bytesLess y x then 1 else 0

def branches (e : Entry) : Bool := decide (e.key.length ≤ 48) && e.val == [] && e.over == 0 && e.len == 0 && numbered e.child && within e.count 1 2147483647

def isShort (e : Entry) : Bool := e.over == 0 && e.len == 0 && e.child == 0 && e.count == 0 && e.sum == Dg.zero && decide (e.val.length ≤ 64)
def isLong (e : Entry) : Bool := e.child == 0 && e.count == 0 && numbered e.over && within e.len 65 4000
def isNest (e : Entry) : Bool := e.over == 0 && e.len == 0 && numbered e.child && within e.count 1 2147483647
def formOf (e : Entry) : Int := if within e.key.length 1 48 = false then 0 else if isShort e then 1 else if e.val ≠ [] then 0 else if isLong e then 2 else if isNest e then 3 else 0

def Dg.list (d : Dg) : List UInt8 := [d.b0, d.b1, d.b2, d.b3, d.b4, d.b5, d.b6, d.b7, d.b8, d.b9, d.b10, d.b11, d.b12, d.b13, d.b14, d.b15]
theorem Dg.list_inj {a b : Dg} : a.list = b.list ↔ a = b := by
  constructor
  · intro h
    obtain ⟨a0, a1, a2, a3, a4, a5, a6, a7, a8, a9, a10, a11, a12, a13, a14, a15⟩ := a
    obtain ⟨c0, c1, c2, c3, c4, c5, c6, c7, c8, c9, c10, c11, c12, c13, c14, c15⟩ := b
    simpa [Dg.list] using h
  · intro h; rw [h]
theorem eq_u8 (x y : UInt8) : ((((x.toNat : Nat) : Int) == y.toNat) : Bool) = decide (x = y) := by
  by_cases h : x = y
  · subst h; simp
  · simp [h]; intro h'; exact h (UInt8.toNat_inj.1 (by omega))
theorem allEq_u8 {f : Nat → AV → AV → Option Bool} {t : Nat} (hf : ∀ x y, f t (u8 x) (u8 y) = some (decide (x = y))) : ∀ (xs ys : List UInt8), xs.length = ys.length → allEq f (zipE t (xs.map u8) (ys.map u8)) = some (decide (xs = ys))
  | [], [], _ => rfl
  | [], y :: ys, h => by simp at h
  | x :: xs, [], h => by simp at h
  | x :: xs, y :: ys, h => by
    have ih := allEq_u8 hf xs ys (by simpa using h)
    show (match f t (u8 x) (u8 y) with | some true => allEq f (zipE t (xs.map u8) (ys.map u8)) | some false => some false | none => none) = _
    rw [hf, ih]
    by_cases h : x = y <;> simp [h]
def weighW (e : Entry) (lv : Int) : Int := if 0 < lv then e.key.length + 27 else if formOf e = 1 then e.key.length + e.val.length + 5 else if formOf e = 2 then e.key.length + 27 else if formOf e = 3 then e.key.length + 29 else 0
def weighB (e : Entry) (lv : Int) : Bool := if 0 < lv then branches e else formOf e == 1 || formOf e == 2 || formOf e == 3
/-- Strings are short enough for a machine. -/
def Entry.Ok (e : Entry) : Prop := e.key.length < 1099511627776 ∧ e.val.length < 1099511627776

def wsum (lv : Int) : List Entry → Option Int
  | [] => some 0
  | e :: r => if weighB e lv then (wsum lv r).map (weighW e lv + ·) else none
def weight (l : List Entry) (lv : Int) : Option Int := if within lv 0 20 then (wsum lv l).map (6 + ·) else none
end
end Go.Proofs
/- Contracts: a builder of strings, and numbers and digests that are written into it. -/
set_option linter.unusedVariables false
set_option linter.unusedSimpArgs false
namespace Go.Proofs
open Go Go.Abs

/-- What is not in F stays. -/
def Keep (hp hp' : AHeap) (F : List Nat) : Prop := hp.length ≤ hp'.length ∧ ∀ x, x < hp.length → x ∉ F → hp'[x]? = hp[x]?
theorem Keep.refl (hp : AHeap) (F : List Nat) : Keep hp hp F := ⟨Nat.le_refl _, fun _ _ _ => rfl⟩
theorem Keep.trans {a b c : AHeap} {F G : List Nat} (h1 : Keep a b F) (h2 : Keep b c G) (hs : ∀ x ∈ G, x ∈ F ∨ a.length ≤ x) : Keep a c F :=
  ⟨Nat.le_trans h1.1 h2.1, fun x hx hn => by
    rw [h2.2 x (Nat.lt_of_lt_of_le hx h1.1) fun hg => ?_, h1.2 x hx hn]
    rcases hs x hg with h | h
    · exact hn h
    · omega⟩
theorem Keep.mono {a b : AHeap} {F G : List Nat} (h : Keep a b F) (hs : ∀ x ∈ F, x ∈ G) : Keep a b G := ⟨h.1, fun x hx hn => h.2 x hx fun hf => hn (hs x hf)⟩
theorem Keep.app (h : AHeap) (x : AB) (F : List Nat) : Keep h (h ++ [x]) F := ⟨by simp, fun y hy _ => List.getElem?_append_left hy⟩
theorem Keep.set {h : AHeap} {b : Nat} {x : AB} {F : List Nat} (hb : b ∈ F) : Keep h (h.set b x) F := ⟨by simp, fun y hy hn => by rw [List.getElem?_set_ne]; rintro rfl; exact hn hb⟩
theorem lt_of_get {h : AHeap} {b : Nat} {x : AB} (hb : h[b]? = some x) : b < h.length := by
  rcases Nat.lt_or_ge b h.length with q | q
  · exact q
  · rw [List.getElem?_eq_none q] at hb; cases hb

def Buf (hp : AHeap) (b : Nat) (buf : AV) (bs : Str) (F : List Nat) : Prop :=
  (buf = .lst 0 [] true ∧ bs = [] ∧ F = [b]) ∨ (∃ bb ver frz, buf = .sl 1 bb ver 0 bs.length ∧ hp[bb]? = some (.cells ver (some 5) (bs.map u8) frz) ∧ b ≠ bb ∧ frz ≤ bs.length ∧ F = [b, bb])
abbrev tBld : Nat := 246
abbrev tWri : Nat := 248
/-- A builder in memory: its bytes, the blocks that are its own. -/
def BW (hp : AHeap) (b : Nat) (bs : Str) (F : List Nat) : Prop :=
  ∃ t a buf, hp[b]? = some (.cells 0 (some t) [a, buf] 0) ∧ (a = .nilp ∨ a = .ptr b 0 0) ∧ (t = tBld ∨ t = tWri) ∧ Buf hp b buf bs F
def Wrote (hp hp' : AHeap) (b : Nat) (F F' : List Nat) (bs : Str) : Prop := BW hp' b bs F' ∧ Keep hp hp' F ∧ ∀ x ∈ F', x ∈ F ∨ hp.length ≤ x
theorem Wrote.trans {h0 h1 h2 : AHeap} {b : Nat} {F F1 F2 : List Nat} {s1 s2 : Str} (w1 : Wrote h0 h1 b F F1 s1) (w2 : Wrote h1 h2 b F1 F2 s2) : Wrote h0 h2 b F F2 s2 :=
  ⟨w2.1, w1.2.1.trans w2.2.1 w1.2.2, fun x hx => by
    rcases w2.2.2 x hx with h | h
    · exact w1.2.2 x h
    · exact .inr (Nat.le_trans w1.2.1.1 h)⟩
theorem Wrote.refl {h : AHeap} {b : Nat} {F : List Nat} {s : Str} (w : BW h b s F) : Wrote h h b F F s := ⟨w, Keep.refl _ _, fun x hx => .inl hx⟩
theorem Buf.lt {hp : AHeap} {b : Nat} {buf : AV} {bs : Str} {F : List Nat} (h : Buf hp b buf bs F) : ∀ x ∈ F, x = b ∨ x < hp.length := by
  intro x hx
  rcases h with ⟨_, _, rfl⟩ | ⟨bb, ver, frz, _, h2, _, _, rfl⟩
  · simp at hx; exact .inl hx
  · simp at hx
    rcases hx with rfl | rfl
    · exact .inl rfl
    · exact .inr (lt_of_get h2)
theorem BW.lt {hp : AHeap} {b : Nat} {bs : Str} {F : List Nat} (h : BW hp b bs F) : ∀ x ∈ F, x < hp.length := by
  obtain ⟨t, a, buf, h1, _, _, h4⟩ := h
  intro x hx
  rcases h4.lt x hx with rfl | h
  · exact lt_of_get h1
  · exact h
theorem Buf.mem {hp : AHeap} {b : Nat} {buf : AV} {bs : Str} {F : List Nat} (h : Buf hp b buf bs F) : b ∈ F := by
  rcases h with ⟨_, _, rfl⟩ | ⟨bb, ver, frz, _, h2, _, _, rfl⟩ <;> simp
theorem BW.mem {hp : AHeap} {b : Nat} {bs : Str} {F : List Nat} (h : BW hp b bs F) : b ∈ F := by
  obtain ⟨t, a, buf, h1, _, _, h4⟩ := h
  exact h4.mem
/-- A builder stays where its blocks stay. -/
theorem BW.stays {hp hp' : AHeap} {b : Nat} {bs : Str} {F G : List Nat} (h : BW hp b bs F) (k : Keep hp hp' G) (hd : ∀ x ∈ F, x ∉ G) : BW hp' b bs F := by
  have hl := h.lt
  obtain ⟨t, a, buf, h1, h2, h3, h4⟩ := h
  refine ⟨t, a, buf, ?_, h2, h3, ?_⟩
  · rw [k.2 b (lt_of_get h1) (hd b h4.mem)]; exact h1
  · rcases h4 with h4 | ⟨bb, ver, frz, g1, g2, g3, g4, rfl⟩
    · exact .inl h4
    · refine .inr ⟨bb, ver, frz, g1, ?_, g3, g4, rfl⟩
      rw [k.2 bb (hl bb (by simp)) (hd bb (by simp))]; exact g2

theorem u8_scal (s : Str) : ((s.map u8).all AV.scal) = true := by
  rw [List.all_eq_true]
  intro x hx
  obtain ⟨b, _, rfl⟩ := List.mem_map.1 hx
  rfl
theorem toBytes_map : ∀ (s : Str), toBytes (s.map u8) = some s
  | [] => rfl
  | b :: r => by
    show (toBytes (r.map u8)).map (UInt8.ofNat (b.toNat : Int).toNat :: ·) = _
    rw [toBytes_map r]; simp
section
variable {n : Nat}
end
end Go.Proofs
/- Contracts: numbers and digests that are written into a builder. -/
set_option linter.unusedVariables false
set_option linter.unusedSimpArgs false
namespace Go.Proofs
open Go Go.Abs

/-- A number of so many bytes, the most significant one first. -/
def num (k : Nat) : Nat → Str
  | 0 => []
  | w + 1 => UInt8.ofNat (k / 256 ^ w) :: num k w
theorem num_len (k : Nat) : ∀ w, (num k w).length = w
  | 0 => rfl
  | w + 1 => by simp [num, num_len k w]
theorem byte_of {k i : Nat} (hi : i ≤ 7) : IntKind.u8.wrap (((k : Int)).fdiv (2 ^ (min ((8 * (i : Int))).toNat IntKind.i64.bits))) = ((UInt8.ofNat (k / 256 ^ i)).toNat : Int) := by
  have h1 : min (8 * (i : Int)).toNat IntKind.i64.bits = 8 * i := by show min (8 * (i : Int)).toNat 64 = 8 * i; omega
  rw [h1, Int.fdiv_eq_ediv_of_nonneg _ (by exact Int.pow_nonneg (by decide))]
  have h2 : ((k : Int)) / (2 ^ (8 * i) : Int) = ((k / 256 ^ i : Nat) : Int) := by
    rw [show (256 : Nat) = 2 ^ 8 by rfl, ← Nat.pow_mul]
    norm_cast
  rw [h2]
  show (if (IntKind.u8.signed && decide (((k / 256 ^ i : Nat) : Int) % (2 ^ 8 : Int) ≥ (2 ^ (8 - 1) : Int))) = true then ((k / 256 ^ i : Nat) : Int) % (2 ^ 8 : Int) - 2 ^ 8 else ((k / 256 ^ i : Nat) : Int) % (2 ^ 8 : Int)) = _
  rw [if_neg (by simp [IntKind.signed]), UInt8.toNat_ofNat']
  omega
def Dg.bytes (d : Dg) : Str := d.list
section
variable {n : Nat}
end
end Go.Proofs
/- The looked-up text of the functions. -/
namespace Go.Proofs
open Go Go.Abs
/- f280 (understory/page.node).entry: 86 temporaries, depth 7, 4 parameters, results [] -/
/- f278 (understory/page.node).write: 86 temporaries, depth 7, 2 parameters, results [] -/
/- f276 (understory/page.piece).write: 19 temporaries, depth 5, 2 parameters, results [] -/
/- f277 (understory/page.list).write: 45 temporaries, depth 6, 2 parameters, results [] -/
end Go.Proofs
/- Contracts: entries, pieces and lists that are written into a builder. -/
set_option linter.unusedVariables false
set_option linter.unusedSimpArgs false
namespace Go.Proofs
open Go Go.Abs

theorem Wrote.keep {h h' : AHeap} {b x : Nat} {F F' : List Nat} {s : Str} {v : AB} (w : Wrote h h' b F F' s) (hx : h[x]? = some v) (hn : x ∉ F) : h'[x]? = some v ∧ x ∉ F' := by
  have hl := lt_of_get hx
  refine ⟨by rw [w.2.1.2 x hl hn]; exact hx, fun hf => ?_⟩
  rcases w.2.2 x hf with h | h
  · exact hn h
  · omega
theorem BW.app {h : AHeap} {b : Nat} {F : List Nat} {s : Str} (w : BW h b s F) (x : AB) : BW (h ++ [x]) b s F ∧ (h ++ [x])[h.length]? = some x ∧ h.length ∉ F :=
  ⟨w.stays (Keep.app h x []) (by simp), get_last _ _, fun hf => by have := w.lt _ hf; omega⟩
section
variable {n : Nat} {hp : AHeap} {b : Nat} {bs : Str} {F : List Nat} {K X : AV → AHeap → Prop}
def restB (e : Entry) (lv : Int) : Str :=
  if 0 < lv then num e.child.toNat 4 ++ (num e.count.toNat 4 ++ e.sum.bytes)
  else if 0 < e.over then num 65535 2 ++ (num e.over.toNat 4 ++ (num e.len.toNat 2 ++ e.sum.bytes))
  else if 0 < e.child then num 65534 2 ++ (num e.child.toNat 4 ++ (num e.count.toNat 4 ++ e.sum.bytes))
  else num e.val.length 2 ++ e.val
def entB (c : Nat) (e : Entry) (lv : Int) : Str := num (e.key.length - c) 1 ++ (e.key.drop c ++ restB e lv)
end
end Go.Proofs
/- Contracts: a reader of strings. -/
set_option linter.unusedVariables false
set_option linter.unusedSimpArgs false
namespace Go.Proofs
open Go Go.Abs
abbrev tRdr : Nat := 312
/-- A reader in memory: what it has yet to read. -/
def RDs (hp : AHeap) (b : Nat) (s : Str) : Prop := ∃ (all : Str) (at' : Nat), hp[b]? = some (.cells 0 (some tRdr) [.str all, i64 at'] 0) ∧ at' ≤ all.length ∧ all.length < 1073741824 ∧ all.drop at' = s
theorem RDs.stays {hp hp' : AHeap} {b : Nat} {s : Str} {F : List Nat} (r : RDs hp b s) (k : Keep hp hp' F) (hb : b ∉ F) : RDs hp' b s := by
  obtain ⟨all, a, h1, h2, h3, h4⟩ := r
  exact ⟨all, a, by rw [k.2 b (lt_of_get h1) hb]; exact h1, h2, h3, h4⟩
theorem RDs.lt {hp : AHeap} {b : Nat} {s : Str} (r : RDs hp b s) : b < hp.length := by
  obtain ⟨all, a, h1, _⟩ := r; exact lt_of_get h1
theorem RDs.len {hp : AHeap} {b : Nat} {s : Str} (r : RDs hp b s) : s.length < 1073741824 := by
  obtain ⟨all, a, h1, h2, h3, rfl⟩ := r
  simp; omega
theorem Keep.get {h h' : AHeap} {F : List Nat} {x : Nat} {v : AB} (k : Keep h h' F) (hx : h[x]? = some v) (hn : x ∉ F) : h'[x]? = some v := by
  rw [k.2 x (lt_of_get hx) hn]; exact hx
section
variable {n : Nat} {hp : AHeap} {b : Nat} {s : Str} {K X : AV → AHeap → Prop}
def unnum (s : Str) : Nat := s.foldl (fun n b => n * 256 + b.toNat) 0
theorem unnum_app (s : Str) (c : UInt8) : unnum (s ++ [c]) = unnum s * 256 + c.toNat := by simp [unnum]
theorem unnum_lt : ∀ (k : Nat) (s : Str), s.length = k → unnum s < 256 ^ k
  | 0, s, h => by have := List.length_eq_zero_iff.1 h; subst this; simp [unnum]
  | k + 1, s, h => by
    obtain ⟨t, c, rfl⟩ : ∃ t c, s = t ++ [c] := ⟨s.dropLast, s.getLast (by intro e; subst e; simp at h), (List.dropLast_concat_getLast _).symm⟩
    have := unnum_lt k t (by simpa using h)
    have hc := c.toNat_lt
    rw [unnum_app, Nat.pow_succ]
    omega
theorem or_byte (x : Nat) (c : UInt8) (hx : x < 36028797018963968) : IntKind.i64.wrap (BitVec.ofInt IntKind.i64.bits ((x * 256 : Nat) : Int) ||| BitVec.ofInt IntKind.i64.bits ((c.toNat : Nat) : Int)).toNat = ((x * 256 + c.toNat : Nat) : Int) := by
  have hc := c.toNat_lt
  have e : (BitVec.ofInt 64 ((x * 256 : Nat) : Int) ||| BitVec.ofInt 64 ((c.toNat : Nat) : Int)).toNat = x * 256 + c.toNat := by
    rw [BitVec.toNat_or, BitVec.ofInt_natCast, BitVec.ofInt_natCast, BitVec.toNat_ofNat, BitVec.toNat_ofNat, Nat.mod_eq_of_lt (by omega), Nat.mod_eq_of_lt (by omega)]
    have := Nat.shiftLeft_add_eq_or_of_lt (show c.toNat < 2 ^ 8 by omega) x
    rw [Nat.shiftLeft_eq] at this
    exact this.symm
  show IntKind.i64.wrap ((BitVec.ofInt 64 ((x * 256 : Nat) : Int) ||| BitVec.ofInt 64 ((c.toNat : Nat) : Int)).toNat : Int) = _
  rw [e]
  exact wrap_i64 (by omega) (by omega)
theorem shl_byte (x : Nat) (hx : x < 36028797018963968) : IntKind.i64.wrap ((x : Int) * 2 ^ (min (8 : Int).toNat IntKind.i64.bits)) = ((x * 256 : Nat) : Int) := by
  have : min (8 : Int).toNat IntKind.i64.bits = 8 := by decide
  rw [this, wrap_i64 (by omega) (by omega)]
  omega

end
end Go.Proofs
/- Contracts: digests that are read. -/
set_option linter.unusedVariables false
set_option linter.unusedSimpArgs false
namespace Go.Proofs
open Go Go.Abs
theorem load_agg {h : AHeap} {t N b ver : Nat} {el : Option TypeId} {cs : List AV} {f : Nat} (ht : (ti Tryz.prog t).map (fun d => (isAggD d.desc, d.size)) = some (true, N)) (hN : cs.length = N) (hb : h[b]? = some (.cells ver el cs f)) : loadA Tryz.prog h t (.ptr b ver 0) = some (.agg cs) := by
  obtain ⟨d, h1, h2⟩ := Option.map_eq_some_iff.1 ht
  simp only [Prod.mk.injEq] at h2
  unfold loadA
  simp only [h1, hb, if_true]
  unfold partA
  rw [h2.1, h2.2, ← hN]
  simp
def dgOf (t : Str) : Dg := ⟨t.getD 0 0, t.getD 1 0, t.getD 2 0, t.getD 3 0, t.getD 4 0, t.getD 5 0, t.getD 6 0, t.getD 7 0, t.getD 8 0, t.getD 9 0, t.getD 10 0, t.getD 11 0, t.getD 12 0, t.getD 13 0, t.getD 14 0, t.getD 15 0⟩
theorem dgOf_bytes : ∀ (t : Str), t.length = 16 → (dgOf t).bytes = t
  | [a0, a1, a2, a3, a4, a5, a6, a7, a8, a9, a10, a11, a12, a13, a14, a15], _ => rfl
theorem dgOf_dg (d : Dg) : dgOf d.bytes = d := rfl
section
variable {n : Nat} {hp : AHeap} {b : Nat} {s : Str} {K X : AV → AHeap → Prop}
end
end Go.Proofs
/- Contracts: pieces and lists of freed pages that are written into a builder. -/
set_option linter.unusedVariables false
set_option linter.unusedSimpArgs false
namespace Go.Proofs
open Go Go.Abs

/-- How a slice is held: the size of its elements, and whether its capacity is known. -/
structure Sh where
  sz : Nat
  c : Bool
structure Freed where
  ver : Int
  sh : Sh
  pages : List Int
def Freed.cells (f : Freed) : List AV := [i64 f.ver, .lst f.sh.sz (f.pages.map i64) f.sh.c]
def Freed.av (f : Freed) : AV := .agg f.cells
def Freed.Ok (f : Freed) : Prop := f.pages ≠ [] → f.sh.sz = 1
def pieceB (next : Int) (data : Str) : Str := num next.toNat 4 ++ (num data.length 2 ++ data)
def pagesB (l : List Int) : Str := l.flatMap fun n => num n.toNat 4
def freedB (f : Freed) : Str := num f.ver.toNat 6 ++ (num f.pages.length 2 ++ pagesB f.pages)
def freedsB (l : List Freed) : Str := l.flatMap freedB
def listB (next : Int) (l : List Freed) : Str := num next.toNat 4 ++ (num l.length 2 ++ freedsB l)
section
variable {n : Nat} {hp : AHeap} {b : Nat} {bs : Str} {F : List Nat} {K X : AV → AHeap → Prop}

end
end Go.Proofs
/- Contracts: contents of entries that are read. -/
set_option linter.unusedVariables false
set_option linter.unusedSimpArgs false
namespace Go.Proofs
open Go Go.Abs
def ptext (k : Nat) (s : Str) : Option (Str × Str) := if k ≤ s.length then some (s.take k, s.drop k) else none
def pnum (w : Nat) (s : Str) : Option (Nat × Str) := if w ≤ s.length then some (unnum (s.take w), s.drop w) else none
def psum (s : Str) : Option (Dg × Str) := if 16 ≤ s.length then some (dgOf (s.take 16), s.drop 16) else none
def pcont2 (key : Str) (long : Nat) (s : Str) : Option (Entry × Str) :=
  if long = 65535 then (pnum 4 s).bind fun o => (pnum 2 o.2).bind fun l => (psum l.2).map fun d => (⟨key, [], o.1, l.1, 0, 0, d.1⟩, d.2)
  else if long = 65534 then (pnum 4 s).bind fun o => (pnum 4 o.2).bind fun l => (psum l.2).map fun d => (⟨key, [], 0, 0, o.1, l.1, d.1⟩, d.2)
  else (ptext long s).map fun v => (⟨key, v.1, 0, 0, 0, 0, Dg.zero⟩, v.2)
def pcont (key : Str) (lv : Int) (s : Str) : Option (Entry × Str) := if lv = 0 then (pnum 2 s).bind fun l => pcont2 key l.1 l.2 else pcont2 key 65534 s
section
variable {n : Nat} {hp : AHeap} {b E : Nat} {s : Str} {K X : AV → AHeap → Prop}
end
end Go.Proofs
/- The looked-up text of the functions. -/
namespace Go.Proofs
open Go Go.Abs
/- f231 (*understory/page.reader).body: 95 temporaries, depth 7, 2 parameters, results [t4] -/
end Go.Proofs
/- Lists that grow in memory; rounds of a range that appends. -/
set_option linter.unusedVariables false
set_option linter.unusedSimpArgs false
namespace Go.Proofs
open Go Go.Abs
/-- A slice that grows: its rows of cells. -/
def GBuf (el : TypeId) (sz : Nat) (hp : AHeap) (X : Nat) (L : AV) (rows : List (List AV)) (G : List Nat) : Prop :=
  (∀ r ∈ rows, r.length = sz ∧ r.all AV.scal = true) ∧ ((L = .lst 0 [] true ∧ rows = [] ∧ G = [X]) ∨ (∃ eb ver frz, L = .sl sz eb ver 0 rows.length ∧ hp[eb]? = some (.cells ver (some el) rows.flatten frz) ∧ X ≠ eb ∧ frz ≤ rows.flatten.length ∧ G = [X, eb]))
theorem GBuf.mem {el sz : Nat} {hp : AHeap} {X : Nat} {L : AV} {rows : List (List AV)} {G : List Nat} (h : GBuf el sz hp X L rows G) : X ∈ G := by
  rcases h.2 with ⟨_, _, rfl⟩ | ⟨eb, ver, frz, _, h2, _, _, rfl⟩ <;> simp
theorem GBuf.lt {el sz : Nat} {hp : AHeap} {X : Nat} {L : AV} {rows : List (List AV)} {G : List Nat} (h : GBuf el sz hp X L rows G) (hX : X < hp.length) : ∀ x ∈ G, x < hp.length := by
  intro x hx
  rcases h.2 with ⟨_, _, rfl⟩ | ⟨eb, ver, frz, _, h2, _, _, rfl⟩
  · simp at hx; omega
  · simp at hx
    rcases hx with rfl | rfl
    · exact hX
    · exact lt_of_get h2
theorem GBuf.stays {el sz : Nat} {hp hp' : AHeap} {X : Nat} {L : AV} {rows : List (List AV)} {G : List Nat} (h : GBuf el sz hp X L rows G) (e : ∀ x ∈ G, x ≠ X → hp'[x]? = hp[x]?) : GBuf el sz hp' X L rows G := by
  refine ⟨h.1, ?_⟩
  rcases h.2 with h | ⟨eb, ver, frz, h1, h2, h3, h4, rfl⟩
  · exact .inl h
  · exact .inr ⟨eb, ver, frz, h1, by rw [e eb (by simp) (Ne.symm h3)]; exact h2, h3, h4, rfl⟩
end Go.Proofs
/- Contracts: rounds of the range over the entries that are read. -/
set_option linter.unusedVariables false
set_option linter.unusedSimpArgs false
namespace Go.Proofs
open Go Go.Abs
/-- The node that is filled, and the round's text. -/
structure XS (hp : AHeap) (X Bk : Nat) (tree lv : Int) (top : Bool) (lp : AB) (es : List Entry) (G : List Nat) : Prop where
  node : ∃ L, hp[X]? = some (.cells 0 (some 296) [i64 tree, i64 lv, .bool top, L] 0) ∧ GBuf 147 22 hp X L (es.map Entry.cells) G
  loop : hp[Bk]? = some lp
  out : Bk ∉ G
theorem XS.lt {hp : AHeap} {X Bk : Nat} {tree lv : Int} {top : Bool} {lp : AB} {es : List Entry} {G : List Nat} (h : XS hp X Bk tree lv top lp es G) : ∀ x ∈ G, x < hp.length := by
  obtain ⟨L, h1, h2⟩ := h.node
  exact h2.lt (lt_of_get h1)
theorem XS.stays {hp hp' : AHeap} {X Bk : Nat} {tree lv : Int} {top : Bool} {lp : AB} {es : List Entry} {G F : List Nat} (h : XS hp X Bk tree lv top lp es G) (k : Keep hp hp' F) (hG : ∀ x ∈ G, x ∉ F) (hB : Bk ∉ F) : XS hp' X Bk tree lv top lp es G := by
  have hl := h.lt
  obtain ⟨⟨L, h1, h2⟩, h3, h4⟩ := h
  exact ⟨⟨L, k.get h1 (hG _ h2.mem), h2.stays fun x hx _ => k.2 x (hl x hx) (hG x hx)⟩, k.get h3 hB, h4⟩
section
variable {n : Nat} {hp : AHeap}
end
end Go.Proofs
/- Contracts: the entries that are read, one round each. -/
set_option linter.unusedVariables false
set_option linter.unusedSimpArgs false
namespace Go.Proofs
open Go Go.Abs
def preK (pre : Str) (lv : Int) (i : Nat) : Str := if 0 < i ∨ lv = 0 then pre else []
def pent (pre : Str) (lv : Int) (i : Nat) (s : Str) : Option (Entry × Str) := (pnum 1 s).bind fun k => (ptext k.1 k.2).bind fun t => pcont (preK pre lv i ++ t.1) lv t.2
def pents (pre : Str) (lv : Int) : Nat → Nat → Str → Option (List Entry × Str)
  | 0, _, s => some ([], s)
  | c + 1, i, s => (pent pre lv i s).bind fun e => (pents pre lv c (i + 1) e.2).map fun r => (e.1 :: r.1, r.2)
section
variable {n : Nat} {hp : AHeap} {b : Nat} {s : Str}
structure Clo (hp : AHeap) (N R LV PF b : Nat) (k : Nat) (lv : Int) (pre : Str) : Prop where
  cn : hp[N]? = some (.cells 0 (some 3) [i64 k] 0)
  cr : hp[R]? = some (.cells 0 (some 308) [.ptr b 0 0] 0)
  cl : hp[LV]? = some (.cells 0 (some 3) [i64 lv] 0)
  cp : hp[PF]? = some (.cells 0 (some 9) [.str pre] 0)
theorem Clo.stays {hp hp' : AHeap} {N R LV PF b : Nat} {k : Nat} {lv : Int} {pre : Str} {F : List Nat} (c : Clo hp N R LV PF b k lv pre) (h : Keep hp hp' F) (hn : N ∉ F ∧ R ∉ F ∧ LV ∉ F ∧ PF ∉ F) : Clo hp' N R LV PF b k lv pre :=
  ⟨h.get c.cn hn.1, h.get c.cr hn.2.1, h.get c.cl hn.2.2.1, h.get c.cp hn.2.2.2⟩
end
end Go.Proofs
/- Contracts: bodies of nodes that are read. -/
set_option linter.unusedVariables false
set_option linter.unusedSimpArgs false
namespace Go.Proofs
open Go Go.Abs
structure NodeP where
  tree : Nat
  lv : Nat
  top : Bool
  es : List Entry
def pnode (s : Str) : Option (NodeP × Str) :=
  (pnum 1 s).bind fun t => (pnum 1 t.2).bind fun l => (pnum 1 l.2).bind fun o => (pnum 1 o.2).bind fun z => (pnum 2 z.2).bind fun n => (ptext z.1 n.2).bind fun p => (ptext (2 * n.1) p.2).bind fun q => (pents p.1 l.1 n.1 0 q.2).map fun e => (⟨t.1, l.1, o.1 == 1, e.1⟩, e.2)
section
variable {n : Nat} {hp : AHeap} {b : Nat} {s : Str}
end
end Go.Proofs
/- Contracts: bodies of pieces and of lists that are read. -/
set_option linter.unusedVariables false
set_option linter.unusedSimpArgs false
namespace Go.Proofs
open Go Go.Abs
def ppiece (s : Str) : Option ((Nat × Str) × Str) := (pnum 4 s).bind fun a => (pnum 2 a.2).bind fun z => (ptext z.1 z.2).map fun d => ((a.1, d.1), d.2)
def ppages : Nat → Str → Option (List Nat × Str)
  | 0, s => some ([], s)
  | k + 1, s => (pnum 4 s).bind fun a => (ppages k a.2).map fun r => (a.1 :: r.1, r.2)
def pfreeds : Nat → Str → Option (List (Nat × List Nat) × Str)
  | 0, s => some ([], s)
  | k + 1, s => (pnum 6 s).bind fun v => (pnum 2 v.2).bind fun z => (ppages z.1 z.2).bind fun p => (pfreeds k p.2).map fun r => ((v.1, p.1) :: r.1, r.2)
def plist (s : Str) : Option ((Nat × List (Nat × List Nat)) × Str) := (pnum 4 s).bind fun a => (pnum 2 a.2).bind fun z => (pfreeds z.1 z.2).map fun d => ((a.1, d.1), d.2)
section
variable {n : Nat} {hp : AHeap} {b : Nat} {s : Str}
end
end Go.Proofs
/- Contracts: lists of freed pages that are read: the numbers of one. -/
set_option linter.unusedVariables false
set_option linter.unusedSimpArgs false
namespace Go.Proofs
open Go Go.Abs
def row1 (ps : List Nat) : List (List AV) := ps.map fun p : Nat => [i64 p]
/-- The numbers that stand in a block of their own. -/
structure PG (hp : AHeap) (X : Nat) (ver : Int) (ps : List Nat) (G : List Nat) : Prop where
  ex : ∃ L, hp[X]? = some (.cells 0 (some 145) [i64 ver, L] 0) ∧ GBuf 3 1 hp X L (row1 ps) G
theorem PG.lt {hp : AHeap} {X : Nat} {ver : Int} {ps : List Nat} {G : List Nat} (h : PG hp X ver ps G) : ∀ x ∈ G, x < hp.length := by
  obtain ⟨L, h1, h2⟩ := h.ex
  exact h2.lt (lt_of_get h1)
theorem PG.stays {hp hp' : AHeap} {X : Nat} {ver : Int} {ps : List Nat} {G F : List Nat} (h : PG hp X ver ps G) (k : Keep hp hp' F) (hG : ∀ x ∈ G, x ∉ F) : PG hp' X ver ps G := by
  have hl := h.lt
  obtain ⟨L, h1, h2⟩ := h.ex
  exact ⟨L, k.get h1 (hG _ h2.mem), h2.stays fun x hx _ => k.2 x (hl x hx) (hG x hx)⟩
section
variable {hp : AHeap} {b : Nat} {s : Str}
end
end Go.Proofs
/- Contracts: lists of freed pages that are read. -/
set_option linter.unusedVariables false
set_option linter.unusedSimpArgs false
namespace Go.Proofs
open Go Go.Abs
/-- A list of numbers in memory. -/
def Inr (h : AHeap) (ps : List Nat) (L : AV) (I : List Nat) : Prop := (L = .lst 0 [] true ∧ ps = []) ∨ ∃ eb ver frz, L = .sl 1 eb ver 0 ps.length ∧ h[eb]? = some (.cells ver (some 3) (ps.map fun p : Nat => i64 p) frz) ∧ eb ∈ I
theorem Inr.stays {h h' : AHeap} {ps : List Nat} {L : AV} {I I' : List Nat} (r : Inr h ps L I) (e : ∀ x ∈ I, h'[x]? = h[x]?) (hs : ∀ x ∈ I, x ∈ I') : Inr h' ps L I' := by
  rcases r with r | ⟨eb, ver, frz, r1, r2, r3⟩
  · exact .inl r
  · exact .inr ⟨eb, ver, frz, r1, by rw [e eb r3]; exact r2, hs eb r3⟩
theorem Inr.scal {h : AHeap} {ps : List Nat} {L : AV} {I : List Nat} (r : Inr h ps L I) : AV.scal L = true := by
  rcases r with ⟨rfl, _⟩ | ⟨eb, ver, frz, rfl, _⟩ <;> rfl
theorem row1_flat : ∀ ps : List Nat, (row1 ps).flatten = ps.map fun p : Nat => i64 p
  | [] => rfl
  | p :: r => by
    have := row1_flat r
    simp only [row1, List.map_cons, List.flatten_cons] at this ⊢
    rw [this]; rfl
theorem GBuf.inr {h : AHeap} {X : Nat} {L : AV} {ps : List Nat} {G : List Nat} (g : GBuf 3 1 h X L (row1 ps) G) : Inr h ps L G := by
  rcases g.2 with ⟨h1, h2, h3⟩ | ⟨eb, ver, frz, h1, h2, h3, h4, h5⟩
  · left
    refine ⟨h1, ?_⟩
    cases ps with
    | nil => rfl
    | cons a r => simp [row1] at h2
  · right
    refine ⟨eb, ver, frz, ?_, ?_, by rw [h5]; simp⟩
    · rw [h1]; simp [row1]
    · rw [h2, row1_flat]
abbrev FT : Type := Nat × List Nat × AV
def rowF (t : FT) : List AV := [i64 t.1, t.2.2]
/-- A list of freed pages in memory: the slice, the lists in it. -/
structure LV (h : AHeap) (Y : Nat) (LL : AV) (ts : List FT) (G I : List Nat) : Prop where
  buf : GBuf 145 2 h Y LL (ts.map rowF) G
  inr : ∀ t ∈ ts, Inr h t.2.1 t.2.2 I
theorem LV.stays {h h' : AHeap} {Y : Nat} {LL : AV} {ts : List FT} {G I : List Nat} (v : LV h Y LL ts G I) (e : ∀ x ∈ G, x ≠ Y → h'[x]? = h[x]?) (ei : ∀ x ∈ I, h'[x]? = h[x]?) : LV h' Y LL ts G I :=
  ⟨v.buf.stays e, fun t ht => (v.inr t ht).stays ei fun _ h => h⟩
section
variable {hp : AHeap} {b : Nat} {s : Str}
end
end Go.Proofs
/- Contracts: bodies of lists that are read. -/
set_option linter.unusedVariables false
set_option linter.unusedSimpArgs false
namespace Go.Proofs
open Go Go.Abs
section
variable {n : Nat} {hp : AHeap} {b : Nat} {s : Str}
end
end Go.Proofs
/- What is read, taken out of its memory. -/
set_option linter.unusedVariables false
set_option linter.unusedSimpArgs false
namespace Go.Proofs
open Go Go.Abs
def FreedIs (f : Freed) (t : Nat × List Nat) : Prop := f.ver = t.1 ∧ f.pages = t.2.map (fun p : Nat => (p : Int)) ∧ f.Ok
inductive FsAre : List Freed → List (Nat × List Nat) → Prop
  | nil : FsAre [] []
  | cons {f : Freed} {t : Nat × List Nat} {fs : List Freed} {ts : List (Nat × List Nat)} (h : FreedIs f t) (r : FsAre fs ts) : FsAre (f :: fs) (t :: ts)
theorem FsAre.length_eq : ∀ {fs : List Freed} {ts : List (Nat × List Nat)}, FsAre fs ts → fs.length = ts.length
  | _, _, .nil => rfl
  | _, _, .cons _ r => by simp [r.length_eq]
section
variable {n : Nat} {f : FuncId} {rc : RC} {args : List AV} {np nt d : Nat} {rs : List ResultVar}
end
end Go.Proofs
/- The looked-up text of the functions. -/
namespace Go.Proofs
open Go Go.Abs
/- f206 understory/page.read: 61 temporaries, depth 6, 1 parameters, results [*t2, *t3] -/
/- f230 understory/page.read$1: 17 temporaries, depth 5, 0 parameters, results [] -/
end Go.Proofs
/- The looked-up text of the functions. -/
namespace Go.Proofs
open Go Go.Abs
/- f205 understory/page.Head: 42 temporaries, depth 6, 1 parameters, results [t2, t3, t4, t5] -/
/- f162 understory/page.Decode: 48 temporaries, depth 6, 1 parameters, results [*t2, t3] -/
end Go.Proofs
/- The looked-up text of the functions. -/
namespace Go.Proofs
open Go Go.Abs
/- f193 understory/page.plain: 22 temporaries, depth 5, 1 parameters, results [t2] -/
/- f194 understory/page.linked: 9 temporaries, depth 4, 1 parameters, results [t2] -/
/- f195 understory/page.freed: 66 temporaries, depth 7, 1 parameters, results [t2] -/
/- f196 understory/page.listed: 21 temporaries, depth 5, 1 parameters, results [t2] -/
/- f143 understory/page.Check: 102 temporaries, depth 7, 1 parameters, results [t2] -/
/- f175 understory/page.bodyOf: 31 temporaries, depth 6, 1 parameters, results [t2] -/
/- f179 understory/page.ended: 21 temporaries, depth 5, 1 parameters, results [t2] -/
/- f207 understory/page.blockOf: 8 temporaries, depth 4, 1 parameters, results [*t2] -/
/- f119 understory/page.Encode: 45 temporaries, depth 6, 1 parameters, results [t2, t3] -/
end Go.Proofs
/- Contracts of functions of a page: weights of lists. -/
set_option linter.unusedVariables false
set_option linter.unusedSimpArgs false
namespace Go.Proofs
open Go Go.Abs
section
variable {n : Nat} {h : AHeap}

end
end Go.Proofs
/- Contracts of functions of a page: valid entries. -/
set_option linter.unusedVariables false
set_option linter.unusedSimpArgs false
namespace Go.Proofs
open Go Go.Abs
instance : Inhabited Entry := ⟨⟨[], [], 0, 0, 0, 0, Dg.zero⟩⟩

def keyAt (l : List Entry) (j : Nat) : Str := (l.getD j default).key
/-- An entry is valid, behind those in front of it. -/
def vAt (lv : Int) (l : List Entry) (j : Nat) : Bool :=
  (if lv = 0 then formOf (l.getD j default) != 0 else branches (l.getD j default) && (j == 0 || keyAt l j != [])) && (j == 0 || decide (cmpS (keyAt l (j - 1)) (keyAt l j) < 0))
def valid (l : List Entry) (lv : Int) : Bool :=
  within lv 0 20 && l != [] && (lv == 0 || (decide (2 ≤ l.length) && keyAt l 0 == [])) && (List.range l.length).all (vAt lv l)

section
variable {n : Nat} {h : AHeap}
end
end Go.Proofs
/- Contracts: few entries, entries that fit, the capacity. -/
set_option linter.unusedVariables false
set_option linter.unusedSimpArgs false
namespace Go.Proofs
open Go Go.Abs
section
variable {n : Nat} {h : AHeap}
def fits (l : List Entry) (lv : Int) : Bool := valid l lv && (match weight l lv with | some n => decide (n ≤ 496) | none => false)
end
end Go.Proofs
/- Contracts: shared prefixes and sizes. -/
set_option linter.unusedVariables false
set_option linter.unusedSimpArgs false
namespace Go.Proofs
open Go Go.Abs
/-- How long the common prefix is. -/
def cp : Str → Str → Nat
  | a :: x, b :: y => if a = b then cp x y + 1 else 0
  | _, _ => 0
section
variable {n : Nat} {h : AHeap}
/-- The shared prefix. -/
def pre2 (p k : Str) : Str := p.take (cp p k)
def tailE (l : List Entry) (lv : Int) : List Entry := if 0 < lv then l.drop 1 else l
def shared (l : List Entry) (lv : Int) : Str := ((tailE l lv).drop 1).foldl (fun p e => pre2 p e.key) ((tailE l lv).headD default).key

end
end Go.Proofs
/- Contracts: sizes; entries behind a string. -/
set_option linter.unusedVariables false
set_option linter.unusedSimpArgs false
namespace Go.Proofs
open Go Go.Abs
section
variable {n : Nat} {h : AHeap}
end
end Go.Proofs
/- Contracts: pages that are well-formed. -/
set_option linter.unusedVariables false
set_option linter.unusedSimpArgs false
namespace Go.Proofs
open Go Go.Abs

structure Page where
  kind : Int
  no : Int
  ver : Int
  tree : Int
  level : Int
  top : Bool
  esh : Sh
  entries : List Entry
  next : Int
  data : Str
  fsh : Sh
  freed : List Freed
def Page.cells (p : Page) : List AV := [i64 p.kind, i64 p.no, i64 p.ver, i64 p.tree, i64 p.level, .bool p.top, .lst p.esh.sz (p.entries.map Entry.av) p.esh.c, i64 p.next, .str p.data, .lst p.fsh.sz (p.freed.map Freed.av) p.fsh.c]
def Page.av (p : Page) : AV := .agg p.cells
/-- Strings and lists are short enough for a machine; slices are held as they are. -/
structure Page.Ok (p : Page) : Prop where
  esz : p.entries ≠ [] → p.esh.sz = 22
  fsz : p.freed ≠ [] → p.fsh.sz = 2
  elen : p.entries.length < 1099511627776
  flen : p.freed.length < 1048576
  dlen : p.data.length < 1099511627776
  ent : ∀ e ∈ p.entries, e.Ok
  fr : ∀ f ∈ p.freed, f.Ok ∧ f.pages.length < 9223372036854775808
instance : Inhabited Freed := ⟨⟨0, ⟨0, true⟩, []⟩⟩
section
variable {n : Nat} {h : AHeap}
end
end Go.Proofs
/- Contracts: nodes that are written into a builder. -/
set_option linter.unusedVariables false
set_option linter.unusedSimpArgs false
namespace Go.Proofs
open Go Go.Abs

def cutAt (l : List Entry) (lv : Int) (i : Nat) : Nat := if i = 0 ∧ 0 < lv then 0 else (shared l lv).length
def entsB (l : List Entry) (lv : Int) (k : Nat) : Str := (List.range k).flatMap fun i => entB (cutAt l lv i) (l.getD i default) lv
def offsB (l : List Entry) (lv : Int) (base k : Nat) : Str := (List.range k).flatMap fun i => num (base + (entsB l lv i).length) 2
def nodeB (tree lv : Int) (top : Bool) (l : List Entry) (base : Nat) : Str :=
  num tree.toNat 1 ++ (num lv.toNat 1 ++ (num (if top then 1 else 0) 1 ++ (num (shared l lv).length 1 ++ (num l.length 2 ++ (shared l lv ++ (offsB l lv (base + 6 + (shared l lv).length + 2 * l.length) l.length ++ entsB l lv l.length))))))
/-- Two builders that have nothing in common. -/
theorem Wrote.apart {h h' : AHeap} {b : Nat} {F F' GA : List Nat} {s : Str} (w : Wrote h h' b F F' s) (hd : ∀ x ∈ GA, x ∉ F) (hl : ∀ x ∈ GA, x < h.length) : ∀ x ∈ GA, x ∉ F' := fun x hx hf => by
  rcases w.2.2 x hf with q | q
  · exact hd x hx q
  · have := hl x hx; omega
end Go.Proofs
/- Contracts: nodes that are written into a builder (the walk). -/
set_option linter.unusedVariables false
set_option linter.unusedSimpArgs false
namespace Go.Proofs
open Go Go.Abs
def nodeXs (tree lv : Int) (top : Bool) (l : List Entry) (sz : Nat) (c : Bool) : List AV := [i64 tree, i64 lv, .bool top, .lst sz (l.map Entry.av) c]
section
variable {n : Nat} {hp : AHeap} {b : Nat} {bs : Str} {F : List Nat} {K X : AV → AHeap → Prop}

end
end Go.Proofs
/- Contracts: pages that are well-formed; their bodies; the ends of blocks. -/
set_option linter.unusedVariables false
set_option linter.unusedSimpArgs false
namespace Go.Proofs
open Go Go.Abs
section
variable {n : Nat} {h : AHeap}
def Page.body (p : Page) : AV := if p.kind = 3 then .ifc 292 (.agg [i64 p.next, .str p.data]) else if p.kind = 4 then .ifc 294 (.agg [i64 p.next, .lst p.fsh.sz (p.freed.map Freed.av) p.fsh.c]) else .ifc 296 (.agg (nodeXs p.tree p.level p.top p.entries p.esh.sz p.esh.c))
/-- The last four bytes of a block. -/
def crcB (s : Str) : Str := [UInt8.ofNat ((crc s).toNat / 256 ^ 0), UInt8.ofNat ((crc s).toNat / 256 ^ 1), UInt8.ofNat ((crc s).toNat / 256 ^ 2), UInt8.ofNat ((crc s).toNat / 256 ^ 3)]
end
end Go.Proofs
/- The looked-up text of the functions. -/
namespace Go.Proofs
open Go Go.Abs
/- f177 strings.Repeat: 125 temporaries, depth 7, 2 parameters, results [t4] -/
/- f217 (*strings.Builder).Grow: 25 temporaries, depth 5, 2 parameters, results [] -/
/- f240 (*strings.Builder).grow: 30 temporaries, depth 5, 2 parameters, results [] -/
/- f215 math/bits.Mul: 30 temporaries, depth 5, 2 parameters, results [t4, t5] -/
/- f238 math/bits.Mul64: 51 temporaries, depth 6, 2 parameters, results [t4, t5] -/
/- f216 strings.HasPrefix: 8 temporaries, depth 4, 2 parameters, results [t4] -/
/- f239 internal/stringslite.HasPrefix: 18 temporaries, depth 5, 2 parameters, results [t4] -/
end Go.Proofs
/- Contracts: a byte repeated. -/
set_option linter.unusedVariables false
set_option linter.unusedSimpArgs false
namespace Go.Proofs
open Go Go.Abs
section
variable {n : Nat} {h : AHeap}
def zeros (k : Nat) : Str := List.replicate k 0
theorem zeros_len (k : Nat) : (zeros k).length = k := by simp [zeros]
end
end Go.Proofs
/- Contracts: Encode. -/
set_option linter.unusedVariables false
set_option linter.unusedSimpArgs false
namespace Go.Proofs
open Go Go.Abs
def Page.bodyB (p : Page) : Str := if p.kind = 3 then pieceB p.next p.data else if p.kind = 4 then listB p.next p.freed else nodeB p.tree p.level p.top p.entries 12
def Page.headB (p : Page) : Str := 85 :: (num p.kind.toNat 1 ++ (num p.no.toNat 4 ++ num p.ver.toNat 6))
def Page.used (p : Page) : Str := p.headB ++ p.bodyB
def Page.full (p : Page) : Str := p.used ++ zeros (508 - p.used.length)
def Page.enc (p : Page) : Str := p.full ++ crcB p.full
end Go.Proofs
/- Contracts: Encode (the walk). -/
set_option linter.unusedVariables false
set_option linter.unusedSimpArgs false
namespace Go.Proofs
open Go Go.Abs
section
variable {n : Nat} {h : AHeap}
end
end Go.Proofs
/- Contracts: blocks that are none: Head and Decode. -/
set_option linter.unusedVariables false
set_option linter.unusedSimpArgs false
namespace Go.Proofs
open Go Go.Abs
section
variable {n : Nat} {h : AHeap}
end
end Go.Proofs
/- Contracts: the deferred function that recovers. -/
set_option linter.unusedVariables false
set_option linter.unusedSimpArgs false
namespace Go.Proofs
open Go Go.Abs
section
variable {m : Nat} {h : AHeap} {P I : Nat}
end
end Go.Proofs
/- Contracts: blocks whose bodies are read. -/
set_option linter.unusedVariables false
set_option linter.unusedSimpArgs false
namespace Go.Proofs
open Go Go.Abs
inductive Bdy where
  | nd (x : NodeP)
  | pc (x : Nat × Str)
  | ls (x : Nat × List (Nat × List Nat))
def pbody (k : Nat) (s : Str) : Option Bdy := if k = 1 ∨ k = 2 then (pnode s).map fun x => .nd x.1 else if k = 3 then (ppiece s).map fun x => .pc x.1 else (plist s).map fun x => .ls x.1
structure Blk where
  kind : Nat
  no : Nat
  ver : Nat
  bd : Bdy
def pread (s : Str) : Option Blk := (pnum 1 ((s.take 508).drop 1)).bind fun k => (pnum 4 k.2).bind fun no => (pnum 6 no.2).bind fun v => (pbody k.1 v.2).map fun b => ⟨k.1, no.1, v.1, b⟩
/-- What a page has that was read. -/
def BdIs (q : Page) : Bdy → Prop
  | .nd x => q.tree = x.tree ∧ q.level = x.lv ∧ q.top = x.top ∧ q.entries = x.es ∧ q.next = 0 ∧ q.data = [] ∧ q.freed = []
  | .pc x => q.tree = 0 ∧ q.level = 0 ∧ q.top = false ∧ q.entries = [] ∧ q.next = x.1 ∧ q.data = x.2 ∧ q.freed = []
  | .ls x => q.tree = 0 ∧ q.level = 0 ∧ q.top = false ∧ q.entries = [] ∧ q.next = x.1 ∧ q.data = [] ∧ FsAre q.freed x.2
structure BlkIs (q : Page) (x : Blk) : Prop where
  kind : q.kind = x.kind
  no : q.no = x.no
  ver : q.ver = x.ver
  bd : BdIs q x.bd
  esz : q.entries ≠ [] → q.esh.sz = 22
  fsz : q.freed ≠ [] → q.fsh.sz = 2
theorem gs {h : AHeap} {x y : Nat} {v w : AB} (e : h[x]? = some v) (n : y ≠ x) : (h.set y w)[x]? = some v := by rw [List.getElem?_set_ne n]; exact e
theorem ge {h : AHeap} {x : Nat} {v w : AB} (e : h[x]? = some v) : (h.set x w)[x]? = some w := List.getElem?_set_self (lt_of_get e)
theorem cells_of {xs : List AV} (h : xs.all AV.scal = true) : AV.cells? (.agg xs) = some xs := by
  show (if xs.all AV.scal = true then some xs else none) = _
  rw [if_pos h]
theorem GBuf.one {el : TypeId} {sz : Nat} {h : AHeap} {X : Nat} {L : AV} {rows : List (List AV)} {G : List Nat} (g : GBuf el sz h X L rows G) : L.cells? = some [L] ∧ L.scal = true := by
  rcases g.2 with ⟨rfl, _⟩ | ⟨eb, ver, frz, rfl, _⟩ <;> exact ⟨rfl, rfl⟩
structure RS (h : AHeap) (cs : List AV) (t : Str) : Prop where
  p : h[0]? = some (.cells 0 (some 79) cs 0)
  i : h[1]? = some (.cells 0 (some 4) [.bool false] 0)
  r : RDs h 2 t
theorem RS.next {h h' : AHeap} {cs : List AV} {t t' : Str} (a : RS h cs t) (k : Keep h h' [2]) (r : RDs h' 2 t') : RS h' cs t' := ⟨k.get a.p (by simp), k.get a.i (by simp), r⟩
theorem RS.set {h : AHeap} {cs cs' : List AV} {t : Str} (a : RS h cs t) : RS (h.set 0 (.cells 0 (some 79) cs' 0)) cs' t := ⟨ge a.p, gs a.i (by decide), a.r.stays (Keep.set (F := [0]) (by simp)) (by simp)⟩
section
variable {m : Nat} {s : Str}
end
end Go.Proofs
/- Contracts: heads, blocks compared. -/
set_option linter.unusedVariables false
set_option linter.unusedSimpArgs false
namespace Go.Proofs
open Go Go.Abs
section
variable {n : Nat} {h : AHeap}
end
end Go.Proofs
/- What is read is short. -/
set_option linter.unusedVariables false
set_option linter.unusedSimpArgs false
namespace Go.Proofs
open Go Go.Abs
theorem ptext_len {k : Nat} {s a t : Str} (h : ptext k s = some (a, t)) : a.length ≤ s.length ∧ t.length ≤ s.length := by
  unfold ptext at h
  split at h
  · cases h; simp only [List.length_take, List.length_drop]; omega
  · cases h
theorem pnum_len {w v : Nat} {s t : Str} (h : pnum w s = some (v, t)) : t.length ≤ s.length ∧ v < 256 ^ w := by
  unfold pnum at h
  split at h
  · rename_i hl
    cases h
    exact ⟨by rw [List.length_drop]; omega, unnum_lt w _ (by rw [List.length_take]; omega)⟩
  · cases h
theorem psum_len {d : Dg} {s t : Str} (h : psum s = some (d, t)) : t.length ≤ s.length := by
  unfold psum at h
  split at h
  · cases h; rw [List.length_drop]; omega
  · cases h
theorem bind_some' {α β : Type} {o : Option α} {f : α → Option β} {b : β} (h : o.bind f = some b) : ∃ a, o = some a ∧ f a = some b := Option.bind_eq_some_iff.1 h
theorem map_some' {α β : Type} {o : Option α} {f : α → β} {b : β} (h : o.map f = some b) : ∃ a, o = some a ∧ f a = b := Option.map_eq_some_iff.1 h
theorem pcont2_len {key : Str} {long : Nat} {s t : Str} {e : Entry} (h : pcont2 key long s = some (e, t)) : e.key = key ∧ e.val.length ≤ s.length ∧ t.length ≤ s.length := by
  unfold pcont2 at h
  split at h
  · obtain ⟨⟨a, s1⟩, h1, h⟩ := bind_some' h
    obtain ⟨⟨b, s2⟩, h2, h⟩ := bind_some' h
    obtain ⟨⟨d, s3⟩, h3, h⟩ := map_some' h
    cases h
    have := pnum_len h1; have := pnum_len h2; have := psum_len h3
    exact ⟨rfl, Nat.zero_le _, by simp only at *; omega⟩
  · split at h
    · obtain ⟨⟨a, s1⟩, h1, h⟩ := bind_some' h
      obtain ⟨⟨b, s2⟩, h2, h⟩ := bind_some' h
      obtain ⟨⟨d, s3⟩, h3, h⟩ := map_some' h
      cases h
      have := pnum_len h1; have := pnum_len h2; have := psum_len h3
      exact ⟨rfl, Nat.zero_le _, by simp only at *; omega⟩
    · obtain ⟨⟨a, s1⟩, h1, h⟩ := map_some' h
      cases h
      have := ptext_len h1
      exact ⟨rfl, this.1, this.2⟩
theorem pcont_len {key : Str} {lv : Int} {s t : Str} {e : Entry} (h : pcont key lv s = some (e, t)) : e.key = key ∧ e.val.length ≤ s.length ∧ t.length ≤ s.length := by
  unfold pcont at h
  split at h
  · obtain ⟨⟨a, s1⟩, h1, h⟩ := bind_some' h
    have := pnum_len h1
    have := pcont2_len h
    simp only at *
    exact ⟨this.1, by omega, by omega⟩
  · exact pcont2_len h
theorem pents_len {pre : Str} {lv : Int} : ∀ {k i : Nat} {s t : Str} {es : List Entry}, pents pre lv k i s = some (es, t) → es.length = k ∧ ∀ e ∈ es, e.key.length ≤ pre.length + s.length ∧ e.val.length ≤ s.length
  | 0, i, s, t, es, h => by simp [pents] at h; obtain ⟨rfl, rfl⟩ := h; simp
  | k + 1, i, s, t, es, h => by
    simp only [pents] at h
    obtain ⟨⟨e, s1⟩, h1, h⟩ := bind_some' h
    obtain ⟨⟨es', s2⟩, h2, h⟩ := map_some' h
    cases h
    have ih := pents_len h2
    unfold pent at h1
    obtain ⟨⟨a, u1⟩, g1, h1⟩ := bind_some' h1
    obtain ⟨⟨b, u2⟩, g2, h1⟩ := bind_some' h1
    have l1 := pnum_len g1
    have l2 := ptext_len g2
    have l3 := pcont_len h1
    have lk : (preK pre lv i).length ≤ pre.length := by unfold preK; split <;> simp
    simp only at *
    refine ⟨by simp [ih.1], fun x hx => ?_⟩
    rcases List.mem_cons.1 hx with rfl | hx
    · rw [l3.1, List.length_append]
      omega
    · have := ih.2 x hx
      omega
theorem pnode_len {s t : Str} {x : NodeP} (h : pnode s = some (x, t)) : x.es.length < 65536 ∧ ∀ e ∈ x.es, e.key.length ≤ 2 * s.length ∧ e.val.length ≤ s.length := by
  unfold pnode at h
  obtain ⟨⟨a1, s1⟩, h1, h⟩ := bind_some' h
  obtain ⟨⟨a2, s2⟩, h2, h⟩ := bind_some' h
  obtain ⟨⟨a3, s3⟩, h3, h⟩ := bind_some' h
  obtain ⟨⟨a4, s4⟩, h4, h⟩ := bind_some' h
  obtain ⟨⟨a5, s5⟩, h5, h⟩ := bind_some' h
  obtain ⟨⟨a6, s6⟩, h6, h⟩ := bind_some' h
  obtain ⟨⟨a7, s7⟩, h7, h⟩ := bind_some' h
  obtain ⟨⟨es, s8⟩, h8, h⟩ := map_some' h
  cases h
  have l1 := pnum_len h1
  have l2 := pnum_len h2
  have l3 := pnum_len h3
  have l4 := pnum_len h4
  have l5 := pnum_len h5
  have l6 := ptext_len h6
  have l7 := ptext_len h7
  have l8 := pents_len h8
  simp only at *
  refine ⟨by rw [l8.1]; exact l5.2, fun e he => ?_⟩
  have := l8.2 e he
  omega
theorem ppages_len : ∀ {k : Nat} {s t : Str} {ps : List Nat}, ppages k s = some (ps, t) → ps.length = k
  | 0, s, t, es, h => by simp [ppages] at h; obtain ⟨rfl, rfl⟩ := h; rfl
  | k + 1, s, t, es, h => by
    simp only [ppages] at h
    obtain ⟨⟨e, s1⟩, h1, h⟩ := bind_some' h
    obtain ⟨⟨es', s2⟩, h2, h⟩ := map_some' h
    cases h
    simp [ppages_len h2]
theorem pfreeds_len : ∀ {k : Nat} {s t : Str} {l : List (Nat × List Nat)}, pfreeds k s = some (l, t) → l.length = k ∧ ∀ x ∈ l, x.2.length < 65536
  | 0, s, t, es, h => by simp [pfreeds] at h; obtain ⟨rfl, rfl⟩ := h; simp
  | k + 1, s, t, es, h => by
    simp only [pfreeds] at h
    obtain ⟨⟨a1, s1⟩, h1, h⟩ := bind_some' h
    obtain ⟨⟨a2, s2⟩, h2, h⟩ := bind_some' h
    obtain ⟨⟨a3, s3⟩, h3, h⟩ := bind_some' h
    obtain ⟨⟨es', s4⟩, h4, h⟩ := map_some' h
    cases h
    have l2 := pnum_len h2
    have l3 := ppages_len h3
    have ih := pfreeds_len h4
    simp only at *
    refine ⟨by simp [ih.1], fun x hx => ?_⟩
    rcases List.mem_cons.1 hx with rfl | hx
    · simp only; rw [l3]; exact l2.2
    · exact ih.2 x hx
theorem FsAre.ok : ∀ {fs : List Freed} {l : List (Nat × List Nat)}, FsAre fs l → (∀ x ∈ l, x.2.length < 65536) → ∀ f ∈ fs, f.Ok ∧ f.pages.length < 9223372036854775808
  | _, _, .nil, _, f, hf => by cases hf
  | _, _, .cons (t := t) h r, hl, f, hf => by
    rcases List.mem_cons.1 hf with rfl | hf
    · have := hl t (List.mem_cons_self ..)
      refine ⟨h.2.2, ?_⟩
      rw [h.2.1, List.length_map]; omega
    · exact r.ok (fun x hx => hl x (List.mem_cons_of_mem _ hx)) f hf
theorem BlkIs.ok {q : Page} {x : Blk} {s : Str} (hs : s.length = 512) (hx : pread s = some x) (hq : BlkIs q x) : q.Ok := by
  unfold pread at hx
  obtain ⟨⟨a1, s1⟩, h1, h⟩ := bind_some' hx
  obtain ⟨⟨a2, s2⟩, h2, h⟩ := bind_some' h
  obtain ⟨⟨a3, s3⟩, h3, h⟩ := bind_some' h
  obtain ⟨bd, h4, h⟩ := map_some' h
  cases h
  have l0 : ((s.take 508).drop 1).length ≤ 508 := by rw [List.length_drop, List.length_take]; omega
  have l1 := pnum_len h1
  have l2 := pnum_len h2
  have l3 := pnum_len h3
  obtain ⟨_, _, _, hb, esz, fsz⟩ := hq
  simp only at *
  unfold pbody at h4
  split at h4
  · obtain ⟨⟨y, t⟩, g, h⟩ := map_some' h4
    cases h
    have := pnode_len g
    obtain ⟨b1, b2, b3, b4, b5, b6, b7⟩ := hb
    refine ⟨esz, fsz, by rw [b4]; exact Nat.lt_trans this.1 (by decide), by rw [b7]; decide, by rw [b6]; decide, fun e he => ?_, fun f hf => ?_⟩
    · rw [b4] at he
      have := this.2 e he
      exact ⟨by omega, by omega⟩
    · rw [b7] at hf; cases hf
  · split at h4
    · obtain ⟨⟨y, t⟩, g, h⟩ := map_some' h4
      cases h
      obtain ⟨b1, b2, b3, b4, b5, b6, b7⟩ := hb
      unfold ppiece at g
      obtain ⟨⟨c1, t1⟩, g1, g⟩ := bind_some' g
      obtain ⟨⟨c2, t2⟩, g2, g⟩ := bind_some' g
      obtain ⟨⟨c3, t3⟩, g3, g⟩ := map_some' g
      cases g
      have m1 := pnum_len g1
      have m2 := pnum_len g2
      have m3 := ptext_len g3
      simp only at *
      refine ⟨esz, fsz, by rw [b4]; decide, by rw [b7]; decide, by rw [b6]; omega, fun e he => ?_, fun f hf => ?_⟩
      · rw [b4] at he; cases he
      · rw [b7] at hf; cases hf
    · obtain ⟨⟨y, t⟩, g, h⟩ := map_some' h4
      cases h
      obtain ⟨b1, b2, b3, b4, b5, b6, b7⟩ := hb
      unfold plist at g
      obtain ⟨⟨c1, t1⟩, g1, g⟩ := bind_some' g
      obtain ⟨⟨c2, t2⟩, g2, g⟩ := bind_some' g
      obtain ⟨⟨c3, t3⟩, g3, g⟩ := map_some' g
      cases g
      have m2 := pnum_len g2
      have m3 := pfreeds_len g3
      have hlen := b7.length_eq
      simp only at *
      refine ⟨esz, fsz, by rw [b4]; decide, by rw [hlen, m3.1]; exact Nat.lt_trans m2.2 (by decide), by rw [b6]; decide, fun e he => ?_, b7.ok m3.2⟩
      rw [b4] at he; cases he
end Go.Proofs
/- What was written is read again: numbers, texts, entries. -/
set_option linter.unusedVariables false
set_option linter.unusedSimpArgs false
namespace Go.Proofs
open Go Go.Abs
theorem unnum_from : ∀ (s : Str) (a : Nat), s.foldl (fun n b => n * 256 + b.toNat) a = a * 256 ^ s.length + unnum s
  | [], a => by simp [unnum]
  | c :: s, a => by
    have h1 := unnum_from s (a * 256 + c.toNat)
    have h2 := unnum_from s (0 * 256 + c.toNat)
    show s.foldl (fun n b => n * 256 + b.toNat) (a * 256 + c.toNat) = _
    have h3 : unnum (c :: s) = s.foldl (fun n b => n * 256 + b.toNat) (0 * 256 + c.toNat) := rfl
    rw [h1, h3, h2, List.length_cons, Nat.pow_succ]
    rw [Nat.add_mul, Nat.zero_mul, Nat.zero_add, Nat.mul_assoc, Nat.mul_comm 256, Nat.add_assoc]
theorem unnum_cons (c : UInt8) (s : Str) : unnum (c :: s) = c.toNat * 256 ^ s.length + unnum s := by
  have h : unnum (c :: s) = s.foldl (fun n b => n * 256 + b.toNat) (0 * 256 + c.toNat) := rfl
  rw [h, unnum_from, Nat.zero_mul, Nat.zero_add]
theorem unnum_num (k : Nat) : ∀ w, unnum (num k w) = k % 256 ^ w
  | 0 => by simp [num, unnum, Nat.mod_one]
  | w + 1 => by
    show unnum (UInt8.ofNat (k / 256 ^ w) :: num k w) = _
    rw [unnum_cons, unnum_num k w, num_len, UInt8.toNat_ofNat']
    show k / 256 ^ w % 256 * 256 ^ w + k % 256 ^ w = k % (256 ^ w * 256)
    rw [Nat.mod_mul, Nat.mul_comm, Nat.add_comm]
end Go.Proofs
/- Contracts: Decode. -/
set_option linter.unusedVariables false
set_option linter.unusedSimpArgs false
namespace Go.Proofs
open Go Go.Abs
section
variable {n : Nat} {s : Str}
end
end Go.Proofs
/- Decode answers a block that Encode wrote with its page. -/
set_option linter.unusedVariables false
set_option linter.unusedSimpArgs false
namespace Go.Proofs
open Go Go.Abs
def Freed.core (f : Freed) : Int × List Int := (f.ver, f.pages)
/-- Pages that read alike. -/
structure Same (p q : Page) : Prop where
  kind : q.kind = p.kind
  no : q.no = p.no
  ver : q.ver = p.ver
  tree : q.tree = p.tree
  level : q.level = p.level
  top : q.top = p.top
  entries : q.entries = p.entries
  next : q.next = p.next
  data : q.data = p.data
  freed : q.freed.map Freed.core = p.freed.map Freed.core
theorem core_len {a b : List Freed} (h : a.map Freed.core = b.map Freed.core) : a.length = b.length := by
  have := congrArg List.length h
  simpa using this
theorem freedsB_core {a b : List Freed} (h : a.map Freed.core = b.map Freed.core) : freedsB a = freedsB b := by
  have e : ∀ l : List Freed, freedsB l = (l.map Freed.core).flatMap fun c => num c.1.toNat 6 ++ (num c.2.length 2 ++ pagesB c.2) := fun l => by
    induction l with
    | nil => rfl
    | cons f r ih =>
      simp only [freedsB, List.flatMap_cons, List.map_cons] at ih ⊢
      rw [ih]; rfl
  rw [e a, e b, h]
theorem Same.enc {p q : Page} (h : Same p q) : q.enc = p.enc := by
  have e : q.full = p.full := by
    unfold Page.full Page.used Page.headB Page.bodyB listB
    rw [h.kind, h.no, h.ver, h.tree, h.level, h.top, h.entries, h.next, h.data, freedsB_core h.freed, core_len h.freed]
  unfold Page.enc
  rw [e]
end Go.Proofs
/- Contracts: the reference's entries. -/
set_option linter.unusedVariables false
set_option linter.unusedSimpArgs false
namespace Go.Proofs
open Go Go.Abs
section
variable {n : Nat} {h : AHeap}
end
end Go.Proofs
/- The reference's reader, in plain Lean. -/
set_option linter.unusedVariables false
set_option linter.unusedSimpArgs false
namespace Go.Proofs
open Go Go.Abs
/-! Where the parser reads, the reference reads the same. -/
end Go.Proofs
/- Plain facts for the reference: what it encodes, what is no block of a page. -/
set_option linter.unusedVariables false
set_option linter.unusedSimpArgs false
namespace Go.Proofs
open Go Go.Abs
end Go.Proofs
/- The checksum finds bytes that are changed within four positions. -/
set_option linter.unusedVariables false
set_option linter.unusedSimpArgs false
namespace Go.Proofs
open Go Go.Abs
abbrev gb (c : UInt32) (i : Nat) : Bool := c.toBitVec.getLsbD i
theorem u32_ext {a b : UInt32} (h : ∀ i, i < 32 → gb a i = gb b i) : a = b := UInt32.toBitVec_inj.1 (BitVec.eq_of_getLsbD_eq h)
theorem low_bit (c : UInt32) : (c &&& 1 = 1) ↔ gb c 0 = true := by
  constructor
  · intro h
    have := congrArg (fun x : UInt32 => gb x 0) h
    simpa [gb] using this
  · intro h
    apply u32_ext
    intro i hi
    simp only [gb, UInt32.toBitVec_and, BitVec.getLsbD_and]
    by_cases h0 : i = 0
    · subst h0; simp [h]
    · have e1 : (1 : UInt32).toBitVec = 1#32 := rfl
      simp [e1, BitVec.getLsbD_one, h0]
theorem bit_get (c : UInt32) (i : Nat) (hi : i < 32) : gb (bit c) i = ((gb c (i + 1)) ^^ (gb c 0 && gb 3988292384 i)) := by
  unfold bit
  have e2 : (c >>> 1).toBitVec = c.toBitVec >>> 1 := by rfl
  by_cases h : c &&& 1 = 1
  · rw [if_pos h]
    have h0 := (low_bit c).1 h
    simp only [gb, UInt32.toBitVec_xor, BitVec.getLsbD_xor, e2, BitVec.getLsbD_ushiftRight] at h0 ⊢
    rw [h0, Nat.add_comm]
    simp
  · rw [if_neg h]
    have h0 : gb c 0 = false := by
      cases hq : gb c 0 with
      | true => exact (h ((low_bit c).2 hq)).elim
      | false => rfl
    simp only [gb, e2, BitVec.getLsbD_ushiftRight] at h0 ⊢
    rw [h0, Nat.add_comm]
    simp
theorem bit_xor (a b : UInt32) : bit (a ^^^ b) = bit a ^^^ bit b := by
  apply u32_ext
  intro i hi
  have e : gb (bit a ^^^ bit b) i = (gb (bit a) i ^^ gb (bit b) i) := by simp [gb]
  rw [e, bit_get _ _ hi, bit_get _ _ hi, bit_get _ _ hi]
  have e1 : ∀ j, gb (a ^^^ b) j = (gb a j ^^ gb b j) := fun j => by simp [gb]
  rw [e1, e1]
  cases gb a (i + 1) <;> cases gb b (i + 1) <;> cases gb a 0 <;> cases gb b 0 <;> cases gb 3988292384 i <;> rfl
theorem bit_inj {a b : UInt32} (h : bit a = bit b) : a = b := by
  have hg : ∀ i, i < 32 → ((gb a (i + 1)) ^^ (gb a 0 && gb 3988292384 i)) = ((gb b (i + 1)) ^^ (gb b 0 && gb 3988292384 i)) := fun i hi => by
    rw [← bit_get a i hi, ← bit_get b i hi, h]
  have top : ∀ c : UInt32, gb c 32 = false := fun c => BitVec.getLsbD_of_ge _ _ (Nat.le_refl _)
  have h0 : gb a 0 = gb b 0 := by
    have := hg 31 (by decide)
    rw [top, top, show gb 3988292384 31 = true by decide] at this
    simpa using this
  apply u32_ext
  intro i hi
  cases i with
  | zero => exact h0
  | succ i =>
    have := hg i (by omega)
    rw [h0] at this
    cases ha : gb a (i + 1) <;> cases hb : gb b (i + 1) <;> rw [ha, hb] at this <;> first | rfl | (cases h1 : (gb b 0 && gb 3988292384 i) <;> rw [h1] at this <;> cases this)
theorem bits_xor : ∀ (k : Nat) (a b : UInt32), bits k (a ^^^ b) = bits k a ^^^ bits k b
  | 0, a, b => rfl
  | k + 1, a, b => by show bits k (bit (a ^^^ b)) = bits k (bit a) ^^^ bits k (bit b); rw [bit_xor, bits_xor k]
theorem bits_inj : ∀ (k : Nat) {a b : UInt32}, bits k a = bits k b → a = b
  | 0, a, b, h => h
  | k + 1, a, b, h => bit_inj (bits_inj k (a := bit a) (b := bit b) h)
theorem bit_even {c : UInt32} {w : Nat} (h : c.toNat = 2 * w) : (bit c).toNat = w := by
  have h1 : (c &&& 1).toNat = c.toNat % 2 := by
    rw [UInt32.toNat_and]; exact Nat.and_one_is_mod _
  unfold bit
  rw [if_neg (by intro q; have := congrArg UInt32.toNat q; rw [h1] at this; simp at this; omega)]
  rw [UInt32.toNat_shiftRight]
  show c.toNat >>> 1 = w
  rw [Nat.shiftRight_eq_div_pow]; omega
theorem bits_even : ∀ (k : Nat) {c : UInt32} {w : Nat}, c.toNat = 2 ^ k * w → (bits k c).toNat = w
  | 0, c, w, h => by simpa [bits] using h
  | k + 1, c, w, h => bits_even k (c := bit c) (bit_even (by rw [h, Nat.pow_succ]; rw [Nat.mul_comm (2 ^ k) 2, Nat.mul_assoc]))
/-- A step over a zero byte. -/
theorem zero_step (c : UInt32) : tab c.toUInt8 ^^^ (c >>> 8) = bits 8 c := by
  have hc : c = c.toUInt8.toUInt32 ^^^ ((c >>> 8) <<< 8) := by
    apply u32_ext
    intro i hi
    have e1 : ((c >>> 8) <<< 8).toBitVec = (c.toBitVec >>> 8) <<< 8 := rfl
    have e2 : c.toUInt8.toUInt32.toBitVec = (c.toBitVec.setWidth 8).setWidth 32 := rfl
    simp only [gb, UInt32.toBitVec_xor, BitVec.getLsbD_xor, e1, e2, BitVec.getLsbD_shiftLeft, BitVec.getLsbD_ushiftRight, BitVec.getLsbD_setWidth]
    by_cases h8 : i < 8
    · simp [h8, hi]
    · have : 8 + (i - 8) = i := by omega
      simp [h8, hi, this]
  have h1 : (bits 8 ((c >>> 8) <<< 8)).toNat = (c >>> 8).toNat := by
    refine bits_even 8 ?_
    rw [UInt32.toNat_shiftLeft, UInt32.toNat_shiftRight]
    show (c.toNat >>> 8) <<< 8 % 2 ^ 32 = 2 ^ 8 * (c.toNat >>> 8)
    have := c.toNat_lt
    rw [Nat.shiftRight_eq_div_pow, Nat.shiftLeft_eq]
    omega
  have h2 : bits 8 ((c >>> 8) <<< 8) = c >>> 8 := UInt32.toNat_inj.1 h1
  conv => rhs; rw [hc, bits_xor, h2]
  rfl
theorem byte_step (c : UInt32) (b : UInt8) : tab (c.toUInt8 ^^^ b) ^^^ (c >>> 8) = bits 8 (c ^^^ b.toUInt32) := by
  rw [← zero_step]
  have e1 : (c ^^^ b.toUInt32).toUInt8 = c.toUInt8 ^^^ b := by
    apply UInt8.toBitVec_inj.1
    apply BitVec.eq_of_getLsbD_eq
    intro i hi
    have e3 : (c ^^^ b.toUInt32).toUInt8.toBitVec = (c.toBitVec ^^^ b.toBitVec.setWidth 32).setWidth 8 := rfl
    have e4 : (c.toUInt8 ^^^ b).toBitVec = c.toBitVec.setWidth 8 ^^^ b.toBitVec := rfl
    rw [e3, e4]
    simp [hi]
  have e2 : (c ^^^ b.toUInt32) >>> 8 = c >>> 8 := by
    apply u32_ext
    intro i hi
    have e5 : ((c ^^^ b.toUInt32) >>> 8).toBitVec = (c.toBitVec ^^^ b.toBitVec.setWidth 32) >>> 8 := rfl
    have e6 : (c >>> 8).toBitVec = c.toBitVec >>> 8 := rfl
    simp only [gb, e5, e6, BitVec.getLsbD_ushiftRight, BitVec.getLsbD_xor, BitVec.getLsbD_setWidth]
    rw [BitVec.getLsbD_of_ge b.toBitVec (8 + i) (by omega)]
    simp
  rw [e1, e2]
theorem ext_cons (b : UInt8) (r : Str) (c : UInt32) : ext (b :: r) c = ext r (bits 8 (c ^^^ b.toUInt32)) := by
  unfold ext
  rw [List.foldl_cons, byte_step]
theorem ext_app (a b : Str) (c : UInt32) : ext (a ++ b) c = ext b (ext a c) := by unfold ext; rw [List.foldl_append]
theorem ext_inj : ∀ (s : Str) {c d : UInt32}, ext s c = ext s d → c = d
  | [], c, d, h => h
  | b :: r, c, d, h => by
    rw [ext_cons, ext_cons] at h
    have := bits_inj 8 (ext_inj r h)
    have h2 := congrArg (· ^^^ b.toUInt32) this
    simpa [UInt32.xor_assoc] using h2

/-- Bytes as a number, the least significant one first. -/
def le : Str → UInt32
  | [] => 0
  | b :: r => b.toUInt32 ^^^ (le r <<< 8)
theorem le_nat (b : UInt8) (r : Str) (h : (le r).toNat < 16777216) : (le (b :: r)).toNat = (le r).toNat * 256 + b.toNat ∧ (le r <<< 8).toNat = 2 ^ 8 * (le r).toNat := by
  have hb := b.toNat_lt
  have e1 : (le r <<< 8).toNat = (le r).toNat * 256 := by
    rw [UInt32.toNat_shiftLeft]
    show (le r).toNat <<< 8 % 2 ^ 32 = _
    rw [Nat.shiftLeft_eq]
    omega
  refine ⟨?_, by rw [e1]; omega⟩
  show (b.toUInt32 ^^^ (le r <<< 8)).toNat = _
  rw [UInt32.toNat_xor, e1, UInt8.toNat_toUInt32]
  have h5 := Nat.shiftLeft_add_eq_or_of_lt (show b.toNat < 2 ^ 8 by omega) (le r).toNat
  rw [Nat.shiftLeft_eq] at h5
  show b.toNat ^^^ (le r).toNat * 2 ^ 8 = (le r).toNat * 2 ^ 8 + b.toNat
  rw [h5]
  apply Nat.eq_of_testBit_eq
  intro i
  simp only [Nat.testBit_xor, Nat.testBit_or]
  by_cases h8 : i < 8
  · have : ((le r).toNat * 2 ^ 8).testBit i = false := by rw [Nat.testBit_mul_two_pow]; simp; omega
    rw [this]; simp
  · have : b.toNat.testBit i = false := Nat.testBit_lt_two_pow (Nat.lt_of_lt_of_le (show b.toNat < 2 ^ 8 by omega) (Nat.pow_le_pow_right (by decide) (by omega)))
    rw [this]; simp
theorem le_lt : ∀ (r : Str), r.length ≤ 4 → (le r).toNat < 256 ^ r.length
  | [], _ => by simp [le]
  | b :: r, h => by
    have ih := le_lt r (by simp at h; omega)
    simp only [List.length_cons] at h ⊢
    have hb := b.toNat_lt
    have h3 : 256 ^ r.length ≤ 256 ^ 3 := Nat.pow_le_pow_right (by decide) (by omega)
    have h4 : (256 : Nat) ^ 3 = 16777216 := by decide
    rw [(le_nat b r (by omega)).1, Nat.pow_succ]
    omega
theorem le_small {r : Str} (h : r.length ≤ 3) : (le r).toNat < 16777216 := by
  have := le_lt r (by omega)
  have h3 : 256 ^ r.length ≤ 256 ^ 3 := Nat.pow_le_pow_right (by decide) h
  have h4 : (256 : Nat) ^ 3 = 16777216 := by decide
  omega
theorem le_inj : ∀ {a b : Str}, a.length = b.length → a.length ≤ 4 → le a = le b → a = b
  | [], [], _, _, _ => rfl
  | [], _ :: _, h, _, _ => by simp at h
  | _ :: _, [], h, _, _ => by simp at h
  | x :: a, y :: b, h, h4, he => by
    simp only [List.length_cons] at h h4
    have h1 := (le_nat x a (le_small (by omega))).1
    have h2 := (le_nat y b (le_small (by omega))).1
    rw [he] at h1
    have hx := x.toNat_lt
    have hy := y.toNat_lt
    have e1 : x = y := UInt8.toNat_inj.1 (by omega)
    have e2 : le a = le b := UInt32.toNat_inj.1 (by omega)
    rw [e1, le_inj (by omega) (by omega) e2]
theorem bits_add : ∀ (b a : Nat) (x : UInt32), bits a (bits b x) = bits (b + a) x
  | 0, a, x => by simp [bits]
  | b + 1, a, x => by
    show bits a (bits b (bit x)) = bits (b + 1 + a) x
    rw [bits_add b a, show b + 1 + a = (b + a) + 1 by omega]; rfl
theorem ext_le : ∀ (w : Str) (c : UInt32), w.length ≤ 4 → ext w c = bits (8 * w.length) (c ^^^ le w)
  | [], c, _ => by simp [ext, bits, le]
  | b :: r, c, h => by
    simp only [List.length_cons] at h
    have h2 := (le_nat b r (le_small (by omega))).2
    have h3 : bits 8 (le r <<< 8) = le r := UInt32.toNat_inj.1 (bits_even 8 h2)
    rw [ext_cons, ext_le r _ (by omega)]
    conv => lhs; rw [← h3, ← bits_xor, bits_add]
    rw [List.length_cons, show 8 + 8 * r.length = 8 * (r.length + 1) by omega]
    congr 1
    show c ^^^ b.toUInt32 ^^^ (le r <<< 8) = c ^^^ (b.toUInt32 ^^^ (le r <<< 8))
    rw [UInt32.xor_assoc]
end Go.Proofs
/- Contracts: the reference's numbers, checksum, entries. -/
set_option linter.unusedVariables false
set_option linter.unusedSimpArgs false
namespace Go.Proofs
open Go Go.Abs
section
variable {n : Nat} {h : AHeap}
end
end Go.Proofs
