/- Texts put together: T0, Ra5, Ea, Ra, Wa, Ta, Sa, Sb, Sc, Inz, Ina, Inb. -/
import Derived.Test.YtalaebjjleddaaaGreatFlt6
import Derived.Test.YtalaebjjleddaaaGreatProg
import Derived.KernelRfl
import Derived.Shelf.Spec.SlicesInsert
import Derived.Shelf.Spec.SlicesInsertGrow
import Derived.Shelf.Slices.SearchI
import Derived.Shelf.Slices.Clone
import Derived.Shelf.Slices.Empties
import Derived.Ground.Names2Prog
import Derived.WalkKit
set_option linter.unusedVariables false
set_option linter.unusedSimpArgs false
namespace Go.Proofs
open Go Go.Abs
def inlL:List Nat:=[204,126,185,132,127,184,187,133,284,284,284,284,128,284,173,174,176,178,180,214,217,240,275,276,277,278,280,282,229,249,259,231,250,255,256,230,209,210,211,233,134,65,137,138,139,140,141,67,68,69,70,71,72,73,78,79,81,86,89,90,91,93,96,97,99,100,104,105,106,108,111,112,113,114,115,116,117,120,124,125,129,142,144,145,146,155,160,164,165,168,169,170,171,212,234,235,251,257]
def inl0:FuncId → Bool:=fun f=>inlL.contains f||decide (284 ≤ f)
def pureL:List Nat:=[135,119,162,143,161,182,51,121,15,17,19,52,38,45,47,23,25,33,59,27,14]
def inlA:FuncId → Bool:=fun f=>!(pureL.contains f)
abbrev mV (d a:Nat):RI:=⟨some d,none,.op (.mv (.t a))⟩
abbrev oP (d:Nat) (x:RO):RI:=⟨some d,none,.op x⟩
abbrev oG (d g:Nat) (b:Bool) (x:RO):RI:=⟨some d,some (g,b),.op x⟩
abbrev oU (x:RO):RI:=⟨none,none,.op x⟩
abbrev oA (d x:Nat):RI:=oP d (.load false 1 (.t x))
abbrev oB (d n x:Nat):RI:=oP d (.load true n (.t x))
abbrev oC (d n x:Nat):RI:=oP d (.fieldAddr n (.t x))
abbrev oD (d g:Nat) (b:Bool) (x:Nat):RI:=oG d g b (.load false 1 (.t x))
abbrev oE (d g:Nat) (b:Bool) (x:Nat):RI:=oG d g b (.mv (.t x))
abbrev oF (d g:Nat) (b:Bool) (n x:Nat):RI:=oG d g b (.fieldAddr n (.t x))
abbrev oH (d:Nat) (z:Int):RI:=oP d (.mv (.c (.int .i64 z)))
abbrev oI (d:Nat) (p:BinOp) (x y:Nat):RI:=oP d (.bin p (.t x) (.t y))
abbrev oJ (d:Nat) (p:BinOp) (x:Nat) (z:Int):RI:=oP d (.bin p (.t x) (.c (.int .i64 z)))
abbrev oK (d x:Nat):RI:=oP d (.lenL (.t x))
abbrev oM (d x y:Nat):RI:=oP d (.pick (.t x) (.c (.bool true)) (.t y))
abbrev oN (d x y:Nat):RI:=oP d (.pick (.t x) (.t y) (.c (.bool false)))
abbrev oQ (d x k:Nat):RI:=oP d (.extract (.t x) k)
abbrev oR (d x:Nat):RI:=oP d (.nilCheck (.t x))
abbrev oS (d n x y:Nat):RI:=oP d (.indexAddrL n (.t x) (.t y))
abbrev oT (n x y:Nat):RI:=oU (.store n (.t x) (.t y))
abbrev oV (d f x:Nat):RI:=oP d (.callF f [.t x])
abbrev oW (d f x y:Nat):RI:=oP d (.callF f [.t x,.t y])
theorem pre1 (n:Nat) (h:1 ≤ n:=by omega):∃ m,n=m+1:=⟨n-1,by omega⟩
abbrev zRl:List AV:=[(.int .i64 0),(.int .i64 0),(.int .i64 0),(.int .u8 0),(.int .u8 0),(.int .u8 0),(.int .u8 0),(.int .u8 0),(.int .u8 0),(.int .u8 0),(.int .u8 0),(.int .u8 0),(.int .u8 0),(.int .u8 0),(.int .u8 0),(.int .u8 0),(.int .u8 0),(.int .u8 0),(.int .u8 0),(.int .i64 0),(.int .i64 0)]
abbrev zRm:List AV:=[(.int .i64 0),(.int .i64 0),(.int .i64 0),(.int .u8 0),(.int .u8 0),(.int .u8 0),(.int .u8 0),(.int .u8 0),(.int .u8 0),(.int .u8 0),(.int .u8 0),(.int .u8 0),(.int .u8 0),(.int .u8 0),(.int .u8 0),(.int .u8 0),(.int .u8 0),(.int .u8 0),(.int .u8 0),(.int .i64 0),(.int .i64 0),(.int .i64 0)]
abbrev zPl:List AV:=[(.int .i64 0),(.int .i64 0),(.int .i64 0),(.int .i64 0),(.int .i64 0),(.bool false),(.lst 0 [] true),(.int .i64 0),(.str []),(.lst 0 [] true)]
abbrev zPm:List AV:=[(.int .i64 0),(.int .i64 0),(.int .i64 0),(.int .i64 0),(.int .i64 0),(.bool false),(.lst 0 [] true),(.int .i64 0),(.str []),(.lst 0 [] true),(.int .i64 0)]
abbrev FI:=FunIs Tryz.prog inl0
abbrev DefI:=DefIs Tryz.prog inl0
theorem mkF {f : FuncId} {np nt d : Nat} {rs : List ResultVar} {rc : RC} (fn : Func) (h : Tryz.prog.funcs[f]? = some fn) (h1 : fn.body.map (resC Tryz.prog inl0) = some rc.erase := by kernel_rfl) (h2 : fn.ntmps = nt := by kernel_rfl) (h3 : fn.results.toList = rs := by kernel_rfl) (h4 : Nat.log2 (nt + 1) + 1 = d := by kernel_rfl) (h5 : np ≤ nt := by decide) (h6 : okR nt rc = true := by kernel_rfl) : FI f np nt d rs rc := ⟨⟨fn, h, h1, h2, h3⟩, h4, h5, h6⟩
theorem zJ (j : Nat) {x : Int} {q : Int → Prop} (hq : q ((j + 1 : Nat) : Int)) (h1 : -9223372036854775808 ≤ x := by omega) (h2 : x < 9223372036854775808 := by omega) (h3 : x = ((j + 1 : Nat) : Int) := by rfl) : ∃ z, IntKind.i64.wrap x = z ∧ q z := ⟨_, by rw [zad h1 h2, h3], hq⟩
theorem stJ {h : zaa} {b ver o sz : Nat} {v : AV} {q : Option TypeId → List AV → Nat → List AV → Prop} {el : Option TypeId} {cs xs : List AV} {frz : Nat} (h1 : h[b]? = some (.cells ver el cs frz)) (h6 : q el cs frz xs) (h2 : v.cells? = some xs := by rfl) (h3 : xs.length = sz := by rfl) (h4 : Nat.ble (o + xs.length) cs.length = true := by rfl) (h5 : Nat.ble frz o = true := by rfl) : ∃ el cs frz xs, h[b]? = some (.cells ver el cs frz) ∧ v.cells? = some xs ∧ xs.length = sz ∧ o + xs.length ≤ cs.length ∧ frz ≤ o ∧ q el cs frz xs := stI h1 h2 h3 h4 h5 h6
def c59:RC :=
 (.seq (.ops [(oP 1 (.box 27 (.t 0))),(oP 2 (.alloc 127 (List.replicate 64 (.int .u8 0))))])
 (.seq (.ops [(oP 3 (.alloc 127 (List.replicate 64 (.int .u8 0))))])
 (.seq (.ops [(oP 6 (.indexAddrA 64 1 (.t 3) (.c (.int .i64 0)))),(oU (.store 1 (.t 6) (.c (.int .u8 82)))),(oP 7 (.indexAddrA 64 1 (.t 3) (.c (.int .i64 63)))),(oU (.store 1 (.t 7) (.c (.int .u8 82))))])
 (.seq (.seq (.ops [(oP 8 (.callF 64 [])),(oK 9 8),(oH 10 0)])
 (.block 0
 (.loop
 (.seq (.ops [(oI 11 .lss 10 9)])
 (.seq (.cond (.t 11)
 .skip
 (.exit 0))
 (.seq (.block 1
 (.seq (.ops [(oS 12 3 8 10),(oB 13 3 12),(oP 5 (.alloc 138 [(.int .i64 0),(.int .i64 0),.nilf])),(oT 3 5 13)])
 (.draw [((oC 14 0 5),0),((oA 15 14),1),((oC 16 1 5),0),((oA 17 16),1),((oC 18 2 5),0),((oA 19 18),1),((oP 20 (.callV (.t 19) [(.t 1)])),2),((oR 21 20),0),((oA 22 21),1),((oP 23 (.callF 134 [(.t 3),(.t 15),(.t 17),(.t 22)])),2)])))
 (.ops [(oJ 24 .add 10 1),(mV 10 24)])))))))
 (.cut (.seq (.draw [((oP 25 (.sliceP 64 1 (.t 3) (some (.c (.int .i64 15))) none none)),1),((oC 26 1 1),0),((oC 27 2 26),0),((oP 28 (.sliceP 16 1 (.t 27) none none none)),1),((oP 29 (.cpy 1 (.t 25) (.t 28))),2)])
 (.seq (.ops [(oP 30 (.sliceP 64 1 (.t 3) none (some (.c (.int .i64 59))) none)),(oP 31 (.bytesStr (.t 30))),(oV 32 135 31),(oP 33 (.toInt .i64 (.t 32))),(oP 34 (.callF 134 [(.t 3),(.c (.int .i64 59)),(.c (.int .i64 4)),(.t 33)]))])
 (.seq (.ops [(oB 35 64 3),(oT 64 2 35)])
 .ret))))))))
theorem F59:FI 59 1 36 6 [.cell 2 127] c59:=mkF Tryz.f59 Tryz.func59
def c64:RC :=
 (.seq (.ops [(oP 0 (.mv (.c (.lst 0 [] true))))])
 (.seq (.ops [(oP 1 (.build [(.int .i64 0),(.int .i64 0),.nilf] [(0,1,(.c (.int .i64 1))),(1,1,(.c (.int .i64 6))),(2,1,(.c (.fn (.func 137) [] [])))])),(oP 2 (.build [(.int .i64 0),(.int .i64 0),.nilf] [(0,1,(.c (.int .i64 7))),(1,1,(.c (.int .i64 4))),(2,1,(.c (.fn (.func 138) [] [])))])),(oP 3 (.build [(.int .i64 0),(.int .i64 0),.nilf] [(0,1,(.c (.int .i64 11))),(1,1,(.c (.int .i64 4))),(2,1,(.c (.fn (.func 139) [] [])))])),(oP 4 (.build [(.int .i64 0),(.int .i64 0),.nilf] [(0,1,(.c (.int .i64 31))),(1,1,(.c (.int .i64 4))),(2,1,(.c (.fn (.func 140) [] [])))])),(oP 5 (.build [(.int .i64 0),(.int .i64 0),.nilf] [(0,1,(.c (.int .i64 35))),(1,1,(.c (.int .i64 4))),(2,1,(.c (.fn (.func 141) [] [])))])),(oP 6 (.mkLst 3 true 5 [(.int .i64 0),(.int .i64 0),.nilf] [(0,3,(.t 1)),(3,3,(.t 2)),(6,3,(.t 3)),(9,3,(.t 4)),(12,3,(.t 5))])),(mV 0 6)])
 .ret))
theorem F64:FI 64 0 7 4 [.tmp 0] c64:=mkF Tryz.f64 Tryz.func64
def c137:RC :=
 (.seq (.ops [(oP 2 (.mv (.c .nilp)))])
 (.seq (.ops [(mV 3 0),(oR 4 3),(oC 5 0 4),(mV 2 5)])
 .ret))
theorem F137:FI 137 1 6 3 [.tmp 2] c137:=mkF Tryz.f137 Tryz.func137
def c138:RC :=
 (.seq (.ops [(oP 2 (.mv (.c .nilp)))])
 (.seq (.ops [(mV 3 0),(oR 4 3),(oC 5 1 4),(oC 6 0 5),(mV 2 6)])
 .ret))
theorem F138:FI 138 1 7 4 [.tmp 2] c138:=mkF Tryz.f138 Tryz.func138
def c139:RC :=
 (.seq (.ops [(oP 2 (.mv (.c .nilp)))])
 (.seq (.ops [(mV 3 0),(oR 4 3),(oC 5 1 4),(oC 6 1 5),(mV 2 6)])
 .ret))
theorem F139:FI 139 1 7 4 [.tmp 2] c139:=mkF Tryz.f139 Tryz.func139
def c140:RC :=
 (.seq (.ops [(oP 2 (.mv (.c .nilp)))])
 (.seq (.ops [(mV 3 0),(oR 4 3),(oC 5 19 4),(mV 2 5)])
 .ret))
theorem F140:FI 140 1 6 3 [.tmp 2] c140:=mkF Tryz.f140 Tryz.func140
def c141:RC :=
 (.seq (.ops [(oP 2 (.mv (.c .nilp)))])
 (.seq (.ops [(mV 3 0),(oR 4 3),(oC 5 20 4),(mV 2 5)])
 .ret))
theorem F141:FI 141 1 6 3 [.tmp 2] c141:=mkF Tryz.f141 Tryz.func141
def c134:RC :=
 (.seq (.ops [(mV 9 2),(oH 10 0)])
 (.block 0
 (.loop
 (.seq (.ops [(oI 11 .lss 10 9)])
 (.seq (.cond (.t 11)
 .skip
 (.exit 0))
 (.seq (.block 1
 (.seq (.ops [(mV 12 10),(mV 8 12)])
 (.draw [((mV 13 0),0),((mV 14 1),0),((mV 15 2),0),((oI 16 .add 14 15),0),((oJ 17 .sub 16 1),0),((mV 18 8),0),((oI 19 .sub 17 18),0),((mV 20 3),0),((mV 21 8),0),((oP 22 (.bin .mul (.c (.int .i64 8)) (.t 21))),0),((oI 23 .shr 20 22),0),((oP 24 (.toInt .u8 (.t 23))),0),((oR 25 13),0),((oP 26 (.indexAddrA 64 1 (.t 25) (.t 19))),0),((oT 1 26 24),2)])))
 (.ops [(oJ 27 .add 10 1),(mV 10 27)])))))))
theorem F134:FI 134 4 28 5 [] c134:=mkF Tryz.f134 Tryz.func134
def c65:RC :=
 (.seq (.ops [(oH 6 0)])
 (.seq (.ops [(oH 7 0)])
 (.seq (.seq (.ops [(mV 10 0),(oR 11 10),(mV 12 1),(mV 13 1),(mV 14 2),(oI 15 .add 13 14),(oP 16 (.sliceP 64 1 (.t 11) (some (.t 12)) (some (.t 15)) none)),(oK 17 16),(oH 18 0)])
 (.block 0
 (.loop
 (.seq (.ops [(oI 19 .lss 18 17)])
 (.seq (.cond (.t 19)
 .skip
 (.exit 0))
 (.seq (.block 1
 (.seq (.ops [(oS 20 1 16 18),(oA 21 20),(mV 9 21)])
 (.ops [(mV 22 7),(oP 23 (.bin .shl (.t 22) (.c (.int .u64 8)))),(mV 24 9),(oP 25 (.toInt .i64 (.t 24))),(oI 26 .or 23 25),(mV 7 26)])))
 (.ops [(oJ 27 .add 18 1),(mV 18 27)])))))))
 (.cut (.seq (.ops [(mV 28 7),(mV 6 28)])
 .ret)))))
theorem F65:FI 65 3 29 5 [.tmp 6] c65:=mkF Tryz.f65 Tryz.func65
def c19:RC :=
 (.seq (.ops [(oP 1 (.box 27 (.t 0))),(oH 2 0)])
 (.seq (.ops [(oP 5 (.mkFn (.func 67) [] [(.t 1)])),(mV 3 5)])
 (.seq (.ops [(oC 6 0 1),(oA 7 6),(oJ 8 .geq 7 0),(mV 9 8),(oF 10 9 true 0 1),(oD 11 9 true 10),(oG 12 9 true (.bin .leq (.t 11) (.c (.int .i64 1099511627776)))),(oN 13 9 12),(mV 14 13),(oF 15 14 true 20 1),(oD 16 14 true 15),(oG 17 14 true (.bin .geq (.t 16) (.c (.int .i64 2)))),(oN 18 14 17),(mV 19 18),(oF 20 19 true 20 1),(oD 21 19 true 20),(oG 22 19 true (.bin .leq (.t 21) (.c (.int .i64 4096)))),(oN 23 19 22),(mV 4 23)])
 (.seq (.ops [(mV 24 4),(mV 25 24),(oF 26 25 true 19 1),(oD 27 25 true 26),(oG 28 25 true (.bin .eql (.t 27) (.c (.int .i64 0)))),(oE 29 25 true 28),(oE 30 29 false 3),(oF 31 29 false 19 1),(oD 32 29 false 31),(oG 33 29 false (.callV (.t 30) [(.t 32)])),(oG 34 25 true (.pick (.t 29) (.c (.bool true)) (.t 33))),(oN 35 25 34),(mV 4 35)])
 (.seq (.ops [(mV 36 4),(mV 37 36),(oF 38 37 true 1 1),(oG 39 37 true (.load true 18 (.t 38))),(oG 40 37 true (.build [(.int .i64 0),(.int .i64 0),(.int .u8 0),(.int .u8 0),(.int .u8 0),(.int .u8 0),(.int .u8 0),(.int .u8 0),(.int .u8 0),(.int .u8 0),(.int .u8 0),(.int .u8 0),(.int .u8 0),(.int .u8 0),(.int .u8 0),(.int .u8 0),(.int .u8 0),(.int .u8 0)] [])),(oG 41 37 true (.cmp false 25 (.t 39) (.t 40))),(oE 42 37 true 41),(oE 43 42 false 3),(oF 44 42 false 1 1),(oF 45 42 false 0 44),(oD 46 42 false 45),(oG 47 42 false (.callV (.t 43) [(.t 46)])),(oE 48 42 false 47),(oF 49 48 true 1 1),(oF 50 48 true 1 49),(oD 51 48 true 50),(oG 52 48 true (.bin .geq (.t 51) (.c (.int .i64 1)))),(oG 53 42 false (.pick (.t 48) (.t 52) (.c (.bool false)))),(oE 54 42 false 53),(oF 55 54 true 1 1),(oF 56 54 true 1 55),(oD 57 54 true 56),(oG 58 54 true (.bin .lss (.t 57) (.c (.int .i64 2147483648)))),(oG 59 42 false (.pick (.t 54) (.t 58) (.c (.bool false)))),(oG 60 37 true (.pick (.t 42) (.c (.bool true)) (.t 59))),(oN 61 37 60),(mV 4 61)])
 (.seq (.seq (.ops [(mV 62 4),(oP 63 (.un .not (.t 62)))])
 (.cond (.t 63)
 (.seq (.ops [(oH 2 2)])
 .ret)
 .skip))
 (.seq (.ops [(oH 2 0)])
 .ret)))))))
theorem F19:FI 19 1 64 7 [.tmp 2] c19:=mkF Tryz.f19 Tryz.func19
def c67:RC :=
 (.seq (.ops [(oP 3 (.mv (.c (.bool false))))])
 (.seq (.ops [(mV 4 0),(oJ 5 .geq 4 2),(mV 6 5),(oE 7 6 true 0),(oF 8 6 true 20 1),(oD 9 6 true 8),(oG 10 6 true (.bin .lss (.t 7) (.t 9))),(oN 11 6 10),(mV 3 11)])
 .ret))
theorem F67:FI 67 2 12 4 [.tmp 3] c67:=mkF Tryz.f67 Tryz.func67
def c15:RC :=
 (.seq (.ops [(oP 1 (.box 27 (.t 0))),(oP 2 (.mv (.c (.str [])))),(oH 3 0)])
 (.seq (.seq (.ops [(oB 6 21 1),(oV 7 19 6),(mV 4 7)])
 (.seq (.ops [(mV 8 4),(oJ 9 .neq 8 0)])
 (.cond (.t 9)
 (.seq (.ops [(mV 10 4),(oP 2 (.mv (.c (.str [])))),(mV 3 10)])
 .ret)
 .skip)))
 (.seq (.ops [(oB 11 21 1),(oV 12 59 11),(oP 5 (.alloc 127 (List.replicate 64 (.int .u8 0)))),(oT 64 5 12)])
 (.seq (.ops [(oP 13 (.sliceP 64 1 (.t 5) none none none)),(oP 14 (.bytesStr (.t 13))),(mV 2 14),(oH 3 0)])
 .ret))))
def c17:RC :=
 (.seq (.ops [(oP 2 (.alloc 27 zRl)),(oH 3 0)])
 (.seq (.seq (.ops [(mV 8 0),(oP 9 (.lenS (.t 8))),(oJ 10 .neq 9 64)])
 (.cond (.t 10)
 (.seq (.ops [(oP 11 (.build zRl [])),(oT 21 2 11),(oH 3 8)])
 .ret)
 .skip))
 (.seq (.ops [(mV 12 0),(oP 13 (.strBytes (.t 12))),(oP 14 (.s2a 64 (.t 13))),(oB 15 64 14),(oP 4 (.alloc 127 (List.replicate 64 (.int .u8 0)))),(oT 64 4 15)])
 (.seq (.ops [(oP 5 (.alloc 27 zRl))])
 (.seq (.seq (.ops [(oP 16 (.callF 64 [])),(oK 17 16),(oH 18 0)])
 (.block 0
 (.loop
 (.seq (.ops [(oI 19 .lss 18 17)])
 (.seq (.cond (.t 19)
 .skip
 (.exit 0))
 (.seq (.block 1
 (.seq (.ops [(oS 20 3 16 18),(oB 21 3 20),(oP 7 (.alloc 138 [(.int .i64 0),(.int .i64 0),.nilf])),(oT 3 7 21)])
 (.draw [((oC 22 2 7),0),((oA 23 22),1),((oC 25 0 7),0),((oA 26 25),1),((oC 27 1 7),0),((oA 28 27),1),((oP 24 (.callV (.t 23) [(.t 5)])),2),((oP 29 (.callF 65 [(.t 4),(.t 26),(.t 28)])),2),((oR 30 24),0),((oT 1 30 29),3)])))
 (.ops [(oJ 31 .add 18 1),(mV 18 31)])))))))
 (.cut (.seq (.draw [((oC 32 1 5),0),((oC 33 2 32),0),((oP 34 (.sliceP 16 1 (.t 33) none none none)),1),((oP 35 (.sliceP 64 1 (.t 4) (some (.c (.int .i64 15))) none none)),1),((oP 36 (.cpy 1 (.t 34) (.t 35))),2)])
 (.seq (.seq (.draw [((oB 37 21 5),1),((oV 38 19 37),4),((oJ 39 .neq 38 0),0),((mV 40 39),0),((oG 41 40 false (.load true 21 (.t 5))),1),((oG 42 40 false (.callF 59 [(.t 41)])),0),((oG 43 40 false (.load true 64 (.t 4))),1),((oG 44 40 false (.cmp true 127 (.t 42) (.t 43))),0),((oM 45 40 44),0)])
 (.cond (.t 45)
 (.seq (.ops [(oP 46 (.build zRl [])),(oT 21 2 46),(oH 3 8)])
 .ret)
 .skip))
 (.seq (.ops [(oB 47 21 5),(oT 21 2 47),(oH 3 0)])
 .ret)))))))))
theorem F17:FI 17 1 48 6 [.cell 2 27,.tmp 3] c17:=mkF Tryz.f17 Tryz.func17
def c34:RC :=
 (.seq (.ops [(oP 2 (.box 79 (.t 0))),(oP 3 (.box 79 (.t 1))),(oP 4 (.mv (.c (.bool false))))])
 (.seq (.seq (.ops [(oC 5 0 2),(oA 6 5),(oC 7 0 3),(oA 8 7),(oI 9 .neq 6 8),(mV 10 9),(oF 11 10 false 1 2),(oD 12 10 false 11),(oF 13 10 false 1 3),(oD 14 10 false 13),(oG 15 10 false (.bin .neq (.t 12) (.t 14))),(oM 16 10 15),(mV 17 16),(oF 18 17 false 2 2),(oD 19 17 false 18),(oF 20 17 false 2 3),(oD 21 17 false 20),(oG 22 17 false (.bin .neq (.t 19) (.t 21))),(oM 23 17 22),(mV 24 23),(oF 25 24 false 3 2),(oD 26 24 false 25),(oF 27 24 false 3 3),(oD 28 24 false 27),(oG 29 24 false (.bin .neq (.t 26) (.t 28))),(oM 30 24 29),(mV 31 30),(oF 32 31 false 4 2),(oD 33 31 false 32),(oF 34 31 false 4 3),(oD 35 31 false 34),(oG 36 31 false (.bin .neq (.t 33) (.t 35))),(oM 37 31 36),(mV 38 37),(oF 39 38 false 5 2),(oD 40 38 false 39),(oF 41 38 false 5 3),(oD 42 38 false 41),(oG 43 38 false (.cmp true 4 (.t 40) (.t 42))),(oM 44 38 43),(mV 45 44),(oF 46 45 false 7 2),(oD 47 45 false 46),(oF 48 45 false 7 3),(oD 49 45 false 48),(oG 50 45 false (.bin .neq (.t 47) (.t 49))),(oM 51 45 50),(mV 52 51),(oF 53 52 false 8 2),(oD 54 52 false 53),(oF 55 52 false 8 3),(oD 56 52 false 55),(oG 57 52 false (.bin .neq (.t 54) (.t 56))),(oM 58 52 57)])
 (.cond (.t 58)
 (.seq (.ops [(oP 4 (.mv (.c (.bool false))))])
 .ret)
 .skip))
 (.seq (.ops [(oC 59 6 2),(oA 60 59),(oC 61 6 3),(oA 62 61),(oW 63 94 60 62),(mV 64 63),(oF 65 64 true 9 2),(oD 66 64 true 65),(oF 67 64 true 9 3),(oD 68 64 true 67),(oG 69 64 true (.callF 95 [(.t 66),(.t 68)])),(oN 70 64 69),(mV 4 70)])
 .ret)))
theorem F34:FI 34 2 71 7 [.tmp 4] c34:=mkF Tryz.f34 Tryz.func34
def c95:RC :=
 (.seq (.ops [(oP 4 (.mv (.c (.bool false))))])
 (.seq (.seq (.ops [(mV 6 0),(oK 7 6),(mV 8 1),(oK 9 8),(oI 10 .neq 7 9)])
 (.cond (.t 10)
 (.seq (.ops [(oP 4 (.mv (.c (.bool false))))])
 .ret)
 .skip))
 (.seq (.seq (.ops [(oH 5 0)])
 (.block 0
 (.loop
 (.seq (.seq (.ops [(mV 11 5),(mV 12 0),(oK 13 12),(oI 14 .lss 11 13)])
 (.cond (.t 14)
 .skip
 (.exit 0)))
 (.seq (.block 1
 (.seq (.draw [((mV 17 0),0),((mV 18 5),0),((oS 19 2 17 18),0),((oC 20 0 19),0),((oA 21 20),1),((mV 22 1),0),((mV 23 5),0),((oS 24 2 22 23),0),((oC 25 0 24),0),((oA 26 25),1),((oI 27 .neq 21 26),0),((mV 28 27),0),((oE 29 28 false 0),0),((oE 30 28 false 5),0),((oG 31 28 false (.indexAddrL 2 (.t 29) (.t 30))),0),((oF 32 28 false 1 31),0),((oD 33 28 false 32),1),((oE 34 28 false 1),0),((oE 35 28 false 5),0),((oG 36 28 false (.indexAddrL 2 (.t 34) (.t 35))),0),((oF 37 28 false 1 36),0),((oD 38 28 false 37),1),((oG 39 28 false (.callF 163 [(.t 33),(.t 38)])),4),((oG 40 28 false (.un .not (.t 39))),0),((oM 41 28 40),0)])
 (.cond (.t 41)
 (.seq (.ops [(oP 4 (.mv (.c (.bool false))))])
 .ret)
 .skip)))
 (.ops [(mV 15 5),(oJ 16 .add 15 1),(mV 5 16)]))))))
 (.cut (.seq (.ops [(oP 4 (.mv (.c (.bool true))))])
 .ret)))))
theorem F95:FI 95 2 42 6 [.tmp 4] c95:=mkF Tryz.f95 Tryz.func95
def c61:RC :=
 (.seq (.ops [(oP 4 (.mv (.c (.str []))))])
 (.seq (.ops [(mV 7 1),(oP 8 (.mkSl 5 1 [(.int .u8 0)] (.t 7) (.t 7))),(mV 5 8)])
 (.seq (.seq (.ops [(mV 9 1),(oJ 10 .sub 9 1),(mV 6 10)])
 (.block 0
 (.loop
 (.seq (.seq (.ops [(mV 11 6),(oJ 12 .geq 11 0)])
 (.cond (.t 12)
 .skip
 (.exit 0)))
 (.seq (.block 1
 (.seq (.ops [(mV 15 5),(mV 16 6),(mV 17 0),(oJ 18 .rem 17 256),(oP 19 (.toInt .u8 (.t 18))),(oS 20 1 15 16),(oT 1 20 19)])
 (.ops [(mV 21 0),(oJ 22 .quo 21 256),(mV 0 22)])))
 (.ops [(mV 13 6),(oJ 14 .sub 13 1),(mV 6 14)]))))))
 (.cut (.seq (.ops [(mV 23 5),(oP 24 (.bytesStr (.t 23))),(mV 4 24)])
 .ret)))))
theorem F61:FI 61 2 25 5 [.tmp 4] c61:=mkF Tryz.f61 Tryz.func61
def c94:RC :=
 (.seq (.ops [(oP 4 (.mv (.c (.bool false))))])
 (.seq (.seq (.ops [(mV 6 0),(oK 7 6),(mV 8 1),(oK 9 8),(oI 10 .neq 7 9)])
 (.cond (.t 10)
 (.seq (.ops [(oP 4 (.mv (.c (.bool false))))])
 .ret)
 .skip))
 (.seq (.seq (.ops [(oH 5 0)])
 (.block 0
 (.loop
 (.seq (.seq (.ops [(mV 11 5),(mV 12 0),(oK 13 12),(oI 14 .lss 11 13)])
 (.cond (.t 14)
 .skip
 (.exit 0)))
 (.seq (.block 1
 (.seq (.draw [((mV 17 0),0),((mV 18 5),0),((oS 19 22 17 18),0),((oB 20 22 19),1),((mV 21 1),0),((mV 22 5),0),((oS 23 22 21 22),0),((oB 24 22 23),1),((oP 25 (.cmp true 147 (.t 20) (.t 24))),0)])
 (.cond (.t 25)
 (.seq (.ops [(oP 4 (.mv (.c (.bool false))))])
 .ret)
 .skip)))
 (.ops [(mV 15 5),(oJ 16 .add 15 1),(mV 5 16)]))))))
 (.cut (.seq (.ops [(oP 4 (.mv (.c (.bool true))))])
 .ret)))))
theorem F94:FI 94 2 26 5 [.tmp 4] c94:=mkF Tryz.f94 Tryz.func94
def c163:RC :=
 (.seq (.ops [(oP 4 (.mv (.c (.bool false))))])
 (.seq (.seq (.ops [(mV 6 0),(oK 7 6),(mV 8 1),(oK 9 8),(oI 10 .neq 7 9)])
 (.cond (.t 10)
 (.seq (.ops [(oP 4 (.mv (.c (.bool false))))])
 .ret)
 .skip))
 (.seq (.seq (.ops [(oH 5 0)])
 (.block 0
 (.loop
 (.seq (.seq (.ops [(mV 11 5),(mV 12 0),(oK 13 12),(oI 14 .lss 11 13)])
 (.cond (.t 14)
 .skip
 (.exit 0)))
 (.seq (.block 1
 (.seq (.draw [((mV 17 0),0),((mV 18 5),0),((oS 19 1 17 18),0),((oA 20 19),1),((mV 21 1),0),((mV 22 5),0),((oS 23 1 21 22),0),((oA 24 23),1),((oI 25 .neq 20 24),0)])
 (.cond (.t 25)
 (.seq (.ops [(oP 4 (.mv (.c (.bool false))))])
 .ret)
 .skip)))
 (.ops [(mV 15 5),(oJ 16 .add 15 1),(mV 5 16)]))))))
 (.cut (.seq (.ops [(oP 4 (.mv (.c (.bool true))))])
 .ret)))))
theorem F163:FI 163 2 26 5 [.tmp 4] c163:=mkF Tryz.f163 Tryz.func163
def c63:RC :=
 (.seq (.ops [(oP 2 (.mv (.c (.int .u32 0))))])
 (.seq (.ops [(mV 3 0),(oP 4 (.callF 136 [(.c (.int .u32 0)),(.t 3)])),(mV 2 4)])
 .ret))
theorem F63:FI 63 1 5 3 [.tmp 2] c63:=mkF Tryz.f63 Tryz.func63
def c136:RC :=
 (.seq (.ops [(oP 4 (.mv (.c (.int .u32 0))))])
 (.seq (.ops [(mV 8 0),(oP 9 (.un .xor (.t 8))),(mV 5 9)])
 (.seq (.seq (.ops [(oH 6 0)])
 (.block 0
 (.loop
 (.seq (.seq (.ops [(mV 10 6),(mV 11 1),(oP 12 (.lenS (.t 11))),(oI 13 .lss 10 12)])
 (.cond (.t 13)
 .skip
 (.exit 0)))
 (.seq (.block 1
 (.seq (.ops [(mV 16 5),(mV 17 1),(mV 18 6),(oP 19 (.indexS (.t 17) (.t 18))),(oP 20 (.toInt .u32 (.t 19))),(oI 21 .xor 16 20),(mV 5 21)])
 (.seq (.ops [(oH 7 0)])
 (.block 2
 (.loop
 (.seq (.seq (.ops [(mV 22 7),(oJ 23 .lss 22 8)])
 (.cond (.t 23)
 .skip
 (.exit 2)))
 (.seq (.block 3
 (.ops [(mV 26 5),(oV 27 189 26),(mV 5 27)]))
 (.ops [(mV 24 7),(oJ 25 .add 24 1),(mV 7 25)]))))))))
 (.cut (.ops [(mV 14 6),(oJ 15 .add 14 1),(mV 6 15)])))))))
 (.cut (.seq (.ops [(mV 28 5),(oP 29 (.un .xor (.t 28))),(mV 4 29)])
 .ret)))))
theorem F136:FI 136 2 30 5 [.tmp 4] c136:=mkF Tryz.f136 Tryz.func136
def c189:RC :=
 (.seq (.ops [(oP 2 (.mv (.c (.int .u32 0))))])
 (.seq (.seq (.ops [(mV 3 0),(oP 4 (.bin .rem (.t 3) (.c (.int .u32 2)))),(oP 5 (.bin .eql (.t 4) (.c (.int .u32 1))))])
 (.cond (.t 5)
 (.seq (.ops [(mV 6 0),(oP 7 (.bin .shr (.t 6) (.c (.int .u64 1)))),(oP 8 (.bin .xor (.t 7) (.c (.int .u32 3988292384)))),(mV 2 8)])
 .ret)
 .skip))
 (.seq (.ops [(mV 9 0),(oP 10 (.bin .shr (.t 9) (.c (.int .u64 1)))),(mV 2 10)])
 .ret)))
theorem F189:FI 189 1 11 4 [.tmp 2] c189:=mkF Tryz.f189 Tryz.func189
def c249:RC :=
 (.seq (.ops [(oP 4 (.mv (.c (.str []))))])
 (.seq (.seq (.draw [((mV 6 1),0),((mV 7 0),0),((oR 8 7),0),((oC 9 0 8),0),((oC 10 0 9),0),((oA 11 10),1),((oP 12 (.lenS (.t 11))),0),((mV 13 0),0),((oR 14 13),0),((oC 15 0 14),0),((oC 16 1 15),0),((oA 17 16),1),((oI 18 .sub 12 17),0),((oI 19 .gtr 6 18),0)])
 (.cond (.t 19)
 (.ops [(oP 20 (.build [] [])),(oP 21 (.mkIfc 314 (.t 20))),
 ⟨none,none,.pan (.t 21)⟩])
 .skip))
 (.seq (.draw [((mV 22 0),0),((oR 23 22),0),((oC 24 0 23),0),((oC 25 0 24),0),((oA 26 25),1),((mV 27 0),0),((oR 28 27),0),((oC 29 0 28),0),((oC 30 1 29),0),((oA 31 30),1),((mV 32 0),0),((oR 33 32),0),((oC 34 0 33),0),((oC 35 1 34),0),((oA 36 35),1),((mV 37 1),0),((oI 38 .add 36 37),0),((oP 39 (.sliceS (.t 26) (some (.t 31)) (some (.t 38)))),1),((mV 5 39),0)])
 (.seq (.ops [(mV 40 0),(oR 41 40),(oC 42 0 41),(oC 43 1 42),(oA 44 43),(mV 45 1),(oI 46 .add 44 45),(oR 47 40),(oC 48 0 47),(oC 49 1 48),(oT 1 49 46)])
 (.seq (.ops [(mV 50 5),(mV 4 50)])
 .ret)))))
theorem F249:FI 249 2 51 6 [.tmp 4] c249:=mkF Tryz.f249 Tryz.func249
def c229:RC :=
 (.seq (.ops [(oH 4 0)])
 (.seq (.ops [(oH 5 0)])
 (.seq (.seq (.ops [(mV 8 0),(mV 9 1),(oW 10 249 8 9),(oP 11 (.strBytes (.t 10))),(oK 12 11),(oH 13 0)])
 (.block 0
 (.loop
 (.seq (.ops [(oI 14 .lss 13 12)])
 (.seq (.cond (.t 14)
 .skip
 (.exit 0))
 (.seq (.block 1
 (.seq (.ops [(oS 15 1 11 13),(oA 16 15),(mV 7 16)])
 (.ops [(mV 17 5),(oP 18 (.bin .shl (.t 17) (.c (.int .u64 8)))),(mV 19 7),(oP 20 (.toInt .i64 (.t 19))),(oI 21 .or 18 20),(mV 5 21)])))
 (.ops [(oJ 22 .add 13 1),(mV 13 22)])))))))
 (.cut (.seq (.ops [(mV 23 5),(mV 4 23)])
 .ret)))))
theorem F229:FI 229 2 24 5 [.tmp 4] c229:=mkF Tryz.f229 Tryz.func229
def c259:RC :=
 (.seq (.ops [(oP 2 (.alloc 23 [(.int .u8 0),(.int .u8 0),(.int .u8 0),(.int .u8 0),(.int .u8 0),(.int .u8 0),(.int .u8 0),(.int .u8 0),(.int .u8 0),(.int .u8 0),(.int .u8 0),(.int .u8 0),(.int .u8 0),(.int .u8 0),(.int .u8 0),(.int .u8 0)]))])
 (.seq (.ops [(oP 3 (.alloc 23 [(.int .u8 0),(.int .u8 0),(.int .u8 0),(.int .u8 0),(.int .u8 0),(.int .u8 0),(.int .u8 0),(.int .u8 0),(.int .u8 0),(.int .u8 0),(.int .u8 0),(.int .u8 0),(.int .u8 0),(.int .u8 0),(.int .u8 0),(.int .u8 0)]))])
 (.seq (.draw [((oP 4 (.sliceP 16 1 (.t 3) none none none)),1),((mV 5 0),0),((oP 6 (.callF 249 [(.t 5),(.c (.int .i64 16))])),2),((oP 7 (.cpy 1 (.t 4) (.t 6))),2)])
 (.seq (.ops [(oB 8 16 3),(oT 16 2 8)])
 .ret))))
theorem F259:FI 259 1 9 4 [.cell 2 23] c259:=mkF Tryz.f259 Tryz.func259
def c256:RC :=
 (.seq (.ops [(oH 6 65534)])
 (.seq (.seq (.ops [(mV 7 2),(oJ 8 .eql 7 0)])
 (.cond (.t 8)
 (.ops [(mV 9 0),(oP 10 (.callF 229 [(.t 9),(.c (.int .i64 2))])),(mV 6 10)])
 .skip))
 (.cut (.seq (.ops [(mV 11 6)])
 (.block 0
 (.seq (.ops [(oJ 19 .eql 11 65535),(mV 18 19)])
 (.cond (.t 18)
 (.seq (.ops [(mV 20 1),(mV 21 1),(mV 22 0),(oP 23 (.callF 229 [(.t 22),(.c (.int .i64 4))])),(mV 24 0),(oP 25 (.callF 229 [(.t 24),(.c (.int .i64 2))])),(oR 26 20),(oC 27 2 26),(oT 1 27 23),(oR 28 21),(oC 29 3 28),(oT 1 29 25)])
 (.ops [(mV 30 1),(mV 31 0),(oV 32 259 31),(oR 33 30),(oC 34 6 33),(oT 16 34 32)]))
 (.seq (.ops [(oJ 36 .eql 11 65534),(mV 35 36)])
 (.cond (.t 35)
 (.seq (.ops [(mV 37 1),(mV 38 1),(mV 39 0),(oP 40 (.callF 229 [(.t 39),(.c (.int .i64 4))])),(mV 41 0),(oP 42 (.callF 229 [(.t 41),(.c (.int .i64 4))])),(oR 43 37),(oC 44 4 43),(oT 1 44 40),(oR 45 38),(oC 46 5 45),(oT 1 46 42)])
 (.ops [(mV 47 1),(mV 48 0),(oV 49 259 48),(oR 50 47),(oC 51 6 50),(oT 16 51 49)]))
 (.ops [(mV 12 1),(mV 13 0),(mV 14 6),(oW 15 249 13 14),(oR 16 12),(oC 17 1 16),(oT 1 17 15)]))))))))))
theorem F256:FI 256 3 52 6 [] c256:=mkF Tryz.f256 Tryz.func256
def c250:RC :=
 (.seq (.ops [(oP 4 (.box 308 (.t 0))),(oP 5 (.box 3 (.t 1))),(oP 6 (.box 3 (.t 2))),(oP 7 (.box 9 (.t 3))),(oP 8 (.mv (.c .nilf)))])
 (.seq (.ops [(oP 9 (.mkFn (.func 255) [] [(.t 5),(.t 4),(.t 6),(.t 7)])),(mV 8 9)])
 .ret))
theorem F250:FI 250 4 10 4 [.tmp 8] c250:=mkF Tryz.f250 Tryz.func250
def c255:RC :=
 (.seq (.ops [(oA 9 1),(oH 10 0)])
 (.block 0
 (.loop
 (.seq (.ops [(oI 11 .lss 10 9)])
 (.seq (.cond (.t 11)
 .skip
 (.exit 0))
 (.seq (.block 1
 (.seq (.ops [(mV 12 10),(mV 6 12)])
 (.seq (.ops [(oP 7 (.alloc 147 [(.str []),(.str []),(.int .i64 0),(.int .i64 0),(.int .i64 0),(.int .i64 0),(.int .u8 0),(.int .u8 0),(.int .u8 0),(.int .u8 0),(.int .u8 0),(.int .u8 0),(.int .u8 0),(.int .u8 0),(.int .u8 0),(.int .u8 0),(.int .u8 0),(.int .u8 0),(.int .u8 0),(.int .u8 0),(.int .u8 0),(.int .u8 0)]))])
 (.seq (.draw [((oA 13 2),1),((oA 14 2),1),((oP 15 (.callF 229 [(.t 14),(.c (.int .i64 1))])),2),((oW 16 249 13 15),2),((mV 8 16),0)])
 (.seq (.seq (.ops [(mV 17 6),(oJ 18 .gtr 17 0),(mV 19 18),(oD 20 19 false 3),(oG 21 19 false (.bin .eql (.t 20) (.c (.int .i64 0)))),(oM 22 19 21)])
 (.cond (.t 22)
 (.ops [(oA 23 4),(oC 24 0 7),(oT 1 24 23)])
 .skip))
 (.cut (.seq (.ops [(oC 25 0 7),(oA 26 25),(mV 27 8),(oI 28 .add 26 27),(oC 29 0 7),(oT 1 29 28)])
 (.seq (.ops [(oA 30 2),(oA 31 3),(oP 32 (.callF 256 [(.t 30),(.t 7),(.t 31)]))])
 (.seq (.ops [(mV 33 0),(oB 34 22 7),(oP 35 (.callV (.t 33) [(.t 34)])),(oP 36 (.un .not (.t 35)))])
 (.cond (.t 36)
 .ret
 .skip))))))))))
 (.cut (.ops [(oJ 37 .add 10 1),(mV 10 37)]))))))))
theorem F255:FI 255 5 38 6 [] c255:=mkF Tryz.f255 Tryz.func255
def c214:RC :=
 (.seq (.ops [(mV 2 0),(oR 3 2),(oC 4 0 3),(oA 5 4),(oP 6 (.isNil false (.t 5)))])
 (.cond (.t 6)
 (.ops [(mV 7 0),(mV 8 0),(oP 9 (.toU (.t 8))),(mV 10 9),(oP 11 (.frU 246 (.t 10))),(oR 12 7),(oC 13 0 12),(oT 1 13 11)])
 (.seq (.ops [(mV 14 0),(oR 15 14),(oC 16 0 15),(oA 17 16),(mV 18 0),(oP 19 (.cmp true 244 (.t 17) (.t 18)))])
 (.cond (.t 19)
 (.raw (.refuse "(*strings.Builder).copyCheck builder.go:41: unsupported: a written strings.Builder's value in another place: whether the library's copy check passes hangs on where the compiler lays the two"))
 .skip))))
theorem F214:FI 214 1 20 5 [] c214:=mkF Tryz.f214 Tryz.func214
def c173:RC :=
 (.seq (.ops [(oP 4 (.mv (.c .nili)))])
 (.seq (.ops [(mV 5 0),(oV 6 214 5)])
 (.seq (.ops [(mV 7 0),(mV 8 0),(oR 9 8),(oC 10 1 9),(oA 11 10),(mV 12 1),(oP 13 (.mkLst 1 false 1 [(.int .u8 0)] [(0,1,(.t 12))])),(oP 14 (.app 5 1 (.t 11) (.t 13))),(oR 15 7),(oC 16 1 15),(oT 1 16 14)])
 (.seq (.ops [(oP 4 (.mv (.c .nili)))])
 .ret))))
theorem F173:FI 173 2 17 5 [.tmp 4] c173:=mkF Tryz.f173 Tryz.func173
def c176:RC :=
 (.seq (.ops [(oH 4 0),(oP 5 (.mv (.c .nili)))])
 (.seq (.ops [(mV 6 0),(oV 7 214 6)])
 (.seq (.ops [(mV 8 0),(mV 9 0),(oR 10 9),(oC 11 1 10),(oA 12 11),(mV 13 1),(oP 14 (.app 5 1 (.t 12) (.t 13))),(oR 15 8),(oC 16 1 15),(oT 1 16 14)])
 (.seq (.ops [(mV 17 1),(oP 18 (.lenS (.t 17))),(mV 4 18),(oP 5 (.mv (.c .nili)))])
 .ret))))
theorem F176:FI 176 2 19 5 [.tmp 4,.tmp 5] c176:=mkF Tryz.f176 Tryz.func176
def c178:RC :=
 (.seq (.ops [(oH 2 0)])
 (.seq (.ops [(mV 3 0),(oR 4 3),(oC 5 1 4),(oA 6 5),(oK 7 6),(mV 2 7)])
 .ret))
theorem F178:FI 178 1 8 4 [.tmp 2] c178:=mkF Tryz.f178 Tryz.func178
def c180:RC :=
 (.seq (.ops [(oP 2 (.mv (.c (.str []))))])
 (.seq (.draw [((mV 3 0),0),((oR 4 3),0),((oC 5 1 4),0),((oA 6 5),1),((oP 7 (.uData (.t 6))),0),((mV 8 0),0),((oR 9 8),0),((oC 10 1 9),0),((oA 11 10),1),((oK 12 11),0),((oP 13 (.uStr 5 (.t 7) (.t 12))),2),((mV 2 13),0)])
 .ret))
theorem F180:FI 180 1 14 4 [.tmp 2] c180:=mkF Tryz.f180 Tryz.func180
def c174:RC :=
 (.seq (.ops [(mV 7 2),(oJ 8 .sub 7 1),(mV 6 8)])
 (.block 0
 (.loop
 (.seq (.seq (.ops [(mV 9 6),(oJ 10 .geq 9 0)])
 (.cond (.t 10)
 .skip
 (.exit 0)))
 (.seq (.block 1
 (.draw [((mV 13 0),0),((oR 14 13),0),((oC 15 0 14),0),((mV 16 1),0),((mV 17 6),0),((oP 18 (.bin .mul (.c (.int .i64 8)) (.t 17))),0),((oI 19 .shr 16 18),0),((oP 20 (.toInt .u8 (.t 19))),0),((oW 21 173 15 20),2)]))
 (.ops [(mV 11 6),(oJ 12 .sub 11 1),(mV 6 12)]))))))
theorem F174:FI 174 3 22 5 [] c174:=mkF Tryz.f174 Tryz.func174
def c282:RC :=
 (.seq (.ops [(oP 3 (.box 23 (.t 1)))])
 (.draw [((mV 4 0),0),((oR 5 4),0),((oC 6 0 5),0),((oP 7 (.sliceP 16 1 (.t 3) none none none)),1),((oP 8 (.bytesStr (.t 7))),3),((oW 9 176 6 8),2)]))
theorem F282:FI 282 2 10 4 [] c282:=mkF Tryz.f282 Tryz.func282
def c224:RC :=
 (.seq (.ops [(oH 4 0),(oH 5 0)])
 (.seq (.seq (.ops [(mV 11 1),(oP 12 (.callF 191 [(.t 11),(.c (.int .i64 0)),(.c (.int .i64 20))])),(oP 13 (.un .not (.t 12)))])
 (.cond (.t 13)
 (.seq (.ops [(oH 4 0),(oH 5 2)])
 .ret)
 .skip))
 (.seq (.ops [(oH 6 6)])
 (.seq (.seq (.ops [(mV 14 0),(oK 15 14),(oH 16 0)])
 (.block 0
 (.loop
 (.seq (.ops [(oI 17 .lss 16 15)])
 (.seq (.cond (.t 17)
 .skip
 (.exit 0))
 (.seq (.block 1
 (.seq (.ops [(oS 18 22 14 16),(oB 19 22 18),(oP 8 (.alloc 147 [(.str []),(.str []),(.int .i64 0),(.int .i64 0),(.int .i64 0),(.int .i64 0),(.int .u8 0),(.int .u8 0),(.int .u8 0),(.int .u8 0),(.int .u8 0),(.int .u8 0),(.int .u8 0),(.int .u8 0),(.int .u8 0),(.int .u8 0),(.int .u8 0),(.int .u8 0),(.int .u8 0),(.int .u8 0),(.int .u8 0),(.int .u8 0)])),(oT 22 8 19)])
 (.seq (.ops [(oB 21 22 8),(mV 22 1),(oW 23 246 21 22),(mV 20 23),(oQ 24 20 0),(oQ 25 20 1),(mV 9 24),(mV 10 25)])
 (.seq (.seq (.ops [(mV 26 10),(oP 27 (.un .not (.t 26)))])
 (.cond (.t 27)
 (.seq (.ops [(oH 4 0),(oH 5 2)])
 .ret)
 .skip))
 (.ops [(mV 28 6),(mV 29 9),(oI 30 .add 28 29),(mV 6 30)])))))
 (.ops [(oJ 31 .add 16 1),(mV 16 31)])))))))
 (.cut (.seq (.ops [(mV 32 6),(mV 4 32),(oH 5 0)])
 .ret))))))
theorem F224:FI 224 2 33 6 [.tmp 4,.tmp 5] c224:=mkF Tryz.f224 Tryz.func224
def c223:RC :=
 (.seq (.ops [(oP 4 (.mv (.c (.bool false))))])
 (.seq (.seq (.ops [(mV 7 1),(oP 8 (.callF 191 [(.t 7),(.c (.int .i64 0)),(.c (.int .i64 20))])),(oP 9 (.un .not (.t 8))),(mV 10 9),(oE 11 10 false 0),(oG 12 10 false (.lenL (.t 11))),(oG 13 10 false (.bin .eql (.t 12) (.c (.int .i64 0)))),(oM 14 10 13),(mV 15 14),(oE 16 15 false 1),(oG 17 15 false (.bin .gtr (.t 16) (.c (.int .i64 0)))),(oE 18 15 false 17),(oE 19 18 true 0),(oG 20 18 true (.lenL (.t 19))),(oG 21 18 true (.bin .lss (.t 20) (.c (.int .i64 2)))),(oE 22 18 true 21),(oE 23 22 false 0),(oG 24 22 false (.indexAddrL 22 (.t 23) (.c (.int .i64 0)))),(oF 25 22 false 0 24),(oD 26 22 false 25),(oG 27 22 false (.bin .neq (.t 26) (.c (.str [])))),(oG 28 18 true (.pick (.t 22) (.c (.bool true)) (.t 27))),(oG 29 15 false (.pick (.t 18) (.t 28) (.c (.bool false)))),(oM 30 15 29)])
 (.cond (.t 30)
 (.seq (.ops [(oP 4 (.mv (.c (.bool false))))])
 .ret)
 .skip))
 (.seq (.seq (.ops [(mV 31 0),(oK 32 31),(oH 33 0)])
 (.block 0
 (.loop
 (.seq (.ops [(oI 34 .lss 33 32)])
 (.seq (.cond (.t 34)
 .skip
 (.exit 0))
 (.seq (.block 1
 (.seq (.ops [(mV 35 33),(oS 36 22 31 33),(oB 37 22 36),(oP 6 (.alloc 147 [(.str []),(.str []),(.int .i64 0),(.int .i64 0),(.int .i64 0),(.int .i64 0),(.int .u8 0),(.int .u8 0),(.int .u8 0),(.int .u8 0),(.int .u8 0),(.int .u8 0),(.int .u8 0),(.int .u8 0),(.int .u8 0),(.int .u8 0),(.int .u8 0),(.int .u8 0),(.int .u8 0),(.int .u8 0),(.int .u8 0),(.int .u8 0)])),(mV 5 35),(oT 22 6 37)])
 (.block 2
 (.seq (.seq (.ops [(mV 39 1),(oJ 40 .eql 39 0),(mV 41 40),(oG 42 41 true (.load true 22 (.t 6))),(oG 43 41 true (.callF 243 [(.t 42)])),(oG 44 41 true (.bin .eql (.t 43) (.c (.int .i64 0)))),(oN 45 41 44),(mV 38 45)])
 (.cond (.t 38)
 .skip
 (.ops [(mV 46 1),(oJ 47 .gtr 46 0),(mV 48 47),(oG 49 48 true (.load true 22 (.t 6))),(oG 50 48 true (.callF 244 [(.t 49)])),(oG 51 48 true (.un .not (.t 50))),(oE 52 48 true 51),(oE 53 52 false 5),(oG 54 52 false (.bin .gtr (.t 53) (.c (.int .i64 0)))),(oE 55 52 false 54),(oF 56 55 true 0 6),(oD 57 55 true 56),(oG 58 55 true (.bin .eql (.t 57) (.c (.str [])))),(oG 59 52 false (.pick (.t 55) (.t 58) (.c (.bool false)))),(oG 60 48 true (.pick (.t 52) (.c (.bool true)) (.t 59))),(oN 61 48 60),(mV 38 61)])))
 (.cond (.t 38)
 (.seq (.ops [(oP 4 (.mv (.c (.bool false))))])
 .ret)
 (.seq (.draw [((mV 63 5),0),((oJ 64 .gtr 63 0),0),((mV 65 64),0),((oE 66 65 true 0),0),((oE 67 65 true 5),0),((oG 68 65 true (.bin .sub (.t 67) (.c (.int .i64 1)))),0),((oG 69 65 true (.indexAddrL 22 (.t 66) (.t 68))),0),((oF 70 65 true 0 69),0),((oD 71 65 true 70),1),((oF 72 65 true 0 6),0),((oD 73 65 true 72),1),((oG 74 65 true (.callF 245 [(.t 71),(.t 73)])),4),((oG 75 65 true (.bin .geq (.t 74) (.c (.int .i64 0)))),0),((oN 76 65 75),0),((mV 62 76),0)])
 (.cond (.t 62)
 (.seq (.ops [(oP 4 (.mv (.c (.bool false))))])
 .ret)
 .skip)))))))
 (.ops [(oJ 77 .add 33 1),(mV 33 77)])))))))
 (.cut (.seq (.ops [(oP 4 (.mv (.c (.bool true))))])
 .ret)))))
theorem F223:FI 223 2 78 7 [.tmp 4] c223:=mkF Tryz.f223 Tryz.func223
def c192:RC :=
 (.seq (.ops [(oP 4 (.mv (.c (.bool false))))])
 (.seq (.seq (.ops [(mV 7 0),(mV 8 1),(oW 9 223 7 8),(oP 10 (.un .not (.t 9)))])
 (.cond (.t 10)
 (.seq (.ops [(oP 4 (.mv (.c (.bool false))))])
 .ret)
 .skip))
 (.seq (.ops [(mV 12 0),(mV 13 1),(oW 14 224 12 13),(mV 11 14),(oQ 15 11 0),(oQ 16 11 1),(mV 5 15),(mV 6 16)])
 (.seq (.ops [(mV 17 5),(oJ 18 .leq 17 496),(mV 4 18)])
 .ret))))
theorem F192:FI 192 2 19 5 [.tmp 4] c192:=mkF Tryz.f192 Tryz.func192
def c279:RC :=
 (.seq (.ops [(oP 4 (.mv (.c (.str []))))])
 (.seq (.seq (.ops [(mV 8 1),(oJ 9 .gtr 8 0)])
 (.cond (.t 9)
 (.ops [(mV 10 0),(oP 11 (.sliceL 22 (.t 10) (some (.c (.int .i64 1))) none none)),(mV 0 11)])
 .skip))
 (.cut (.seq (.ops [(mV 12 0),(oP 13 (.indexAddrL 22 (.t 12) (.c (.int .i64 0)))),(oC 14 0 13),(oA 15 14),(mV 5 15)])
 (.seq (.seq (.ops [(mV 16 0),(oP 17 (.sliceL 22 (.t 16) (some (.c (.int .i64 1))) none none)),(oK 18 17),(oH 19 0)])
 (.block 0
 (.loop
 (.seq (.ops [(oI 20 .lss 19 18)])
 (.seq (.cond (.t 20)
 .skip
 (.exit 0))
 (.seq (.block 1
 (.seq (.ops [(oS 21 22 17 19),(oB 22 22 21),(oP 7 (.alloc 147 [(.str []),(.str []),(.int .i64 0),(.int .i64 0),(.int .i64 0),(.int .i64 0),(.int .u8 0),(.int .u8 0),(.int .u8 0),(.int .u8 0),(.int .u8 0),(.int .u8 0),(.int .u8 0),(.int .u8 0),(.int .u8 0),(.int .u8 0),(.int .u8 0),(.int .u8 0),(.int .u8 0),(.int .u8 0),(.int .u8 0),(.int .u8 0)])),(oT 22 7 22)])
 (.ops [(mV 23 5),(mV 24 5),(oC 25 0 7),(oA 26 25),(oW 27 281 24 26),(oP 28 (.sliceS (.t 23) none (some (.t 27)))),(mV 5 28)])))
 (.ops [(oJ 29 .add 19 1),(mV 19 29)])))))))
 (.cut (.seq (.ops [(mV 30 5),(mV 4 30)])
 .ret)))))))
theorem F279:FI 279 2 31 6 [.tmp 4] c279:=mkF Tryz.f279 Tryz.func279
def c191:RC :=
 (.seq (.ops [(oP 6 (.mv (.c (.bool false))))])
 (.seq (.ops [(mV 7 1),(mV 8 0),(oI 9 .leq 7 8),(mV 10 9),(oE 11 10 true 0),(oE 12 10 true 2),(oG 13 10 true (.bin .leq (.t 11) (.t 12))),(oN 14 10 13),(mV 6 14)])
 .ret))
theorem F191:FI 191 3 15 5 [.tmp 6] c191:=mkF Tryz.f191 Tryz.func191
def c246:RC :=
 (.seq (.ops [(oP 2 (.box 147 (.t 0))),(oH 4 0),(oP 5 (.mv (.c (.bool false))))])
 (.seq (.seq (.ops [(mV 6 1),(oJ 7 .gtr 6 0)])
 (.cond (.t 7)
 (.seq (.draw [((oC 8 0 2),0),((oA 9 8),1),((oP 10 (.lenS (.t 9))),0),((oJ 11 .add 10 27),0),((oB 12 22 2),1),((oV 13 244 12),4),((mV 4 11),0),((mV 5 13),0)])
 .ret)
 .skip))
 (.seq (.seq (.ops [(oB 14 22 2),(oV 15 243 14)])
 (.block 0
 (.seq (.ops [(oJ 17 .eql 15 1),(mV 16 17)])
 (.cond (.t 16)
 (.seq (.ops [(oC 18 0 2),(oA 19 18),(oP 20 (.lenS (.t 19))),(oC 21 1 2),(oA 22 21),(oP 23 (.lenS (.t 22))),(oI 24 .add 20 23),(oJ 25 .add 24 5),(mV 4 25),(oP 5 (.mv (.c (.bool true))))])
 .ret)
 (.seq (.ops [(oJ 27 .eql 15 2),(mV 26 27)])
 (.cond (.t 26)
 (.seq (.ops [(oC 28 0 2),(oA 29 28),(oP 30 (.lenS (.t 29))),(oJ 31 .add 30 27),(mV 4 31),(oP 5 (.mv (.c (.bool true))))])
 .ret)
 (.seq (.ops [(oJ 33 .eql 15 3),(mV 32 33)])
 (.cond (.t 32)
 (.seq (.ops [(oC 34 0 2),(oA 35 34),(oP 36 (.lenS (.t 35))),(oJ 37 .add 36 29),(mV 4 37),(oP 5 (.mv (.c (.bool true))))])
 .ret)
 .skip))))))))
 (.seq (.ops [(oH 4 0),(oP 5 (.mv (.c (.bool false))))])
 .ret))))
theorem F246:FI 246 2 38 6 [.tmp 4,.tmp 5] c246:=mkF Tryz.f246 Tryz.func246
def c243:RC :=
 (.seq (.ops [(oP 1 (.box 147 (.t 0))),(oH 2 0)])
 (.seq (.ops [(oP 3 (.alloc 23 [(.int .u8 0),(.int .u8 0),(.int .u8 0),(.int .u8 0),(.int .u8 0),(.int .u8 0),(.int .u8 0),(.int .u8 0),(.int .u8 0),(.int .u8 0),(.int .u8 0),(.int .u8 0),(.int .u8 0),(.int .u8 0),(.int .u8 0),(.int .u8 0)]))])
 (.seq (.block 0
 (.seq (.ops [(oC 5 0 1),(oA 6 5),(oP 7 (.lenS (.t 6))),(oP 8 (.callF 191 [(.t 7),(.c (.int .i64 1)),(.c (.int .i64 48))])),(oP 9 (.un .not (.t 8))),(mV 4 9)])
 (.cond (.t 4)
 (.seq (.ops [(oH 2 0)])
 .ret)
 (.seq (.ops [(oC 11 2 1),(oA 12 11),(oJ 13 .eql 12 0),(mV 14 13),(oF 15 14 true 3 1),(oD 16 14 true 15),(oG 17 14 true (.bin .eql (.t 16) (.c (.int .i64 0)))),(oN 18 14 17),(mV 19 18),(oF 20 19 true 4 1),(oD 21 19 true 20),(oG 22 19 true (.bin .eql (.t 21) (.c (.int .i64 0)))),(oN 23 19 22),(mV 24 23),(oF 25 24 true 5 1),(oD 26 24 true 25),(oG 27 24 true (.bin .eql (.t 26) (.c (.int .i64 0)))),(oN 28 24 27),(mV 29 28),(oF 30 29 true 6 1),(oG 31 29 true (.load true 16 (.t 30))),(oG 32 29 true (.load true 16 (.t 3))),(oG 33 29 true (.cmp false 23 (.t 31) (.t 32))),(oN 34 29 33),(mV 35 34),(oF 36 35 true 1 1),(oD 37 35 true 36),(oG 38 35 true (.lenS (.t 37))),(oG 39 35 true (.bin .leq (.t 38) (.c (.int .i64 64)))),(oN 40 35 39),(mV 10 40)])
 (.cond (.t 10)
 (.seq (.ops [(oH 2 1)])
 .ret)
 (.seq (.ops [(oC 42 1 1),(oA 43 42),(oP 44 (.bin .neq (.t 43) (.c (.str [])))),(mV 41 44)])
 (.cond (.t 41)
 (.seq (.ops [(oH 2 0)])
 .ret)
 (.seq (.ops [(oC 46 4 1),(oA 47 46),(oJ 48 .eql 47 0),(mV 49 48),(oF 50 49 true 5 1),(oD 51 49 true 50),(oG 52 49 true (.bin .eql (.t 51) (.c (.int .i64 0)))),(oN 53 49 52),(mV 54 53),(oF 55 54 true 2 1),(oD 56 54 true 55),(oG 57 54 true (.callF 190 [(.t 56)])),(oN 58 54 57),(mV 59 58),(oF 60 59 true 3 1),(oD 61 59 true 60),(oG 62 59 true (.callF 191 [(.t 61),(.c (.int .i64 65)),(.c (.int .i64 4000))])),(oN 63 59 62),(mV 45 63)])
 (.cond (.t 45)
 (.seq (.ops [(oH 2 2)])
 .ret)
 (.seq (.ops [(oC 65 2 1),(oA 66 65),(oJ 67 .eql 66 0),(mV 68 67),(oF 69 68 true 3 1),(oD 70 68 true 69),(oG 71 68 true (.bin .eql (.t 70) (.c (.int .i64 0)))),(oN 72 68 71),(mV 73 72),(oF 74 73 true 4 1),(oD 75 73 true 74),(oG 76 73 true (.callF 190 [(.t 75)])),(oN 77 73 76),(mV 78 77),(oF 79 78 true 5 1),(oD 80 78 true 79),(oG 81 78 true (.callF 191 [(.t 80),(.c (.int .i64 1)),(.c (.int .i64 2147483647))])),(oN 82 78 81),(mV 64 82)])
 (.cond (.t 64)
 (.seq (.ops [(oH 2 3)])
 .ret)
 .skip)))))))))))
 (.seq (.ops [(oH 2 0)])
 .ret))))
theorem F243:FI 243 1 83 7 [.tmp 2] c243:=mkF Tryz.f243 Tryz.func243
def c244:RC :=
 (.seq (.ops [(oP 1 (.box 147 (.t 0))),(oP 2 (.mv (.c (.bool false))))])
 (.seq (.ops [(oC 3 0 1),(oA 4 3),(oP 5 (.lenS (.t 4))),(oJ 6 .leq 5 48),(mV 7 6),(oF 8 7 true 1 1),(oD 9 7 true 8),(oG 10 7 true (.bin .eql (.t 9) (.c (.str [])))),(oN 11 7 10),(mV 12 11),(oF 13 12 true 2 1),(oD 14 12 true 13),(oG 15 12 true (.bin .eql (.t 14) (.c (.int .i64 0)))),(oN 16 12 15),(mV 17 16),(oF 18 17 true 3 1),(oD 19 17 true 18),(oG 20 17 true (.bin .eql (.t 19) (.c (.int .i64 0)))),(oN 21 17 20),(mV 22 21),(oF 23 22 true 4 1),(oD 24 22 true 23),(oG 25 22 true (.callF 190 [(.t 24)])),(oN 26 22 25),(mV 27 26),(oF 28 27 true 5 1),(oD 29 27 true 28),(oG 30 27 true (.callF 191 [(.t 29),(.c (.int .i64 1)),(.c (.int .i64 2147483647))])),(oN 31 27 30),(mV 2 31)])
 .ret))
theorem F244:FI 244 1 32 6 [.tmp 2] c244:=mkF Tryz.f244 Tryz.func244
def c245:RC :=
 (.seq (.ops [(oH 4 0)])
 (.seq (.ops [(mV 5 0),(mV 6 1),(oW 7 254 5 6),(mV 4 7)])
 .ret))
theorem F245:FI 245 2 8 4 [.tmp 4] c245:=mkF Tryz.f245 Tryz.func245
def c190:RC :=
 (.seq (.ops [(oP 2 (.mv (.c (.bool false))))])
 (.seq (.ops [(mV 3 0),(oP 4 (.callF 191 [(.t 3),(.c (.int .i64 2)),(.c (.int .i64 4095))])),(mV 2 4)])
 .ret))
theorem F190:FI 190 1 5 3 [.tmp 2] c190:=mkF Tryz.f190 Tryz.func190
def c281:RC :=
 (.seq (.ops [(oH 4 0)])
 (.seq (.ops [(oH 5 0)])
 (.seq (.block 0
 (.loop
 (.seq (.seq (.draw [((mV 6 5),0),((mV 7 0),0),((oP 8 (.lenS (.t 7))),0),((mV 9 1),0),((oP 10 (.lenS (.t 9))),0),((oP 11 (.mm false (.t 8) (.t 10))),0),((oI 12 .lss 6 11),0),((mV 13 12),0),((oE 14 13 true 0),0),((oE 15 13 true 5),0),((oG 16 13 true (.indexS (.t 14) (.t 15))),0),((oE 17 13 true 1),0),((oE 18 13 true 5),0),((oG 19 13 true (.indexS (.t 17) (.t 18))),0),((oG 20 13 true (.bin .eql (.t 16) (.t 19))),0),((oN 21 13 20),0)])
 (.cond (.t 21)
 .skip
 (.exit 0)))
 (.block 1
 (.ops [(mV 22 5),(oJ 23 .add 22 1),(mV 5 23)])))))
 (.cut (.seq (.ops [(mV 24 5),(mV 4 24)])
 .ret)))))
theorem F281:FI 281 2 25 5 [.tmp 4] c281:=mkF Tryz.f281 Tryz.func281
def c254:RC :=
 (.seq (.ops [(oH 4 0)])
 (.seq (.ops [(mV 7 0),(oV 8 258 7),(mV 5 8)])
 (.seq (.ops [(mV 9 1),(oV 10 258 9),(mV 6 10)])
 (.seq (.seq (.ops [(mV 11 5)])
 (.cond (.t 11)
 (.seq (.seq (.ops [(mV 12 6)])
 (.cond (.t 12)
 (.seq (.ops [(oH 4 0)])
 .ret)
 .skip))
 (.seq (.ops [(oP 4 (.mv (.c (.int .i64 (-1)))))])
 .ret))
 .skip))
 (.seq (.seq (.ops [(mV 13 6)])
 (.cond (.t 13)
 (.seq (.ops [(oH 4 1)])
 .ret)
 .skip))
 (.seq (.seq (.ops [(mV 14 0),(mV 15 1),(oI 16 .lss 14 15)])
 (.cond (.t 16)
 (.seq (.ops [(oP 4 (.mv (.c (.int .i64 (-1)))))])
 .ret)
 .skip))
 (.seq (.seq (.ops [(mV 17 0),(mV 18 1),(oI 19 .gtr 17 18)])
 (.cond (.t 19)
 (.seq (.ops [(oH 4 1)])
 .ret)
 .skip))
 (.seq (.ops [(oH 4 0)])
 .ret))))))))
theorem F254:FI 254 2 20 5 [.tmp 4] c254:=mkF Tryz.f254 Tryz.func254
def c258:RC :=
 (.seq (.ops [(oP 2 (.mv (.c (.bool false))))])
 (.seq (.ops [(mV 3 0),(mV 4 0),(oI 5 .neq 3 4),(mV 2 5)])
 .ret))
theorem F258:FI 258 1 6 3 [.tmp 2] c258:=mkF Tryz.f258 Tryz.func258
def c135:RC :=
 (.seq (.ops [(oP 2 (.mv (.c (.int .u32 0))))])
 (.seq (.ops [(mV 3 0),(oP 4 (.callF 188 [(.c (.int .u32 0)),(.t 3)])),(mV 2 4)])
 .ret))
theorem F135:FI 135 1 5 3 [.tmp 2] c135:=mkF Tryz.f135 Tryz.func135
def c188:RC :=
 (.seq (.ops [(oP 4 (.mv (.c (.int .u32 0))))])
 (.seq (.ops [(oP 8 (.callF 222 [])),(oP 5 (.alloc 303 (List.replicate 256 (.int .u32 0)))),(oT 256 5 8)])
 (.seq (.ops [(mV 9 0),(oP 10 (.un .xor (.t 9))),(mV 6 10)])
 (.seq (.seq (.ops [(mV 11 1),(oP 12 (.lenS (.t 11))),(oH 13 0)])
 (.block 0
 (.loop
 (.seq (.ops [(oI 14 .lss 13 12)])
 (.seq (.cond (.t 14)
 .skip
 (.exit 0))
 (.seq (.block 1
 (.seq (.ops [(mV 15 13),(mV 7 15)])
 (.ops [(mV 16 6),(oP 17 (.toInt .u8 (.t 16))),(mV 18 1),(mV 19 7),(oP 20 (.indexS (.t 18) (.t 19))),(oI 21 .xor 17 20),(oP 22 (.indexAddrA 256 1 (.t 5) (.t 21))),(oA 23 22),(mV 24 6),(oP 25 (.bin .shr (.t 24) (.c (.int .u64 8)))),(oI 26 .xor 23 25),(mV 6 26)])))
 (.ops [(oJ 27 .add 13 1),(mV 13 27)])))))))
 (.cut (.seq (.ops [(mV 28 6),(oP 29 (.un .xor (.t 28))),(mV 4 29)])
 .ret))))))
theorem F188:FI 188 2 30 5 [.tmp 4] c188:=mkF Tryz.f188 Tryz.func188
def c222:RC :=
 (.seq (.ops [(oP 0 (.alloc 303 (List.replicate 256 (.int .u32 0))))])
 (.seq (.seq (.ops [(oH 3 0)])
 (.block 0
 (.loop
 (.seq (.ops [(oJ 4 .lss 3 256)])
 (.seq (.cond (.t 4)
 .skip
 (.exit 0))
 (.seq (.block 1
 (.seq (.ops [(mV 5 3),(mV 1 5)])
 (.seq (.ops [(mV 6 1),(oP 7 (.toInt .u32 (.t 6))),(mV 2 7)])
 (.seq (.seq (.ops [(oH 8 0)])
 (.block 2
 (.loop
 (.seq (.ops [(oJ 9 .lss 8 8)])
 (.seq (.cond (.t 9)
 .skip
 (.exit 2))
 (.seq (.block 3
 (.ops [(mV 10 2),(oV 11 242 10),(mV 2 11)]))
 (.ops [(oJ 12 .add 8 1),(mV 8 12)])))))))
 (.cut (.ops [(mV 13 1),(mV 14 2),(oP 15 (.indexAddrA 256 1 (.t 0) (.t 13))),(oT 1 15 14)]))))))
 (.cut (.ops [(oJ 16 .add 3 1),(mV 3 16)]))))))))
 (.cut (.seq (.ops [(oB 17 256 0),(oT 256 0 17)])
 .ret))))
theorem F222:FI 222 0 18 5 [.cell 0 303] c222:=mkF Tryz.f222 Tryz.func222
def c242:RC :=
 (.seq (.ops [(oP 2 (.mv (.c (.int .u32 0))))])
 (.seq (.seq (.ops [(mV 3 0),(oP 4 (.bin .and (.t 3) (.c (.int .u32 1)))),(oP 5 (.bin .eql (.t 4) (.c (.int .u32 1))))])
 (.cond (.t 5)
 (.seq (.ops [(mV 6 0),(oP 7 (.bin .shr (.t 6) (.c (.int .u64 1)))),(oP 8 (.bin .xor (.t 7) (.c (.int .u32 3988292384)))),(mV 2 8)])
 .ret)
 .skip))
 (.seq (.ops [(mV 9 0),(oP 10 (.bin .shr (.t 9) (.c (.int .u64 1)))),(mV 2 10)])
 .ret)))
theorem F242:FI 242 1 11 4 [.tmp 2] c242:=mkF Tryz.f242 Tryz.func242
def cfgN:Cfg:=⟨inl0,fun _ _=>none,fun _ _ _=>none,fun _=>false⟩
noncomputable abbrev CC (n:Nat):zba:=CN Tryz.prog cfgN n
@[reducible] def u32 (c:UInt32):AV:=.int .u32 c.toNat
theorem zig (b:BitVec 32):IntKind.u32.wrap (b.toNat:Int)=(b.toNat:Int):=by
 have h:=b.isLt
 show (if (IntKind.u32.signed&&decide ((b.toNat:Int) % (2 ^ 32:Int)≥(2 ^ (32-1):Int)))=true then (b.toNat:Int) % (2 ^ 32:Int)-2 ^ 32 else (b.toNat:Int) % (2 ^ 32:Int))=_
 rw [if_neg (by simp [IntKind.signed])]
 omega
theorem z1n (b:BitVec 8):IntKind.u8.wrap (b.toNat:Int)=(b.toNat:Int):=by
 have h:=b.isLt
 show (if (IntKind.u8.signed&&decide ((b.toNat:Int) % (2 ^ 8:Int)≥(2 ^ (8-1):Int)))=true then (b.toNat:Int) % (2 ^ 8:Int)-2 ^ 8 else (b.toNat:Int) % (2 ^ 8:Int))=_
 rw [if_neg (by simp [IntKind.signed])]
 omega
theorem bv32 (c:UInt32):BitVec.ofInt 32 (c.toNat:Int)=c.toBitVec:=by
 rw [BitVec.ofInt_natCast];apply BitVec.eq_of_toNat_eq;simp
theorem z3s (c d:UInt32):IntKind.u32.wrap (BitVec.ofInt IntKind.u32.bits (c.toNat:Int) &&& BitVec.ofInt IntKind.u32.bits (d.toNat:Int)).toNat=((c &&& d).toNat:Int):=by
 show IntKind.u32.wrap (BitVec.ofInt 32 (c.toNat:Int) &&& BitVec.ofInt 32 (d.toNat:Int)).toNat=_
 rw [bv32,bv32,zig];rfl
theorem zl1 (c d:UInt32):IntKind.u32.wrap (BitVec.ofInt IntKind.u32.bits (c.toNat:Int) ^^^ BitVec.ofInt IntKind.u32.bits (d.toNat:Int)).toNat=((c ^^^ d).toNat:Int):=by
 show IntKind.u32.wrap (BitVec.ofInt 32 (c.toNat:Int) ^^^ BitVec.ofInt 32 (d.toNat:Int)).toNat=_
 rw [bv32,bv32,zig];rfl
theorem xor_u8 (c d:UInt8):IntKind.u8.wrap (BitVec.ofInt IntKind.u8.bits (c.toNat:Int) ^^^ BitVec.ofInt IntKind.u8.bits (d.toNat:Int)).toNat=((c ^^^ d).toNat:Int):=by
 show IntKind.u8.wrap (BitVec.ofInt 8 (c.toNat:Int) ^^^ BitVec.ofInt 8 (d.toNat:Int)).toNat=_
 have e:∀ c:UInt8,BitVec.ofInt 8 (c.toNat:Int)=c.toBitVec:=fun c=>by rw [BitVec.ofInt_natCast];apply BitVec.eq_of_toNat_eq;simp
 rw [e,e,z1n];rfl
theorem zmi (c:UInt32):IntKind.u32.wrap (BitVec.ofInt IntKind.u32.bits (if IntKind.u32.signed then -1 else IntKind.u32.max) ^^^ BitVec.ofInt IntKind.u32.bits (c.toNat:Int)).toNat=((~~~c).toNat:Int):=by
 show IntKind.u32.wrap (BitVec.ofInt 32 4294967295 ^^^ BitVec.ofInt 32 (c.toNat:Int)).toNat=_
 rw [bv32,zig]
 have:(BitVec.ofInt 32 4294967295 ^^^ c.toBitVec)= ~~~c.toBitVec:=by
  rw [show BitVec.ofInt 32 4294967295=BitVec.allOnes 32 by decide]
  exact BitVec.allOnes_xor
 rw [this];rfl
theorem zi0 (c:UInt32) (k:Nat) (hk:k<32):((c.toNat:Int)).fdiv (2 ^ (min (k:Int).toNat IntKind.u32.bits))=((c >>> (UInt32.ofNat k)).toNat:Int):=by
 have h1:min (k:Int).toNat IntKind.u32.bits=k:=by show min (k:Int).toNat 32=k;omega
 rw [h1]
 have h2:(c >>> (UInt32.ofNat k)).toNat=c.toNat / 2 ^ k:=by
  rw [UInt32.toNat_shiftRight,UInt32.toNat_ofNat',Nat.shiftRight_eq_div_pow]
  rw [Nat.mod_eq_of_lt (show k<2 ^ 32 by omega),Nat.mod_eq_of_lt hk]
 rw [h2,Int.fdiv_eq_ediv_of_nonneg _ (by exact Int.pow_nonneg (by decide))]
 norm_cast
theorem z07 (c:UInt32):IntKind.u8.wrap (c.toNat:Int)=(c.toUInt8.toNat:Int):=by
 have h:=c.toNat_lt
 show (if (IntKind.u8.signed&&decide ((c.toNat:Int) % (2 ^ 8:Int)≥(2 ^ (8-1):Int)))=true then (c.toNat:Int) % (2 ^ 8:Int)-2 ^ 8 else (c.toNat:Int) % (2 ^ 8:Int))=_
 rw [if_neg (by simp [IntKind.signed]),UInt32.toNat_toUInt8]
 omega
def bit (c:UInt32):UInt32:=if c &&& 1=1 then (c >>> 1) ^^^ 3988292384 else c >>> 1
theorem z01 {c d:UInt32}:((c.toNat:Int)==(d.toNat:Int))=decide (c=d):=by
 by_cases h:c=d
 ·subst h;simp
 ·simp [h];intro h';exact h (UInt32.toNat_inj.1 (by omega))
section
variable {n:Nat}{h:zaa}
theorem bit_eq (hn:1 ≤ n) (c:UInt32):CC n 242 [u32 c] h=some (.ret (u32 (bit c)),h):=by
 obtain ⟨m,rfl⟩:=pre1 n
 refine zak F242 rfl rfl rfl rfl ?_
 conv=>whnf
 refine zI (z3s c 1) ?_
 conv=>whnf
 have e1:=@z01 (c &&& 1) 1
 refine br (fun a=>?_) (fun a=>?_)
 ·have a':c &&& 1=1:=by simpa [e1] using e1.symm.trans a
  conv=>whnf
  refine ⟨by decide,_,zi0 c 1 (by decide),?_⟩
  conv=>whnf
  refine zI (zl1 _ 3988292384) ?_
  conv=>whnf
  exact retP rfl (zbw (by simp [bit,a']))
 ·have a':¬ c &&& 1=1:=by simpa [e1] using e1.symm.trans a
  conv=>whnf
  refine ⟨by decide,_,zi0 c 1 (by decide),?_⟩
  conv=>whnf
  exact retP rfl (zbw (by simp [bit,a']))
def tab (i:UInt8):UInt32:=bit (bit (bit (bit (bit (bit (bit (bit i.toUInt32)))))))
def bits:Nat → UInt32 → UInt32
 | 0,c=>c
 | k+1,c=>bits k (bit c)
theorem zj6:∀ (k:Nat) (c:UInt32),bits (k+1) c=bit (bits k c)
 | 0,c=>rfl
 | k+1,c=>zj6 k (bit c)
def tabV (j:Nat):AV:=u32 (bits 8 (UInt32.ofNat j))
def tabC (i:Nat):List AV:=(List.range 256).map fun j=>if j<i then tabV j else .int .u32 0
theorem zc4 (i:Nat):(tabC i).length=256:=by simp [tabC]
theorem zuu (i:Nat):(tabC i).all AV.scal=true:=by
 rw [List.all_eq_true]
 intro x hx
 obtain ⟨j,_,rfl⟩:=List.mem_map.1 hx
 split<;>rfl
theorem zkz (i:Nat):(AV.agg (tabC i)).cells?=some (tabC i):=by
 show (if (tabC i).all AV.scal=true then some (tabC i) else none)=_
 rw [if_pos (zuu i)]
theorem zyt (i n:Nat):zex (n+2) (.agg (tabC i)):=zby fun x hx=>by
 obtain ⟨j,_,rfl⟩:=List.mem_map.1 hx
 split<;>exact zat
theorem znf {zs:List AV}(hz:zs.length=256) (i:Nat):putAt zs 0 (tabC i)=tabC i:=by
 unfold putAt
 rw [zc4,List.take_zero,List.drop_of_length_le (by omega)]
 simp
theorem zuv (i:Nat):putAt (tabC i) 0 (tabC i)=tabC i:=znf (zc4 i) i
theorem loadT {cs:List AV}(hcs:cs.length=256):zbv Tryz.prog [.cells 0 (some 303) cs 0] 303 (.ptr 0 0 0)=some (.agg cs):=by
 have ht:(ti Tryz.prog 303).map (fun d=>(za9 d.desc,d.size))=some (true,256):=by kernel_rfl
 obtain ⟨d,h1,h2⟩:=Option.map_eq_some_iff.1 ht
 simp only [Prod.mk.injEq] at h2
 unfold zbv
 simp only [h1,List.getElem?_cons_zero,if_true]
 unfold zdw
 rw [h2.1,h2.2,hcs]
 simp [← hcs]
theorem zys {i:Nat}(hi:i<256):putAt (tabC i) i [tabV i]=tabC (i+1):=by
 apply List.ext_getElem?
 intro k
 unfold putAt tabC
 rw [List.append_assoc]
 by_cases h1:k<i
 ·rw [List.getElem?_append_left (by simp;omega),List.getElem?_take,if_pos h1]
  simp only [List.getElem?_map]
  by_cases h2:k<256
  ·simp [List.getElem?_range h2,h1,show k<i+1 by omega]
  ·omega
 ·rw [List.getElem?_append_right (by simp;omega)]
  by_cases h2:k=i
  ·subst h2
   simp [List.getElem?_range hi,hi,Nat.min_eq_left (Nat.le_of_lt hi)]
  ·rw [List.getElem?_append_right (by simp;omega)]
   simp only [List.length_take,List.length_map,List.length_range,List.length_cons,List.length_nil,List.getElem?_drop,List.getElem?_map]
   rw [Nat.min_eq_left (Nat.le_of_lt hi),show i+(0+1)+(k-i-(0+1))=k by omega]
   by_cases h3:k<256
   ·simp [List.getElem?_range h3,show ¬ k<i by omega,show ¬ k<i+1 by omega]
   ·rw [List.getElem?_eq_none (by simp;omega)];rfl
theorem zuj {j:Nat}(hj:j<256):IntKind.u32.wrap (j:Int)=((UInt32.ofNat j).toNat:Int):=by
 have:((UInt32.ofNat j).toNat:Int)=j:=by rw [UInt32.toNat_ofNat'];omega
 rw [this]
 have:=zig (BitVec.ofNat 32 j)
 rwa [BitVec.toNat_ofNat,Nat.mod_eq_of_lt (show j<2 ^ 32 by omega)] at this
theorem zyq {m:Nat}(hn:1 ≤ m) (j:Nat) (hj:j<256) (hp:zaa) {Q:Ex → LS → Prop}{s:LS}(hs:LS.sub ⟨[(0,.ptr 0 0 0),(1,i64 j),(2,u32 (UInt32.ofNat j)),(3,i64 j),(8,i64 0)],hp,[]⟩ s)
  (hE:∀ L,subL [(0,.ptr 0 0 0),(1,i64 j),(2,tabV j),(3,i64 j)] L → Q (.exit 2) ⟨L,hp,[]⟩):OkR Tryz.prog (CC m) cfgN.inl KK 18 5 (.loop (c222.lp 1)) s Q:=by
 refine za7 (by decide) rfl (α:=Nat) (fun x=>⟨[(0,.ptr 0 0 0),(1,i64 j),(2,u32 (bits x (UInt32.ofNat j))),(3,i64 j),(8,i64 x)],hp,[]⟩) (fun x=>x ≤ 8) (fun x=>8-x) 0 hs (by simp) (by show 8-0<KK;simp only [KK];omega) ?_
 intro x hx
 conv=>whnf
 refine brd (fun a=>?_) (fun a=>?_)
 ·conv=>whnf
  refine clI (bit_eq (by omega) (bits x (UInt32.ofNat j))) ?_
  conv=>whnf
  refine zI (z:=((x+1:Nat):Int)) (by rw [zad (by omega) (by omega)];rfl) ?_
  refine nxI (x+1) (by omega) (by omega) ⟨⟨rfl,rfl,?_,rfl,rfl⟩,rfl,rfl⟩
  rw [zj6];rfl
 ·have:x=8:=by omega
  subst this
  conv=>whnf
  exact hE _ ⟨rfl,rfl,rfl,rfl⟩
set_option maxRecDepth 100000 in
theorem zyr (hn:2 ≤ n):CC n 222 [] h=some (.ret (.agg (tabC 256)),h):=by
 obtain ⟨m,rfl⟩:=pre1 n
 refine zak F222 rfl rfl rfl rfl ?_
 conv=>whnf
 refine za7 (by decide) rfl (α:=Nat) (fun x=>⟨[(0,.ptr 0 0 0),(3,i64 x)],[.cells 0 (some 303) (tabC x) 0],[]⟩) (fun x=>x ≤ 256) (fun x=>256-x) 0 ⟨⟨rfl,rfl⟩,by kernel_rfl,rfl⟩ (by simp) (by show 256-0<KK;simp only [KK];omega) ?_
 intro x hx
 conv=>whnf
 refine brd (fun a=>?_) (fun a=>?_)
 ·have hx':x<256:=by omega
  conv=>whnf
  refine zI (zuj hx') ?_
  conv=>whnf
  refine zyq (by omega) x hx' _ ⟨⟨rfl,rfl,rfl,rfl,rfl⟩,rfl,rfl⟩ fun L hL=>?_
  conv=>whnf
  refine cutI (by decide) rfl (t:=⟨[(0,.ptr 0 0 0),(1,i64 x),(2,tabV x),(3,i64 x)],[.cells 0 (some 303) (tabC x) 0],[]⟩) ⟨hL,rfl,rfl⟩ ?_
  conv=>whnf
  refine ⟨by omega,by omega,?_⟩
  conv=>whnf
  refine stI (cs:=tabC x) (by rfl) (by rfl) (by rfl) (by rw [zc4];show Nat.ble (0+(x:Int).toNat*1+1) 256=true;exact Nat.ble_eq_true_of_le (by omega)) (by rfl) ?_
  refine cutI (by decide) rfl (t:=⟨[(0,.ptr 0 0 0),(3,i64 x)],[.cells 0 (some 303) (tabC (x+1)) 0],[]⟩) ⟨⟨rfl,rfl⟩,?_,rfl⟩ ?_
  ·show [AB.cells 0 (some 303) (putAt (tabC x) (0+(x:Int).toNat*1) [tabV x]) 0]=_
   rw [show 0+(x:Int).toNat*1=x by omega,zys hx']
  ·conv=>whnf
   refine zI (z:=((x+1:Nat):Int)) (by rw [zad (by omega) (by omega)];rfl) ?_
   exact nxI (x+1) (by omega) (by omega) ⟨⟨rfl,rfl⟩,rfl,rfl⟩
 ·have:x=256:=by omega
  subst this
  refine cutI (by decide) rfl (t:=⟨[(0,.ptr 0 0 0)],[.cells 0 (some 303) (tabC 256) 0],[]⟩) ⟨rfl,rfl,rfl⟩ ?_
  conv=>whnf
  refine ldI (cs:=tabC 256) (by rfl) ?_
  conv=>whnf
  have hcs:List.take 256 (List.drop 0 (tabC 256))=tabC 256:=by rw [List.drop_zero,List.take_of_length_le (by rw [zc4];decide)]
  refine stI (cs:=tabC 256) (xs:=tabC 256) (by rfl) (by show AV.cells? (.agg (List.take 256 (List.drop 0 (tabC 256))))=_;rw [hcs];exact zkz 256) (zc4 256) (by rw [zc4];rfl) (by rfl) ?_
  refine ⟨rfl,[.agg (tabC 256)],?_,?_⟩
  ·show (match zbv Tryz.prog [.cells 0 (some 303) (putAt (tabC 256) 0 (tabC 256)) 0] 303 (.ptr 0 0 0) with | some v=>some [v] | none=>none)=_
   rw [zuv,loadT (zc4 256)]
  ·exact zyt 256 62 _
def ext (s:List UInt8) (c:UInt32):UInt32:=s.foldl (fun c b=>tab (c.toUInt8 ^^^ b) ^^^ (c >>> 8)) c
def crc (s:List UInt8):UInt32:= ~~~(ext s (~~~0))
theorem tab_at (b:UInt8):(tabC 256)[b.toNat]?=some (u32 (tab b)):=by
 have h:=b.toNat_lt
 unfold tabC
 rw [List.getElem?_map,List.getElem?_range (by omega)]
 simp only [Option.map_some]
 rw [if_pos (by omega)]
 have:UInt32.ofNat b.toNat=b.toUInt32:=by
  apply UInt32.toNat_inj.1
  rw [UInt32.toNat_ofNat',UInt8.toNat_toUInt32]
  omega
 unfold tabV bits bits bits bits bits bits bits bits bits tab
 rw [this]
theorem z0f {m:Nat}(s:Str) (hs:s.length<1099511627776) (c0:UInt32) {Q:Ex → LS → Prop}{st:LS}(h0:LS.sub ⟨[(1,.str s),(5,.ptr 0 0 0),(6,u32 c0),(12,i64 s.length),(13,i64 0)],[.cells 0 (some 303) (tabC 256) 0],[]⟩ st)
  (hE:∀ L hp,lk L 6=some (u32 (ext s c0)) → Q (.exit 0) ⟨L,hp,[]⟩):OkR Tryz.prog (CC m) cfgN.inl KK 30 5 (.loop (c188.lp 0)) st Q:=by
 refine za7 (by decide) rfl (α:=Nat × UInt32) (fun x=>⟨[(1,.str s),(5,.ptr 0 0 0),(6,u32 x.2),(12,i64 s.length),(13,i64 x.1)],[.cells 0 (some 303) (tabC 256) 0],[]⟩) (fun x=>x.1 ≤ s.length ∧ x.2=ext (s.take x.1) c0) (fun x=>s.length-x.1) (0,c0) h0 (by simp [ext]) (by show s.length-0<KK;simp only [KK];omega) ?_
 rintro ⟨x,c⟩ ⟨hx,hc⟩
 simp only at hx hc
 conv=>whnf
 refine brd (fun a=>?_) (fun a=>?_)
 ·simp only at a
  have hx':x<s.length:=by omega
  have hst:tab (c.toUInt8 ^^^ s[x]) ^^^ (c >>> 8)=ext (s.take (x+1)) c0:=by
   subst hc
   unfold ext
   rw [List.take_succ_eq_append_getElem hx',List.foldl_append];rfl
  conv=>whnf
  refine zI (z07 c) ?_
  conv=>whnf
  refine ⟨by omega,s[x],by rw [Int.toNat_natCast];exact List.getElem?_eq_getElem hx',?_⟩
  conv=>whnf
  refine zI (xor_u8 c.toUInt8 s[x]) ?_
  conv=>whnf
  have hlt:=(c.toUInt8 ^^^ s[x]).toNat_lt
  refine ⟨by omega,by omega,?_⟩
  conv=>whnf
  refine ldI (cs:=tabC 256) (by rfl) ?_
  refine zdp (v:=u32 (tab (c.toUInt8 ^^^ s[x]))) (by show (tabC 256)[0+(((c.toUInt8 ^^^ s[x]).toNat:Nat):Int).toNat*1]?=_;rw [Int.toNat_natCast,Nat.zero_add,Nat.mul_one];exact tab_at _) ?_
  conv=>whnf
  refine ⟨by decide,_,zi0 c 8 (by decide),?_⟩
  conv=>whnf
  refine zI (zl1 _ _) ?_
  conv=>whnf
  refine zI (z:=((x+1:Nat):Int)) (by rw [zad (by omega) (by omega)];rfl) ?_
  exact nxI (x+1,tab (c.toUInt8 ^^^ s[x]) ^^^ (c >>> 8)) ⟨hx',hst⟩ (by simp only;omega) ⟨⟨rfl,rfl,rfl,rfl,rfl⟩,rfl,rfl⟩
 ·simp only at a
  have:x=s.length:=by omega
  subst this
  rw [List.take_length] at hc
  subst hc
  conv=>whnf
  exact hE _ _ rfl
set_option maxRecDepth 100000 in
theorem zw0 (hn:3 ≤ n) (s:Str) (hs:s.length<1099511627776) (c:UInt32):CC n 188 [u32 c,.str s] h=some (.ret (u32 (~~~(ext s (~~~c)))),h):=by
 obtain ⟨m,rfl⟩:=pre1 n
 refine zak F188 rfl rfl rfl rfl ?_
 conv=>whnf
 refine clI (zyr (by omega)) ?_
 conv=>whnf
 refine stI (xs:=tabC 256) (by rfl) (zkz 256) (zc4 256) (by rw [zc4];rfl) (by rfl) ?_
 conv=>whnf
 refine zI (zmi c) ?_
 conv=>whnf
 refine z0f s hs (~~~c) ⟨⟨rfl,rfl,rfl,rfl,rfl⟩,?_,rfl⟩ fun L hp hL=>?_
 ·exact congrArg (fun cs=>[AB.cells 0 (some 303) cs 0]) (znf (by rfl) 256)
 ·refine cutI (by decide) rfl (t:=⟨[(6,u32 (ext s (~~~c)))],hp,[]⟩) ⟨hL,rfl,rfl⟩ ?_
  conv=>whnf
  refine zI (zmi _) ?_
  conv=>whnf
  exact retP rfl (zbw rfl)
theorem crc_eq (hn:4 ≤ n) (s:Str) (hs:s.length<1099511627776):CC n 135 [.str s] h=some (.ret (u32 (crc s)),h):=by
 obtain ⟨m,rfl⟩:=pre1 n
 refine zak F135 rfl rfl rfl rfl ?_
 conv=>whnf
 refine clI (zw0 (by omega) s hs 0) ?_
 conv=>whnf
 exact retP rfl (zbw rfl)
end
def bitN (c:Nat):Nat:=Nat.xor (Nat.shiftRight c 1) (Nat.mul (Nat.land c 1) 3988292384)
def z0s (c:Nat):Nat:=bitN (bitN (bitN (bitN (bitN (bitN (bitN (bitN c)))))))
def extN:List UInt8 → Nat → Nat
 | [],c=>c
 | b::r,c=>extN r (Nat.xor (z0s (Nat.xor (Nat.mod c 256) b.toNat)) (Nat.shiftRight c 8))
def crcN (s:List UInt8):Nat:=Nat.xor (extN s 4294967295) 4294967295
theorem zfo (c:UInt32):bitN c.toNat=(bit c).toNat:=by
 have h1:(c &&& 1).toNat=c.toNat % 2:=by
  rw [UInt32.toNat_and];exact Nat.and_one_is_mod _
 have h2:(c >>> 1).toNat=c.toNat >>> 1:=by
  rw [UInt32.toNat_shiftRight];rfl
 have h3:Nat.land c.toNat 1=c.toNat % 2:=Nat.and_one_is_mod _
 unfold bitN bit
 rw [h3]
 have h4:=Nat.mod_two_eq_zero_or_one c.toNat
 by_cases h:c &&& 1=1
 ·rw [if_pos h,UInt32.toNat_xor,h2]
  have:c.toNat % 2=1:=by rw [← h1,h];rfl
  rw [this];rfl
 ·rw [if_neg h,h2]
  have:c.toNat % 2=0:=by
   rcases h4 with h4 | h4
   ·exact h4
   ·exact (h (UInt32.toNat_inj.1 (by rw [h1,h4];rfl))).elim
  rw [this]
  exact Nat.xor_zero _
theorem z0r (i:UInt8):z0s i.toNat=(tab i).toNat:=by
 unfold z0s tab
 have:i.toNat=i.toUInt32.toNat:=by simp
 rw [this,zfo,zfo,zfo,zfo,zfo,zfo,zfo,zfo]
theorem zw1:∀ (s:List UInt8) (c:UInt32),extN s c.toNat=(ext s c).toNat
 | [],c=>rfl
 | b::r,c=>by
  have h1:Nat.xor (Nat.mod c.toNat 256) b.toNat=(c.toUInt8 ^^^ b).toNat:=by
   rw [UInt8.toNat_xor,UInt32.toNat_toUInt8];rfl
  have h2:Nat.shiftRight c.toNat 8=(c >>> 8).toNat:=by rw [UInt32.toNat_shiftRight];rfl
  show extN r (Nat.xor (z0s (Nat.xor (Nat.mod c.toNat 256) b.toNat)) (Nat.shiftRight c.toNat 8))=_
  rw [h1,z0r,h2]
  have h3:Nat.xor (tab (c.toUInt8 ^^^ b)).toNat (c >>> 8).toNat=(tab (c.toUInt8 ^^^ b) ^^^ (c >>> 8)).toNat:=by rw [UInt32.toNat_xor];rfl
  rw [h3,zw1 r]
  rfl
theorem zxa (s:List UInt8):crcN s=(crc s).toNat:=by
 unfold crcN crc
 have h:=zw1 s (~~~0)
 rw [show (~~~(0:UInt32)).toNat=4294967295 by decide] at h
 rw [h]
 have : ~~~(ext s (~~~0))=ext s (~~~0) ^^^ 4294967295:=by
  rw [show (4294967295:UInt32)=-1 by decide,UInt32.xor_neg_one]
 rw [this,UInt32.toNat_xor];rfl
def sum1:FuncId → List AV → Option AV:=fun f args=>cond (Nat.beq f 135) (match args with
 | [.str s]=>cond (Nat.blt s.length 1099511627776) (some (.int .u32 (Int.ofNat (crcN s)))) none
 | _=>none) none
def cfg1:Cfg:=⟨inl0,sum1,fun _ _ _=>none,fun _=>false⟩
theorem z1q:zx5 Tryz.prog cfgN:=⟨fun f args v h=>(by cases h),noMem _⟩
theorem z0n (s:Str) (hs:s.length<1099511627776):zaj Tryz.prog 135 [.str s] (.ret (u32 (crc s))):=zai (c:=cfgN) (n:=9) z1q rfl (crc_eq (by omega) s hs)
theorem zk0:∀ f args v,cfg1.sum f args=some v → zaj Tryz.prog f args (.ret v):=fun f args v h=>by
 change sum1 f args=some v at h
 unfold sum1 at h
 cases hf:Nat.beq f 135 with
 | false=>rw [hf] at h;cases h
 | true =>
  rw [hf] at h
  have:f=135:=Nat.eq_of_beq_eq_true hf
  subst this
  simp only [cond] at h
  split at h
  ·rename_i s
   cases hl:Nat.blt s.length 1099511627776 with
   | false=>rw [hl] at h;cases h
   | true =>
    rw [hl] at h
    cases h
    have hl':s.length<1099511627776:=by rwa [Nat.blt_eq] at hl
    have:=z0n s hl'
    rw [zxa]
    exact this
  ·cases h
end Go.Proofs
namespace Go.Proofs
open Go.Shelf
def Tryz.lays15_ren:Go.Shelf.Ren:=⟨fun | 15=>128 | n=>n,fun | 22=>44 | 3=>3 | 4=>4 | n=>n,fun | n=>n⟩
theorem Tryz.lays15:Go.Proofs.Lays2.n15 Tryz.prog Tryz.lays15_ren:={
 mixed:=by kernel_rfl
 f15:=Tryz.func128.trans (congrArg some (by kernel_rfl))
 t3:=Tryz.underlying3
 a3:=Tryz.isAgg3
 z3:=Tryz.sizeOf3
 v3:=Tryz.zeroValue3
 t4:=Tryz.underlying4
 a4:=Tryz.isAgg4
 z4:=Tryz.sizeOf4
 v4:=Tryz.zeroValue4
 t22:=Tryz.underlying44
 a22:=Tryz.isAgg44
 z22:=Tryz.sizeOf44
 v22:=Tryz.zeroValue44
 i3:=by kernel_rfl }
def Tryz.lays25_ren:Go.Shelf.Ren:=⟨fun | 25=>186 | 31=>218 | 32=>219 | 37=>213 | n=>n,fun | 22=>44 | 3=>3 | 4=>4 | 40=>215 | 0=>0 | n=>n,fun | n=>n⟩
theorem Tryz.lays25:Go.Proofs.Lays2.n25 Tryz.prog Tryz.lays25_ren:={
 mixed:=by kernel_rfl
 f25:=Tryz.func186.trans (congrArg some (by kernel_rfl))
 f31:=Tryz.func218.trans (congrArg some (by kernel_rfl))
 f32:=Tryz.func219.trans (congrArg some (by kernel_rfl))
 f37:=Tryz.func213.trans (congrArg some (by kernel_rfl))
 t0:=Tryz.underlying0
 a0:=Tryz.isAgg0
 z0:=Tryz.sizeOf0
 v0:=Tryz.zeroValue0
 t3:=Tryz.underlying3
 a3:=Tryz.isAgg3
 z3:=Tryz.sizeOf3
 v3:=Tryz.zeroValue3
 t4:=Tryz.underlying4
 a4:=Tryz.isAgg4
 z4:=Tryz.sizeOf4
 v4:=Tryz.zeroValue4
 t22:=Tryz.underlying44
 a22:=Tryz.isAgg44
 z22:=Tryz.sizeOf44
 v22:=Tryz.zeroValue44
 t40:=Tryz.underlying215
 a40:=Tryz.isAgg215
 z40:=Tryz.sizeOf215
 v40:=Tryz.zeroValue215 }
def Tryz.lays21_ren:Go.Shelf.Ren:=⟨fun | 21=>187 | 27=>220 | 28=>221 | 35=>241 | 39=>253 | n=>n,fun | 22=>44 | 3=>3 | 4=>4 | 0=>0 | n=>n,fun | n=>n⟩
theorem Tryz.lays21:Go.Proofs.Lays2.n21 Tryz.prog Tryz.lays21_ren:={
 mixed:=by kernel_rfl
 f21:=Tryz.func187.trans (congrArg some (by kernel_rfl))
 f27:=Tryz.func220.trans (congrArg some (by kernel_rfl))
 f28:=Tryz.func221.trans (congrArg some (by kernel_rfl))
 f35:=Tryz.func241.trans (congrArg some (by kernel_rfl))
 f39:=Tryz.func253.trans (congrArg some (by kernel_rfl))
 t0:=Tryz.underlying0
 a0:=Tryz.isAgg0
 z0:=Tryz.sizeOf0
 v0:=Tryz.zeroValue0
 t3:=Tryz.underlying3
 a3:=Tryz.isAgg3
 z3:=Tryz.sizeOf3
 v3:=Tryz.zeroValue3
 t4:=Tryz.underlying4
 a4:=Tryz.isAgg4
 z4:=Tryz.sizeOf4
 v4:=Tryz.zeroValue4
 t22:=Tryz.underlying44
 a22:=Tryz.isAgg44
 z22:=Tryz.sizeOf44
 v22:=Tryz.zeroValue44
 i3:=by kernel_rfl }
end Go.Proofs
namespace Go.Proofs
open Go Go.RowKit
abbrev vI (k:Int):Value:=.int .i64 k
def insL (zs:List Int) (i:Nat) (x:Int):List Int:=zs.take i++x::zs.drop i
theorem zz3 {zs:List Int}{i:Nat}(hi:i ≤ zs.length) (x:Int) (j:Nat):(insL zs i x)[j]?=if j<i then zs[j]? else if j=i then some x else zs[j-1]?:=by
 unfold insL
 have hl:(zs.take i).length=i:=by simp;omega
 rw [List.getElem?_append,hl]
 by_cases a:j<i
 ·rw [if_pos a,if_pos a,List.getElem?_take,if_pos a]
 ·rw [if_neg a,if_neg a]
  by_cases b:j=i
  ·subst b;simp
  ·rw [if_neg b,show j-i=(j-i-1)+1 by omega,List.getElem?_cons_succ,List.getElem?_drop]
   congr 1
   omega
theorem zrx {zs:List Int}{i:Nat}(x:Int):(insL zs i x).length=zs.length+1:=by
 unfold insL
 simp only [List.length_append,List.length_take,List.length_cons,List.length_drop]
 omega
theorem zh0 {B b:Nat}(hb:B ≤ b) {a:World}:∀ (vs:List Value) (o:Nat) (w:World),Below B a w → Below B a (w.setCells b o vs)
 | [],_,_,h=>h
 | v::r,o,w,h=>zh0 hb r (o+1) _ (h.setCell (p:=⟨b,o,none⟩) hb v)
structure RowAt (w:World) (g cap:Nat) (zs:List Int):Prop where
 at':∃ cur,w.heap[g]?=some (.cells cur 3 (0,0)) ∧ cur.size=cap ∧ cur.toList.take zs.length=zs.map vI
 le:zs.length ≤ cap
 mx:cap ≤ maxLen
theorem RowAt.cell {w:World}{g cap:Nat}{zs:List Int}(R:RowAt w g cap zs) (j:Nat) (v:Value) (h:(zs.map vI)[j]?=some v):w.cell? ⟨g,0+j,none⟩=some v:=by
 obtain ⟨cur,h1,h2,h3⟩:=R.at'
 rw [← h3,List.getElem?_take] at h
 split at h
 ·unfold World.cell?
  simp only [h1,Nat.zero_add]
  rw [← h]
  simp
 ·cases h
theorem RowAt.some {w:World}{g cap:Nat}{zs:List Int}(R:RowAt w g cap zs) (j:Nat) (h:j<cap):(w.cell? ⟨g,j,none⟩).isSome=true:=by
 obtain ⟨cur,h1,h2,h3⟩:=R.at'
 unfold World.cell?
 simp [h1,h2,h]
theorem RowAt.frz {w:World}{g cap:Nat}{zs:List Int}(R:RowAt w g cap zs) (j:Nat):w.frozen? ⟨g,j,none⟩=false:=by
 obtain ⟨cur,h1,h2,h3⟩:=R.at'
 unfold World.frozen?
 simp [h1]
theorem zvu (zs:List Int):∀ v∈zs.map vI,v.oneCell'=true:=fun v hv=>by
 obtain ⟨k,_,rfl⟩:=List.mem_map.1 hv
 rfl
theorem zih {w':World}{g i:Nat}{zs:List Int}{x:Int}(hi:i ≤ zs.length) (h1:∀ j v,j<i → (zs.map vI)[j]?=some v → w'.cell? ⟨g,j,none⟩=some v) (h2:w'.cell? ⟨g,i,none⟩=some (vI x)) (h3:∀ j v,((zs.drop i).map vI)[j]?=some v → w'.cell? ⟨g,i+1+j,none⟩=some v) :
  ∀ j v,((insL zs i x).map vI)[j]?=some v → w'.cell? ⟨g,j,none⟩=some v:=fun j v h=>by
 rw [List.getElem?_map,zz3 hi] at h
 by_cases a:j<i
 ·rw [if_pos a] at h
  exact h1 j v a (by rw [List.getElem?_map];exact h)
 ·rw [if_neg a] at h
  by_cases b:j=i
  ·subst b
   rw [if_pos rfl] at h
   cases h
   exact h2
  ·rw [if_neg b] at h
   have:=h3 (j-i-1) v (by rw [List.getElem?_map,List.getElem?_drop,show i+(j-i-1)=j-1 by omega];exact h)
   rwa [show i+1+(j-i-1)=j by omega] at this
theorem zh1 (w:World) (row:Array Value) (j:Nat):(w.alloc (.cells row 3)).cell? ⟨w.heap.size,j,none⟩=row[j]?:=by
 unfold World.cell? World.alloc
 simp
theorem ztg {w:World}{zs:List Int}{i:Nat}{x:Int}{row:Array Value}(hi:i ≤ zs.length) (hr:zs.length+1 ≤ row.size) (hp:∀ j v,j<i → (zs.map vI)[j]?=some v → row[j]?=some v) :
  ∀ j v,((insL zs i x).map vI)[j]?=some v → ((((w.alloc (.cells row 3)).drew.setCells w.heap.size i [vI x]).drew).setCells w.heap.size (i+1) ((zs.map vI).drop i)).cell? ⟨w.heap.size,j,none⟩=some v:=by
 have hN:=zh1 w row
 rw [← List.map_drop]
 refine zih hi (fun j v hj h=>?_) ?_ (fun j v h=>?_)
 ·rw [World.cell?_setCells_out _ _ _ _ _ (fun _ _=>.inl (by simp;omega))]
  show ((w.alloc (.cells row 3)).drew.setCells w.heap.size i [vI x]).cell? _=_
  rw [World.cell?_setCells_out _ _ _ _ _ (fun _ _=>.inl (by simp;omega))]
  show (w.alloc (.cells row 3)).cell? _=_
  rw [hN]
  exact hp j v hj h
 ·rw [World.cell?_setCells_out _ _ _ _ _ (fun _ _=>.inl (by simp))]
  show ((w.alloc (.cells row 3)).drew.setCells w.heap.size i [vI x]).cell? _=_
  have:=World.cell?_setCells_in w.heap.size [vI x] i (w.alloc (.cells row 3)).drew (fun j hj=>?_) 0 (by simp)
  ·simpa using this
  ·show ((w.alloc (.cells row 3)).cell? _).isSome=true
   rw [hN]
   simp at hj ⊢
   omega
 ·obtain ⟨hj,rfl⟩:=List.getElem?_eq_some_iff.1 h
  simp at hj
  exact World.cell?_setCells_in w.heap.size ((zs.drop i).map vI) (i+1) ((w.alloc (.cells row 3)).drew.setCells w.heap.size i [vI x]).drew (fun k hk=>by
   show (((w.alloc (.cells row 3)).drew.setCells w.heap.size i [vI x]).cell? _).isSome=true
   rw [World.cell?_setCells_out _ _ _ _ _ (fun _ _=>.inr (by simp))]
   show ((w.alloc (.cells row 3)).cell? _).isSome=true
   rw [hN]
   simp at hk ⊢
   omega) j (by simp;omega)
theorem zlj {g cap:Nat}{zs:List Int}(x:Int) {i vb:Nat}{w:World}(R:RowAt w g cap zs) (hi:i ≤ zs.length) (hl:zs.length<1099511627776) (hvb:vb≠g) (hv:w.heap[vb]?=some (.cells #[vI x] 3 (0,0))) {B:Nat}(hB:B ≤ g) (hBs:B ≤ w.heap.size) :
  Calls Tryz.prog 187 #[.slice (some ⟨g,0,none⟩) zs.length cap,.int .i64 i,.slice (some ⟨vb,0,none⟩) 1 1] w fun e w'=>∃ g' cap',e=.returned (.slice (some ⟨g',0,none⟩) (zs.length+1) cap') ∧ zs.length+1 ≤ cap' ∧ B ≤ g' ∧ (∀ j v,((insL zs i x).map vI)[j]?=some v → w'.cell? ⟨g',j,none⟩=some v) ∧ Below B w w':=by
 have hvs:∀ j v,[vI x][j]?=some v → w.cell? ⟨vb,0+j,none⟩=some v:=fun j v h=>by
  cases j with
  | zero=>simp at h;subst h;simp [World.cell?,hv]
  | succ j=>simp at h
 have h1v:∀ v∈[vI x],v.oneCell'=true:=fun v hv=>by simp at hv;subst hv;rfl
 have h63:cap ≤ 9223372036854775807:=R.mx
 obtain ⟨cur,q1,q2,q3⟩:=R.at'
 have hle:=R.le
 by_cases hn:i<zs.length
 ·by_cases hroom:zs.length+1 ≤ cap
  ·refine (Any2.slices_Insert_int_shift Tryz.lays21 g 0 zs.length cap i vb 0 1 1 (zs.map vI) [vI x] w hn (by decide) hroom h63 hvb (by simp) rfl R.cell (fun j hj=>by rw [Nat.zero_add];exact R.some j (by omega)) (fun j hj=>by rw [Nat.zero_add];exact R.frz j) hvs (zvu zs) h1v 3 3 1 cap (by simp [World.shape?,hv]) (by simp [World.shape?,q1,q2]) (by omega) (by simp [World.frozen?,hv]) (by simp [World.frozen?,hv])).mono ?_
   rintro e w' ⟨rfl,rfl⟩
   have h0:∀ j,j<cap → (w.drew.cell? ⟨g,j,none⟩).isSome=true:=fun j hj=>R.some j hj
   refine ⟨g,cap,rfl,hroom,hB,?_,zh0 hB _ _ _ (zh0 hB _ _ _ (Below.refl _ _).drew)⟩
   rw [← List.map_drop]
   refine zih hi (fun j v hj h=>?_) ?_ (fun j v h=>?_)
   ·rw [World.cell?_setCells_out _ _ _ _ _ (fun _ _=>.inl (by simp;omega)),World.cell?_setCells_out _ _ _ _ _ (fun _ _=>.inl (by simp;omega))]
    have:=R.cell j v h
    rwa [Nat.zero_add] at this
   ·have:=World.cell?_setCells_in g [vI x] (0+i) (w.drew.setCells g (0+(i+1)) ((zs.drop i).map vI)) (fun j hj=>?_) 0 (by simp)
    ·simpa using this
    ·rw [World.cell?_setCells_out _ _ _ _ _ (fun _ _=>.inl (by simp at hj ⊢;omega))]
     exact h0 _ (by simp at hj;omega)
   ·obtain ⟨hj,rfl⟩:=List.getElem?_eq_some_iff.1 h
    simp at hj
    rw [World.cell?_setCells_out _ _ _ _ _ (fun _ _=>.inr (by simp))]
    have:=World.cell?_setCells_in g ((zs.drop i).map vI) (0+(i+1)) w.drew (fun k hk=>h0 _ (by simp at hk;omega)) j (by simp;omega)
    rw [← this]
    congr 2
    omega
  ·have hG:zs.length+1 ≤ grownCap w (zs.length+1) cap 3:=by simp [grownCap,Question.cut]
   refine (Any2.slices_Insert_int_grow Tryz.lays21 g 0 zs.length cap i vb 0 1 1 (zs.map vI) [vI x] w hn (by decide) hle (by omega) (by omega) (by simp) rfl R.cell hvs (zvu zs) h1v).mono ?_
   rintro e w' ⟨rfl,rfl⟩
   refine ⟨w.heap.size,grownCap w (zs.length+1) cap 3,rfl,hG,hBs,?_,zh0 hBs _ _ _ (zh0 hBs _ _ _ ((Below.refl _ _).alloc hBs _).drew).drew⟩
   refine ztg hi ?_ ?_
   ·simp [Builtin.zeroCells,Value.cells];omega
   ·intro j v hj h
    rw [Array.append_assoc,Array.getElem?_append_left (by simp;omega),List.getElem?_toArray,List.getElem?_take,if_pos hj]
    exact h
 ·have hin:i=zs.length:=by omega
  subst hin
  have hd:(zs.drop zs.length).map vI=[]:=by simp
  by_cases hroom:zs.length+1 ≤ cap
  ·refine (Any2.slices_Insert_int_end_room Tryz.lays21 g 0 zs.length cap vb 0 1 1 [vI x] w (by decide) hroom h63 rfl (fun j hj=>by rw [Nat.zero_add];exact R.some _ (by omega)) (fun j hj=>by rw [Nat.zero_add];exact R.frz _) hvs h1v).mono ?_
   rintro e w' ⟨rfl,rfl⟩
   refine ⟨g,cap,rfl,hroom,hB,?_,zh0 hB _ _ _ (Below.refl _ _)⟩
   refine zih hi (fun j v hj h=>?_) ?_ (fun j v h=>?_)
   ·rw [World.cell?_setCells_out _ _ _ _ _ (fun _ _=>.inl (by simp;omega))]
    have:=R.cell j v h
    rwa [Nat.zero_add] at this
   ·have:=World.cell?_setCells_in g [vI x] (0+zs.length) w (fun j hj=>by rw [Nat.zero_add];exact R.some _ (by simp at hj;omega)) 0 (by simp)
    simpa using this
   ·rw [hd] at h;simp at h
  ·refine (Any2.slices_Insert_int_end_grow Tryz.lays21 (some ⟨g,0,none⟩) zs.length cap vb 0 1 1 (zs.map vI) [vI x] w (by decide) hle (by omega) (by omega) (by simp) rfl (fun q=>by cases q) (fun a ha j v h=>by cases ha;rw [Addr.add_lit];exact R.cell j v h) hvs h1v).mono ?_
   rintro e w' ⟨rfl,rfl⟩
   have hG:zs.length+1 ≤ grownCap w (zs.length+1) cap 3:=by simp [grownCap,Question.cut]
   refine ⟨w.heap.size,_,rfl,hG,hBs,?_,((Below.refl _ _).drew).alloc hBs _⟩
   have hN:∀ (row:Array Value) j,(w.drew.alloc (.cells row 3)).cell? ⟨w.heap.size,j,none⟩=row[j]?:=fun row j=>zh1 w.drew row j
   refine zih hi (fun j v hj h=>?_) ?_ (fun j v h=>?_)
   ·show (w.drew.alloc (.cells _ 3)).cell? _=_
    rw [hN,Array.getElem?_append_left (by simp;omega),List.getElem?_toArray,List.getElem?_append_left (by simp;omega)]
    exact h
   ·show (w.drew.alloc (.cells _ 3)).cell? _=_
    rw [hN,Array.getElem?_append_left (by simp),List.getElem?_toArray,List.getElem?_append_right (by simp)]
    simp
   ·rw [hd] at h;simp at h
theorem ztd (x:Int) {vb:Nat}{w:World}(hv:w.heap[vb]?=some (.cells #[vI x] 3 (0,0))) {B:Nat}(hBs:B ≤ w.heap.size) :
  Calls Tryz.prog 187 #[.slice none 0 0,.int .i64 0,.slice (some ⟨vb,0,none⟩) 1 1] w fun e w'=>∃ g' cap',e=.returned (.slice (some ⟨g',0,none⟩) 1 cap') ∧ 1 ≤ cap' ∧ B ≤ g' ∧ (∀ j v,([x].map vI)[j]?=some v → w'.cell? ⟨g',j,none⟩=some v) ∧ Below B w w':=by
 have hvs:∀ j v,[vI x][j]?=some v → w.cell? ⟨vb,0+j,none⟩=some v:=fun j v h=>by
  cases j with
  | zero=>simp at h;subst h;simp [World.cell?,hv]
  | succ j=>simp at h
 have h1v:∀ v∈[vI x],v.oneCell'=true:=fun v hv=>by simp at hv;subst hv;rfl
 refine (Any2.slices_Insert_int_end_grow Tryz.lays21 none 0 0 vb 0 1 1 [] [vI x] w (by decide) (Nat.le_refl _) (by decide) (by decide) rfl rfl (fun _=>rfl) (fun a ha=>by cases ha) hvs h1v).mono ?_
 rintro e w' ⟨rfl,rfl⟩
 have hG:1 ≤ grownCap w 1 0 3:=by simp [grownCap,Question.cut]
 refine ⟨w.heap.size,_,rfl,hG,hBs,fun j v h=>?_,((Below.refl _ _).drew).alloc hBs _⟩
 have hN:∀ (row:Array Value) j,(w.drew.alloc (.cells row 3)).cell? ⟨w.heap.size,j,none⟩=row[j]?:=fun row j=>zh1 w.drew row j
 show (w.drew.alloc (.cells _ 3)).cell? _=_
 obtain ⟨hj,rfl⟩:=List.getElem?_eq_some_iff.1 h
 simp at hj
 subst hj
 rw [hN,Array.getElem?_append_left (by simp)]
 rfl
end Go.Proofs
namespace Go.Proofs
open Go Go.RowKit Go.Lib Go.Shelf
def insZ (zs:List Int) (x:Int):List Int:=if zs.contains x=true then zs else insL zs (zs.countP (·<x)) x
theorem zu9 {w:World}{B n:Nat}{v:Value}{zs:List Int}(h:w.ownsRow B 3 1 v n (zs.map vI)) (hv:v≠.slice none 0 0):∃ g cap,v=.slice (some ⟨g,0,none⟩) n cap ∧ B ≤ g ∧ g<w.heap.size ∧ RowAt w g cap zs ∧ zs.length=n:=by
 obtain ⟨h1,h2⟩:=h
 rw [List.length_map,Nat.mul_one] at h1
 rcases h2 with ⟨rfl,rfl⟩ | ⟨g,cap,cur,rfl,hb,hg,h3,h4,h5,h6⟩
 ·exact (hv rfl).elim
 ·refine ⟨g,cap,rfl,hb,(Array.getElem?_eq_some_iff.1 hg).1,⟨⟨cur,hg,by simpa using h5,?_⟩,by omega,h4⟩,h1⟩
  rw [h1,← h6,Nat.mul_one]
theorem RowAt.alloc {w:World}{g cap:Nat}{zs:List Int}(R:RowAt w g cap zs) (hg:g<w.heap.size) (o:Obj):RowAt (w.alloc o) g cap zs:=by
 obtain ⟨cur,h1,h2,h3⟩:=R.at'
 exact ⟨⟨cur,by rw [Below.heap_alloc _ _ _ hg];exact h1,h2,h3⟩,R.le,R.mx⟩
set_option maxRecDepth 100000 in
set_option maxHeartbeats 1000000 in
theorem zqa (b off c:Nat) (zs:List Int) (x:Int) (w:World) (hne:zs≠[]) (hl:zs.length<1099511627776) (hcells:∀ j,j<zs.length → w.cell? ⟨b,off+j,none⟩=some (.int .i64 (zs.getD j 0))) (hs:zs.Pairwise (· ≤ ·)) (hx:zs.contains x=false) :
  Calls Tryz.prog 133 #[.slice (some ⟨b,off,none⟩) zs.length c,.int .i64 x] w fun e w'=>∃ g cap',e=.returned (.slice (some ⟨g,0,none⟩) (insZ zs x).length cap') ∧ (insZ zs x).length ≤ cap' ∧ w.heap.size ≤ g ∧ (∀ j v,((insZ zs x).map vI)[j]?=some v → w'.cell? ⟨g,j,none⟩=some v) ∧ Below w.heap.size w w':=by
 obtain ⟨K,hK⟩ : ∃ K,K=zs.countP (·<x):=⟨_,rfl⟩
 have hKl:K ≤ zs.length:=by rw [hK];exact List.countP_le_length
 have hZ:insZ zs x=insL zs K x:=by unfold insZ;rw [hx,hK];rfl
 rw [hZ]
 have hbs:Calls Tryz.prog 186 #[.slice (some ⟨b,off,none⟩) zs.length c,.int .i64 x] w fun e w'=>e=.returned (.tuple #[.int .i64 (K:Nat),.bool false]) ∧ ∃ q,w'=w.drewN q:=by
  have:=Any.slices_BinarySearch_int Tryz.lays25 b off zs.length c zs x w (Nat.le_refl _) (by omega) hcells (by rw [List.take_length];exact hs)
  rw [List.take_length,hx,← hK] at this
  exact this
 have hcl:∀ q,Calls Tryz.prog 128 #[.slice (some ⟨b,off,none⟩) zs.length c] (w.drewN q) fun e w'=>∃ g cap,e=.returned (.slice (some ⟨g,0,none⟩) zs.length cap) ∧ w.heap.size ≤ g ∧ g<w'.heap.size ∧ RowAt w' g cap zs ∧ Below w.heap.size w w':=fun q=>by
  refine (Any.slices_Clone_int Tryz.lays15 b off zs.length c zs (w.drewN q) (Nat.le_refl _) (by omega) hcells).mono ?_
  rintro e w' ⟨v,rfl,h1,h2,h3⟩
  rw [List.take_length] at h1
  obtain ⟨g,cap,rfl,q1,q2,q3,q4⟩:=zu9 h1 h2
  exact ⟨g,cap,rfl,q1,q2,q3,⟨h3.os,h3.tape,h3.output,h3.size,h3.block⟩⟩
 have hin:∀ g cap w1,w.heap.size ≤ g → g<w1.heap.size → RowAt w1 g cap zs → Below w.heap.size w w1 → Calls Tryz.prog 187 #[.slice (some ⟨g,0,none⟩) zs.length cap,.int .i64 K,.slice (some ⟨w1.heap.size,0,none⟩) 1 1] (w1.alloc (.cells #[vI x] 3)) fun e w'=>∃ g' cap',e=.returned (.slice (some ⟨g',0,none⟩) (insL zs K x).length cap') ∧ (insL zs K x).length ≤ cap' ∧ w.heap.size ≤ g' ∧ (∀ j v,((insL zs K x).map vI)[j]?=some v → w'.cell? ⟨g',j,none⟩=some v) ∧ Below w.heap.size w w':=fun g cap w1 h1 h2 R hB=>by
  refine (zlj x (R.alloc h2 _) hKl hl (by omega) (by show (w1.heap.push _)[w1.heap.size]?=_;simp) h1 (B:=w.heap.size) (by have:=hB.size;simp;omega)).mono ?_
  rintro e w' ⟨g',cap',rfl,a1,a2,a3,a4⟩
  rw [zrx]
  exact ⟨g',cap',rfl,a1,a2,a3,(hB.alloc hB.size _).trans a4⟩
 clear hcells hK hZ hx hs
 have e186:∀ args w,(callFunc 186 args).run Tryz.prog w=.ok (.enter 186 args) w:=enters_of Tryz.func186 (by kernel_rfl) rfl
 have e128:∀ args w,(callFunc 128 args).run Tryz.prog w=.ok (.enter 128 args) w:=enters_of Tryz.func128 (by kernel_rfl) rfl
 have e187:∀ args w,(callFunc 187 args).run Tryz.prog w=.ok (.enter 187 args) w:=enters_of Tryz.func187 (by kernel_rfl) rfl
 go_enter Tryz.func133,Tryz.ntmps133
 go_wp2_with (first
  | (go_at_call 186;refine hbs.mono ?_;rintro e w0 ⟨rfl,q,rfl⟩)
  | (go_at_call 128;refine (hcl _).mono ?_;rintro e w1 ⟨g,cap,rfl,q1,q2,q3,q4⟩;have X:Aside (w.heap.size ≤ g ∧ g<w1.heap.size ∧ RowAt w1 g cap zs ∧ Below w.heap.size w w1):=⟨q1,q2,q3,q4⟩;clear q1 q2 q3 q4)
  | (go_at_call 187;refine (hin _ _ _ X.out.1 X.out.2.1 X.out.2.2.1 X.out.2.2.2).mono ?_;rintro e w2 ⟨g',cap',rfl,r1⟩))
 go_ret
 exact ⟨g',cap',rfl,r1⟩
set_option maxRecDepth 100000 in
set_option maxHeartbeats 1000000 in
theorem zp9 (b off c:Nat) (zs:List Int) (x:Int) (w:World) (hne:zs≠[]) (hl:zs.length<1099511627776) (hcells:∀ j,j<zs.length → w.cell? ⟨b,off+j,none⟩=some (.int .i64 (zs.getD j 0))) (hs:zs.Pairwise (· ≤ ·)) (hx:zs.contains x=true) :
  Calls Tryz.prog 133 #[.slice (some ⟨b,off,none⟩) zs.length c,.int .i64 x] w fun e w'=>∃ g cap',e=.returned (.slice (some ⟨g,0,none⟩) (insZ zs x).length cap') ∧ (insZ zs x).length ≤ cap' ∧ w.heap.size ≤ g ∧ (∀ j v,((insZ zs x).map vI)[j]?=some v → w'.cell? ⟨g,j,none⟩=some v) ∧ Below w.heap.size w w':=by
 obtain ⟨K,hK⟩ : ∃ K,K=zs.countP (·<x):=⟨_,rfl⟩
 have hZ:insZ zs x=zs:=by unfold insZ;rw [hx];rfl
 rw [hZ]
 have hbs:Calls Tryz.prog 186 #[.slice (some ⟨b,off,none⟩) zs.length c,.int .i64 x] w fun e w'=>e=.returned (.tuple #[.int .i64 (K:Nat),.bool true]) ∧ ∃ q,w'=w.drewN q:=by
  have:=Any.slices_BinarySearch_int Tryz.lays25 b off zs.length c zs x w (Nat.le_refl _) (by omega) hcells (by rw [List.take_length];exact hs)
  rw [List.take_length,hx,← hK] at this
  exact this
 have hcl:∀ q,Calls Tryz.prog 128 #[.slice (some ⟨b,off,none⟩) zs.length c] (w.drewN q) fun e w'=>∃ g cap,e=.returned (.slice (some ⟨g,0,none⟩) zs.length cap) ∧ zs.length ≤ cap ∧ w.heap.size ≤ g ∧ (∀ j v,(zs.map vI)[j]?=some v → w'.cell? ⟨g,j,none⟩=some v) ∧ Below w.heap.size w w':=fun q=>by
  refine (Any.slices_Clone_int Tryz.lays15 b off zs.length c zs (w.drewN q) (Nat.le_refl _) (by omega) hcells).mono ?_
  rintro e w' ⟨v,rfl,h1,h2,h3⟩
  rw [List.take_length] at h1
  obtain ⟨g,cap,rfl,q1,q2,q3,q4⟩:=zu9 h1 h2
  exact ⟨g,cap,rfl,q3.le,q1,fun j v h=>by have:=q3.cell j v h;rwa [Nat.zero_add] at this,⟨h3.os,h3.tape,h3.output,h3.size,h3.block⟩⟩
 clear hcells hK hZ hx hs
 have e186:∀ args w,(callFunc 186 args).run Tryz.prog w=.ok (.enter 186 args) w:=enters_of Tryz.func186 (by kernel_rfl) rfl
 have e128:∀ args w,(callFunc 128 args).run Tryz.prog w=.ok (.enter 128 args) w:=enters_of Tryz.func128 (by kernel_rfl) rfl
 go_enter Tryz.func133,Tryz.ntmps133
 go_wp2_with (first
  | (go_at_call 186;refine hbs.mono ?_;rintro e w0 ⟨rfl,q,rfl⟩)
  | (go_at_call 128;refine (hcl _).mono ?_;rintro e w1 ⟨g,cap,rfl,q1⟩))
 go_ret
 exact ⟨g,cap,rfl,q1⟩
set_option maxRecDepth 100000 in
set_option maxHeartbeats 1000000 in
theorem zoc (c:Nat) (x:Int) (w:World) :
  Calls Tryz.prog 133 #[.slice none 0 c,.int .i64 x] w fun e w'=>∃ g cap',e=.returned (.slice (some ⟨g,0,none⟩) 1 cap') ∧ 1 ≤ cap' ∧ w.heap.size ≤ g ∧ (∀ j v,([x].map vI)[j]?=some v → w'.cell? ⟨g,j,none⟩=some v) ∧ Below w.heap.size w w':=by
 have hbs:=Any.slices_BinarySearch_int_empty Tryz.lays25 none c x w
 have hcl:=Any.slices_Clone_int_nil Tryz.lays15 0 c w
 have hin:Calls Tryz.prog 187 #[.slice none 0 0,.int .i64 0,.slice (some ⟨w.heap.size,0,none⟩) 1 1] (w.alloc (.cells #[vI x] 3)) fun e w'=>∃ g' cap',e=.returned (.slice (some ⟨g',0,none⟩) 1 cap') ∧ 1 ≤ cap' ∧ w.heap.size ≤ g' ∧ (∀ j v,([x].map vI)[j]?=some v → w'.cell? ⟨g',j,none⟩=some v) ∧ Below w.heap.size w w':=by
  refine (ztd x (by show (w.heap.push _)[w.heap.size]?=_;simp) (B:=w.heap.size) (by simp)).mono ?_
  rintro e w' ⟨g',cap',rfl,a1,a2,a3,a4⟩
  exact ⟨g',cap',rfl,a1,a2,a3,((Below.refl _ _).alloc (Nat.le_refl _) _).trans a4⟩
 have e186:∀ args w,(callFunc 186 args).run Tryz.prog w=.ok (.enter 186 args) w:=enters_of Tryz.func186 (by kernel_rfl) rfl
 have e128:∀ args w,(callFunc 128 args).run Tryz.prog w=.ok (.enter 128 args) w:=enters_of Tryz.func128 (by kernel_rfl) rfl
 have e187:∀ args w,(callFunc 187 args).run Tryz.prog w=.ok (.enter 187 args) w:=enters_of Tryz.func187 (by kernel_rfl) rfl
 go_enter Tryz.func133,Tryz.ntmps133
 go_wp2_with (first
  | (go_at_call 186;refine hbs.mono ?_;rintro e w0 ⟨rfl,rfl⟩)
  | (go_at_call 128;refine hcl.mono ?_;rintro e w1 ⟨rfl,rfl⟩)
  | (go_at_call 187;refine hin.mono ?_;rintro e w2 ⟨g',cap',rfl,r1⟩))
 go_ret
 exact ⟨g',cap',rfl,r1⟩
set_option maxRecDepth 100000 in
set_option maxHeartbeats 1000000 in
theorem zmp (a:Addr) (c:Nat) (x:Int) (w:World) :
  Calls Tryz.prog 133 #[.slice (some a) 0 c,.int .i64 x] w fun e w'=>∃ g cap',e=.returned (.slice (some ⟨g,0,none⟩) 1 cap') ∧ 1 ≤ cap' ∧ w.heap.size ≤ g ∧ (∀ j v,([x].map vI)[j]?=some v → w'.cell? ⟨g,j,none⟩=some v) ∧ Below w.heap.size w w':=by
 have hbs:=Any.slices_BinarySearch_int_empty Tryz.lays25 (some a) c x w
 have hcl:Calls Tryz.prog 128 #[.slice (some a) 0 c] w fun e w'=>∃ g cap,e=.returned (.slice (some ⟨g,0,none⟩) 0 cap) ∧ w.heap.size ≤ g ∧ g<w'.heap.size ∧ RowAt w' g cap [] ∧ Below w.heap.size w w':=by
  refine (Any.slices_Clone_int_zero Tryz.lays15 a c w).mono ?_
  rintro e w' ⟨v,rfl,h1,h2,h3⟩
  obtain ⟨g,cap,rfl,q1,q2,q3,q4⟩:=zu9 (zs:=[]) h1 h2
  exact ⟨g,cap,rfl,q1,q2,q3,h3⟩
 have hin:∀ g cap w1,w.heap.size ≤ g → g<w1.heap.size → RowAt w1 g cap [] → Below w.heap.size w w1 → Calls Tryz.prog 187 #[.slice (some ⟨g,0,none⟩) 0 cap,.int .i64 0,.slice (some ⟨w1.heap.size,0,none⟩) 1 1] (w1.alloc (.cells #[vI x] 3)) fun e w'=>∃ g' cap',e=.returned (.slice (some ⟨g',0,none⟩) 1 cap') ∧ 1 ≤ cap' ∧ w.heap.size ≤ g' ∧ (∀ j v,([x].map vI)[j]?=some v → w'.cell? ⟨g',j,none⟩=some v) ∧ Below w.heap.size w w':=fun g cap w1 h1 h2 R hB=>by
  refine (zlj x (i:=0) (R.alloc h2 _) (Nat.le_refl _) (by decide) (by omega) (by show (w1.heap.push _)[w1.heap.size]?=_;simp) h1 (B:=w.heap.size) (by have:=hB.size;simp;omega)).mono ?_
  rintro e w' ⟨g',cap',rfl,a1,a2,a3,a4⟩
  exact ⟨g',cap',rfl,a1,a2,a3,(hB.alloc hB.size _).trans a4⟩
 have e186:∀ args w,(callFunc 186 args).run Tryz.prog w=.ok (.enter 186 args) w:=enters_of Tryz.func186 (by kernel_rfl) rfl
 have e128:∀ args w,(callFunc 128 args).run Tryz.prog w=.ok (.enter 128 args) w:=enters_of Tryz.func128 (by kernel_rfl) rfl
 have e187:∀ args w,(callFunc 187 args).run Tryz.prog w=.ok (.enter 187 args) w:=enters_of Tryz.func187 (by kernel_rfl) rfl
 go_enter Tryz.func133,Tryz.ntmps133
 go_wp2_with (first
  | (go_at_call 186;refine hbs.mono ?_;rintro e w0 ⟨rfl,hw⟩;obtain rfl:=hw.symm)
  | (go_at_call 128;refine hcl.mono ?_;rintro e w1 ⟨g,cap,rfl,q1,q2,q3,q4⟩;have X:Aside (w.heap.size ≤ g ∧ g<w1.heap.size ∧ RowAt w1 g cap [] ∧ Below w.heap.size w w1):=⟨q1,q2,q3,q4⟩;clear q1 q2 q3 q4)
  | (go_at_call 187;refine (hin _ _ _ X.out.1 X.out.2.1 X.out.2.2.1 X.out.2.2.2).mono ?_;rintro e w2 ⟨g',cap',rfl,r1⟩))
 go_ret
 exact ⟨g',cap',rfl,r1⟩
end Go.Proofs
