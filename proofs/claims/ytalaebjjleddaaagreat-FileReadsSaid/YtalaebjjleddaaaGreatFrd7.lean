/- Texts put together: T0, Ra5, Ea, Ra, Wa. -/
import Derived.Test.YtalaebjjleddaaaGreatFrd6
import Derived.Test.YtalaebjjleddaaaGreatProg
import Derived.KernelRfl
set_option linter.unusedVariables false
set_option linter.unusedSimpArgs false
namespace Go.Proofs
open Go Go.Abs
def inlL:List Nat:=[204,126,185,132,127,184,187,133,284,284,284,284,128,284,173,174,176,178,180,214,217,240,275,276,277,278,280,282,229,249,259,231,250,255,256,230,209,210,211,233,134,65,137,138,139,140,141,67,68,69,70,71,72,73,78,79,81,86,89,90,91,93,96,97,99,100,104,105,106,108,111,112,113,114,115,116,117,120,124,125,129,142,144,145,146,155,160,164,165,168,169,170,171,212,234,235,251,257]
def inl0:FuncId → Bool:=fun f=>inlL.contains f||decide (284 ≤ f)
def pureL:List Nat:=[135,119,162,143,161,182,51,121,15,17,19,52,38,45,47,23,25,33,59,27,14]
def inlA:FuncId → Bool:=fun f=>!(pureL.contains f)
abbrev mV (d a:Nat):RI:=⟨some d,none,.op (.mv (.t a))⟩
abbrev oP (d:Nat) (x:RO):RI:=⟨some d,none,.op x⟩
abbrev oG (d g:Nat) (b:Bool) (x:RO):RI:=⟨some d,some (g,b),.op x⟩
abbrev oU (x:RO):RI:=⟨none,none,.op x⟩
abbrev oA (d x:Nat):RI:=oP d (.load false 1 (.t x))
abbrev oB (d n x:Nat):RI:=oP d (.load true n (.t x))
abbrev oC (d n x:Nat):RI:=oP d (.fieldAddr n (.t x))
abbrev oD (d g:Nat) (b:Bool) (x:Nat):RI:=oG d g b (.load false 1 (.t x))
abbrev oE (d g:Nat) (b:Bool) (x:Nat):RI:=oG d g b (.mv (.t x))
abbrev oF (d g:Nat) (b:Bool) (n x:Nat):RI:=oG d g b (.fieldAddr n (.t x))
abbrev oH (d:Nat) (z:Int):RI:=oP d (.mv (.c (.int .i64 z)))
abbrev oI (d:Nat) (p:BinOp) (x y:Nat):RI:=oP d (.bin p (.t x) (.t y))
abbrev oJ (d:Nat) (p:BinOp) (x:Nat) (z:Int):RI:=oP d (.bin p (.t x) (.c (.int .i64 z)))
abbrev oK (d x:Nat):RI:=oP d (.lenL (.t x))
abbrev oM (d x y:Nat):RI:=oP d (.pick (.t x) (.c (.bool true)) (.t y))
abbrev oN (d x y:Nat):RI:=oP d (.pick (.t x) (.t y) (.c (.bool false)))
abbrev oQ (d x k:Nat):RI:=oP d (.extract (.t x) k)
abbrev oR (d x:Nat):RI:=oP d (.nilCheck (.t x))
abbrev oS (d n x y:Nat):RI:=oP d (.indexAddrL n (.t x) (.t y))
abbrev oT (n x y:Nat):RI:=oU (.store n (.t x) (.t y))
abbrev oV (d f x:Nat):RI:=oP d (.callF f [.t x])
abbrev oW (d f x y:Nat):RI:=oP d (.callF f [.t x,.t y])
theorem pre1 (n:Nat) (h:1 ≤ n:=by omega):∃ m,n=m+1:=⟨n-1,by omega⟩
abbrev zRl:List AV:=[(.int .i64 0),(.int .i64 0),(.int .i64 0),(.int .u8 0),(.int .u8 0),(.int .u8 0),(.int .u8 0),(.int .u8 0),(.int .u8 0),(.int .u8 0),(.int .u8 0),(.int .u8 0),(.int .u8 0),(.int .u8 0),(.int .u8 0),(.int .u8 0),(.int .u8 0),(.int .u8 0),(.int .u8 0),(.int .i64 0),(.int .i64 0)]
abbrev zRm:List AV:=[(.int .i64 0),(.int .i64 0),(.int .i64 0),(.int .u8 0),(.int .u8 0),(.int .u8 0),(.int .u8 0),(.int .u8 0),(.int .u8 0),(.int .u8 0),(.int .u8 0),(.int .u8 0),(.int .u8 0),(.int .u8 0),(.int .u8 0),(.int .u8 0),(.int .u8 0),(.int .u8 0),(.int .u8 0),(.int .i64 0),(.int .i64 0),(.int .i64 0)]
abbrev zPl:List AV:=[(.int .i64 0),(.int .i64 0),(.int .i64 0),(.int .i64 0),(.int .i64 0),(.bool false),(.lst 0 [] true),(.int .i64 0),(.str []),(.lst 0 [] true)]
abbrev zPm:List AV:=[(.int .i64 0),(.int .i64 0),(.int .i64 0),(.int .i64 0),(.int .i64 0),(.bool false),(.lst 0 [] true),(.int .i64 0),(.str []),(.lst 0 [] true),(.int .i64 0)]
abbrev FI:=FunIs Tryz.prog inl0
abbrev DefI:=DefIs Tryz.prog inl0
theorem mkF {f : FuncId} {np nt d : Nat} {rs : List ResultVar} {rc : RC} (fn : Func) (h : Tryz.prog.funcs[f]? = some fn) (h1 : fn.body.map (resC Tryz.prog inl0) = some rc.erase := by kernel_rfl) (h2 : fn.ntmps = nt := by kernel_rfl) (h3 : fn.results.toList = rs := by kernel_rfl) (h4 : Nat.log2 (nt + 1) + 1 = d := by kernel_rfl) (h5 : np ≤ nt := by decide) (h6 : okR nt rc = true := by kernel_rfl) : FI f np nt d rs rc := ⟨⟨fn, h, h1, h2, h3⟩, h4, h5, h6⟩
theorem zJ (j : Nat) {x : Int} {q : Int → Prop} (hq : q ((j + 1 : Nat) : Int)) (h1 : -9223372036854775808 ≤ x := by omega) (h2 : x < 9223372036854775808 := by omega) (h3 : x = ((j + 1 : Nat) : Int) := by rfl) : ∃ z, IntKind.i64.wrap x = z ∧ q z := ⟨_, by rw [zae h1 h2, h3], hq⟩
theorem stJ {h : zaa} {b ver o sz : Nat} {v : AV} {q : Option TypeId → List AV → Nat → List AV → Prop} {el : Option TypeId} {cs xs : List AV} {frz : Nat} (h1 : h[b]? = some (.cells ver el cs frz)) (h6 : q el cs frz xs) (h2 : v.cells? = some xs := by rfl) (h3 : xs.length = sz := by rfl) (h4 : Nat.ble (o + xs.length) cs.length = true := by rfl) (h5 : Nat.ble frz o = true := by rfl) : ∃ el cs frz xs, h[b]? = some (.cells ver el cs frz) ∧ v.cells? = some xs ∧ xs.length = sz ∧ o + xs.length ≤ cs.length ∧ frz ≤ o ∧ q el cs frz xs := stI h1 h2 h3 h4 h5 h6
def c59:RC :=
 (.seq (.ops [(oP 1 (.box 27 (.t 0))),(oP 2 (.alloc 127 (List.replicate 64 (.int .u8 0))))])
 (.seq (.ops [(oP 3 (.alloc 127 (List.replicate 64 (.int .u8 0))))])
 (.seq (.ops [(oP 6 (.indexAddrA 64 1 (.t 3) (.c (.int .i64 0)))),(oU (.store 1 (.t 6) (.c (.int .u8 82)))),(oP 7 (.indexAddrA 64 1 (.t 3) (.c (.int .i64 63)))),(oU (.store 1 (.t 7) (.c (.int .u8 82))))])
 (.seq (.seq (.ops [(oP 8 (.callF 64 [])),(oK 9 8),(oH 10 0)])
 (.block 0
 (.loop
 (.seq (.ops [(oI 11 .lss 10 9)])
 (.seq (.cond (.t 11)
 .skip
 (.exit 0))
 (.seq (.block 1
 (.seq (.ops [(oS 12 3 8 10),(oB 13 3 12),(oP 5 (.alloc 138 [(.int .i64 0),(.int .i64 0),.nilf])),(oT 3 5 13)])
 (.draw [((oC 14 0 5),0),((oA 15 14),1),((oC 16 1 5),0),((oA 17 16),1),((oC 18 2 5),0),((oA 19 18),1),((oP 20 (.callV (.t 19) [(.t 1)])),2),((oR 21 20),0),((oA 22 21),1),((oP 23 (.callF 134 [(.t 3),(.t 15),(.t 17),(.t 22)])),2)])))
 (.ops [(oJ 24 .add 10 1),(mV 10 24)])))))))
 (.cut (.seq (.draw [((oP 25 (.sliceP 64 1 (.t 3) (some (.c (.int .i64 15))) none none)),1),((oC 26 1 1),0),((oC 27 2 26),0),((oP 28 (.sliceP 16 1 (.t 27) none none none)),1),((oP 29 (.cpy 1 (.t 25) (.t 28))),2)])
 (.seq (.ops [(oP 30 (.sliceP 64 1 (.t 3) none (some (.c (.int .i64 59))) none)),(oP 31 (.bytesStr (.t 30))),(oV 32 135 31),(oP 33 (.toInt .i64 (.t 32))),(oP 34 (.callF 134 [(.t 3),(.c (.int .i64 59)),(.c (.int .i64 4)),(.t 33)]))])
 (.seq (.ops [(oB 35 64 3),(oT 64 2 35)])
 .ret))))))))
theorem F59:FI 59 1 36 6 [.cell 2 127] c59:=mkF Tryz.f59 Tryz.func59
def c64:RC :=
 (.seq (.ops [(oP 0 (.mv (.c (.lst 0 [] true))))])
 (.seq (.ops [(oP 1 (.build [(.int .i64 0),(.int .i64 0),.nilf] [(0,1,(.c (.int .i64 1))),(1,1,(.c (.int .i64 6))),(2,1,(.c (.fn (.func 137) [] [])))])),(oP 2 (.build [(.int .i64 0),(.int .i64 0),.nilf] [(0,1,(.c (.int .i64 7))),(1,1,(.c (.int .i64 4))),(2,1,(.c (.fn (.func 138) [] [])))])),(oP 3 (.build [(.int .i64 0),(.int .i64 0),.nilf] [(0,1,(.c (.int .i64 11))),(1,1,(.c (.int .i64 4))),(2,1,(.c (.fn (.func 139) [] [])))])),(oP 4 (.build [(.int .i64 0),(.int .i64 0),.nilf] [(0,1,(.c (.int .i64 31))),(1,1,(.c (.int .i64 4))),(2,1,(.c (.fn (.func 140) [] [])))])),(oP 5 (.build [(.int .i64 0),(.int .i64 0),.nilf] [(0,1,(.c (.int .i64 35))),(1,1,(.c (.int .i64 4))),(2,1,(.c (.fn (.func 141) [] [])))])),(oP 6 (.mkLst 3 true 5 [(.int .i64 0),(.int .i64 0),.nilf] [(0,3,(.t 1)),(3,3,(.t 2)),(6,3,(.t 3)),(9,3,(.t 4)),(12,3,(.t 5))])),(mV 0 6)])
 .ret))
theorem F64:FI 64 0 7 4 [.tmp 0] c64:=mkF Tryz.f64 Tryz.func64
def c137:RC :=
 (.seq (.ops [(oP 2 (.mv (.c .nilp)))])
 (.seq (.ops [(mV 3 0),(oR 4 3),(oC 5 0 4),(mV 2 5)])
 .ret))
theorem F137:FI 137 1 6 3 [.tmp 2] c137:=mkF Tryz.f137 Tryz.func137
def c138:RC :=
 (.seq (.ops [(oP 2 (.mv (.c .nilp)))])
 (.seq (.ops [(mV 3 0),(oR 4 3),(oC 5 1 4),(oC 6 0 5),(mV 2 6)])
 .ret))
theorem F138:FI 138 1 7 4 [.tmp 2] c138:=mkF Tryz.f138 Tryz.func138
def c139:RC :=
 (.seq (.ops [(oP 2 (.mv (.c .nilp)))])
 (.seq (.ops [(mV 3 0),(oR 4 3),(oC 5 1 4),(oC 6 1 5),(mV 2 6)])
 .ret))
theorem F139:FI 139 1 7 4 [.tmp 2] c139:=mkF Tryz.f139 Tryz.func139
def c140:RC :=
 (.seq (.ops [(oP 2 (.mv (.c .nilp)))])
 (.seq (.ops [(mV 3 0),(oR 4 3),(oC 5 19 4),(mV 2 5)])
 .ret))
theorem F140:FI 140 1 6 3 [.tmp 2] c140:=mkF Tryz.f140 Tryz.func140
def c141:RC :=
 (.seq (.ops [(oP 2 (.mv (.c .nilp)))])
 (.seq (.ops [(mV 3 0),(oR 4 3),(oC 5 20 4),(mV 2 5)])
 .ret))
theorem F141:FI 141 1 6 3 [.tmp 2] c141:=mkF Tryz.f141 Tryz.func141
def c134:RC :=
 (.seq (.ops [(mV 9 2),(oH 10 0)])
 (.block 0
 (.loop
 (.seq (.ops [(oI 11 .lss 10 9)])
 (.seq (.cond (.t 11)
 .skip
 (.exit 0))
 (.seq (.block 1
 (.seq (.ops [(mV 12 10),(mV 8 12)])
 (.draw [((mV 13 0),0),((mV 14 1),0),((mV 15 2),0),((oI 16 .add 14 15),0),((oJ 17 .sub 16 1),0),((mV 18 8),0),((oI 19 .sub 17 18),0),((mV 20 3),0),((mV 21 8),0),((oP 22 (.bin .mul (.c (.int .i64 8)) (.t 21))),0),((oI 23 .shr 20 22),0),((oP 24 (.toInt .u8 (.t 23))),0),((oR 25 13),0),((oP 26 (.indexAddrA 64 1 (.t 25) (.t 19))),0),((oT 1 26 24),2)])))
 (.ops [(oJ 27 .add 10 1),(mV 10 27)])))))))
theorem F134:FI 134 4 28 5 [] c134:=mkF Tryz.f134 Tryz.func134
def c65:RC :=
 (.seq (.ops [(oH 6 0)])
 (.seq (.ops [(oH 7 0)])
 (.seq (.seq (.ops [(mV 10 0),(oR 11 10),(mV 12 1),(mV 13 1),(mV 14 2),(oI 15 .add 13 14),(oP 16 (.sliceP 64 1 (.t 11) (some (.t 12)) (some (.t 15)) none)),(oK 17 16),(oH 18 0)])
 (.block 0
 (.loop
 (.seq (.ops [(oI 19 .lss 18 17)])
 (.seq (.cond (.t 19)
 .skip
 (.exit 0))
 (.seq (.block 1
 (.seq (.ops [(oS 20 1 16 18),(oA 21 20),(mV 9 21)])
 (.ops [(mV 22 7),(oP 23 (.bin .shl (.t 22) (.c (.int .u64 8)))),(mV 24 9),(oP 25 (.toInt .i64 (.t 24))),(oI 26 .or 23 25),(mV 7 26)])))
 (.ops [(oJ 27 .add 18 1),(mV 18 27)])))))))
 (.cut (.seq (.ops [(mV 28 7),(mV 6 28)])
 .ret)))))
theorem F65:FI 65 3 29 5 [.tmp 6] c65:=mkF Tryz.f65 Tryz.func65
def c19:RC :=
 (.seq (.ops [(oP 1 (.box 27 (.t 0))),(oH 2 0)])
 (.seq (.ops [(oP 5 (.mkFn (.func 67) [] [(.t 1)])),(mV 3 5)])
 (.seq (.ops [(oC 6 0 1),(oA 7 6),(oJ 8 .geq 7 0),(mV 9 8),(oF 10 9 true 0 1),(oD 11 9 true 10),(oG 12 9 true (.bin .leq (.t 11) (.c (.int .i64 1099511627776)))),(oN 13 9 12),(mV 14 13),(oF 15 14 true 20 1),(oD 16 14 true 15),(oG 17 14 true (.bin .geq (.t 16) (.c (.int .i64 2)))),(oN 18 14 17),(mV 19 18),(oF 20 19 true 20 1),(oD 21 19 true 20),(oG 22 19 true (.bin .leq (.t 21) (.c (.int .i64 4096)))),(oN 23 19 22),(mV 4 23)])
 (.seq (.ops [(mV 24 4),(mV 25 24),(oF 26 25 true 19 1),(oD 27 25 true 26),(oG 28 25 true (.bin .eql (.t 27) (.c (.int .i64 0)))),(oE 29 25 true 28),(oE 30 29 false 3),(oF 31 29 false 19 1),(oD 32 29 false 31),(oG 33 29 false (.callV (.t 30) [(.t 32)])),(oG 34 25 true (.pick (.t 29) (.c (.bool true)) (.t 33))),(oN 35 25 34),(mV 4 35)])
 (.seq (.ops [(mV 36 4),(mV 37 36),(oF 38 37 true 1 1),(oG 39 37 true (.load true 18 (.t 38))),(oG 40 37 true (.build [(.int .i64 0),(.int .i64 0),(.int .u8 0),(.int .u8 0),(.int .u8 0),(.int .u8 0),(.int .u8 0),(.int .u8 0),(.int .u8 0),(.int .u8 0),(.int .u8 0),(.int .u8 0),(.int .u8 0),(.int .u8 0),(.int .u8 0),(.int .u8 0),(.int .u8 0),(.int .u8 0)] [])),(oG 41 37 true (.cmp false 25 (.t 39) (.t 40))),(oE 42 37 true 41),(oE 43 42 false 3),(oF 44 42 false 1 1),(oF 45 42 false 0 44),(oD 46 42 false 45),(oG 47 42 false (.callV (.t 43) [(.t 46)])),(oE 48 42 false 47),(oF 49 48 true 1 1),(oF 50 48 true 1 49),(oD 51 48 true 50),(oG 52 48 true (.bin .geq (.t 51) (.c (.int .i64 1)))),(oG 53 42 false (.pick (.t 48) (.t 52) (.c (.bool false)))),(oE 54 42 false 53),(oF 55 54 true 1 1),(oF 56 54 true 1 55),(oD 57 54 true 56),(oG 58 54 true (.bin .lss (.t 57) (.c (.int .i64 2147483648)))),(oG 59 42 false (.pick (.t 54) (.t 58) (.c (.bool false)))),(oG 60 37 true (.pick (.t 42) (.c (.bool true)) (.t 59))),(oN 61 37 60),(mV 4 61)])
 (.seq (.seq (.ops [(mV 62 4),(oP 63 (.un .not (.t 62)))])
 (.cond (.t 63)
 (.seq (.ops [(oH 2 2)])
 .ret)
 .skip))
 (.seq (.ops [(oH 2 0)])
 .ret)))))))
theorem F19:FI 19 1 64 7 [.tmp 2] c19:=mkF Tryz.f19 Tryz.func19
def c67:RC :=
 (.seq (.ops [(oP 3 (.mv (.c (.bool false))))])
 (.seq (.ops [(mV 4 0),(oJ 5 .geq 4 2),(mV 6 5),(oE 7 6 true 0),(oF 8 6 true 20 1),(oD 9 6 true 8),(oG 10 6 true (.bin .lss (.t 7) (.t 9))),(oN 11 6 10),(mV 3 11)])
 .ret))
theorem F67:FI 67 2 12 4 [.tmp 3] c67:=mkF Tryz.f67 Tryz.func67
def c15:RC :=
 (.seq (.ops [(oP 1 (.box 27 (.t 0))),(oP 2 (.mv (.c (.str [])))),(oH 3 0)])
 (.seq (.seq (.ops [(oB 6 21 1),(oV 7 19 6),(mV 4 7)])
 (.seq (.ops [(mV 8 4),(oJ 9 .neq 8 0)])
 (.cond (.t 9)
 (.seq (.ops [(mV 10 4),(oP 2 (.mv (.c (.str [])))),(mV 3 10)])
 .ret)
 .skip)))
 (.seq (.ops [(oB 11 21 1),(oV 12 59 11),(oP 5 (.alloc 127 (List.replicate 64 (.int .u8 0)))),(oT 64 5 12)])
 (.seq (.ops [(oP 13 (.sliceP 64 1 (.t 5) none none none)),(oP 14 (.bytesStr (.t 13))),(mV 2 14),(oH 3 0)])
 .ret))))
def c17:RC :=
 (.seq (.ops [(oP 2 (.alloc 27 zRl)),(oH 3 0)])
 (.seq (.seq (.ops [(mV 8 0),(oP 9 (.lenS (.t 8))),(oJ 10 .neq 9 64)])
 (.cond (.t 10)
 (.seq (.ops [(oP 11 (.build zRl [])),(oT 21 2 11),(oH 3 8)])
 .ret)
 .skip))
 (.seq (.ops [(mV 12 0),(oP 13 (.strBytes (.t 12))),(oP 14 (.s2a 64 (.t 13))),(oB 15 64 14),(oP 4 (.alloc 127 (List.replicate 64 (.int .u8 0)))),(oT 64 4 15)])
 (.seq (.ops [(oP 5 (.alloc 27 zRl))])
 (.seq (.seq (.ops [(oP 16 (.callF 64 [])),(oK 17 16),(oH 18 0)])
 (.block 0
 (.loop
 (.seq (.ops [(oI 19 .lss 18 17)])
 (.seq (.cond (.t 19)
 .skip
 (.exit 0))
 (.seq (.block 1
 (.seq (.ops [(oS 20 3 16 18),(oB 21 3 20),(oP 7 (.alloc 138 [(.int .i64 0),(.int .i64 0),.nilf])),(oT 3 7 21)])
 (.draw [((oC 22 2 7),0),((oA 23 22),1),((oC 25 0 7),0),((oA 26 25),1),((oC 27 1 7),0),((oA 28 27),1),((oP 24 (.callV (.t 23) [(.t 5)])),2),((oP 29 (.callF 65 [(.t 4),(.t 26),(.t 28)])),2),((oR 30 24),0),((oT 1 30 29),3)])))
 (.ops [(oJ 31 .add 18 1),(mV 18 31)])))))))
 (.cut (.seq (.draw [((oC 32 1 5),0),((oC 33 2 32),0),((oP 34 (.sliceP 16 1 (.t 33) none none none)),1),((oP 35 (.sliceP 64 1 (.t 4) (some (.c (.int .i64 15))) none none)),1),((oP 36 (.cpy 1 (.t 34) (.t 35))),2)])
 (.seq (.seq (.draw [((oB 37 21 5),1),((oV 38 19 37),4),((oJ 39 .neq 38 0),0),((mV 40 39),0),((oG 41 40 false (.load true 21 (.t 5))),1),((oG 42 40 false (.callF 59 [(.t 41)])),0),((oG 43 40 false (.load true 64 (.t 4))),1),((oG 44 40 false (.cmp true 127 (.t 42) (.t 43))),0),((oM 45 40 44),0)])
 (.cond (.t 45)
 (.seq (.ops [(oP 46 (.build zRl [])),(oT 21 2 46),(oH 3 8)])
 .ret)
 .skip))
 (.seq (.ops [(oB 47 21 5),(oT 21 2 47),(oH 3 0)])
 .ret)))))))))
theorem F17:FI 17 1 48 6 [.cell 2 27,.tmp 3] c17:=mkF Tryz.f17 Tryz.func17
def c76:RC :=
 (.seq (.ops [(oP 1 (.box 79 (.t 0))),(oP 2 (.mv (.c (.bool false))))])
 (.seq (.seq (.ops [(oC 3 2 1),(oA 4 3),(oJ 5 .lss 4 0),(mV 6 5),(oF 7 6 false 2 1),(oD 8 6 false 7),(oG 9 6 false (.bin .gtr (.t 8) (.c (.int .i64 1099511627776)))),(oM 10 6 9),(mV 11 10),(oF 12 11 false 1 1),(oD 13 11 false 12),(oG 14 11 false (.callF 147 [(.t 13)])),(oG 15 11 false (.un .not (.t 14))),(oM 16 11 15),(mV 17 16),(oG 18 17 false (.load true 10 (.t 1))),(oG 19 17 false (.callF 148 [(.t 18)])),(oG 20 17 false (.un .not (.t 19))),(oM 21 17 20)])
 (.cond (.t 21)
 (.seq (.ops [(oP 2 (.mv (.c (.bool false))))])
 .ret)
 .skip))
 (.seq (.seq (.ops [(oC 22 0 1),(oA 23 22)])
 (.block 0
 (.seq (.seq (.ops [(oJ 25 .eql 23 1),(mV 24 25)])
 (.cond (.t 24)
 .skip
 (.ops [(oJ 26 .eql 23 2),(mV 24 26)])))
 (.cond (.t 24)
 (.seq (.ops [(oC 27 0 1),(oA 28 27),(oJ 29 .eql 28 1),(oC 30 4 1),(oA 31 30),(oJ 32 .eql 31 0),(oP 33 (.cmp false 4 (.t 29) (.t 32))),(mV 34 33),(oF 35 34 true 3 1),(oD 36 34 true 35),(oG 37 34 true (.bin .geq (.t 36) (.c (.int .i64 0)))),(oN 38 34 37),(mV 39 38),(oF 40 39 true 3 1),(oD 41 39 true 40),(oG 42 39 true (.bin .leq (.t 41) (.c (.int .i64 255)))),(oN 43 39 42),(mV 44 43),(oF 45 44 true 6 1),(oD 46 44 true 45),(oG 47 44 true (.lenL (.t 46))),(oG 48 44 true (.bin .leq (.t 47) (.c (.int .i64 496)))),(oN 49 44 48),(mV 50 49),(oF 51 50 true 6 1),(oD 52 50 true 51),(oF 53 50 true 4 1),(oD 54 50 true 53),(oG 55 50 true (.callF 149 [(.t 52),(.t 54)])),(oN 56 50 55),(mV 2 56)])
 .ret)
 (.seq (.ops [(oJ 58 .eql 23 3),(mV 57 58)])
 (.cond (.t 57)
 (.seq (.ops [(oC 59 7 1),(oA 60 59),(oJ 61 .eql 60 0),(mV 62 61),(oF 63 62 false 7 1),(oD 64 62 false 63),(oG 65 62 false (.callF 147 [(.t 64)])),(oM 66 62 65),(mV 67 66),(oF 68 67 true 8 1),(oD 69 67 true 68),(oG 70 67 true (.lenS (.t 69))),(oG 71 67 true (.bin .geq (.t 70) (.c (.int .i64 1)))),(oN 72 67 71),(mV 73 72),(oF 74 73 true 8 1),(oD 75 73 true 74),(oG 76 73 true (.lenS (.t 75))),(oG 77 73 true (.bin .leq (.t 76) (.c (.int .i64 490)))),(oN 78 73 77),(mV 2 78)])
 .ret)
 (.seq (.ops [(oJ 80 .eql 23 4),(mV 79 80)])
 (.cond (.t 79)
 (.seq (.ops [(oC 81 7 1),(oA 82 81),(oJ 83 .eql 82 0),(mV 84 83),(oF 85 84 false 7 1),(oD 86 84 false 85),(oG 87 84 false (.callF 147 [(.t 86)])),(oM 88 84 87),(mV 89 88),(oF 90 89 true 9 1),(oD 91 89 true 90),(oG 92 89 true (.lenL (.t 91))),(oG 93 89 true (.bin .leq (.t 92) (.c (.int .i64 496)))),(oN 94 89 93),(mV 95 94),(oF 96 95 true 9 1),(oD 97 95 true 96),(oG 98 95 true (.callF 150 [(.t 97)])),(oN 99 95 98),(mV 100 99),(oF 101 100 true 9 1),(oD 102 100 true 101),(oG 103 100 true (.callF 151 [(.t 102)])),(oG 104 100 true (.bin .leq (.t 103) (.c (.int .i64 496)))),(oN 105 100 104),(mV 106 105),(oF 107 106 true 9 1),(oD 108 106 true 107),(oG 109 106 true (.callF 152 [(.t 108)])),(oG 110 106 true (.lenS (.t 109))),(oG 111 106 true (.bin .leq (.t 110) (.c (.int .i64 492)))),(oN 112 106 111),(mV 2 112)])
 .ret)
 .skip))))))))
 (.seq (.ops [(oP 2 (.mv (.c (.bool false))))])
 .ret))))
theorem F76:FI 76 1 113 7 [.tmp 2] c76:=mkF Tryz.f76 Tryz.func76
def c77:RC :=
 (.seq (.ops [(oP 1 (.box 79 (.t 0))),(oP 2 (.alloc 159 [(.str []),(.int .i64 0)]))])
 (.seq (.seq (.ops [(oB 4 10 1),(oV 5 76 4),(oP 6 (.un .not (.t 5)))])
 (.cond (.t 6)
 (.seq (.ops [(oP 7 (.build [(.str []),(.int .i64 0)] [(1,1,(.c (.int .i64 2)))])),(oT 2 2 7)])
 .ret)
 .skip))
 (.seq (.draw [((oP 8 (.callF 61 [(.c (.int .i64 85)),(.c (.int .i64 1))])),0),((oC 9 0 1),0),((oA 10 9),1),((oP 11 (.callF 61 [(.t 10),(.c (.int .i64 1))])),0),((oI 12 .add 8 11),0),((oC 13 1 1),0),((oA 14 13),1),((oP 15 (.callF 61 [(.t 14),(.c (.int .i64 4))])),0),((oI 16 .add 12 15),0),((oC 17 2 1),0),((oA 18 17),1),((oP 19 (.callF 61 [(.t 18),(.c (.int .i64 6))])),0),((oI 20 .add 16 19),0),((oB 21 10 1),1),((oV 22 153 21),4),((oI 23 .add 20 22),0),((mV 3 23),0)])
 (.seq (.ops [(mV 24 3),(mV 25 3),(oP 26 (.lenS (.t 25))),(oP 27 (.bin .sub (.c (.int .i64 508)) (.t 26))),(oP 28 (.mkSl 5 1 [(.int .u8 0)] (.t 27) (.t 27))),(oP 29 (.bytesStr (.t 28))),(oI 30 .add 24 29),(mV 3 30)])
 (.seq (.ops [(mV 31 3),(mV 32 3),(oV 33 154 32),(oI 34 .add 31 33),(oP 35 (.build [(.str []),(.int .i64 0)] [(0,1,(.t 34))])),(oT 2 2 35)])
 .ret)))))
theorem F77:FI 77 1 36 6 [.cell 2 159] c77:=mkF Tryz.f77 Tryz.func77
def c103:RC :=
 (.seq (.ops [(oP 2 (.alloc 189 zPm))])
 (.seq (.seq (.ops [(mV 5 0),(oP 6 (.lenS (.t 5))),(oJ 7 .neq 6 512)])
 (.cond (.t 7)
 (.seq (.ops [(oP 8 (.build zPm [(10,1,(.c (.int .i64 8)))])),(oT 11 2 8)])
 .ret)
 .skip))
 (.seq (.ops [(mV 9 0),(oV 10 167 9),(oP 3 (.alloc 79 zPl)),(oT 10 3 10)])
 (.seq (.ops [(oB 11 10 3),(oV 12 77 11),(oP 4 (.alloc 159 [(.str []),(.int .i64 0)])),(oT 2 4 12)])
 (.seq (.seq (.ops [(oC 13 1 4),(oA 14 13),(oJ 15 .neq 14 0),(mV 16 15),(oF 17 16 false 0 4),(oD 18 16 false 17),(oE 19 16 false 0),(oG 20 16 false (.bin .neq (.t 18) (.t 19))),(oM 21 16 20)])
 (.cond (.t 21)
 (.seq (.ops [(oP 22 (.build zPm [(10,1,(.c (.int .i64 8)))])),(oT 11 2 22)])
 .ret)
 .skip))
 (.seq (.ops [(oB 23 10 3),(oP 24 (.build zPm [(0,10,(.t 23))])),(oT 11 2 24)])
 .ret))))))
theorem F103:FI 103 1 25 5 [.cell 2 189] c103:=mkF Tryz.f103 Tryz.func103
def c34:RC :=
 (.seq (.ops [(oP 2 (.box 79 (.t 0))),(oP 3 (.box 79 (.t 1))),(oP 4 (.mv (.c (.bool false))))])
 (.seq (.seq (.ops [(oC 5 0 2),(oA 6 5),(oC 7 0 3),(oA 8 7),(oI 9 .neq 6 8),(mV 10 9),(oF 11 10 false 1 2),(oD 12 10 false 11),(oF 13 10 false 1 3),(oD 14 10 false 13),(oG 15 10 false (.bin .neq (.t 12) (.t 14))),(oM 16 10 15),(mV 17 16),(oF 18 17 false 2 2),(oD 19 17 false 18),(oF 20 17 false 2 3),(oD 21 17 false 20),(oG 22 17 false (.bin .neq (.t 19) (.t 21))),(oM 23 17 22),(mV 24 23),(oF 25 24 false 3 2),(oD 26 24 false 25),(oF 27 24 false 3 3),(oD 28 24 false 27),(oG 29 24 false (.bin .neq (.t 26) (.t 28))),(oM 30 24 29),(mV 31 30),(oF 32 31 false 4 2),(oD 33 31 false 32),(oF 34 31 false 4 3),(oD 35 31 false 34),(oG 36 31 false (.bin .neq (.t 33) (.t 35))),(oM 37 31 36),(mV 38 37),(oF 39 38 false 5 2),(oD 40 38 false 39),(oF 41 38 false 5 3),(oD 42 38 false 41),(oG 43 38 false (.cmp true 4 (.t 40) (.t 42))),(oM 44 38 43),(mV 45 44),(oF 46 45 false 7 2),(oD 47 45 false 46),(oF 48 45 false 7 3),(oD 49 45 false 48),(oG 50 45 false (.bin .neq (.t 47) (.t 49))),(oM 51 45 50),(mV 52 51),(oF 53 52 false 8 2),(oD 54 52 false 53),(oF 55 52 false 8 3),(oD 56 52 false 55),(oG 57 52 false (.bin .neq (.t 54) (.t 56))),(oM 58 52 57)])
 (.cond (.t 58)
 (.seq (.ops [(oP 4 (.mv (.c (.bool false))))])
 .ret)
 .skip))
 (.seq (.ops [(oC 59 6 2),(oA 60 59),(oC 61 6 3),(oA 62 61),(oW 63 94 60 62),(mV 64 63),(oF 65 64 true 9 2),(oD 66 64 true 65),(oF 67 64 true 9 3),(oD 68 64 true 67),(oG 69 64 true (.callF 95 [(.t 66),(.t 68)])),(oN 70 64 69),(mV 4 70)])
 .ret)))
theorem F34:FI 34 2 71 7 [.tmp 4] c34:=mkF Tryz.f34 Tryz.func34
def c95:RC :=
 (.seq (.ops [(oP 4 (.mv (.c (.bool false))))])
 (.seq (.seq (.ops [(mV 6 0),(oK 7 6),(mV 8 1),(oK 9 8),(oI 10 .neq 7 9)])
 (.cond (.t 10)
 (.seq (.ops [(oP 4 (.mv (.c (.bool false))))])
 .ret)
 .skip))
 (.seq (.seq (.ops [(oH 5 0)])
 (.block 0
 (.loop
 (.seq (.seq (.ops [(mV 11 5),(mV 12 0),(oK 13 12),(oI 14 .lss 11 13)])
 (.cond (.t 14)
 .skip
 (.exit 0)))
 (.seq (.block 1
 (.seq (.draw [((mV 17 0),0),((mV 18 5),0),((oS 19 2 17 18),0),((oC 20 0 19),0),((oA 21 20),1),((mV 22 1),0),((mV 23 5),0),((oS 24 2 22 23),0),((oC 25 0 24),0),((oA 26 25),1),((oI 27 .neq 21 26),0),((mV 28 27),0),((oE 29 28 false 0),0),((oE 30 28 false 5),0),((oG 31 28 false (.indexAddrL 2 (.t 29) (.t 30))),0),((oF 32 28 false 1 31),0),((oD 33 28 false 32),1),((oE 34 28 false 1),0),((oE 35 28 false 5),0),((oG 36 28 false (.indexAddrL 2 (.t 34) (.t 35))),0),((oF 37 28 false 1 36),0),((oD 38 28 false 37),1),((oG 39 28 false (.callF 163 [(.t 33),(.t 38)])),4),((oG 40 28 false (.un .not (.t 39))),0),((oM 41 28 40),0)])
 (.cond (.t 41)
 (.seq (.ops [(oP 4 (.mv (.c (.bool false))))])
 .ret)
 .skip)))
 (.ops [(mV 15 5),(oJ 16 .add 15 1),(mV 5 16)]))))))
 (.cut (.seq (.ops [(oP 4 (.mv (.c (.bool true))))])
 .ret)))))
theorem F95:FI 95 2 42 6 [.tmp 4] c95:=mkF Tryz.f95 Tryz.func95
def c147:RC :=
 (.seq (.ops [(oP 2 (.mv (.c (.bool false))))])
 (.seq (.ops [(mV 3 0),(oJ 4 .geq 3 2),(mV 5 4),(oE 6 5 true 0),(oG 7 5 true (.bin .lss (.t 6) (.c (.int .i64 4096)))),(oN 8 5 7),(mV 2 8)])
 .ret))
theorem F147:FI 147 1 9 4 [.tmp 2] c147:=mkF Tryz.f147 Tryz.func147
def c148:RC :=
 (.seq (.ops [(oP 1 (.box 79 (.t 0))),(oP 2 (.mv (.c (.bool false))))])
 (.seq (.ops [(oC 4 0 1),(oA 5 4),(oJ 6 .eql 5 1),(mV 7 6),(oF 8 7 false 0 1),(oD 9 7 false 8),(oG 10 7 false (.bin .eql (.t 9) (.c (.int .i64 2)))),(oM 11 7 10),(mV 3 11)])
 (.seq (.seq (.ops [(mV 12 3),(oP 13 (.un .not (.t 12))),(mV 14 13),(oF 15 14 true 3 1),(oD 16 14 true 15),(oG 17 14 true (.bin .neq (.t 16) (.c (.int .i64 0)))),(oE 18 14 true 17),(oF 19 18 false 4 1),(oD 20 18 false 19),(oG 21 18 false (.bin .neq (.t 20) (.c (.int .i64 0)))),(oG 22 14 true (.pick (.t 18) (.c (.bool true)) (.t 21))),(oE 23 14 true 22),(oF 24 23 false 5 1),(oD 25 23 false 24),(oG 26 14 true (.pick (.t 23) (.c (.bool true)) (.t 25))),(oE 27 14 true 26),(oF 28 27 false 6 1),(oD 29 27 false 28),(oG 30 27 false (.lenL (.t 29))),(oG 31 27 false (.bin .gtr (.t 30) (.c (.int .i64 0)))),(oG 32 14 true (.pick (.t 27) (.c (.bool true)) (.t 31))),(oN 33 14 32)])
 (.cond (.t 33)
 (.seq (.ops [(oP 2 (.mv (.c (.bool false))))])
 .ret)
 .skip))
 (.seq (.ops [(mV 34 3),(oP 35 (.un .not (.t 34))),(mV 36 35),(oF 37 36 false 7 1),(oD 38 36 false 37),(oG 39 36 false (.bin .eql (.t 38) (.c (.int .i64 0)))),(oM 40 36 39),(mV 41 40),(oF 42 41 true 0 1),(oD 43 41 true 42),(oG 44 41 true (.bin .eql (.t 43) (.c (.int .i64 3)))),(oE 45 41 true 44),(oF 46 45 false 8 1),(oD 47 45 false 46),(oG 48 45 false (.bin .eql (.t 47) (.c (.str [])))),(oG 49 41 true (.pick (.t 45) (.c (.bool true)) (.t 48))),(oN 50 41 49),(mV 51 50),(oF 52 51 true 0 1),(oD 53 51 true 52),(oG 54 51 true (.bin .eql (.t 53) (.c (.int .i64 4)))),(oE 55 51 true 54),(oF 56 55 false 9 1),(oD 57 55 false 56),(oG 58 55 false (.lenL (.t 57))),(oG 59 55 false (.bin .eql (.t 58) (.c (.int .i64 0)))),(oG 60 51 true (.pick (.t 55) (.c (.bool true)) (.t 59))),(oN 61 51 60),(mV 2 61)])
 .ret))))
theorem F148:FI 148 1 62 6 [.tmp 2] c148:=mkF Tryz.f148 Tryz.func148
def c149:RC :=
 (.seq (.ops [(oP 4 (.mv (.c (.bool false))))])
 (.seq (.ops [(mV 5 0),(mV 6 1),(oW 7 197 5 6),(mV 8 7),(oE 9 8 true 0),(oE 10 8 true 1),(oG 11 8 true (.callF 198 [(.t 9),(.t 10)])),(oG 12 8 true (.field false 1 0 (.t 11))),(oG 13 8 true (.bin .leq (.t 12) (.c (.int .i64 496)))),(oN 14 8 13),(mV 4 14)])
 .ret))
theorem F149:FI 149 2 15 5 [.tmp 4] c149:=mkF Tryz.f149 Tryz.func149
def c150:RC :=
 (.seq (.ops [(oP 2 (.mv (.c (.bool false))))])
 (.seq (.seq (.ops [(oH 3 0)])
 (.block 0
 (.loop
 (.seq (.seq (.ops [(mV 6 3),(mV 7 0),(oK 8 7),(oI 9 .lss 6 8)])
 (.cond (.t 9)
 .skip
 (.exit 0)))
 (.seq (.block 1
 (.seq (.ops [(mV 12 0),(mV 13 3),(oS 14 2 12 13),(oB 15 2 14),(oP 4 (.alloc 145 [(.int .i64 0),(.lst 0 [] true)])),(oT 2 4 15)])
 (.seq (.seq (.draw [((oC 16 0 4),0),((oA 17 16),1),((oJ 18 .lss 17 0),0),((mV 19 18),0),((oF 20 19 false 0 4),0),((oD 21 19 false 20),1),((oG 22 19 false (.bin .gtr (.t 21) (.c (.int .i64 1099511627776)))),0),((oM 23 19 22),0),((mV 24 23),0),((oE 25 24 false 3),0),((oG 26 24 false (.bin .gtr (.t 25) (.c (.int .i64 0)))),0),((oE 27 24 false 26),0),((oF 28 27 true 0 4),0),((oD 29 27 true 28),1),((oE 30 27 true 0),0),((oE 31 27 true 3),0),((oG 32 27 true (.bin .sub (.t 31) (.c (.int .i64 1)))),0),((oG 33 27 true (.indexAddrL 2 (.t 30) (.t 32))),0),((oF 34 27 true 0 33),0),((oD 35 27 true 34),1),((oG 36 27 true (.bin .leq (.t 29) (.t 35))),0),((oG 37 24 false (.pick (.t 27) (.t 36) (.c (.bool false)))),0),((oM 38 24 37),0),((mV 39 38),0),((oF 40 39 false 1 4),0),((oD 41 39 false 40),1),((oG 42 39 false (.lenL (.t 41))),0),((oG 43 39 false (.bin .eql (.t 42) (.c (.int .i64 0)))),0),((oM 44 39 43),0)])
 (.cond (.t 44)
 (.seq (.ops [(oP 2 (.mv (.c (.bool false))))])
 .ret)
 .skip))
 (.seq (.ops [(oH 5 0)])
 (.block 2
 (.loop
 (.seq (.seq (.ops [(mV 45 5),(oC 46 1 4),(oA 47 46),(oK 48 47),(oI 49 .lss 45 48)])
 (.cond (.t 49)
 .skip
 (.exit 2)))
 (.seq (.block 3
 (.seq (.draw [((oC 52 1 4),0),((oA 53 52),1),((mV 54 5),0),((oS 55 1 53 54),0),((oA 56 55),1),((oV 57 147 56),4),((oP 58 (.un .not (.t 57))),0),((mV 59 58),0),((oE 60 59 false 5),0),((oG 61 59 false (.bin .gtr (.t 60) (.c (.int .i64 0)))),0),((oE 62 59 false 61),0),((oF 63 62 true 1 4),0),((oD 64 62 true 63),1),((oE 65 62 true 5),0),((oG 66 62 true (.indexAddrL 1 (.t 64) (.t 65))),0),((oD 67 62 true 66),1),((oF 68 62 true 1 4),0),((oD 69 62 true 68),1),((oE 70 62 true 5),0),((oG 71 62 true (.bin .sub (.t 70) (.c (.int .i64 1)))),0),((oG 72 62 true (.indexAddrL 1 (.t 69) (.t 71))),0),((oD 73 62 true 72),1),((oG 74 62 true (.bin .leq (.t 67) (.t 73))),0),((oG 75 59 false (.pick (.t 62) (.t 74) (.c (.bool false)))),0),((oM 76 59 75),0)])
 (.cond (.t 76)
 (.seq (.ops [(oP 2 (.mv (.c (.bool false))))])
 .ret)
 .skip)))
 (.ops [(mV 50 5),(oJ 51 .add 50 1),(mV 5 51)])))))))))
 (.cut (.ops [(mV 10 3),(oJ 11 .add 10 1),(mV 3 11)])))))))
 (.cut (.seq (.ops [(oP 2 (.mv (.c (.bool true))))])
 .ret))))
theorem F150:FI 150 1 77 7 [.tmp 2] c150:=mkF Tryz.f150 Tryz.func150
def c151:RC :=
 (.seq (.ops [(oH 2 0)])
 (.seq (.ops [(oH 3 0)])
 (.seq (.seq (.ops [(oH 4 0)])
 (.block 0
 (.loop
 (.seq (.seq (.ops [(mV 5 4),(mV 6 0),(oK 7 6),(oI 8 .lss 5 7)])
 (.cond (.t 8)
 .skip
 (.exit 0)))
 (.seq (.block 1
 (.ops [(mV 11 3),(oJ 12 .add 11 2),(mV 13 0),(mV 14 4),(oS 15 2 13 14),(oC 16 1 15),(oA 17 16),(oK 18 17),(oI 19 .add 12 18),(mV 3 19)]))
 (.ops [(mV 9 4),(oJ 10 .add 9 1),(mV 4 10)]))))))
 (.cut (.seq (.ops [(mV 20 3),(mV 2 20)])
 .ret)))))
theorem F151:FI 151 1 21 5 [.tmp 2] c151:=mkF Tryz.f151 Tryz.func151
def c152:RC :=
 (.seq (.ops [(oP 2 (.mv (.c (.str []))))])
 (.seq (.ops [(mV 6 0),(oK 7 6),(oP 8 (.callF 61 [(.t 7),(.c (.int .i64 2))])),(mV 3 8)])
 (.seq (.seq (.ops [(oH 4 0)])
 (.block 0
 (.loop
 (.seq (.seq (.ops [(mV 9 4),(mV 10 0),(oK 11 10),(oI 12 .lss 9 11)])
 (.cond (.t 12)
 .skip
 (.exit 0)))
 (.seq (.block 1
 (.seq (.draw [((mV 15 3),0),((mV 16 0),0),((mV 17 4),0),((oS 18 2 16 17),0),((oC 19 0 18),0),((oA 20 19),1),((oP 21 (.callF 61 [(.t 20),(.c (.int .i64 6))])),0),((oI 22 .add 15 21),0),((mV 23 0),0),((mV 24 4),0),((oS 25 2 23 24),0),((oC 26 1 25),0),((oA 27 26),1),((oK 28 27),0),((oP 29 (.callF 61 [(.t 28),(.c (.int .i64 2))])),4),((oI 30 .add 22 29),0),((mV 3 30),0)])
 (.seq (.ops [(oH 5 0)])
 (.block 2
 (.loop
 (.seq (.seq (.ops [(mV 31 5),(mV 32 0),(mV 33 4),(oS 34 2 32 33),(oC 35 1 34),(oA 36 35),(oK 37 36),(oI 38 .lss 31 37)])
 (.cond (.t 38)
 .skip
 (.exit 2)))
 (.seq (.block 3
 (.ops [(mV 41 3),(mV 42 0),(mV 43 4),(oS 44 2 42 43),(oC 45 1 44),(oA 46 45),(mV 47 5),(oS 48 1 46 47),(oA 49 48),(oP 50 (.callF 61 [(.t 49),(.c (.int .i64 4))])),(oI 51 .add 41 50),(mV 3 51)]))
 (.ops [(mV 39 5),(oJ 40 .add 39 1),(mV 5 40)]))))))))
 (.cut (.ops [(mV 13 4),(oJ 14 .add 13 1),(mV 4 14)])))))))
 (.cut (.seq (.ops [(mV 52 3),(mV 2 52)])
 .ret)))))
theorem F152:FI 152 1 53 6 [.tmp 2] c152:=mkF Tryz.f152 Tryz.func152
def c61:RC :=
 (.seq (.ops [(oP 4 (.mv (.c (.str []))))])
 (.seq (.ops [(mV 7 1),(oP 8 (.mkSl 5 1 [(.int .u8 0)] (.t 7) (.t 7))),(mV 5 8)])
 (.seq (.seq (.ops [(mV 9 1),(oJ 10 .sub 9 1),(mV 6 10)])
 (.block 0
 (.loop
 (.seq (.seq (.ops [(mV 11 6),(oJ 12 .geq 11 0)])
 (.cond (.t 12)
 .skip
 (.exit 0)))
 (.seq (.block 1
 (.seq (.ops [(mV 15 5),(mV 16 6),(mV 17 0),(oJ 18 .rem 17 256),(oP 19 (.toInt .u8 (.t 18))),(oS 20 1 15 16),(oT 1 20 19)])
 (.ops [(mV 21 0),(oJ 22 .quo 21 256),(mV 0 22)])))
 (.ops [(mV 13 6),(oJ 14 .sub 13 1),(mV 6 14)]))))))
 (.cut (.seq (.ops [(mV 23 5),(oP 24 (.bytesStr (.t 23))),(mV 4 24)])
 .ret)))))
theorem F61:FI 61 2 25 5 [.tmp 4] c61:=mkF Tryz.f61 Tryz.func61
def c153:RC :=
 (.seq (.ops [(oP 1 (.box 79 (.t 0))),(oP 2 (.mv (.c (.str []))))])
 (.seq (.seq (.ops [(oC 4 0 1),(oA 5 4)])
 (.block 0
 (.seq (.ops [(oJ 7 .eql 5 3),(mV 6 7)])
 (.cond (.t 6)
 (.seq (.draw [((oC 8 7 1),0),((oA 9 8),1),((oP 10 (.callF 61 [(.t 9),(.c (.int .i64 4))])),0),((oC 11 8 1),0),((oA 12 11),1),((oP 13 (.lenS (.t 12))),0),((oP 14 (.callF 61 [(.t 13),(.c (.int .i64 2))])),0),((oI 15 .add 10 14),0),((oC 16 8 1),0),((oA 17 16),1),((oI 18 .add 15 17),0),((mV 2 18),0)])
 .ret)
 (.seq (.ops [(oJ 20 .eql 5 4),(mV 19 20)])
 (.cond (.t 19)
 (.seq (.draw [((oC 21 7 1),0),((oA 22 21),1),((oP 23 (.callF 61 [(.t 22),(.c (.int .i64 4))])),0),((oC 24 9 1),0),((oA 25 24),1),((oV 26 152 25),4),((oI 27 .add 23 26),0),((mV 2 27),0)])
 .ret)
 .skip))))))
 (.seq (.draw [((oC 28 3 1),0),((oA 29 28),1),((oP 30 (.callF 61 [(.t 29),(.c (.int .i64 1))])),0),((oC 31 4 1),0),((oA 32 31),1),((oP 33 (.callF 61 [(.t 32),(.c (.int .i64 1))])),0),((oI 34 .add 30 33),0),((oC 35 5 1),0),((oA 36 35),1),((oV 37 199 36),0),((oP 38 (.callF 61 [(.t 37),(.c (.int .i64 1))])),0),((oI 39 .add 34 38),0),((oC 40 6 1),0),((oA 41 40),1),((oC 42 4 1),0),((oA 43 42),1),((oW 44 200 41 43),0),((oP 45 (.lenS (.t 44))),0),((oP 46 (.callF 61 [(.t 45),(.c (.int .i64 1))])),0),((oI 47 .add 39 46),0),((oC 48 6 1),0),((oA 49 48),1),((oK 50 49),0),((oP 51 (.callF 61 [(.t 50),(.c (.int .i64 2))])),4),((oI 52 .add 47 51),0),((mV 3 52),0)])
 (.seq (.ops [(mV 53 3),(oC 54 6 1),(oA 55 54),(oC 56 4 1),(oA 57 56),(oP 58 (.callF 201 [(.t 55),(.t 57),(.c (.int .i64 18))])),(oI 59 .add 53 58),(mV 2 59)])
 .ret))))
theorem F153:FI 153 1 60 6 [.tmp 2] c153:=mkF Tryz.f153 Tryz.func153
def c154:RC :=
 (.seq (.ops [(oP 2 (.mv (.c (.str []))))])
 (.seq (.ops [(mV 3 0),(oV 4 63 3),(oP 5 (.toInt .i64 (.t 4))),(oP 6 (.callF 61 [(.t 5),(.c (.int .i64 4))])),(oV 7 202 6),(mV 2 7)])
 .ret))
theorem F154:FI 154 1 8 4 [.tmp 2] c154:=mkF Tryz.f154 Tryz.func154
def c167:RC :=
 (.seq (.ops [(oP 2 (.alloc 79 zPl))])
 (.seq (.ops [(mV 14 0),(oP 15 (.sliceS (.t 14) (some (.c (.int .i64 1))) (some (.c (.int .i64 508))))),(oP 16 (.build [(.str []),(.bool false)] [(0,1,(.t 15))])),(oP 17 (.box 287 (.t 16))),(mV 3 17)])
 (.seq (.ops [(mV 18 3),(oP 19 (.callF 209 [(.t 18),(.c (.int .i64 1))])),(mV 20 3),(oP 21 (.callF 209 [(.t 20),(.c (.int .i64 4))])),(mV 22 3),(oP 23 (.callF 209 [(.t 22),(.c (.int .i64 6))])),(oP 24 (.build zPl [(0,1,(.t 19)),(1,1,(.t 21)),(2,1,(.t 23))])),(oP 4 (.alloc 79 zPl)),(oT 10 4 24)])
 (.seq (.seq (.ops [(oC 25 0 4),(oA 26 25)])
 (.block 0
 (.seq (.seq (.ops [(oJ 28 .eql 26 1),(mV 27 28)])
 (.cond (.t 27)
 .skip
 (.ops [(oJ 29 .eql 26 2),(mV 27 29)])))
 (.cond (.t 27)
 (.seq (.ops [(mV 30 3),(oP 31 (.callF 209 [(.t 30),(.c (.int .i64 1))])),(oC 32 3 4),(oT 1 32 31)])
 (.seq (.ops [(mV 33 3),(oP 34 (.callF 209 [(.t 33),(.c (.int .i64 1))])),(oC 35 4 4),(oT 1 35 34)])
 (.seq (.ops [(mV 36 3),(oP 37 (.callF 209 [(.t 36),(.c (.int .i64 1))])),(oJ 38 .eql 37 1),(oC 39 5 4),(oT 1 39 38)])
 (.seq (.ops [(mV 40 3),(oP 41 (.callF 209 [(.t 40),(.c (.int .i64 1))])),(mV 5 41)])
 (.seq (.ops [(mV 42 3),(oP 43 (.callF 209 [(.t 42),(.c (.int .i64 2))])),(mV 6 43)])
 (.seq (.ops [(mV 44 3),(mV 45 5),(oW 46 210 44 45),(mV 7 46)])
 (.seq (.ops [(mV 47 3),(mV 48 6),(oP 49 (.bin .mul (.c (.int .i64 2)) (.t 48))),(oW 50 210 47 49)])
 (.seq (.ops [(oH 8 0)])
 (.block 1
 (.loop
 (.seq (.seq (.ops [(mV 51 8),(mV 52 6),(oI 53 .lss 51 52),(mV 54 53),(oE 55 54 true 3),(oG 56 54 true (.nilCheck (.t 55))),(oF 57 54 true 1 56),(oD 58 54 true 57),(oG 59 54 true (.un .not (.t 58))),(oN 60 54 59)])
 (.cond (.t 60)
 .skip
 (.exit 1)))
 (.seq (.block 2
 (.draw [((oC 63 6 4),0),((oA 64 63),1),((mV 65 3),0),((mV 66 7),0),((oC 67 4 4),0),((oA 68 67),1),((mV 69 8),0),((oJ 70 .eql 69 0),0),((oP 71 (.callF 211 [(.t 65),(.t 66),(.t 68),(.t 70)])),2),((oP 72 (.mkLst 22 true 1 [(.str []),(.str []),(.int .i64 0),(.int .i64 0),(.int .i64 0),(.int .i64 0),(.int .u8 0),(.int .u8 0),(.int .u8 0),(.int .u8 0),(.int .u8 0),(.int .u8 0),(.int .u8 0),(.int .u8 0),(.int .u8 0),(.int .u8 0),(.int .u8 0),(.int .u8 0),(.int .u8 0),(.int .u8 0),(.int .u8 0),(.int .u8 0)] [(0,22,(.t 71))])),0),((oP 73 (.app 147 22 (.t 64) (.t 72))),2),((oC 74 6 4),0),((oT 1 74 73),3)]))
 (.ops [(mV 61 8),(oJ 62 .add 61 1),(mV 8 62)])))))))))))))
 (.seq (.ops [(oJ 76 .eql 26 3),(mV 75 76)])
 (.cond (.t 75)
 (.seq (.ops [(mV 77 3),(oP 78 (.callF 209 [(.t 77),(.c (.int .i64 4))])),(oC 79 7 4),(oT 1 79 78)])
 (.ops [(mV 80 3),(mV 81 3),(oP 82 (.callF 209 [(.t 81),(.c (.int .i64 2))])),(oW 83 210 80 82),(oC 84 8 4),(oT 1 84 83)]))
 (.seq (.ops [(oJ 86 .eql 26 4),(mV 85 86)])
 (.cond (.t 85)
 (.seq (.ops [(mV 87 3),(oP 88 (.callF 209 [(.t 87),(.c (.int .i64 4))])),(oC 89 7 4),(oT 1 89 88)])
 (.seq (.ops [(mV 90 3),(oP 91 (.callF 209 [(.t 90),(.c (.int .i64 2))])),(mV 9 91)])
 (.seq (.ops [(oH 10 0)])
 (.block 3
 (.loop
 (.seq (.seq (.ops [(mV 92 10),(mV 93 9),(oI 94 .lss 92 93),(mV 95 94),(oE 96 95 true 3),(oG 97 95 true (.nilCheck (.t 96))),(oF 98 95 true 1 97),(oD 99 95 true 98),(oG 100 95 true (.un .not (.t 99))),(oN 101 95 100)])
 (.cond (.t 101)
 .skip
 (.exit 3)))
 (.seq (.block 4
 (.seq (.ops [(mV 104 3),(oP 105 (.callF 209 [(.t 104),(.c (.int .i64 6))])),(oP 106 (.build [(.int .i64 0),(.lst 0 [] true)] [(0,1,(.t 105))])),(oP 11 (.alloc 145 [(.int .i64 0),(.lst 0 [] true)])),(oT 2 11 106)])
 (.seq (.ops [(mV 107 3),(oP 108 (.callF 209 [(.t 107),(.c (.int .i64 2))])),(mV 12 108)])
 (.seq (.seq (.ops [(oH 13 0)])
 (.block 5
 (.loop
 (.seq (.seq (.ops [(mV 109 13),(mV 110 12),(oI 111 .lss 109 110),(mV 112 111),(oE 113 112 true 3),(oG 114 112 true (.nilCheck (.t 113))),(oF 115 112 true 1 114),(oD 116 112 true 115),(oG 117 112 true (.un .not (.t 116))),(oN 118 112 117)])
 (.cond (.t 118)
 .skip
 (.exit 5)))
 (.seq (.block 6
 (.draw [((oC 121 1 11),0),((oA 122 121),1),((mV 123 3),0),((oP 124 (.callF 209 [(.t 123),(.c (.int .i64 4))])),2),((oP 125 (.mkLst 1 false 1 [(.int .i64 0)] [(0,1,(.t 124))])),0),((oP 126 (.app 3 1 (.t 122) (.t 125))),3),((oC 127 1 11),0),((oT 1 127 126),2)]))
 (.ops [(mV 119 13),(oJ 120 .add 119 1),(mV 13 120)]))))))
 (.cut (.ops [(oC 128 9 4),(oA 129 128),(oB 130 2 11),(oP 131 (.mkLst 2 true 1 [(.int .i64 0),(.lst 0 [] true)] [(0,2,(.t 130))])),(oP 132 (.app 145 2 (.t 129) (.t 131))),(oC 133 9 4),(oT 1 133 132)]))))))
 (.cut (.ops [(mV 102 10),(oJ 103 .add 102 1),(mV 10 103)])))))))))
 .skip))))))))
 (.cut (.seq (.ops [(oB 134 10 4),(oT 10 2 134)])
 .ret))))))
theorem F167:FI 167 1 135 8 [.cell 2 79] c167:=mkF Tryz.f167 Tryz.func167
def c94:RC :=
 (.seq (.ops [(oP 4 (.mv (.c (.bool false))))])
 (.seq (.seq (.ops [(mV 6 0),(oK 7 6),(mV 8 1),(oK 9 8),(oI 10 .neq 7 9)])
 (.cond (.t 10)
 (.seq (.ops [(oP 4 (.mv (.c (.bool false))))])
 .ret)
 .skip))
 (.seq (.seq (.ops [(oH 5 0)])
 (.block 0
 (.loop
 (.seq (.seq (.ops [(mV 11 5),(mV 12 0),(oK 13 12),(oI 14 .lss 11 13)])
 (.cond (.t 14)
 .skip
 (.exit 0)))
 (.seq (.block 1
 (.seq (.draw [((mV 17 0),0),((mV 18 5),0),((oS 19 22 17 18),0),((oB 20 22 19),1),((mV 21 1),0),((mV 22 5),0),((oS 23 22 21 22),0),((oB 24 22 23),1),((oP 25 (.cmp true 147 (.t 20) (.t 24))),0)])
 (.cond (.t 25)
 (.seq (.ops [(oP 4 (.mv (.c (.bool false))))])
 .ret)
 .skip)))
 (.ops [(mV 15 5),(oJ 16 .add 15 1),(mV 5 16)]))))))
 (.cut (.seq (.ops [(oP 4 (.mv (.c (.bool true))))])
 .ret)))))
theorem F94:FI 94 2 26 5 [.tmp 4] c94:=mkF Tryz.f94 Tryz.func94
def c232:RC :=
 (.seq (.ops [(oH 2 0)])
 (.seq (.ops [(oH 3 0)])
 (.seq (.seq (.ops [(oH 4 0)])
 (.block 0
 (.loop
 (.seq (.seq (.ops [(mV 5 4),(mV 6 0),(oP 7 (.lenS (.t 6))),(oI 8 .lss 5 7)])
 (.cond (.t 8)
 .skip
 (.exit 0)))
 (.seq (.block 1
 (.ops [(mV 11 3),(oJ 12 .mul 11 256),(mV 13 0),(mV 14 4),(oP 15 (.indexS (.t 13) (.t 14))),(oP 16 (.toInt .i64 (.t 15))),(oI 17 .add 12 16),(mV 3 17)]))
 (.ops [(mV 9 4),(oJ 10 .add 9 1),(mV 4 10)]))))))
 (.cut (.seq (.ops [(mV 18 3),(mV 2 18)])
 .ret)))))
theorem F232:FI 232 1 19 5 [.tmp 2] c232:=mkF Tryz.f232 Tryz.func232
def c163:RC :=
 (.seq (.ops [(oP 4 (.mv (.c (.bool false))))])
 (.seq (.seq (.ops [(mV 6 0),(oK 7 6),(mV 8 1),(oK 9 8),(oI 10 .neq 7 9)])
 (.cond (.t 10)
 (.seq (.ops [(oP 4 (.mv (.c (.bool false))))])
 .ret)
 .skip))
 (.seq (.seq (.ops [(oH 5 0)])
 (.block 0
 (.loop
 (.seq (.seq (.ops [(mV 11 5),(mV 12 0),(oK 13 12),(oI 14 .lss 11 13)])
 (.cond (.t 14)
 .skip
 (.exit 0)))
 (.seq (.block 1
 (.seq (.draw [((mV 17 0),0),((mV 18 5),0),((oS 19 1 17 18),0),((oA 20 19),1),((mV 21 1),0),((mV 22 5),0),((oS 23 1 21 22),0),((oA 24 23),1),((oI 25 .neq 20 24),0)])
 (.cond (.t 25)
 (.seq (.ops [(oP 4 (.mv (.c (.bool false))))])
 .ret)
 .skip)))
 (.ops [(mV 15 5),(oJ 16 .add 15 1),(mV 5 16)]))))))
 (.cut (.seq (.ops [(oP 4 (.mv (.c (.bool true))))])
 .ret)))))
theorem F163:FI 163 2 26 5 [.tmp 4] c163:=mkF Tryz.f163 Tryz.func163
def c197:RC :=
 (.seq (.ops [(oP 4 (.mv (.c (.bool false))))])
 (.seq (.seq (.ops [(mV 6 1),(oJ 7 .lss 6 0),(mV 8 7),(oE 9 8 false 1),(oG 10 8 false (.bin .gtr (.t 9) (.c (.int .i64 20)))),(oM 11 8 10),(mV 12 11),(oE 13 12 false 1),(oG 14 12 false (.bin .eql (.t 13) (.c (.int .i64 0)))),(oE 15 12 false 14),(oE 16 15 true 0),(oG 17 15 true (.lenL (.t 16))),(oG 18 15 true (.bin .lss (.t 17) (.c (.int .i64 1)))),(oG 19 12 false (.pick (.t 15) (.t 18) (.c (.bool false)))),(oM 20 12 19),(mV 21 20),(oE 22 21 false 1),(oG 23 21 false (.bin .gtr (.t 22) (.c (.int .i64 0)))),(oE 24 21 false 23),(oE 25 24 true 0),(oG 26 24 true (.lenL (.t 25))),(oG 27 24 true (.bin .lss (.t 26) (.c (.int .i64 2)))),(oE 28 24 true 27),(oE 29 28 false 0),(oG 30 28 false (.indexAddrL 22 (.t 29) (.c (.int .i64 0)))),(oF 31 28 false 0 30),(oD 32 28 false 31),(oG 33 28 false (.bin .neq (.t 32) (.c (.str [])))),(oG 34 24 true (.pick (.t 28) (.c (.bool true)) (.t 33))),(oG 35 21 false (.pick (.t 24) (.t 34) (.c (.bool false)))),(oM 36 21 35)])
 (.cond (.t 36)
 (.seq (.ops [(oP 4 (.mv (.c (.bool false))))])
 .ret)
 .skip))
 (.seq (.seq (.ops [(oH 5 0)])
 (.block 0
 (.loop
 (.seq (.seq (.ops [(mV 37 5),(mV 38 0),(oK 39 38),(oI 40 .lss 37 39)])
 (.cond (.t 40)
 .skip
 (.exit 0)))
 (.seq (.block 1
 (.seq (.seq (.ops [(mV 43 1),(oJ 44 .eql 43 0),(mV 45 44),(oE 46 45 true 0),(oE 47 45 true 5),(oG 48 45 true (.indexAddrL 22 (.t 46) (.t 47))),(oG 49 45 true (.load true 22 (.t 48))),(oG 50 45 true (.callF 225 [(.t 49)])),(oG 51 45 true (.un .not (.t 50))),(oN 52 45 51),(mV 53 52),(oE 54 53 false 1),(oG 55 53 false (.bin .gtr (.t 54) (.c (.int .i64 0)))),(oE 56 53 false 55),(oE 57 56 true 0),(oE 58 56 true 5),(oG 59 56 true (.indexAddrL 22 (.t 57) (.t 58))),(oG 60 56 true (.load true 22 (.t 59))),(oG 61 56 true (.callF 226 [(.t 60)])),(oG 62 56 true (.un .not (.t 61))),(oG 63 53 false (.pick (.t 56) (.t 62) (.c (.bool false)))),(oM 64 53 63)])
 (.cond (.t 64)
 (.seq (.ops [(oP 4 (.mv (.c (.bool false))))])
 .ret)
 .skip))
 (.seq (.seq (.ops [(mV 65 1),(oJ 66 .gtr 65 0),(mV 67 66),(oE 68 67 true 5),(oG 69 67 true (.bin .gtr (.t 68) (.c (.int .i64 0)))),(oN 70 67 69),(mV 71 70),(oE 72 71 true 0),(oE 73 71 true 5),(oG 74 71 true (.indexAddrL 22 (.t 72) (.t 73))),(oF 75 71 true 0 74),(oD 76 71 true 75),(oG 77 71 true (.lenS (.t 76))),(oG 78 71 true (.bin .lss (.t 77) (.c (.int .i64 1)))),(oE 79 71 true 78),(oE 80 79 false 0),(oE 81 79 false 5),(oG 82 79 false (.indexAddrL 22 (.t 80) (.t 81))),(oF 83 79 false 0 82),(oD 84 79 false 83),(oG 85 79 false (.lenS (.t 84))),(oG 86 79 false (.bin .gtr (.t 85) (.c (.int .i64 48)))),(oG 87 71 true (.pick (.t 79) (.c (.bool true)) (.t 86))),(oN 88 71 87)])
 (.cond (.t 88)
 (.seq (.ops [(oP 4 (.mv (.c (.bool false))))])
 .ret)
 .skip))
 (.seq (.draw [((mV 89 5),0),((oJ 90 .gtr 89 0),0),((mV 91 90),0),((oE 92 91 true 0),0),((oE 93 91 true 5),0),((oG 94 91 true (.indexAddrL 22 (.t 92) (.t 93))),0),((oF 95 91 true 0 94),0),((oD 96 91 true 95),1),((oE 97 91 true 0),0),((oE 98 91 true 5),0),((oG 99 91 true (.bin .sub (.t 98) (.c (.int .i64 1)))),0),((oG 100 91 true (.indexAddrL 22 (.t 97) (.t 99))),0),((oF 101 91 true 0 100),0),((oD 102 91 true 101),1),((oG 103 91 true (.bin .leq (.t 96) (.t 102))),0),((oN 104 91 103),0)])
 (.cond (.t 104)
 (.seq (.ops [(oP 4 (.mv (.c (.bool false))))])
 .ret)
 .skip)))))
 (.ops [(mV 41 5),(oJ 42 .add 41 1),(mV 5 42)]))))))
 (.cut (.seq (.ops [(oP 4 (.mv (.c (.bool true))))])
 .ret)))))
theorem F197:FI 197 2 105 7 [.tmp 4] c197:=mkF Tryz.f197 Tryz.func197
def c198:RC :=
 (.seq (.ops [(oP 4 (.alloc 271 [(.int .i64 0),(.int .i64 0)]))])
 (.seq (.seq (.ops [(mV 7 1),(oJ 8 .lss 7 0),(mV 9 8),(oE 10 9 false 1),(oG 11 9 false (.bin .gtr (.t 10) (.c (.int .i64 20)))),(oM 12 9 11)])
 (.cond (.t 12)
 (.seq (.ops [(oP 13 (.build [(.int .i64 0),(.int .i64 0)] [(1,1,(.c (.int .i64 2)))])),(oT 2 4 13)])
 .ret)
 .skip))
 (.seq (.ops [(oH 5 6)])
 (.seq (.seq (.ops [(oH 6 0)])
 (.block 0
 (.loop
 (.seq (.seq (.ops [(mV 14 6),(mV 15 0),(oK 16 15),(oI 17 .lss 14 16)])
 (.cond (.t 17)
 .skip
 (.exit 0)))
 (.seq (.block 1
 (.seq (.seq (.ops [(mV 20 1),(oJ 21 .eql 20 0),(mV 22 21),(oE 23 22 true 0),(oE 24 22 true 6),(oG 25 22 true (.indexAddrL 22 (.t 23) (.t 24))),(oG 26 22 true (.load true 22 (.t 25))),(oG 27 22 true (.callF 225 [(.t 26)])),(oG 28 22 true (.un .not (.t 27))),(oN 29 22 28),(mV 30 29),(oE 31 30 false 1),(oG 32 30 false (.bin .gtr (.t 31) (.c (.int .i64 0)))),(oE 33 30 false 32),(oE 34 33 true 0),(oE 35 33 true 6),(oG 36 33 true (.indexAddrL 22 (.t 34) (.t 35))),(oG 37 33 true (.load true 22 (.t 36))),(oG 38 33 true (.callF 226 [(.t 37)])),(oG 39 33 true (.un .not (.t 38))),(oE 40 33 true 39),(oE 41 40 false 0),(oE 42 40 false 6),(oG 43 40 false (.indexAddrL 22 (.t 41) (.t 42))),(oF 44 40 false 0 43),(oD 45 40 false 44),(oG 46 40 false (.lenS (.t 45))),(oG 47 40 false (.bin .gtr (.t 46) (.c (.int .i64 48)))),(oG 48 33 true (.pick (.t 40) (.c (.bool true)) (.t 47))),(oG 49 30 false (.pick (.t 33) (.t 48) (.c (.bool false)))),(oM 50 30 49)])
 (.cond (.t 50)
 (.seq (.ops [(oP 51 (.build [(.int .i64 0),(.int .i64 0)] [(1,1,(.c (.int .i64 2)))])),(oT 2 4 51)])
 .ret)
 .skip))
 (.draw [((mV 52 5),0),((oJ 53 .add 52 2),0),((oJ 54 .add 53 1),0),((mV 55 0),0),((mV 56 6),0),((oS 57 22 55 56),0),((oC 58 0 57),0),((oA 59 58),1),((oP 60 (.lenS (.t 59))),0),((oI 61 .add 54 60),0),((mV 62 0),0),((mV 63 6),0),((oS 64 22 62 63),0),((oB 65 22 64),1),((mV 66 1),0),((oW 67 227 65 66),4),((oP 68 (.lenS (.t 67))),0),((oI 69 .add 61 68),0),((mV 5 69),0)])))
 (.ops [(mV 18 6),(oJ 19 .add 18 1),(mV 6 19)]))))))
 (.cut (.seq (.ops [(mV 70 5),(oP 71 (.build [(.int .i64 0),(.int .i64 0)] [(0,1,(.t 70))])),(oT 2 4 71)])
 .ret))))))
theorem F198:FI 198 2 72 7 [.cell 4 271] c198:=mkF Tryz.f198 Tryz.func198
def c199:RC :=
 (.seq (.ops [(oH 2 0)])
 (.seq (.seq (.ops [(mV 3 0)])
 (.cond (.t 3)
 (.seq (.ops [(oH 2 1)])
 .ret)
 .skip))
 (.seq (.ops [(oH 2 0)])
 .ret)))
theorem F199:FI 199 1 4 3 [.tmp 2] c199:=mkF Tryz.f199 Tryz.func199
def c200:RC :=
 (.seq (.ops [(oP 4 (.mv (.c (.str []))))])
 (.seq (.ops [(oH 5 0)])
 (.seq (.seq (.ops [(mV 9 1),(oJ 10 .gtr 9 0)])
 (.cond (.t 10)
 (.ops [(oH 5 1)])
 .skip))
 (.seq (.ops [(mV 11 0),(mV 12 5),(oS 13 22 11 12),(oC 14 0 13),(oA 15 14),(mV 6 15)])
 (.seq (.seq (.ops [(mV 16 5),(mV 7 16)])
 (.block 0
 (.loop
 (.seq (.seq (.ops [(mV 17 7),(mV 18 0),(oK 19 18),(oI 20 .lss 17 19)])
 (.cond (.t 20)
 .skip
 (.exit 0)))
 (.seq (.block 1
 (.seq (.ops [(oH 8 0)])
 (.seq (.block 2
 (.loop
 (.seq (.seq (.draw [((mV 23 8),0),((mV 24 6),0),((oP 25 (.lenS (.t 24))),0),((oI 26 .lss 23 25),0),((mV 27 26),0),((oE 28 27 true 8),0),((oE 29 27 true 0),0),((oE 30 27 true 7),0),((oG 31 27 true (.indexAddrL 22 (.t 29) (.t 30))),0),((oF 32 27 true 0 31),0),((oD 33 27 true 32),1),((oG 34 27 true (.lenS (.t 33))),0),((oG 35 27 true (.bin .lss (.t 28) (.t 34))),0),((oN 36 27 35),0),((mV 37 36),0),((oE 38 37 true 6),0),((oE 39 37 true 8),0),((oG 40 37 true (.indexS (.t 38) (.t 39))),0),((oE 41 37 true 0),0),((oE 42 37 true 7),0),((oG 43 37 true (.indexAddrL 22 (.t 41) (.t 42))),0),((oF 44 37 true 0 43),0),((oD 45 37 true 44),1),((oE 46 37 true 8),0),((oG 47 37 true (.indexS (.t 45) (.t 46))),0),((oG 48 37 true (.bin .eql (.t 40) (.t 47))),0),((oN 49 37 48),0)])
 (.cond (.t 49)
 .skip
 (.exit 2)))
 (.block 3
 (.ops [(mV 50 8),(oJ 51 .add 50 1),(mV 8 51)])))))
 (.cut (.ops [(mV 52 6),(mV 53 8),(oP 54 (.sliceS (.t 52) none (some (.t 53)))),(mV 6 54)])))))
 (.cut (.ops [(mV 21 7),(oJ 22 .add 21 1),(mV 7 22)])))))))
 (.cut (.seq (.ops [(mV 55 6),(mV 4 55)])
 .ret)))))))
theorem F200:FI 200 2 56 6 [.tmp 4] c200:=mkF Tryz.f200 Tryz.func200
def c201:RC :=
 (.seq (.ops [(oP 6 (.mv (.c (.str []))))])
 (.seq (.ops [(mV 12 0),(mV 13 1),(oW 14 200 12 13),(mV 7 14)])
 (.seq (.ops [(oP 8 (.mv (.c (.str []))))])
 (.seq (.ops [(oP 9 (.mv (.c (.str []))))])
 (.seq (.ops [(mV 15 2),(mV 16 7),(oP 17 (.lenS (.t 16))),(oI 18 .add 15 17),(mV 19 0),(oK 20 19),(oP 21 (.bin .mul (.c (.int .i64 2)) (.t 20))),(oI 22 .add 18 21),(mV 2 22)])
 (.seq (.seq (.ops [(oH 10 0)])
 (.block 0
 (.loop
 (.seq (.seq (.ops [(mV 23 10),(mV 24 0),(oK 25 24),(oI 26 .lss 23 25)])
 (.cond (.t 26)
 .skip
 (.exit 0)))
 (.seq (.block 1
 (.seq (.ops [(mV 29 0),(mV 30 1),(mV 31 10),(oP 32 (.callF 228 [(.t 29),(.t 30),(.t 31)])),(mV 11 32)])
 (.seq (.ops [(mV 33 8),(mV 34 2),(mV 35 9),(oP 36 (.lenS (.t 35))),(oI 37 .add 34 36),(oP 38 (.callF 61 [(.t 37),(.c (.int .i64 2))])),(oI 39 .add 33 38),(mV 8 39)])
 (.draw [((mV 40 9),0),((mV 41 11),0),((oP 42 (.lenS (.t 41))),0),((oP 43 (.callF 61 [(.t 42),(.c (.int .i64 1))])),0),((oI 44 .add 40 43),0),((mV 45 11),0),((oI 46 .add 44 45),0),((mV 47 0),0),((mV 48 10),0),((oS 49 22 47 48),0),((oB 50 22 49),1),((mV 51 1),0),((oW 52 227 50 51),4),((oI 53 .add 46 52),0),((mV 9 53),0)]))))
 (.ops [(mV 27 10),(oJ 28 .add 27 1),(mV 10 28)]))))))
 (.cut (.seq (.ops [(mV 54 7),(mV 55 8),(oI 56 .add 54 55),(mV 57 9),(oI 58 .add 56 57),(mV 6 58)])
 .ret))))))))
theorem F201:FI 201 3 59 6 [.tmp 6] c201:=mkF Tryz.f201 Tryz.func201
def c202:RC :=
 (.seq (.ops [(oP 2 (.mv (.c (.str []))))])
 (.seq (.ops [(mV 5 0),(oP 6 (.lenS (.t 5))),(oP 7 (.mkSl 5 1 [(.int .u8 0)] (.t 6) (.t 6))),(mV 3 7)])
 (.seq (.seq (.ops [(oH 4 0)])
 (.block 0
 (.loop
 (.seq (.seq (.ops [(mV 8 4),(mV 9 0),(oP 10 (.lenS (.t 9))),(oI 11 .lss 8 10)])
 (.cond (.t 11)
 .skip
 (.exit 0)))
 (.seq (.block 1
 (.ops [(mV 14 3),(mV 15 0),(oP 16 (.lenS (.t 15))),(oJ 17 .sub 16 1),(mV 18 4),(oI 19 .sub 17 18),(mV 20 0),(mV 21 4),(oP 22 (.indexS (.t 20) (.t 21))),(oS 23 1 14 19),(oT 1 23 22)]))
 (.ops [(mV 12 4),(oJ 13 .add 12 1),(mV 4 13)]))))))
 (.cut (.seq (.ops [(mV 24 3),(oP 25 (.bytesStr (.t 24))),(mV 2 25)])
 .ret)))))
theorem F202:FI 202 1 26 5 [.tmp 2] c202:=mkF Tryz.f202 Tryz.func202
def c63:RC :=
 (.seq (.ops [(oP 2 (.mv (.c (.int .u32 0))))])
 (.seq (.ops [(mV 3 0),(oP 4 (.callF 136 [(.c (.int .u32 0)),(.t 3)])),(mV 2 4)])
 .ret))
theorem F63:FI 63 1 5 3 [.tmp 2] c63:=mkF Tryz.f63 Tryz.func63
def c209:RC :=
 (.seq (.ops [(oH 4 0)])
 (.seq (.ops [(mV 5 0),(mV 6 1),(oW 7 210 5 6),(oV 8 232 7),(mV 4 8)])
 .ret))
theorem F209:FI 209 2 9 4 [.tmp 4] c209:=mkF Tryz.f209 Tryz.func209
def c210:RC :=
 (.seq (.ops [(oP 4 (.mv (.c (.str []))))])
 (.seq (.seq (.ops [(mV 6 1),(oJ 7 .lss 6 0),(mV 8 7),(oE 9 8 false 1),(oE 10 8 false 0),(oG 11 8 false (.nilCheck (.t 10))),(oF 12 8 false 0 11),(oD 13 8 false 12),(oG 14 8 false (.lenS (.t 13))),(oG 15 8 false (.bin .gtr (.t 9) (.t 14))),(oM 16 8 15),(mV 17 16),(oE 18 17 false 0),(oG 19 17 false (.nilCheck (.t 18))),(oF 20 17 false 1 19),(oD 21 17 false 20),(oM 22 17 21)])
 (.cond (.t 22)
 (.seq (.ops [(mV 23 0),(oR 24 23),(oC 25 1 24),(oU (.store 1 (.t 25) (.c (.bool true))))])
 (.seq (.ops [(oP 4 (.mv (.c (.str []))))])
 .ret))
 .skip))
 (.seq (.ops [(mV 26 0),(oR 27 26),(oC 28 0 27),(oA 29 28),(mV 30 1),(oP 31 (.sliceS (.t 29) none (some (.t 30)))),(mV 5 31)])
 (.seq (.ops [(mV 32 0),(mV 33 0),(oR 34 33),(oC 35 0 34),(oA 36 35),(mV 37 1),(oP 38 (.sliceS (.t 36) (some (.t 37)) none)),(oR 39 32),(oC 40 0 39),(oT 1 40 38)])
 (.seq (.ops [(mV 41 5),(mV 4 41)])
 .ret)))))
theorem F210:FI 210 2 42 6 [.tmp 4] c210:=mkF Tryz.f210 Tryz.func210
def c211:RC :=
 (.seq (.ops [(oP 8 (.alloc 147 [(.str []),(.str []),(.int .i64 0),(.int .i64 0),(.int .i64 0),(.int .i64 0),(.int .u8 0),(.int .u8 0),(.int .u8 0),(.int .u8 0),(.int .u8 0),(.int .u8 0),(.int .u8 0),(.int .u8 0),(.int .u8 0),(.int .u8 0),(.int .u8 0),(.int .u8 0),(.int .u8 0),(.int .u8 0),(.int .u8 0),(.int .u8 0)]))])
 (.seq (.ops [(oP 9 (.alloc 147 [(.str []),(.str []),(.int .i64 0),(.int .i64 0),(.int .i64 0),(.int .i64 0),(.int .u8 0),(.int .u8 0),(.int .u8 0),(.int .u8 0),(.int .u8 0),(.int .u8 0),(.int .u8 0),(.int .u8 0),(.int .u8 0),(.int .u8 0),(.int .u8 0),(.int .u8 0),(.int .u8 0),(.int .u8 0),(.int .u8 0),(.int .u8 0)]))])
 (.seq (.ops [(mV 11 0),(mV 12 0),(oP 13 (.callF 209 [(.t 12),(.c (.int .i64 1))])),(oW 14 210 11 13),(oC 15 0 9),(oT 1 15 14)])
 (.seq (.seq (.ops [(mV 16 2),(oJ 17 .eql 16 0),(mV 18 17),(oE 19 18 false 3),(oG 20 18 false (.un .not (.t 19))),(oM 21 18 20)])
 (.cond (.t 21)
 (.ops [(mV 22 1),(oC 23 0 9),(oA 24 23),(oI 25 .add 22 24),(oC 26 0 9),(oT 1 26 25)])
 .skip))
 (.seq (.seq (.ops [(mV 27 2),(oJ 28 .gtr 27 0)])
 (.cond (.t 28)
 (.seq (.ops [(mV 29 0),(oP 30 (.callF 209 [(.t 29),(.c (.int .i64 4))])),(oC 31 4 9),(oT 1 31 30)])
 (.seq (.ops [(mV 32 0),(oP 33 (.callF 209 [(.t 32),(.c (.int .i64 4))])),(oC 34 5 9),(oT 1 34 33)])
 (.seq (.ops [(mV 35 0),(oV 36 233 35),(oC 37 6 9),(oT 16 37 36)])
 (.seq (.ops [(oB 38 22 9),(oT 22 8 38)])
 .ret))))
 .skip))
 (.seq (.ops [(mV 39 0),(oP 40 (.callF 209 [(.t 39),(.c (.int .i64 2))])),(mV 10 40)])
 (.seq (.seq (.ops [(mV 41 10)])
 (.block 0
 (.seq (.ops [(oJ 47 .eql 41 65534),(mV 46 47)])
 (.cond (.t 46)
 (.seq (.ops [(mV 48 0),(oP 49 (.callF 209 [(.t 48),(.c (.int .i64 4))])),(oC 50 4 9),(oT 1 50 49)])
 (.seq (.ops [(mV 51 0),(oP 52 (.callF 209 [(.t 51),(.c (.int .i64 4))])),(oC 53 5 9),(oT 1 53 52)])
 (.ops [(mV 54 0),(oV 55 233 54),(oC 56 6 9),(oT 16 56 55)])))
 (.seq (.ops [(oJ 58 .eql 41 65535),(mV 57 58)])
 (.cond (.t 57)
 (.seq (.ops [(mV 59 0),(oP 60 (.callF 209 [(.t 59),(.c (.int .i64 4))])),(oC 61 2 9),(oT 1 61 60)])
 (.seq (.ops [(mV 62 0),(oP 63 (.callF 209 [(.t 62),(.c (.int .i64 2))])),(oC 64 3 9),(oT 1 64 63)])
 (.ops [(mV 65 0),(oV 66 233 65),(oC 67 6 9),(oT 16 67 66)])))
 (.ops [(mV 42 0),(mV 43 10),(oW 44 210 42 43),(oC 45 1 9),(oT 1 45 44)])))))))
 (.seq (.ops [(oB 68 22 9),(oT 22 8 68)])
 .ret))))))))
theorem F211:FI 211 4 69 7 [.cell 8 147] c211:=mkF Tryz.f211 Tryz.func211
def c225:RC :=
 (.seq (.ops [(oP 1 (.box 147 (.t 0))),(oP 2 (.mv (.c (.bool false))))])
 (.seq (.seq (.ops [(oC 3 0 1),(oA 4 3),(oP 5 (.lenS (.t 4))),(oJ 6 .lss 5 1),(mV 7 6),(oF 8 7 false 0 1),(oD 9 7 false 8),(oG 10 7 false (.lenS (.t 9))),(oG 11 7 false (.bin .gtr (.t 10) (.c (.int .i64 48)))),(oM 12 7 11)])
 (.cond (.t 12)
 (.seq (.ops [(oP 2 (.mv (.c (.bool false))))])
 .ret)
 .skip))
 (.seq (.seq (.ops [(oC 13 4 1),(oA 14 13),(oJ 15 .neq 14 0)])
 (.cond (.t 15)
 (.seq (.ops [(oC 16 4 1),(oA 17 16),(oV 18 147 17),(mV 19 18),(oF 20 19 true 5 1),(oD 21 19 true 20),(oG 22 19 true (.callF 247 [(.t 21)])),(oN 23 19 22),(mV 24 23),(oF 25 24 true 1 1),(oD 26 24 true 25),(oG 27 24 true (.bin .eql (.t 26) (.c (.str [])))),(oN 28 24 27),(mV 29 28),(oF 30 29 true 2 1),(oD 31 29 true 30),(oG 32 29 true (.bin .eql (.t 31) (.c (.int .i64 0)))),(oN 33 29 32),(mV 34 33),(oF 35 34 true 3 1),(oD 36 34 true 35),(oG 37 34 true (.bin .eql (.t 36) (.c (.int .i64 0)))),(oN 38 34 37),(mV 2 38)])
 .ret)
 .skip))
 (.seq (.seq (.ops [(oC 39 2 1),(oA 40 39),(oJ 41 .neq 40 0)])
 (.cond (.t 41)
 (.seq (.ops [(oC 42 2 1),(oA 43 42),(oV 44 147 43),(mV 45 44),(oF 46 45 true 3 1),(oD 47 45 true 46),(oG 48 45 true (.bin .gtr (.t 47) (.c (.int .i64 64)))),(oN 49 45 48),(mV 50 49),(oF 51 50 true 3 1),(oD 52 50 true 51),(oG 53 50 true (.bin .leq (.t 52) (.c (.int .i64 4000)))),(oN 54 50 53),(mV 55 54),(oF 56 55 true 1 1),(oD 57 55 true 56),(oG 58 55 true (.bin .eql (.t 57) (.c (.str [])))),(oN 59 55 58),(mV 60 59),(oF 61 60 true 5 1),(oD 62 60 true 61),(oG 63 60 true (.bin .eql (.t 62) (.c (.int .i64 0)))),(oN 64 60 63),(mV 2 64)])
 .ret)
 .skip))
 (.seq (.ops [(oC 65 1 1),(oA 66 65),(oP 67 (.lenS (.t 66))),(oJ 68 .leq 67 64),(mV 69 68),(oF 70 69 true 3 1),(oD 71 69 true 70),(oG 72 69 true (.bin .eql (.t 71) (.c (.int .i64 0)))),(oN 73 69 72),(mV 74 73),(oF 75 74 true 5 1),(oD 76 74 true 75),(oG 77 74 true (.bin .eql (.t 76) (.c (.int .i64 0)))),(oN 78 74 77),(mV 79 78),(oF 80 79 true 6 1),(oG 81 79 true (.load true 16 (.t 80))),(oG 82 79 true (.build [(.int .u8 0),(.int .u8 0),(.int .u8 0),(.int .u8 0),(.int .u8 0),(.int .u8 0),(.int .u8 0),(.int .u8 0),(.int .u8 0),(.int .u8 0),(.int .u8 0),(.int .u8 0),(.int .u8 0),(.int .u8 0),(.int .u8 0),(.int .u8 0)] [])),(oG 83 79 true (.cmp false 23 (.t 81) (.t 82))),(oN 84 79 83),(mV 2 84)])
 .ret)))))
theorem F225:FI 225 1 85 7 [.tmp 2] c225:=mkF Tryz.f225 Tryz.func225
def c226:RC :=
 (.seq (.ops [(oP 1 (.box 147 (.t 0))),(oP 2 (.mv (.c (.bool false))))])
 (.seq (.ops [(oC 3 4 1),(oA 4 3),(oV 5 147 4),(mV 6 5),(oF 7 6 true 5 1),(oD 8 6 true 7),(oG 9 6 true (.callF 247 [(.t 8)])),(oN 10 6 9),(mV 11 10),(oF 12 11 true 1 1),(oD 13 11 true 12),(oG 14 11 true (.bin .eql (.t 13) (.c (.str [])))),(oN 15 11 14),(mV 16 15),(oF 17 16 true 2 1),(oD 18 16 true 17),(oG 19 16 true (.bin .eql (.t 18) (.c (.int .i64 0)))),(oN 20 16 19),(mV 21 20),(oF 22 21 true 3 1),(oD 23 21 true 22),(oG 24 21 true (.bin .eql (.t 23) (.c (.int .i64 0)))),(oN 25 21 24),(mV 2 25)])
 .ret))
theorem F226:FI 226 1 26 5 [.tmp 2] c226:=mkF Tryz.f226 Tryz.func226
def c227:RC :=
 (.seq (.ops [(oP 2 (.box 147 (.t 0))),(oP 4 (.mv (.c (.str []))))])
 (.seq (.seq (.ops [(mV 5 1),(oJ 6 .gtr 5 0)])
 (.cond (.t 6)
 (.seq (.draw [((oC 7 4 2),0),((oA 8 7),1),((oP 9 (.callF 61 [(.t 8),(.c (.int .i64 4))])),0),((oC 10 5 2),0),((oA 11 10),1),((oP 12 (.callF 61 [(.t 11),(.c (.int .i64 4))])),0),((oI 13 .add 9 12),0),((oC 14 6 2),0),((oB 15 16 14),1),((oV 16 248 15),4),((oI 17 .add 13 16),0),((mV 4 17),0)])
 .ret)
 .skip))
 (.seq (.seq (.ops [(oC 18 4 2),(oA 19 18),(oJ 20 .neq 19 0)])
 (.cond (.t 20)
 (.seq (.draw [((oP 21 (.callF 61 [(.c (.int .i64 65534)),(.c (.int .i64 2))])),0),((oC 22 4 2),0),((oA 23 22),1),((oP 24 (.callF 61 [(.t 23),(.c (.int .i64 4))])),0),((oI 25 .add 21 24),0),((oC 26 5 2),0),((oA 27 26),1),((oP 28 (.callF 61 [(.t 27),(.c (.int .i64 4))])),0),((oI 29 .add 25 28),0),((oC 30 6 2),0),((oB 31 16 30),1),((oV 32 248 31),4),((oI 33 .add 29 32),0),((mV 4 33),0)])
 .ret)
 .skip))
 (.seq (.seq (.ops [(oC 34 2 2),(oA 35 34),(oJ 36 .neq 35 0)])
 (.cond (.t 36)
 (.seq (.draw [((oP 37 (.callF 61 [(.c (.int .i64 65535)),(.c (.int .i64 2))])),0),((oC 38 2 2),0),((oA 39 38),1),((oP 40 (.callF 61 [(.t 39),(.c (.int .i64 4))])),0),((oI 41 .add 37 40),0),((oC 42 3 2),0),((oA 43 42),1),((oP 44 (.callF 61 [(.t 43),(.c (.int .i64 2))])),0),((oI 45 .add 41 44),0),((oC 46 6 2),0),((oB 47 16 46),1),((oV 48 248 47),4),((oI 49 .add 45 48),0),((mV 4 49),0)])
 .ret)
 .skip))
 (.seq (.draw [((oC 50 1 2),0),((oA 51 50),1),((oP 52 (.lenS (.t 51))),0),((oP 53 (.callF 61 [(.t 52),(.c (.int .i64 2))])),0),((oC 54 1 2),0),((oA 55 54),1),((oI 56 .add 53 55),0),((mV 4 56),0)])
 .ret)))))
theorem F227:FI 227 2 57 6 [.tmp 4] c227:=mkF Tryz.f227 Tryz.func227
def c228:RC :=
 (.seq (.ops [(oP 6 (.mv (.c (.str []))))])
 (.seq (.seq (.ops [(mV 7 1),(oJ 8 .gtr 7 0),(mV 9 8),(oE 10 9 true 2),(oG 11 9 true (.bin .eql (.t 10) (.c (.int .i64 0)))),(oN 12 9 11)])
 (.cond (.t 12)
 (.seq (.ops [(oP 6 (.mv (.c (.str []))))])
 .ret)
 .skip))
 (.seq (.draw [((mV 13 0),0),((mV 14 2),0),((oS 15 22 13 14),0),((oC 16 0 15),0),((oA 17 16),1),((mV 18 0),0),((mV 19 1),0),((oW 20 200 18 19),4),((oP 21 (.lenS (.t 20))),0),((oP 22 (.sliceS (.t 17) (some (.t 21)) none)),1),((mV 6 22),0)])
 .ret)))
theorem F228:FI 228 3 23 5 [.tmp 6] c228:=mkF Tryz.f228 Tryz.func228
def c136:RC :=
 (.seq (.ops [(oP 4 (.mv (.c (.int .u32 0))))])
 (.seq (.ops [(mV 8 0),(oP 9 (.un .xor (.t 8))),(mV 5 9)])
 (.seq (.seq (.ops [(oH 6 0)])
 (.block 0
 (.loop
 (.seq (.seq (.ops [(mV 10 6),(mV 11 1),(oP 12 (.lenS (.t 11))),(oI 13 .lss 10 12)])
 (.cond (.t 13)
 .skip
 (.exit 0)))
 (.seq (.block 1
 (.seq (.ops [(mV 16 5),(mV 17 1),(mV 18 6),(oP 19 (.indexS (.t 17) (.t 18))),(oP 20 (.toInt .u32 (.t 19))),(oI 21 .xor 16 20),(mV 5 21)])
 (.seq (.ops [(oH 7 0)])
 (.block 2
 (.loop
 (.seq (.seq (.ops [(mV 22 7),(oJ 23 .lss 22 8)])
 (.cond (.t 23)
 .skip
 (.exit 2)))
 (.seq (.block 3
 (.ops [(mV 26 5),(oV 27 189 26),(mV 5 27)]))
 (.ops [(mV 24 7),(oJ 25 .add 24 1),(mV 7 25)]))))))))
 (.cut (.ops [(mV 14 6),(oJ 15 .add 14 1),(mV 6 15)])))))))
 (.cut (.seq (.ops [(mV 28 5),(oP 29 (.un .xor (.t 28))),(mV 4 29)])
 .ret)))))
theorem F136:FI 136 2 30 5 [.tmp 4] c136:=mkF Tryz.f136 Tryz.func136
def c233:RC :=
 (.seq (.ops [(oP 2 (.alloc 23 [(.int .u8 0),(.int .u8 0),(.int .u8 0),(.int .u8 0),(.int .u8 0),(.int .u8 0),(.int .u8 0),(.int .u8 0),(.int .u8 0),(.int .u8 0),(.int .u8 0),(.int .u8 0),(.int .u8 0),(.int .u8 0),(.int .u8 0),(.int .u8 0)]))])
 (.seq (.ops [(oP 3 (.alloc 23 [(.int .u8 0),(.int .u8 0),(.int .u8 0),(.int .u8 0),(.int .u8 0),(.int .u8 0),(.int .u8 0),(.int .u8 0),(.int .u8 0),(.int .u8 0),(.int .u8 0),(.int .u8 0),(.int .u8 0),(.int .u8 0),(.int .u8 0),(.int .u8 0)]))])
 (.seq (.ops [(mV 6 0),(oP 7 (.callF 210 [(.t 6),(.c (.int .i64 16))])),(mV 4 7)])
 (.seq (.seq (.ops [(oH 5 0)])
 (.block 0
 (.loop
 (.seq (.seq (.ops [(mV 8 5),(mV 9 4),(oP 10 (.lenS (.t 9))),(oI 11 .lss 8 10)])
 (.cond (.t 11)
 .skip
 (.exit 0)))
 (.seq (.block 1
 (.ops [(mV 14 5),(mV 15 4),(mV 16 5),(oP 17 (.indexS (.t 15) (.t 16))),(oP 18 (.indexAddrA 16 1 (.t 3) (.t 14))),(oT 1 18 17)]))
 (.ops [(mV 12 5),(oJ 13 .add 12 1),(mV 5 13)]))))))
 (.cut (.seq (.ops [(oB 19 16 3),(oT 16 2 19)])
 .ret))))))
theorem F233:FI 233 1 20 5 [.cell 2 23] c233:=mkF Tryz.f233 Tryz.func233
def c247:RC :=
 (.seq (.ops [(oP 2 (.mv (.c (.bool false))))])
 (.seq (.ops [(mV 3 0),(oJ 4 .geq 3 1),(mV 5 4),(oE 6 5 true 0),(oG 7 5 true (.bin .leq (.t 6) (.c (.int .i64 2147483647)))),(oN 8 5 7),(mV 2 8)])
 .ret))
theorem F247:FI 247 1 9 4 [.tmp 2] c247:=mkF Tryz.f247 Tryz.func247
def c248:RC :=
 (.seq (.ops [(oP 1 (.box 23 (.t 0))),(oP 2 (.mv (.c (.str []))))])
 (.seq (.ops [(oP 3 (.sliceP 16 1 (.t 1) none none none)),(oP 4 (.bytesStr (.t 3))),(mV 2 4)])
 .ret))
theorem F248:FI 248 1 5 3 [.tmp 2] c248:=mkF Tryz.f248 Tryz.func248
def c189:RC :=
 (.seq (.ops [(oP 2 (.mv (.c (.int .u32 0))))])
 (.seq (.seq (.ops [(mV 3 0),(oP 4 (.bin .rem (.t 3) (.c (.int .u32 2)))),(oP 5 (.bin .eql (.t 4) (.c (.int .u32 1))))])
 (.cond (.t 5)
 (.seq (.ops [(mV 6 0),(oP 7 (.bin .shr (.t 6) (.c (.int .u64 1)))),(oP 8 (.bin .xor (.t 7) (.c (.int .u32 3988292384)))),(mV 2 8)])
 .ret)
 .skip))
 (.seq (.ops [(mV 9 0),(oP 10 (.bin .shr (.t 9) (.c (.int .u64 1)))),(mV 2 10)])
 .ret)))
theorem F189:FI 189 1 11 4 [.tmp 2] c189:=mkF Tryz.f189 Tryz.func189
def c249:RC :=
 (.seq (.ops [(oP 4 (.mv (.c (.str []))))])
 (.seq (.seq (.draw [((mV 6 1),0),((mV 7 0),0),((oR 8 7),0),((oC 9 0 8),0),((oC 10 0 9),0),((oA 11 10),1),((oP 12 (.lenS (.t 11))),0),((mV 13 0),0),((oR 14 13),0),((oC 15 0 14),0),((oC 16 1 15),0),((oA 17 16),1),((oI 18 .sub 12 17),0),((oI 19 .gtr 6 18),0)])
 (.cond (.t 19)
 (.ops [(oP 20 (.build [] [])),(oP 21 (.mkIfc 314 (.t 20))),
 ⟨none,none,.pan (.t 21)⟩])
 .skip))
 (.seq (.draw [((mV 22 0),0),((oR 23 22),0),((oC 24 0 23),0),((oC 25 0 24),0),((oA 26 25),1),((mV 27 0),0),((oR 28 27),0),((oC 29 0 28),0),((oC 30 1 29),0),((oA 31 30),1),((mV 32 0),0),((oR 33 32),0),((oC 34 0 33),0),((oC 35 1 34),0),((oA 36 35),1),((mV 37 1),0),((oI 38 .add 36 37),0),((oP 39 (.sliceS (.t 26) (some (.t 31)) (some (.t 38)))),1),((mV 5 39),0)])
 (.seq (.ops [(mV 40 0),(oR 41 40),(oC 42 0 41),(oC 43 1 42),(oA 44 43),(mV 45 1),(oI 46 .add 44 45),(oR 47 40),(oC 48 0 47),(oC 49 1 48),(oT 1 49 46)])
 (.seq (.ops [(mV 50 5),(mV 4 50)])
 .ret)))))
theorem F249:FI 249 2 51 6 [.tmp 4] c249:=mkF Tryz.f249 Tryz.func249
def c229:RC :=
 (.seq (.ops [(oH 4 0)])
 (.seq (.ops [(oH 5 0)])
 (.seq (.seq (.ops [(mV 8 0),(mV 9 1),(oW 10 249 8 9),(oP 11 (.strBytes (.t 10))),(oK 12 11),(oH 13 0)])
 (.block 0
 (.loop
 (.seq (.ops [(oI 14 .lss 13 12)])
 (.seq (.cond (.t 14)
 .skip
 (.exit 0))
 (.seq (.block 1
 (.seq (.ops [(oS 15 1 11 13),(oA 16 15),(mV 7 16)])
 (.ops [(mV 17 5),(oP 18 (.bin .shl (.t 17) (.c (.int .u64 8)))),(mV 19 7),(oP 20 (.toInt .i64 (.t 19))),(oI 21 .or 18 20),(mV 5 21)])))
 (.ops [(oJ 22 .add 13 1),(mV 13 22)])))))))
 (.cut (.seq (.ops [(mV 23 5),(mV 4 23)])
 .ret)))))
theorem F229:FI 229 2 24 5 [.tmp 4] c229:=mkF Tryz.f229 Tryz.func229
def c259:RC :=
 (.seq (.ops [(oP 2 (.alloc 23 [(.int .u8 0),(.int .u8 0),(.int .u8 0),(.int .u8 0),(.int .u8 0),(.int .u8 0),(.int .u8 0),(.int .u8 0),(.int .u8 0),(.int .u8 0),(.int .u8 0),(.int .u8 0),(.int .u8 0),(.int .u8 0),(.int .u8 0),(.int .u8 0)]))])
 (.seq (.ops [(oP 3 (.alloc 23 [(.int .u8 0),(.int .u8 0),(.int .u8 0),(.int .u8 0),(.int .u8 0),(.int .u8 0),(.int .u8 0),(.int .u8 0),(.int .u8 0),(.int .u8 0),(.int .u8 0),(.int .u8 0),(.int .u8 0),(.int .u8 0),(.int .u8 0),(.int .u8 0)]))])
 (.seq (.draw [((oP 4 (.sliceP 16 1 (.t 3) none none none)),1),((mV 5 0),0),((oP 6 (.callF 249 [(.t 5),(.c (.int .i64 16))])),2),((oP 7 (.cpy 1 (.t 4) (.t 6))),2)])
 (.seq (.ops [(oB 8 16 3),(oT 16 2 8)])
 .ret))))
theorem F259:FI 259 1 9 4 [.cell 2 23] c259:=mkF Tryz.f259 Tryz.func259
def c256:RC :=
 (.seq (.ops [(oH 6 65534)])
 (.seq (.seq (.ops [(mV 7 2),(oJ 8 .eql 7 0)])
 (.cond (.t 8)
 (.ops [(mV 9 0),(oP 10 (.callF 229 [(.t 9),(.c (.int .i64 2))])),(mV 6 10)])
 .skip))
 (.cut (.seq (.ops [(mV 11 6)])
 (.block 0
 (.seq (.ops [(oJ 19 .eql 11 65535),(mV 18 19)])
 (.cond (.t 18)
 (.seq (.ops [(mV 20 1),(mV 21 1),(mV 22 0),(oP 23 (.callF 229 [(.t 22),(.c (.int .i64 4))])),(mV 24 0),(oP 25 (.callF 229 [(.t 24),(.c (.int .i64 2))])),(oR 26 20),(oC 27 2 26),(oT 1 27 23),(oR 28 21),(oC 29 3 28),(oT 1 29 25)])
 (.ops [(mV 30 1),(mV 31 0),(oV 32 259 31),(oR 33 30),(oC 34 6 33),(oT 16 34 32)]))
 (.seq (.ops [(oJ 36 .eql 11 65534),(mV 35 36)])
 (.cond (.t 35)
 (.seq (.ops [(mV 37 1),(mV 38 1),(mV 39 0),(oP 40 (.callF 229 [(.t 39),(.c (.int .i64 4))])),(mV 41 0),(oP 42 (.callF 229 [(.t 41),(.c (.int .i64 4))])),(oR 43 37),(oC 44 4 43),(oT 1 44 40),(oR 45 38),(oC 46 5 45),(oT 1 46 42)])
 (.ops [(mV 47 1),(mV 48 0),(oV 49 259 48),(oR 50 47),(oC 51 6 50),(oT 16 51 49)]))
 (.ops [(mV 12 1),(mV 13 0),(mV 14 6),(oW 15 249 13 14),(oR 16 12),(oC 17 1 16),(oT 1 17 15)]))))))))))
theorem F256:FI 256 3 52 6 [] c256:=mkF Tryz.f256 Tryz.func256
def c250:RC :=
 (.seq (.ops [(oP 4 (.box 308 (.t 0))),(oP 5 (.box 3 (.t 1))),(oP 6 (.box 3 (.t 2))),(oP 7 (.box 9 (.t 3))),(oP 8 (.mv (.c .nilf)))])
 (.seq (.ops [(oP 9 (.mkFn (.func 255) [] [(.t 5),(.t 4),(.t 6),(.t 7)])),(mV 8 9)])
 .ret))
theorem F250:FI 250 4 10 4 [.tmp 8] c250:=mkF Tryz.f250 Tryz.func250
def c255:RC :=
 (.seq (.ops [(oA 9 1),(oH 10 0)])
 (.block 0
 (.loop
 (.seq (.ops [(oI 11 .lss 10 9)])
 (.seq (.cond (.t 11)
 .skip
 (.exit 0))
 (.seq (.block 1
 (.seq (.ops [(mV 12 10),(mV 6 12)])
 (.seq (.ops [(oP 7 (.alloc 147 [(.str []),(.str []),(.int .i64 0),(.int .i64 0),(.int .i64 0),(.int .i64 0),(.int .u8 0),(.int .u8 0),(.int .u8 0),(.int .u8 0),(.int .u8 0),(.int .u8 0),(.int .u8 0),(.int .u8 0),(.int .u8 0),(.int .u8 0),(.int .u8 0),(.int .u8 0),(.int .u8 0),(.int .u8 0),(.int .u8 0),(.int .u8 0)]))])
 (.seq (.draw [((oA 13 2),1),((oA 14 2),1),((oP 15 (.callF 229 [(.t 14),(.c (.int .i64 1))])),2),((oW 16 249 13 15),2),((mV 8 16),0)])
 (.seq (.seq (.ops [(mV 17 6),(oJ 18 .gtr 17 0),(mV 19 18),(oD 20 19 false 3),(oG 21 19 false (.bin .eql (.t 20) (.c (.int .i64 0)))),(oM 22 19 21)])
 (.cond (.t 22)
 (.ops [(oA 23 4),(oC 24 0 7),(oT 1 24 23)])
 .skip))
 (.cut (.seq (.ops [(oC 25 0 7),(oA 26 25),(mV 27 8),(oI 28 .add 26 27),(oC 29 0 7),(oT 1 29 28)])
 (.seq (.ops [(oA 30 2),(oA 31 3),(oP 32 (.callF 256 [(.t 30),(.t 7),(.t 31)]))])
 (.seq (.ops [(mV 33 0),(oB 34 22 7),(oP 35 (.callV (.t 33) [(.t 34)])),(oP 36 (.un .not (.t 35)))])
 (.cond (.t 36)
 .ret
 .skip))))))))))
 (.cut (.ops [(oJ 37 .add 10 1),(mV 10 37)]))))))))
theorem F255:FI 255 5 38 6 [] c255:=mkF Tryz.f255 Tryz.func255
def c214:RC :=
 (.seq (.ops [(mV 2 0),(oR 3 2),(oC 4 0 3),(oA 5 4),(oP 6 (.isNil false (.t 5)))])
 (.cond (.t 6)
 (.ops [(mV 7 0),(mV 8 0),(oP 9 (.toU (.t 8))),(mV 10 9),(oP 11 (.frU 246 (.t 10))),(oR 12 7),(oC 13 0 12),(oT 1 13 11)])
 (.seq (.ops [(mV 14 0),(oR 15 14),(oC 16 0 15),(oA 17 16),(mV 18 0),(oP 19 (.cmp true 244 (.t 17) (.t 18)))])
 (.cond (.t 19)
 (.raw (.refuse "(*strings.Builder).copyCheck builder.go:41: unsupported: a written strings.Builder's value in another place: whether the library's copy check passes hangs on where the compiler lays the two"))
 .skip))))
theorem F214:FI 214 1 20 5 [] c214:=mkF Tryz.f214 Tryz.func214
def c173:RC :=
 (.seq (.ops [(oP 4 (.mv (.c .nili)))])
 (.seq (.ops [(mV 5 0),(oV 6 214 5)])
 (.seq (.ops [(mV 7 0),(mV 8 0),(oR 9 8),(oC 10 1 9),(oA 11 10),(mV 12 1),(oP 13 (.mkLst 1 false 1 [(.int .u8 0)] [(0,1,(.t 12))])),(oP 14 (.app 5 1 (.t 11) (.t 13))),(oR 15 7),(oC 16 1 15),(oT 1 16 14)])
 (.seq (.ops [(oP 4 (.mv (.c .nili)))])
 .ret))))
theorem F173:FI 173 2 17 5 [.tmp 4] c173:=mkF Tryz.f173 Tryz.func173
def c176:RC :=
 (.seq (.ops [(oH 4 0),(oP 5 (.mv (.c .nili)))])
 (.seq (.ops [(mV 6 0),(oV 7 214 6)])
 (.seq (.ops [(mV 8 0),(mV 9 0),(oR 10 9),(oC 11 1 10),(oA 12 11),(mV 13 1),(oP 14 (.app 5 1 (.t 12) (.t 13))),(oR 15 8),(oC 16 1 15),(oT 1 16 14)])
 (.seq (.ops [(mV 17 1),(oP 18 (.lenS (.t 17))),(mV 4 18),(oP 5 (.mv (.c .nili)))])
 .ret))))
theorem F176:FI 176 2 19 5 [.tmp 4,.tmp 5] c176:=mkF Tryz.f176 Tryz.func176
def c178:RC :=
 (.seq (.ops [(oH 2 0)])
 (.seq (.ops [(mV 3 0),(oR 4 3),(oC 5 1 4),(oA 6 5),(oK 7 6),(mV 2 7)])
 .ret))
theorem F178:FI 178 1 8 4 [.tmp 2] c178:=mkF Tryz.f178 Tryz.func178
def c180:RC :=
 (.seq (.ops [(oP 2 (.mv (.c (.str []))))])
 (.seq (.draw [((mV 3 0),0),((oR 4 3),0),((oC 5 1 4),0),((oA 6 5),1),((oP 7 (.uData (.t 6))),0),((mV 8 0),0),((oR 9 8),0),((oC 10 1 9),0),((oA 11 10),1),((oK 12 11),0),((oP 13 (.uStr 5 (.t 7) (.t 12))),2),((mV 2 13),0)])
 .ret))
theorem F180:FI 180 1 14 4 [.tmp 2] c180:=mkF Tryz.f180 Tryz.func180
def c174:RC :=
 (.seq (.ops [(mV 7 2),(oJ 8 .sub 7 1),(mV 6 8)])
 (.block 0
 (.loop
 (.seq (.seq (.ops [(mV 9 6),(oJ 10 .geq 9 0)])
 (.cond (.t 10)
 .skip
 (.exit 0)))
 (.seq (.block 1
 (.draw [((mV 13 0),0),((oR 14 13),0),((oC 15 0 14),0),((mV 16 1),0),((mV 17 6),0),((oP 18 (.bin .mul (.c (.int .i64 8)) (.t 17))),0),((oI 19 .shr 16 18),0),((oP 20 (.toInt .u8 (.t 19))),0),((oW 21 173 15 20),2)]))
 (.ops [(mV 11 6),(oJ 12 .sub 11 1),(mV 6 12)]))))))
theorem F174:FI 174 3 22 5 [] c174:=mkF Tryz.f174 Tryz.func174
def c282:RC :=
 (.seq (.ops [(oP 3 (.box 23 (.t 1)))])
 (.draw [((mV 4 0),0),((oR 5 4),0),((oC 6 0 5),0),((oP 7 (.sliceP 16 1 (.t 3) none none none)),1),((oP 8 (.bytesStr (.t 7))),3),((oW 9 176 6 8),2)]))
theorem F282:FI 282 2 10 4 [] c282:=mkF Tryz.f282 Tryz.func282
end Go.Proofs
