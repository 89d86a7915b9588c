/- Texts put together: Rb5, Vc, Vd, Da5, Za, Tg, Dd, Zz, Zc, Zb, Zd, Ze, Zf. -/
import Derived.Test.YtalaebjjleddaaaGreatFrd7
import Derived.Test.YtalaebjjleddaaaGreatFrd11
import Derived.Test.YtalaebjjleddaaaGreatFrd10
import Derived.Test.YtalaebjjleddaaaGreatFrd6
set_option linter.unusedVariables false
set_option linter.unusedSimpArgs false
namespace Go.Proofs
open Go Go.Abs
def c60:RC :=
 (.seq (.ops [(oP 1 (.box 27 (.t 0))),(oP 2 (.mv (.c (.bool false))))])
 (.seq (.seq (.ops [(oC 3 0 1),(oA 4 3),(oJ 5 .lss 4 0),(mV 6 5),(oF 7 6 false 0 1),(oD 8 6 false 7),(oG 9 6 false (.bin .gtr (.t 8) (.c (.int .i64 1099511627776)))),(oM 10 6 9),(mV 11 10),(oF 12 11 false 20 1),(oD 13 11 false 12),(oG 14 11 false (.bin .lss (.t 13) (.c (.int .i64 2)))),(oM 15 11 14),(mV 16 15),(oF 17 16 false 20 1),(oD 18 16 false 17),(oG 19 16 false (.bin .gtr (.t 18) (.c (.int .i64 4096)))),(oM 20 16 19),(mV 21 20),(oF 22 21 false 19 1),(oD 23 21 false 22),(oG 24 21 false (.bin .neq (.t 23) (.c (.int .i64 0)))),(oE 25 21 false 24),(oF 26 25 true 19 1),(oD 27 25 true 26),(oF 28 25 true 20 1),(oD 29 25 true 28),(oG 30 25 true (.callF 101 [(.t 27),(.t 29)])),(oG 31 25 true (.un .not (.t 30))),(oG 32 21 false (.pick (.t 25) (.t 31) (.c (.bool false)))),(oM 33 21 32)])
 (.cond (.t 33)
 (.seq (.ops [(oP 2 (.mv (.c (.bool false))))])
 .ret)
 .skip))
 (.seq (.seq (.ops [(oC 34 1 1),(oB 35 18 34),(oP 36 (.build [(.int .i64 0),(.int .i64 0),(.int .u8 0),(.int .u8 0),(.int .u8 0),(.int .u8 0),(.int .u8 0),(.int .u8 0),(.int .u8 0),(.int .u8 0),(.int .u8 0),(.int .u8 0),(.int .u8 0),(.int .u8 0),(.int .u8 0),(.int .u8 0),(.int .u8 0),(.int .u8 0)] [])),(oP 37 (.cmp false 25 (.t 35) (.t 36)))])
 (.cond (.t 37)
 (.seq (.ops [(oP 2 (.mv (.c (.bool true))))])
 .ret)
 .skip))
 (.seq (.ops [(oC 38 1 1),(oC 39 0 38),(oA 40 39),(oC 41 20 1),(oA 42 41),(oW 43 101 40 42),(mV 44 43),(oF 45 44 true 1 1),(oF 46 44 true 1 45),(oD 47 44 true 46),(oG 48 44 true (.bin .geq (.t 47) (.c (.int .i64 1)))),(oN 49 44 48),(mV 50 49),(oF 51 50 true 1 1),(oF 52 50 true 1 51),(oD 53 50 true 52),(oG 54 50 true (.bin .leq (.t 53) (.c (.int .i64 2147483647)))),(oN 55 50 54),(mV 2 55)])
 .ret))))
theorem F60:FI 60 1 56 6 [.tmp 2] c60:=mkF Tryz.f60 Tryz.func60
def c101:RC :=
 (.seq (.ops [(oP 4 (.mv (.c (.bool false))))])
 (.seq (.ops [(mV 5 0),(oJ 6 .geq 5 2),(mV 7 6),(oE 8 7 true 0),(oE 9 7 true 1),(oG 10 7 true (.bin .lss (.t 8) (.t 9))),(oN 11 7 10),(mV 4 11)])
 .ret))
theorem F101:FI 101 2 12 4 [.tmp 4] c101:=mkF Tryz.f101 Tryz.func101
def c62:RC :=
 (.seq (.ops [(oP 2 (.mv (.c (.str []))))])
 (.seq (.ops [(mV 3 0),(oP 4 (.mkSl 5 1 [(.int .u8 0)] (.t 3) (.t 3))),(oP 5 (.bytesStr (.t 4))),(mV 2 5)])
 .ret))
theorem F62:FI 62 1 6 3 [.tmp 2] c62:=mkF Tryz.f62 Tryz.func62
def c66:RC :=
 (.seq (.ops [(oH 2 0)])
 (.seq (.ops [(oH 3 0)])
 (.seq (.seq (.ops [(oH 4 0)])
 (.block 0
 (.loop
 (.seq (.seq (.ops [(mV 5 4),(mV 6 0),(oP 7 (.lenS (.t 6))),(oI 8 .lss 5 7)])
 (.cond (.t 8)
 .skip
 (.exit 0)))
 (.seq (.block 1
 (.ops [(mV 11 3),(oJ 12 .mul 11 256),(mV 13 0),(mV 14 4),(oP 15 (.indexS (.t 13) (.t 14))),(oP 16 (.toInt .i64 (.t 15))),(oI 17 .add 12 16),(mV 3 17)]))
 (.ops [(mV 9 4),(oJ 10 .add 9 1),(mV 4 10)]))))))
 (.cut (.seq (.ops [(mV 18 3),(mV 2 18)])
 .ret)))))
theorem F66:FI 66 1 19 5 [.tmp 2] c66:=mkF Tryz.f66 Tryz.func66
def c16:RC :=
 (.seq (.ops [(oP 1 (.box 27 (.t 0))),(oP 2 (.alloc 33 [(.str []),(.int .i64 0)]))])
 (.seq (.seq (.ops [(oB 6 21 1),(oV 7 60 6),(oP 8 (.un .not (.t 7)))])
 (.cond (.t 8)
 (.seq (.ops [(oP 9 (.build [(.str []),(.int .i64 0)] [(1,1,(.c (.int .i64 2)))])),(oT 2 2 9)])
 .ret)
 .skip))
 (.seq (.ops [(oP 3 (.mv (.c (.str []))))])
 (.seq (.seq (.ops [(oH 4 0)])
 (.block 0
 (.loop
 (.seq (.seq (.ops [(mV 10 4),(oJ 11 .lss 10 16)])
 (.cond (.t 11)
 .skip
 (.exit 0)))
 (.seq (.block 1
 (.ops [(mV 14 3),(mV 15 4),(oC 16 1 1),(oC 17 2 16),(oP 18 (.indexAddrA 16 1 (.t 17) (.t 15))),(oA 19 18),(oP 20 (.mkLst 1 false 1 [(.int .u8 0)] [(0,1,(.t 19))])),(oP 21 (.bytesStr (.t 20))),(oI 22 .add 14 21),(mV 3 22)]))
 (.ops [(mV 12 4),(oJ 13 .add 12 1),(mV 4 13)]))))))
 (.cut (.seq (.draw [((oC 23 0 1),0),((oA 24 23),1),((oP 25 (.callF 61 [(.t 24),(.c (.int .i64 6))])),0),((oP 26 (.bin .add (.c (.str [82])) (.t 25))),0),((oC 27 1 1),0),((oC 28 0 27),0),((oA 29 28),1),((oP 30 (.callF 61 [(.t 29),(.c (.int .i64 4))])),0),((oI 31 .add 26 30),0),((oC 32 1 1),0),((oC 33 1 32),0),((oA 34 33),1),((oP 35 (.callF 61 [(.t 34),(.c (.int .i64 4))])),0),((oI 36 .add 31 35),0),((mV 37 3),0),((oI 38 .add 36 37),0),((oC 39 19 1),0),((oA 40 39),1),((oP 41 (.callF 61 [(.t 40),(.c (.int .i64 4))])),0),((oI 42 .add 38 41),0),((oC 43 20 1),0),((oA 44 43),1),((oP 45 (.callF 61 [(.t 44),(.c (.int .i64 4))])),4),((oI 46 .add 42 45),0),((oP 47 (.callF 62 [(.c (.int .i64 20))])),4),((oI 48 .add 46 47),0),((mV 5 48),0)])
 (.seq (.ops [(mV 49 5),(mV 50 5),(oV 51 63 50),(oP 52 (.toInt .i64 (.t 51))),(oP 53 (.callF 61 [(.t 52),(.c (.int .i64 4))])),(oI 54 .add 49 53),(oP 55 (.bin .add (.t 54) (.c (.str [82])))),(oP 56 (.build [(.str []),(.int .i64 0)] [(0,1,(.t 55))])),(oT 2 2 56)])
 .ret)))))))
theorem F16:FI 16 1 57 6 [.cell 2 33] c16:=mkF Tryz.f16 Tryz.func16
def c18:RC :=
 (.seq (.ops [(oP 2 (.alloc 38 zRm))])
 (.seq (.seq (.ops [(mV 6 0),(oP 7 (.lenS (.t 6))),(oJ 8 .neq 7 64)])
 (.cond (.t 8)
 (.seq (.ops [(oP 9 (.build zRm [(21,1,(.c (.int .i64 8)))])),(oT 22 2 9)])
 .ret)
 .skip))
 (.seq (.draw [((mV 10 0),0),((oP 11 (.sliceS (.t 10) (some (.c (.int .i64 1))) (some (.c (.int .i64 7))))),1),((oV 12 66 11),0),((mV 13 0),0),((oP 14 (.sliceS (.t 13) (some (.c (.int .i64 7))) (some (.c (.int .i64 11))))),1),((oV 15 66 14),0),((mV 16 0),0),((oP 17 (.sliceS (.t 16) (some (.c (.int .i64 11))) (some (.c (.int .i64 15))))),1),((oV 18 66 17),0),((oP 19 (.build [(.int .i64 0),(.int .i64 0),(.int .u8 0),(.int .u8 0),(.int .u8 0),(.int .u8 0),(.int .u8 0),(.int .u8 0),(.int .u8 0),(.int .u8 0),(.int .u8 0),(.int .u8 0),(.int .u8 0),(.int .u8 0),(.int .u8 0),(.int .u8 0),(.int .u8 0),(.int .u8 0)] [(0,1,(.t 15)),(1,1,(.t 18))])),0),((mV 20 0),0),((oP 21 (.sliceS (.t 20) (some (.c (.int .i64 31))) (some (.c (.int .i64 35))))),1),((oV 22 66 21),0),((mV 23 0),0),((oP 24 (.sliceS (.t 23) (some (.c (.int .i64 35))) (some (.c (.int .i64 39))))),1),((oV 25 66 24),0),((oP 26 (.build zRl [(0,1,(.t 12)),(1,18,(.t 19)),(19,1,(.t 22)),(20,1,(.t 25))])),0),((oP 3 (.alloc 27 zRl)),2),((oT 21 3 26),3)])
 (.seq (.seq (.ops [(oH 4 0)])
 (.block 0
 (.loop
 (.seq (.seq (.ops [(mV 27 4),(oJ 28 .lss 27 16)])
 (.cond (.t 28)
 .skip
 (.exit 0)))
 (.seq (.block 1
 (.ops [(mV 31 4),(mV 32 0),(mV 33 4),(oP 34 (.bin .add (.c (.int .i64 15)) (.t 33))),(oP 35 (.indexS (.t 32) (.t 34))),(oC 36 1 3),(oC 37 2 36),(oP 38 (.indexAddrA 16 1 (.t 37) (.t 31))),(oT 1 38 35)]))
 (.ops [(mV 29 4),(oJ 30 .add 29 1),(mV 4 30)]))))))
 (.cut (.seq (.ops [(oB 39 21 3),(oV 40 16 39),(oP 5 (.alloc 33 [(.str []),(.int .i64 0)])),(oT 2 5 40)])
 (.seq (.seq (.ops [(oC 41 1 5),(oA 42 41),(oJ 43 .neq 42 0),(mV 44 43),(oF 45 44 false 0 5),(oD 46 44 false 45),(oE 47 44 false 0),(oG 48 44 false (.bin .neq (.t 46) (.t 47))),(oM 49 44 48)])
 (.cond (.t 49)
 (.seq (.ops [(oP 50 (.build zRm [(21,1,(.c (.int .i64 8)))])),(oT 22 2 50)])
 .ret)
 .skip))
 (.seq (.ops [(oB 51 21 3),(oP 52 (.build zRm [(0,21,(.t 51))])),(oT 22 2 52)])
 .ret))))))))
theorem F18:FI 18 1 53 6 [.cell 2 38] c18:=mkF Tryz.f18 Tryz.func18
def c3:RC :=
 (.seq (.ops [(oP 2 (.box 27 (.t 0))),(oP 4 (.mv (.c (.bool false))))])
 (.seq (.seq (.ops [(mV 11 1),(oP 12 (.lenS (.t 11))),(oJ 13 .gtr 12 200)])
 (.cond (.t 13)
 (.seq (.ops [(oP 14 (.callF 14 [])),(mV 4 14)])
 .ret)
 .skip))
 (.seq (.ops [(oB 16 21 2),(oV 17 15 16),(mV 15 17),(oQ 18 15 0),(oQ 19 15 1),(mV 5 18),(mV 6 19)])
 (.seq (.ops [(oB 20 21 2),(oV 21 16 20),(oP 7 (.alloc 33 [(.str []),(.int .i64 0)])),(oT 2 7 21)])
 (.seq (.ops [(mV 23 1),(oV 24 17 23),(mV 22 24),(oQ 25 22 0),(oQ 26 22 1),(oP 8 (.alloc 27 zRl)),(oT 21 8 25),(mV 9 26)])
 (.seq (.ops [(mV 27 1),(oV 28 18 27),(oP 10 (.alloc 38 zRm)),(oT 22 10 28)])
 (.seq (.draw [((oP 29 (.callF 14 [])),4),((mV 30 29),0),((oG 31 30 true (.load true 21 (.t 2))),1),((oG 32 30 true (.callF 19 [(.t 31)])),0),((oG 33 30 true (.load true 21 (.t 2))),1),((oG 34 30 true (.callF 20 [(.t 33)])),4),((oG 35 30 true (.bin .eql (.t 32) (.t 34))),0),((oN 36 30 35),0),((mV 37 36),0),((oE 38 37 true 5),0),((oF 39 37 true 0 7),0),((oD 40 37 true 39),1),((oG 41 37 true (.bin .eql (.t 38) (.t 40))),0),((oN 42 37 41),0),((mV 43 42),0),((oE 44 43 true 6),0),((oF 45 43 true 1 7),0),((oD 46 43 true 45),1),((oG 47 43 true (.bin .eql (.t 44) (.t 46))),0),((oN 48 43 47),0),((mV 49 48),0),((oG 50 49 true (.load true 21 (.t 8))),1),((oF 51 49 true 0 10),0),((oG 52 49 true (.load true 21 (.t 51))),1),((oG 53 49 true (.cmp false 27 (.t 50) (.t 52))),0),((oN 54 49 53),0),((mV 55 54),0),((oE 56 55 true 9),0),((oF 57 55 true 21 10),0),((oD 58 55 true 57),1),((oG 59 55 true (.bin .eql (.t 56) (.t 58))),0),((oN 60 55 59),0),((mV 4 60),0)])
 .ret)))))))
theorem F3:FI 3 2 61 6 [.tmp 4] c3:=mkF Tryz.f3 Tryz.func3
def c5:RC :=
 (.seq (.ops [(oP 4 (.box 27 (.t 0))),(oP 8 (.mv (.c (.bool false))))])
 (.seq (.seq (.ops [(mV 18 1),(oP 19 (.lenS (.t 18))),(oJ 20 .gtr 19 200)])
 (.cond (.t 20)
 (.seq (.ops [(oP 21 (.callF 14 [])),(mV 8 21)])
 .ret)
 .skip))
 (.seq (.ops [(mV 23 1),(oV 24 17 23),(mV 22 24),(oQ 25 22 0),(oQ 26 22 1),(oP 9 (.alloc 27 zRl)),(oT 21 9 25),(mV 10 26)])
 (.seq (.seq (.ops [(mV 27 10),(oJ 28 .eql 27 0)])
 (.cond (.t 28)
 (.seq (.ops [(oB 30 21 9),(oV 31 15 30),(mV 29 31),(oQ 32 29 0),(oQ 33 29 1),(mV 11 32),(mV 12 33)])
 (.seq (.ops [(mV 34 12),(oJ 35 .neq 34 0),(mV 36 35),(oE 37 36 false 11),(oE 38 36 false 1),(oG 39 36 false (.bin .neq (.t 37) (.t 38))),(oM 40 36 39)])
 (.cond (.t 40)
 (.seq (.ops [(oP 8 (.mv (.c (.bool false))))])
 .ret)
 .skip)))
 .skip))
 (.seq (.ops [(oB 42 21 4),(oV 43 15 42),(mV 41 43),(oQ 44 41 0),(oQ 45 41 1),(mV 13 44),(mV 10 45)])
 (.seq (.seq (.ops [(mV 46 10),(oJ 47 .neq 46 0)])
 (.cond (.t 47)
 (.seq (.ops [(oP 48 (.callF 14 [])),(mV 49 48),(oG 50 49 true (.load true 21 (.t 4))),(oG 51 49 true (.callF 19 [(.t 50)])),(oG 52 49 true (.bin .eql (.t 51) (.c (.int .i64 2)))),(oN 53 49 52),(mV 8 53)])
 .ret)
 .skip))
 (.seq (.ops [(mV 55 13),(oV 56 17 55),(mV 54 56),(oQ 57 54 0),(oQ 58 54 1),(oP 14 (.alloc 27 zRl)),(oT 21 14 57),(mV 15 58)])
 (.seq (.seq (.ops [(mV 59 15),(oJ 60 .neq 59 0),(mV 61 60),(oG 62 61 false (.load true 21 (.t 14))),(oG 63 61 false (.load true 21 (.t 4))),(oG 64 61 false (.cmp true 27 (.t 62) (.t 63))),(oM 65 61 64),(mV 66 65),(oE 67 66 false 13),(oG 68 66 false (.lenS (.t 67))),(oG 69 66 false (.bin .neq (.t 68) (.c (.int .i64 64)))),(oM 70 66 69)])
 (.cond (.t 70)
 (.seq (.ops [(oP 8 (.mv (.c (.bool false))))])
 .ret)
 .skip))
 (.seq (.ops [(mV 71 2),(oP 72 (.toInt .i64 (.t 71))),(mV 73 13),(oP 74 (.lenS (.t 73))),(oI 75 .rem 72 74),(mV 16 75)])
 (.seq (.ops [(mV 76 13),(oP 77 (.strBytes (.t 76))),(mV 17 77)])
 (.seq (.ops [(mV 78 17),(mV 79 16),(mV 80 3),(oS 81 1 78 79),(oT 1 81 80)])
 (.seq (.ops [(mV 83 17),(oP 84 (.bytesStr (.t 83))),(oV 85 17 84),(mV 82 85),(oQ 86 82 0),(oQ 87 82 1),(mV 15 87)])
 (.seq (.ops [(oP 88 (.callF 14 [])),(mV 89 88),(oE 90 89 true 13),(oE 91 89 true 16),(oG 92 89 true (.indexS (.t 90) (.t 91))),(oE 93 89 true 3),(oG 94 89 true (.bin .eql (.t 92) (.t 93))),(oE 95 89 true 94),(oE 96 95 false 15),(oG 97 95 false (.bin .eql (.t 96) (.c (.int .i64 8)))),(oG 98 89 true (.pick (.t 95) (.c (.bool true)) (.t 97))),(oN 99 89 98),(mV 8 99)])
 .ret)))))))))))))
theorem F5:FI 5 4 100 7 [.tmp 8] c5:=mkF Tryz.f5 Tryz.func5
structure Rt where
 ver:Int
 root:Int
 count:Int
 sum:Dg
 list:Int
 pages:Int
def Rt.cells (r:Rt):List AV:=[i64 r.ver,i64 r.root,i64 r.count,u8 r.sum.b0,u8 r.sum.b1,u8 r.sum.b2,u8 r.sum.b3,u8 r.sum.b4,u8 r.sum.b5,u8 r.sum.b6,u8 r.sum.b7,u8 r.sum.b8,u8 r.sum.b9,u8 r.sum.b10,u8 r.sum.b11,u8 r.sum.b12,u8 r.sum.b13,u8 r.sum.b14,u8 r.sum.b15,i64 r.list,i64 r.pages]
def Rt.av (r:Rt):AV:=.agg r.cells
abbrev zco:Nat:=27
abbrev zbl (r:Rt):AB:=.cells 0 (some zco) r.cells 0
def zet (p k:Int):Bool:=decide (2 ≤ k)&&decide (k<p)
def zgp (r:Rt):Bool:=decide (r.root=0 ∧ r.count=0 ∧ r.sum=Dg.zero)
def ze1 (r:Rt):Bool:=(decide (0 ≤ r.ver)&&(decide (r.ver ≤ 1099511627776)&&(decide (2 ≤ r.pages)&&decide (r.pages ≤ 4096))))&&((r.list==0||zet r.pages r.list)&&(zgp r||(zet r.pages r.root&&(decide (1 ≤ r.count)&&decide (r.count<2147483648)))))
theorem z0q (r:Rt):eqA Tryz.prog 20 25 (.agg [i64 r.root,i64 r.count,u8 r.sum.b0,u8 r.sum.b1,u8 r.sum.b2,u8 r.sum.b3,u8 r.sum.b4,u8 r.sum.b5,u8 r.sum.b6,u8 r.sum.b7,u8 r.sum.b8,u8 r.sum.b9,u8 r.sum.b10,u8 r.sum.b11,u8 r.sum.b12,u8 r.sum.b13,u8 r.sum.b14,u8 r.sum.b15]) (.agg (i64 0::i64 0::Dg.zero.cells))=some (zgp r):=by
 have e1:eqA Tryz.prog 20 25 (.agg [i64 r.root,i64 r.count,u8 r.sum.b0,u8 r.sum.b1,u8 r.sum.b2,u8 r.sum.b3,u8 r.sum.b4,u8 r.sum.b5,u8 r.sum.b6,u8 r.sum.b7,u8 r.sum.b8,u8 r.sum.b9,u8 r.sum.b10,u8 r.sum.b11,u8 r.sum.b12,u8 r.sum.b13,u8 r.sum.b14,u8 r.sum.b15]) (.agg (i64 0::i64 0::Dg.zero.cells))=zdo (eqA Tryz.prog 19) [(3,i64 r.root,i64 0),(3,i64 r.count,i64 0),(23,.agg r.sum.cells,.agg Dg.zero.cells)]:=by kernel_rfl
 have e2:∀ (a b:Int),eqA Tryz.prog 19 3 (i64 a) (i64 b)=some (a==b):=fun a b=>by kernel_rfl
 have e3:eqA Tryz.prog 19 23 (.agg r.sum.cells) (.agg Dg.zero.cells)=zdo (eqA Tryz.prog 18) (zipE 5 (r.sum.list.map u8) (Dg.zero.list.map u8)):=by kernel_rfl
 have e4:∀ (x y:UInt8),eqA Tryz.prog 18 5 (.int .u8 x.toNat) (.int .u8 y.toNat)=some (((x.toNat:Nat):Int)==y.toNat):=fun x y=>by kernel_rfl
 rw [zf2 (fun x y=>by rw [e4,zs1]) r.sum.list Dg.zero.list rfl] at e3
 rw [e1]
 unfold zdo
 rw [e2]
 unfold zgp
 by_cases h1:r.root=0
 ·rw [show (r.root==0)=true by simp [h1]]
  simp only
  unfold zdo
  rw [e2]
  by_cases h2:r.count=0
  ·rw [show (r.count==0)=true by simp [h2]]
   simp only
   unfold zdo
   rw [e3]
   by_cases h3:r.sum=Dg.zero
   ·rw [show decide (r.sum.list=Dg.zero.list)=true by simp [Dg.list_inj,h3]]
    simp [zdo,h1,h2,h3]
   ·rw [show decide (r.sum.list=Dg.zero.list)=false by simp [Dg.list_inj,h3]]
    simp [h3]
  ·rw [show (r.count==0)=false by simp [h2]]
   simp [h2]
 ·rw [show (r.root==0)=false by simp [h1]]
  simp [h1]
section
variable {n:Nat}
theorem zz1 (hn:1 ≤ n) {hp:zaa}{b:Nat}{r:Rt}(hb:hp[b]?=some (zbl r)) (k:Int):C n 67 [i64 k,.ptr b 0 0] hp=some (.ret (.bool (zet r.pages k)),hp):=by
 obtain ⟨m,rfl⟩:=pre1 n
 refine za7 F67 rfl rfl ?_
 repeat' (conv=>whnf);first
  | refine brd (fun _=>?_) (fun _=>?_)
  | refine ldI hb ?_
  | exact ⟨rfl,[_],rfl,by simp_all [zet,tupA]<;>omega,rfl⟩
set_option maxRecDepth 100000 in
theorem zro (hn:2 ≤ n) {h:zaa}(r:Rt):C n 19 [r.av] h=some (.ret (i64 (if ze1 r then 0 else 2)),h):=by
 obtain ⟨m,rfl⟩:=pre1 n
 have fine:fnOk Tryz.prog 67=true:=by kernel_rfl
 have cI:∀ k,C m 67 [i64 k,.ptr 0 0 0] [zbl r]=some (.ret (.bool (zet r.pages k)),[zbl r]):=fun k=>zz1 (by omega) rfl k
 refine zad F19 rfl rfl rfl rfl ?_
 repeat' (conv=>whnf);first
  | refine br (fun _=>?_) (fun _=>?_)
  | refine ldI rfl ?_
  | refine cvI fine (cI _) ?_
  | refine eqI (z0q r) ?_
  | refine retP rfl (zb2 ?_)
 all_goals simp_all [ze1]
 all_goals omega
end
def fA (a w f:Nat):AV:=.agg [i64 a,i64 w,.fn (.func f) [] []]
abbrev fB (a w f:Nat):AB:=.cells 0 (some 138) [i64 a,i64 w,.fn (.func f) [] []] 0
def z64:Str:=List.replicate 64 0
def x0:Str:=82::(List.replicate 62 0++[82])
def y1 (r:Rt):Str:=lay x0 1 (num r.ver.toNat 6)
def y2 (r:Rt):Str:=lay (y1 r) 7 (num r.root.toNat 4)
def y3 (r:Rt):Str:=lay (y2 r) 11 (num r.count.toNat 4)
def y4 (r:Rt):Str:=lay (y3 r) 31 (num r.list.toNat 4)
def y5 (r:Rt):Str:=lay (y4 r) 35 (num r.pages.toNat 4)
def y6 (r:Rt):Str:=lay (y5 r) 15 r.sum.list
def y7 (r:Rt):Str:=lay (y6 r) 59 (num (crc ((y6 r).take 59)).toNat 4)
theorem zxa:x0.length=64:=rfl
theorem zw9 (r:Rt):(y1 r).length=64:=by unfold y1;rw [zfw (by rw [zam,zxa];decide),zxa]
theorem zw8 (r:Rt):(y2 r).length=64:=by unfold y2;rw [zfw (by rw [zam,zw9];decide),zw9]
theorem zw7 (r:Rt):(y3 r).length=64:=by unfold y3;rw [zfw (by rw [zam,zw8];decide),zw8]
theorem zw6 (r:Rt):(y4 r).length=64:=by unfold y4;rw [zfw (by rw [zam,zw7];decide),zw7]
theorem zw5 (r:Rt):(y5 r).length=64:=by unfold y5;rw [zfw (by rw [zam,zw6];decide),zw6]
theorem z42 (r:Rt):(y6 r).length=64:=by unfold y6;rw [zfw (by rw [zw5];show 15+16 ≤ 64;decide),zw5]
theorem y7_len (r:Rt):(y7 r).length=64:=by unfold y7;rw [zfw (by rw [zam,z42];decide),z42]
theorem zo4 (h:zaa) {bb ver:Nat}{el:Option TypeId}{xs:List AV}{frz:Nat}(hb:h[bb]?=some (.cells ver el xs frz)) {o k len:Nat}(hk:k ≤ len) (hl:o+k ≤ xs.length):zbc h 1 k (.sl 1 bb ver o len)=some ((xs.drop o).take k):=by
 unfold zbc
 simp only
 rw [if_pos ⟨hk,trivial⟩,hb]
 simp only
 rw [if_pos ⟨trivial,by omega⟩,Nat.mul_one]
theorem z0d (h:zaa) (s:Str):frz h 64 (tupA [.agg (s.map u8)])=some (.agg (s.map u8)):=zch (n:=63) (fun x hx=>by obtain ⟨c,_,rfl⟩:=List.mem_map.1 hx;exact zaw) h
theorem z7g (xs:Str) (p:Nat) (ys:Str):putAt (xs.map u8) p (ys.map u8)=(lay xs p ys).map u8:=by
 unfold putAt lay
 simp [List.map_take,List.map_drop]
theorem zi0 {cs:List AV}{n:Nat}(h:cs.length=n):zjq true n cs 0=some (.agg cs):=by
 unfold zjq
 rw [if_pos rfl,if_pos (by omega),List.drop_zero,List.take_of_length_le (by omega)]
section
variable {n:Nat}{h:zaa}
theorem zra (hn:1 ≤ n):C n 64 [] h=some (.ret (.lst 3 [fA 1 6 137,fA 7 4 138,fA 11 4 139,fA 31 4 140,fA 35 4 141] true),h):=by
 obtain ⟨m,rfl⟩:=pre1 n
 refine zad F64 rfl rfl rfl rfl ?_
 conv=>whnf
 refine ⟨rfl,?_⟩
 conv=>whnf
 exact ⟨rfl,[_],rfl,rfl⟩
theorem zrf (hn:1 ≤ n) {h:zaa}(b:Nat):C n 137 [.ptr b 0 0] h=some (.ret (.ptr b 0 0),h):=by
 obtain ⟨m,rfl⟩:=pre1 n
 refine za7 F137 rfl rfl ?_
 conv=>whnf
 exact ⟨rfl,[_],rfl,rfl,rfl⟩
theorem zre (hn:1 ≤ n) {h:zaa}(b:Nat):C n 138 [.ptr b 0 0] h=some (.ret (.ptr b 0 1),h):=by
 obtain ⟨m,rfl⟩:=pre1 n
 refine za7 F138 rfl rfl ?_
 conv=>whnf
 exact ⟨rfl,[_],rfl,rfl,rfl⟩
theorem zrd (hn:1 ≤ n) {h:zaa}(b:Nat):C n 139 [.ptr b 0 0] h=some (.ret (.ptr b 0 2),h):=by
 obtain ⟨m,rfl⟩:=pre1 n
 refine za7 F139 rfl rfl ?_
 conv=>whnf
 exact ⟨rfl,[_],rfl,rfl,rfl⟩
theorem zrc (hn:1 ≤ n) {h:zaa}(b:Nat):C n 140 [.ptr b 0 0] h=some (.ret (.ptr b 0 19),h):=by
 obtain ⟨m,rfl⟩:=pre1 n
 refine za7 F140 rfl rfl ?_
 conv=>whnf
 exact ⟨rfl,[_],rfl,rfl,rfl⟩
theorem zrb (hn:1 ≤ n) {h:zaa}(b:Nat):C n 141 [.ptr b 0 0] h=some (.ret (.ptr b 0 20),h):=by
 obtain ⟨m,rfl⟩:=pre1 n
 refine za7 F141 rfl rfl ?_
 conv=>whnf
 exact ⟨rfl,[_],rfl,rfl,rfl⟩
def hS (r:Rt):Nat → zaa
 | 0=>[zbl r,recC z64,recC x0]
 | 1=>[zbl r,recC z64,recC (y1 r),fB 1 6 137]
 | 2=>[zbl r,recC z64,recC (y2 r),fB 1 6 137,fB 7 4 138]
 | 3=>[zbl r,recC z64,recC (y3 r),fB 1 6 137,fB 7 4 138,fB 11 4 139]
 | 4=>[zbl r,recC z64,recC (y4 r),fB 1 6 137,fB 7 4 138,fB 11 4 139,fB 31 4 140]
 | _=>[zbl r,recC z64,recC (y5 r),fB 1 6 137,fB 7 4 138,fB 11 4 139,fB 31 4 140,fB 35 4 141]
set_option maxRecDepth 100000 in
theorem zos {m:Nat}(hm:1 ≤ m) (r:Rt) (v0:0 ≤ r.ver) (v1:0 ≤ r.root) (v2:0 ≤ r.count) (v3:0 ≤ r.list) (v4:0 ≤ r.pages) {Q:Ex → LS → Prop}{st:LS}
  (hs:LS.sub ⟨[(1,.ptr 0 0 0),(2,.ptr 1 0 0),(3,.ptr 2 0 0),(8,.lst 3 [fA 1 6 137,fA 7 4 138,fA 11 4 139,fA 31 4 140,fA 35 4 141] true),(9,i64 5),(10,i64 0)],hS r 0,[]⟩ st)
  (hE:∀ Lt,subL [(1,.ptr 0 0 0),(2,.ptr 1 0 0),(3,.ptr 2 0 0)] Lt → Q (.exit 0) ⟨Lt,hS r 5,[]⟩) :
  OkR Tryz.prog (C m) cfg0.inl KK 36 6 (.loop (c59.lp 0)) st Q:=by
 have p1:=put_eq (n:=m) hm (hp:=[zbl r,recC z64,recC x0,fB 1 6 137]) (b:=2) (xs:=x0) ⟨rfl,zxa⟩ 1 6 r.ver.toNat (by decide) (by decide)
 rw [Int.toNat_of_nonneg v0] at p1
 have p2:=put_eq (n:=m) hm (hp:=[zbl r,recC z64,recC (y1 r),fB 1 6 137,fB 7 4 138]) (b:=2) (xs:=y1 r) ⟨rfl,zw9 r⟩ 7 4 r.root.toNat (by decide) (by decide)
 rw [Int.toNat_of_nonneg v1] at p2
 have p3:=put_eq (n:=m) hm (hp:=[zbl r,recC z64,recC (y2 r),fB 1 6 137,fB 7 4 138,fB 11 4 139]) (b:=2) (xs:=y2 r) ⟨rfl,zw8 r⟩ 11 4 r.count.toNat (by decide) (by decide)
 rw [Int.toNat_of_nonneg v2] at p3
 have p4:=put_eq (n:=m) hm (hp:=[zbl r,recC z64,recC (y3 r),fB 1 6 137,fB 7 4 138,fB 11 4 139,fB 31 4 140]) (b:=2) (xs:=y3 r) ⟨rfl,zw7 r⟩ 31 4 r.list.toNat (by decide) (by decide)
 rw [Int.toNat_of_nonneg v3] at p4
 have p5:=put_eq (n:=m) hm (hp:=[zbl r,recC z64,recC (y4 r),fB 1 6 137,fB 7 4 138,fB 11 4 139,fB 31 4 140,fB 35 4 141]) (b:=2) (xs:=y4 r) ⟨rfl,zw6 r⟩ 35 4 r.pages.toNat (by decide) (by decide)
 rw [Int.toNat_of_nonneg v4] at p5
 refine za3 (by decide) rfl (α:=Nat) (fun j=>⟨[(1,.ptr 0 0 0),(2,.ptr 1 0 0),(3,.ptr 2 0 0),(8,.lst 3 [fA 1 6 137,fA 7 4 138,fA 11 4 139,fA 31 4 140,fA 35 4 141] true),(9,i64 5),(10,i64 j)],hS r j,[]⟩) (fun j=>j ≤ 5) (fun j=>5-j) 0 hs (by decide) (by decide) ?_
 intro j hj
 have hjs:j=0 ∨ j=1 ∨ j=2 ∨ j=3 ∨ j=4 ∨ j=5:=by omega
 rcases hjs with rfl | rfl | rfl | rfl | rfl | rfl
 ·conv=>whnf
  refine ⟨by decide,rfl,_,rfl,_,rfl,?_⟩
  conv=>whnf
  refine stJ (by rfl) (xs:=[i64 1,i64 6,.fn (.func 137) [] []]) ?_
  conv=>whnf
  refine ldI (by rfl) ?_
  conv=>whnf
  refine ldI (by rfl) ?_
  conv=>whnf
  refine ldI (by rfl) ?_
  conv=>whnf
  refine cvI (by kernel_rfl) (zrf hm 0) ?_
  conv=>whnf
  refine ⟨?_,?_⟩
  ·repeat' first | ((conv=>whnf)<;>done) | ((conv=>whnf)<;>(first | (refine ldI rfl ?_;rfl) | refine ⟨?_,?_⟩))
  conv=>whnf
  refine ldI (by rfl) ?_
  conv=>whnf
  refine clI p1 ?_
  conv=>whnf
  refine ⟨?_,?_⟩
  ·repeat' first | ((conv=>whnf)<;>done) | ((conv=>whnf)<;>(first | (refine ldI rfl ?_;rfl) | refine ⟨?_,?_⟩))
  conv=>whnf
  refine zI (z:=((0+1:Nat):Int)) (by decide) ?_
  exact nxI (0+1) (by decide) (by decide) ⟨⟨rfl,rfl,rfl,rfl,rfl,rfl⟩,rfl,rfl⟩
 ·conv=>whnf
  refine ⟨by decide,rfl,_,rfl,_,rfl,?_⟩
  conv=>whnf
  refine stJ (by rfl) (xs:=[i64 7,i64 4,.fn (.func 138) [] []]) ?_
  conv=>whnf
  refine ldI (by rfl) ?_
  conv=>whnf
  refine ldI (by rfl) ?_
  conv=>whnf
  refine ldI (by rfl) ?_
  conv=>whnf
  refine cvI (by kernel_rfl) (zre hm 0) ?_
  conv=>whnf
  refine ⟨?_,?_⟩
  ·repeat' first | ((conv=>whnf)<;>done) | ((conv=>whnf)<;>(first | (refine ldI rfl ?_;rfl) | refine ⟨?_,?_⟩))
  conv=>whnf
  refine ldI (by rfl) ?_
  conv=>whnf
  refine clI p2 ?_
  conv=>whnf
  refine ⟨?_,?_⟩
  ·repeat' first | ((conv=>whnf)<;>done) | ((conv=>whnf)<;>(first | (refine ldI rfl ?_;rfl) | refine ⟨?_,?_⟩))
  conv=>whnf
  refine zI (z:=((1+1:Nat):Int)) (by decide) ?_
  exact nxI (1+1) (by decide) (by decide) ⟨⟨rfl,rfl,rfl,rfl,rfl,rfl⟩,rfl,rfl⟩
 ·conv=>whnf
  refine ⟨by decide,rfl,_,rfl,_,rfl,?_⟩
  conv=>whnf
  refine stJ (by rfl) (xs:=[i64 11,i64 4,.fn (.func 139) [] []]) ?_
  conv=>whnf
  refine ldI (by rfl) ?_
  conv=>whnf
  refine ldI (by rfl) ?_
  conv=>whnf
  refine ldI (by rfl) ?_
  conv=>whnf
  refine cvI (by kernel_rfl) (zrd hm 0) ?_
  conv=>whnf
  refine ⟨?_,?_⟩
  ·repeat' first | ((conv=>whnf)<;>done) | ((conv=>whnf)<;>(first | (refine ldI rfl ?_;rfl) | refine ⟨?_,?_⟩))
  conv=>whnf
  refine ldI (by rfl) ?_
  conv=>whnf
  refine clI p3 ?_
  conv=>whnf
  refine ⟨?_,?_⟩
  ·repeat' first | ((conv=>whnf)<;>done) | ((conv=>whnf)<;>(first | (refine ldI rfl ?_;rfl) | refine ⟨?_,?_⟩))
  conv=>whnf
  refine zI (z:=((2+1:Nat):Int)) (by decide) ?_
  exact nxI (2+1) (by decide) (by decide) ⟨⟨rfl,rfl,rfl,rfl,rfl,rfl⟩,rfl,rfl⟩
 ·conv=>whnf
  refine ⟨by decide,rfl,_,rfl,_,rfl,?_⟩
  conv=>whnf
  refine stJ (by rfl) (xs:=[i64 31,i64 4,.fn (.func 140) [] []]) ?_
  conv=>whnf
  refine ldI (by rfl) ?_
  conv=>whnf
  refine ldI (by rfl) ?_
  conv=>whnf
  refine ldI (by rfl) ?_
  conv=>whnf
  refine cvI (by kernel_rfl) (zrc hm 0) ?_
  conv=>whnf
  refine ⟨?_,?_⟩
  ·repeat' first | ((conv=>whnf)<;>done) | ((conv=>whnf)<;>(first | (refine ldI rfl ?_;rfl) | refine ⟨?_,?_⟩))
  conv=>whnf
  refine ldI (by rfl) ?_
  conv=>whnf
  refine clI p4 ?_
  conv=>whnf
  refine ⟨?_,?_⟩
  ·repeat' first | ((conv=>whnf)<;>done) | ((conv=>whnf)<;>(first | (refine ldI rfl ?_;rfl) | refine ⟨?_,?_⟩))
  conv=>whnf
  refine zI (z:=((3+1:Nat):Int)) (by decide) ?_
  exact nxI (3+1) (by decide) (by decide) ⟨⟨rfl,rfl,rfl,rfl,rfl,rfl⟩,rfl,rfl⟩
 ·conv=>whnf
  refine ⟨by decide,rfl,_,rfl,_,rfl,?_⟩
  conv=>whnf
  refine stJ (by rfl) (xs:=[i64 35,i64 4,.fn (.func 141) [] []]) ?_
  conv=>whnf
  refine ldI (by rfl) ?_
  conv=>whnf
  refine ldI (by rfl) ?_
  conv=>whnf
  refine ldI (by rfl) ?_
  conv=>whnf
  refine cvI (by kernel_rfl) (zrb hm 0) ?_
  conv=>whnf
  refine ⟨?_,?_⟩
  ·repeat' first | ((conv=>whnf)<;>done) | ((conv=>whnf)<;>(first | (refine ldI rfl ?_;rfl) | refine ⟨?_,?_⟩))
  conv=>whnf
  refine ldI (by rfl) ?_
  conv=>whnf
  refine clI p5 ?_
  conv=>whnf
  refine ⟨?_,?_⟩
  ·repeat' first | ((conv=>whnf)<;>done) | ((conv=>whnf)<;>(first | (refine ldI rfl ?_;rfl) | refine ⟨?_,?_⟩))
  conv=>whnf
  refine zI (z:=((4+1:Nat):Int)) (by decide) ?_
  exact nxI (4+1) (by decide) (by decide) ⟨⟨rfl,rfl,rfl,rfl,rfl,rfl⟩,rfl,rfl⟩
 ·conv=>whnf
  exact hE _ ⟨rfl,rfl,rfl⟩
def rcTail:RC:=match c59 with
 | .seq _ (.seq _ (.seq _ (.seq _ (.cut x))))=>x
 | _=>.skip
set_option maxRecDepth 100000 in
theorem zor {m:Nat}(hm:1 ≤ m) (r:Rt) (Y:Str) (hY:Y.length=64) (f1 f2 f3 f4 f5:AB) (W:Str) (hW:W=lay (lay Y 15 r.sum.list) 59 (num (crc ((lay Y 15 r.sum.list).take 59)).toNat 4)):Wp Tryz.prog (C m) cfg0.inl KK 36 6 rcTail ⟨[(1,.ptr 0 0 0),(2,.ptr 1 0 0),(3,.ptr 2 0 0)],[zbl r,recC z64,recC Y,f1,f2,f3,f4,f5],[]⟩ (RetQ Tryz.prog [.cell 2 tRec] fun v' h'=>frz h' 64 v'=some (.agg (W.map u8))):=by
 obtain ⟨Z,hZ⟩ : ∃ Z,Z=lay Y 15 r.sum.list:=⟨_,rfl⟩
 rw [← hZ] at hW
 have lZ:Z.length=64:=by rw [hZ,zfw (by rw [hY];show 15+16 ≤ 64;decide),hY]
 have lW:W.length=64:=by rw [hW,zfw (by rw [zam,lZ];decide),lZ]
 obtain ⟨k,hk⟩ : ∃ k,crc (Z.take 59)=k:=⟨_,rfl⟩
 rw [hk] at hW
 have pc:C m 135 [.str (Z.take 59)] [zbl r,recC z64,recC Z,f1,f2,f3,f4,f5]=some (.ret (u32 k),[zbl r,recC z64,recC Z,f1,f2,f3,f4,f5]):=by
  rw [← hk];exact z0z (by omega) _ (by rw [List.length_take];omega)
 have pp:=put_eq (n:=m) (by omega) (hp:=[zbl r,recC z64,recC Z,f1,f2,f3,f4,f5]) (b:=2) (xs:=Z) ⟨rfl,lZ⟩ 59 4 k.toNat (by decide) (by decide)
 rw [← hW] at pp
 have l5:(Y.map u8).length=64:=by rw [List.length_map,hY]
 have l6:(Z.map u8).length=64:=by rw [List.length_map,lZ]
 have l7:(W.map u8).length=64:=by rw [List.length_map,lW]
 have ec:cpyR [zbl r,recC z64,recC Y,f1,f2,f3,f4,f5] 1 (.sl 1 2 0 15 49) (.sl 1 0 0 3 16)=some (.int .i64 16,some [zbl r,recC z64,recC Z,f1,f2,f3,f4,f5]):=by
  have g2:([zbl r,recC z64,recC Y,f1,f2,f3,f4,f5]:zaa)[2]?=some (recC Y):=rfl
  have g0:([zbl r,recC z64,recC Y,f1,f2,f3,f4,f5]:zaa)[0]?=some (zbl r):=rfl
  unfold cpyR
  simp only [zk7,lenA]
  rw [show min 16 49=16 from rfl,zo4 _ g0 (Nat.le_refl 16) (show 3+16 ≤ 21 by decide)]
  simp only
  rw [if_neg (by decide),g2]
  simp only
  have e:(r.cells.drop 3).take 16=r.sum.list.map u8:=rfl
  rw [e,if_pos ⟨trivial,trivial,Nat.zero_le _,by rw [l5];show 15+16 ≤ 64;decide,zfs _⟩,z7g,hZ]
  rfl
 clear hW hZ hk
 conv=>whnf
 refine ⟨_,_,_,rfl,⟨by rw [l5];decide,by decide⟩,?_⟩
 refine slI (v:=.sl 1 2 0 15 49) rfl ?_
 conv=>whnf
 refine ⟨_,_,_,rfl,⟨show 0+1+2+16*1 ≤ 21 by decide,by decide⟩,?_⟩
 refine slI (v:=.sl 1 0 0 3 16) rfl ?_
 conv=>whnf
 refine ⟨_,ec,?_⟩
 conv=>whnf
 refine ⟨?_,?_⟩
 ·conv=>whnf
  refine ⟨?_,?_⟩
  ·conv=>whnf
   refine ⟨_,_,_,rfl,⟨show 0+1+2+16*1 ≤ 21 by decide,by decide⟩,?_⟩
   exact slI (v:=.sl 1 0 0 3 16) rfl rfl
  conv=>whnf
  refine ⟨_,_,_,rfl,⟨by rw [l6];decide,by decide⟩,?_⟩
  exact slI (v:=.sl 1 2 0 15 49) rfl rfl
 conv=>whnf
 refine ⟨_,_,_,rfl,⟨by rw [l6];decide,by decide⟩,?_⟩
 refine slI (v:=.sl 1 2 0 0 59) rfl ?_
 conv=>whnf
 refine ⟨_,Z.take 59,?_,zbt _,?_⟩
 ·rw [zo4 (xs:=Z.map u8) (el:=some tRec) (frz:=0) _ rfl (Nat.le_refl 59) (by rw [l6];decide),List.drop_zero,List.map_take]
 conv=>whnf
 refine clI pc ?_
 conv=>whnf
 refine zI (z:=(k.toNat:Int)) (by have:=k.toNat_lt;exact zae (by omega) (by omega)) ?_
 conv=>whnf
 refine clI pp ?_
 conv=>whnf
 refine ldI (cs:=W.map u8) rfl ?_
 refine zdr (zi0 l7) ?_
 conv=>whnf
 have hput:putAt (z64.map u8) 0 (W.map u8)=W.map u8:=by
  unfold putAt
  rw [List.take_zero,List.nil_append,List.drop_of_length_le (by rw [l7];decide),List.append_nil]
 refine stI (xs:=W.map u8) (cs:=z64.map u8) rfl (zf1 (zfs _)) l7 (by rw [l7];rfl) (by rfl) ?_
 refine ⟨rfl,[.agg (W.map u8)],?_,?_⟩
 ·have:=zb9 (h:=[zbl r,.cells 0 (some tRec) (putAt (z64.map u8) 0 (W.map u8)) 0,recC W,f1,f2,f3,f4,f5]) (t:=tRec) (N:=64) (b:=1) (ver:=0) (el:=some tRec) (cs:=W.map u8) (f:=0) (by kernel_rfl) l7 (by rw [hput];rfl)
  show (match zce Tryz.prog [zbl r,.cells 0 (some tRec) (putAt (z64.map u8) 0 (W.map u8)) 0,recC W,f1,f2,f3,f4,f5] tRec (.ptr 1 0 0) with | some v=>some [v] | none=>none)=_
  rw [this]
 ·exact z0d _ _
set_option maxRecDepth 100000 in
theorem zsk (hn:2 ≤ n) (r:Rt) (v0:0 ≤ r.ver) (v1:0 ≤ r.root) (v2:0 ≤ r.count) (v3:0 ≤ r.list) (v4:0 ≤ r.pages):C n 59 [r.av] h=some (.ret (.agg ((y7 r).map u8)),h):=by
 obtain ⟨m,rfl⟩:=pre1 n
 refine zad F59 rfl rfl rfl rfl ?_
 conv=>whnf
 refine ⟨by decide,by decide,?_⟩
 conv=>whnf
 refine stJ (by rfl) ?_
 conv=>whnf
 refine ⟨by decide,by decide,?_⟩
 conv=>whnf
 refine stJ (by rfl) ?_
 conv=>whnf
 refine clI (zra (by omega)) ?_
 conv=>whnf
 refine zos (by omega) r v0 v1 v2 v3 v4 ⟨⟨rfl,rfl,rfl,rfl,rfl,rfl⟩,rfl,rfl⟩ (fun L hL=>?_)
 conv=>whnf
 refine cutI (by decide) rfl (t:=⟨[(1,.ptr 0 0 0),(2,.ptr 1 0 0),(3,.ptr 2 0 0)],hS r 5,[]⟩) ⟨hL,rfl,rfl⟩ ?_
 exact zor (by omega) r (y5 r) (zw5 r) _ _ _ _ _ (y7 r) rfl
end
def c121:RC :=
 (.seq (.ops [(oP 1 (.box 46 (.t 0))),(oH 2 0)])
 (.seq (.seq (.ops [(oC 9 0 1),(oA 10 9),(oK 11 10),(oJ 12 .lss 11 1),(mV 13 12),(oF 14 13 false 0 1),(oD 15 13 false 14),(oG 16 13 false (.lenL (.t 15))),(oG 17 13 false (.bin .gtr (.t 16) (.c (.int .i64 32768)))),(oM 18 13 17),(mV 19 18),(oF 20 19 false 1 1),(oD 21 19 false 20),(oG 22 19 false (.lenL (.t 21))),(oG 23 19 false (.bin .gtr (.t 22) (.c (.int .i64 40000)))),(oM 24 19 23)])
 (.cond (.t 24)
 (.seq (.ops [(oH 2 2)])
 .ret)
 .skip))
 (.seq (.seq (.ops [(oC 25 0 1),(oA 26 25),(oK 27 26),(oH 28 0)])
 (.block 0
 (.loop
 (.seq (.ops [(oI 29 .lss 28 27)])
 (.seq (.cond (.t 29)
 .skip
 (.exit 0))
 (.seq (.block 1
 (.seq (.ops [(oS 30 1 26 28),(oA 31 30),(mV 4 31)])
 (.seq (.ops [(mV 32 4),(oP 33 (.lenS (.t 32))),(oJ 34 .neq 33 64)])
 (.cond (.t 34)
 (.seq (.ops [(oH 2 2)])
 .ret)
 .skip))))
 (.ops [(oJ 35 .add 28 1),(mV 28 35)])))))))
 (.cut (.seq (.seq (.ops [(oC 36 1 1),(oA 37 36),(oK 38 37),(oH 39 0)])
 (.block 2
 (.loop
 (.seq (.ops [(oI 40 .lss 39 38)])
 (.seq (.cond (.t 40)
 .skip
 (.exit 2))
 (.seq (.block 3
 (.seq (.ops [(oS 41 2 37 39),(oB 42 2 41),(oP 6 (.alloc 52 [(.int .i64 0),(.str [])])),(oT 2 6 42)])
 (.seq (.ops [(oB 43 3 1),(oC 44 0 6),(oA 45 44),(oW 46 131 43 45),(oP 47 (.un .not (.t 46))),(mV 48 47),(oF 49 48 false 1 6),(oD 50 48 false 49),(oG 51 48 false (.lenS (.t 50))),(oG 52 48 false (.bin .neq (.t 51) (.c (.int .i64 64)))),(oM 53 48 52)])
 (.cond (.t 53)
 (.seq (.ops [(oH 2 2)])
 .ret)
 .skip))))
 (.ops [(oJ 54 .add 39 1),(mV 39 54)])))))))
 (.cut (.seq (.seq (.ops [(oC 55 2 1),(oA 56 55),(oK 57 56),(oH 58 0)])
 (.block 4
 (.loop
 (.seq (.ops [(oI 59 .lss 58 57)])
 (.seq (.cond (.t 59)
 .skip
 (.exit 4))
 (.seq (.block 5
 (.seq (.ops [(mV 60 58),(oS 61 1 56 58),(oA 62 61),(mV 7 60),(mV 8 62)])
 (.seq (.ops [(oB 63 3 1),(mV 64 8),(oW 65 131 63 64),(oP 66 (.un .not (.t 65))),(mV 67 66),(oE 68 67 false 7),(oG 69 67 false (.bin .gtr (.t 68) (.c (.int .i64 0)))),(oE 70 67 false 69),(oE 71 70 true 8),(oF 72 70 true 2 1),(oD 73 70 true 72),(oE 74 70 true 7),(oG 75 70 true (.bin .sub (.t 74) (.c (.int .i64 1)))),(oG 76 70 true (.indexAddrL 1 (.t 73) (.t 75))),(oD 77 70 true 76),(oG 78 70 true (.bin .leq (.t 71) (.t 77))),(oG 79 67 false (.pick (.t 70) (.t 78) (.c (.bool false)))),(oM 80 67 79)])
 (.cond (.t 80)
 (.seq (.ops [(oH 2 2)])
 .ret)
 .skip))))
 (.ops [(oJ 81 .add 58 1),(mV 58 81)])))))))
 (.cut (.seq (.ops [(oH 2 0)])
 .ret)))))))))
theorem F121:FI 121 1 82 7 [.tmp 2] c121:=mkF Tryz.f121 Tryz.func121
def c131:RC :=
 (.seq (.ops [(oP 2 (.box 46 (.t 0))),(oP 4 (.mv (.c (.bool false))))])
 (.seq (.ops [(mV 5 1),(oJ 6 .geq 5 0),(mV 7 6),(oE 8 7 true 1),(oF 9 7 true 0 2),(oD 10 7 true 9),(oG 11 7 true (.lenL (.t 10))),(oG 12 7 true (.bin .lss (.t 8) (.t 11))),(oN 13 7 12),(mV 4 13)])
 .ret))
theorem F131:FI 131 2 14 4 [.tmp 4] c131:=mkF Tryz.f131 Tryz.func131
def c87:RC :=
 (.seq (.ops [(mV 4 0),(oK 5 4),(oH 6 0)])
 (.block 0
 (.loop
 (.seq (.ops [(oI 7 .lss 6 5)])
 (.seq (.cond (.t 7)
 .skip
 (.exit 0))
 (.seq (.block 1
 (.seq (.ops [(oS 8 3 4 6),(oB 9 3 8),(oP 3 (.alloc 46 [(.lst 0 [] true),(.lst 0 [] true),(.lst 0 [] true)])),(oT 3 3 9)])
 (.ops [(oB 10 3 3),(oV 11 121 10),(oJ 12 .eql 11 0),(oP 13 (.callF 130 [(.t 12),(.c (.int .i64 2))]))])))
 (.ops [(oJ 14 .add 6 1),(mV 6 14)])))))))
theorem F87:FI 87 1 15 5 [] c87:=mkF Tryz.f87 Tryz.func87
def c130:RC :=
 (.seq (.ops [(mV 4 0),(oP 5 (.un .not (.t 4)))])
 (.cond (.t 5)
 (.ops [(mV 6 1),(oP 7 (.build [(.int .i64 0)] [(0,1,(.t 6))])),(oP 8 (.mkIfc 231 (.t 7))),
 ⟨none,none,.pan (.t 8)⟩])
 .skip))
theorem F130:FI 130 2 9 4 [] c130:=mkF Tryz.f130 Tryz.func130
def c86:RC :=
 (.seq (.ops [(oP 5 (.raw { dst:=(some 5),op:=(.call { callee:=.builtin .recover,args:=#[],argTypes:=#[] }),type:=20,pos := "disk.go:25",after:=#[],guard:=none }))])
 (.block 0
 (.seq (.ops [(oP 7 (.isNilI false (.t 5)))])
 (.cond (.t 7)
 (.ops [(mV 2 5)])
 (.seq (.ops [(oP 8 (.asrt 231 true true (.t 5))),(oQ 9 8 1),(oQ 10 8 0)])
 (.cond (.t 9)
 (.seq (.ops [(oP 3 (.alloc 231 [(.int .i64 0)])),(oT 1 3 10)])
 (.ops [(mV 11 0),(oC 12 0 3),(oA 13 12),(oR 14 11),(oT 1 14 13)]))
 (.seq (.ops [(mV 4 5)])
 (.ops [(mV 6 4),
 ⟨none,none,.pan (.t 6)⟩]))))))))
def c161:RC :=
 (.seq (.ops [(oP 3 (.box 46 (.t 0))),(oP 6 (.mv (.c (.str [])))),(oP 7 (.alloc 29 [(.int .i64 0)]))])
 (.seq (.ops [⟨none,none,.dfr { callee:=.value (.func 86),args:=#[(.tmp 7)],argTypes:=#[172] }⟩])
 (.seq (.ops [(oB 16 3 3),(oP 17 (.mkLst 3 true 1 [(.lst 0 [] true),(.lst 0 [] true),(.lst 0 [] true)] [(0,3,(.t 16))])),(oV 18 87 17)])
 (.seq (.ops [(mV 19 1),(oJ 20 .geq 19 0),(mV 21 20),(oE 22 21 true 2),(oG 23 21 true (.bin .geq (.t 22) (.c (.int .i64 1)))),(oN 24 21 23),(mV 25 24),(oE 26 25 true 1),(oF 27 25 true 0 3),(oD 28 25 true 27),(oG 29 25 true (.lenL (.t 28))),(oG 30 25 true (.bin .lss (.t 26) (.t 29))),(oN 31 25 30),(mV 32 31),(oE 33 32 true 2),(oF 34 32 true 0 3),(oD 35 32 true 34),(oG 36 32 true (.lenL (.t 35))),(oE 37 32 true 1),(oG 38 32 true (.bin .sub (.t 36) (.t 37))),(oG 39 32 true (.bin .leq (.t 33) (.t 38))),(oN 40 32 39),(oP 41 (.callF 130 [(.t 40),(.c (.int .i64 1))]))])
 (.seq (.ops [(oC 42 0 3),(oA 43 42),(mV 44 1),(mV 45 1),(mV 46 2),(oI 47 .add 45 46),(oP 48 (.sliceL 1 (.t 43) (some (.t 44)) (some (.t 47)) none)),(oV 49 126 48),(mV 8 49)])
 (.seq (.ops [(mV 50 2),(oP 51 (.mkSl 4 1 [(.bool false)] (.t 50) (.t 50))),(mV 9 51)])
 (.seq (.seq (.ops [(oC 52 1 3),(oA 53 52),(oK 54 53),(oH 55 0)])
 (.block 0
 (.loop
 (.seq (.ops [(oI 56 .lss 55 54)])
 (.seq (.cond (.t 56)
 .skip
 (.exit 0))
 (.seq (.block 1
 (.seq (.ops [(oS 57 2 53 55),(oB 58 2 57),(oP 11 (.alloc 52 [(.int .i64 0),(.str [])])),(oT 2 11 58)])
 (.seq (.ops [(oC 59 0 11),(oA 60 59),(mV 61 1),(oI 62 .sub 60 61),(mV 12 62)])
 (.seq (.ops [(mV 63 12),(oJ 64 .geq 63 0),(mV 65 64),(oE 66 65 true 12),(oE 67 65 true 2),(oG 68 65 true (.bin .lss (.t 66) (.t 67))),(oN 69 65 68)])
 (.cond (.t 69)
 (.seq (.ops [(mV 70 8),(mV 71 12),(oC 72 1 11),(oA 73 72),(oS 74 1 70 71),(oT 1 74 73)])
 (.ops [(mV 75 9),(mV 76 12),(oS 77 1 75 76),(oU (.store 1 (.t 77) (.c (.bool true))))]))
 .skip)))))
 (.ops [(oJ 78 .add 55 1),(mV 55 78)])))))))
 (.cut (.seq (.seq (.ops [(oC 79 2 3),(oA 80 79),(oK 81 80),(oH 82 0)])
 (.block 2
 (.loop
 (.seq (.ops [(oI 83 .lss 82 81)])
 (.seq (.cond (.t 83)
 .skip
 (.exit 2))
 (.seq (.block 3
 (.seq (.ops [(oS 84 1 80 82),(oA 85 84),(mV 14 85)])
 (.seq (.ops [(mV 86 14),(mV 87 1),(oI 88 .sub 86 87),(mV 15 88)])
 (.ops [(mV 89 15),(oJ 90 .lss 89 0),(mV 91 90),(oE 92 91 false 15),(oE 93 91 false 2),(oG 94 91 false (.bin .geq (.t 92) (.t 93))),(oM 95 91 94),(mV 96 95),(oE 97 96 false 9),(oE 98 96 false 15),(oG 99 96 false (.indexAddrL 1 (.t 97) (.t 98))),(oD 100 96 false 99),(oM 101 96 100),(oP 102 (.callF 130 [(.t 101),(.c (.int .i64 8))]))]))))
 (.ops [(oJ 103 .add 82 1),(mV 82 103)])))))))
 (.cut (.seq (.ops [(mV 104 8),(oP 105 (.callF 204 [(.t 104),(.c (.str []))])),(mV 6 105),(oU (.store 1 (.t 7) (.c (.int .i64 0))))])
 .ret)))))))))))
theorem F161:FI 161 3 106 7 [.tmp 6,.cell 7 29] c161:=mkF Tryz.f161 Tryz.func161
def c204:RC :=
 (.seq (.ops [(oP 4 (.mv (.c (.str []))))])
 (.seq (.seq (.ops [(mV 11 0),(oK 12 11)])
 (.block 0
 (.seq (.ops [(oJ 14 .eql 12 0),(mV 13 14)])
 (.cond (.t 13)
 (.seq (.ops [(oP 4 (.mv (.c (.str []))))])
 .ret)
 (.seq (.ops [(oJ 16 .eql 12 1),(mV 15 16)])
 (.cond (.t 15)
 (.seq (.ops [(mV 17 0),(oP 18 (.indexAddrL 1 (.t 17) (.c (.int .i64 0)))),(oA 19 18),(mV 4 19)])
 .ret)
 .skip))))))
 (.seq (.ops [(oH 5 0)])
 (.seq (.seq (.ops [(mV 20 1),(oP 21 (.lenS (.t 20))),(oJ 22 .gtr 21 0)])
 (.cond (.t 22)
 (.seq (.seq (.ops [(mV 23 1),(oP 24 (.lenS (.t 23))),(mV 25 0),(oK 26 25),(oJ 27 .sub 26 1),(oP 28 (.bin .quo (.c (.int .i64 9223372036854775807)) (.t 27))),(oI 29 .geq 24 28)])
 (.cond (.t 29)
 (.ops [(oP 30 (.mkIfc 9 (.c (.str [115,116,114,105,110,103,115,58,32,74,111,105,110,32,111,117,116,112,117,116,32,108,101,110,103,116,104,32,111,118,101,114,102,108,111,119])))),
 ⟨none,none,.pan (.t 30)⟩])
 .skip))
 (.ops [(mV 31 5),(mV 32 1),(oP 33 (.lenS (.t 32))),(mV 34 0),(oK 35 34),(oJ 36 .sub 35 1),(oI 37 .mul 33 36),(oI 38 .add 31 37),(mV 5 38)]))
 .skip))
 (.seq (.seq (.ops [(mV 39 0),(oK 40 39),(oH 41 0)])
 (.block 1
 (.loop
 (.seq (.ops [(oI 42 .lss 41 40)])
 (.seq (.cond (.t 42)
 .skip
 (.exit 1))
 (.seq (.block 2
 (.seq (.ops [(oS 43 1 39 41),(oA 44 43),(mV 7 44)])
 (.seq (.seq (.ops [(mV 45 7),(oP 46 (.lenS (.t 45))),(mV 47 5),(oP 48 (.bin .sub (.c (.int .i64 9223372036854775807)) (.t 47))),(oI 49 .gtr 46 48)])
 (.cond (.t 49)
 (.ops [(oP 50 (.mkIfc 9 (.c (.str [115,116,114,105,110,103,115,58,32,74,111,105,110,32,111,117,116,112,117,116,32,108,101,110,103,116,104,32,111,118,101,114,102,108,111,119])))),
 ⟨none,none,.pan (.t 50)⟩])
 .skip))
 (.ops [(mV 51 5),(mV 52 7),(oP 53 (.lenS (.t 52))),(oI 54 .add 51 53),(mV 5 54)]))))
 (.ops [(oJ 55 .add 41 1),(mV 41 55)])))))))
 (.cut (.seq (.ops [(oP 8 (.alloc 246 [.nilp,(.lst 0 [] true)]))])
 (.seq (.ops [(mV 56 5),(oW 57 217 8 56)])
 (.seq (.ops [(mV 58 0),(oP 59 (.indexAddrL 1 (.t 58) (.c (.int .i64 0)))),(oA 60 59),(oW 61 176 8 60)])
 (.seq (.seq (.ops [(mV 62 0),(oP 63 (.sliceL 1 (.t 62) (some (.c (.int .i64 1))) none none)),(oK 64 63),(oH 65 0)])
 (.block 3
 (.loop
 (.seq (.ops [(oI 66 .lss 65 64)])
 (.seq (.cond (.t 66)
 .skip
 (.exit 3))
 (.seq (.block 4
 (.seq (.ops [(oS 67 1 63 65),(oA 68 67),(mV 10 68)])
 (.seq (.ops [(mV 69 1),(oW 70 176 8 69)])
 (.ops [(mV 71 10),(oW 72 176 8 71)]))))
 (.ops [(oJ 73 .add 65 1),(mV 65 73)])))))))
 (.cut (.seq (.ops [(oV 74 180 8),(mV 4 74)])
 .ret))))))))))))
theorem F204:FI 204 2 75 7 [.tmp 4] c204:=mkF Tryz.f204 Tryz.func204
def c126:RC :=
 (.seq (.ops [(oP 2 (.mv (.c (.lst 0 [] true))))])
 (.seq (.seq (.ops [(mV 3 0),
 ⟨some 4,none,.op (.raw { dst:=(some 4),op:=(.binOp .eql 42 (.tmp 3) (.const (.slice none 0 0)) 42),type:=4,pos := "slices.go:357",after:=#[⟨0,.data⟩],guard:=none })⟩])
 (.cond (.t 4)
 (.seq (.ops [(oP 2 (.mv (.c (.lst 0 [] true))))])
 .ret)
 .skip))
 (.seq (.ops [(oP 5 (.mkLst 1 false 0 [(.str [])] [])),(mV 6 0),(oP 7 (.app 9 1 (.t 5) (.t 6))),(mV 2 7)])
 .ret)))
theorem F126:FI 126 1 8 4 [.tmp 2] c126:=mkF Tryz.f126 Tryz.func126
def c74:RC :=
 (.seq (.ops [(oP 1 (.box 46 (.t 0))),(oP 2 (.mv (.c (.bool false))))])
 (.seq (.ops [(oC 7 0 1),(oA 8 7),(oK 9 8),(mV 3 9)])
 (.seq (.seq (.ops [(mV 10 3),(oJ 11 .lss 10 1),(mV 12 11),(oE 13 12 false 3),(oG 14 12 false (.bin .gtr (.t 13) (.c (.int .i64 32768)))),(oM 15 12 14),(mV 16 15),(oF 17 16 false 1 1),(oD 18 16 false 17),(oG 19 16 false (.lenL (.t 18))),(oG 20 16 false (.bin .gtr (.t 19) (.c (.int .i64 40000)))),(oM 21 16 20)])
 (.cond (.t 21)
 (.seq (.ops [(oP 2 (.mv (.c (.bool false))))])
 .ret)
 .skip))
 (.seq (.seq (.ops [(oH 4 0)])
 (.block 0
 (.loop
 (.seq (.seq (.ops [(mV 22 4),(mV 23 3),(oI 24 .lss 22 23)])
 (.cond (.t 24)
 .skip
 (.exit 0)))
 (.seq (.block 1
 (.seq (.ops [(oC 27 0 1),(oA 28 27),(mV 29 4),(oS 30 1 28 29),(oA 31 30),(oP 32 (.lenS (.t 31))),(oJ 33 .neq 32 64)])
 (.cond (.t 33)
 (.seq (.ops [(oP 2 (.mv (.c (.bool false))))])
 .ret)
 .skip)))
 (.ops [(mV 25 4),(oJ 26 .add 25 1),(mV 4 26)]))))))
 (.cut (.seq (.seq (.ops [(oH 5 0)])
 (.block 2
 (.loop
 (.seq (.seq (.ops [(mV 34 5),(oC 35 1 1),(oA 36 35),(oK 37 36),(oI 38 .lss 34 37)])
 (.cond (.t 38)
 .skip
 (.exit 2)))
 (.seq (.block 3
 (.seq (.ops [(oC 41 1 1),(oA 42 41),(mV 43 5),(oS 44 2 42 43),(oC 45 0 44),(oA 46 45),(oJ 47 .lss 46 0),(mV 48 47),(oF 49 48 false 1 1),(oD 50 48 false 49),(oE 51 48 false 5),(oG 52 48 false (.indexAddrL 2 (.t 50) (.t 51))),(oF 53 48 false 0 52),(oD 54 48 false 53),(oE 55 48 false 3),(oG 56 48 false (.bin .geq (.t 54) (.t 55))),(oM 57 48 56),(mV 58 57),(oF 59 58 false 1 1),(oD 60 58 false 59),(oE 61 58 false 5),(oG 62 58 false (.indexAddrL 2 (.t 60) (.t 61))),(oF 63 58 false 1 62),(oD 64 58 false 63),(oG 65 58 false (.lenS (.t 64))),(oG 66 58 false (.bin .neq (.t 65) (.c (.int .i64 64)))),(oM 67 58 66)])
 (.cond (.t 67)
 (.seq (.ops [(oP 2 (.mv (.c (.bool false))))])
 .ret)
 .skip)))
 (.ops [(mV 39 5),(oJ 40 .add 39 1),(mV 5 40)]))))))
 (.cut (.seq (.seq (.ops [(oH 6 0)])
 (.block 4
 (.loop
 (.seq (.seq (.ops [(mV 68 6),(oC 69 2 1),(oA 70 69),(oK 71 70),(oI 72 .lss 68 71)])
 (.cond (.t 72)
 .skip
 (.exit 4)))
 (.seq (.block 5
 (.seq (.draw [((oC 75 2 1),0),((oA 76 75),1),((mV 77 6),0),((oS 78 1 76 77),0),((oA 79 78),1),((oJ 80 .lss 79 0),0),((mV 81 80),0),((oF 82 81 false 2 1),0),((oD 83 81 false 82),1),((oE 84 81 false 6),0),((oG 85 81 false (.indexAddrL 1 (.t 83) (.t 84))),0),((oD 86 81 false 85),1),((oE 87 81 false 3),0),((oG 88 81 false (.bin .geq (.t 86) (.t 87))),0),((oM 89 81 88),0),((mV 90 89),0),((oE 91 90 false 6),0),((oG 92 90 false (.bin .gtr (.t 91) (.c (.int .i64 0)))),0),((oE 93 90 false 92),0),((oF 94 93 true 2 1),0),((oD 95 93 true 94),1),((oE 96 93 true 6),0),((oG 97 93 true (.indexAddrL 1 (.t 95) (.t 96))),0),((oD 98 93 true 97),1),((oF 99 93 true 2 1),0),((oD 100 93 true 99),1),((oE 101 93 true 6),0),((oG 102 93 true (.bin .sub (.t 101) (.c (.int .i64 1)))),0),((oG 103 93 true (.indexAddrL 1 (.t 100) (.t 102))),0),((oD 104 93 true 103),1),((oG 105 93 true (.bin .leq (.t 98) (.t 104))),0),((oG 106 90 false (.pick (.t 93) (.t 105) (.c (.bool false)))),0),((oM 107 90 106),0)])
 (.cond (.t 107)
 (.seq (.ops [(oP 2 (.mv (.c (.bool false))))])
 .ret)
 .skip)))
 (.ops [(mV 73 6),(oJ 74 .add 73 1),(mV 6 74)]))))))
 (.cut (.seq (.ops [(oP 2 (.mv (.c (.bool true))))])
 .ret))))))))))
theorem F74:FI 74 1 108 7 [.tmp 2] c74:=mkF Tryz.f74 Tryz.func74
def c102:RC :=
 (.seq (.ops [(oP 3 (.box 46 (.t 0))),(oP 6 (.alloc 187 [(.str []),(.int .i64 0)]))])
 (.seq (.seq (.ops [(oB 10 3 3),(oV 11 74 10),(oP 12 (.un .not (.t 11)))])
 (.cond (.t 12)
 (.seq (.ops [(oP 13 (.build [(.str []),(.int .i64 0)] [(1,1,(.c (.int .i64 2)))])),(oT 2 6 13)])
 .ret)
 .skip))
 (.seq (.seq (.ops [(mV 14 1),(oJ 15 .lss 14 0),(mV 16 15),(oE 17 16 false 2),(oG 18 16 false (.bin .lss (.t 17) (.c (.int .i64 1)))),(oM 19 16 18),(mV 20 19),(oE 21 20 false 2),(oF 22 20 false 0 3),(oD 23 20 false 22),(oG 24 20 false (.lenL (.t 23))),(oG 25 20 false (.bin .gtr (.t 21) (.t 24))),(oM 26 20 25),(mV 27 26),(oE 28 27 false 1),(oF 29 27 false 0 3),(oD 30 27 false 29),(oG 31 27 false (.lenL (.t 30))),(oE 32 27 false 2),(oG 33 27 false (.bin .sub (.t 31) (.t 32))),(oG 34 27 false (.bin .gtr (.t 28) (.t 33))),(oM 35 27 34)])
 (.cond (.t 35)
 (.seq (.ops [(oP 36 (.build [(.str []),(.int .i64 0)] [(1,1,(.c (.int .i64 1)))])),(oT 2 6 36)])
 .ret)
 .skip))
 (.seq (.ops [(oP 7 (.mv (.c (.str []))))])
 (.seq (.seq (.ops [(oH 8 0)])
 (.block 0
 (.loop
 (.seq (.seq (.ops [(mV 37 8),(mV 38 2),(oI 39 .lss 37 38)])
 (.cond (.t 39)
 .skip
 (.exit 0)))
 (.seq (.block 1
 (.seq (.ops [(oB 42 3 3),(mV 43 1),(mV 44 8),(oI 45 .add 43 44),(oW 46 166 42 45),(oP 9 (.alloc 238 [(.str []),(.bool false)])),(oT 2 9 46)])
 (.seq (.seq (.ops [(oC 47 1 9),(oA 48 47),(oP 49 (.un .not (.t 48)))])
 (.cond (.t 49)
 (.seq (.ops [(oP 50 (.build [(.str []),(.int .i64 0)] [(1,1,(.c (.int .i64 8)))])),(oT 2 6 50)])
 .ret)
 .skip))
 (.ops [(mV 51 7),(oC 52 0 9),(oA 53 52),(oI 54 .add 51 53),(mV 7 54)]))))
 (.ops [(mV 40 8),(oJ 41 .add 40 1),(mV 8 41)]))))))
 (.cut (.seq (.ops [(mV 55 7),(oP 56 (.build [(.str []),(.int .i64 0)] [(0,1,(.t 55))])),(oT 2 6 56)])
 .ret)))))))
theorem F102:FI 102 3 57 6 [.cell 6 187] c102:=mkF Tryz.f102 Tryz.func102
def c166:RC :=
 (.seq (.ops [(oP 2 (.box 46 (.t 0))),(oP 4 (.alloc 238 [(.str []),(.bool false)]))])
 (.seq (.seq (.ops [(oC 6 1 2),(oA 7 6),(oK 8 7),(oJ 9 .sub 8 1),(mV 5 9)])
 (.block 0
 (.loop
 (.seq (.seq (.ops [(mV 10 5),(oJ 11 .geq 10 0)])
 (.cond (.t 11)
 .skip
 (.exit 0)))
 (.seq (.block 1
 (.seq (.ops [(oC 14 1 2),(oA 15 14),(mV 16 5),(oS 17 2 15 16),(oC 18 0 17),(oA 19 18),(mV 20 1),(oI 21 .eql 19 20)])
 (.cond (.t 21)
 (.seq (.ops [(oC 22 1 2),(oA 23 22),(mV 24 5),(oS 25 2 23 24),(oC 26 1 25),(oA 27 26),(oP 28 (.build [(.str []),(.bool false)] [(0,1,(.t 27)),(1,1,(.c (.bool true)))])),(oT 2 4 28)])
 .ret)
 .skip)))
 (.ops [(mV 12 5),(oJ 13 .sub 12 1),(mV 5 13)]))))))
 (.cut (.seq (.draw [((oC 29 0 2),0),((oA 30 29),1),((mV 31 1),0),((oS 32 1 30 31),0),((oA 33 32),1),((oC 34 2 2),0),((oA 35 34),1),((mV 36 1),0),((oW 37 208 35 36),4),((oP 38 (.un .not (.t 37))),0),((oP 39 (.build [(.str []),(.bool false)] [(0,1,(.t 33)),(1,1,(.t 38))])),0),((oT 2 4 39),3)])
 .ret))))
theorem F166:FI 166 2 40 6 [.cell 4 238] c166:=mkF Tryz.f166 Tryz.func166
def c208:RC :=
 (.seq (.ops [(oP 4 (.mv (.c (.bool false))))])
 (.seq (.seq (.ops [(oH 5 0)])
 (.block 0
 (.loop
 (.seq (.seq (.ops [(mV 6 5),(mV 7 0),(oK 8 7),(oI 9 .lss 6 8)])
 (.cond (.t 9)
 .skip
 (.exit 0)))
 (.seq (.block 1
 (.seq (.ops [(mV 12 0),(mV 13 5),(oS 14 1 12 13),(oA 15 14),(mV 16 1),(oI 17 .eql 15 16)])
 (.cond (.t 17)
 (.seq (.ops [(oP 4 (.mv (.c (.bool true))))])
 .ret)
 .skip)))
 (.ops [(mV 10 5),(oJ 11 .add 10 1),(mV 5 11)]))))))
 (.cut (.seq (.ops [(oP 4 (.mv (.c (.bool false))))])
 .ret))))
theorem F208:FI 208 2 18 5 [.tmp 4] c208:=mkF Tryz.f208 Tryz.func208
structure Wr where
 sec:Int
 data:Str
def Wr.cells (w:Wr):List AV:=[i64 w.sec,.str w.data]
def Wr.av (w:Wr):AV:=.agg w.cells
structure Dk where
 ssh:Sh
 secs:List Str
 wsh:Sh
 ws:List Wr
 bsh:Sh
 bad:List Int
abbrev z58 (d:Dk):AV:=.lst d.ssh.sz (d.secs.map .str) d.ssh.c
abbrev wsA (d:Dk):AV:=.lst d.wsh.sz (d.ws.map Wr.av) d.wsh.c
abbrev badA (d:Dk):AV:=.lst d.bsh.sz (d.bad.map i64) d.bsh.c
def Dk.cells (d:Dk):List AV:=[z58 d,wsA d,badA d]
def Dk.av (d:Dk):AV:=.agg d.cells
structure Dk.Ok (d:Dk):Prop where
 ss:d.secs≠[] → d.ssh.sz=1
 sw:d.ws≠[] → d.wsh.sz=2
 sb:d.bad≠[] → d.bsh.sz=1
 nb:d.bad.length<KK
abbrev tDisk:Nat:=46
abbrev dkC (d:Dk):AB:=.cells 0 (some tDisk) d.cells 0
theorem ziu (s:Str):(AV.str s).cells?=some [.str s]:=rfl
theorem zey (w:Wr):w.av.cells?=some w.cells:=rfl
theorem z2m (s:Str):(AV.str s).pureB=true:=rfl
theorem z51 (w:Wr):w.av.pureB=true:=rfl
theorem zul (k:Int):(i64 k).pureB=true:=rfl
theorem za1 (d:Dk):d.av.pureB=true:=by
 show zao d.cells=true
 simp [Dk.cells,zao,AV.pureB,zdq z2m,zdq z51,zdq zul]
def wrOk (n:Nat) (w:Wr):Bool:=decide (0 ≤ w.sec)&&(decide (w.sec<n)&&decide (w.data.length=64))
def zdn (n:Nat) (l:List Int) (i:Nat):Bool:=decide (0 ≤ l.getD i 0)&&(decide (l.getD i 0<n)&&(decide (i=0)||decide (l.getD (i-1) 0<l.getD i 0)))
def badOk (n:Nat) (l:List Int):Bool:=(List.range l.length).all (zdn n l)
def zau (d:Dk):Bool:=(decide (1 ≤ d.secs.length)&&(decide (d.secs.length ≤ 32768)&&decide (d.ws.length ≤ 40000)))&&(d.secs.all (fun s=>decide (s.length=64))&&(d.ws.all (wrOk d.secs.length)&&badOk d.secs.length d.bad))
theorem rightD_iff {d:Dk}:zau d=true ↔ (1 ≤ d.secs.length ∧ d.secs.length ≤ 32768 ∧ d.ws.length ≤ 40000) ∧ (∀ s∈d.secs,s.length=64) ∧ (∀ w∈d.ws,wrOk d.secs.length w=true) ∧ ∀ i,i<d.bad.length → zdn d.secs.length d.bad i=true:=by
 simp [zau,badOk,and_assoc]
theorem zqb {d:Dk}{j:Nat}(hj:j<d.secs.length) (h:d.secs[j].length≠64):zau d=false:=by
 cases e:zau d with
 | false=>rfl
 | true=>exact absurd ((rightD_iff.1 e).2.1 _ (List.getElem_mem hj)) h
theorem zok {d:Dk}{j:Nat}(hj:j<d.ws.length) (h:wrOk d.secs.length d.ws[j]=false):zau d=false:=by
 cases e:zau d with
 | false=>rfl
 | true=>rw [(rightD_iff.1 e).2.2.1 _ (List.getElem_mem hj)] at h;cases h
theorem zld {d:Dk}{j:Nat}(hj:j<d.bad.length) (h:zdn d.secs.length d.bad j=false):zau d=false:=by
 cases e:zau d with
 | false=>rfl
 | true=>rw [(rightD_iff.1 e).2.2.2 _ hj] at h;cases h
theorem znb {d:Dk}(h:¬ (1 ≤ d.secs.length ∧ d.secs.length ≤ 32768 ∧ d.ws.length ≤ 40000)):zau d=false:=by
 cases e:zau d with
 | false=>rfl
 | true=>exact absurd (rightD_iff.1 e).1 h
section
variable {n:Nat}{h:zaa}
theorem z0t (hn:1 ≤ n) (d:Dk) (k:Int):C n 131 [d.av,i64 k] h=some (.ret (.bool (decide (0 ≤ k)&&decide (k<d.secs.length))),h):=by
 obtain ⟨m,rfl⟩:=pre1 n
 refine zad F131 rfl rfl rfl (by simp [zao,za1,AV.pureB]) ?_
 repeat' (conv=>whnf);first
  | refine brd (fun _=>?_) (fun _=>?_)
  | refine ldI rfl ?_
  | refine retP rfl (zai ?_)
 all_goals simp_all
 all_goals omega
theorem zs9 {m:Nat}(d:Dk) (ok:d.Ok) (hl:d.secs.length ≤ 32768) {Q:Ex → LS → Prop}{s:LS}
  (hs:LS.sub ⟨[(1,.ptr 0 0 0),(26,z58 d),(27,i64 d.secs.length),(28,i64 0)],[dkC d],[]⟩ s)
  (hE:(∀ s∈d.secs,s.length=64) → ∀ L,subL [(1,.ptr 0 0 0)] L → Q (.exit 0) ⟨L,[dkC d],[]⟩) (hR:zau d=false → ∀ L,lk L 2=some (i64 2) → Q .ret ⟨L,[dkC d],[]⟩) :
  OkR Tryz.prog (C m) cfg0.inl KK 82 7 (.loop (c121.lp 0)) s Q:=by
 refine za3 (by decide) rfl (α:=Nat) (fun j=>⟨[(1,.ptr 0 0 0),(26,z58 d),(27,i64 d.secs.length),(28,i64 j)],[dkC d],[]⟩) (fun j=>j ≤ d.secs.length ∧ ∀ i (hi:i<d.secs.length),i<j → d.secs[i].length=64) (fun j=>d.secs.length-j) 0 hs ⟨Nat.zero_le _,fun i _ hi=>absurd hi (Nat.not_lt_zero _)⟩ (by simp only [KK];omega) ?_
 rintro j ⟨g1,g2⟩
 conv=>whnf
 refine brd (fun a=>?_) (fun a=>?_)
 ·have hj:j<d.secs.length:=by omega
  conv=>whnf
  refine ixL ziu hj ok.ss ?_
  conv=>whnf
  refine brq (fun q=>?_) (fun q=>?_)
  ·conv=>whnf
   exact hR (zqb hj (by omega)) _ rfl
  ·conv=>whnf
   refine zJ j ?_
   refine nxI (j+1) ⟨hj,fun i hi hi2=>?_⟩ (by omega) ⟨⟨rfl,rfl,rfl,rfl⟩,rfl,rfl⟩
   by_cases e:i=j
   ·subst e;omega
   ·exact g2 i hi (by omega)
 ·conv=>whnf
  refine hE (fun s hs=>?_) _ rfl
  obtain ⟨i,hi,rfl⟩:=List.getElem_of_mem hs
  exact g2 i hi (by omega)
theorem zs8 {m:Nat}(hm:1 ≤ m) (d:Dk) (ok:d.Ok) (hl:d.ws.length ≤ 40000) {Q:Ex → LS → Prop}{s:LS}
  (hs:LS.sub ⟨[(1,.ptr 0 0 0),(37,wsA d),(38,i64 d.ws.length),(39,i64 0)],[dkC d],[]⟩ s)
  (hE:(∀ w∈d.ws,wrOk d.secs.length w=true) → ∀ L h,h[0]?=some (dkC d) → subL [(1,.ptr 0 0 0)] L → Q (.exit 2) ⟨L,h,[]⟩) (hR:zau d=false → ∀ L h,lk L 2=some (i64 2) → Q .ret ⟨L,h,[]⟩) :
  OkR Tryz.prog (C m) cfg0.inl KK 82 7 (.loop (c121.lp 1)) s Q:=by
 refine za3 (by decide) rfl (α:=Nat × zaa) (fun x=>⟨[(1,.ptr 0 0 0),(37,wsA d),(38,i64 d.ws.length),(39,i64 x.1)],x.2,[]⟩) (fun x=>(x.1 ≤ d.ws.length ∧ x.2[0]?=some (dkC d)) ∧ ∀ i (hi:i<d.ws.length),i<x.1 → wrOk d.secs.length d.ws[i]=true) (fun x=>d.ws.length-x.1) (0,[dkC d]) hs ⟨⟨Nat.zero_le _,rfl⟩,fun i _ hi=>absurd hi (Nat.not_lt_zero _)⟩ (by simp only [KK];omega) ?_
 rintro ⟨j,h⟩ ⟨⟨g1,g3⟩,g2⟩
 simp only at g1 g2 g3
 have hlt:=zab g3
 conv=>whnf
 refine brd (fun a=>?_) (fun a=>?_)
 ·have hj:j<d.ws.length:=by omega
  have k1:∀ x y:AB,((h++[x]).set h.length y)[0]?=some (dkC d):=fun x y=>by rw [List.getElem?_set_ne (by omega),List.getElem?_append_left hlt];exact g3
  conv=>whnf
  refine ixL zey hj ok.sw ?_
  conv=>whnf
  refine stJ (zaf _ _) ?_
  conv=>whnf
  refine ldI (k1 _ _) ?_
  conv=>whnf
  refine ldI (zag _ _ _) ?_
  conv=>whnf
  refine clI (z0t (by omega) d _) ?_
  conv=>whnf
  refine brn (fun q=>?_) (fun q=>?_)
  ·conv=>whnf
   refine hR (zok hj ?_) _ _ rfl
   unfold wrOk
   rw [← Bool.and_assoc,q,Bool.false_and]
  ·conv=>whnf
   refine ldI (zag _ _ _) ?_
   conv=>whnf
   refine brq (fun q2=>?_) (fun q2=>?_)
   ·conv=>whnf
    refine hR (zok hj ?_) _ _ rfl
    unfold wrOk
    rw [show decide (d.ws[j].data.length=64)=false by rw [decide_eq_false_iff_not];omega,Bool.and_false,Bool.and_false]
   ·conv=>whnf
    refine zJ j ?_
    refine nxI (j+1,_) ⟨⟨hj,k1 _ _⟩,fun i hi hi2=>?_⟩ (by simp only;omega) ⟨⟨rfl,rfl,rfl,rfl⟩,rfl,rfl⟩
    by_cases e:i=j
    ·subst e
     unfold wrOk
     rw [← Bool.and_assoc,q,show decide (d.ws[i].data.length=64)=true by rw [decide_eq_true_iff];omega]
     rfl
    ·exact g2 i hi (by simp only at hi2;omega)
 ·conv=>whnf
  refine hE (fun w hw=>?_) _ _ g3 rfl
  obtain ⟨i,hi,rfl⟩:=List.getElem_of_mem hw
  exact g2 i hi (by omega)
theorem zly {l:List Int}{j:Nat}(hj:j<l.length):l.getD j 0=l[j]:=by simp [List.getD_eq_getElem?_getD,hj]
theorem zs7 {m:Nat}(hm:1 ≤ m) (d:Dk) (ok:d.Ok) (hl:d.secs.length ≤ 32768) {Q:Ex → LS → Prop}{s:LS}{h:zaa}(h0:h[0]?=some (dkC d))
  (hs:LS.sub ⟨[(1,.ptr 0 0 0),(56,badA d),(57,i64 d.bad.length),(58,i64 0)],h,[]⟩ s)
  (hE:(∀ i,i<d.bad.length → zdn d.secs.length d.bad i=true) → ∀ L,Q (.exit 4) ⟨L,h,[]⟩) (hR:zau d=false → ∀ L,lk L 2=some (i64 2) → Q .ret ⟨L,h,[]⟩) :
  OkR Tryz.prog (C m) cfg0.inl KK 82 7 (.loop (c121.lp 2)) s Q:=by
 have hbad:∀ j,j ≤ d.bad.length → (∀ i,i<d.bad.length → i<j → zdn d.secs.length d.bad i=true) → j ≤ 32768:=fun j hj g=>by
  have inc:∀ i,i<j → (i:Int) ≤ d.bad.getD i 0 ∧ d.bad.getD i 0<d.secs.length:=fun i=>by
   induction i with
   | zero =>
    intro hi
    have:=g 0 (by omega) hi
    simp only [zdn,Bool.and_eq_true,decide_eq_true_eq] at this
    omega
   | succ k ih =>
    intro hi
    have:=g (k+1) (by omega) hi
    simp only [zdn,Bool.and_eq_true,Bool.or_eq_true,decide_eq_true_eq,Nat.add_sub_cancel] at this
    have:=ih (by omega)
    omega
  rcases Nat.eq_zero_or_pos j with e | e
  ·omega
  ·have:=inc (j-1) (by omega);omega
 refine za3 (by decide) rfl (α:=Nat) (fun j=>⟨[(1,.ptr 0 0 0),(56,badA d),(57,i64 d.bad.length),(58,i64 j)],h,[]⟩) (fun j=>j ≤ d.bad.length ∧ ∀ i,i<d.bad.length → i<j → zdn d.secs.length d.bad i=true) (fun j=>d.bad.length-j) 0 hs ⟨Nat.zero_le _,fun i _ hi=>absurd hi (Nat.not_lt_zero _)⟩ (by simpa using ok.nb) ?_
 rintro j ⟨g1,g2⟩
 have hj3:=hbad j g1 g2
 conv=>whnf
 refine brd (fun a=>?_) (fun a=>?_)
 ·have hj:j<d.bad.length:=by omega
  have nxt:zdn d.secs.length d.bad j=true → ∀ i,i<d.bad.length → i<j+1 → zdn d.secs.length d.bad i=true:=fun e i hi hi2=>by
   by_cases c:i=j
   ·subst c;exact e
   ·exact g2 i hi (by omega)
  conv=>whnf
  refine ixL zeu hj ok.sb ?_
  conv=>whnf
  refine ldI h0 ?_
  conv=>whnf
  refine clI (z0t (by omega) d _) ?_
  conv=>whnf
  refine brn (fun q=>?_) (fun q=>?_)
  ·conv=>whnf
   refine hR (zld hj ?_) _ rfl
   unfold zdn
   rw [zly hj,← Bool.and_assoc,q,Bool.false_and]
  ·have q':0 ≤ d.bad[j] ∧ d.bad[j]<d.secs.length:=by simpa using q
   conv=>whnf
   refine brd (fun q2=>?_) (fun q2=>?_)
   ·have hj1:j-1<d.bad.length:=by omega
    have hbj:zdn d.secs.length d.bad j=decide (d.bad[j-1]<d.bad[j]):=by
     unfold zdn
     rw [zly hj,zly hj1]
     simp [q'.1,q'.2,show j≠0 by omega]
    conv=>whnf
    refine ldI h0 ?_
    conv=>whnf
    refine zI (z:=((j-1:Nat):Int)) (by rw [zae (by omega) (by omega)];omega) ?_
    conv=>whnf
    refine ixL zeu hj1 ok.sb ?_
    conv=>whnf
    refine brd (fun q3=>?_) (fun q3=>?_)
    ·conv=>whnf
     refine hR (zld hj ?_) _ rfl
     rw [hbj,decide_eq_false_iff_not];omega
    ·conv=>whnf
     refine zJ j ?_
     exact nxI (j+1) ⟨hj,nxt (by rw [hbj,decide_eq_true_iff];omega)⟩ (by omega) ⟨⟨rfl,rfl,rfl,rfl⟩,rfl,rfl⟩
   ·conv=>whnf
    refine zJ j ?_
    refine nxI (j+1) ⟨hj,nxt ?_⟩ (by omega) ⟨⟨rfl,rfl,rfl,rfl⟩,rfl,rfl⟩
    unfold zdn
    rw [zly hj]
    rw [show decide (0 ≤ d.bad[j])=true by simpa using q'.1,show decide (d.bad[j]<d.secs.length)=true by simpa using q'.2,show decide (j=0)=true by rw [decide_eq_true_iff];omega]
    rfl
 ·conv=>whnf
  exact hE (fun i hi=>g2 i hi (by omega)) _
theorem zmc (hn:2 ≤ n) (d:Dk) (ok:d.Ok):C n 121 [d.av] h=some (.ret (i64 (if zau d then 0 else 2)),h):=by
 obtain ⟨m,rfl⟩:=pre1 n
 have e1:(d.secs.map AV.str).length=d.secs.length:=List.length_map ..
 have e2:(d.ws.map Wr.av).length=d.ws.length:=List.length_map ..
 refine zad F121 rfl rfl rfl (by simp [zao,za1]) ?_
 by_cases hz:1 ≤ d.secs.length ∧ d.secs.length ≤ 32768 ∧ d.ws.length ≤ 40000
 ·conv=>whnf
  refine ldI rfl ?_
  conv=>whnf
  refine brd (fun a=>absurd a (by omega)) (fun _=>?_)
  conv=>whnf
  refine ldI rfl ?_
  conv=>whnf
  refine brd (fun a=>absurd a (by omega)) (fun _=>?_)
  conv=>whnf
  refine ldI rfl ?_
  conv=>whnf
  refine brd (fun a=>absurd a (by omega)) (fun _=>?_)
  conv=>whnf
  refine ldI rfl ?_
  conv=>whnf
  refine zs9 d ok hz.2.1 ⟨⟨rfl,rfl,lenI AV.str _,rfl⟩,rfl,rfl⟩ (fun w0 L hL=>?_) (fun e L hk=>by rw [e];exact retK hk rfl)
  conv=>whnf
  refine cutI (by decide) rfl (t:=⟨[(1,.ptr 0 0 0)],[dkC d],[]⟩) ⟨hL,rfl,rfl⟩ ?_
  conv=>whnf
  refine ldI rfl ?_
  conv=>whnf
  refine zs8 (by omega) d ok hz.2.2 ⟨⟨rfl,rfl,lenI Wr.av _,rfl⟩,rfl,rfl⟩ (fun w1 L h g0 hL=>?_) (fun e L h hk=>by rw [e];exact retK hk rfl)
  conv=>whnf
  refine cutI (by decide) rfl (t:=⟨[(1,.ptr 0 0 0)],h,[]⟩) ⟨hL,rfl,rfl⟩ ?_
  conv=>whnf
  refine ldI g0 ?_
  conv=>whnf
  refine zs7 (by omega) d ok hz.2.1 g0 ⟨⟨rfl,rfl,lenI i64 _,rfl⟩,rfl,rfl⟩ (fun w2 L=>?_) (fun e L hk=>by rw [e];exact retK hk rfl)
  conv=>whnf
  refine cutI (by decide) rfl (t:=⟨[],h,[]⟩) ⟨trivial,rfl,rfl⟩ ?_
  conv=>whnf
  rw [rightD_iff.2 ⟨hz,w0,w1,w2⟩]
  exact retP rfl rfl
 ·rw [znb hz]
  repeat' (conv=>whnf);first
   | (exfalso;omega)
   | refine brd (fun _=>?_) (fun _=>?_)
   | refine bre (fun _=>?_) (fun _=>?_)
   | refine brq (fun _=>?_) (fun _=>?_)
   | refine brn (fun _=>?_) (fun _=>?_)
   | refine br (fun _=>?_) (fun _=>?_)
   | refine ldI (by rfl) ?_
   | refine ldI (zag _ _ _) ?_
   | refine ldI (zaf _ _) ?_
   | refine stJ (by rfl) ?_
   | refine stJ (zaf _ _) ?_
   | refine zI (zae (by omega) (by omega)) ?_
   | refine cutS (by decide) rfl ?_
  all_goals exact retP rfl rfl
end
end Go.Proofs
namespace Go.Proofs
open Go Go.Abs Go.ChangeShapes Go.WideShapes Go.ChangeAt Go.RowKit
theorem ty3:Tryz.prog.underlying 3=some (.int .i64):=by kernel_rfl
theorem ty9:Tryz.prog.underlying 9=some .string:=by kernel_rfl
theorem ty4:Tryz.prog.underlying 4=some .bool:=by kernel_rfl
theorem own:ownKnob Tryz.prog.godebug=none:=by kernel_rfl
theorem laid:laidOutB Tryz.prog=true:=by kernel_rfl
section
variable {H:Type}{enc:TypeId × Value → H}{W:World}{base:Nat}{sp:Nat → Bool}{held:Bool}{fuel:Nat}{cs:List Value}{x:DataW H × List MemPlace}
theorem zit {i:Nat}{v:Value}(h:(cs.drop i).take 1=[v]):cs[i]?=some v:=by
 have:((cs.drop i).take 1)[0]?=some v:=by rw [h];rfl
 simpa using this
end
theorem tyInts:Tryz.prog.underlying 44=some (.slice 3):=by kernel_rfl
theorem s3:Tryz.prog.cellsOf 3=1:=by kernel_rfl
theorem s4:Tryz.prog.cellsOf 4=1:=by kernel_rfl
theorem s9:Tryz.prog.cellsOf 9=1:=by kernel_rfl
theorem sIs:Tryz.prog.cellsOf 44=1:=by kernel_rfl
theorem z1y {S:SM}{m:BM}{sz:Nat}:∀ {l:List Int}{B q:Nat},(∀ i k,l[i]?=some k → S B (q+i*sz)=some (.int .i64 k)) → ER S m sz (l.map i64) B q
 | [],_,_,_=>by unfold ER;trivial
 | k::l,B,q,h=>by
  show ER S m sz (i64 k::l.map i64) B q
  unfold ER
  refine ⟨⟨_,by simpa using h 0 k rfl,by unfold VR;rfl⟩,z1y fun i k' he=>?_⟩
  have:=h (i+1) k' (by simpa using he)
  rwa [show q+(i+1)*sz=q+sz+i*sz by rw [Nat.add_mul];omega] at this
section
variable {H:Type}{enc:TypeId × Value → H}{W:World}{base:Nat}{sp:Nat → Bool}{held:Bool}{fuel:Nat}{cs:List Value}{x:DataW H × List MemPlace}
theorem z6s (h:DataW.trod enc Tryz.prog W base sp held fuel 44 cs=some x):∃ (l:List Int) (v:Value),cs=[v] ∧ VR (zfo W) noBM (.lst 1 (l.map i64) false) v ∧ l.length<9223372036854775808:=by
 rcases DataW.trod_slice tyInts h with ⟨rfl,_⟩ | ⟨a,len,cap,elems,rest,n,_,rfl,_,hb,hlc,hcm,hel,hi,_,_⟩
 ·exact ⟨[],_,rfl,by unfold VR;exact ⟨none,0,rfl,Nat.le_refl _,(fun h=>by cases h),fun h=>(h rfl).elim⟩,by decide⟩
 ·rw [s3] at hi
  obtain ⟨l,hl,hg⟩:=zoz (p:=fun i (k:Int)=>W.cells? base (a.add (i*1)) 1=some [.int .i64 k]) len fun i hil=>by
   have h1:=hi i hil
   have h2:elems[i]?=some (elems[i]'(by omega)):=List.getElem?_eq_getElem (by omega)
   rw [h2] at h1
   obtain ⟨cs',h3,h4⟩:=Option.bind_eq_some_iff.1 h1
   obtain ⟨k,rfl,_⟩:=z48 ty3 h4
   exact ⟨k,h3⟩
  refine ⟨l,_,rfl,?_,by rw [hl];unfold maxLen at hcm;omega⟩
  unfold VR
  refine ⟨some a,cap,by simp [hl],by simpa [hl] using hlc,(fun h=>by cases h),fun hne=>?_⟩
  have hpos:0<len:=by
   rcases Nat.eq_zero_or_pos len with h | h
   ·subst h
    have:l=[]:=List.length_eq_zero_iff.1 hl
    subst this
    exact (hne rfl).elim
   ·exact h
  have hspot:a.spot=none:=by
   have h1:=hg 0 l[0] (List.getElem?_eq_getElem (by omega))
   obtain ⟨_,h3,h4⟩:=World.cells?_some h1
   have h5:=h4 0 (by decide)
   have:=World.cell?_spot h5
   simpa [Addr.add] using this
  obtain ⟨B,q,spot⟩:=a
  simp only at hspot
  subst hspot
  refine ⟨B,q,rfl,z1y fun i k hk=>?_⟩
  have h1:=hg i k hk
  obtain ⟨_,h3,h4⟩:=World.cells?_some h1
  have h6:=h4 0 (by decide)
  have e7:((⟨B,q,none⟩ : Addr).add (i*1)).add 0=⟨B,q+i*1,none⟩:=by
   unfold Addr.add
   by_cases e1:i=0<;>simp [e1]
  rw [e7] at h6
  exact h6
theorem two_of {v0 v1:Value}(hl:cs.length=2) (g0:cs[0]?=some v0) (g1:cs[1]?=some v1):cs=[v0,v1]:=by
 match cs,hl with
 | [a,b],_=>simp at g0 g1;rw [g0,g1]
end
theorem tyWr:∃ fs:Array Field,Tryz.prog.underlying 52=some (.struct fs) ∧ ∃ (f0 f1:Field),fs[0]?=some f0 ∧ fs[1]?=some f1 ∧ f0.type=3 ∧ f1.type=9 ∧ f0.offset=0 ∧ f1.offset=1 :=
 ⟨_,Tryz.underlying52,_,_,rfl,rfl,rfl,rfl,rfl,rfl⟩
theorem z45:∃ fs:Array Field,Tryz.prog.underlying 46=some (.struct fs) ∧ ∃ (f0 f1 f2:Field),fs[0]?=some f0 ∧ fs[1]?=some f1 ∧ fs[2]?=some f2 ∧ f0.type=42 ∧ f1.type=43 ∧ f2.type=44 ∧ f0.offset=0 ∧ f1.offset=1 ∧ f2.offset=2 :=
 ⟨_,Tryz.underlying46,_,_,_,rfl,rfl,rfl,rfl,rfl,rfl,rfl,rfl,rfl⟩
theorem tyStrs:Tryz.prog.underlying 42=some (.slice 9):=by kernel_rfl
theorem tyWrs:Tryz.prog.underlying 43=some (.slice 52):=by kernel_rfl
theorem szWr:Tryz.prog.cellsOf 52=2:=by kernel_rfl
theorem szDisk:Tryz.prog.cellsOf 46=3:=by kernel_rfl
theorem sSs:Tryz.prog.cellsOf 42=1:=by kernel_rfl
theorem sWs:Tryz.prog.cellsOf 43=1:=by kernel_rfl
theorem z1x {S:SM}{m:BM}{sz:Nat}:∀ {l:List Str}{B q:Nat},(∀ i k,l[i]?=some k → S B (q+i*sz)=some (.string ⟨k.toArray⟩)) → ER S m sz (l.map .str) B q
 | [],_,_,_=>by unfold ER;trivial
 | k::l,B,q,h=>by
  show ER S m sz (.str k::l.map .str) B q
  unfold ER
  refine ⟨⟨_,by simpa using h 0 k rfl,by unfold VR;rfl⟩,z1x fun i k' he=>?_⟩
  have:=h (i+1) k' (by simpa using he)
  rwa [show q+(i+1)*sz=q+sz+i*sz by rw [Nat.add_mul];omega] at this
section
variable {H:Type}{enc:TypeId × Value → H}{W:World}{base:Nat}{sp:Nat → Bool}{held:Bool}{fuel:Nat}{cs:List Value}{x:DataW H × List MemPlace}
theorem z6p (h:DataW.trod enc Tryz.prog W base sp held fuel 42 cs=some x):∃ (l:List Str) (v:Value),cs=[v] ∧ VR (zfo W) noBM (.lst 1 (l.map .str) false) v:=by
 rcases DataW.trod_slice tyStrs h with ⟨rfl,_⟩ | ⟨a,len,cap,elems,rest,n,_,rfl,_,hb,hlc,hcm,hel,hi,_,_⟩
 ·exact ⟨[],_,rfl,by unfold VR;exact ⟨none,0,rfl,Nat.le_refl _,(fun h=>by cases h),fun h=>(h rfl).elim⟩⟩
 ·rw [s9] at hi
  obtain ⟨l,hl,hg⟩:=zoz (p:=fun i (k:Str)=>W.cells? base (a.add (i*1)) 1=some [.string ⟨k.toArray⟩]) len fun i hil=>by
   have h1:=hi i hil
   have h2:elems[i]?=some (elems[i]'(by omega)):=List.getElem?_eq_getElem (by omega)
   rw [h2] at h1
   obtain ⟨cs',h3,h4⟩:=Option.bind_eq_some_iff.1 h1
   obtain ⟨k,rfl⟩:=z47 ty9 h4
   exact ⟨k,h3⟩
  refine ⟨l,_,rfl,?_⟩
  unfold VR
  refine ⟨some a,cap,by simp [hl],by simpa [hl] using hlc,(fun h=>by cases h),fun hne=>?_⟩
  have hpos:0<len:=by
   rcases Nat.eq_zero_or_pos len with h | h
   ·subst h
    have:l=[]:=List.length_eq_zero_iff.1 hl
    subst this
    exact (hne rfl).elim
   ·exact h
  have hspot:a.spot=none:=by
   have h1:=hg 0 l[0] (List.getElem?_eq_getElem (by omega))
   obtain ⟨_,h3,h4⟩:=World.cells?_some h1
   have h5:=h4 0 (by decide)
   have:=World.cell?_spot h5
   simpa [Addr.add] using this
  obtain ⟨B,q,spot⟩:=a
  simp only at hspot
  subst hspot
  refine ⟨B,q,rfl,z1x fun i k hk=>?_⟩
  have h1:=hg i k hk
  obtain ⟨_,h3,h4⟩:=World.cells?_some h1
  have h6:=h4 0 (by decide)
  have e7:((⟨B,q,none⟩ : Addr).add (i*1)).add 0=⟨B,q+i*1,none⟩:=by
   unfold Addr.add
   by_cases e1:i=0<;>simp [e1]
  rw [e7] at h6
  exact h6
theorem rd_wr (h:DataW.trod enc Tryz.prog W base sp held fuel 52 cs=some x):∃ f:Wr,VRs (zfo W) noBM f.cells cs ∧ True:=by
 obtain ⟨fs,hfs,f0,f1,h0,h1,t0,t1,o0,o1⟩:=tyWr
 obtain ⟨xs,n,_,_,hl,hx,hi⟩:=DataW.trod_struct hfs h
 rw [szWr] at hl
 have get:∀ (i:Nat) (f:Field),fs[i]?=some f → ∃ y,DataW.trod enc Tryz.prog W base sp held n f.type ((cs.drop f.offset).take (Tryz.prog.cellsOf f.type))=some y:=fun i f hf=>by
  have h:=hi i f hf
  have:i<fs.size:=(Array.getElem?_eq_some_iff.1 hf).1
  rw [List.getElem?_eq_getElem (by omega)] at h
  exact ⟨_,h⟩
 obtain ⟨_,y0⟩:=get 0 f0 h0
 obtain ⟨_,y1⟩:=get 1 f1 h1
 rw [t0,o0,s3] at y0
 rw [t1,o1,s9] at y1
 obtain ⟨k,e0,_⟩:=z48 ty3 y0
 obtain ⟨s,e1⟩:=z47 ty9 y1
 have hcs:=two_of hl (zit e0) (zit e1)
 refine ⟨⟨k,s⟩,?_,trivial⟩
 rw [hcs]
 exact @zj5 _ _ [_] _ [_] _ (zg3 (a:=i64 k) (by unfold VR;rfl)) (zg3 (a:=.str s) (by unfold VR;rfl))
theorem z2d {v0 v1 v2:Value}(hl:cs.length=3) (g0:cs[0]?=some v0) (g1:cs[1]?=some v1) (g2:cs[2]?=some v2):cs=[v0,v1,v2]:=by
 match cs,hl with
 | [a,b,c],_=>simp at g0 g1 g2;rw [g0,g1,g2]
theorem z6t (h:DataW.trod enc Tryz.prog W base sp held fuel 46 cs=some x):∃ d:Dk,VRs (zfo W) noBM d.cells cs ∧ d.Ok:=by
 obtain ⟨fs,hfs,f0,f1,f2,h0,h1,h2,t0,t1,t2,o0,o1,o2⟩:=z45
 obtain ⟨xs,n,_,_,hl,hx,hi⟩:=DataW.trod_struct hfs h
 rw [szDisk] at hl
 have get:∀ (i:Nat) (f:Field),fs[i]?=some f → ∃ y,DataW.trod enc Tryz.prog W base sp held n f.type ((cs.drop f.offset).take (Tryz.prog.cellsOf f.type))=some y:=fun i f hf=>by
  have h:=hi i f hf
  have:i<fs.size:=(Array.getElem?_eq_some_iff.1 hf).1
  rw [List.getElem?_eq_getElem (by omega)] at h
  exact ⟨_,h⟩
 obtain ⟨_,y0⟩:=get 0 f0 h0
 obtain ⟨_,y1⟩:=get 1 f1 h1
 obtain ⟨_,y2⟩:=get 2 f2 h2
 rw [t0,o0,sSs] at y0
 rw [t1,o1,sWs] at y1
 rw [t2,o2,sIs] at y2
 obtain ⟨ss,v0,e0,g0⟩:=z6p y0
 obtain ⟨ws,v1,e1,g1,_⟩:=z29 (g:=Wr.cells) (ok:=fun _=>True) tyWrs szWr (by decide) (fun fuel cs x h=>rd_wr h) y1
 obtain ⟨bs,v2,e2,g2,l2⟩:=z6s y2
 have hcs:=z2d hl (zit e0) (zit e1) (zit e2)
 refine ⟨⟨⟨1,false⟩,ss,⟨2,false⟩,ws,⟨1,false⟩,bs⟩,?_,fun _=>rfl,fun _=>rfl,fun _=>rfl,by simp only [KK];omega⟩
 rw [hcs]
 exact @zj5 _ _ [_] _ [_] _ (zg3 g0) (@zj5 _ _ [_] _ [_] _ (zg3 g1) (zg3 g2))
end
end Go.Proofs
namespace Go.Proofs
open Go Go.Abs
section
variable {n:Nat}{h:zaa}
theorem zp4 {m:Nat}(d:Dk) (ok:d.Ok) (hl:d.secs.length ≤ 32768) {Q:Ex → LS → Prop}{s:LS}
  (hs:LS.sub ⟨[(1,.ptr 0 0 0),(3,i64 d.secs.length),(4,i64 0)],[dkC d],[]⟩ s)
  (hE:(∀ s∈d.secs,s.length=64) → ∀ L,subL [(1,.ptr 0 0 0),(3,i64 d.secs.length)] L → Q (.exit 0) ⟨L,[dkC d],[]⟩) (hR:zau d=false → ∀ L,lk L 2=some (.bool false) → Q .ret ⟨L,[dkC d],[]⟩) :
  OkR Tryz.prog (C m) cfg0.inl KK 108 7 (.loop (c74.lp 0)) s Q:=by
 refine za3 (by decide) rfl (α:=Nat) (fun j=>⟨[(1,.ptr 0 0 0),(3,i64 d.secs.length),(4,i64 j)],[dkC d],[]⟩) (fun j=>j ≤ d.secs.length ∧ ∀ i (hi:i<d.secs.length),i<j → d.secs[i].length=64) (fun j=>d.secs.length-j) 0 hs ⟨Nat.zero_le _,fun i _ hi=>absurd hi (Nat.not_lt_zero _)⟩ (by simp only [KK];omega) ?_
 rintro j ⟨g1,g2⟩
 conv=>whnf
 refine brd (fun a=>?_) (fun a=>?_)
 ·have hj:j<d.secs.length:=by omega
  conv=>whnf
  refine ldI rfl ?_
  conv=>whnf
  refine ixL ziu hj ok.ss ?_
  conv=>whnf
  refine brq (fun q=>?_) (fun q=>?_)
  ·conv=>whnf
   exact hR (zqb hj (by omega)) _ rfl
  ·conv=>whnf
   refine zJ j ?_
   refine nxI (j+1) ⟨hj,fun i hi hi2=>?_⟩ (by omega) ⟨⟨rfl,rfl,rfl⟩,rfl,rfl⟩
   by_cases e:i=j
   ·subst e;omega
   ·exact g2 i hi (by omega)
 ·conv=>whnf
  refine hE (fun s hs=>?_) _ ⟨rfl,rfl⟩
  obtain ⟨i,hi,rfl⟩:=List.getElem_of_mem hs
  exact g2 i hi (by omega)
theorem zp3 {m:Nat}(d:Dk) (ok:d.Ok) (hl:d.ws.length ≤ 40000) {Q:Ex → LS → Prop}{s:LS}
  (hs:LS.sub ⟨[(1,.ptr 0 0 0),(3,i64 d.secs.length),(5,i64 0)],[dkC d],[]⟩ s)
  (hE:(∀ w∈d.ws,wrOk d.secs.length w=true) → ∀ L,subL [(1,.ptr 0 0 0),(3,i64 d.secs.length)] L → Q (.exit 2) ⟨L,[dkC d],[]⟩) (hR:zau d=false → ∀ L,lk L 2=some (.bool false) → Q .ret ⟨L,[dkC d],[]⟩) :
  OkR Tryz.prog (C m) cfg0.inl KK 108 7 (.loop (c74.lp 1)) s Q:=by
 refine za3 (by decide) rfl (α:=Nat) (fun j=>⟨[(1,.ptr 0 0 0),(3,i64 d.secs.length),(5,i64 j)],[dkC d],[]⟩) (fun j=>j ≤ d.ws.length ∧ ∀ i (hi:i<d.ws.length),i<j → wrOk d.secs.length d.ws[i]=true) (fun j=>d.ws.length-j) 0 hs ⟨Nat.zero_le _,fun i _ hi=>absurd hi (Nat.not_lt_zero _)⟩ (by simp only [KK];omega) ?_
 rintro j ⟨g1,g2⟩
 have e2:(d.ws.map Wr.av).length=d.ws.length:=List.length_map ..
 conv=>whnf
 refine ldI rfl ?_
 conv=>whnf
 refine brd (fun a=>?_) (fun a=>?_)
 ·have hj:j<d.ws.length:=by omega
  have bad:wrOk d.secs.length d.ws[j]=false → ∀ L,lk L 2=some (.bool false) → Q .ret ⟨L,[dkC d],[]⟩:=fun e=>hR (zok hj e)
  conv=>whnf
  refine ldI rfl ?_
  conv=>whnf
  refine ixL zey hj ok.sw ?_
  conv=>whnf
  refine brd (fun q=>?_) (fun q=>?_)
  ·conv=>whnf
   exact bad (by unfold wrOk;rw [show decide (0 ≤ d.ws[j].sec)=false by rw [decide_eq_false_iff_not];omega,Bool.false_and]) _ rfl
  conv=>whnf
  refine ldI rfl ?_
  conv=>whnf
  refine ixL zey hj ok.sw ?_
  conv=>whnf
  refine brd (fun q1=>?_) (fun q1=>?_)
  ·conv=>whnf
   exact bad (by unfold wrOk;rw [show decide (d.ws[j].sec<d.secs.length)=false by rw [decide_eq_false_iff_not];omega,Bool.false_and,Bool.and_false]) _ rfl
  conv=>whnf
  refine ldI rfl ?_
  conv=>whnf
  refine ixL zey hj ok.sw ?_
  conv=>whnf
  refine brq (fun q2=>?_) (fun q2=>?_)
  ·conv=>whnf
   exact bad (by unfold wrOk;rw [show decide (d.ws[j].data.length=64)=false by rw [decide_eq_false_iff_not];omega,Bool.and_false,Bool.and_false]) _ rfl
  ·conv=>whnf
   refine zJ j ?_
   refine nxI (j+1) ⟨hj,fun i hi hi2=>?_⟩ (by omega) ⟨⟨rfl,rfl,rfl⟩,rfl,rfl⟩
   by_cases e:i=j
   ·subst e
    unfold wrOk
    simp only [Bool.and_eq_true,decide_eq_true_eq]
    omega
   ·exact g2 i hi (by omega)
 ·conv=>whnf
  refine hE (fun w hw=>?_) _ ⟨rfl,rfl⟩
  obtain ⟨i,hi,rfl⟩:=List.getElem_of_mem hw
  exact g2 i hi (by omega)
theorem ztf {d:Dk}(hl:d.secs.length ≤ 32768) {j:Nat}(hj:j ≤ d.bad.length) (g:∀ i,i<d.bad.length → i<j → zdn d.secs.length d.bad i=true):j ≤ 32768:=by
 have inc:∀ i,i<j → (i:Int) ≤ d.bad.getD i 0 ∧ d.bad.getD i 0<d.secs.length:=fun i=>by
  induction i with
  | zero =>
   intro hi
   have:=g 0 (by omega) hi
   simp only [zdn,Bool.and_eq_true,decide_eq_true_eq] at this
   omega
  | succ k ih =>
   intro hi
   have:=g (k+1) (by omega) hi
   simp only [zdn,Bool.and_eq_true,Bool.or_eq_true,decide_eq_true_eq,Nat.add_sub_cancel] at this
   have:=ih (by omega)
   omega
 rcases Nat.eq_zero_or_pos j with e | e
 ·omega
 ·have:=inc (j-1) (by omega);omega
end
def curW (ws:List Wr) (s:Str) (x:Int):Str:=ws.foldl (fun a w=>if w.sec=x then w.data else a) s
def frW (ws:List Wr) (x:Int):Bool:=ws.foldl (fun a w=>a||decide (w.sec=x)) false
theorem zjf (ws:List Wr) (w:Wr) (s:Str) (x:Int):curW (ws++[w]) s x=if w.sec=x then w.data else curW ws s x:=by simp [curW,List.foldl_append]
theorem zkw (ws:List Wr) (w:Wr) (x:Int):frW (ws++[w]) x=(frW ws x||decide (w.sec=x)):=by simp [frW,List.foldl_append]
theorem zdu {α:Type}{l:List α}{j:Nat}(hj:j<l.length):l.take (j+1)=l.take j++[l[j]]:=List.take_succ_eq_append_getElem hj
def nowL (d:Dk) (k n j:Nat):List Str:=(List.range n).map fun i=>curW (d.ws.take j) (d.secs.getD (k+i) []) ((k+i:Nat):Int)
def frL (d:Dk) (k n j:Nat):List Bool:=(List.range n).map fun i=>frW (d.ws.take j) ((k+i:Nat):Int)
theorem zb8 (d:Dk) (k n j:Nat):(nowL d k n j).length=n:=by simp [nowL]
theorem zf0 (d:Dk) (k n j:Nat):(frL d k n j).length=n:=by simp [frL]
theorem zzf {d:Dk}{k n:Nat}(h:k+n ≤ d.secs.length):nowL d k n 0=(d.secs.take (k+n)).drop k:=by
 apply List.ext_getElem
 ·rw [zb8,List.length_drop,List.length_take];omega
 ·intro i h1 h2
  rw [zb8] at h1
  simp [nowL,curW,List.getD_eq_getElem?_getD,List.getElem?_eq_getElem (show k+i<d.secs.length by omega)]
theorem z4c {d:Dk}{k n:Nat}:frL d k n 0=List.replicate n false:=by
 apply List.ext_getElem
 ·rw [zf0,List.length_replicate]
 ·intro i h1 h2
  simp [frL,frW]
theorem zud {d:Dk}{k n j i:Nat}(hi:i<(nowL d k n j).length):(nowL d k n j)[i]=curW (d.ws.take j) (d.secs.getD (k+i) []) ((k+i:Nat):Int):=by
 simp [nowL]
theorem z0f {d:Dk}{k n j i:Nat}(hi:i<(frL d k n j).length):(frL d k n j)[i]=frW (d.ws.take j) ((k+i:Nat):Int):=by
 simp [frL]
theorem z3o {d:Dk}{k n j i:Nat}(hj:j<d.ws.length) (e:d.ws[j].sec=((k+i:Nat):Int)):nowL d k n (j+1)=(nowL d k n j).set i d.ws[j].data:=by
 apply List.ext_getElem
 ·rw [List.length_set,zb8,zb8]
 ·intro x h1 h2
  rw [zud,List.getElem_set,zdu hj,zjf,e]
  by_cases c:i=x
  ·subst c;rw [if_pos rfl,if_pos rfl]
  ·rw [if_neg (by omega),if_neg c,zud]
theorem zzh {d:Dk}{k n j:Nat}(hj:j<d.ws.length) (e:∀ i,i<n → d.ws[j].sec≠((k+i:Nat):Int)):nowL d k n (j+1)=nowL d k n j:=by
 apply List.ext_getElem
 ·rw [zb8,zb8]
 ·intro x h1 h2
  rw [zb8] at h1
  rw [zud,zud,zdu hj,zjf,if_neg (e x h1)]
theorem z7u {d:Dk}{k n j i:Nat}(hj:j<d.ws.length) (e:d.ws[j].sec=((k+i:Nat):Int)):frL d k n (j+1)=(frL d k n j).set i true:=by
 apply List.ext_getElem
 ·rw [List.length_set,zf0,zf0]
 ·intro x h1 h2
  rw [z0f,List.getElem_set,zdu hj,zkw,e]
  by_cases c:i=x
  ·subst c;rw [if_pos rfl];simp
  ·rw [if_neg c,z0f,decide_eq_false (by omega),Bool.or_false]
theorem z4d {d:Dk}{k n j:Nat}(hj:j<d.ws.length) (e:∀ i,i<n → d.ws[j].sec≠((k+i:Nat):Int)):frL d k n (j+1)=frL d k n j:=by
 apply List.ext_getElem
 ·rw [zf0,zf0]
 ·intro x h1 h2
  rw [zf0] at h1
  rw [z0f,z0f,zdu hj,zkw,decide_eq_false (e x h1),Bool.or_false]
def curD (d:Dk) (x:Nat):Str:=curW d.ws (d.secs.getD x []) (x:Int)
def canD (d:Dk) (x:Nat):Bool:=frW d.ws (x:Int)||!(d.bad.contains (x:Int))
def zcs (d:Dk) (k n:Nat):Bool:=(List.range n).all fun i=>canD d (k+i)
def zdt (d:Dk) (k n:Nat):Str:=(List.range n).flatMap fun i=>curD d (k+i)
theorem allCan_iff {d:Dk}{k n:Nat}:zcs d k n=true ↔ ∀ i,i<n → canD d (k+i)=true:=by simp [zcs]
theorem z3p (d:Dk) (k n:Nat):nowL d k n d.ws.length=(List.range n).map fun i=>curD d (k+i):=by
 simp only [nowL,curD,List.take_length]
theorem zzg (d:Dk) (k n:Nat):(nowL d k n d.ws.length).flatten=zdt d k n:=by
 rw [z3p,zdt,List.flatMap_def]
theorem z75 {d:Dk}{k n:Nat}(h:∀ j (hj:j<d.bad.length),d.bad[j]<k ∨ (k+n:Nat) ≤ d.bad[j] ∨ frW d.ws d.bad[j]=true):zcs d k n=true:=by
 rw [allCan_iff]
 intro i hi
 unfold canD
 cases c:d.bad.contains ((k+i:Nat):Int) with
 | false=>simp
 | true =>
  have:=List.contains_iff_mem.1 c
  obtain ⟨j,hj,e⟩:=List.getElem_of_mem this
  rcases h j hj with q | q | q
  ·omega
  ·omega
  ·rw [e] at q;rw [q];rfl
theorem z8c {d:Dk}{k n j:Nat}(hj:j<d.bad.length) (h1:((k:Nat):Int) ≤ d.bad[j]) (h2:d.bad[j]<(k+n:Nat)) (h3:frW d.ws d.bad[j]=false):zcs d k n=false:=by
 cases c:zcs d k n with
 | false=>rfl
 | true =>
  rw [allCan_iff] at c
  have:=c (d.bad[j] - k).toNat (by omega)
  unfold canD at this
  rw [show ((k+(d.bad[j] - (k:Int)).toNat:Nat):Int)=d.bad[j] by omega,h3,List.contains_iff_mem.2 (List.getElem_mem hj)] at this
  cases this
theorem z0x {d:Dk}(hr:zau d=true) {x:Nat}(hx:x<d.secs.length):(curD d x).length=64:=by
 have g:=rightD_iff.1 hr
 have:∀ ws:List Wr,(∀ w∈ws,w.data.length=64) → ∀ s:Str,s.length=64 → (curW ws s x).length=64:=fun ws=>by
  unfold curW
  induction ws with
  | nil=>intro _ s hs;exact hs
  | cons w ws ih =>
   intro hw s hs
   refine ih (fun v hv=>hw v (by simp [hv])) _ ?_
   show (if w.sec=(x:Int) then w.data else s).length=64
   split
   ·exact hw w (by simp)
   ·exact hs
 refine this d.ws (fun w hw=>?_) _ ?_
 ·have:=g.2.2.1 w hw
  unfold wrOk at this
  simp only [Bool.and_eq_true,decide_eq_true_eq] at this
  exact this.2.2
 ·rw [List.getD_eq_getElem?_getD,List.getElem?_eq_getElem hx]
  exact g.2.1 _ (List.getElem_mem hx)
theorem zk3 {d:Dk}(hr:zau d=true) {k n:Nat}(h:k+n ≤ d.secs.length):(zdt d k n).length=64*n:=by
 induction n with
 | zero=>rfl
 | succ n ih =>
  unfold zdt at ih ⊢
  rw [List.range_succ,List.flatMap_append,List.length_append,ih (by omega),List.flatMap_singleton,z0x hr (by omega)]
  omega
theorem zvb (d:Dk) (k n:Nat):zdt d k (n+1)=zdt d k n++curD d (k+n):=by
 unfold zdt
 rw [List.range_succ,List.flatMap_append,List.flatMap_singleton]
theorem z4o {ws:List Wr}{s:Str}{x:Int}{i:Nat}(hi:i<ws.length) (e:ws[i].sec=x) (h:∀ j (hj:j<ws.length),i<j → ws[j].sec≠x):curW ws s x=ws[i].data ∧ frW ws x=true:=by
 have step:∀ m,i<m → m ≤ ws.length → curW (ws.take m) s x=ws[i].data ∧ frW (ws.take m) x=true:=fun m=>by
  induction m with
  | zero=>intro h;omega
  | succ m ih =>
   intro h1 h2
   rw [zdu (show m<ws.length by omega),zjf,zkw]
   by_cases c:i=m
   ·subst c;rw [if_pos e,decide_eq_true e];simp
   ·have:=ih (by omega) (by omega)
    rw [if_neg (h m (by omega) (by omega)),this.1,this.2]
    exact ⟨rfl,rfl⟩
 have:=step ws.length hi (Nat.le_refl _)
 rwa [List.take_length] at this
theorem z4n {ws:List Wr}{s:Str}{x:Int}(h:∀ j (hj:j<ws.length),ws[j].sec≠x):curW ws s x=s ∧ frW ws x=false:=by
 have step:∀ m,m ≤ ws.length → curW (ws.take m) s x=s ∧ frW (ws.take m) x=false:=fun m=>by
  induction m with
  | zero=>intro _;exact ⟨rfl,rfl⟩
  | succ m ih =>
   intro h2
   rw [zdu (show m<ws.length by omega),zjf,zkw,if_neg (h m (by omega)),decide_eq_false (h m (by omega)),(ih (by omega)).1,(ih (by omega)).2]
   exact ⟨rfl,rfl⟩
 have:=step ws.length (Nat.le_refl _)
 rwa [List.take_length] at this
theorem zeq {α:Type}{l:List α}{j:Nat}(hj:j<l.length):l≠[]:=fun e=>by subst e;simp at hj
theorem zig {α:Type}(f:α → AV) {l:List α}{j:Nat}(hj:j<l.length):(l.map f)[(j:Int).toNat]?=some (f l[j]):=by simp [hj]
section
variable {n:Nat}{h:zaa}
theorem zp2 {m:Nat}(d:Dk) (ok:d.Ok) (hl:d.secs.length ≤ 32768) {Q:Ex → LS → Prop}{s:LS}
  (hs:LS.sub ⟨[(1,.ptr 0 0 0),(3,i64 d.secs.length),(6,i64 0)],[dkC d],[]⟩ s)
  (hE:(∀ i,i<d.bad.length → zdn d.secs.length d.bad i=true) → ∀ L,Q (.exit 4) ⟨L,[dkC d],[]⟩) (hR:zau d=false → ∀ L,lk L 2=some (.bool false) → Q .ret ⟨L,[dkC d],[]⟩) :
  OkR Tryz.prog (C m) cfg0.inl KK 108 7 (.loop (c74.lp 2)) s Q:=by
 refine za3 (by decide) rfl (α:=Nat) (fun j=>⟨[(1,.ptr 0 0 0),(3,i64 d.secs.length),(6,i64 j)],[dkC d],[]⟩) (fun j=>j ≤ d.bad.length ∧ ∀ i,i<d.bad.length → i<j → zdn d.secs.length d.bad i=true) (fun j=>d.bad.length-j) 0 hs ⟨Nat.zero_le _,fun i _ hi=>absurd hi (Nat.not_lt_zero _)⟩ (by simpa using ok.nb) ?_
 rintro j ⟨g1,g2⟩
 have hj3:=ztf hl g1 g2
 have e2:(d.bad.map i64).length=d.bad.length:=List.length_map ..
 conv=>whnf
 refine ldI rfl ?_
 conv=>whnf
 refine brd (fun a=>?_) (fun a=>?_)
 ·have hj:j<d.bad.length:=by omega
  have nxt:zdn d.secs.length d.bad j=true → ∀ i,i<d.bad.length → i<j+1 → zdn d.secs.length d.bad i=true:=fun e i hi hi2=>by
   by_cases c:i=j
   ·subst c;exact e
   ·exact g2 i hi (by omega)
  have bad:zdn d.secs.length d.bad j=false → ∀ L,lk L 2=some (.bool false) → Q .ret ⟨L,[dkC d],[]⟩:=fun e=>hR (zld hj e)
  have ej:=zly hj
  conv=>whnf
  refine ldI rfl ?_
  conv=>whnf
  refine ⟨by omega,ok.sb (zeq hj),i64 d.bad[j],zig i64 hj,[i64 d.bad[j]],rfl,?_⟩
  conv=>whnf
  refine brd (fun q=>?_) (fun q=>?_)
  ·conv=>whnf
   exact bad (by unfold zdn;rw [ej,show decide (0 ≤ d.bad[j])=false by rw [decide_eq_false_iff_not];omega,Bool.false_and]) _ rfl
  conv=>whnf
  refine ldI rfl ?_
  conv=>whnf
  refine ⟨by omega,ok.sb (zeq hj),i64 d.bad[j],zig i64 hj,[i64 d.bad[j]],rfl,?_⟩
  conv=>whnf
  refine brd (fun q1=>?_) (fun q1=>?_)
  ·conv=>whnf
   exact bad (by unfold zdn;rw [ej,show decide (d.bad[j]<d.secs.length)=false by rw [decide_eq_false_iff_not];omega,Bool.false_and,Bool.and_false]) _ rfl
  have hbj:zdn d.secs.length d.bad j=(decide (j=0)||decide (d.bad.getD (j-1) 0<d.bad[j])):=by
   unfold zdn
   rw [ej,show decide (0 ≤ d.bad[j])=true by rw [decide_eq_true_iff];omega,show decide (d.bad[j]<d.secs.length)=true by rw [decide_eq_true_iff];omega]
   rfl
  conv=>whnf
  refine brd (fun q2=>?_) (fun q2=>?_)
  ·have hj1:j-1<d.bad.length:=by omega
   rw [zly hj1,show decide (j=0)=false by rw [decide_eq_false_iff_not];omega,Bool.false_or] at hbj
   conv=>whnf
   refine ldI rfl ?_
   conv=>whnf
   refine ⟨by omega,ok.sb (zeq hj),i64 d.bad[j],zig i64 hj,[i64 d.bad[j]],rfl,?_⟩
   conv=>whnf
   refine ldI rfl ?_
   conv=>whnf
   refine zI (z:=((j-1:Nat):Int)) (by rw [zae (by omega) (by omega)];omega) ?_
   conv=>whnf
   refine ⟨by omega,ok.sb (zeq hj1),i64 d.bad[j-1],zig i64 hj1,[i64 d.bad[j-1]],rfl,?_⟩
   conv=>whnf
   refine brd (fun q3=>?_) (fun q3=>?_)
   ·conv=>whnf
    exact bad (by rw [hbj,decide_eq_false_iff_not];omega) _ rfl
   ·conv=>whnf
    refine zJ j ?_
    exact nxI (j+1) ⟨hj,nxt (by rw [hbj,decide_eq_true_iff];omega)⟩ (by omega) ⟨⟨rfl,rfl,rfl⟩,rfl,rfl⟩
  ·conv=>whnf
   refine zJ j ?_
   exact nxI (j+1) ⟨hj,nxt (by rw [hbj,show decide (j=0)=true by rw [decide_eq_true_iff];omega];rfl)⟩ (by omega) ⟨⟨rfl,rfl,rfl⟩,rfl,rfl⟩
 ·conv=>whnf
  exact hE (fun i hi=>g2 i hi (by omega)) _
theorem zel (hn:1 ≤ n) (d:Dk) (ok:d.Ok):C n 74 [d.av] h=some (.ret (.bool (zau d)),h):=by
 obtain ⟨m,rfl⟩:=pre1 n
 have e1:(d.secs.map AV.str).length=d.secs.length:=List.length_map ..
 have e2:(d.ws.map Wr.av).length=d.ws.length:=List.length_map ..
 refine zad F74 rfl rfl rfl (by simp [zao,za1]) ?_
 by_cases hz:1 ≤ d.secs.length ∧ d.secs.length ≤ 32768 ∧ d.ws.length ≤ 40000
 ·conv=>whnf
  refine ldI rfl ?_
  conv=>whnf
  refine brd (fun a=>absurd a (by omega)) (fun _=>?_)
  conv=>whnf
  refine brd (fun a=>absurd a (by omega)) (fun _=>?_)
  conv=>whnf
  refine ldI rfl ?_
  conv=>whnf
  refine brd (fun a=>absurd a (by omega)) (fun _=>?_)
  conv=>whnf
  refine zp4 d ok hz.2.1 ⟨⟨rfl,lenI AV.str _,rfl⟩,rfl,rfl⟩ (fun w0 L hL=>?_) (fun e L hk=>by rw [e];exact retK hk rfl)
  conv=>whnf
  refine cutI (by decide) rfl (t:=⟨[(1,.ptr 0 0 0),(3,i64 d.secs.length)],[dkC d],[]⟩) ⟨hL,rfl,rfl⟩ ?_
  conv=>whnf
  refine zp3 d ok hz.2.2 ⟨⟨rfl,rfl,rfl⟩,rfl,rfl⟩ (fun w1 L hL=>?_) (fun e L hk=>by rw [e];exact retK hk rfl)
  conv=>whnf
  refine cutI (by decide) rfl (t:=⟨[(1,.ptr 0 0 0),(3,i64 d.secs.length)],[dkC d],[]⟩) ⟨hL,rfl,rfl⟩ ?_
  conv=>whnf
  refine zp2 d ok hz.2.1 ⟨⟨rfl,rfl,rfl⟩,rfl,rfl⟩ (fun w2 L=>?_) (fun e L hk=>by rw [e];exact retK hk rfl)
  conv=>whnf
  refine cutI (by decide) rfl (t:=⟨[],[dkC d],[]⟩) ⟨trivial,rfl,rfl⟩ ?_
  conv=>whnf
  rw [rightD_iff.2 ⟨hz,w0,w1,w2⟩]
  exact retP rfl rfl
 ·rw [znb hz]
  repeat' (conv=>whnf);first
   | (exfalso;omega)
   | refine brd (fun _=>?_) (fun _=>?_)
   | refine bre (fun _=>?_) (fun _=>?_)
   | refine brq (fun _=>?_) (fun _=>?_)
   | refine brn (fun _=>?_) (fun _=>?_)
   | refine br (fun _=>?_) (fun _=>?_)
   | refine ldI (by rfl) ?_
   | refine ldI (zag _ _ _) ?_
   | refine ldI (zaf _ _) ?_
   | refine stJ (by rfl) ?_
   | refine stJ (zaf _ _) ?_
   | refine zI (zae (by omega) (by omega)) ?_
   | refine cutS (by decide) rfl ?_
  all_goals exact retP rfl rfl
end
section
variable {n:Nat}{h:zaa}
theorem z6i (hn:1 ≤ n) (l:List Int) (hl:l.length ≤ 32768) (sz:Nat) (hz:l≠[] → sz=1) (c:Bool) (x:Int):C n 208 [.lst sz (l.map i64) c,i64 x] h=some (.ret (.bool (l.contains x)),h):=by
 obtain ⟨m,rfl⟩:=pre1 n
 have e1:(l.map i64).length=l.length:=List.length_map ..
 refine zad F208 rfl rfl rfl (by simp [zao,AV.pureB,zdq zul]) ?_
 conv=>whnf
 refine za3 (by decide) rfl (α:=Nat) (fun j=>⟨[(0,.lst sz (l.map i64) c),(1,i64 x),(5,i64 j)],[],[]⟩) (fun j=>j ≤ l.length ∧ ∀ i (hi:i<l.length),i<j → l[i]≠x) (fun j=>l.length-j) 0 ⟨⟨rfl,rfl,rfl⟩,rfl,rfl⟩ ⟨Nat.zero_le _,fun i _ hi=>absurd hi (Nat.not_lt_zero _)⟩ (by simp only [KK];omega) ?_
 rintro j ⟨g1,g2⟩
 conv=>whnf
 refine brd (fun a=>?_) (fun a=>?_)
 ·have hj:j<l.length:=by omega
  conv=>whnf
  refine ixL zeu hj hz ?_
  conv=>whnf
  refine bre (fun q=>?_) (fun q=>?_)
  ·conv=>whnf
   refine retP rfl (zai ?_)
   rw [List.contains_iff_mem.2 (q ▸ List.getElem_mem hj)]
  ·conv=>whnf
   refine zJ j ?_
   refine nxI (j+1) ⟨hj,fun i hi hi2=>?_⟩ (by omega) ⟨⟨rfl,rfl,rfl⟩,rfl,rfl⟩
   by_cases e:i=j
   ·subst e;exact q
   ·exact g2 i hi (by omega)
 ·conv=>whnf
  refine cutI (by decide) rfl (t:=⟨[],[],[]⟩) ⟨trivial,rfl,rfl⟩ ?_
  conv=>whnf
  refine retP rfl (zai ?_)
  cases e:l.contains x with
  | false=>rfl
  | true =>
   obtain ⟨i,hi,q⟩:=List.getElem_of_mem (List.contains_iff_mem.1 e)
   exact absurd q (g2 i hi (by omega))
def curA (d:Dk) (x:Nat):List AV:=[.str (curD d x),.bool (canD d x)]
abbrev tCur:Nat:=238
theorem za6 {P:Program}{L:LT}{h:zaa}{t:Tmp}{ty:TypeId}{p v:AV}(hk:lk L t=some p) (hl:zce P h ty p=some v):zcg P L h [.cell t ty]=some [v]:=by simp only [zcg,hk,hl]
theorem z5p {h:zaa}{b:Nat}{cs:List AV}(hl:cs.length=2) (hb:h[b]?=some (.cells 0 (some tCur) cs 0)):zce Tryz.prog h tCur (.ptr b 0 0)=some (.agg cs):=zb9 (N:=2) (by kernel_rfl) hl hb
def zwo (j:Nat):AV:=match j with
 | 0=>.int .i64 (-1)
 | i+1=>i64 i
theorem zrm {m:Nat}(d:Dk) (ok:d.Ok) (hl:d.ws.length ≤ 40000) (x:Nat) {Q:Ex → LS → Prop}{s:LS}
  (hs:LS.sub ⟨[(1,i64 x),(2,.ptr 0 0 0),(4,.ptr 1 0 0),(5,zwo d.ws.length)],[dkC d,.cells 0 (some tCur) [.str [],.bool false] 0],[]⟩ s)
  (hE:(∀ j (hj:j<d.ws.length),d.ws[j].sec≠(x:Int)) → ∀ L,subL [(1,i64 x),(2,.ptr 0 0 0),(4,.ptr 1 0 0)] L → Q (.exit 0) ⟨L,[dkC d,.cells 0 (some tCur) [.str [],.bool false] 0],[]⟩)
  (hR:∀ i (hi:i<d.ws.length),d.ws[i].sec=(x:Int) → (∀ j (hj:j<d.ws.length),i<j → d.ws[j].sec≠(x:Int)) → ∀ L,lk L 4=some (.ptr 1 0 0) → Q .ret ⟨L,[dkC d,.cells 0 (some tCur) [.str d.ws[i].data,.bool true] 0],[]⟩) :
  OkR Tryz.prog (C m) cfg0.inl KK 40 6 (.loop (c166.lp 0)) s Q:=by
 refine za3 (by decide) rfl (α:=Nat) (fun j=>⟨[(1,i64 x),(2,.ptr 0 0 0),(4,.ptr 1 0 0),(5,zwo j)],[dkC d,.cells 0 (some tCur) [.str [],.bool false] 0],[]⟩) (fun j=>j ≤ d.ws.length ∧ ∀ i (hi:i<d.ws.length),j ≤ i → d.ws[i].sec≠(x:Int)) (fun j=>j) d.ws.length hs ⟨Nat.le_refl _,fun i hi h=>absurd hi (by omega)⟩ (by simp only [KK];omega) ?_
 rintro j ⟨g1,g2⟩
 have e2:(d.ws.map Wr.av).length=d.ws.length:=List.length_map ..
 cases j with
 | zero =>
  conv=>whnf
  exact hE (fun j hj=>g2 j hj (Nat.zero_le _)) _ ⟨rfl,rfl,rfl⟩
 | succ j =>
  have hj:j<d.ws.length:=by omega
  conv=>whnf
  refine ldI rfl ?_
  conv=>whnf
  refine ixL zey hj ok.sw ?_
  conv=>whnf
  refine bre (fun q=>?_) (fun q=>?_)
  ·conv=>whnf
   refine ldI rfl ?_
   conv=>whnf
   refine ixL zey hj ok.sw ?_
   conv=>whnf
   refine stJ (xs:=[.str d.ws[j].data,.bool true]) (by rfl) ?_
   exact hR j hj q (fun i hi hi2=>g2 i hi (by omega)) _ rfl
  ·conv=>whnf
   refine zI (z:=(j:Int)-1) (by rw [zae (by omega) (by omega)]) ?_
   refine nxI j ⟨by omega,fun i hi hi2=>?_⟩ (by omega) ⟨⟨rfl,rfl,rfl,?_⟩,rfl,rfl⟩
   ·by_cases e:i=j
    ·subst e;exact q
    ·exact g2 i hi (by omega)
   ·show some (AV.int .i64 ((j:Int)-1))=some (zwo j)
    cases j with
    | zero=>rfl
    | succ k=>simp only [zwo];congr 2;omega
theorem zwr (hn:2 ≤ n) (d:Dk) (ok:d.Ok) (hr:zau d=true) (x:Nat) (hx:x<d.secs.length):C n 166 [d.av,i64 x] h=some (.ret (.agg (curA d x)),h):=by
 obtain ⟨m,rfl⟩:=pre1 n
 obtain ⟨⟨z1,z2,z3⟩,-,-,z4⟩:=rightD_iff.1 hr
 have hb:d.bad.length ≤ 32768:=ztf z2 (Nat.le_refl _) fun i hi _=>z4 i hi
 have e1:(d.secs.map AV.str).length=d.secs.length:=List.length_map ..
 have e2:(d.ws.map Wr.av).length=d.ws.length:=List.length_map ..
 refine zad F166 rfl rfl rfl (by simp [zao,za1,AV.pureB]) ?_
 conv=>whnf
 refine ldI rfl ?_
 conv=>whnf
 refine zI (z:=(d.ws.length:Int)-1) (by rw [e2,zae (by omega) (by omega)]) ?_
 conv=>whnf
 refine zrm d ok z3 x ⟨⟨rfl,rfl,rfl,?_⟩,rfl,rfl⟩ (fun w0 L hL=>?_) (fun i hi q q2 L hk=>?_)
 ·show some (AV.int .i64 ((d.ws.length:Int)-1))=some (zwo d.ws.length)
  cases d.ws.length with
  | zero=>rfl
  | succ k=>simp only [zwo];congr 2;omega
 ·conv=>whnf
  refine cutI (by decide) rfl (t:=⟨[(1,i64 x),(2,.ptr 0 0 0),(4,.ptr 1 0 0)],[dkC d,.cells 0 (some tCur) [.str [],.bool false] 0],[]⟩) ⟨hL,rfl,rfl⟩ ?_
  conv=>whnf
  refine ldI rfl ?_
  conv=>whnf
  refine ⟨by omega,ok.ss (zeq hx),.str d.secs[x],zig _ hx,[.str d.secs[x]],rfl,?_⟩
  conv=>whnf
  refine ldI rfl ?_
  conv=>whnf
  refine clI (z6i (by omega) d.bad hb _ ok.sb _ _) ?_
  conv=>whnf
  refine stJ (xs:=[.str d.secs[x],.bool (!d.bad.contains (x:Int))]) (by rfl) ?_
  have e:=z4n (s:=d.secs.getD x []) w0
  have e3:curA d x=[.str d.secs[x],.bool (!d.bad.contains (x:Int))]:=by
   unfold curA curD canD
   rw [e.1,e.2,List.getD_eq_getElem?_getD,List.getElem?_eq_getElem hx]
   rfl
  rw [e3]
  exact ⟨rfl,_,za6 rfl (z5p rfl rfl),rfl⟩
 ·have e:=z4o (s:=d.secs.getD x []) hi q q2
  have e3:curA d x=[.str d.ws[i].data,.bool true]:=by
   unfold curA curD canD
   rw [e.1,e.2]
   rfl
  rw [e3]
  exact ⟨rfl,_,za6 hk (z5p rfl rfl),rfl⟩
end
section
variable {n:Nat}{h:zaa}
def zht (d:Dk) (k n:Nat):List AV:=if zcs d k n=true then [.str (zdt d k n),i64 0] else [.str [],i64 8]
abbrev z2j:Nat:=187
theorem zxi {h:zaa}{b:Nat}{cs:List AV}(hl:cs.length=2) (hb:h[b]?=some (.cells 0 (some z2j) cs 0)):zce Tryz.prog h z2j (.ptr b 0 0)=some (.agg cs):=zb9 (N:=2) (by kernel_rfl) hl hb
theorem cant {d:Dk}{k m j:Nat}(hj:j<m) (e:canD d (k+j)=false):zcs d k m=false:=by
 cases c:zcs d k m with
 | false=>rfl
 | true=>rw [allCan_iff.1 c j hj] at e;cases e
theorem zkp (hn:4 ≤ n) (d:Dk) (ok:d.Ok) (hr:zau d=true) (k m:Nat) (hm:1 ≤ m) (hk:k+m ≤ d.secs.length):C n 102 [d.av,i64 k,i64 m] h=some (.ret (.agg (zht d k m)),h):=by
 obtain ⟨n',rfl⟩ : ∃ n',n=n'+1:=⟨n-1,by omega⟩
 have hz:=(rightD_iff.1 hr).1
 have e1:(d.secs.map AV.str).length=d.secs.length:=List.length_map ..
 have cR:∀ h,C n' 74 [d.av] h=some (.ret (.bool (zau d)),h):=fun h=>zel (by omega) d ok
 rw [hr] at cR
 refine zad F102 rfl rfl rfl (by simp [zao,za1,AV.pureB]) ?_
 conv=>whnf
 refine ldI rfl ?_
 conv=>whnf
 refine clI (cR _) ?_
 conv=>whnf
 refine brd (fun a=>absurd a (by omega)) (fun _=>?_)
 conv=>whnf
 refine ldI rfl ?_
 conv=>whnf
 refine brd (fun a=>absurd a (by omega)) (fun _=>?_)
 conv=>whnf
 refine ldI rfl ?_
 conv=>whnf
 refine zI (z:=((d.secs.length-m:Nat):Int)) (by rw [e1,zae (by omega) (by omega)];omega) ?_
 conv=>whnf
 refine brd (fun a=>absurd a (by omega)) (fun _=>?_)
 conv=>whnf
 refine za3 (by decide) rfl (α:=Nat × zaa) (fun x=>⟨[(1,i64 k),(2,i64 m),(3,.ptr 0 0 0),(6,.ptr 1 0 0),(7,.str (zdt d k x.1)),(8,i64 x.1)],x.2,[]⟩) (fun x=>(x.1 ≤ m ∧ ∀ i,i<x.1 → canD d (k+i)=true) ∧ x.2[0]?=some (dkC d) ∧ x.2[1]?=some (.cells 0 (some z2j) [.str [],i64 0] 0)) (fun x=>m-x.1) (0,_) ⟨⟨rfl,rfl,rfl,rfl,rfl,rfl⟩,rfl,rfl⟩ ⟨⟨Nat.zero_le _,fun i hi=>absurd hi (Nat.not_lt_zero _)⟩,rfl,rfl⟩ (by simp only [KK];omega) ?_
 rintro ⟨j,hp⟩ ⟨⟨g1,g2⟩,g3,g4⟩
 simp only at g1 g2 g3 g4
 have l3:=zab g4
 conv=>whnf
 refine brd (fun a=>?_) (fun a=>?_)
 ·have hj:j<m:=by omega
  have cC:=fun h=>zwr (n:=n') (h:=h) (by omega) d ok hr (k+j) (by omega)
  conv=>whnf
  refine ldI g3 ?_
  conv=>whnf
  refine zI (z:=((k+j:Nat):Int)) (by rw [zae (by omega) (by omega)];rfl) ?_
  conv=>whnf
  refine clI (cC _) ?_
  conv=>whnf
  refine stJ (xs:=curA d (k+j)) (zaf _ _) ?_
  have k0:∀ x y:AB,((hp++[x]).set hp.length y)[0]?=some (dkC d):=fun x y=>by rw [List.getElem?_set_ne (by omega),List.getElem?_append_left (by omega)];exact g3
  have k1:∀ x y:AB,((hp++[x]).set hp.length y)[1]?=some (.cells 0 (some z2j) [.str [],i64 0] 0):=fun x y=>by rw [List.getElem?_set_ne (by omega),List.getElem?_append_left (by omega)];exact g4
  conv=>whnf
  refine ldI (zag _ _ _) ?_
  conv=>whnf
  refine brn (fun q=>?_) (fun q=>?_)
  ·conv=>whnf
   refine stJ (xs:=[.str [],i64 8]) (k1 _ _) ?_
   have e3:zht d k m=[.str [],i64 8]:=by unfold zht;rw [if_neg (by rw [cant hj q];simp)]
   rw [e3]
   exact ⟨rfl,_,za6 rfl (zxi rfl (List.getElem?_set_self (zab (k1 _ _)))),rfl⟩
  ·conv=>whnf
   refine ldI (zag _ _ _) ?_
   conv=>whnf
   refine ⟨by show (zdt d k j).length+(curD d (k+j)).length ≤ _;rw [zk3 hr (by omega),z0x hr (by omega)];omega,?_⟩
   conv=>whnf
   refine zJ j ?_
   refine nxI (j+1,_) ⟨⟨hj,fun i hi=>?_⟩,k0 _ _,k1 _ _⟩ (by simp only;omega) ⟨⟨rfl,rfl,rfl,rfl,?_,rfl⟩,rfl,rfl⟩
   ·by_cases e:i=j
    ·subst e;exact q
    ·exact g2 i (by omega)
   ·show some (AV.str (zdt d k j++curD d (k+j)))=some (.str (zdt d k (j+1)))
    rw [zvb]
 ·have hj:j=m:=by omega
  subst hj
  conv=>whnf
  refine cutI (by decide) rfl (t:=⟨[(6,.ptr 1 0 0),(7,.str (zdt d k j))],hp,[]⟩) ⟨⟨rfl,rfl⟩,rfl,rfl⟩ ?_
  conv=>whnf
  refine stJ (xs:=[.str (zdt d k j),i64 0]) g4 ?_
  have e3:zht d k j=[.str (zdt d k j),i64 0]:=by unfold zht;rw [if_pos (allCan_iff.2 g2)]
  rw [e3]
  exact ⟨rfl,_,za6 rfl (zxi rfl (List.getElem?_set_self (zab g4))),rfl⟩
end
end Go.Proofs
