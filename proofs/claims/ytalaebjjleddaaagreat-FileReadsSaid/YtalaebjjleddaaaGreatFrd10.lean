/- Texts put together: Ga, Tc, Td, Te, Pa, Pb, Gb, Wf, Wg, Gc, Wr0, Wr. -/
import Derived.Test.YtalaebjjleddaaaGreatFrd7
import Derived.Test.YtalaebjjleddaaaGreatFrd8
import Derived.Test.YtalaebjjleddaaaGreatFrd9
set_option linter.unusedVariables false
set_option linter.unusedSimpArgs false
namespace Go.Proofs
open Go Go.Abs
def c193:RC :=
 (.seq (.ops [(oP 1 (.box 79 (.t 0))),(oP 2 (.mv (.c (.bool false))))])
 (.seq (.ops [(oC 3 3 1),(oA 4 3),(oJ 5 .eql 4 0),(mV 6 5),(oF 7 6 true 4 1),(oD 8 6 true 7),(oG 9 6 true (.bin .eql (.t 8) (.c (.int .i64 0)))),(oN 10 6 9),(mV 11 10),(oF 12 11 true 5 1),(oD 13 11 true 12),(oG 14 11 true (.un .not (.t 13))),(oN 15 11 14),(mV 16 15),(oF 17 16 true 6 1),(oD 18 16 true 17),(oG 19 16 true (.lenL (.t 18))),(oG 20 16 true (.bin .eql (.t 19) (.c (.int .i64 0)))),(oN 21 16 20),(mV 2 21)])
 .ret))
theorem F193:FI 193 1 22 5 [.tmp 2] c193:=mkF Tryz.f193 Tryz.func193
def c194:RC :=
 (.seq (.ops [(oP 2 (.mv (.c (.bool false))))])
 (.seq (.ops [(mV 3 0),(oJ 4 .eql 3 0),(mV 5 4),(oE 6 5 false 0),(oG 7 5 false (.callF 190 [(.t 6)])),(oM 8 5 7),(mV 2 8)])
 .ret))
theorem F194:FI 194 1 9 4 [.tmp 2] c194:=mkF Tryz.f194 Tryz.func194
def c195:RC :=
 (.seq (.ops [(oP 2 (.mv (.c (.bool false))))])
 (.seq (.seq (.ops [(mV 7 0),(oK 8 7),(oH 9 0)])
 (.block 0
 (.loop
 (.seq (.ops [(oI 10 .lss 9 8)])
 (.seq (.cond (.t 10)
 .skip
 (.exit 0))
 (.seq (.block 1
 (.seq (.ops [(mV 11 9),(oS 12 2 7 9),(oB 13 2 12),(oP 4 (.alloc 145 [(.int .i64 0),(.lst 0 [] true)])),(mV 3 11),(oT 2 4 13)])
 (.seq (.seq (.draw [((oC 14 0 4),0),((oA 15 14),1),((oP 16 (.callF 191 [(.t 15),(.c (.int .i64 0)),(.c (.int .i64 1099511627776))])),4),((oP 17 (.un .not (.t 16))),0),((mV 18 17),0),((oF 19 18 false 1 4),0),((oD 20 18 false 19),1),((oG 21 18 false (.lenL (.t 20))),0),((oG 22 18 false (.bin .eql (.t 21) (.c (.int .i64 0)))),0),((oM 23 18 22),0),((mV 24 23),0),((oE 25 24 false 3),0),((oG 26 24 false (.bin .gtr (.t 25) (.c (.int .i64 0)))),0),((oE 27 24 false 26),0),((oE 28 27 true 0),0),((oE 29 27 true 3),0),((oG 30 27 true (.bin .sub (.t 29) (.c (.int .i64 1)))),0),((oG 31 27 true (.indexAddrL 2 (.t 28) (.t 30))),0),((oF 32 27 true 0 31),0),((oD 33 27 true 32),1),((oF 34 27 true 0 4),0),((oD 35 27 true 34),1),((oG 36 27 true (.bin .geq (.t 33) (.t 35))),0),((oG 37 24 false (.pick (.t 27) (.t 36) (.c (.bool false)))),0),((oM 38 24 37),0)])
 (.cond (.t 38)
 (.seq (.ops [(oP 2 (.mv (.c (.bool false))))])
 .ret)
 .skip))
 (.cut (.seq (.ops [(oC 39 1 4),(oA 40 39),(oK 41 40),(oH 42 0)])
 (.block 2
 (.loop
 (.seq (.ops [(oI 43 .lss 42 41)])
 (.seq (.cond (.t 43)
 .skip
 (.exit 2))
 (.seq (.block 3
 (.seq (.ops [(mV 44 42),(oS 45 1 40 42),(oA 46 45),(mV 5 44),(mV 6 46)])
 (.seq (.ops [(mV 47 6),(oV 48 190 47),(oP 49 (.un .not (.t 48))),(mV 50 49),(oE 51 50 false 5),(oG 52 50 false (.bin .gtr (.t 51) (.c (.int .i64 0)))),(oE 53 50 false 52),(oF 54 53 true 1 4),(oD 55 53 true 54),(oE 56 53 true 5),(oG 57 53 true (.bin .sub (.t 56) (.c (.int .i64 1)))),(oG 58 53 true (.indexAddrL 1 (.t 55) (.t 57))),(oD 59 53 true 58),(oE 60 53 true 6),(oG 61 53 true (.bin .geq (.t 59) (.t 60))),(oG 62 50 false (.pick (.t 53) (.t 61) (.c (.bool false)))),(oM 63 50 62)])
 (.cond (.t 63)
 (.seq (.ops [(oP 2 (.mv (.c (.bool false))))])
 .ret)
 .skip))))
 (.ops [(oJ 64 .add 42 1),(mV 42 64)])))))))))))
 (.cut (.ops [(oJ 65 .add 9 1),(mV 9 65)]))))))))
 (.cut (.seq (.ops [(oP 2 (.mv (.c (.bool true))))])
 .ret))))
theorem F195:FI 195 1 66 7 [.tmp 2] c195:=mkF Tryz.f195 Tryz.func195
def c196:RC :=
 (.seq (.ops [(oH 2 0)])
 (.seq (.ops [(oH 3 6)])
 (.seq (.seq (.ops [(mV 6 0),(oK 7 6),(oH 8 0)])
 (.block 0
 (.loop
 (.seq (.ops [(oI 9 .lss 8 7)])
 (.seq (.cond (.t 9)
 .skip
 (.exit 0))
 (.seq (.block 1
 (.seq (.ops [(oS 10 2 6 8),(oB 11 2 10),(oP 5 (.alloc 145 [(.int .i64 0),(.lst 0 [] true)])),(oT 2 5 11)])
 (.ops [(mV 12 3),(oC 13 1 5),(oA 14 13),(oK 15 14),(oP 16 (.bin .mul (.c (.int .i64 4)) (.t 15))),(oP 17 (.bin .add (.c (.int .i64 8)) (.t 16))),(oI 18 .add 12 17),(mV 3 18)])))
 (.ops [(oJ 19 .add 8 1),(mV 8 19)])))))))
 (.cut (.seq (.ops [(mV 20 3),(mV 2 20)])
 .ret)))))
theorem F196:FI 196 1 21 5 [.tmp 2] c196:=mkF Tryz.f196 Tryz.func196
def c143:RC :=
 (.seq (.ops [(oP 1 (.box 79 (.t 0))),(oH 2 0)])
 (.seq (.seq (.ops [(oC 4 1 1),(oA 5 4),(oV 6 190 5),(oP 7 (.un .not (.t 6))),(mV 8 7),(oF 9 8 false 2 1),(oD 10 8 false 9),(oG 11 8 false (.callF 191 [(.t 10),(.c (.int .i64 0)),(.c (.int .i64 1099511627776))])),(oG 12 8 false (.un .not (.t 11))),(oM 13 8 12)])
 (.cond (.t 13)
 (.seq (.ops [(oH 2 2)])
 .ret)
 .skip))
 (.seq (.ops [(oP 3 (.mv (.c (.bool false))))])
 (.seq (.seq (.ops [(oC 14 0 1),(oA 15 14)])
 (.block 0
 (.seq (.seq (.ops [(oJ 17 .eql 15 1),(mV 16 17)])
 (.cond (.t 16)
 .skip
 (.ops [(oJ 18 .eql 15 2),(mV 16 18)])))
 (.cond (.t 16)
 (.ops [(oC 19 3 1),(oA 20 19),(oP 21 (.callF 191 [(.t 20),(.c (.int .i64 0)),(.c (.int .i64 255))])),(mV 22 21),(oF 23 22 true 0 1),(oD 24 22 true 23),(oG 25 22 true (.bin .eql (.t 24) (.c (.int .i64 1)))),(oF 26 22 true 4 1),(oD 27 22 true 26),(oG 28 22 true (.bin .eql (.t 27) (.c (.int .i64 0)))),(oG 29 22 true (.cmp false 4 (.t 25) (.t 28))),(oN 30 22 29),(mV 31 30),(oF 32 31 true 6 1),(oD 33 31 true 32),(oF 34 31 true 4 1),(oD 35 31 true 34),(oG 36 31 true (.callF 192 [(.t 33),(.t 35)])),(oN 37 31 36),(mV 38 37),(oF 39 38 true 7 1),(oD 40 38 true 39),(oG 41 38 true (.bin .eql (.t 40) (.c (.int .i64 0)))),(oN 42 38 41),(mV 43 42),(oF 44 43 true 8 1),(oD 45 43 true 44),(oG 46 43 true (.bin .eql (.t 45) (.c (.str [])))),(oN 47 43 46),(mV 48 47),(oF 49 48 true 9 1),(oD 50 48 true 49),(oG 51 48 true (.lenL (.t 50))),(oG 52 48 true (.bin .eql (.t 51) (.c (.int .i64 0)))),(oN 53 48 52),(mV 3 53)])
 (.seq (.ops [(oJ 55 .eql 15 3),(mV 54 55)])
 (.cond (.t 54)
 (.ops [(oB 56 10 1),(oV 57 193 56),(mV 58 57),(oF 59 58 true 7 1),(oD 60 58 true 59),(oG 61 58 true (.callF 194 [(.t 60)])),(oN 62 58 61),(mV 63 62),(oF 64 63 true 8 1),(oD 65 63 true 64),(oG 66 63 true (.lenS (.t 65))),(oG 67 63 true (.callF 191 [(.t 66),(.c (.int .i64 1)),(.c (.int .i64 490))])),(oN 68 63 67),(mV 69 68),(oF 70 69 true 9 1),(oD 71 69 true 70),(oG 72 69 true (.lenL (.t 71))),(oG 73 69 true (.bin .eql (.t 72) (.c (.int .i64 0)))),(oN 74 69 73),(mV 3 74)])
 (.seq (.ops [(oJ 76 .eql 15 4),(mV 75 76)])
 (.cond (.t 75)
 (.ops [(oB 77 10 1),(oV 78 193 77),(mV 79 78),(oF 80 79 true 7 1),(oD 81 79 true 80),(oG 82 79 true (.callF 194 [(.t 81)])),(oN 83 79 82),(mV 84 83),(oF 85 84 true 8 1),(oD 86 84 true 85),(oG 87 84 true (.bin .eql (.t 86) (.c (.str [])))),(oN 88 84 87),(mV 89 88),(oF 90 89 true 9 1),(oD 91 89 true 90),(oG 92 89 true (.callF 195 [(.t 91)])),(oN 93 89 92),(mV 94 93),(oF 95 94 true 9 1),(oD 96 94 true 95),(oG 97 94 true (.callF 196 [(.t 96)])),(oG 98 94 true (.bin .leq (.t 97) (.c (.int .i64 496)))),(oN 99 94 98),(mV 3 99)])
 .skip))))))))
 (.seq (.seq (.ops [(mV 100 3),(oP 101 (.un .not (.t 100)))])
 (.cond (.t 101)
 (.seq (.ops [(oH 2 2)])
 .ret)
 .skip))
 (.seq (.ops [(oH 2 0)])
 .ret))))))
theorem F143:FI 143 1 102 7 [.tmp 2] c143:=mkF Tryz.f143 Tryz.func143
def c175:RC :=
 (.seq (.ops [(oP 1 (.box 79 (.t 0))),(oP 2 (.mv (.c .nili)))])
 (.seq (.seq (.ops [(oC 3 0 1),(oA 4 3)])
 (.block 0
 (.seq (.ops [(oJ 6 .eql 4 3),(mV 5 6)])
 (.cond (.t 5)
 (.seq (.ops [(oC 7 7 1),(oA 8 7),(oC 9 8 1),(oA 10 9),(oP 11 (.build [(.int .i64 0),(.str [])] [(0,1,(.t 8)),(1,1,(.t 10))])),(oP 12 (.mkIfc 292 (.t 11))),(mV 2 12)])
 .ret)
 (.seq (.ops [(oJ 14 .eql 4 4),(mV 13 14)])
 (.cond (.t 13)
 (.seq (.ops [(oC 15 7 1),(oA 16 15),(oC 17 9 1),(oA 18 17),(oP 19 (.build [(.int .i64 0),(.lst 0 [] true)] [(0,1,(.t 16)),(1,1,(.t 18))])),(oP 20 (.mkIfc 294 (.t 19))),(mV 2 20)])
 .ret)
 .skip))))))
 (.seq (.ops [(oC 21 3 1),(oA 22 21),(oC 23 4 1),(oA 24 23),(oC 25 5 1),(oA 26 25),(oC 27 6 1),(oA 28 27),(oP 29 (.build [(.int .i64 0),(.int .i64 0),(.bool false),(.lst 0 [] true)] [(0,1,(.t 22)),(1,1,(.t 24)),(2,1,(.t 26)),(3,1,(.t 28))])),(oP 30 (.mkIfc 296 (.t 29))),(mV 2 30)])
 .ret)))
theorem F175:FI 175 1 31 6 [.tmp 2] c175:=mkF Tryz.f175 Tryz.func175
def c179:RC :=
 (.seq (.ops [(oP 2 (.mv (.c (.str []))))])
 (.seq (.ops [(mV 4 0),(oV 5 135 4),(mV 3 5)])
 (.seq (.ops [(mV 6 0),(mV 7 3),(oP 8 (.toInt .u8 (.t 7))),(mV 9 3),(oP 10 (.bin .shr (.t 9) (.c (.int .u64 8)))),(oP 11 (.toInt .u8 (.t 10))),(mV 12 3),(oP 13 (.bin .shr (.t 12) (.c (.int .u64 16)))),(oP 14 (.toInt .u8 (.t 13))),(mV 15 3),(oP 16 (.bin .shr (.t 15) (.c (.int .u64 24)))),(oP 17 (.toInt .u8 (.t 16))),(oP 18 (.mkLst 1 false 4 [(.int .u8 0)] [(0,1,(.t 8)),(1,1,(.t 11)),(2,1,(.t 14)),(3,1,(.t 17))])),(oP 19 (.bytesStr (.t 18))),(oI 20 .add 6 19),(mV 2 20)])
 .ret)))
theorem F179:FI 179 1 21 5 [.tmp 2] c179:=mkF Tryz.f179 Tryz.func179
def c207:RC :=
 (.seq (.ops [(oP 2 (.alloc 282 (List.replicate 512 (.int .u8 0))))])
 (.seq (.ops [(oP 3 (.alloc 282 (List.replicate 512 (.int .u8 0))))])
 (.seq (.ops [(oP 4 (.sliceP 512 1 (.t 3) none none none)),(mV 5 0),(oP 6 (.cpy 1 (.t 4) (.t 5)))])
 (.seq (.ops [(oB 7 512 3),(oT 512 2 7)])
 .ret))))
theorem F207:FI 207 1 8 4 [.cell 2 282] c207:=mkF Tryz.f207 Tryz.func207
def c119:RC :=
 (.seq (.ops [(oP 1 (.box 79 (.t 0))),(oP 2 (.mv (.c (.str [])))),(oH 3 0)])
 (.seq (.seq (.ops [(oB 5 10 1),(oV 6 143 5),(oJ 7 .neq 6 0)])
 (.cond (.t 7)
 (.seq (.ops [(oP 2 (.mv (.c (.str [])))),(oH 3 2)])
 .ret)
 .skip))
 (.seq (.ops [(oP 8 (.build [.nilp,(.lst 0 [] true)] [])),(oP 9 (.box 248 (.t 8))),(mV 4 9)])
 (.seq (.ops [(mV 10 4),(oR 11 10),(oC 12 0 11),(oP 13 (.callF 173 [(.t 12),(.c (.int .u8 85))]))])
 (.seq (.ops [(mV 14 4),(oC 15 0 1),(oA 16 15),(oP 17 (.callF 174 [(.t 14),(.t 16),(.c (.int .i64 1))]))])
 (.seq (.ops [(mV 18 4),(oC 19 1 1),(oA 20 19),(oP 21 (.callF 174 [(.t 18),(.t 20),(.c (.int .i64 4))]))])
 (.seq (.ops [(mV 22 4),(oC 23 2 1),(oA 24 23),(oP 25 (.callF 174 [(.t 22),(.t 24),(.c (.int .i64 6))]))])
 (.seq (.ops [(oB 26 10 1),(oV 27 175 26),(mV 28 4),(oP 29 (.inv (.t 27) "understory/page.write" [(.t 28)]))])
 (.cut (.seq (.draw [((mV 30 4),0),((oR 31 30),0),((oC 32 0 31),0),((mV 33 4),0),((oR 34 33),0),((oC 35 0 34),0),((oV 36 178 35),2),((oP 37 (.bin .sub (.c (.int .i64 508)) (.t 36))),0),((oP 38 (.callF 177 [(.c (.str [0])),(.t 37)])),4),((oW 39 176 32 38),2)])
 (.seq (.ops [(mV 40 4),(oR 41 40),(oC 42 0 41),(oV 43 180 42),(oV 44 179 43),(mV 2 44),(oH 3 0)])
 .ret)))))))))))
theorem F119:FI 119 1 45 6 [.tmp 2,.tmp 3] c119:=mkF Tryz.f119 Tryz.func119
section
variable {n:Nat}{h:zaa}
theorem zxc (hn:5 ≤ n) (l:List Entry) (hl:l.length<1099511627776) (he:∀ e∈l,e.Ok) (lv:Int) (sz:Nat) (hz:l≠[] → sz=22) (c:Bool):C n 224 [.lst sz (l.map Entry.av) c,i64 lv] h=some (.ret (zjj l lv),h):=by
 obtain ⟨m,rfl⟩:=pre1 n
 refine zad F224 rfl rfl rfl (zbk zbs l rfl) ?_
 conv=>whnf
 refine clI (zc9 (by omega) _ _ _) ?_
 conv=>whnf
 refine br (fun a=>?_) (fun a=>?_)
 ·conv=>whnf
  refine retP rfl (Eq.trans (z0c rfl rfl) (congrArg some ?_))
  simp at a;simp [zjj,zds,a]
 ·simp at a
  conv=>whnf
  refine za3 (by decide) rfl (α:=Nat × Int × zaa) (fun x=>⟨[(1,i64 lv),(6,i64 x.2.1),(14,.lst sz (l.map Entry.av) c),(15,i64 l.length),(16,i64 x.1)],x.2.2,[]⟩)
   (fun x=>x.1 ≤ l.length ∧ wsum lv (l.take x.1)=some (x.2.1-6) ∧ x.2.1 ≤ 6+117*x.1 ∧ 6 ≤ x.2.1) (fun x=>l.length-x.1) (0,6,[]) ?_ ?_ ?_ ?_
  ·exact ⟨⟨rfl,rfl,rfl,lenI _ _,rfl⟩,rfl,rfl⟩
  ·simp [wsum]
  ·show l.length-0<KK;simp only [KK];omega
  ·rintro ⟨j,s,hp⟩ ⟨g1,g2,g3,g4⟩
   conv=>whnf
   refine br (fun b=>?_) (fun b=>?_)
   ·have hj:j<l.length:=by simp at b;omega
    conv=>whnf
    refine ixL zap hj hz ?_
    conv=>whnf
    refine stJ (zaf _ _) ?_
    conv=>whnf
    refine ldI (zag _ _ _) ?_
    conv=>whnf
    refine clI (z14 (by omega) l[j] (he _ (List.getElem_mem hj)) lv) ?_
    conv=>whnf
    have hw:=zin hj g2
    refine br (fun d=>?_) (fun d=>?_)
    ·conv=>whnf
     refine retP rfl (Eq.trans (z0c rfl rfl) (congrArg some ?_))
     simp at d
     simp [d] at hw
     simp [zjj,zds,a,zio hw]
    ·simp at d
     have hb:=zfr d
     simp [d] at hw
     simp only at g3 g4
     refine zI (zae (z:=s+zd5 l[j] lv) (by omega) (by omega)) ?_
     conv=>whnf
     refine zJ j ?_
     exact ⟨(j+1,s+zd5 l[j] lv,_),⟨hj,hw.trans (congrArg some (by simp only;omega)),by simp only;omega,by simp only;omega⟩,by simp only;omega,⟨rfl,rfl,rfl,rfl,rfl⟩,rfl,rfl⟩
   ·have hj:j=l.length:=by simp at b;omega
    subst hj
    rw [List.take_length] at g2
    conv=>whnf
    refine cutI (by decide) rfl (t:=⟨[(6,i64 s)],hp,[]⟩) ⟨rfl,rfl,rfl⟩ ?_
    conv=>whnf
    refine retP rfl (Eq.trans (z0c rfl rfl) (congrArg some ?_))
    simp [zjj,zds,a,g2];omega
end
instance:Inhabited Entry:=⟨⟨[],[],0,0,0,0,Dg.zero⟩⟩
def zkj (l:List Entry) (j:Nat):Str:=(l.getD j default).key
def vAt (lv:Int) (l:List Entry) (j:Nat):Bool :=
 (if lv=0 then za2 (l.getD j default) != 0 else zbf (l.getD j default)&&(j==0||zkj l j != []))&&(j==0||decide (cmpS (zkj l (j-1)) (zkj l j)<0))
def zc7 (l:List Entry) (lv:Int):Bool :=
 zar lv 0 20&&l != []&&(lv==0||(decide (2 ≤ l.length)&&zkj l 0==[]))&&(List.range l.length).all (vAt lv l)
theorem ziq {l:List Entry}{lv:Int}{j:Nat}(hj:j<l.length) (hb:vAt lv l j=false):zc7 l lv=false:=by
 have:(List.range l.length).all (vAt lv l)=false:=by
  rw [List.all_eq_false]
  exact ⟨j,List.mem_range.2 hj,by simp [hb]⟩
 simp [zc7,this]
theorem zg6 {l:List Entry}{lv:Int}(h1:zar lv 0 20=true) (h2:l≠[]) (h3:lv=0 ∨ (2 ≤ l.length ∧ zkj l 0=[])) (h4:∀ i,i<l.length → vAt lv l i=true):zc7 l lv=true:=by
 have:(List.range l.length).all (vAt lv l)=true:=by
  rw [List.all_eq_true]
  exact fun i hi=>h4 i (List.mem_range.1 hi)
 simp [zc7,this,h1,h2]
 exact h3
theorem zsw {l:List Entry}{j:Nat}(hj:j<l.length):l[j]=l.getD j default:=by simp [hj]
theorem zcw {lv:Int}{l:List Entry}{j:Nat}(hj:j<l.length):vAt lv l j=((if lv=0 then za2 l[j] != 0 else zbf l[j]&&(decide (j=0)||l[j].key != []))&&(decide (j=0)||decide (cmpS l[j-1].key l[j].key<0))):=by
 have h1:l.getD j default=l[j]:=by simp [hj]
 have h2:l.getD (j-1) default=l[j-1]:=by simp [show j-1<l.length by omega]
 have h3:(j==0)=decide (j=0):=by by_cases e:j=0<;>simp [e]
 unfold vAt zkj
 rw [h1,h2,h3]
section
variable {n:Nat}{h:zaa}
theorem zm2 {m:Nat}(hn:4 ≤ m) (l:List Entry) (hl:l.length<1099511627776) (lv:Int) (sz:Nat) (hz:l≠[] → sz=22) (c:Bool) (W:0 ≤ lv) {Q:Ex → LS → Prop}{s:LS}
  (hs:LS.sub ⟨[(0,.lst sz (l.map Entry.av) c),(1,i64 lv),(31,.lst sz (l.map Entry.av) c),(32,i64 l.length),(33,i64 0)],[],[]⟩ s)
  (hE:(∀ i,i<l.length → vAt lv l i=true) → ∀ L hp,Q (.exit 0) ⟨L,hp,[]⟩) (hR:∀ j,j<l.length → vAt lv l j=false → ∀ L hp,lk L 4=some (.bool false) → Q .ret ⟨L,hp,[]⟩) :
  OkR Tryz.prog (C m) cfg0.inl KK 78 7 (.loop (c223.lp 0)) s Q:=by
 refine za3 (by decide) rfl (α:=Nat × zaa) (fun x=>⟨[(0,.lst sz (l.map Entry.av) c),(1,i64 lv),(31,.lst sz (l.map Entry.av) c),(32,i64 l.length),(33,i64 x.1)],x.2,[]⟩)
  (fun x=>x.1 ≤ l.length ∧ ∀ i,i<x.1 → vAt lv l i=true) (fun x=>l.length-x.1) (0,[]) hs ?_ ?_ ?_
 ·exact ⟨Nat.zero_le _,fun i hi=>absurd hi (Nat.not_lt_zero _)⟩
 ·show l.length-0<KK;simp only [KK];omega
 ·rintro ⟨j,hp⟩ ⟨g1,g2⟩
  simp only at g1 g2
  conv=>whnf
  refine brd (fun b=>?_) (fun b=>?_)
  ·have hj:j<l.length:=by simp only at b;omega
   have hg:l.getD j default=l[j]:=by simp [hj]
   have ext:vAt lv l j=true → ∀ i,i<j+1 → vAt lv l i=true:=fun hv i hi=>by
    by_cases e:i=j
    ·rw [e];exact hv
    ·exact g2 i (by omega)
   conv=>whnf
   refine ixL zap hj hz ?_
   conv=>whnf
   refine stJ (zaf _ _) ?_
   repeat' (conv=>whnf);first
    | (exfalso;omega)
    | refine brd (fun _=>?_) (fun _=>?_)
    | refine bre (fun _=>?_) (fun _=>?_)
    | refine brn (fun _=>?_) (fun _=>?_)
    | refine ldI (zag _ _ _) ?_
    | refine ixL zap (l:=l) (j:=j-1) (by omega) hz ?_
    | refine clI (zq3 (by omega) l[j]) ?_
    | refine clI (zmi (by omega) l[j]) ?_
    | refine clI (zwx (by omega) _ _) ?_
    | refine zI (z:=((j-1:Nat):Int)) (by rw [zae (by omega) (by omega)];omega) ?_
    | refine zJ j ?_
    | refine hR j hj ?_ _ _ rfl
    | refine nxI (j+1,_) ⟨hj,ext ?_⟩ (by simp only;omega) ⟨⟨rfl,rfl,rfl,rfl,rfl⟩,rfl,rfl⟩
   all_goals rw [zcw hj]
   all_goals try simp only at *
   all_goals by_cases hj0:j=0
   all_goals simp_all
   all_goals omega
  ·have hj:j=l.length:=by simp only at b;omega
   subst hj
   conv=>whnf
   exact hE g2 _ _
theorem z16 (hn:5 ≤ n) (l:List Entry) (hl:l.length<1099511627776) (lv:Int) (sz:Nat) (hz:l≠[] → sz=22) (c:Bool):C n 223 [.lst sz (l.map Entry.av) c,i64 lv] h=some (.ret (.bool (zc7 l lv)),h):=by
 obtain ⟨m,rfl⟩:=pre1 n
 refine zad F223 rfl rfl rfl (zbk zbs l rfl) ?_
 conv=>whnf
 refine clI (zc9 (by omega) _ _ _) ?_
 conv=>whnf
 refine brn (fun a=>?_) (fun a=>?_)
 ·conv=>whnf
  refine retP rfl (zai ?_)
  simp [zc7,a]
 conv=>whnf
 refine bre (fun b=>?_) (fun b=>?_)
 ·conv=>whnf
  refine retP rfl (zai ?_)
  simp at b
  simp [zc7,b]
 have hne:l≠[]:=by intro e;subst e;simp at b
 have hsz:=hz hne
 subst hsz
 have h0:0<l.length:=by cases l with | nil=>exact (hne rfl).elim | cons=>simp
 have k0:l[0].key=zkj l 0:=by simp [zkj,h0]
 have W:=within_iff.1 a
 conv=>whnf
 refine brd (fun d=>?_) (fun d=>?_)
 ·conv=>whnf
  refine brd (fun f=>?_) (fun f=>?_)
  ·conv=>whnf
   refine retP rfl (zai ?_)
   simp at f
   have:¬ 2 ≤ l.length:=by omega
   have:lv≠0:=by omega
   simp [zc7, *]
  ·conv=>whnf
   refine ixL zap (j:=0) h0 (fun _=>rfl) ?_
   conv=>whnf
   refine brq (fun g=>?_) (fun g=>?_)
   ·conv=>whnf
    refine retP rfl (zai ?_)
    rw [k0] at g
    have:lv≠0:=by omega
    simp [zc7, *]
   ·conv=>whnf
    rw [k0] at g
    simp at f
    refine zm2 (by omega) l hl lv 22 (fun _=>rfl) c (by omega) ⟨⟨rfl,rfl,rfl,lenI _ _,rfl⟩,rfl,rfl⟩ (fun e L hp=>?_) (fun j hj e L hp hk=>?_)
    ·refine cutI (by decide) rfl (t:=⟨[],hp,[]⟩) ⟨trivial,rfl,rfl⟩ ?_
     conv=>whnf
     exact retP rfl (zai (zg6 a hne (.inr ⟨by omega,g⟩) e).symm)
    ·exact retK hk (zai (ziq hj e).symm)
 ·conv=>whnf
  refine zm2 (by omega) l hl lv 22 (fun _=>rfl) c (by omega) ⟨⟨rfl,rfl,rfl,lenI _ _,rfl⟩,rfl,rfl⟩ (fun e L hp=>?_) (fun j hj e L hp hk=>?_)
  ·refine cutI (by decide) rfl (t:=⟨[],hp,[]⟩) ⟨trivial,rfl,rfl⟩ ?_
   conv=>whnf
   exact retP rfl (zai (zg6 a hne (.inl (by omega)) e).symm)
  ·exact retK hk (zai (ziq hj e).symm)
end
section
variable {n:Nat}{h:zaa}
def fits (l:List Entry) (lv:Int):Bool:=zc7 l lv&&(match zds l lv with | some n=>decide (n ≤ 496) | none=>false)
theorem valid_iff {l:List Entry}{lv:Int}:zc7 l lv=true ↔ (0 ≤ lv ∧ lv ≤ 20) ∧ l≠[] ∧ (lv=0 ∨ (2 ≤ l.length ∧ zkj l 0=[])) ∧ ∀ i,i<l.length → vAt lv l i=true:=by
 simp [zc7,within_iff,and_assoc]
theorem wsum_some {lv:Int}:∀ {l:List Entry},(∀ e∈l,zdd e lv=true) ↔ (∃ w,wsum lv l=some w)
 | []=>by simp [wsum]
 | e::r=>by
  simp only [List.mem_cons,forall_eq_or_imp,wsum]
  rw [wsum_some (l:=r)]
  by_cases hw:zdd e lv=true
  ·simp only [hw,if_true,true_and]
   constructor
   ·rintro ⟨w,h⟩;exact ⟨_,by rw [h];rfl⟩
   ·rintro ⟨w,h⟩
    cases hr:wsum lv r with
    | none=>rw [hr] at h;cases h
    | some x=>exact ⟨x,rfl⟩
  ·simp [hw]
theorem zm1 {e:Entry}(hf:za2 e≠0):zdd e 0=true:=by
 have:za2 e=0 ∨ za2 e=1 ∨ za2 e=2 ∨ za2 e=3:=by
  unfold za2
  repeat' (first | split)
  all_goals simp
 simp [zdd];omega
theorem zj6 {l:List Entry}{lv:Int}(hv:zc7 l lv=true):∃ w,zds l lv=some w:=by
 obtain ⟨h1,h2,h3,h4⟩:=valid_iff.1 hv
 have:∃ w,wsum lv l=some w:=wsum_some.1 fun e he=>by
  obtain ⟨j,hj,rfl⟩:=List.getElem_of_mem he
  have:=h4 j hj
  rw [zcw hj] at this
  by_cases e0:lv=0
  ·subst e0
   simp at this
   exact zm1 this.1
  ·simp [e0] at this
   simp [zdd,show 0<lv by omega,this.1.1]
 obtain ⟨w,hw⟩:=this
 exact ⟨6+w,by simp [zds,hw,within_iff.2 h1]⟩
theorem z7w (hn:6 ≤ n) (l:List Entry) (hl:l.length<1099511627776) (he:∀ e∈l,e.Ok) (lv:Int) (sz:Nat) (hz:l≠[] → sz=22) (c:Bool):C n 192 [.lst sz (l.map Entry.av) c,i64 lv] h=some (.ret (.bool (fits l lv)),h):=by
 obtain ⟨m,rfl⟩:=pre1 n
 refine zad F192 rfl rfl rfl (zbk zbs l rfl) ?_
 conv=>whnf
 refine clI (z16 (by omega) l hl lv sz hz c) ?_
 conv=>whnf
 refine brn (fun a=>?_) (fun a=>?_)
 ·conv=>whnf
  exact retP rfl (zai (by simp [fits,a]))
 ·obtain ⟨w,hw⟩:=zj6 a
  have e:zjj l lv=.tup [i64 w,i64 0]:=by simp [zjj,hw]
  conv=>whnf
  refine clI (Eq.trans (zxc (by omega) l hl he lv sz hz c) (by rw [e])) ?_
  conv=>whnf
  exact retP rfl (zai (by simp [fits,a,hw]))
end
def cp:Str → Str → Nat
 | a::x,b::y=>if a=b then cp x y+1 else 0
 | _,_=>0
theorem z73:∀ (x y:Str),cp x y ≤ x.length ∧ cp x y ≤ y.length
 | [],_=>by simp [cp]
 | _::_,[]=>by simp [cp]
 | a::x,b::y=>by
  have:=z73 x y
  simp only [cp,List.length_cons]
  split<;>omega
theorem z03:∀ (x y:Str) (n:Nat) (hx:n<x.length) (hy:n<y.length),x[n]=y[n] → cp x y=n+cp (x.drop n) (y.drop n) → cp x y=n+1+cp (x.drop (n+1)) (y.drop (n+1)):=fun x y n hx hy he h=>by
 rw [h,List.drop_eq_getElem_cons hx,List.drop_eq_getElem_cons hy]
 simp [cp,he]
 omega
theorem z01 (x y:Str) (n:Nat) (hx:n<x.length) (hy:n<y.length) (he:x[n]≠y[n]) (h:cp x y=n+cp (x.drop n) (y.drop n)):cp x y=n:=by
 rw [h,List.drop_eq_getElem_cons hx,List.drop_eq_getElem_cons hy]
 simp [cp,he]
theorem z04 (x y:Str) (n:Nat) (hn:x.length ≤ n ∨ y.length ≤ n) (h:cp x y=n+cp (x.drop n) (y.drop n)):cp x y=n:=by
 rw [h]
 rcases hn with hn | hn
 ·rw [List.drop_of_length_le hn];simp [cp]
 ·rw [List.drop_of_length_le hn]
  cases x.drop n<;>simp [cp]
section
variable {n:Nat}{h:zaa}
theorem u8_eq (a b:UInt8):(((a.toNat:Int))==((b.toNat:Int)))=decide (a=b):=zs1 a b
theorem zws (hn:1 ≤ n) (x y:Str) (hx:x.length<1099511627776) (hy:y.length<1099511627776):C n 281 [.str x,.str y] h=some (.ret (i64 (cp x y)),h):=by
 obtain ⟨m,rfl⟩:=pre1 n
 refine zad F281 rfl rfl rfl rfl ?_
 conv=>whnf
 refine za3 (by decide) rfl (α:=Nat) (fun k=>⟨[(0,.str x),(1,.str y),(5,i64 k)],[],[]⟩) (fun k=>(k ≤ x.length ∧ k ≤ y.length) ∧ cp x y=k+cp (x.drop k) (y.drop k)) (fun k=>x.length-k) 0 ⟨⟨rfl,rfl,rfl⟩,rfl,rfl⟩ (by simp) (by show x.length-0<KK;simp only [KK];omega) ?_
 rintro k ⟨⟨k1,k2⟩,k3⟩
 have hmin:(if ((y.length:Nat):Int)<((x.length:Nat):Int) then ((y.length:Nat):Int) else ((x.length:Nat):Int))=((min x.length y.length:Nat):Int):=by
  split<;>omega
 conv=>whnf
 refine ⟨_,hmin,?_⟩
 conv=>whnf
 refine brd (fun a=>?_) (fun a=>?_)
 ·have hkx:k<x.length:=by omega
  have hky:k<y.length:=by omega
  conv=>whnf
  refine strI (b:=x[k]) (by omega) (by rw [Int.toNat_natCast];exact List.getElem?_eq_getElem hkx) ?_
  conv=>whnf
  refine strI (b:=y[k]) (by omega) (by rw [Int.toNat_natCast];exact List.getElem?_eq_getElem hky) ?_
  have e:=u8_eq x[k] y[k]
  conv=>whnf
  refine br (fun b=>?_) (fun b=>?_)
  ·have b':x[k]=y[k]:=by simpa using e.symm.trans b
   conv=>whnf
   refine zI (z:=((k+1:Nat):Int)) (by rw [zae (by omega) (by omega)];rfl) ?_
   exact nxI (k+1) ⟨⟨hkx,hky⟩,z03 x y k hkx hky b' k3⟩ (by omega) ⟨⟨rfl,rfl,rfl⟩,rfl,rfl⟩
  ·have b':x[k]≠y[k]:=by simpa using e.symm.trans b
   conv=>whnf
   refine cutI (by decide) rfl (t:=⟨[(5,i64 k)],[],[]⟩) ⟨rfl,rfl,rfl⟩ ?_
   conv=>whnf
   exact retP rfl (zb2 (by rw [z01 x y k hkx hky b' k3]))
 ·conv=>whnf
  refine cutI (by decide) rfl (t:=⟨[(5,i64 k)],[],[]⟩) ⟨rfl,rfl,rfl⟩ ?_
  conv=>whnf
  exact retP rfl (zb2 (by rw [z04 x y k (by omega) k3]))
def pre2 (p k:Str):Str:=p.take (cp p k)
def zbr (l:List Entry) (lv:Int):List Entry:=if 0<lv then l.drop 1 else l
def shared (l:List Entry) (lv:Int):Str:=((zbr l lv).drop 1).foldl (fun p e=>pre2 p e.key) ((zbr l lv).headD default).key
theorem zr6 {m:Nat}(hm:1 ≤ m) (l:List Entry) (hl:l.length<1099511627776) (he:∀ e∈l,e.Ok) (p0:Str) (hp0:p0.length<1099511627776) (sz:Nat) (hz:l≠[] → sz=22) (c:Bool) {Q:Ex → LS → Prop}{s:LS}
  (hs:LS.sub ⟨[(5,.str p0),(17,.lst sz (l.map Entry.av) c),(18,i64 l.length),(19,i64 0)],[],[]⟩ s) (hE:∀ L hp,lk L 5=some (.str (l.foldl (fun p e=>pre2 p e.key) p0)) → Q (.exit 0) ⟨L,hp,[]⟩) :
  OkR Tryz.prog (C m) cfg0.inl KK 31 6 (.loop (c279.lp 0)) s Q:=by
 refine za3 (by decide) rfl (α:=Nat × Str × zaa) (fun x=>⟨[(5,.str x.2.1),(17,.lst sz (l.map Entry.av) c),(18,i64 l.length),(19,i64 x.1)],x.2.2,[]⟩)
  (fun x=>x.1 ≤ l.length ∧ x.2.1=(l.take x.1).foldl (fun p e=>pre2 p e.key) p0 ∧ x.2.1.length<1099511627776) (fun x=>l.length-x.1) (0,p0,[]) hs (by simpa using hp0) (by show l.length-0<KK;simp only [KK];omega) ?_
 rintro ⟨j,p,hp⟩ ⟨g1,g2,g3⟩
 simp only at g1 g2 g3
 conv=>whnf
 refine brd (fun b=>?_) (fun b=>?_)
 ·simp only at b
  have hj:j<l.length:=by omega
  have hst:pre2 p l[j].key=(l.take (j+1)).foldl (fun p e=>pre2 p e.key) p0:=by
   rw [List.take_succ_eq_append_getElem hj,List.foldl_append,← g2];rfl
  have hk:=he _ (List.getElem_mem hj)
  have hle:=(z73 p l[j].key).1
  conv=>whnf
  refine ixL zap hj hz ?_
  conv=>whnf
  refine stJ (zaf _ _) ?_
  conv=>whnf
  refine ldI (zag _ _ _) ?_
  conv=>whnf
  refine clI (zws (by omega) p l[j].key g3 hk.1) ?_
  conv=>whnf
  refine zob hle ?_
  conv=>whnf
  refine zJ j ?_
  refine nxI (j+1,pre2 p l[j].key,_) ⟨hj,hst,by simp only [pre2,List.length_take];omega⟩ (by simp only;omega) ⟨⟨rfl,rfl,rfl,rfl⟩,rfl,rfl⟩
 ·simp only at b
  have:j=l.length:=by omega
  subst this
  rw [List.take_length] at g2
  subst g2
  conv=>whnf
  exact hE _ _ rfl
theorem zlz {l:List Entry}(h:0<l.length):l[0]=l.headD default:=by
 cases l with
 | nil=>simp at h
 | cons a r=>rfl
theorem zxv (hn:2 ≤ n) (l:List Entry) (hl:l.length<1099511627776) (he:∀ e∈l,e.Ok) (lv:Int) (hne:0<(zbr l lv).length) (sz:Nat) (hz:l≠[] → sz=22) (c:Bool) :
  C n 279 [.lst sz (l.map Entry.av) c,i64 lv] h=some (.ret (.str (shared l lv)),h):=by
 obtain ⟨m,rfl⟩:=pre1 n
 have go:∀ (t:List Entry) (c':Bool) (s':LS),t=zbr l lv → LS.sub ⟨[(0,.lst 22 (t.map Entry.av) c')],[],[]⟩ s' → OkR Tryz.prog (C m) cfg0.inl KK 31 6 (zfd c279) s' (RetQ Tryz.prog [.tmp 4] fun v' h'=>frz h' 64 v'=some (.str (shared l lv))):=fun t c' s' ht hs'=>by
  have h0:0<t.length:=by rw [ht];exact hne
  have het:∀ e∈t,e.Ok:=fun e h=>he e (by
   subst ht
   unfold zbr at h
   split at h
   ·exact List.mem_of_mem_drop h
   ·exact h)
  have hlt:t.length ≤ l.length:=by subst ht;unfold zbr;split<;>simp
  have hsh:((t.drop 1).foldl (fun p e=>pre2 p e.key) t[0].key)=shared l lv:=by rw [zlz h0,ht];rfl
  refine cutI (by decide) rfl hs' ?_
  conv=>whnf
  refine ixL zap (j:=0) h0 (fun _=>rfl) ?_
  conv=>whnf
  refine slI (sl_lo _ t (fun _=>rfl) c' 1 h0) ?_
  conv=>whnf
  refine zr6 (by omega) (t.drop 1) (by simp;omega) (fun e h=>het e (List.mem_of_mem_drop h)) t[0].key (het _ (List.getElem_mem h0)).1 22 (fun _=>rfl) _ ⟨⟨rfl,rfl,lenI _ _,rfl⟩,rfl,rfl⟩ (fun L hp hL=>?_)
  refine cutI (by decide) rfl (t:=⟨[(5,.str (shared l lv))],hp,[]⟩) ⟨by rw [hsh] at hL;exact hL,rfl,rfl⟩ ?_
  conv=>whnf
  exact retP rfl (zbw rfl)
 refine zad F279 rfl rfl rfl (zbk zbs l rfl) ?_
 conv=>whnf
 refine brd (fun a=>?_) (fun a=>?_)
 ·have ht:l.drop 1=zbr l lv:=by unfold zbr;rw [if_pos a]
  have hl1:1 ≤ l.length:=by rw [← ht] at hne;simp at hne;omega
  conv=>whnf
  refine slI (sl_lo _ l hz c 1 hl1) ?_
  exact go (l.drop 1) _ _ ht ⟨rfl,rfl,rfl⟩
 ·have ht:l=zbr l lv:=by unfold zbr;rw [if_neg a]
  have hsz:sz=22:=hz (by intro e;subst e;rw [← ht] at hne;simp at hne)
  subst hsz
  exact go l c _ ht ⟨rfl,rfl,rfl⟩
theorem zg5 {l:List Entry}{lv:Int}(hv:zc7 l lv=true):0<(zbr l lv).length:=by
 obtain ⟨h1,h2,h3,h4⟩:=valid_iff.1 hv
 unfold zbr
 split
 ·simp;omega
 ·cases l with
  | nil=>exact (h2 rfl).elim
  | cons=>simp
theorem z3g (p k:Str):(pre2 p k).length ≤ p.length:=by simp [pre2];omega
theorem zur:∀ (l:List Entry) (p:Str),(l.foldl (fun p e=>pre2 p e.key) p).length ≤ p.length
 | [],p=>Nat.le_refl _
 | e::r,p=>Nat.le_trans (zur r _) (z3g p e.key)
end
theorem zxf {l:List Entry}{lv:Int}(hv:zc7 l lv=true):∀ e∈l,e.key.length ≤ 48:=fun e he=>by
 obtain ⟨h1,h2,h3,h4⟩:=valid_iff.1 hv
 obtain ⟨j,hj,rfl⟩:=List.getElem_of_mem he
 have:=h4 j hj
 rw [zcw hj] at this
 by_cases e0:lv=0
 ·subst e0
  simp at this
  exact (zo3 this.1).2
 ·simp [e0,zbf] at this
  omega
theorem zha {l:List Entry}{lv:Int}(hv:zc7 l lv=true):(shared l lv).length ≤ 48:=by
 have h0:=zg5 hv
 refine Nat.le_trans (zur _ _) ?_
 rw [← zlz h0]
 have hm:(zbr l lv)[0]∈l:=by
  have:(zbr l lv)[0]∈zbr l lv:=List.getElem_mem h0
  unfold zbr at this ⊢
  split at this<;>rename_i h
  ·simp only [h,if_true];exact List.mem_of_mem_drop this
  ·simp only [h,if_false];exact this
 exact zxf hv _ hm
section
variable {n:Nat}{h:zaa}
end
structure Page where
 kind:Int
 no:Int
 ver:Int
 tree:Int
 level:Int
 top:Bool
 esh:Sh
 entries:List Entry
 next:Int
 data:Str
 fsh:Sh
 freed:List Freed
def Page.cells (p:Page):List AV:=[i64 p.kind,i64 p.no,i64 p.ver,i64 p.tree,i64 p.level,.bool p.top,.lst p.esh.sz (p.entries.map Entry.av) p.esh.c,i64 p.next,.str p.data,.lst p.fsh.sz (p.freed.map Freed.av) p.fsh.c]
def Page.av (p:Page):AV:=.agg p.cells
structure Page.Ok (p:Page):Prop where
 esz:p.entries≠[] → p.esh.sz=22
 fsz:p.freed≠[] → p.fsh.sz=2
 elen:p.entries.length<1099511627776
 flen:p.freed.length<1048576
 dlen:p.data.length<1099511627776
 ent:∀ e∈p.entries,e.Ok
 fr:∀ f∈p.freed,f.Ok ∧ f.pages.length<9223372036854775808
theorem zc6 (f:Freed):f.av.pureB=true:=by
 show zao [i64 f.ver,.lst f.sh.sz (f.pages.map i64) f.sh.c]=true
 simp [zao,AV.pureB,zdq (f:=i64) (fun _=>rfl)]
theorem zbv (p:Page):p.av.pureB=true:=by
 show zao p.cells=true
 simp [Page.cells,zao,AV.pureB,zdq zbs,zdq zc6]
theorem zo7 (a b:Bool):eqA Tryz.prog 20 4 (.bool a) (.bool b)=some (a==b):=by kernel_rfl
def zcv (n:Int):Bool:=n==0||zaz n
def Page.plain (p:Page):Bool:=p.tree==0&&(p.level==0&&(!p.top&&(p.entries.length:Int)==0))
def pgAt (l:List Int) (k:Nat):Bool:=zaz (l.getD k 0)&&(k==0||decide (l.getD (k-1) 0<l.getD k 0))
def zki (l:List Int):Bool:=(List.range l.length).all (pgAt l)
instance:Inhabited Freed:=⟨⟨0,⟨0,true⟩,[]⟩⟩
def frAt (l:List Freed) (k:Nat):Bool:=(zar (l.getD k default).ver 0 1099511627776&&(((l.getD k default).pages.length:Int) != 0&&(k==0||decide ((l.getD (k-1) default).ver<(l.getD k default).ver))))&&zki (l.getD k default).pages
def zdi (l:List Freed):Bool:=(List.range l.length).all (frAt l)
def zbo (l:List Freed):Int:=6+(l.map fun f=>8+4*(f.pages.length:Int)).sum
def Page.check (p:Page):Bool:=zaz p.no&&(zar p.ver 0 1099511627776&&(if p.kind=1 ∨ p.kind=2 then zar p.tree 0 255&&(((p.kind==1)==(p.level==0))&&(fits p.entries p.level&&(p.next==0&&(p.data==[]&&(p.freed.length:Int)==0))))
 else if p.kind=3 then p.plain&&(zcv p.next&&(zar p.data.length 1 490&&(p.freed.length:Int)==0)) else if p.kind=4 then p.plain&&(zcv p.next&&(p.data==[]&&(zdi p.freed&&decide (zbo p.freed ≤ 496)))) else false))
theorem zd3 {p:Nat → Bool}{n j:Nat}(hj:j<n) (hb:p j=false):(List.range n).all p=false:=by
 rw [List.all_eq_false];exact ⟨j,List.mem_range.2 hj,by simp [hb]⟩
theorem zky {p:Nat → Bool}{n:Nat}(h:∀ i,i<n → p i=true):(List.range n).all p=true:=by
 rw [List.all_eq_true];exact fun i hi=>h i (List.mem_range.1 hi)
theorem zho {p:Nat → Bool}{j:Nat}(h:∀ i,i<j → p i=true) (hj:p j=true):∀ i,i<j+1 → p i=true:=fun i hi=>by
 by_cases e:i=j
 ·rw [e];exact hj
 ·exact h i (by omega)
theorem ze2 {l:List Int}{j:Nat}(hj:j<l.length):pgAt l j=(zaz l[j]&&(decide (j=0)||decide (l[j-1]<l[j]))):=by
 have h1:l.getD j 0=l[j]:=by simp [hj]
 have h2:l.getD (j-1) 0=l[j-1]:=by simp [show j-1<l.length by omega]
 have h3:(j==0)=decide (j=0):=by by_cases e:j=0<;>simp [e]
 unfold pgAt;rw [h1,h2,h3]
theorem zc0 {l:List Freed}{j:Nat}(hj:j<l.length):frAt l j=((zar l[j].ver 0 1099511627776&&((l[j].pages.length:Int) != 0&&(decide (j=0)||decide (l[j-1].ver<l[j].ver))))&&zki l[j].pages):=by
 have h1:l.getD j default=l[j]:=by simp [hj]
 have h2:l.getD (j-1) default=l[j-1]:=by simp [show j-1<l.length by omega]
 have h3:(j==0)=decide (j=0):=by by_cases e:j=0<;>simp [e]
 unfold frAt;rw [h1,h2,h3]
section
variable {n:Nat}{h:zaa}
theorem z3h (hn:1 ≤ n) (p:Page):C n 193 [p.av] h=some (.ret (.bool p.plain),h):=by
 obtain ⟨m,rfl⟩:=pre1 n
 refine zad F193 rfl rfl rfl (by simp [zao,zbv]) ?_
 repeat' (conv=>whnf);first
  | refine retP rfl (zai ?_)
  | refine brd (fun _=>?_) (fun _=>?_)
  | refine bre (fun _=>?_) (fun _=>?_)
  | refine brq (fun _=>?_) (fun _=>?_)
  | refine brn (fun _=>?_) (fun _=>?_)
  | refine br (fun _=>?_) (fun _=>?_)
  | refine ldI (by rfl) ?_
  | refine ldI (zag _ _ _) ?_
  | refine ldI (zaf _ _) ?_
  | refine stJ (by rfl) ?_
  | refine stJ (zaf _ _) ?_
  | refine cutS (by decide) rfl ?_
 all_goals simp_all [Page.plain]
theorem zzq (hn:3 ≤ n) (k:Int):C n 194 [i64 k] h=some (.ret (.bool (zcv k)),h):=by
 obtain ⟨m,rfl⟩:=pre1 n
 refine zad F194 rfl rfl rfl rfl ?_
 repeat' (conv=>whnf);first
  | refine clI (zeo (by omega) _) ?_
  | refine retP rfl (zai ?_)
  | refine brd (fun _=>?_) (fun _=>?_)
  | refine bre (fun _=>?_) (fun _=>?_)
  | refine brq (fun _=>?_) (fun _=>?_)
  | refine brn (fun _=>?_) (fun _=>?_)
  | refine br (fun _=>?_) (fun _=>?_)
  | refine ldI (by rfl) ?_
  | refine ldI (zag _ _ _) ?_
  | refine ldI (zaf _ _) ?_
  | refine stJ (by rfl) ?_
  | refine stJ (zaf _ _) ?_
  | refine cutS (by decide) rfl ?_
 all_goals simp_all [zcv]
theorem zgq:∀ (l:List Freed),(∀ f∈l,f.pages.length<1048576) → 6 ≤ zbo l ∧ zbo l ≤ 6+4194312*l.length
 | [],_=>by simp [zbo]
 | f::r,hf=>by
  have h1:=zgq r fun g hg=>hf g (List.mem_cons_of_mem _ hg)
  have h2:=hf f (List.mem_cons_self ..)
  simp only [zbo,List.map_cons,List.sum_cons,List.length_cons] at h1 ⊢
  omega
theorem zss (l:List Freed) {j:Nat}(hj:j<l.length):zbo (l.take (j+1))=zbo (l.take j)+(8+4*(l[j].pages.length:Int)):=by
 rw [List.take_succ_eq_append_getElem hj]
 unfold zbo
 rw [List.map_append,List.sum_append]
 simp only [List.map_cons,List.map_nil,List.sum_cons,List.sum_nil]
 omega
theorem zzp (hn:1 ≤ n) (l:List Freed) (hl:l.length<1048576) (hf:∀ f∈l,f.Ok ∧ f.pages.length<1048576) (sz:Nat) (hz:l≠[] → sz=2) (c:Bool):C n 196 [.lst sz (l.map Freed.av) c] h=some (.ret (i64 (zbo l)),h):=by
 obtain ⟨m,rfl⟩:=pre1 n
 refine zad F196 rfl rfl rfl (zbk zc6 l rfl) ?_
 conv=>whnf
 refine za3 (by decide) rfl (α:=Nat × zaa) (fun x=>⟨[(3,i64 (zbo (l.take x.1))),(6,.lst sz (l.map Freed.av) c),(7,i64 l.length),(8,i64 x.1)],x.2,[]⟩) (fun x=>x.1 ≤ l.length) (fun x=>l.length-x.1) (0,[]) ⟨⟨rfl,rfl,lenI _ _,rfl⟩,rfl,rfl⟩ (Nat.zero_le _) (by show l.length-0<KK;simp only [KK];omega) ?_
 rintro ⟨j,hp⟩ g1
 simp only at g1
 conv=>whnf
 refine brd (fun a=>?_) (fun a=>?_)
 ·have hj:j<l.length:=by simp only at a;omega
  obtain ⟨k1,k2⟩:=hf _ (List.getElem_mem hj)
  have hb:=zgq (l.take j) fun f h=>(hf f (List.mem_of_mem_take h)).2
  rw [List.length_take] at hb
  have el:((l[j].pages.map i64).length:Int)=(l[j].pages.length:Int):=by rw [List.length_map]
  conv=>whnf
  refine ixL zbb hj hz ?_
  conv=>whnf
  refine stJ (zaf _ _) ?_
  conv=>whnf
  refine ldI (zag _ _ _) ?_
  conv=>whnf
  refine zI (z:=4*(l[j].pages.length:Int)) (by rw [el,zae (by omega) (by omega)]) ?_
  conv=>whnf
  refine zI (z:=8+4*(l[j].pages.length:Int)) (zae (by omega) (by omega)) ?_
  conv=>whnf
  refine zI (z:=zbo (l.take (j+1))) (by rw [zss l hj,zae (by simp only;omega) (by simp only;omega)]) ?_
  conv=>whnf
  refine zJ j ?_
  exact nxI (j+1,_) hj (by simp only;omega) ⟨⟨rfl,rfl,rfl,rfl⟩,rfl,rfl⟩
 ·have hj:j=l.length:=by simp only at a;omega
  subst hj
  conv=>whnf
  refine cutI (by decide) rfl (t:=⟨[(3,i64 (zbo l))],hp,[]⟩) ⟨by rw [List.take_length];rfl,rfl,rfl⟩ ?_
  conv=>whnf
  exact retP rfl (zb2 rfl)
theorem z49 {l:List Int}(h:zki l=true):∀ i (hi:i<l.length),(2:Int)+i ≤ l[i] ∧ l[i] ≤ 4095
 | 0,hi=>by
  have:=List.all_eq_true.1 h 0 (List.mem_range.2 hi)
  rw [ze2 hi] at this
  simp [zaz,zar] at this
  omega
 | i+1,hi=>by
  have h0:=z49 h i (by omega)
  have:=List.all_eq_true.1 h (i+1) (List.mem_range.2 hi)
  rw [ze2 hi] at this
  simp [zaz,zar] at this
  omega
theorem zy6 {l:List Int}(h:zki l=true):l.length ≤ 4094:=by
 rcases Nat.eq_zero_or_pos l.length with e | e
 ·omega
 ·have:=z49 h (l.length-1) (by omega)
  omega
theorem zjb {l:List Freed}(h:zdi l=true) (hf:∀ f∈l,f.Ok ∧ f.pages.length<9223372036854775808):∀ f∈l,f.Ok ∧ f.pages.length<1048576:=fun f hm=>by
 obtain ⟨i,hi,rfl⟩:=List.getElem_of_mem hm
 have:=List.all_eq_true.1 h i (List.mem_range.2 hi)
 rw [zc0 hi,Bool.and_eq_true] at this
 have:=zy6 this.2
 exact ⟨(hf _ hm).1,by omega⟩
theorem z3l {m:Nat}(hm:2 ≤ m) (l:List Int) (hl:l.length<9223372036854775808) (sz:Nat) (hz:l≠[] → sz=1) (c:Bool) (f:Freed) (hf:f=⟨f.ver,⟨sz,c⟩,l⟩) {hp:zaa}{E:Nat}(hE0:hp[E]?=some (.cells 0 (some 145) f.cells 0)) {Q:Ex → LS → Prop}{s:LS}(v0 v7 v8 v9:AV)
  (hs:LS.sub ⟨[(0,v0),(4,.ptr E 0 0),(7,v7),(8,v8),(9,v9),(40,.lst sz (l.map i64) c),(41,i64 l.length),(42,i64 0)],hp,[]⟩ s)
  (hE:zki l=true → ∀ L,subL [(0,v0),(7,v7),(8,v8),(9,v9)] L → Q (.exit 2) ⟨L,hp,[]⟩) (hR:zki l=false → ∀ L,lk L 2=some (.bool false) → Q .ret ⟨L,hp,[]⟩) :
  OkR Tryz.prog (C m) cfg0.inl KK 66 7 (.loop (c195.lp 1)) s Q:=by
 refine za3 (by decide) rfl (α:=Nat) (fun x=>⟨[(0,v0),(4,.ptr E 0 0),(7,v7),(8,v8),(9,v9),(40,.lst sz (l.map i64) c),(41,i64 l.length),(42,i64 x)],hp,[]⟩) (fun x=>x ≤ l.length ∧ ∀ i,i<x → pgAt l i=true) (fun x=>l.length-x) 0 hs ⟨Nat.zero_le _,fun i hi=>absurd hi (Nat.not_lt_zero _)⟩ (by show l.length-0<KK;simp only [KK];omega) ?_
 rintro j ⟨g1,g2⟩
 have e0:f.cells=[i64 f.ver,.lst sz (l.map i64) c]:=by rw [hf];rfl
 rw [e0] at hE0
 conv=>whnf
 refine brd (fun a=>?_) (fun a=>?_)
 ·have hj:j<l.length:=by omega
  repeat' (conv=>whnf);first
   | refine ixL (l:=l) (j:=j) zeu hj hz ?_
   | refine ixL (l:=l) (j:=j-1) zeu (by omega) hz ?_
   | refine clI (zeo (by omega) _) ?_
   | refine ldI hE0 ?_
   | refine zI (z:=((j-1:Nat):Int)) (by rw [zae (by omega) (by omega)];omega) ?_
   | refine zJ j ?_
   | refine hR (zd3 hj ?_) _ rfl
   | refine nxI (j+1) ⟨hj,zho g2 ?_⟩ (by omega) ⟨⟨rfl,rfl,rfl,rfl,rfl,rfl,rfl,rfl⟩,rfl,rfl⟩
   | (exfalso;omega)
   | refine brd (fun _=>?_) (fun _=>?_)
   | refine bre (fun _=>?_) (fun _=>?_)
   | refine brq (fun _=>?_) (fun _=>?_)
   | refine brn (fun _=>?_) (fun _=>?_)
   | refine br (fun _=>?_) (fun _=>?_)
   | refine ldI (by rfl) ?_
   | refine ldI (zag _ _ _) ?_
   | refine ldI (zaf _ _) ?_
   | refine stJ (by rfl) ?_
   | refine stJ (zaf _ _) ?_
   | refine zI (zae (by omega) (by omega)) ?_
   | refine cutS (by decide) rfl ?_
  all_goals clear hf e0 hE0 hE hR hs
  all_goals rw [ze2 hj]
  all_goals by_cases hj0:j=0
  all_goals simp_all
  all_goals omega
 ·have hj:j=l.length:=by omega
  subst hj
  conv=>whnf
  exact hE (zky g2) _ ⟨rfl,rfl,rfl,rfl⟩
theorem z4b (hn:3 ≤ n) (l:List Freed) (hl:l.length<1048576) (hf:∀ f∈l,f.Ok ∧ f.pages.length<9223372036854775808) (sz:Nat) (hz:l≠[] → sz=2) (c:Bool):C n 195 [.lst sz (l.map Freed.av) c] h=some (.ret (.bool (zdi l)),h):=by
 obtain ⟨m,rfl⟩:=pre1 n
 refine zad F195 rfl rfl rfl (zbk zc6 l rfl) ?_
 conv=>whnf
 refine za3 (by decide) rfl (α:=Nat × zaa) (fun x=>⟨[(0,.lst sz (l.map Freed.av) c),(7,.lst sz (l.map Freed.av) c),(8,i64 l.length),(9,i64 x.1)],x.2,[]⟩) (fun x=>x.1 ≤ l.length ∧ ∀ i,i<x.1 → frAt l i=true) (fun x=>l.length-x.1) (0,[]) ⟨⟨rfl,rfl,lenI _ _,rfl⟩,rfl,rfl⟩ ⟨Nat.zero_le _,fun i hi=>absurd hi (Nat.not_lt_zero _)⟩ (by show l.length-0<KK;simp only [KK];omega) ?_
 rintro ⟨j,hp⟩ ⟨g1,g2⟩
 simp only at g1 g2
 conv=>whnf
 refine brd (fun a=>?_) (fun a=>?_)
 ·have hj:j<l.length:=by simp only at a;omega
  obtain ⟨k1,k2⟩:=hf _ (List.getElem_mem hj)
  have el:((l[j].pages.map i64).length:Int)=(l[j].pages.length:Int):=by rw [List.length_map]
  conv=>whnf
  refine ixL zbb hj hz ?_
  conv=>whnf
  refine stJ (zaf _ _) ?_
  have good:∀ {Q:Ex → LS → Prop}(s':LS),LS.sub ⟨[(0,.lst sz (l.map Freed.av) c),(4,.ptr hp.length 0 0),(7,.lst sz (l.map Freed.av) c),(8,i64 l.length),(9,i64 j)],((hp++[AB.cells 0 (some 145) [i64 0,.lst 0 [] true] 0]).set hp.length (.cells 0 (some 145) l[j].cells 0)),[]⟩ s' →
    (zki l[j].pages=true → ∀ L,subL [(0,.lst sz (l.map Freed.av) c),(7,.lst sz (l.map Freed.av) c),(8,i64 l.length),(9,i64 j)] L → Q .norm ⟨L,((hp++[AB.cells 0 (some 145) [i64 0,.lst 0 [] true] 0]).set hp.length (.cells 0 (some 145) l[j].cells 0)),[]⟩) → (zki l[j].pages=false → ∀ L,lk L 2=some (.bool false) → Q .ret ⟨L,((hp++[AB.cells 0 (some 145) [i64 0,.lst 0 [] true] 0]).set hp.length (.cells 0 (some 145) l[j].cells 0)),[]⟩) →
    OkR Tryz.prog (C m) cfg0.inl KK 66 7 (zfd (c195.lp 0)) s' Q:=by
   intro Q s' hs' hT hF
   refine cutI (by decide) rfl hs' ?_
   conv=>whnf
   refine ldI (zag _ _ _) ?_
   conv=>whnf
   refine z3l (by omega) l[j].pages k2 l[j].sh.sz k1 l[j].sh.c l[j] rfl (zag _ _ _) (.lst sz (l.map Freed.av) c) (.lst sz (l.map Freed.av) c) (i64 l.length) (i64 j) ⟨⟨rfl,rfl,rfl,rfl,rfl,rfl,lenI i64 _,rfl⟩,rfl,rfl⟩ (fun q L hL=>?_) (fun q L hk=>?_)
   ·conv=>whnf
    exact hT q L hL
   ·conv=>whnf
    exact hF q L hk
  repeat' (conv=>whnf);first
   | refine ldI (zag _ _ _) ?_
   | refine ixL (l:=l) (j:=j-1) zbb (by omega) hz ?_
   | refine clI (zc9 (by omega) _ _ _) ?_
   | refine zI (z:=((j-1:Nat):Int)) (by rw [zae (by omega) (by omega)];omega) ?_
   | refine zJ j ?_
   | refine good _ ⟨⟨rfl,rfl,rfl,rfl,rfl⟩,rfl,rfl⟩ (fun _ _ _=>?_) (fun _ _ _=>?_)
   | refine cutI (by decide) rfl (t:=⟨[(0,.lst sz (l.map Freed.av) c),(7,.lst sz (l.map Freed.av) c),(8,i64 l.length),(9,i64 j)],_,[]⟩) ⟨(by assumption),rfl,rfl⟩ ?_
   | refine nxI (j+1,_) ⟨hj,zho g2 ?_⟩ (by simp only;omega) ⟨⟨rfl,rfl,rfl,rfl⟩,rfl,rfl⟩
   | refine retK (by assumption) (zai (zd3 hj ?_).symm)
   | refine retP rfl (zai (zd3 hj ?_).symm)
   | (exfalso;omega)
   | refine brd (fun _=>?_) (fun _=>?_)
   | refine bre (fun _=>?_) (fun _=>?_)
   | refine brq (fun _=>?_) (fun _=>?_)
   | refine brn (fun _=>?_) (fun _=>?_)
   | refine br (fun _=>?_) (fun _=>?_)
   | refine ldI (by rfl) ?_
   | refine ldI (zag _ _ _) ?_
   | refine ldI (zaf _ _) ?_
   | refine stJ (by rfl) ?_
   | refine stJ (zaf _ _) ?_
   | refine zI (zae (by omega) (by omega)) ?_
  all_goals clear good
  all_goals rw [zc0 hj]
  all_goals try simp only [el] at *
  all_goals by_cases hj0:j=0
  all_goals simp_all
  all_goals omega
 ·have hj:j=l.length:=by simp only at a;omega
  subst hj
  conv=>whnf
  refine cutI (by decide) rfl (t:=⟨[],hp,[]⟩) ⟨trivial,rfl,rfl⟩ ?_
  conv=>whnf
  exact retP rfl (zai (zky g2).symm)
end
theorem z00:∀ (x y:Str),x.take (cp x y)=y.take (cp x y)
 | [],y=>by simp [cp]
 | a::x,[]=>by simp [cp]
 | a::x,b::y=>by
  simp only [cp]
  split
  ·rename_i h;subst h;simp [z00 x y]
  ·rfl
theorem zy2 (p k:Str):pre2 p k <+: p:=List.take_prefix _ _
theorem zvw (p k:Str):pre2 p k <+: k:=by unfold pre2;rw [z00];exact List.take_prefix _ _
theorem zl2:∀ (l:List Entry) (p:Str),l.foldl (fun p e=>pre2 p e.key) p <+: p ∧ ∀ e∈l,l.foldl (fun p e=>pre2 p e.key) p <+: e.key
 | [],p=>⟨List.prefix_refl _,fun e h=>by cases h⟩
 | a::r,p=>by
  obtain ⟨h1,h2⟩:=zl2 r (pre2 p a.key)
  refine ⟨h1.trans (zy2 _ _),fun e he=>?_⟩
  rcases List.mem_cons.1 he with rfl | he
  ·exact h1.trans (zvw _ _)
  ·exact h2 e he
theorem ziw (l:List Entry) (lv:Int):∀ e∈zbr l lv,shared l lv <+: e.key:=by
 intro e he
 unfold shared
 cases ht:zbr l lv with
 | nil=>rw [ht] at he;cases he
 | cons a r =>
  rw [ht] at he
  obtain ⟨h1,h2⟩:=zl2 r a.key
  rcases List.mem_cons.1 he with rfl | he
  ·exact h1
  ·exact h2 e he
def zdc (l:List Entry) (lv:Int) (i:Nat):Nat:=if i=0 ∧ 0<lv then 0 else (shared l lv).length
theorem zrl {l:List Entry}{lv:Int}{i:Nat}(hi:i<l.length) (h:¬ (i=0 ∧ 0<lv)):shared l lv <+: l[i].key:=by
 refine ziw l lv _ ?_
 unfold zbr
 split
 ·rename_i hl
  obtain ⟨k,rfl⟩ : ∃ k,i=k+1:=⟨i-1,by omega⟩
  rw [List.mem_iff_getElem]
  exact ⟨k,by simp;omega,by simp [Nat.add_comm]⟩
 ·exact List.getElem_mem hi
theorem zpa {l:List Entry}{lv:Int}{i:Nat}(hi:i<l.length):zdc l lv i ≤ l[i].key.length:=by
 unfold zdc
 split
 ·omega
 ·rename_i h;exact (zrl hi h).length_le
theorem zzj {e:Entry}(hf:za2 e≠0):e.Nn ∧ e.key.length ≤ 48 ∧ e.val.length ≤ 64:=by
 have hk:=zo3 hf
 unfold za2 at hf
 split at hf
 ·exact (hf rfl).elim
 split at hf
 ·rename_i h
  simp [zfc] at h
  obtain ⟨⟨⟨⟨⟨h1,h2⟩,h3⟩,h4⟩,_⟩,h5⟩:=h
  exact ⟨⟨by omega,by omega,by omega,by omega⟩,by omega,h5⟩
 split at hf
 ·exact (hf rfl).elim
 rename_i hv
 simp at hv
 split at hf
 ·rename_i h
  simp [zkb,zaz,zar] at h
  exact ⟨⟨by omega,by omega,by omega,by omega⟩,by omega,by simp [hv]⟩
 split at hf
 ·rename_i h
  simp [zka,zaz,zar] at h
  exact ⟨⟨by omega,by omega,by omega,by omega⟩,by omega,by simp [hv]⟩
 ·exact (hf rfl).elim
theorem zqr {e:Entry}(h:zbf e=true):e.Nn ∧ e.key.length ≤ 48 ∧ e.val.length ≤ 64:=by
 simp [zbf,zaz,zar] at h
 obtain ⟨⟨⟨⟨⟨h1,h2⟩,h3⟩,h4⟩,h5⟩,h6⟩:=h
 exact ⟨⟨by omega,by omega,by omega,by omega⟩,by omega,by simp [h2]⟩
theorem zn3 {l:List Entry}{lv:Int}(hv:zc7 l lv=true):∀ e∈l,e.Nn ∧ e.key.length ≤ 48 ∧ e.val.length ≤ 64:=by
 obtain ⟨h1,h2,h3,h4⟩:=valid_iff.1 hv
 intro e he
 obtain ⟨j,hj,rfl⟩:=List.getElem_of_mem he
 have:=h4 j hj
 rw [zcw hj] at this
 by_cases e0:lv=0
 ·subst e0
  simp at this
  exact zzj this.1
 ·simp [e0] at this
  exact zqr this.1.1
def zea (l:List Entry) (lv:Int) (k:Nat):Str:=(List.range k).flatMap fun i=>entB (zdc l lv i) (l.getD i default) lv
def zlq (l:List Entry) (lv:Int) (base k:Nat):Str:=(List.range k).flatMap fun i=>num (base+(zea l lv i).length) 2
def zlt (tree lv:Int) (top:Bool) (l:List Entry) (base:Nat):Str :=
 num tree.toNat 1++(num lv.toNat 1++(num (if top then 1 else 0) 1++(num (shared l lv).length 1++(num l.length 2++(shared l lv++(zlq l lv (base+6+(shared l lv).length+2*l.length) l.length++zea l lv l.length))))))
theorem zei (l:List Entry) (lv:Int) {k:Nat}(hk:k<l.length):zea l lv (k+1)=zea l lv k++entB (zdc l lv k) l[k] lv:=by
 unfold zea
 rw [List.range_succ,List.flatMap_append,List.flatMap_cons,List.flatMap_nil,List.append_nil,← zsw hk]
theorem zjv (l:List Entry) (lv:Int) (base k:Nat):zlq l lv base (k+1)=zlq l lv base k++num (base+(zea l lv k).length) 2:=by
 unfold zlq
 rw [List.range_succ,List.flatMap_append,List.flatMap_cons,List.flatMap_nil,List.append_nil]
theorem zen (l:List Entry) (lv:Int) (base:Nat):∀ k,(zlq l lv base k).length=2*k
 | 0=>rfl
 | k+1=>by rw [zjv,List.length_append,zen l lv base k,zam];omega
theorem zuv (c:Nat) (e:Entry) (lv:Int):(entB c e lv).length ≤ 27+e.key.length+e.val.length ∧ 1 ≤ (entB c e lv).length:=by
 have:=zgf e lv
 unfold entB
 simp only [List.length_append,zam,List.length_drop]
 omega
theorem zgv {l:List Entry}{lv:Int}(hv:zc7 l lv=true):∀ k,k ≤ l.length → (zea l lv k).length ≤ 140*k
 | 0,_=>by simp [zea]
 | k+1,hk=>by
  have h1:=zgv hv k (by omega)
  have h2:=zuv (zdc l lv k) l[k] lv
  have h3:=zn3 hv _ (List.getElem_mem (show k<l.length by omega))
  rw [zei l lv (by omega),List.length_append]
  omega
theorem Wrote.other {hp h h':zaa}{a b:Nat}{F G GA GA':List Nat}{s sA:Str}(w:Wrote hp h b F G s) (v:Wrote h h' a GA GA' sA) (h1:∀ x∈GA,hp.length ≤ x) (h2:∀ x∈G,x ∉ GA):Wrote hp h' b F G s :=
 ⟨w.1.stays v.2.1 h2,w.2.1.trans v.2.1 (fun x hx=>.inr (h1 x hx)),w.2.2⟩
theorem Wrote.apart {h h':zaa}{b:Nat}{F F' GA:List Nat}{s:Str}(w:Wrote h h' b F F' s) (hd:∀ x∈GA,x ∉ F) (hl:∀ x∈GA,x<h.length):∀ x∈GA,x ∉ F':=fun x hx hf=>by
 rcases w.2.2 x hf with q | q
 ·exact hd x hx q
 ·have:=hl x hx;omega
def zeroE:Entry:=⟨[],[],0,0,0,0,Dg.zero⟩
def zgo (tree lv:Int) (top:Bool) (l:List Entry) (sz:Nat) (c:Bool):List AV:=[i64 tree,i64 lv,.bool top,.lst sz (l.map Entry.av) c]
section
variable {n:Nat}{hp:zaa}{b:Nat}{bs:Str}{F:List Nat}{K X:AV → zaa → Prop}
theorem z65 (hn:5 ≤ n) (w:BW hp b bs F) (tree lv:Int) (top:Bool) (h0:0 ≤ tree) (l:List Entry) (sz:Nat) (hz:l≠[] → sz=22) (c:Bool) (hv:zc7 l lv=true) (hl:l.length ≤ 1000) (hbs:bs.length ≤ 1000) :
  ∃ hp' F',C n 278 [.agg (zgo tree lv top l sz c),.ptr b 0 0] hp=some (.ret (.tup []),hp') ∧ Wrote hp hp' b F F' (bs++zlt tree lv top l bs.length):=by
 obtain ⟨m,rfl⟩:=pre1 n
 have:=zcn (n:=m) (c:=cfg0) (args:=[.agg (zgo tree lv top l sz c),.ptr b 0 0]) (h:=hp) (R:=fun v hp'=>v=.tup [] ∧ ∃ F',Wrote hp hp' b F F' (bs++zlt tree lv top l bs.length)) F278 rfl rfl ?_
 ·obtain ⟨v,hp',e,rfl,F',hW⟩:=this
  exact ⟨hp',F',e,hW⟩
 obtain ⟨⟨lv0,lv20⟩,hne,_,_⟩:=valid_iff.1 hv
 have hnn:=zn3 hv
 have hpre:=zha hv
 obtain ⟨w1,e1,ne1⟩:=w.app (.cells 0 (some 296) (zgo tree lv top l sz c) 0)
 conv=>whnf
 refine ldI e1 ?_
 conv=>whnf
 refine ldI e1 ?_
 conv=>whnf
 refine clI (zxv (n:=m) (by omega) l (by omega) (fun e h=>by have:=hnn e h;exact ⟨by omega,by omega⟩) lv (zg5 hv) sz hz c) ?_
 conv=>whnf
 refine ldI e1 ?_
 conv=>whnf
 refine numC (n:=m) (hp:=hp++[.cells 0 (some 296) (zgo tree lv top l sz c) 0]) (by omega) w1 tree h0 1 (by omega) (by omega) fun h2 F2 w2=>?_
 have e2:=(w2.keep e1 ne1).1
 have ne2:=(w2.keep e1 ne1).2
 conv=>whnf
 refine ldI e2 ?_
 conv=>whnf
 refine numC (n:=m) (hp:=h2) (by omega) w2.1 lv (by omega) 1 (by omega) (by simp only [List.length_append,zam];omega) fun h3 F3 w3=>?_
 have e3:=(w3.keep e2 ne2).1
 have ne3:=(w3.keep e2 ne2).2
 have rest:∀ (k:Int) (s':LS),k=(if top then 1 else 0) → LS.sub ⟨[(1,.ptr b 0 0),(2,.ptr hp.length 0 0),(4,.str (shared l lv)),(5,i64 k)],h3,[]⟩ s' →
   OkR Tryz.prog (C m) cfg0.inl KK 86 7 (zfd c278) s' (RetQ Tryz.prog [] fun v hp'=>v=.tup [] ∧ ∃ F',Wrote hp hp' b F F' (bs++zlt tree lv top l bs.length)):=by
  intro k s' hk hs'
  have hk01:0 ≤ k ∧ k ≤ 1:=by subst hk;split<;>omega
  refine cutI (by decide) rfl hs' ?_
  conv=>whnf
  refine numC (n:=m) (hp:=h3) (by omega) w3.1 k (by omega) 1 (by omega) (by simp only [List.length_append,zam];omega) fun h4 F4 w4=>?_
  have e4:=(w4.keep e3 ne3).1
  have ne4:=(w4.keep e3 ne3).2
  conv=>whnf
  refine numC (n:=m) (hp:=h4) (by omega) w4.1 ((shared l lv).length:Int) (by omega) 1 (by omega) (by simp only [List.length_append,zam];omega) fun h5 F5 w5=>?_
  have e5:=(w5.keep e4 ne4).1
  have ne5:=(w5.keep e4 ne4).2
  conv=>whnf
  refine ldI e5 ?_
  conv=>whnf
  have el:((l.map Entry.av).length:Int)=(l.length:Int):=by rw [List.length_map]
  rw [el]
  refine numC (n:=m) (hp:=h5) (by omega) w5.1 (l.length:Int) (by omega) 2 (by omega) (by simp only [List.length_append,zam];omega) fun h6 F6 w6=>?_
  have e6:=(w6.keep e5 ne5).1
  have ne6:=(w6.keep e5 ne5).2
  conv=>whnf
  refine strC (n:=m) (hp:=h6) (by omega) w6.1 (shared l lv) (by simp only [List.length_append,zam];omega) fun h7 F7 w7=>?_
  have e7:=(w7.keep e6 ne6).1
  have ne7:=(w7.keep e6 ne6).2
  have W7:=((w2.trans (w3.trans (w4.trans (w5.trans (w6.trans w7))))).of_app)
  obtain ⟨w8,a8,na8⟩:=w7.1.app (.cells 0 (some 248) [.nilp,.lst 0 [] true] 0)
  have e8:=za8 (x:=.cells 0 (some 248) [.nilp,.lst 0 [] true] 0) e7
  have hA:h7.length ∉ F7:=na8
  have hlen:hp.length ≤ h7.length:=W7.2.1.1
  have hlen8:(bs++num tree.toNat 1++num lv.toNat 1++num k.toNat 1++num ((shared l lv).length:Int).toNat 1++num (l.length:Int).toNat 2++shared l lv).length=bs.length+6+(shared l lv).length:=by
   simp only [List.length_append,zam]
  conv=>whnf
  refine ldI e8 ?_
  conv=>whnf
  rw [el]
  refine zI (z:=2*(l.length:Int)) (zae (by omega) (by omega)) ?_
  conv=>whnf
  refine clI (zn0 (n:=m) (by omega) w8) ?_
  conv=>whnf
  refine ⟨?_,?_⟩
  ·conv=>whnf
   exact ldI e8 rfl
  conv=>whnf
  refine zI (z:=((bs.length+6+(shared l lv).length+2*l.length:Nat):Int)) (by rw [hlen8,zae (by omega) (by omega)];omega) ?_
  conv=>whnf
  refine ldI e8 ?_
  conv=>whnf
  refine za3 (by decide) rfl (α:=Nat × List Nat × List Nat × zaa) (fun x=>⟨[(1,.ptr b 0 0),(2,.ptr hp.length 0 0),(4,.str (shared l lv)),(6,.ptr h7.length 0 0),(7,i64 (bs.length+6+(shared l lv).length+2*l.length:Nat)),(53,.lst sz (l.map Entry.av) c),(54,i64 l.length),(55,i64 x.1)],x.2.2.2,[]⟩)
   (fun x=>x.1 ≤ l.length ∧ Wrote hp x.2.2.2 b F x.2.1 (bs++(num tree.toNat 1++(num lv.toNat 1++(num k.toNat 1++(num (shared l lv).length 1++(num l.length 2++(shared l lv++zlq l lv (bs.length+6+(shared l lv).length+2*l.length) x.1))))))) ∧ BW x.2.2.2 h7.length (zea l lv x.1) x.2.2.1 ∧
    (∀ y∈x.2.2.1,hp.length<y ∧ y ∉ x.2.1) ∧ x.2.2.2[hp.length]?=some (.cells 0 (some 296) (zgo tree lv top l sz c) 0) ∧ hp.length ∉ x.2.1) (fun x=>l.length-x.1) (0,F7,[h7.length],h7++[.cells 0 (some 248) [.nilp,.lst 0 [] true] 0]) ⟨⟨rfl,rfl,rfl,rfl,rfl,rfl,lenI _ _,rfl⟩,rfl,rfl⟩ ?_ (by show l.length-0<KK;simp only [KK];omega) ?_
  ·refine ⟨Nat.zero_le _,?_,⟨_,_,_,a8,.inl rfl,.inr rfl,.inl ⟨rfl,rfl,rfl⟩⟩,?_,e8,ne7⟩
   ·have W8:Wrote hp (h7++[.cells 0 (some 248) [.nilp,.lst 0 [] true] 0]) b F F7 _:=⟨w8,W7.2.1.trans ((Keep.app h7 _ []).mono (by simp)) (fun x hx=>.inl hx),W7.2.2⟩
    simpa [zlq,List.append_assoc] using W8
   ·intro y hy
    simp at hy
    subst hy
    exact ⟨zab e7,hA⟩
  rintro ⟨j,G,GA,h⟩ ⟨g1,g2,g3,g4,g5,g6⟩
  simp only at g1 g2 g3 g4 g5 g6
  conv=>whnf
  refine brd (fun a=>?_) (fun a=>?_)
  ·have hj:j<l.length:=by simp only at a;omega
   have hk':=hnn _ (List.getElem_mem hj)
   have hE1:=zgv hv j (by omega)
   have hO:=zen l lv (bs.length+6+(shared l lv).length+2*l.length) j
   obtain ⟨u0,x0,nx0⟩:=g2.1.app (.cells 0 (some 147) l[j].cells 0)
   have v0:=g3.stays (Keep.app h (.cells 0 (some 147) l[j].cells 0) []) (by simp)
   have nxA:h.length ∉ GA:=fun q=>by have:=g3.lt _ q;omega
   have y0:=za8 (x:=.cells 0 (some 147) l[j].cells 0) g5
   have es:(h++[AB.cells 0 (some 147) zeroE.cells 0]).set h.length (.cells 0 (some 147) l[j].cells 0)=h++[.cells 0 (some 147) l[j].cells 0]:=by simp
   have u1:=es ▸ u0
   have x1:=es ▸ x0
   have v1:=es ▸ v0
   have y1:=es ▸ y0
   conv=>whnf
   refine ixL zap hj hz ?_
   conv=>whnf
   refine stJ (zaf _ _) ?_
   conv=>whnf
   refine clI (zn0 (n:=m) (hp:=(h++[AB.cells 0 (some 147) zeroE.cells 0]).set h.length (.cells 0 (some 147) l[j].cells 0)) (by omega) v1) ?_
   conv=>whnf
   refine zI (z:=(((bs.length+6+(shared l lv).length+2*l.length)+(zea l lv j).length:Nat):Int)) (by rw [zae (by omega) (by omega)];omega) ?_
   conv=>whnf
   refine numC (n:=m) (hp:=(h++[AB.cells 0 (some 147) zeroE.cells 0]).set h.length (.cells 0 (some 147) l[j].cells 0)) (by omega) u1 _ (by omega) 2 (by omega) (by simp only [List.length_append,zam,hO];omega) fun h9 G9 w9=>?_
   have x9:=(w9.keep x1 nx0).1
   have y9:=(w9.keep y1 g6).1
   have ny9:=(w9.keep y1 g6).2
   have v9:=v1.stays w9.2.1 fun x hx=>(g4 x hx).2
   have w9':Wrote h h9 b G G9 _:=Wrote.of_app (es ▸ w9)
   have W9:=g2.trans w9'
   have ap:∀ x∈GA,x ∉ G9:=w9'.apart (fun x hx=>(g4 x hx).2) g3.lt
   have call:∀ {Q:Ex → LS → Prop}(cc:Nat) (s':LS),cc=zdc l lv j → LS.sub ⟨[(1,.ptr b 0 0),(2,.ptr hp.length 0 0),(4,.str (shared l lv)),(6,.ptr h7.length 0 0),(7,i64 ((bs.length+6+(shared l lv).length+2*l.length):Nat)),(9,.ptr h.length 0 0),(10,i64 cc),(53,.lst sz (l.map Entry.av) c),(54,i64 l.length),(55,i64 j)],h9,[]⟩ s' →
     (∀ h10 GA10,Wrote h9 h10 h7.length GA GA10 (zea l lv j++entB (zdc l lv j) l[j] lv) → ∀ L,subL [(1,.ptr b 0 0),(2,.ptr hp.length 0 0),(4,.str (shared l lv)),(6,.ptr h7.length 0 0),(7,i64 ((bs.length+6+(shared l lv).length+2*l.length):Nat)),(53,.lst sz (l.map Entry.av) c),(54,i64 l.length),(55,i64 j)] L → Q .norm ⟨L,h10,[]⟩) →
     OkR Tryz.prog (C m) cfg0.inl KK 86 7 (zfd (c278.lp 0)) s' Q:=by
    intro Q cc s' hcc hs' hQ
    subst hcc
    obtain ⟨h10,GA10,e10,w10⟩:=z4j (n:=m) (by omega) v9 (zgo tree lv top l sz c) lv rfl rfl l[j] hk'.1 (zdc l lv j) (zpa hj) (by omega)
    refine cutI (by decide) rfl hs' ?_
    conv=>whnf
    refine ldI y9 ?_
    conv=>whnf
    refine ldI x9 ?_
    conv=>whnf
    refine clI e10 ?_
    exact hQ h10 GA10 w10 _ ⟨rfl,rfl,rfl,rfl,rfl,rfl,rfl,rfl⟩
   have next:∀ (L:LT) (h10:zaa) (GA10:List Nat),Wrote h9 h10 h7.length GA GA10 (zea l lv j++entB (zdc l lv j) l[j] lv) →
     (Wrote hp h10 b F G9 (bs++(num tree.toNat 1++(num lv.toNat 1++(num k.toNat 1++(num (shared l lv).length 1++(num l.length 2++(shared l lv++zlq l lv (bs.length+6+(shared l lv).length+2*l.length) (j+1)))))))) ∧ BW h10 h7.length (zea l lv (j+1)) GA10 ∧
     (∀ y∈GA10,hp.length<y ∧ y ∉ G9) ∧ h10[hp.length]?=some (.cells 0 (some 296) (zgo tree lv top l sz c) 0) ∧ hp.length ∉ G9):=by
    intro L h10 GA10 w10
    refine ⟨?_,?_,?_,?_,ny9⟩
    ·have:=W9.other w10 (fun x hx=>by have:=(g4 x hx).1;omega) (fun x hx q=>ap x q hx)
     rw [zjv]
     rw [Int.toNat_natCast] at this
     simpa only [List.append_assoc] using this
    ·rw [zei l lv hj];exact w10.1
    ·intro y hy
     rcases w10.2.2 y hy with q | q
     ·exact ⟨(g4 y q).1,ap y q⟩
     ·refine ⟨?_,fun q2=>?_⟩
      ·have:=zab y9;omega
      ·have:=W9.1.lt y q2;omega
    ·exact (w10.keep y9 (fun q=>by have:=(g4 _ q).1;omega)).1
   conv=>whnf
   refine bre (fun e=>?_) (fun e=>?_)
   ·conv=>whnf
    refine ldI y9 ?_
    conv=>whnf
    refine brd (fun d=>?_) (fun d=>?_)
    ·refine call 0 _ (by unfold zdc;rw [if_pos ⟨by omega,d⟩]) ⟨⟨rfl,rfl,rfl,rfl,rfl,rfl,rfl,rfl,rfl,rfl⟩,rfl,rfl⟩ fun h10 GA10 w10 L hL=>?_
     refine cutI (by decide) rfl (t:=⟨[(1,.ptr b 0 0),(2,.ptr hp.length 0 0),(4,.str (shared l lv)),(6,.ptr h7.length 0 0),(7,i64 (bs.length+6+(shared l lv).length+2*l.length:Nat)),(53,.lst sz (l.map Entry.av) c),(54,i64 l.length),(55,i64 j)],h10,[]⟩) ⟨hL,rfl,rfl⟩ ?_
     conv=>whnf
     refine zJ j ?_
     exact nxI (j+1,G9,GA10,h10) ⟨hj,next [] h10 GA10 w10⟩ (by simp only;omega) ⟨⟨rfl,rfl,rfl,rfl,rfl,rfl,rfl,rfl⟩,rfl,rfl⟩
    ·refine call (shared l lv).length _ (by unfold zdc;rw [if_neg (fun q=>d q.2)]) ⟨⟨rfl,rfl,rfl,rfl,rfl,rfl,rfl,rfl,rfl,rfl⟩,rfl,rfl⟩ fun h10 GA10 w10 L hL=>?_
     refine cutI (by decide) rfl (t:=⟨[(1,.ptr b 0 0),(2,.ptr hp.length 0 0),(4,.str (shared l lv)),(6,.ptr h7.length 0 0),(7,i64 (bs.length+6+(shared l lv).length+2*l.length:Nat)),(53,.lst sz (l.map Entry.av) c),(54,i64 l.length),(55,i64 j)],h10,[]⟩) ⟨hL,rfl,rfl⟩ ?_
     conv=>whnf
     refine zJ j ?_
     exact nxI (j+1,G9,GA10,h10) ⟨hj,next [] h10 GA10 w10⟩ (by simp only;omega) ⟨⟨rfl,rfl,rfl,rfl,rfl,rfl,rfl,rfl⟩,rfl,rfl⟩
   ·conv=>whnf
    refine call (shared l lv).length _ (by unfold zdc;rw [if_neg (fun q=>e (by omega))]) ⟨⟨rfl,rfl,rfl,rfl,rfl,rfl,rfl,rfl,rfl,rfl⟩,rfl,rfl⟩ fun h10 GA10 w10 L hL=>?_
    refine cutI (by decide) rfl (t:=⟨[(1,.ptr b 0 0),(2,.ptr hp.length 0 0),(4,.str (shared l lv)),(6,.ptr h7.length 0 0),(7,i64 (bs.length+6+(shared l lv).length+2*l.length:Nat)),(53,.lst sz (l.map Entry.av) c),(54,i64 l.length),(55,i64 j)],h10,[]⟩) ⟨hL,rfl,rfl⟩ ?_
    conv=>whnf
    refine zJ j ?_
    exact nxI (j+1,G9,GA10,h10) ⟨hj,next [] h10 GA10 w10⟩ (by simp only;omega) ⟨⟨rfl,rfl,rfl,rfl,rfl,rfl,rfl,rfl⟩,rfl,rfl⟩
  ·have hj:j=l.length:=by simp only at a;omega
   subst hj
   have hne2:zea l lv l.length≠[]:=by
    obtain ⟨q,hq⟩ : ∃ q,l.length=q+1:=⟨l.length-1,by cases l with | nil=>exact (hne rfl).elim | cons=>simp⟩
    rw [hq,zei l lv (by omega)]
    intro e
    have:=congrArg List.length e
    have h2:=(zuv (zdc l lv q) (l[q]'(by omega)) lv).2
    rw [List.length_append] at this
    simp only [List.length_nil] at this
    omega
   have hE1:=zgv hv l.length (by omega)
   have hO:=zen l lv (bs.length+6+(shared l lv).length+2*l.length) l.length
   obtain ⟨h10,e10,w10⟩:=zg4 (n:=m) (by omega) g3 hne2 (by omega)
   have W10:=g2.other w10 (fun x hx=>by have:=(g4 x hx).1;omega) (fun x hx q=>(g4 x q).2 hx)
   conv=>whnf
   refine cutI (by decide) rfl (t:=⟨[(1,.ptr b 0 0),(6,.ptr h7.length 0 0)],h,[]⟩) ⟨⟨rfl,rfl⟩,rfl,rfl⟩ ?_
   conv=>whnf
   refine clI e10 ?_
   conv=>whnf
   refine strC (n:=m) (hp:=h10) (by omega) W10.1 (zea l lv l.length) (by simp only [List.length_append,zam,hO];omega) fun h11 F11 w11=>?_
   conv=>whnf
   refine ⟨rfl,[],rfl,rfl,F11,?_⟩
   have:=W10.trans w11
   have ht:k.toNat=if top then 1 else 0:=by subst hk;cases top<;>rfl
   unfold zlt
   rw [← ht]
   simpa [List.append_assoc] using this
 conv=>whnf
 refine ldI e3 ?_
 refine br (fun a=>?_) (fun a=>?_)
 ·subst a
  conv=>whnf
  exact rest 1 _ rfl ⟨⟨rfl,rfl,rfl,rfl⟩,rfl,rfl⟩
 ·subst a
  conv=>whnf
  exact rest 0 _ rfl ⟨⟨rfl,rfl,rfl,rfl⟩,rfl,rfl⟩
end
section
variable {n:Nat}{h:zaa}
theorem zpd (hn:7 ≤ n) (p:Page) (ok:p.Ok):C n 143 [p.av] h=some (.ret (i64 (if p.check then 0 else 2)),h):=by
 obtain ⟨m,rfl⟩:=pre1 n
 obtain ⟨o1,o2,o3,o4,o5,o6,o7⟩:=ok
 refine zad F143 rfl rfl rfl (by simp [zao,zbv]) ?_
 repeat' (conv=>whnf);first
  | refine clI (zeo (by omega) _) ?_
  | refine clI (zc9 (by omega) _ _ _) ?_
  | refine clI (z7w (by omega) p.entries o3 o6 p.level p.esh.sz o1 p.esh.c) ?_
  | refine clI (z3h (by omega) p) ?_
  | refine clI (zzq (by omega) _) ?_
  | refine clI (z4b (by omega) p.freed o4 o7 p.fsh.sz o2 p.fsh.c) ?_
  | refine clI (zzp (by omega) p.freed o4 (zjb (by assumption) o7) p.fsh.sz o2 p.fsh.c) ?_
  | refine eqI (zo7 _ _) ?_
  | refine retP rfl (zb2 ?_)
  | refine brd (fun _=>?_) (fun _=>?_)
  | refine bre (fun _=>?_) (fun _=>?_)
  | refine brq (fun _=>?_) (fun _=>?_)
  | refine brn (fun _=>?_) (fun _=>?_)
  | refine br (fun _=>?_) (fun _=>?_)
  | refine ldI (by rfl) ?_
  | refine ldI (zag _ _ _) ?_
  | refine ldI (zaf _ _) ?_
  | refine stJ (by rfl) ?_
  | refine stJ (zaf _ _) ?_
  | refine cutS (by decide) rfl ?_
 all_goals clear o1 o2 o3 o4 o5 o6 o7
 all_goals simp_all [Page.check]
def Page.body (p:Page):AV:=if p.kind=3 then .ifc 292 (.agg [i64 p.next,.str p.data]) else if p.kind=4 then .ifc 294 (.agg [i64 p.next,.lst p.fsh.sz (p.freed.map Freed.av) p.fsh.c]) else .ifc 296 (.agg (zgo p.tree p.level p.top p.entries p.esh.sz p.esh.c))
theorem z76 (hn:1 ≤ n) (p:Page):C n 175 [p.av] h=some (.ret p.body,h):=by
 obtain ⟨m,rfl⟩:=pre1 n
 have fe:∀ n,zf4 (n+3) (.lst p.esh.sz (p.entries.map Entry.av) p.esh.c):=fun n=>zd0 fun x hx=>by
  obtain ⟨e,_,rfl⟩:=List.mem_map.1 hx
  exact zch fun y hy=>by
   simp [Entry.cells,Dg.cells] at hy
   rcases hy with rfl | rfl | rfl | rfl | rfl | rfl | hy
   ·exact zgu
   ·exact zgu
   ·exact zaw
   ·exact zaw
   ·exact zaw
   ·exact zaw
   ·rcases hy with rfl | rfl | rfl | rfl | rfl | rfl | rfl | rfl | rfl | rfl | rfl | rfl | rfl | rfl | rfl | rfl<;>exact zaw
 have ff:∀ n,zf4 (n+5) (.lst p.fsh.sz (p.freed.map Freed.av) p.fsh.c):=fun n=>zd0 fun x hx=>by
  obtain ⟨f,_,rfl⟩:=List.mem_map.1 hx
  exact zch fun y hy=>by
   simp [Freed.cells] at hy
   rcases hy with rfl | rfl
   ·exact zaw
   ·exact zd0 fun z hz=>by
     obtain ⟨k,_,rfl⟩:=List.mem_map.1 hz
     exact zaw
 refine zad F175 rfl rfl rfl (by simp [zao,zbv]) ?_
 repeat' (conv=>whnf);first
  | refine retP rfl ?_
  | refine brd (fun _=>?_) (fun _=>?_)
  | refine bre (fun _=>?_) (fun _=>?_)
  | refine brq (fun _=>?_) (fun _=>?_)
  | refine brn (fun _=>?_) (fun _=>?_)
  | refine br (fun _=>?_) (fun _=>?_)
  | refine ldI (by rfl) ?_
  | refine ldI (zag _ _ _) ?_
  | refine ldI (zaf _ _) ?_
  | refine stJ (by rfl) ?_
  | refine stJ (zaf _ _) ?_
  | refine cutS (by decide) rfl ?_
 ·show frz _ 64 (.ifc 292 (.agg [i64 p.next,.str p.data]))=some p.body
  refine (zl1 (zch (n:=62) fun y hy=>?_) _).trans (congrArg some ?_)
  ·simp at hy
   rcases hy with rfl | rfl
   ·exact zaw
   ·exact zgu
  ·simp_all [Page.body]
 ·show frz _ 64 (.ifc 294 (.agg [i64 p.next,.lst p.fsh.sz (p.freed.map Freed.av) p.fsh.c]))=some p.body
  refine (zl1 (zch (n:=62) fun y hy=>?_) _).trans (congrArg some ?_)
  ·simp at hy
   rcases hy with rfl | rfl
   ·exact zaw
   ·exact ff 57
  ·simp_all [Page.body]
 ·show frz _ 64 (.ifc 296 (.agg (zgo p.tree p.level p.top p.entries p.esh.sz p.esh.c)))=some p.body
  refine (zl1 (zch (n:=62) fun y hy=>?_) _).trans (congrArg some ?_)
  ·simp [zgo] at hy
   rcases hy with rfl | rfl | rfl | rfl
   ·exact zaw
   ·exact zaw
   ·exact zj0
   ·exact fe 59
  ·simp_all [Page.body]
theorem zsp (c:UInt32) (k:Nat) (hk:k ≤ 3):IntKind.u8.wrap (((c.toNat:Int)).fdiv (2 ^ (min ((8*k:Nat):Int).toNat IntKind.u32.bits)))=((UInt8.ofNat (c.toNat / 256 ^ k)).toNat:Int):=by
 have h1:min ((8*k:Nat):Int).toNat IntKind.u32.bits=8*k:=by show min ((8*k:Nat):Int).toNat 32=8*k;omega
 rw [h1,Int.fdiv_eq_ediv_of_nonneg _ (by exact Int.pow_nonneg (by decide))]
 have h2:((c.toNat:Int)) / (2 ^ (8*k):Int)=((c.toNat / 256 ^ k:Nat):Int):=by
  rw [show (256:Nat)=2 ^ 8 by rfl,← Nat.pow_mul]
  norm_cast
 rw [h2]
 show (if (IntKind.u8.signed&&decide (((c.toNat / 256 ^ k:Nat):Int) % (2 ^ 8:Int)≥(2 ^ (8-1):Int)))=true then ((c.toNat / 256 ^ k:Nat):Int) % (2 ^ 8:Int)-2 ^ 8 else ((c.toNat / 256 ^ k:Nat):Int) % (2 ^ 8:Int))=_
 rw [if_neg (by simp [IntKind.signed]),UInt8.toNat_ofNat']
 omega
def crcB (s:Str):Str:=[UInt8.ofNat ((crc s).toNat / 256 ^ 0),UInt8.ofNat ((crc s).toNat / 256 ^ 1),UInt8.ofNat ((crc s).toNat / 256 ^ 2),UInt8.ofNat ((crc s).toNat / 256 ^ 3)]
theorem zo9 (hn:2 ≤ n) (s:Str) (hs:s.length<1099511627776):C n 179 [.str s] h=some (.ret (.str (s++crcB s)),h):=by
 obtain ⟨m,rfl⟩:=pre1 n
 refine zad F179 rfl rfl rfl rfl ?_
 conv=>whnf
 refine clI (z0z (by omega) s hs) ?_
 conv=>whnf
 refine zI (z:=((UInt8.ofNat ((crc s).toNat / 256 ^ 0)).toNat:Int)) (by rw [z5f,Nat.pow_zero,Nat.div_one];rfl) ?_
 conv=>whnf
 refine ⟨by decide,_,rfl,?_⟩
 conv=>whnf
 refine zI (zsp (crc s) 1 (by omega)) ?_
 conv=>whnf
 refine ⟨by decide,_,rfl,?_⟩
 conv=>whnf
 refine zI (zsp (crc s) 2 (by omega)) ?_
 conv=>whnf
 refine ⟨by decide,_,rfl,?_⟩
 conv=>whnf
 refine zI (zsp (crc s) 3 (by omega)) ?_
 conv=>whnf
 refine ⟨rfl,?_⟩
 conv=>whnf
 refine ⟨_,crcB s,zl6 _ (crcB s) true,zbt _,?_⟩
 conv=>whnf
 refine ⟨by simp [crcB];omega,?_⟩
 conv=>whnf
 exact retP rfl (zbw rfl)
end
def c177:RC :=
 (.seq (.ops [(oP 4 (.mv (.c (.str []))))])
 (.seq (.seq (.ops [(mV 11 1)])
 (.block 0
 (.seq (.ops [(oJ 13 .eql 11 0),(mV 12 13)])
 (.cond (.t 12)
 (.seq (.ops [(oP 4 (.mv (.c (.str []))))])
 .ret)
 (.seq (.ops [(oJ 15 .eql 11 1),(mV 14 15)])
 (.cond (.t 14)
 (.seq (.ops [(mV 16 0),(mV 4 16)])
 .ret)
 .skip))))))
 (.seq (.seq (.ops [(mV 17 1),(oJ 18 .lss 17 0)])
 (.cond (.t 18)
 (.ops [(oP 19 (.mkIfc 9 (.c (.str [115,116,114,105,110,103,115,58,32,110,101,103,97,116,105,118,101,32,82,101,112,101,97,116,32,99,111,117,110,116])))),
 ⟨none,none,.pan (.t 19)⟩])
 .skip))
 (.seq (.ops [(mV 21 0),(oP 22 (.lenS (.t 21))),(oP 23 (.toInt .u64 (.t 22))),(mV 24 1),(oP 25 (.toInt .u64 (.t 24))),(oW 26 215 23 25),(mV 20 26),(oQ 27 20 0),(oQ 28 20 1),(mV 5 27),(mV 6 28)])
 (.seq (.seq (.ops [(mV 29 5),(oP 30 (.bin .gtr (.t 29) (.c (.int .u64 0)))),(mV 31 30),(oE 32 31 false 6),(oG 33 31 false (.bin .gtr (.t 32) (.c (.int .u64 9223372036854775807)))),(oM 34 31 33)])
 (.cond (.t 34)
 (.ops [(oP 35 (.mkIfc 9 (.c (.str [115,116,114,105,110,103,115,58,32,82,101,112,101,97,116,32,111,117,116,112,117,116,32,108,101,110,103,116,104,32,111,118,101,114,102,108,111,119])))),
 ⟨none,none,.pan (.t 35)⟩])
 .skip))
 (.seq (.ops [(mV 36 6),(oP 37 (.toInt .i64 (.t 36))),(mV 7 37)])
 (.seq (.seq (.ops [(mV 38 0),(oP 39 (.lenS (.t 38))),(oJ 40 .eql 39 0)])
 (.cond (.t 40)
 (.seq (.ops [(oP 4 (.mv (.c (.str []))))])
 .ret)
 .skip))
 (.seq (.seq (.ops [(mV 41 0),(oP 42 (.indexS (.t 41) (.c (.int .i64 0))))])
 (.block 1
 (.seq (.seq (.ops [(oP 44 (.bin .eql (.t 42) (.c (.int .u8 32)))),(mV 43 44)])
 (.cond (.t 43)
 .skip
 (.seq (.ops [(oP 45 (.bin .eql (.t 42) (.c (.int .u8 45)))),(mV 43 45)])
 (.cond (.t 43)
 .skip
 (.seq (.ops [(oP 46 (.bin .eql (.t 42) (.c (.int .u8 48)))),(mV 43 46)])
 (.cond (.t 43)
 .skip
 (.seq (.ops [(oP 47 (.bin .eql (.t 42) (.c (.int .u8 61)))),(mV 43 47)])
 (.cond (.t 43)
 .skip
 (.ops [(oP 48 (.bin .eql (.t 42) (.c (.int .u8 9)))),(mV 43 48)])))))))))
 (.cond (.t 43)
 (.block 2
 (.seq (.ops [(mV 50 7),(oJ 51 .leq 50 128),(mV 52 51),(oE 53 52 true 0),(oG 54 52 true (.callF 216 [(.c (.str [32,32,32,32,32,32,32,32,32,32,32,32,32,32,32,32,32,32,32,32,32,32,32,32,32,32,32,32,32,32,32,32,32,32,32,32,32,32,32,32,32,32,32,32,32,32,32,32,32,32,32,32,32,32,32,32,32,32,32,32,32,32,32,32,32,32,32,32,32,32,32,32,32,32,32,32,32,32,32,32,32,32,32,32,32,32,32,32,32,32,32,32,32,32,32,32,32,32,32,32,32,32,32,32,32,32,32,32,32,32,32,32,32,32,32,32,32,32,32,32,32,32,32,32,32,32,32,32])),(.t 53)])),(oN 55 52 54),(mV 49 55)])
 (.cond (.t 49)
 (.seq (.ops [(mV 56 7),(oP 57 (.sliceS (.c (.str [32,32,32,32,32,32,32,32,32,32,32,32,32,32,32,32,32,32,32,32,32,32,32,32,32,32,32,32,32,32,32,32,32,32,32,32,32,32,32,32,32,32,32,32,32,32,32,32,32,32,32,32,32,32,32,32,32,32,32,32,32,32,32,32,32,32,32,32,32,32,32,32,32,32,32,32,32,32,32,32,32,32,32,32,32,32,32,32,32,32,32,32,32,32,32,32,32,32,32,32,32,32,32,32,32,32,32,32,32,32,32,32,32,32,32,32,32,32,32,32,32,32,32,32,32,32,32,32])) none (some (.t 56)))),(mV 4 57)])
 .ret)
 (.seq (.ops [(mV 59 7),(oJ 60 .leq 59 128),(mV 61 60),(oE 62 61 true 0),(oG 63 61 true (.callF 216 [(.c (.str [45,45,45,45,45,45,45,45,45,45,45,45,45,45,45,45,45,45,45,45,45,45,45,45,45,45,45,45,45,45,45,45,45,45,45,45,45,45,45,45,45,45,45,45,45,45,45,45,45,45,45,45,45,45,45,45,45,45,45,45,45,45,45,45,45,45,45,45,45,45,45,45,45,45,45,45,45,45,45,45,45,45,45,45,45,45,45,45,45,45,45,45,45,45,45,45,45,45,45,45,45,45,45,45,45,45,45,45,45,45,45,45,45,45,45,45,45,45,45,45,45,45,45,45,45,45,45,45])),(.t 62)])),(oN 64 61 63),(mV 58 64)])
 (.cond (.t 58)
 (.seq (.ops [(mV 65 7),(oP 66 (.sliceS (.c (.str [45,45,45,45,45,45,45,45,45,45,45,45,45,45,45,45,45,45,45,45,45,45,45,45,45,45,45,45,45,45,45,45,45,45,45,45,45,45,45,45,45,45,45,45,45,45,45,45,45,45,45,45,45,45,45,45,45,45,45,45,45,45,45,45,45,45,45,45,45,45,45,45,45,45,45,45,45,45,45,45,45,45,45,45,45,45,45,45,45,45,45,45,45,45,45,45,45,45,45,45,45,45,45,45,45,45,45,45,45,45,45,45,45,45,45,45,45,45,45,45,45,45,45,45,45,45,45,45])) none (some (.t 65)))),(mV 4 66)])
 .ret)
 (.seq (.ops [(mV 68 7),(oJ 69 .leq 68 64),(mV 70 69),(oE 71 70 true 0),(oG 72 70 true (.callF 216 [(.c (.str [48,48,48,48,48,48,48,48,48,48,48,48,48,48,48,48,48,48,48,48,48,48,48,48,48,48,48,48,48,48,48,48,48,48,48,48,48,48,48,48,48,48,48,48,48,48,48,48,48,48,48,48,48,48,48,48,48,48,48,48,48,48,48,48])),(.t 71)])),(oN 73 70 72),(mV 67 73)])
 (.cond (.t 67)
 (.seq (.ops [(mV 74 7),(oP 75 (.sliceS (.c (.str [48,48,48,48,48,48,48,48,48,48,48,48,48,48,48,48,48,48,48,48,48,48,48,48,48,48,48,48,48,48,48,48,48,48,48,48,48,48,48,48,48,48,48,48,48,48,48,48,48,48,48,48,48,48,48,48,48,48,48,48,48,48,48,48])) none (some (.t 74)))),(mV 4 75)])
 .ret)
 (.seq (.ops [(mV 77 7),(oJ 78 .leq 77 128),(mV 79 78),(oE 80 79 true 0),(oG 81 79 true (.callF 216 [(.c (.str [61,61,61,61,61,61,61,61,61,61,61,61,61,61,61,61,61,61,61,61,61,61,61,61,61,61,61,61,61,61,61,61,61,61,61,61,61,61,61,61,61,61,61,61,61,61,61,61,61,61,61,61,61,61,61,61,61,61,61,61,61,61,61,61,61,61,61,61,61,61,61,61,61,61,61,61,61,61,61,61,61,61,61,61,61,61,61,61,61,61,61,61,61,61,61,61,61,61,61,61,61,61,61,61,61,61,61,61,61,61,61,61,61,61,61,61,61,61,61,61,61,61,61,61,61,61,61,61])),(.t 80)])),(oN 82 79 81),(mV 76 82)])
 (.cond (.t 76)
 (.seq (.ops [(mV 83 7),(oP 84 (.sliceS (.c (.str [61,61,61,61,61,61,61,61,61,61,61,61,61,61,61,61,61,61,61,61,61,61,61,61,61,61,61,61,61,61,61,61,61,61,61,61,61,61,61,61,61,61,61,61,61,61,61,61,61,61,61,61,61,61,61,61,61,61,61,61,61,61,61,61,61,61,61,61,61,61,61,61,61,61,61,61,61,61,61,61,61,61,61,61,61,61,61,61,61,61,61,61,61,61,61,61,61,61,61,61,61,61,61,61,61,61,61,61,61,61,61,61,61,61,61,61,61,61,61,61,61,61,61,61,61,61,61,61])) none (some (.t 83)))),(mV 4 84)])
 .ret)
 (.seq (.ops [(mV 86 7),(oJ 87 .leq 86 64),(mV 88 87),(oE 89 88 true 0),(oG 90 88 true (.callF 216 [(.c (.str [9,9,9,9,9,9,9,9,9,9,9,9,9,9,9,9,9,9,9,9,9,9,9,9,9,9,9,9,9,9,9,9,9,9,9,9,9,9,9,9,9,9,9,9,9,9,9,9,9,9,9,9,9,9,9,9,9,9,9,9,9,9,9,9])),(.t 89)])),(oN 91 88 90),(mV 85 91)])
 (.cond (.t 85)
 (.seq (.ops [(mV 92 7),(oP 93 (.sliceS (.c (.str [9,9,9,9,9,9,9,9,9,9,9,9,9,9,9,9,9,9,9,9,9,9,9,9,9,9,9,9,9,9,9,9,9,9,9,9,9,9,9,9,9,9,9,9,9,9,9,9,9,9,9,9,9,9,9,9,9,9,9,9,9,9,9,9])) none (some (.t 92)))),(mV 4 93)])
 .ret)
 .skip)))))))))))
 .skip))))
 (.seq (.ops [(mV 94 7),(mV 8 94)])
 (.seq (.seq (.ops [(mV 95 7),(oJ 96 .gtr 95 8192)])
 (.cond (.t 96)
 (.seq (.ops [(mV 97 0),(oP 98 (.lenS (.t 97))),(oP 99 (.bin .quo (.c (.int .i64 8192)) (.t 98))),(mV 100 0),(oP 101 (.lenS (.t 100))),(oI 102 .mul 99 101),(mV 8 102)])
 (.seq (.ops [(mV 103 8),(oJ 104 .eql 103 0)])
 (.cond (.t 104)
 (.ops [(mV 105 0),(oP 106 (.lenS (.t 105))),(mV 8 106)])
 .skip)))
 .skip))
 (.seq (.ops [(oP 9 (.alloc 246 [.nilp,(.lst 0 [] true)]))])
 (.seq (.ops [(mV 107 7),(oW 108 217 9 107)])
 (.seq (.ops [(mV 109 0),(oW 110 176 9 109)])
 (.seq (.block 3
 (.loop
 (.seq (.seq (.ops [(oV 111 178 9),(mV 112 7),(oI 113 .lss 111 112)])
 (.cond (.t 113)
 .skip
 (.exit 3)))
 (.block 4
 (.seq (.ops [(mV 114 7),(oV 115 178 9),(oI 116 .sub 114 115),(oV 117 178 9),(mV 118 8),(oP 119 (.mm3 false (.t 116) (.t 117) (.t 118))),(mV 10 119)])
 (.ops [(oV 120 180 9),(mV 121 10),(oP 122 (.sliceS (.t 120) none (some (.t 121)))),(oW 123 176 9 122)]))))))
 (.cut (.seq (.ops [(oV 124 180 9),(mV 4 124)])
 .ret))))))))))))))))
theorem F177:FI 177 2 125 7 [.tmp 4] c177:=mkF Tryz.f177 Tryz.func177
def c217:RC :=
 (.seq (.ops [(mV 4 0),(oV 5 214 4)])
 (.seq (.seq (.ops [(mV 6 1),(oJ 7 .lss 6 0)])
 (.cond (.t 7)
 (.ops [(oP 8 (.mkIfc 9 (.c (.str [115,116,114,105,110,103,115,46,66,117,105,108,100,101,114,46,71,114,111,119,58,32,110,101,103,97,116,105,118,101,32,99,111,117,110,116])))),
 ⟨none,none,.pan (.t 8)⟩])
 .skip))
 (.seq (.draw [((mV 9 0),0),((oR 10 9),0),((oC 11 1 10),0),((oA 12 11),1),((oP 13 (.capL (.t 12))),0),((mV 14 0),0),((oR 15 14),0),((oC 16 1 15),0),((oA 17 16),1),((oK 18 17),0),((oI 19 .sub 13 18),0),((mV 20 1),0),((oI 21 .lss 19 20),0)])
 (.cond (.t 21)
 (.ops [(mV 22 0),(mV 23 1),(oW 24 240 22 23)])
 .skip))))
theorem F217:FI 217 2 25 5 [] c217:=mkF Tryz.f217 Tryz.func217
def c240:RC :=
 (.seq (.draw [((mV 5 0),0),((oR 6 5),0),((oC 7 1 6),0),((oA 8 7),1),((oP 9 (.capL (.t 8))),0),((oP 10 (.bin .mul (.c (.int .i64 2)) (.t 9))),0),((mV 11 1),0),((oI 12 .add 10 11),0),((mV 14 0),0),((oR 15 14),0),((oC 16 1 15),0),((oA 17 16),1),((oK 18 17),0),((oP 13 (.mkNZ 5 (.t 12))),2),((oP 19 (.sliceL 1 (.t 13) none (some (.t 18)) none)),1),((mV 4 19),0)])
 (.seq (.ops [(mV 20 4),(mV 21 0),(oR 22 21),(oC 23 1 22),(oA 24 23),(oP 25 (.cpy 1 (.t 20) (.t 24)))])
 (.ops [(mV 26 0),(mV 27 4),(oR 28 26),(oC 29 1 28),(oT 1 29 27)])))
theorem F240:FI 240 2 30 5 [] c240:=mkF Tryz.f240 Tryz.func240
def c215:RC :=
 (.seq (.ops [(oP 4 (.mv (.c (.int .u64 0)))),(oP 5 (.mv (.c (.int .u64 0))))])
 (.seq (.cond (.c (.bool false))
 (.seq (.ops [(mV 11 0),(oP 12 (.toInt .u32 (.t 11))),(mV 13 1),(oP 14 (.toInt .u32 (.t 13))),(oW 15 237 12 14),(mV 10 15),(oQ 16 10 0),(oQ 17 10 1),(mV 6 16),(mV 7 17)])
 (.seq (.ops [(mV 18 6),(oP 19 (.toInt .u64 (.t 18))),(mV 20 7),(oP 21 (.toInt .u64 (.t 20))),(mV 4 19),(mV 5 21)])
 .ret))
 .skip)
 (.seq (.ops [(mV 23 0),(mV 24 1),(oW 25 238 23 24),(mV 22 25),(oQ 26 22 0),(oQ 27 22 1),(mV 8 26),(mV 9 27)])
 (.seq (.ops [(mV 28 8),(mV 29 9),(mV 4 28),(mV 5 29)])
 .ret))))
theorem F215:FI 215 2 30 5 [.tmp 4,.tmp 5] c215:=mkF Tryz.f215 Tryz.func215
def c238:RC :=
 (.seq (.ops [(oP 4 (.mv (.c (.int .u64 0)))),(oP 5 (.mv (.c (.int .u64 0))))])
 (.seq (.ops [(mV 14 0),(oP 15 (.bin .and (.t 14) (.c (.int .u64 4294967295)))),(mV 6 15)])
 (.seq (.ops [(mV 16 0),(oP 17 (.bin .shr (.t 16) (.c (.int .u64 32)))),(mV 7 17)])
 (.seq (.ops [(mV 18 1),(oP 19 (.bin .and (.t 18) (.c (.int .u64 4294967295)))),(mV 8 19)])
 (.seq (.ops [(mV 20 1),(oP 21 (.bin .shr (.t 20) (.c (.int .u64 32)))),(mV 9 21)])
 (.seq (.ops [(mV 22 6),(mV 23 8),(oI 24 .mul 22 23),(mV 10 24)])
 (.seq (.ops [(mV 25 7),(mV 26 8),(oI 27 .mul 25 26),(mV 28 10),(oP 29 (.bin .shr (.t 28) (.c (.int .u64 32)))),(oI 30 .add 27 29),(mV 11 30)])
 (.seq (.ops [(mV 31 11),(oP 32 (.bin .and (.t 31) (.c (.int .u64 4294967295)))),(mV 12 32)])
 (.seq (.ops [(mV 33 11),(oP 34 (.bin .shr (.t 33) (.c (.int .u64 32)))),(mV 13 34)])
 (.seq (.ops [(mV 35 12),(mV 36 6),(mV 37 9),(oI 38 .mul 36 37),(oI 39 .add 35 38),(mV 12 39)])
 (.seq (.ops [(mV 40 7),(mV 41 9),(oI 42 .mul 40 41),(mV 43 13),(oI 44 .add 42 43),(mV 45 12),(oP 46 (.bin .shr (.t 45) (.c (.int .u64 32)))),(oI 47 .add 44 46),(mV 4 47)])
 (.seq (.ops [(mV 48 0),(mV 49 1),(oI 50 .mul 48 49),(mV 5 50)])
 .ret))))))))))))
theorem F238:FI 238 2 51 6 [.tmp 4,.tmp 5] c238:=mkF Tryz.f238 Tryz.func238
theorem zkn {k:Int}(h0:0 ≤ k) (h1:k<18446744073709551616):IntKind.u64.wrap k=k:=by
 show (if (IntKind.u64.signed&&decide (k % (2 ^ 64:Int)≥(2 ^ (64-1):Int)))=true then k % (2 ^ 64:Int)-2 ^ 64 else k % (2 ^ 64:Int))=_
 rw [if_neg (by simp [IntKind.signed])]
 omega
theorem zox {k:Int}(h0:0 ≤ k) (h1:k<4294967296):IntKind.u64.wrap (BitVec.ofInt IntKind.u64.bits k &&& BitVec.ofInt IntKind.u64.bits 4294967295).toNat=k:=by
 obtain ⟨q,rfl⟩:=Int.eq_ofNat_of_zero_le h0
 have hq:q<4294967296:=by omega
 have e:(BitVec.ofInt IntKind.u64.bits (q:Int) &&& BitVec.ofInt IntKind.u64.bits 4294967295).toNat=q:=by
  show (BitVec.ofInt 64 (q:Int) &&& BitVec.ofInt 64 4294967295).toNat=q
  rw [BitVec.toNat_and]
  have h1:(BitVec.ofInt 64 (q:Int)).toNat=q:=by rw [BitVec.ofInt_natCast,BitVec.toNat_ofNat];omega
  have h2:(BitVec.ofInt 64 4294967295).toNat=2 ^ 32-1:=by decide
  rw [h1,h2,Nat.and_two_pow_sub_one_eq_mod];omega
 rw [e]
 exact zkn (by omega) (by omega)
theorem zgb {k:Int}(h0:0 ≤ k) (h1:k<4294967296):k.fdiv (2 ^ (min (32:Int).toNat IntKind.u64.bits))=0:=by
 have:min (32:Int).toNat IntKind.u64.bits=32:=by decide
 rw [this,Int.fdiv_eq_ediv_of_nonneg _ (by decide)]
 have:(2 ^ 32:Int)=4294967296:=by decide
 omega
section
variable {n:Nat}{h:zaa}
theorem z3r (hn:1 ≤ n) (k:Int) (h0:0 ≤ k) (h1:k<1048576):C n 238 [.int .u64 1,.int .u64 k] h=some (.ret (.tup [.int .u64 0,.int .u64 k]),h):=by
 obtain ⟨m,rfl⟩:=pre1 n
 refine zad F238 rfl rfl rfl rfl ?_
 conv=>whnf
 refine zI (zox (by decide) (by decide)) ?_
 conv=>whnf
 refine ⟨by decide,_,zgb (by decide) (by decide),?_⟩
 conv=>whnf
 refine zI (zox h0 (by omega)) ?_
 conv=>whnf
 refine ⟨by decide,_,zgb h0 (by omega),?_⟩
 conv=>whnf
 refine zI (z:=k) (by rw [Int.one_mul,zkn h0 (by omega)]) ?_
 conv=>whnf
 refine zI (z:=0) (by rw [Int.zero_mul];rfl) ?_
 conv=>whnf
 refine ⟨by decide,_,zgb h0 (by omega),?_⟩
 conv=>whnf
 refine zI (z:=0) (by rfl) ?_
 conv=>whnf
 refine zI (zox (by decide) (by decide)) ?_
 conv=>whnf
 refine ⟨by decide,_,zgb (by decide) (by decide),?_⟩
 conv=>whnf
 refine zI (z:=0) (by rw [Int.mul_zero];rfl) ?_
 conv=>whnf
 refine zI (z:=0) (by rfl) ?_
 conv=>whnf
 refine zI (z:=0) (by rw [Int.mul_zero];rfl) ?_
 conv=>whnf
 refine zI (z:=0) (by rfl) ?_
 conv=>whnf
 refine ⟨by decide,_,zgb (by decide) (by decide),?_⟩
 conv=>whnf
 refine zI (z:=0) (by rfl) ?_
 conv=>whnf
 refine zI (z:=k) (by rw [Int.one_mul,zkn h0 (by omega)]) ?_
 conv=>whnf
 exact retP rfl rfl
theorem mul_eq (hn:2 ≤ n) (k:Int) (h0:0 ≤ k) (h1:k<1048576):C n 215 [.int .u64 1,.int .u64 k] h=some (.ret (.tup [.int .u64 0,.int .u64 k]),h):=by
 obtain ⟨m,rfl⟩:=pre1 n
 refine zad F215 rfl rfl rfl rfl ?_
 conv=>whnf
 refine clI (z3r (by omega) k h0 h1) ?_
 conv=>whnf
 exact retP rfl rfl
theorem z7p (hn:1 ≤ n) {hp:zaa}{b t:Nat}{a:AV}(hb:hp[b]?=some (.cells 0 (some t) [a,.lst 0 [] true] 0)) (ha:a=.ptr b 0 0) (ht:t=tBld ∨ t=tWri) (k:Int) (h0:0<k) (h1:k<1048576) :
  ∃ hp' F',C n 240 [.ptr b 0 0,i64 k] hp=some (.ret (.tup []),hp') ∧ Wrote hp hp' b [b] F' []:=by
 obtain ⟨m,rfl⟩:=pre1 n
 subst ha
 refine ⟨(hp++[AB.cells 0 (some 5) [] 0]).set b (.cells 0 (some t) (putAt [.ptr b 0 0,.lst 0 [] true] 1 [.sl 1 hp.length 0 0 0]) 0),[b,hp.length],?_,?_⟩
 ·refine za7 F240 rfl rfl ?_
  have hb':=za8 (x:=AB.cells 0 (some 5) [] 0) hb
  conv=>whnf
  refine ldI hb ?_
  conv=>whnf
  refine ⟨0,rfl,?_⟩
  conv=>whnf
  refine zI (z:=0) (by rfl) ?_
  conv=>whnf
  refine zI (z:=k) (by rw [zae (by omega) (by omega)];omega) ?_
  conv=>whnf
  refine ldI hb ?_
  conv=>whnf
  refine ⟨by omega,by omega,?_⟩
  conv=>whnf
  refine ⟨⟨?_,?_⟩,?_⟩
  ·conv=>whnf
   exact ldI hb' rfl
  ·conv=>whnf
   exact ldI hb' rfl
  conv=>whnf
  refine slI (v:=.sl 1 hp.length 0 0 0) ?_ ?_
  ·unfold zcb
   simp only [Option.getD_none,Option.getD_some]
   rw [if_pos ⟨by omega,by simp,by simp;omega,trivial⟩,if_neg (by omega)]
   simp
  conv=>whnf
  refine ldI hb' ?_
  refine ⟨_,rfl,?_⟩
  conv=>whnf
  refine stJ hb' ?_
  exact ⟨rfl,[],rfl,rfl,rfl⟩
 ·have hlt:=zab hb
  refine ⟨⟨_,_,_,by rw [List.getElem?_set_self (by simp;omega)];rfl,.inr rfl,ht,.inr ⟨hp.length,0,0,rfl,?_,by omega,Nat.le_refl _,rfl⟩⟩,((Keep.app hp _ []).mono (by simp)).set' (.inl (by simp)),?_⟩
  ·rw [List.getElem?_set_ne (by omega)];simp
  ·intro x hx;simp at hx;rcases hx with rfl | rfl<;>simp
theorem z1w (hn:2 ≤ n) {hp:zaa}{b:Nat}(hb:hp[b]?=some (.cells 0 (some tBld) [.nilp,.lst 0 [] true] 0)) (k:Int) (h0:0<k) (h1:k<1048576) :
  ∃ hp' F',C n 217 [.ptr b 0 0,i64 k] hp=some (.ret (.tup []),hp') ∧ Wrote hp hp' b [b] F' []:=by
 obtain ⟨m,rfl⟩:=pre1 n
 have w:BW hp b [] [b]:=⟨_,_,_,hb,.inl rfl,.inl rfl,.inl ⟨rfl,rfl,rfl⟩⟩
 obtain ⟨hp1,t,buf,ec,hb1,ht,hB,k1⟩:=zgx (n:=m) (by omega) w
 have hbuf:buf=.lst 0 [] true:=by
  rcases hB with ⟨q,_,_⟩ | ⟨bb,ver,frz,_,_,_,_,q⟩
  ·exact q
  ·simp at q
 subst hbuf
 obtain ⟨h2,F2,e2,w2⟩:=z7p (n:=m) (by omega) hb1 rfl ht k h0 h1
 refine ⟨h2,F2,?_,w2.1,k1.trans w2.2.1 (fun x hx=>.inl hx),fun x hx=>(w2.2.2 x hx).imp id fun q=>Nat.le_trans k1.1 q⟩
 refine za7 F217 rfl rfl ?_
 conv=>whnf
 refine clI ec ?_
 conv=>whnf
 refine brd (fun a=>absurd a (by omega)) (fun a=>?_)
 conv=>whnf
 refine ldI hb1 ?_
 conv=>whnf
 refine ⟨0,rfl,?_⟩
 conv=>whnf
 refine ldI hb1 ?_
 conv=>whnf
 refine zI (z:=0) (by rfl) ?_
 conv=>whnf
 refine brd (fun a=>?_) (fun a=>absurd (by omega) a)
 conv=>whnf
 refine clI e2 ?_
 exact ⟨rfl,[],rfl,rfl,rfl⟩
def za5 (k:Nat):Str:=List.replicate k 0
theorem za4 (k:Nat):(za5 k).length=k:=by simp [za5]
theorem zyj (hn:4 ≤ n) (k:Nat) (hk:k ≤ 4096):C n 177 [.str [0],i64 k] h=some (.ret (.str (za5 k)),h):=by
 obtain ⟨m,rfl⟩:=pre1 n
 refine zad F177 rfl rfl rfl rfl ?_
 conv=>whnf
 refine bre (fun a=>?_) (fun a=>?_)
 ·have:k=0:=by omega
  subst this
  conv=>whnf
  exact retP rfl (zbw rfl)
 conv=>whnf
 refine bre (fun a1=>?_) (fun a1=>?_)
 ·have:k=1:=by omega
  subst this
  conv=>whnf
  exact retP rfl (zbw rfl)
 have hk2:2 ≤ k:=by omega
 conv=>whnf
 refine zI (z:=1) (by rfl) ?_
 conv=>whnf
 refine zI (zkn (by omega) (by omega)) ?_
 conv=>whnf
 refine clI (mul_eq (by omega) k (by omega) (by omega)) ?_
 conv=>whnf
 refine brd (fun a3=>absurd a3 (by omega)) (fun a3=>?_)
 conv=>whnf
 refine zI (zae (by omega) (by omega)) ?_
 conv=>whnf
 refine strI (b:=0) (by omega) (by rfl) ?_
 conv=>whnf
 refine brd (fun a4=>absurd a4 (by omega)) (fun a4=>?_)
 conv=>whnf
 obtain ⟨h2,F2,e2,w2⟩:=z1w (n:=m) (hp:=([]:zaa)++[AB.cells 0 (some tBld) [.nilp,.lst 0 [] true] 0]) (b:=0) (by omega) rfl k (by omega) (by omega)
 refine clI e2 ?_
 obtain ⟨h3,F3,e3,w3⟩:=zb5 (n:=m) (by omega) w2.1 [0] (by simp)
 conv=>whnf
 refine clI e3 ?_
 conv=>whnf
 refine za3 (by decide) rfl (α:=Nat × List Nat × zaa) (fun x=>⟨[(7,i64 k),(8,i64 k),(9,.ptr 0 0 0)],x.2.2,[]⟩) (fun x=>(1 ≤ x.1 ∧ x.1 ≤ k) ∧ BW x.2.2 0 (za5 x.1) x.2.1) (fun x=>k-x.1) (1,F3,h3) ⟨⟨rfl,rfl,rfl⟩,rfl,rfl⟩ ⟨⟨Nat.le_refl _,by omega⟩,w3.1⟩ (by show k-1<KK;simp only [KK];omega) ?_
 rintro ⟨c,G,hp⟩ ⟨⟨g1,g2⟩,g3⟩
 simp only at g1 g2 g3
 conv=>whnf
 refine clI (zn0 (n:=m) (by omega) g3) ?_
 conv=>whnf
 have el:((za5 c).length:Int)=(c:Int):=by rw [za4]
 rw [el]
 refine brd (fun a5=>?_) (fun a5=>?_)
 ·have hc:c<k:=by omega
  conv=>whnf
  refine clI (zn0 (n:=m) (by omega) g3) ?_
  conv=>whnf
  rw [el]
  refine zI (zae (by omega) (by omega)) ?_
  conv=>whnf
  refine clI (zn0 (n:=m) (by omega) g3) ?_
  conv=>whnf
  rw [el]
  refine ⟨_,(show mm2 false (mm2 false ((k:Int)-c) c) k=((min (k-c) c:Nat):Int) from ?_),?_⟩
  ·unfold mm2
   simp only [cond_false]
   repeat' split
   all_goals omega
  obtain ⟨h4,e4,w4⟩:=zg4 (n:=m) (by omega) g3 (by intro e;have:=congrArg List.length e;rw [za4] at this;simp at this;omega) (by rw [za4];omega)
  conv=>whnf
  refine clI e4 ?_
  conv=>whnf
  refine zob (c:=min (k-c) c) (by rw [za4];omega) ?_
  have et:(za5 c).take (min (k-c) c)=za5 (min (k-c) c):=by unfold za5;rw [List.take_replicate];congr 1;omega
  obtain ⟨h5,F5,e5,w5⟩:=zb5 (n:=m) (by omega) w4.1 (za5 (min (k-c) c)) (by rw [za4,za4];omega)
  conv=>whnf
  refine clI (by rw [et];exact e5) ?_
  conv=>whnf
  refine nxI (c+min (k-c) c,F5,h5) ⟨⟨by omega,by omega⟩,?_⟩ (by simp only;omega) ⟨⟨rfl,rfl,rfl⟩,rfl,rfl⟩
  have:=w5.1
  unfold za5 at this ⊢
  rwa [List.replicate_append_replicate] at this
 ·have hc:c=k:=by omega
  subst hc
  obtain ⟨h4,e4,w4⟩:=zg4 (n:=m) (by omega) g3 (by intro e;have:=congrArg List.length e;rw [za4] at this;simp at this;omega) (by rw [za4];omega)
  conv=>whnf
  refine cutI (by decide) rfl (t:=⟨[(9,.ptr 0 0 0)],hp,[]⟩) ⟨rfl,rfl,rfl⟩ ?_
  conv=>whnf
  refine clI e4 ?_
  conv=>whnf
  exact retP rfl (zbw rfl)
end
end Go.Proofs
