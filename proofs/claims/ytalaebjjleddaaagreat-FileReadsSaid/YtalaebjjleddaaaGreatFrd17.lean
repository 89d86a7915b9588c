/- The law FileReads: the row. -/
import Derived.Test.YtalaebjjleddaaaGreatFrd12
import Derived.Test.YtalaebjjleddaaaGreatFrd14
import Derived.Test.YtalaebjjleddaaaGreatFrd7
import Derived.Test.YtalaebjjleddaaaGreatFrd16
import Derived.Test.YtalaebjjleddaaaGreatFrd8
import Derived.Test.YtalaebjjleddaaaGreatRows
set_option linter.unusedVariables false
set_option linter.unusedSimpArgs false
namespace Go.Proofs
open Go Go.Abs
section
variable {n:Nat}{h:zaa}
theorem z2p (hn:1 ≤ n) (d:Dk) (ok:d.Ok):∃ r,(∀ h,C n 21 [d.av] h=some (r,h)) ∧ ∃ b:Bool,r=.ret (.bool b):=by
 obtain ⟨m,rfl⟩:=pre1 n
 have e1:(d.secs.map AV.str).length=d.secs.length:=List.length_map ..
 have e2:(d.ws.map Wr.av).length=d.ws.length:=List.length_map ..
 refine zev F21 rfl rfl rfl (by simp [zao,za1]) ?_
 by_cases hz:d.secs.length ≤ 200 ∧ d.ws.length ≤ 200 ∧ d.bad.length ≤ 200
 ·have e3:(d.bad.map i64).length=d.bad.length:=List.length_map ..
  conv=>whnf
  refine ldI rfl ?_
  conv=>whnf
  refine brd (fun a=>absurd a (by omega)) (fun _=>?_)
  conv=>whnf
  refine ldI rfl ?_
  conv=>whnf
  refine brd (fun a=>absurd a (by omega)) (fun _=>?_)
  conv=>whnf
  refine ldI rfl ?_
  conv=>whnf
  refine brd (fun a=>absurd a (by omega)) (fun _=>?_)
  conv=>whnf
  refine za3 (by decide) rfl (α:=Nat) (fun j=>⟨[(1,.ptr 0 0 0),(3,i64 j)],[dkC d],[]⟩) (fun j=>j ≤ d.secs.length) (fun j=>d.secs.length-j) 0 ⟨⟨rfl,rfl⟩,rfl,rfl⟩ (Nat.zero_le _) (by simp only [KK];omega) ?_
  intro j g1
  conv=>whnf
  refine ldI rfl ?_
  conv=>whnf
  refine brd (fun a=>?_) (fun a=>?_)
  ·have hj:j<d.secs.length:=by omega
   conv=>whnf
   refine ldI rfl ?_
   conv=>whnf
   refine ixL ziu hj ok.ss ?_
   conv=>whnf
   refine brd (fun q=>?_) (fun q=>?_)
   ·exact ⟨_,rfl,_,⟨_,rfl,rfl⟩,_,rfl⟩
   ·conv=>whnf
    refine zJ j ?_
    exact nxI (j+1) hj (by omega) ⟨⟨rfl,rfl⟩,rfl,rfl⟩
  ·conv=>whnf
   refine cutI (by decide) rfl (t:=⟨[(1,.ptr 0 0 0)],[dkC d],[]⟩) ⟨rfl,rfl,rfl⟩ ?_
   conv=>whnf
   refine za3 (by decide) rfl (α:=Nat) (fun j=>⟨[(1,.ptr 0 0 0),(4,i64 j)],[dkC d],[]⟩) (fun j=>j ≤ d.ws.length) (fun j=>d.ws.length-j) 0 ⟨⟨rfl,rfl⟩,rfl,rfl⟩ (Nat.zero_le _) (by simp only [KK];omega) ?_
   intro j g1
   conv=>whnf
   refine ldI rfl ?_
   conv=>whnf
   refine brd (fun a=>?_) (fun a=>?_)
   ·have hj:j<d.ws.length:=by omega
    conv=>whnf
    refine ldI rfl ?_
    conv=>whnf
    refine ixL zey hj ok.sw ?_
    conv=>whnf
    refine brd (fun q=>?_) (fun q=>?_)
    ·exact ⟨_,rfl,_,⟨_,rfl,rfl⟩,_,rfl⟩
    ·conv=>whnf
     refine zJ j ?_
     exact nxI (j+1) hj (by omega) ⟨⟨rfl,rfl⟩,rfl,rfl⟩
   ·conv=>whnf
    refine cutI (by decide) rfl (t:=⟨[],[dkC d],[]⟩) ⟨trivial,rfl,rfl⟩ ?_
    exact ⟨_,rfl,_,⟨_,rfl,rfl⟩,_,rfl⟩
 ·have e3:(d.bad.map i64).length=d.bad.length:=List.length_map ..
  repeat' (conv=>whnf);first
   | (exfalso;omega)
   | refine brd (fun _=>?_) (fun _=>?_)
   | refine bre (fun _=>?_) (fun _=>?_)
   | refine brq (fun _=>?_) (fun _=>?_)
   | refine brn (fun _=>?_) (fun _=>?_)
   | refine br (fun _=>?_) (fun _=>?_)
   | refine ldI (by rfl) ?_
   | refine ldI (zag _ _ _) ?_
   | refine ldI (zaf _ _) ?_
   | refine stJ (by rfl) ?_
   | refine stJ (zaf _ _) ?_
   | refine zI (zae (by omega) (by omega)) ?_
   | refine cutS (by decide) rfl ?_
  all_goals exact ⟨_,rfl,_,⟨_,rfl,rfl⟩,_,rfl⟩
end
def c8:RC :=
 (.seq (.ops [(oP 3 (.box 46 (.t 0))),(oP 6 (.mv (.c (.bool false))))])
 (.seq (.seq (.ops [(oB 20 3 3),(oV 21 21 20),(oP 22 (.un .not (.t 21)))])
 (.cond (.t 22)
 (.seq (.ops [(oP 23 (.callF 14 [])),(mV 6 23)])
 .ret)
 .skip))
 (.seq (.ops [(oB 25 3 3),(oV 26 38 25),(mV 24 26),(oQ 27 24 0),(oQ 28 24 1),(mV 7 27),(mV 8 28)])
 (.seq (.ops [(oB 29 3 3),(oV 30 39 29),(oP 9 (.alloc 96 [(.int .i64 0),(.int .i64 0)])),(oT 2 9 30)])
 (.seq (.ops [(oB 32 3 3),(mV 33 1),(oW 34 33 32 33),(mV 31 34),(oQ 35 31 0),(oQ 36 31 1),(oP 10 (.alloc 79 zPl)),(oT 10 10 35),(mV 11 36)])
 (.seq (.ops [(oB 37 3 3),(mV 38 1),(oW 39 40 37 38),(oP 12 (.alloc 99 zPm)),(oT 11 12 39)])
 (.seq (.ops [(oB 41 3 3),(mV 42 2),(oW 43 41 41 42),(mV 40 43),(oQ 44 40 0),(oQ 45 40 1),(oP 13 (.alloc 27 zRl)),(oT 21 13 44),(mV 14 45)])
 (.seq (.ops [(oB 46 3 3),(mV 47 2),(oW 48 42 46 47),(oP 15 (.alloc 38 zRm)),(oT 22 15 48)])
 (.cut (.seq (.seq (.ops [(mV 49 7),(oC 50 0 9),(oA 51 50),(oI 52 .neq 49 51),(mV 53 52),(oE 54 53 false 8),(oF 55 53 false 1 9),(oD 56 53 false 55),(oG 57 53 false (.bin .neq (.t 54) (.t 56))),(oM 58 53 57),(mV 59 58),(oE 60 59 false 11),(oF 61 59 false 10 12),(oD 62 59 false 61),(oG 63 59 false (.bin .neq (.t 60) (.t 62))),(oM 64 59 63),(mV 65 64),(oG 66 65 false (.load true 10 (.t 10))),(oF 67 65 false 0 12),(oG 68 65 false (.load true 10 (.t 67))),(oG 69 65 false (.callF 34 [(.t 66),(.t 68)])),(oG 70 65 false (.un .not (.t 69))),(oM 71 65 70),(mV 72 71),(oG 73 72 false (.load true 21 (.t 13))),(oF 74 72 false 0 15),(oG 75 72 false (.load true 21 (.t 74))),(oG 76 72 false (.cmp true 27 (.t 73) (.t 75))),(oM 77 72 76),(mV 78 77),(oE 79 78 false 14),(oF 80 78 false 21 15),(oD 81 78 false 80),(oG 82 78 false (.bin .neq (.t 79) (.t 81))),(oM 83 78 82)])
 (.cond (.t 83)
 (.seq (.ops [(oP 6 (.mv (.c (.bool false))))])
 .ret)
 .skip))
 (.cut (.seq (.ops [(oB 85 3 3),(oV 86 43 85),(mV 84 86),(oQ 87 84 0),(oQ 88 84 1),(mV 16 87),(mV 8 88)])
 (.seq (.ops [(oB 89 3 3),(oV 90 44 89),(oP 17 (.alloc 107 [(.lst 0 [] true),(.int .i64 0)])),(oT 2 17 90)])
 (.seq (.ops [(oB 92 3 3),(oV 93 45 92),(mV 91 93),(oQ 94 91 0),(oQ 95 91 1),(oT 21 13 94),(mV 14 95)])
 (.seq (.ops [(oB 96 3 3),(oV 97 46 96),(oT 22 15 97)])
 (.seq (.ops [(oB 99 3 3),(oV 100 47 99),(mV 98 100),(oQ 101 98 0),(oQ 102 98 1),(mV 18 101),(mV 19 102)])
 (.seq (.ops [(oB 103 3 3),(oV 104 48 103),(oT 2 9 104)])
 (.cut (.seq (.ops [(oP 105 (.callF 14 [])),(mV 106 105),(oE 107 106 true 8),(oF 108 106 true 1 17),(oD 109 106 true 108),(oG 110 106 true (.bin .eql (.t 107) (.t 109))),(oN 111 106 110),(mV 112 111),(oE 113 112 true 16),(oF 114 112 true 0 17),(oD 115 112 true 114),(oG 116 112 true (.callF 49 [(.t 113),(.t 115)])),(oN 117 112 116),(mV 118 117),(oG 119 118 true (.load true 21 (.t 13))),(oF 120 118 true 0 15),(oG 121 118 true (.load true 21 (.t 120))),(oG 122 118 true (.cmp false 27 (.t 119) (.t 121))),(oN 123 118 122),(mV 124 123),(oE 125 124 true 14),(oF 126 124 true 21 15),(oD 127 124 true 126),(oG 128 124 true (.bin .eql (.t 125) (.t 127))),(oN 129 124 128),(mV 130 129),(oE 131 130 true 18),(oF 132 130 true 0 9),(oD 133 130 true 132),(oG 134 130 true (.bin .eql (.t 131) (.t 133))),(oN 135 130 134),(mV 136 135),(oE 137 136 true 19),(oF 138 136 true 1 9),(oD 139 136 true 138),(oG 140 136 true (.bin .eql (.t 137) (.t 139))),(oN 141 136 140),(mV 6 141)])
 .ret)))))))))))))))))))
theorem F8:FI 8 3 142 8 [.tmp 6] c8:=mkF Tryz.f8 Tryz.func8
section
variable {n:Nat}{h:zaa}{d:Dk}
theorem zyd (ok:d.Ok) (hn:16 ≤ n):∃ (l:List Rt) (sz sz':Nat) (c c':Bool) (E:Int),l.length ≤ 2 ∧ (l≠[] → sz=21) ∧ (l≠[] → sz'=21) ∧ (∀ h,C n 43 [d.av] h=some (.ret (.tup [.lst sz (l.map Rt.av) c,i64 E]),h)) ∧ ∀ h,C n 44 [d.av] h=some (.ret (.agg [.lst sz' (l.map Rt.av) c',i64 E]),h):=by
 by_cases he:twoE d=0
 ·obtain ⟨a,b,ea,eb,R⟩:=zx0 ok he
  obtain ⟨sz,c,z,e1⟩:=zvm (n:=n) hn ok he R
  obtain ⟨sz',c',z',e2⟩:=zpz (n:=n) (by omega) ok he R
  refine ⟨zi5 (newL a b ea eb),sz,sz',c,c',0,by simpa using zi7 a b ea eb,fun q=>z (fun e=>q (by rw [e];rfl)),fun q=>z' (fun e=>q (by rw [e];rfl)),e1,e2⟩
 ·exact ⟨[],0,0,true,true,twoE d,by simp,fun q=>(q rfl).elim,fun q=>(q rfl).elim,fun h=>zsd (by omega) ok he,fun h=>zp0 (by omega) ok he⟩
theorem zwb (ok:d.Ok):∃ (q:Rt) (E:Int),(∀ n,16 ≤ n → ∀ h,C n 45 [d.av] h=some (.ret (.tup [q.av,i64 E]),h)) ∧ ∀ n,14 ≤ n → ∀ h,C n 46 [d.av] h=some (.ret (.agg (q.cellsE E)),h):=by
 by_cases he:twoE d=0
 ·obtain ⟨a,b,ea,eb,R⟩:=zx0 ok he
  exact ⟨_,_,fun n hn h=>zzr hn ok he R,fun n hn h=>zt3 hn ok he R⟩
 ·exact ⟨Rt.zero,twoE d,fun n hn h=>zzs (by omega) ok he,fun n hn h=>zt4 (by omega) ok he⟩
theorem z2q (ok:d.Ok):∃ (k E:Int),(∀ n,17 ≤ n → ∀ h,C n 47 [d.av] h=some (.ret (.tup [i64 k,i64 E]),h)) ∧ ∀ n,15 ≤ n → ∀ h,C n 48 [d.av] h=some (.ret (.agg [i64 k,i64 E]),h):=by
 by_cases he:twoE d=0
 ·obtain ⟨a,b,ea,eb,R⟩:=zx0 ok he
  exact ⟨_,0,fun n hn h=>z56 hn ok he R,fun n hn h=>z6d hn ok he R⟩
 ·exact ⟨0,twoE d,fun n hn h=>z57 (by omega) ok he,fun n hn h=>z6e (by omega) ok he (z18 d)⟩
set_option maxRecDepth 100000 in
abbrev QR8:Ex → LS → Prop:=RetQ Tryz.prog [.tmp 6] fun v' h'=>frz h' 64 v'=some (.bool true)
abbrev rc1:RC:=zfd c8
abbrev rc2:RC:=zfd rc1
abbrev rc3:RC:=zfd rc2
abbrev H6 (d:Dk) (pN pE:Int) (q b:Page) (pe:Int) (r:Rt) (re:Int):zaa:=[dkC d,.cells 0 (some tNum) [i64 pN,i64 pE] 0,.cells 0 (some 79) q.cells 0,.cells 0 (some tPgd) (zbd b pe) 0,zbl r,.cells 0 (some tRtd) (r.cellsE re) 0]
abbrev H7 (d:Dk) (pN pE:Int) (q b:Page) (pe:Int) (r:Rt) (re:Int) (L:AV) (lE:Int):zaa:=H6 d pN pE q b pe r re++[.cells 0 (some tLis) [L,i64 lE] 0]
set_option maxRecDepth 10000 in
theorem reads3 {m:Nat}(hm:16 ≤ m) (q b:Page) (pe:Int) {l:List Rt}(ll:l.length ≤ 2) {sz sz':Nat}{cc cc':Bool}(z:l≠[] → sz=21) (z':l≠[] → sz'=21) (lE sk se te:Int) (t:Rt) :
  Wp Tryz.prog (C m) cfg0.inl KK 142 8 rc3 ⟨[(8,i64 lE),(9,.ptr 1 0 0),(13,.ptr 4 0 0),(14,i64 te),(15,.ptr 5 0 0),(16,.lst sz (l.map Rt.av) cc),(17,.ptr 6 0 0),(18,i64 sk),(19,i64 se)],H7 d sk se q b pe t te (.lst sz' (l.map Rt.av) cc') lE,[]⟩ QR8:=by
 have cs:∀ h,C m 14 [] h=some (.ret (.bool true),h):=fun h=>zxy (by omega) h
 have c10:=fun h=>zve (n:=m) (h:=h) (by omega) l ll sz sz' cc cc' z z'
 conv=>whnf
 refine clI (cs _) ?_
 conv=>whnf
 refine ldI rfl ?_
 conv=>whnf
 refine bre (fun _=>?_) (fun a=>absurd rfl a)
 conv=>whnf
 refine ldI rfl ?_
 conv=>whnf
 refine clI (c10 _) ?_
 conv=>whnf
 refine ldI rfl ?_
 conv=>whnf
 refine ldI rfl ?_
 conv=>whnf
 refine eqI (ze5 t) ?_
 conv=>whnf
 refine ldI rfl ?_
 conv=>whnf
 refine bre (fun _=>?_) (fun a=>absurd rfl a)
 conv=>whnf
 refine ldI rfl ?_
 conv=>whnf
 refine bre (fun _=>?_) (fun a=>absurd rfl a)
 conv=>whnf
 refine ldI rfl ?_
 conv=>whnf
 exact ⟨rfl,_,rfl,zai (by simp)⟩
set_option maxRecDepth 10000 in
theorem reads2 {m:Nat}(hm:19 ≤ m) (ok:d.Ok) (pN pE:Int) (q b:Page) (pe:Int) (r:Rt) (re:Int) :
  Wp Tryz.prog (C m) cfg0.inl KK 142 8 rc2 ⟨[(3,.ptr 0 0 0),(9,.ptr 1 0 0),(13,.ptr 4 0 0),(15,.ptr 5 0 0)],H6 d pN pE q b pe r re,[]⟩ QR8:=by
 obtain ⟨l,sz,sz',cc,cc',lE,ll,z,z',c8,c9⟩:=zyd (n:=m) ok (by omega)
 obtain ⟨t,te,c11,c12⟩:=zwb ok
 have c11:=c11 m (by omega)
 have c12:=c12 m (by omega)
 obtain ⟨sk,se,c13,c14⟩:=z2q ok
 have c13:=c13 m (by omega)
 have c14:=c14 m (by omega)
 conv=>whnf
 refine ldI rfl ?_
 conv=>whnf
 refine clI (c8 _) ?_
 conv=>whnf
 refine ldI rfl ?_
 conv=>whnf
 refine clI (c9 _) ?_
 conv=>whnf
 refine stJ (xs:=[.lst sz' (l.map Rt.av) cc',i64 lE]) (by rfl) ?_
 conv=>whnf
 refine ldI rfl ?_
 conv=>whnf
 refine clI (c11 _) ?_
 conv=>whnf
 refine stJ (xs:=t.cells) (by rfl) ?_
 conv=>whnf
 refine ldI rfl ?_
 conv=>whnf
 refine clI (c12 _) ?_
 conv=>whnf
 refine stJ (xs:=(t.cellsE te)) (by rfl) ?_
 conv=>whnf
 refine ldI rfl ?_
 conv=>whnf
 refine clI (c13 _) ?_
 conv=>whnf
 refine ldI rfl ?_
 conv=>whnf
 refine clI (c14 _) ?_
 conv=>whnf
 refine stJ (xs:=[i64 sk,i64 se]) (by rfl) ?_
 conv=>whnf
 exact cutI (by decide) rfl (t:=⟨[(8,i64 lE),(9,.ptr 1 0 0),(13,.ptr 4 0 0),(14,i64 te),(15,.ptr 5 0 0),(16,.lst sz (l.map Rt.av) cc),(17,.ptr 6 0 0),(18,i64 sk),(19,i64 se)],H7 d sk se q b pe t te (.lst sz' (l.map Rt.av) cc') lE,[]⟩) ⟨⟨rfl,rfl,rfl,rfl,rfl,rfl,rfl,rfl,rfl⟩,rfl,rfl⟩ (reads3 (by omega) q b pe ll z z' lE sk se te t)
set_option maxRecDepth 10000 in
theorem reads1 {m:Nat}(hm:19 ≤ m) (ok:d.Ok) (pN pE:Int) {q b:Page}(s:Same q b) (oq:q.Ok) (ob:b.Ok) (pe:Int) (r:Rt) (re:Int) :
  Wp Tryz.prog (C m) cfg0.inl KK 142 8 rc1 ⟨[(3,.ptr 0 0 0),(7,i64 pN),(8,i64 pE),(9,.ptr 1 0 0),(10,.ptr 2 0 0),(11,i64 pe),(12,.ptr 3 0 0),(13,.ptr 4 0 0),(14,i64 re),(15,.ptr 5 0 0)],H6 d pN pE q b pe r re,[]⟩ QR8:=by
 have c5:=fun h=>zvq (n:=m) (h:=h) (by omega) s oq ob
 conv=>whnf
 refine ldI rfl ?_
 conv=>whnf
 refine brq (fun a=>absurd rfl a) (fun _=>?_)
 conv=>whnf
 refine ldI rfl ?_
 conv=>whnf
 refine brq (fun a=>absurd rfl a) (fun _=>?_)
 conv=>whnf
 refine ldI rfl ?_
 conv=>whnf
 refine brq (fun a=>absurd rfl a) (fun _=>?_)
 conv=>whnf
 refine ldI rfl ?_
 conv=>whnf
 refine ldI rfl ?_
 conv=>whnf
 refine clI (c5 _) ?_
 conv=>whnf
 refine ldI rfl ?_
 conv=>whnf
 refine ldI rfl ?_
 conv=>whnf
 refine eqI (ze5 r) ?_
 conv=>whnf
 refine ldI rfl ?_
 conv=>whnf
 refine brq (fun a=>absurd rfl a) (fun _=>?_)
 conv=>whnf
 exact cutI (by decide) rfl (t:=⟨[(3,.ptr 0 0 0),(9,.ptr 1 0 0),(13,.ptr 4 0 0),(15,.ptr 5 0 0)],H6 d pN pE q b pe r re,[]⟩) ⟨⟨rfl,rfl,rfl,rfl⟩,rfl,rfl⟩ (reads2 hm ok pN pE q b pe r re)
set_option maxRecDepth 10000 in
theorem zq9 (hn:20 ≤ n) (d:Dk) (ok:d.Ok) (no slot:Int):C n 8 [d.av,i64 no,i64 slot] h=some (.ret (.bool true),h):=by
 obtain ⟨m,rfl⟩:=pre1 n
 obtain ⟨rS,cS,bS,rfl⟩:=z2p (n:=m) (by omega) d ok
 have cs:∀ h,C m 14 [] h=some (.ret (.bool true),h):=fun h=>zxy (by omega) h
 refine zad F8 rfl rfl rfl (by simp [zao,za1,AV.pureB]) ?_
 cases bS with
 | false =>
  conv=>whnf
  refine ldI rfl ?_
  conv=>whnf
  refine clI (cS _) ?_
  conv=>whnf
  refine clI (cs _) ?_
  conv=>whnf
  exact ⟨rfl,_,rfl,rfl⟩
 | true =>
  have c1:=fun h=>zv3 (n:=m) (h:=h) (by omega) d ok
  have c2:=fun h=>zza (n:=m) (h:=h) (by omega) d ok
  generalize zi4 d=pr at c1 c2
  obtain ⟨pN,pE⟩:=pr
  simp only at c1 c2
  obtain ⟨p,pe,_,hF,hB⟩:=zqj d ok no
  obtain ⟨q,sq,oq,c3⟩:=hF m (by omega)
  obtain ⟨b,sb,ob,c4⟩:=hB m (by omega)
  obtain ⟨r,re,c6,c7⟩:=zqi d ok slot
  have c6:=c6 m (by omega)
  have c7:=c7 m (by omega)
  conv=>whnf
  refine ldI rfl ?_
  conv=>whnf
  refine clI (cS _) ?_
  conv=>whnf
  refine ldI rfl ?_
  conv=>whnf
  refine clI (c1 _) ?_
  conv=>whnf
  refine ldI rfl ?_
  conv=>whnf
  refine clI (c2 _) ?_
  conv=>whnf
  refine stJ (xs:=[i64 pN,i64 pE]) (by rfl) ?_
  conv=>whnf
  refine ldI rfl ?_
  conv=>whnf
  refine clI (c3 _) ?_
  conv=>whnf
  refine stJ (xs:=q.cells) (by rfl) ?_
  conv=>whnf
  refine ldI rfl ?_
  conv=>whnf
  refine clI (c4 _) ?_
  conv=>whnf
  refine stJ (xs:=(zbd b pe)) (by rfl) ?_
  conv=>whnf
  refine ldI rfl ?_
  conv=>whnf
  refine clI (c6 _) ?_
  conv=>whnf
  refine stJ (xs:=r.cells) (by rfl) ?_
  conv=>whnf
  refine ldI rfl ?_
  conv=>whnf
  refine clI (c7 _) ?_
  conv=>whnf
  refine stJ (xs:=r.cellsE re) (by rfl) ?_
  conv=>whnf
  exact cutI (by decide) rfl (t:=⟨[(3,.ptr 0 0 0),(7,i64 pN),(8,i64 pE),(9,.ptr 1 0 0),(10,.ptr 2 0 0),(11,i64 pe),(12,.ptr 3 0 0),(13,.ptr 4 0 0),(14,i64 re),(15,.ptr 5 0 0)],H6 d pN pE q b pe r re,[]⟩) ⟨⟨rfl,rfl,rfl,rfl,rfl,rfl,rfl,rfl,rfl,rfl⟩,rfl,rfl⟩ (reads1 (by omega) ok pN pE (sq.join sb) oq ob pe r re)
end
def rpt {α:Type}(n:Nat) (x:α):List α:=List.replicate n x
abbrev qQ:Str:=rpt 64 0
abbrev qZ:Str:=rpt 31 0
abbrev qY:Str:=rpt 20 0
abbrev qX:Str:=rpt 45 0
abbrev qW:Str:=rpt 60 0
def ap {α:Type}(a b:List α):List α:=a++b
abbrev Ent:Type:=FuncId × List AV × AV
def tblS:List Ent → FuncId → List AV → Option AV
 | [],_,_=>none
 | e::r,f,args=>cond (Nat.beq e.1 f) (cond (zhu e.2.1 args) (some e.2.2) (tblS r f args)) (tblS r f args)
def Oks:List Ent → Prop
 | []=>True
 | e::r=>zal Tryz.prog e.1 e.2.1 (.ret e.2.2) ∧ Oks r
theorem zr4:∀ {l:List Ent},Oks l → ∀ f args v,tblS l f args=some v → zal Tryz.prog f args (.ret v)
 | [],_,_,_,_,h=>by cases h
 | e::r,hk,f,args,v,h=>by
  unfold tblS at h
  cases h1:Nat.beq e.1 f with
  | false=>rw [h1] at h;exact zr4 hk.2 f args v h
  | true =>
   rw [h1] at h
   cases h2:zhu e.2.1 args with
   | false=>rw [h2] at h;exact zr4 hk.2 f args v h
   | true =>
    rw [h2] at h
    cases h
    have e1:e.1=f:=Nat.eq_of_beq_eq_true h1
    have e2:=zed _ h2
    subst e1 e2
    exact hk.1
def sumT (l:List Ent) (f:FuncId) (args:List AV):Option AV:=match tblS l f args with
 | some v=>some v
 | none=>sum1 f args
def cfgT (l:List Ent):Cfg:=⟨inlA,sumT l,fun _ _ _=>none,fun _=>false⟩
theorem zas {l:List Ent}(h:Oks l):z1u Tryz.prog (cfgT l):=⟨fun f args v e=>by
 change sumT l f args=some v at e
 unfold sumT at e
 split at e
 ·rename_i v' h1
  cases e
  exact zr4 h f args _ h1
 ·exact zm6 f args v e,z66 _⟩
def a0:List AV:=[(.agg (ap [(.int .i64 2),(.int .i64 0),(.int .i64 0)] (ap (rpt 16 (.int .u8 0)) [(.int .i64 0),(.int .i64 3)])))]
def r0:AV:=(.agg (ap [(.int .u8 82),(.int .u8 0),(.int .u8 0),(.int .u8 0),(.int .u8 0),(.int .u8 0),(.int .u8 2)] (ap (rpt 31 (.int .u8 0)) (ap [(.int .u8 3)] (ap (rpt 20 (.int .u8 0)) [(.int .u8 57),(.int .u8 82),(.int .u8 197),(.int .u8 34),(.int .u8 82)])))))
def e0:Ent:=(59,a0,r0)
theorem run0:CN Tryz.prog (cfgT []) 60 59 a0 []=some (.ret r0,[]):=by kernel_rfl
theorem ok0:zal Tryz.prog 59 a0 (.ret r0):=zak (zas (l:=[]) trivial) rfl run0
def a1:List AV:=[(.agg (ap [(.int .i64 2),(.int .i64 0),(.int .i64 0)] (ap (rpt 16 (.int .u8 0)) [(.int .i64 0),(.int .i64 3)])))]
def r1:AV:=(.int .i64 0)
def e1:Ent:=(19,a1,r1)
theorem run1:CN Tryz.prog (cfgT []) 60 19 a1 []=some (.ret r1,[]):=by kernel_rfl
theorem ok1:zal Tryz.prog 19 a1 (.ret r1):=zak (zas (l:=[]) trivial) rfl run1
def a2:List AV:=[(.agg (ap [(.int .i64 2),(.int .i64 0),(.int .i64 0)] (ap (rpt 16 (.int .u8 0)) [(.int .i64 0),(.int .i64 3)])))]
def r2:AV:=(.tup [(.str (ap [82,0,0,0,0,0,2] (ap qZ (ap [3] (ap qY [57,82,197,34,82]))))),(.int .i64 0)])
def e2:Ent:=(15,a2,r2)
theorem run2:CN Tryz.prog (cfgT [e0,e1]) 60 15 a2 []=some (.ret r2,[]):=by kernel_rfl
theorem ok2:zal Tryz.prog 15 a2 (.ret r2):=zak (zas (l:=[e0,e1]) ⟨ok0,ok1,trivial⟩) rfl run2
def a3:List AV:=[(.str (rpt 512 0))]
def r3:AV:=(.tup [(.agg zPl),(.int .i64 8)])
def e3:Ent:=(162,a3,r3)
theorem run3:CN Tryz.prog (cfgT []) 60 162 a3 []=some (.ret r3,[]):=by kernel_rfl
theorem ok3:zal Tryz.prog 162 a3 (.ret r3):=zak (zas (l:=[]) trivial) rfl run3
def a4:List AV:=[(.agg [(.lst 1 (ap [(.str (ap [82,0,0,0,0,0,1] (ap qZ (ap [2] (ap qY [37,225,150,127,82])))))] (rpt 31 (.str qQ))) false),(.lst 0 [] true),(.lst 0 [] true)])]
def r4:AV:=(.int .i64 0)
def e4:Ent:=(121,a4,r4)
theorem run4:CN Tryz.prog (cfgT []) 60 121 a4 []=some (.ret r4,[]):=by kernel_rfl
theorem ok4:zal Tryz.prog 121 a4 (.ret r4):=zak (zas (l:=[]) trivial) rfl run4
def a5:List AV:=[(.agg [(.lst 1 (ap [(.str (ap [82,0,0,0,0,0,1] (ap qZ (ap [2] (ap qY [37,225,150,127,82])))))] (rpt 31 (.str qQ))) false),(.lst 0 [] true),(.lst 0 [] true)]),(.int .i64 16),(.int .i64 8)]
def r5:AV:=(.tup [(.str (rpt 512 0)),(.int .i64 0)])
def e5:Ent:=(161,a5,r5)
theorem run5:CN Tryz.prog (cfgT [e4]) 60 161 a5 []=some (.ret r5,[]):=by kernel_rfl
theorem ok5:zal Tryz.prog 161 a5 (.ret r5):=zak (zas (l:=[e4]) ⟨ok4,trivial⟩) rfl run5
def a6:List AV:=[(.agg [(.lst 1 (ap [(.str (ap [82,0,0,0,0,0,1] (ap qZ (ap [2] (ap qY [37,225,150,127,82])))))] (rpt 31 (.str qQ))) false),(.lst 0 [] true),(.lst 0 [] true)]),(.int .i64 2)]
def r6:AV:=(.tup [(.agg zPl),(.int .i64 8)])
def e6:Ent:=(33,a6,r6)
theorem run6:CN Tryz.prog (cfgT [e3,e4,e5]) 60 33 a6 []=some (.ret r6,[]):=by kernel_rfl
theorem ok6:zal Tryz.prog 33 a6 (.ret r6):=zak (zas (l:=[e3,e4,e5]) ⟨ok3,ok4,ok5,trivial⟩) rfl run6
def a7:List AV:=[(.agg [(.int .i64 3),(.int .i64 2),(.int .i64 2),(.int .i64 0),(.int .i64 0),(.bool false),(.lst 0 [] true),(.int .i64 0),(.str [97]),(.lst 0 [] true)])]
def r7:AV:=(.int .i64 0)
def e7:Ent:=(143,a7,r7)
theorem run7:CN Tryz.prog (cfgT []) 60 143 a7 []=some (.ret r7,[]):=by kernel_rfl
theorem ok7:zal Tryz.prog 143 a7 (.ret r7):=zak (zas (l:=[]) trivial) rfl run7
def a8:List AV:=[(.agg [(.int .i64 3),(.int .i64 2),(.int .i64 2),(.int .i64 0),(.int .i64 0),(.bool false),(.lst 0 [] true),(.int .i64 0),(.str [97]),(.lst 0 [] true)])]
def r8:AV:=(.tup [(.str (ap [85,3,0,0,0,2,0,0,0,0,0,2,0,0,0,0,0,1,97] (ap (rpt 489 0) [39,6,160,245]))),(.int .i64 0)])
def e8:Ent:=(119,a8,r8)
theorem run8:CN Tryz.prog (cfgT [e7]) 60 119 a8 []=some (.ret r8,[]):=by kernel_rfl
theorem ok8:zal Tryz.prog 119 a8 (.ret r8):=zak (zas (l:=[e7]) ⟨ok7,trivial⟩) rfl run8
def a9:List AV:=[(.str (ap [85,3,0,0,0,2,0,0,0,0,0,2,0,0,0,0,0,1,97] (ap (rpt 489 0) [39,6,160,245])))]
def r9:AV:=(.tup [(.agg [(.int .i64 3),(.int .i64 2),(.int .i64 2),(.int .i64 0),(.int .i64 0),(.bool false),(.lst 0 [] true),(.int .i64 0),(.str [97]),(.lst 0 [] true)]),(.int .i64 0)])
def e9:Ent:=(162,a9,r9)
theorem run9:CN Tryz.prog (cfgT [e7,e8]) 60 162 a9 []=some (.ret r9,[]):=by kernel_rfl
theorem ok9:zal Tryz.prog 162 a9 (.ret r9):=zak (zas (l:=[e7,e8]) ⟨ok7,ok8,trivial⟩) rfl run9
def a10:List AV:=[(.agg [(.lst 1 (ap [(.str (ap [82,0,0,0,0,0,1] (ap qZ (ap [2] (ap qY [37,225,150,127,82])))))] (ap (rpt 7 (.str qQ)) (ap [(.str (ap [82,0,0,0,0,0,2] (ap qZ (ap [3] (ap qY [57,82,197,34,82])))))] (ap (rpt 7 (.str qQ)) (ap [(.str (ap [85,3,0,0,0,2,0,0,0,0,0,2,0,0,0,0,0,1,97] qX))] (ap (rpt 6 (.str qQ)) (ap [(.str (ap qW [39,6,160,245]))] (rpt 8 (.str qQ))))))))) false),(.lst 0 [] true),(.lst 0 [] true)])]
def r10:AV:=(.int .i64 0)
def e10:Ent:=(121,a10,r10)
theorem run10:CN Tryz.prog (cfgT []) 60 121 a10 []=some (.ret r10,[]):=by kernel_rfl
theorem ok10:zal Tryz.prog 121 a10 (.ret r10):=zak (zas (l:=[]) trivial) rfl run10
def a11:List AV:=[(.agg [(.lst 1 (ap [(.str (ap [82,0,0,0,0,0,1] (ap qZ (ap [2] (ap qY [37,225,150,127,82])))))] (ap (rpt 7 (.str qQ)) (ap [(.str (ap [82,0,0,0,0,0,2] (ap qZ (ap [3] (ap qY [57,82,197,34,82])))))] (ap (rpt 7 (.str qQ)) (ap [(.str (ap [85,3,0,0,0,2,0,0,0,0,0,2,0,0,0,0,0,1,97] qX))] (ap (rpt 6 (.str qQ)) (ap [(.str (ap qW [39,6,160,245]))] (rpt 8 (.str qQ))))))))) false),(.lst 0 [] true),(.lst 0 [] true)]),(.int .i64 16),(.int .i64 8)]
def r11:AV:=(.tup [(.str (ap [85,3,0,0,0,2,0,0,0,0,0,2,0,0,0,0,0,1,97] (ap (rpt 489 0) [39,6,160,245]))),(.int .i64 0)])
def e11:Ent:=(161,a11,r11)
theorem run11:CN Tryz.prog (cfgT [e10]) 60 161 a11 []=some (.ret r11,[]):=by kernel_rfl
theorem ok11:zal Tryz.prog 161 a11 (.ret r11):=zak (zas (l:=[e10]) ⟨ok10,trivial⟩) rfl run11
def a12:List AV:=[(.agg [(.lst 1 (ap [(.str (ap [82,0,0,0,0,0,1] (ap qZ (ap [2] (ap qY [37,225,150,127,82])))))] (ap (rpt 7 (.str qQ)) (ap [(.str (ap [82,0,0,0,0,0,2] (ap qZ (ap [3] (ap qY [57,82,197,34,82])))))] (ap (rpt 7 (.str qQ)) (ap [(.str (ap [85,3,0,0,0,2,0,0,0,0,0,2,0,0,0,0,0,1,97] qX))] (ap (rpt 6 (.str qQ)) (ap [(.str (ap qW [39,6,160,245]))] (rpt 8 (.str qQ))))))))) false),(.lst 0 [] true),(.lst 0 [] true)]),(.int .i64 2)]
def r12:AV:=(.tup [(.agg [(.int .i64 3),(.int .i64 2),(.int .i64 2),(.int .i64 0),(.int .i64 0),(.bool false),(.lst 0 [] true),(.int .i64 0),(.str [97]),(.lst 0 [] true)]),(.int .i64 0)])
def e12:Ent:=(33,a12,r12)
theorem run12:CN Tryz.prog (cfgT [e9,e10,e11]) 60 33 a12 []=some (.ret r12,[]):=by kernel_rfl
theorem ok12:zal Tryz.prog 33 a12 (.ret r12):=zak (zas (l:=[e9,e10,e11]) ⟨ok9,ok10,ok11,trivial⟩) rfl run12
def a13:List AV:=[(.str (ap [82,0,0,0,0,0,2] (ap qZ (ap [3] (ap qY [57,82,197,34,82])))))]
def r13:AV:=(.tup [(.agg (ap [(.int .i64 2),(.int .i64 0),(.int .i64 0)] (ap (rpt 16 (.int .u8 0)) [(.int .i64 0),(.int .i64 3)]))),(.int .i64 0)])
def e13:Ent:=(17,a13,r13)
theorem run13:CN Tryz.prog (cfgT [e0,e1]) 60 17 a13 []=some (.ret r13,[]):=by kernel_rfl
theorem ok13:zal Tryz.prog 17 a13 (.ret r13):=zak (zas (l:=[e0,e1]) ⟨ok0,ok1,trivial⟩) rfl run13
def a14:List AV:=[(.agg [(.lst 1 (ap [(.str (ap [82,0,0,0,0,0,1] (ap qZ (ap [2] (ap qY [37,225,150,127,82])))))] (ap (rpt 7 (.str qQ)) (ap [(.str (ap [82,0,0,0,0,0,2] (ap qZ (ap [3] (ap qY [57,82,197,34,82])))))] (ap (rpt 7 (.str qQ)) (ap [(.str (ap [85,3,0,0,0,2,0,0,0,0,0,2,0,0,0,0,0,1,97] qX))] (ap (rpt 6 (.str qQ)) (ap [(.str (ap qW [39,6,160,245]))] (rpt 8 (.str qQ))))))))) false),(.lst 0 [] true),(.lst 0 [] true)]),(.int .i64 8),(.int .i64 1)]
def r14:AV:=(.tup [(.str (ap [82,0,0,0,0,0,2] (ap qZ (ap [3] (ap qY [57,82,197,34,82]))))),(.int .i64 0)])
def e14:Ent:=(161,a14,r14)
theorem run14:CN Tryz.prog (cfgT [e10]) 60 161 a14 []=some (.ret r14,[]):=by kernel_rfl
theorem ok14:zal Tryz.prog 161 a14 (.ret r14):=zak (zas (l:=[e10]) ⟨ok10,trivial⟩) rfl run14
def a15:List AV:=[(.agg (ap [(.int .i64 1),(.int .i64 0),(.int .i64 0)] (ap (rpt 16 (.int .u8 0)) [(.int .i64 0),(.int .i64 2)])))]
def r15:AV:=(.agg (ap [(.int .u8 82),(.int .u8 0),(.int .u8 0),(.int .u8 0),(.int .u8 0),(.int .u8 0),(.int .u8 1)] (ap (rpt 31 (.int .u8 0)) (ap [(.int .u8 2)] (ap (rpt 20 (.int .u8 0)) [(.int .u8 37),(.int .u8 225),(.int .u8 150),(.int .u8 127),(.int .u8 82)])))))
def e15:Ent:=(59,a15,r15)
theorem run15:CN Tryz.prog (cfgT []) 60 59 a15 []=some (.ret r15,[]):=by kernel_rfl
theorem ok15:zal Tryz.prog 59 a15 (.ret r15):=zak (zas (l:=[]) trivial) rfl run15
def a16:List AV:=[(.agg (ap [(.int .i64 1),(.int .i64 0),(.int .i64 0)] (ap (rpt 16 (.int .u8 0)) [(.int .i64 0),(.int .i64 2)])))]
def r16:AV:=(.int .i64 0)
def e16:Ent:=(19,a16,r16)
theorem run16:CN Tryz.prog (cfgT []) 60 19 a16 []=some (.ret r16,[]):=by kernel_rfl
theorem ok16:zal Tryz.prog 19 a16 (.ret r16):=zak (zas (l:=[]) trivial) rfl run16
def a17:List AV:=[(.str (ap [82,0,0,0,0,0,1] (ap qZ (ap [2] (ap qY [37,225,150,127,82])))))]
def r17:AV:=(.tup [(.agg (ap [(.int .i64 1),(.int .i64 0),(.int .i64 0)] (ap (rpt 16 (.int .u8 0)) [(.int .i64 0),(.int .i64 2)]))),(.int .i64 0)])
def e17:Ent:=(17,a17,r17)
theorem run17:CN Tryz.prog (cfgT [e15,e16]) 60 17 a17 []=some (.ret r17,[]):=by kernel_rfl
theorem ok17:zal Tryz.prog 17 a17 (.ret r17):=zak (zas (l:=[e15,e16]) ⟨ok15,ok16,trivial⟩) rfl run17
def a18:List AV:=[(.agg [(.lst 1 (ap [(.str (ap [82,0,0,0,0,0,1] (ap qZ (ap [2] (ap qY [37,225,150,127,82])))))] (ap (rpt 7 (.str qQ)) (ap [(.str (ap [82,0,0,0,0,0,2] (ap qZ (ap [3] (ap qY [57,82,197,34,82])))))] (ap (rpt 7 (.str qQ)) (ap [(.str (ap [85,3,0,0,0,2,0,0,0,0,0,2,0,0,0,0,0,1,97] qX))] (ap (rpt 6 (.str qQ)) (ap [(.str (ap qW [39,6,160,245]))] (rpt 8 (.str qQ))))))))) false),(.lst 0 [] true),(.lst 0 [] true)]),(.int .i64 0),(.int .i64 1)]
def r18:AV:=(.tup [(.str (ap [82,0,0,0,0,0,1] (ap qZ (ap [2] (ap qY [37,225,150,127,82]))))),(.int .i64 0)])
def e18:Ent:=(161,a18,r18)
theorem run18:CN Tryz.prog (cfgT [e10]) 60 161 a18 []=some (.ret r18,[]):=by kernel_rfl
theorem ok18:zal Tryz.prog 161 a18 (.ret r18):=zak (zas (l:=[e10]) ⟨ok10,trivial⟩) rfl run18
def a19:List AV:=[(.agg [(.lst 1 (ap [(.str (ap [82,0,0,0,0,0,1] (ap qZ (ap [2] (ap qY [37,225,150,127,82])))))] (ap (rpt 7 (.str qQ)) (ap [(.str (ap [82,0,0,0,0,0,2] (ap qZ (ap [3] (ap qY [57,82,197,34,82])))))] (ap (rpt 7 (.str qQ)) (ap [(.str (ap [85,3,0,0,0,2,0,0,0,0,0,2,0,0,0,0,0,1,97] qX))] (ap (rpt 6 (.str qQ)) (ap [(.str (ap qW [39,6,160,245]))] (rpt 8 (.str qQ))))))))) false),(.lst 0 [] true),(.lst 0 [] true)])]
def r19:AV:=(.tup [(.agg (ap [(.int .i64 2),(.int .i64 0),(.int .i64 0)] (ap (rpt 16 (.int .u8 0)) [(.int .i64 0),(.int .i64 3)]))),(.int .i64 0)])
def e19:Ent:=(45,a19,r19)
theorem run19:CN Tryz.prog (cfgT [e10,e13,e14,e17,e18]) 60 45 a19 []=some (.ret r19,[]):=by kernel_rfl
theorem ok19:zal Tryz.prog 45 a19 (.ret r19):=zak (zas (l:=[e10,e13,e14,e17,e18]) ⟨ok10,ok13,ok14,ok17,ok18,trivial⟩) rfl run19
def a20:List AV:=[(.agg [(.lst 1 (ap [(.str (ap [82,0,0,0,0,0,1] (ap qZ (ap [2] (ap qY [37,225,150,127,82])))))] (ap (rpt 15 (.str qQ)) (ap [(.str (ap [85,3,0,0,0,2,0,0,0,0,0,2,0,0,0,0,0,1,97] qX))] (ap (rpt 6 (.str qQ)) (ap [(.str (ap qW [39,6,160,245]))] (rpt 8 (.str qQ))))))) false),(.lst 2 [(.agg [(.int .i64 8),(.str (ap [82,0,0,0,0,0,2] (ap qZ (ap [3] (ap qY [57,82,197,34,82])))))])] false),(.lst 0 [] true)])]
def r20:AV:=(.int .i64 0)
def e20:Ent:=(121,a20,r20)
theorem run20:CN Tryz.prog (cfgT []) 60 121 a20 []=some (.ret r20,[]):=by kernel_rfl
theorem ok20:zal Tryz.prog 121 a20 (.ret r20):=zak (zas (l:=[]) trivial) rfl run20
def a21:List AV:=[(.agg [(.lst 1 (ap [(.str (ap [82,0,0,0,0,0,1] (ap qZ (ap [2] (ap qY [37,225,150,127,82])))))] (ap (rpt 15 (.str qQ)) (ap [(.str (ap [85,3,0,0,0,2,0,0,0,0,0,2,0,0,0,0,0,1,97] qX))] (ap (rpt 6 (.str qQ)) (ap [(.str (ap qW [39,6,160,245]))] (rpt 8 (.str qQ))))))) false),(.lst 2 [(.agg [(.int .i64 8),(.str (ap [82,0,0,0,0,0,2] (ap qZ (ap [3] (ap qY [57,82,197,34,82])))))])] false),(.lst 0 [] true)])]
def r21:AV:=(.agg [(.lst 1 (ap [(.str (ap [82,0,0,0,0,0,1] (ap qZ (ap [2] (ap qY [37,225,150,127,82])))))] (ap (rpt 7 (.str qQ)) (ap [(.str (ap [82,0,0,0,0,0,2] (ap qZ (ap [3] (ap qY [57,82,197,34,82])))))] (ap (rpt 7 (.str qQ)) (ap [(.str (ap [85,3,0,0,0,2,0,0,0,0,0,2,0,0,0,0,0,1,97] qX))] (ap (rpt 6 (.str qQ)) (ap [(.str (ap qW [39,6,160,245]))] (rpt 8 (.str qQ))))))))) false),(.lst 0 [] true),(.lst 0 [] true)])
def e21:Ent:=(51,a21,r21)
theorem run21:CN Tryz.prog (cfgT [e20]) 60 51 a21 []=some (.ret r21,[]):=by kernel_rfl
theorem ok21:zal Tryz.prog 51 a21 (.ret r21):=zak (zas (l:=[e20]) ⟨ok20,trivial⟩) rfl run21
def a22:List AV:=[(.agg [(.lst 1 (ap [(.str (ap [82,0,0,0,0,0,1] (ap qZ (ap [2] (ap qY [37,225,150,127,82])))))] (ap (rpt 15 (.str qQ)) (ap [(.str (ap [85,3,0,0,0,2,0,0,0,0,0,2,0,0,0,0,0,1,97] qX))] (ap (rpt 6 (.str qQ)) (ap [(.str (ap qW [39,6,160,245]))] (rpt 8 (.str qQ))))))) false),(.lst 0 [] true),(.lst 0 [] true)])]
def r22:AV:=(.int .i64 0)
def e22:Ent:=(121,a22,r22)
theorem run22:CN Tryz.prog (cfgT []) 60 121 a22 []=some (.ret r22,[]):=by kernel_rfl
theorem ok22:zal Tryz.prog 121 a22 (.ret r22):=zak (zas (l:=[]) trivial) rfl run22
def a23:List AV:=[(.agg [(.lst 1 (ap [(.str (ap [82,0,0,0,0,0,1] (ap qZ (ap [2] (ap qY [37,225,150,127,82])))))] (ap (rpt 15 (.str qQ)) (ap [(.str (ap [85,3,0,0,0,2,0,0,0,0,0,2,0,0,0,0,0,1,97] qX))] (ap (rpt 6 (.str qQ)) (ap [(.str (ap qW [39,6,160,245]))] (rpt 8 (.str qQ))))))) false),(.lst 0 [] true),(.lst 0 [] true)]),(.int .i64 8),(.str (ap [82,0,0,0,0,0,2] (ap qZ (ap [3] (ap qY [57,82,197,34,82])))))]
def r23:AV:=(.tup [(.agg [(.lst 1 (ap [(.str (ap [82,0,0,0,0,0,1] (ap qZ (ap [2] (ap qY [37,225,150,127,82])))))] (ap (rpt 15 (.str qQ)) (ap [(.str (ap [85,3,0,0,0,2,0,0,0,0,0,2,0,0,0,0,0,1,97] qX))] (ap (rpt 6 (.str qQ)) (ap [(.str (ap qW [39,6,160,245]))] (rpt 8 (.str qQ))))))) false),(.lst 2 [(.agg [(.int .i64 8),(.str (ap [82,0,0,0,0,0,2] (ap qZ (ap [3] (ap qY [57,82,197,34,82])))))])] false),(.lst 0 [] true)]),(.int .i64 0)])
def e23:Ent:=(182,a23,r23)
theorem run23:CN Tryz.prog (cfgT [e22]) 60 182 a23 []=some (.ret r23,[]):=by kernel_rfl
theorem ok23:zal Tryz.prog 182 a23 (.ret r23):=zak (zas (l:=[e22]) ⟨ok22,trivial⟩) rfl run23
def a24:List AV:=[(.agg [(.lst 1 (ap [(.str (ap [82,0,0,0,0,0,1] (ap qZ (ap [2] (ap qY [37,225,150,127,82])))))] (ap (rpt 15 (.str qQ)) (ap [(.str (ap [85,3,0,0,0,2,0,0,0,0,0,2,0,0,0,0,0,1,97] qX))] (ap (rpt 6 (.str qQ)) (ap [(.str (ap qW [39,6,160,245]))] (rpt 8 (.str qQ))))))) false),(.lst 2 [(.agg [(.int .i64 8),(.str qQ)])] false),(.lst 0 [] true)])]
def r24:AV:=(.int .i64 0)
def e24:Ent:=(121,a24,r24)
theorem run24:CN Tryz.prog (cfgT []) 60 121 a24 []=some (.ret r24,[]):=by kernel_rfl
theorem ok24:zal Tryz.prog 121 a24 (.ret r24):=zak (zas (l:=[]) trivial) rfl run24
def a25:List AV:=[(.agg [(.lst 1 (ap [(.str (ap [82,0,0,0,0,0,1] (ap qZ (ap [2] (ap qY [37,225,150,127,82])))))] (ap (rpt 15 (.str qQ)) (ap [(.str (ap [85,3,0,0,0,2,0,0,0,0,0,2,0,0,0,0,0,1,97] qX))] (ap (rpt 6 (.str qQ)) (ap [(.str (ap qW [39,6,160,245]))] (rpt 8 (.str qQ))))))) false),(.lst 2 [(.agg [(.int .i64 8),(.str qQ)])] false),(.lst 0 [] true)])]
def r25:AV:=(.agg [(.lst 1 (ap [(.str (ap [82,0,0,0,0,0,1] (ap qZ (ap [2] (ap qY [37,225,150,127,82])))))] (ap (rpt 15 (.str qQ)) (ap [(.str (ap [85,3,0,0,0,2,0,0,0,0,0,2,0,0,0,0,0,1,97] qX))] (ap (rpt 6 (.str qQ)) (ap [(.str (ap qW [39,6,160,245]))] (rpt 8 (.str qQ))))))) false),(.lst 0 [] true),(.lst 0 [] true)])
def e25:Ent:=(51,a25,r25)
theorem run25:CN Tryz.prog (cfgT [e24]) 60 51 a25 []=some (.ret r25,[]):=by kernel_rfl
theorem ok25:zal Tryz.prog 51 a25 (.ret r25):=zak (zas (l:=[e24]) ⟨ok24,trivial⟩) rfl run25
def a26:List AV:=[(.agg [(.lst 1 (ap [(.str (ap [82,0,0,0,0,0,1] (ap qZ (ap [2] (ap qY [37,225,150,127,82])))))] (ap (rpt 15 (.str qQ)) (ap [(.str (ap [85,3,0,0,0,2,0,0,0,0,0,2,0,0,0,0,0,1,97] qX))] (ap (rpt 6 (.str qQ)) (ap [(.str (ap qW [39,6,160,245]))] (rpt 8 (.str qQ))))))) false),(.lst 0 [] true),(.lst 0 [] true)]),(.int .i64 8),(.str qQ)]
def r26:AV:=(.tup [(.agg [(.lst 1 (ap [(.str (ap [82,0,0,0,0,0,1] (ap qZ (ap [2] (ap qY [37,225,150,127,82])))))] (ap (rpt 15 (.str qQ)) (ap [(.str (ap [85,3,0,0,0,2,0,0,0,0,0,2,0,0,0,0,0,1,97] qX))] (ap (rpt 6 (.str qQ)) (ap [(.str (ap qW [39,6,160,245]))] (rpt 8 (.str qQ))))))) false),(.lst 2 [(.agg [(.int .i64 8),(.str qQ)])] false),(.lst 0 [] true)]),(.int .i64 0)])
def e26:Ent:=(182,a26,r26)
theorem run26:CN Tryz.prog (cfgT [e22]) 60 182 a26 []=some (.ret r26,[]):=by kernel_rfl
theorem ok26:zal Tryz.prog 182 a26 (.ret r26):=zak (zas (l:=[e22]) ⟨ok22,trivial⟩) rfl run26
def a27:List AV:=[(.agg [(.lst 1 (ap [(.str (ap [82,0,0,0,0,0,1] (ap qZ (ap [2] (ap qY [37,225,150,127,82])))))] (rpt 31 (.str qQ))) false),(.lst 2 [(.agg [(.int .i64 16),(.str (ap [85,3,0,0,0,2,0,0,0,0,0,2,0,0,0,0,0,1,97] qX))]),(.agg [(.int .i64 17),(.str qQ)]),(.agg [(.int .i64 18),(.str qQ)]),(.agg [(.int .i64 19),(.str qQ)]),(.agg [(.int .i64 20),(.str qQ)]),(.agg [(.int .i64 21),(.str qQ)]),(.agg [(.int .i64 22),(.str qQ)]),(.agg [(.int .i64 23),(.str (ap qW [39,6,160,245]))])] false),(.lst 0 [] true)])]
def r27:AV:=(.int .i64 0)
def e27:Ent:=(121,a27,r27)
theorem run27:CN Tryz.prog (cfgT []) 60 121 a27 []=some (.ret r27,[]):=by kernel_rfl
theorem ok27:zal Tryz.prog 121 a27 (.ret r27):=zak (zas (l:=[]) trivial) rfl run27
def a28:List AV:=[(.agg [(.lst 1 (ap [(.str (ap [82,0,0,0,0,0,1] (ap qZ (ap [2] (ap qY [37,225,150,127,82])))))] (rpt 31 (.str qQ))) false),(.lst 2 [(.agg [(.int .i64 16),(.str (ap [85,3,0,0,0,2,0,0,0,0,0,2,0,0,0,0,0,1,97] qX))]),(.agg [(.int .i64 17),(.str qQ)]),(.agg [(.int .i64 18),(.str qQ)]),(.agg [(.int .i64 19),(.str qQ)]),(.agg [(.int .i64 20),(.str qQ)]),(.agg [(.int .i64 21),(.str qQ)]),(.agg [(.int .i64 22),(.str qQ)]),(.agg [(.int .i64 23),(.str (ap qW [39,6,160,245]))])] false),(.lst 0 [] true)])]
def r28:AV:=(.agg [(.lst 1 (ap [(.str (ap [82,0,0,0,0,0,1] (ap qZ (ap [2] (ap qY [37,225,150,127,82])))))] (ap (rpt 15 (.str qQ)) (ap [(.str (ap [85,3,0,0,0,2,0,0,0,0,0,2,0,0,0,0,0,1,97] qX))] (ap (rpt 6 (.str qQ)) (ap [(.str (ap qW [39,6,160,245]))] (rpt 8 (.str qQ))))))) false),(.lst 0 [] true),(.lst 0 [] true)])
def e28:Ent:=(51,a28,r28)
theorem run28:CN Tryz.prog (cfgT [e27]) 60 51 a28 []=some (.ret r28,[]):=by kernel_rfl
theorem ok28:zal Tryz.prog 51 a28 (.ret r28):=zak (zas (l:=[e27]) ⟨ok27,trivial⟩) rfl run28
def a29:List AV:=[(.agg [(.lst 1 (ap [(.str (ap [82,0,0,0,0,0,1] (ap qZ (ap [2] (ap qY [37,225,150,127,82])))))] (rpt 31 (.str qQ))) false),(.lst 2 [(.agg [(.int .i64 16),(.str (ap [85,3,0,0,0,2,0,0,0,0,0,2,0,0,0,0,0,1,97] qX))]),(.agg [(.int .i64 17),(.str qQ)]),(.agg [(.int .i64 18),(.str qQ)]),(.agg [(.int .i64 19),(.str qQ)]),(.agg [(.int .i64 20),(.str qQ)]),(.agg [(.int .i64 21),(.str qQ)]),(.agg [(.int .i64 22),(.str qQ)])] false),(.lst 0 [] true)])]
def r29:AV:=(.int .i64 0)
def e29:Ent:=(121,a29,r29)
theorem run29:CN Tryz.prog (cfgT []) 60 121 a29 []=some (.ret r29,[]):=by kernel_rfl
theorem ok29:zal Tryz.prog 121 a29 (.ret r29):=zak (zas (l:=[]) trivial) rfl run29
def a30:List AV:=[(.agg [(.lst 1 (ap [(.str (ap [82,0,0,0,0,0,1] (ap qZ (ap [2] (ap qY [37,225,150,127,82])))))] (rpt 31 (.str qQ))) false),(.lst 2 [(.agg [(.int .i64 16),(.str (ap [85,3,0,0,0,2,0,0,0,0,0,2,0,0,0,0,0,1,97] qX))]),(.agg [(.int .i64 17),(.str qQ)]),(.agg [(.int .i64 18),(.str qQ)]),(.agg [(.int .i64 19),(.str qQ)]),(.agg [(.int .i64 20),(.str qQ)]),(.agg [(.int .i64 21),(.str qQ)]),(.agg [(.int .i64 22),(.str qQ)])] false),(.lst 0 [] true)]),(.int .i64 23),(.str (ap qW [39,6,160,245]))]
def r30:AV:=(.tup [(.agg [(.lst 1 (ap [(.str (ap [82,0,0,0,0,0,1] (ap qZ (ap [2] (ap qY [37,225,150,127,82])))))] (rpt 31 (.str qQ))) false),(.lst 2 [(.agg [(.int .i64 16),(.str (ap [85,3,0,0,0,2,0,0,0,0,0,2,0,0,0,0,0,1,97] qX))]),(.agg [(.int .i64 17),(.str qQ)]),(.agg [(.int .i64 18),(.str qQ)]),(.agg [(.int .i64 19),(.str qQ)]),(.agg [(.int .i64 20),(.str qQ)]),(.agg [(.int .i64 21),(.str qQ)]),(.agg [(.int .i64 22),(.str qQ)]),(.agg [(.int .i64 23),(.str (ap qW [39,6,160,245]))])] false),(.lst 0 [] true)]),(.int .i64 0)])
def e30:Ent:=(182,a30,r30)
theorem run30:CN Tryz.prog (cfgT [e29]) 60 182 a30 []=some (.ret r30,[]):=by kernel_rfl
theorem ok30:zal Tryz.prog 182 a30 (.ret r30):=zak (zas (l:=[e29]) ⟨ok29,trivial⟩) rfl run30
def a31:List AV:=[(.agg [(.lst 1 (ap [(.str (ap [82,0,0,0,0,0,1] (ap qZ (ap [2] (ap qY [37,225,150,127,82])))))] (rpt 31 (.str qQ))) false),(.lst 2 [(.agg [(.int .i64 16),(.str (ap [85,3,0,0,0,2,0,0,0,0,0,2,0,0,0,0,0,1,97] qX))]),(.agg [(.int .i64 17),(.str qQ)]),(.agg [(.int .i64 18),(.str qQ)]),(.agg [(.int .i64 19),(.str qQ)]),(.agg [(.int .i64 20),(.str qQ)]),(.agg [(.int .i64 21),(.str qQ)])] false),(.lst 0 [] true)])]
def r31:AV:=(.int .i64 0)
def e31:Ent:=(121,a31,r31)
theorem run31:CN Tryz.prog (cfgT []) 60 121 a31 []=some (.ret r31,[]):=by kernel_rfl
theorem ok31:zal Tryz.prog 121 a31 (.ret r31):=zak (zas (l:=[]) trivial) rfl run31
def a32:List AV:=[(.agg [(.lst 1 (ap [(.str (ap [82,0,0,0,0,0,1] (ap qZ (ap [2] (ap qY [37,225,150,127,82])))))] (rpt 31 (.str qQ))) false),(.lst 2 [(.agg [(.int .i64 16),(.str (ap [85,3,0,0,0,2,0,0,0,0,0,2,0,0,0,0,0,1,97] qX))]),(.agg [(.int .i64 17),(.str qQ)]),(.agg [(.int .i64 18),(.str qQ)]),(.agg [(.int .i64 19),(.str qQ)]),(.agg [(.int .i64 20),(.str qQ)]),(.agg [(.int .i64 21),(.str qQ)])] false),(.lst 0 [] true)]),(.int .i64 22),(.str qQ)]
def r32:AV:=(.tup [(.agg [(.lst 1 (ap [(.str (ap [82,0,0,0,0,0,1] (ap qZ (ap [2] (ap qY [37,225,150,127,82])))))] (rpt 31 (.str qQ))) false),(.lst 2 [(.agg [(.int .i64 16),(.str (ap [85,3,0,0,0,2,0,0,0,0,0,2,0,0,0,0,0,1,97] qX))]),(.agg [(.int .i64 17),(.str qQ)]),(.agg [(.int .i64 18),(.str qQ)]),(.agg [(.int .i64 19),(.str qQ)]),(.agg [(.int .i64 20),(.str qQ)]),(.agg [(.int .i64 21),(.str qQ)]),(.agg [(.int .i64 22),(.str qQ)])] false),(.lst 0 [] true)]),(.int .i64 0)])
def e32:Ent:=(182,a32,r32)
theorem run32:CN Tryz.prog (cfgT [e31]) 60 182 a32 []=some (.ret r32,[]):=by kernel_rfl
theorem ok32:zal Tryz.prog 182 a32 (.ret r32):=zak (zas (l:=[e31]) ⟨ok31,trivial⟩) rfl run32
def a33:List AV:=[(.agg [(.lst 1 (ap [(.str (ap [82,0,0,0,0,0,1] (ap qZ (ap [2] (ap qY [37,225,150,127,82])))))] (rpt 31 (.str qQ))) false),(.lst 2 [(.agg [(.int .i64 16),(.str (ap [85,3,0,0,0,2,0,0,0,0,0,2,0,0,0,0,0,1,97] qX))]),(.agg [(.int .i64 17),(.str qQ)]),(.agg [(.int .i64 18),(.str qQ)]),(.agg [(.int .i64 19),(.str qQ)]),(.agg [(.int .i64 20),(.str qQ)])] false),(.lst 0 [] true)])]
def r33:AV:=(.int .i64 0)
def e33:Ent:=(121,a33,r33)
theorem run33:CN Tryz.prog (cfgT []) 60 121 a33 []=some (.ret r33,[]):=by kernel_rfl
theorem ok33:zal Tryz.prog 121 a33 (.ret r33):=zak (zas (l:=[]) trivial) rfl run33
def a34:List AV:=[(.agg [(.lst 1 (ap [(.str (ap [82,0,0,0,0,0,1] (ap qZ (ap [2] (ap qY [37,225,150,127,82])))))] (rpt 31 (.str qQ))) false),(.lst 2 [(.agg [(.int .i64 16),(.str (ap [85,3,0,0,0,2,0,0,0,0,0,2,0,0,0,0,0,1,97] qX))]),(.agg [(.int .i64 17),(.str qQ)]),(.agg [(.int .i64 18),(.str qQ)]),(.agg [(.int .i64 19),(.str qQ)]),(.agg [(.int .i64 20),(.str qQ)])] false),(.lst 0 [] true)]),(.int .i64 21),(.str qQ)]
def r34:AV:=(.tup [(.agg [(.lst 1 (ap [(.str (ap [82,0,0,0,0,0,1] (ap qZ (ap [2] (ap qY [37,225,150,127,82])))))] (rpt 31 (.str qQ))) false),(.lst 2 [(.agg [(.int .i64 16),(.str (ap [85,3,0,0,0,2,0,0,0,0,0,2,0,0,0,0,0,1,97] qX))]),(.agg [(.int .i64 17),(.str qQ)]),(.agg [(.int .i64 18),(.str qQ)]),(.agg [(.int .i64 19),(.str qQ)]),(.agg [(.int .i64 20),(.str qQ)]),(.agg [(.int .i64 21),(.str qQ)])] false),(.lst 0 [] true)]),(.int .i64 0)])
def e34:Ent:=(182,a34,r34)
theorem run34:CN Tryz.prog (cfgT [e33]) 60 182 a34 []=some (.ret r34,[]):=by kernel_rfl
theorem ok34:zal Tryz.prog 182 a34 (.ret r34):=zak (zas (l:=[e33]) ⟨ok33,trivial⟩) rfl run34
def a35:List AV:=[(.agg [(.lst 1 (ap [(.str (ap [82,0,0,0,0,0,1] (ap qZ (ap [2] (ap qY [37,225,150,127,82])))))] (rpt 31 (.str qQ))) false),(.lst 2 [(.agg [(.int .i64 16),(.str (ap [85,3,0,0,0,2,0,0,0,0,0,2,0,0,0,0,0,1,97] qX))]),(.agg [(.int .i64 17),(.str qQ)]),(.agg [(.int .i64 18),(.str qQ)]),(.agg [(.int .i64 19),(.str qQ)])] false),(.lst 0 [] true)])]
def r35:AV:=(.int .i64 0)
def e35:Ent:=(121,a35,r35)
theorem run35:CN Tryz.prog (cfgT []) 60 121 a35 []=some (.ret r35,[]):=by kernel_rfl
theorem ok35:zal Tryz.prog 121 a35 (.ret r35):=zak (zas (l:=[]) trivial) rfl run35
def a36:List AV:=[(.agg [(.lst 1 (ap [(.str (ap [82,0,0,0,0,0,1] (ap qZ (ap [2] (ap qY [37,225,150,127,82])))))] (rpt 31 (.str qQ))) false),(.lst 2 [(.agg [(.int .i64 16),(.str (ap [85,3,0,0,0,2,0,0,0,0,0,2,0,0,0,0,0,1,97] qX))]),(.agg [(.int .i64 17),(.str qQ)]),(.agg [(.int .i64 18),(.str qQ)]),(.agg [(.int .i64 19),(.str qQ)])] false),(.lst 0 [] true)]),(.int .i64 20),(.str qQ)]
def r36:AV:=(.tup [(.agg [(.lst 1 (ap [(.str (ap [82,0,0,0,0,0,1] (ap qZ (ap [2] (ap qY [37,225,150,127,82])))))] (rpt 31 (.str qQ))) false),(.lst 2 [(.agg [(.int .i64 16),(.str (ap [85,3,0,0,0,2,0,0,0,0,0,2,0,0,0,0,0,1,97] qX))]),(.agg [(.int .i64 17),(.str qQ)]),(.agg [(.int .i64 18),(.str qQ)]),(.agg [(.int .i64 19),(.str qQ)]),(.agg [(.int .i64 20),(.str qQ)])] false),(.lst 0 [] true)]),(.int .i64 0)])
def e36:Ent:=(182,a36,r36)
theorem run36:CN Tryz.prog (cfgT [e35]) 60 182 a36 []=some (.ret r36,[]):=by kernel_rfl
theorem ok36:zal Tryz.prog 182 a36 (.ret r36):=zak (zas (l:=[e35]) ⟨ok35,trivial⟩) rfl run36
def a37:List AV:=[(.agg [(.lst 1 (ap [(.str (ap [82,0,0,0,0,0,1] (ap qZ (ap [2] (ap qY [37,225,150,127,82])))))] (rpt 31 (.str qQ))) false),(.lst 2 [(.agg [(.int .i64 16),(.str (ap [85,3,0,0,0,2,0,0,0,0,0,2,0,0,0,0,0,1,97] qX))]),(.agg [(.int .i64 17),(.str qQ)]),(.agg [(.int .i64 18),(.str qQ)])] false),(.lst 0 [] true)])]
def r37:AV:=(.int .i64 0)
def e37:Ent:=(121,a37,r37)
theorem run37:CN Tryz.prog (cfgT []) 60 121 a37 []=some (.ret r37,[]):=by kernel_rfl
theorem ok37:zal Tryz.prog 121 a37 (.ret r37):=zak (zas (l:=[]) trivial) rfl run37
def a38:List AV:=[(.agg [(.lst 1 (ap [(.str (ap [82,0,0,0,0,0,1] (ap qZ (ap [2] (ap qY [37,225,150,127,82])))))] (rpt 31 (.str qQ))) false),(.lst 2 [(.agg [(.int .i64 16),(.str (ap [85,3,0,0,0,2,0,0,0,0,0,2,0,0,0,0,0,1,97] qX))]),(.agg [(.int .i64 17),(.str qQ)]),(.agg [(.int .i64 18),(.str qQ)])] false),(.lst 0 [] true)]),(.int .i64 19),(.str qQ)]
def r38:AV:=(.tup [(.agg [(.lst 1 (ap [(.str (ap [82,0,0,0,0,0,1] (ap qZ (ap [2] (ap qY [37,225,150,127,82])))))] (rpt 31 (.str qQ))) false),(.lst 2 [(.agg [(.int .i64 16),(.str (ap [85,3,0,0,0,2,0,0,0,0,0,2,0,0,0,0,0,1,97] qX))]),(.agg [(.int .i64 17),(.str qQ)]),(.agg [(.int .i64 18),(.str qQ)]),(.agg [(.int .i64 19),(.str qQ)])] false),(.lst 0 [] true)]),(.int .i64 0)])
def e38:Ent:=(182,a38,r38)
theorem run38:CN Tryz.prog (cfgT [e37]) 60 182 a38 []=some (.ret r38,[]):=by kernel_rfl
theorem ok38:zal Tryz.prog 182 a38 (.ret r38):=zak (zas (l:=[e37]) ⟨ok37,trivial⟩) rfl run38
def a39:List AV:=[(.agg [(.lst 1 (ap [(.str (ap [82,0,0,0,0,0,1] (ap qZ (ap [2] (ap qY [37,225,150,127,82])))))] (rpt 31 (.str qQ))) false),(.lst 2 [(.agg [(.int .i64 16),(.str (ap [85,3,0,0,0,2,0,0,0,0,0,2,0,0,0,0,0,1,97] qX))]),(.agg [(.int .i64 17),(.str qQ)])] false),(.lst 0 [] true)])]
def r39:AV:=(.int .i64 0)
def e39:Ent:=(121,a39,r39)
theorem run39:CN Tryz.prog (cfgT []) 60 121 a39 []=some (.ret r39,[]):=by kernel_rfl
theorem ok39:zal Tryz.prog 121 a39 (.ret r39):=zak (zas (l:=[]) trivial) rfl run39
def a40:List AV:=[(.agg [(.lst 1 (ap [(.str (ap [82,0,0,0,0,0,1] (ap qZ (ap [2] (ap qY [37,225,150,127,82])))))] (rpt 31 (.str qQ))) false),(.lst 2 [(.agg [(.int .i64 16),(.str (ap [85,3,0,0,0,2,0,0,0,0,0,2,0,0,0,0,0,1,97] qX))]),(.agg [(.int .i64 17),(.str qQ)])] false),(.lst 0 [] true)]),(.int .i64 18),(.str qQ)]
def r40:AV:=(.tup [(.agg [(.lst 1 (ap [(.str (ap [82,0,0,0,0,0,1] (ap qZ (ap [2] (ap qY [37,225,150,127,82])))))] (rpt 31 (.str qQ))) false),(.lst 2 [(.agg [(.int .i64 16),(.str (ap [85,3,0,0,0,2,0,0,0,0,0,2,0,0,0,0,0,1,97] qX))]),(.agg [(.int .i64 17),(.str qQ)]),(.agg [(.int .i64 18),(.str qQ)])] false),(.lst 0 [] true)]),(.int .i64 0)])
def e40:Ent:=(182,a40,r40)
theorem run40:CN Tryz.prog (cfgT [e39]) 60 182 a40 []=some (.ret r40,[]):=by kernel_rfl
theorem ok40:zal Tryz.prog 182 a40 (.ret r40):=zak (zas (l:=[e39]) ⟨ok39,trivial⟩) rfl run40
def a41:List AV:=[(.agg [(.lst 1 (ap [(.str (ap [82,0,0,0,0,0,1] (ap qZ (ap [2] (ap qY [37,225,150,127,82])))))] (rpt 31 (.str qQ))) false),(.lst 2 [(.agg [(.int .i64 16),(.str (ap [85,3,0,0,0,2,0,0,0,0,0,2,0,0,0,0,0,1,97] qX))])] false),(.lst 0 [] true)])]
def r41:AV:=(.int .i64 0)
def e41:Ent:=(121,a41,r41)
theorem run41:CN Tryz.prog (cfgT []) 60 121 a41 []=some (.ret r41,[]):=by kernel_rfl
theorem ok41:zal Tryz.prog 121 a41 (.ret r41):=zak (zas (l:=[]) trivial) rfl run41
def a42:List AV:=[(.agg [(.lst 1 (ap [(.str (ap [82,0,0,0,0,0,1] (ap qZ (ap [2] (ap qY [37,225,150,127,82])))))] (rpt 31 (.str qQ))) false),(.lst 2 [(.agg [(.int .i64 16),(.str (ap [85,3,0,0,0,2,0,0,0,0,0,2,0,0,0,0,0,1,97] qX))])] false),(.lst 0 [] true)]),(.int .i64 17),(.str qQ)]
def r42:AV:=(.tup [(.agg [(.lst 1 (ap [(.str (ap [82,0,0,0,0,0,1] (ap qZ (ap [2] (ap qY [37,225,150,127,82])))))] (rpt 31 (.str qQ))) false),(.lst 2 [(.agg [(.int .i64 16),(.str (ap [85,3,0,0,0,2,0,0,0,0,0,2,0,0,0,0,0,1,97] qX))]),(.agg [(.int .i64 17),(.str qQ)])] false),(.lst 0 [] true)]),(.int .i64 0)])
def e42:Ent:=(182,a42,r42)
theorem run42:CN Tryz.prog (cfgT [e41]) 60 182 a42 []=some (.ret r42,[]):=by kernel_rfl
theorem ok42:zal Tryz.prog 182 a42 (.ret r42):=zak (zas (l:=[e41]) ⟨ok41,trivial⟩) rfl run42
def a43:List AV:=[(.agg [(.lst 1 (ap [(.str (ap [82,0,0,0,0,0,1] (ap qZ (ap [2] (ap qY [37,225,150,127,82])))))] (rpt 31 (.str qQ))) false),(.lst 0 [] true),(.lst 0 [] true)]),(.int .i64 16),(.str (ap [85,3,0,0,0,2,0,0,0,0,0,2,0,0,0,0,0,1,97] qX))]
def r43:AV:=(.tup [(.agg [(.lst 1 (ap [(.str (ap [82,0,0,0,0,0,1] (ap qZ (ap [2] (ap qY [37,225,150,127,82])))))] (rpt 31 (.str qQ))) false),(.lst 2 [(.agg [(.int .i64 16),(.str (ap [85,3,0,0,0,2,0,0,0,0,0,2,0,0,0,0,0,1,97] qX))])] false),(.lst 0 [] true)]),(.int .i64 0)])
def e43:Ent:=(182,a43,r43)
theorem run43:CN Tryz.prog (cfgT [e4]) 60 182 a43 []=some (.ret r43,[]):=by kernel_rfl
theorem ok43:zal Tryz.prog 182 a43 (.ret r43):=zak (zas (l:=[e4]) ⟨ok4,trivial⟩) rfl run43
def a44:List AV:=[(.agg [(.lst 1 (ap [(.str (ap [82,0,0,0,0,0,1] (ap qZ (ap [2] (ap qY [37,225,150,127,82])))))] (rpt 31 (.str qQ))) false),(.lst 0 [] true),(.lst 0 [] true)]),(.lst 3 [(.agg [(.bool false),(.int .i64 16),(.str (ap [85,3,0,0,0,2,0,0,0,0,0,2,0,0,0,0,0,1,97] qX))]),(.agg [(.bool false),(.int .i64 17),(.str qQ)]),(.agg [(.bool false),(.int .i64 18),(.str qQ)]),(.agg [(.bool false),(.int .i64 19),(.str qQ)]),(.agg [(.bool false),(.int .i64 20),(.str qQ)]),(.agg [(.bool false),(.int .i64 21),(.str qQ)]),(.agg [(.bool false),(.int .i64 22),(.str qQ)]),(.agg [(.bool false),(.int .i64 23),(.str (ap qW [39,6,160,245]))]),(.agg [(.bool true),(.int .i64 0),(.str [])]),(.agg [(.bool false),(.int .i64 8),(.str qQ)]),(.agg [(.bool true),(.int .i64 0),(.str [])]),(.agg [(.bool false),(.int .i64 8),(.str (ap [82,0,0,0,0,0,2] (ap qZ (ap [3] (ap qY [57,82,197,34,82])))))]),(.agg [(.bool true),(.int .i64 0),(.str [])])] false),(.int .i64 13)]
def r44:AV:=(.tup [(.agg [(.lst 1 (ap [(.str (ap [82,0,0,0,0,0,1] (ap qZ (ap [2] (ap qY [37,225,150,127,82])))))] (ap (rpt 7 (.str qQ)) (ap [(.str (ap [82,0,0,0,0,0,2] (ap qZ (ap [3] (ap qY [57,82,197,34,82])))))] (ap (rpt 7 (.str qQ)) (ap [(.str (ap [85,3,0,0,0,2,0,0,0,0,0,2,0,0,0,0,0,1,97] qX))] (ap (rpt 6 (.str qQ)) (ap [(.str (ap qW [39,6,160,245]))] (rpt 8 (.str qQ))))))))) false),(.lst 0 [] true),(.lst 0 [] true)]),(.int .i64 0)])
def e44:Ent:=(27,a44,r44)
theorem run44:CN Tryz.prog (cfgT [e4,e21,e23,e25,e26,e28,e30,e32,e34,e36,e38,e40,e42,e43]) 60 27 a44 []=some (.ret r44,[]):=by kernel_rfl
theorem ok44:zal Tryz.prog 27 a44 (.ret r44):=zak (zas (l:=[e4,e21,e23,e25,e26,e28,e30,e32,e34,e36,e38,e40,e42,e43]) ⟨ok4,ok21,ok23,ok25,ok26,ok28,ok30,ok32,ok34,ok36,ok38,ok40,ok42,ok43,trivial⟩) rfl run44
def a45:List AV:=[(.agg (ap [(.int .i64 0),(.int .i64 0),(.int .i64 0)] (ap (rpt 16 (.int .u8 0)) [(.int .i64 0),(.int .i64 0)])))]
def r45:AV:=(.int .i64 2)
def e45:Ent:=(19,a45,r45)
theorem run45:CN Tryz.prog (cfgT []) 60 19 a45 []=some (.ret r45,[]):=by kernel_rfl
theorem ok45:zal Tryz.prog 19 a45 (.ret r45):=zak (zas (l:=[]) trivial) rfl run45
def a46:List AV:=[(.str qQ)]
def r46:AV:=(.tup [(.agg (ap [(.int .i64 0),(.int .i64 0),(.int .i64 0)] (ap (rpt 16 (.int .u8 0)) [(.int .i64 0),(.int .i64 0)]))),(.int .i64 8)])
def e46:Ent:=(17,a46,r46)
theorem run46:CN Tryz.prog (cfgT [e45]) 60 17 a46 []=some (.ret r46,[]):=by kernel_rfl
theorem ok46:zal Tryz.prog 17 a46 (.ret r46):=zak (zas (l:=[e45]) ⟨ok45,trivial⟩) rfl run46
def a47:List AV:=[(.agg [(.lst 1 (ap [(.str (ap [82,0,0,0,0,0,1] (ap qZ (ap [2] (ap qY [37,225,150,127,82])))))] (rpt 31 (.str qQ))) false),(.lst 0 [] true),(.lst 0 [] true)]),(.int .i64 8),(.int .i64 1)]
def r47:AV:=(.tup [(.str qQ),(.int .i64 0)])
def e47:Ent:=(161,a47,r47)
theorem run47:CN Tryz.prog (cfgT [e4]) 60 161 a47 []=some (.ret r47,[]):=by kernel_rfl
theorem ok47:zal Tryz.prog 161 a47 (.ret r47):=zak (zas (l:=[e4]) ⟨ok4,trivial⟩) rfl run47
def a48:List AV:=[(.agg [(.lst 1 (ap [(.str (ap [82,0,0,0,0,0,1] (ap qZ (ap [2] (ap qY [37,225,150,127,82])))))] (rpt 31 (.str qQ))) false),(.lst 0 [] true),(.lst 0 [] true)]),(.int .i64 0),(.int .i64 1)]
def r48:AV:=(.tup [(.str (ap [82,0,0,0,0,0,1] (ap qZ (ap [2] (ap qY [37,225,150,127,82]))))),(.int .i64 0)])
def e48:Ent:=(161,a48,r48)
theorem run48:CN Tryz.prog (cfgT [e4]) 60 161 a48 []=some (.ret r48,[]):=by kernel_rfl
theorem ok48:zal Tryz.prog 161 a48 (.ret r48):=zak (zas (l:=[e4]) ⟨ok4,trivial⟩) rfl run48
def a49:List AV:=[(.agg [(.lst 1 (ap [(.str (ap [82,0,0,0,0,0,1] (ap qZ (ap [2] (ap qY [37,225,150,127,82])))))] (rpt 31 (.str qQ))) false),(.lst 0 [] true),(.lst 0 [] true)]),(.lst 10 [(.agg [(.int .i64 3),(.int .i64 2),(.int .i64 2),(.int .i64 0),(.int .i64 0),(.bool false),(.lst 0 [] true),(.int .i64 0),(.str [97]),(.lst 0 [] true)])] true),(.agg (ap [(.int .i64 2),(.int .i64 0),(.int .i64 0)] (ap (rpt 16 (.int .u8 0)) [(.int .i64 0),(.int .i64 3)])))]
def r49:AV:=(.tup [(.lst 3 [(.agg [(.bool false),(.int .i64 16),(.str (ap [85,3,0,0,0,2,0,0,0,0,0,2,0,0,0,0,0,1,97] qX))]),(.agg [(.bool false),(.int .i64 17),(.str qQ)]),(.agg [(.bool false),(.int .i64 18),(.str qQ)]),(.agg [(.bool false),(.int .i64 19),(.str qQ)]),(.agg [(.bool false),(.int .i64 20),(.str qQ)]),(.agg [(.bool false),(.int .i64 21),(.str qQ)]),(.agg [(.bool false),(.int .i64 22),(.str qQ)]),(.agg [(.bool false),(.int .i64 23),(.str (ap qW [39,6,160,245]))]),(.agg [(.bool true),(.int .i64 0),(.str [])]),(.agg [(.bool false),(.int .i64 8),(.str qQ)]),(.agg [(.bool true),(.int .i64 0),(.str [])]),(.agg [(.bool false),(.int .i64 8),(.str (ap [82,0,0,0,0,0,2] (ap qZ (ap [3] (ap qY [57,82,197,34,82])))))]),(.agg [(.bool true),(.int .i64 0),(.str [])])] false),(.int .i64 0)])
def e49:Ent:=(23,a49,r49)
theorem run49:CN Tryz.prog (cfgT [e1,e2,e4,e7,e8,e17,e46,e47,e48]) 60 23 a49 []=some (.ret r49,[]):=by kernel_rfl
theorem ok49:zal Tryz.prog 23 a49 (.ret r49):=zak (zas (l:=[e1,e2,e4,e7,e8,e17,e46,e47,e48]) ⟨ok1,ok2,ok4,ok7,ok8,ok17,ok46,ok47,ok48,trivial⟩) rfl run49
def a50:List AV:=[(.agg [(.lst 1 (ap [(.str (ap [82,0,0,0,0,0,1] (ap qZ (ap [2] (ap qY [37,225,150,127,82])))))] (rpt 31 (.str qQ))) false),(.lst 0 [] true),(.lst 0 [] true)]),(.lst 10 [(.agg [(.int .i64 3),(.int .i64 2),(.int .i64 2),(.int .i64 0),(.int .i64 0),(.bool false),(.lst 0 [] true),(.int .i64 0),(.str [97]),(.lst 0 [] true)])] true),(.agg (ap [(.int .i64 2),(.int .i64 0),(.int .i64 0)] (ap (rpt 16 (.int .u8 0)) [(.int .i64 0),(.int .i64 3)])))]
def r50:AV:=(.tup [(.agg [(.lst 1 (ap [(.str (ap [82,0,0,0,0,0,1] (ap qZ (ap [2] (ap qY [37,225,150,127,82])))))] (ap (rpt 7 (.str qQ)) (ap [(.str (ap [82,0,0,0,0,0,2] (ap qZ (ap [3] (ap qY [57,82,197,34,82])))))] (ap (rpt 7 (.str qQ)) (ap [(.str (ap [85,3,0,0,0,2,0,0,0,0,0,2,0,0,0,0,0,1,97] qX))] (ap (rpt 6 (.str qQ)) (ap [(.str (ap qW [39,6,160,245]))] (rpt 8 (.str qQ))))))))) false),(.lst 0 [] true),(.lst 0 [] true)]),(.int .i64 0)])
def e50:Ent:=(25,a50,r50)
theorem run50:CN Tryz.prog (cfgT [e44,e49]) 60 25 a50 []=some (.ret r50,[]):=by kernel_rfl
theorem ok50:zal Tryz.prog 25 a50 (.ret r50):=zak (zas (l:=[e44,e49]) ⟨ok44,ok49,trivial⟩) rfl run50
def a51:List AV:=[(.agg [(.lst 1 (ap [(.str (ap [82,0,0,0,0,0,1] (ap qZ (ap [2] (ap qY [37,225,150,127,82])))))] (rpt 31 (.str qQ))) false),(.lst 0 [] true),(.lst 0 [] true)])]
def r51:AV:=(.tup [(.int .i64 1),(.int .i64 0)])
def e51:Ent:=(47,a51,r51)
theorem run51:CN Tryz.prog (cfgT [e4,e17,e46,e47,e48]) 60 47 a51 []=some (.ret r51,[]):=by kernel_rfl
theorem ok51:zal Tryz.prog 47 a51 (.ret r51):=zak (zas (l:=[e4,e17,e46,e47,e48]) ⟨ok4,ok17,ok46,ok47,ok48,trivial⟩) rfl run51
def a52:List AV:=[(.agg [(.lst 1 (ap [(.str (ap [82,0,0,0,0,0,1] (ap qZ (ap [2] (ap qY [37,225,150,127,82])))))] (rpt 31 (.str qQ))) false),(.lst 0 [] true),(.lst 0 [] true)])]
def r52:AV:=(.tup [(.agg (ap [(.int .i64 1),(.int .i64 0),(.int .i64 0)] (ap (rpt 16 (.int .u8 0)) [(.int .i64 0),(.int .i64 2)]))),(.int .i64 0)])
def e52:Ent:=(45,a52,r52)
theorem run52:CN Tryz.prog (cfgT [e4,e17,e46,e47,e48]) 60 45 a52 []=some (.ret r52,[]):=by kernel_rfl
theorem ok52:zal Tryz.prog 45 a52 (.ret r52):=zak (zas (l:=[e4,e17,e46,e47,e48]) ⟨ok4,ok17,ok46,ok47,ok48,trivial⟩) rfl run52
def a53:List AV:=[(.agg [(.lst 1 (ap [(.str (ap [82,0,0,0,0,0,1] (ap qZ (ap [2] (ap qY [37,225,150,127,82])))))] (rpt 31 (.str qQ))) false),(.lst 0 [] true),(.lst 0 [] true)])]
def r53:AV:=(.tup [(.int .i64 4),(.int .i64 0)])
def e53:Ent:=(38,a53,r53)
theorem run53:CN Tryz.prog (cfgT [e4]) 60 38 a53 []=some (.ret r53,[]):=by kernel_rfl
theorem ok53:zal Tryz.prog 38 a53 (.ret r53):=zak (zas (l:=[e4]) ⟨ok4,trivial⟩) rfl run53
def a54:List AV:=[(.agg (ap [(.int .i64 1),(.int .i64 0),(.int .i64 0)] (ap (rpt 16 (.int .u8 0)) [(.int .i64 0),(.int .i64 2)])))]
def r54:AV:=(.tup [(.str (ap [82,0,0,0,0,0,1] (ap qZ (ap [2] (ap qY [37,225,150,127,82]))))),(.int .i64 0)])
def e54:Ent:=(15,a54,r54)
theorem run54:CN Tryz.prog (cfgT [e15,e16]) 60 15 a54 []=some (.ret r54,[]):=by kernel_rfl
theorem ok54:zal Tryz.prog 15 a54 (.ret r54):=zak (zas (l:=[e15,e16]) ⟨ok15,ok16,trivial⟩) rfl run54
def a55:List AV:=[(.int .i64 4)]
def r55:AV:=(.tup [(.agg [(.lst 1 (ap [(.str (ap [82,0,0,0,0,0,1] (ap qZ (ap [2] (ap qY [37,225,150,127,82])))))] (rpt 31 (.str qQ))) false),(.lst 0 [] true),(.lst 0 [] true)]),(.int .i64 0)])
def e55:Ent:=(52,a55,r55)
theorem run55:CN Tryz.prog (cfgT [e54]) 60 52 a55 []=some (.ret r55,[]):=by kernel_rfl
theorem ok55:zal Tryz.prog 52 a55 (.ret r55):=zak (zas (l:=[e54]) ⟨ok54,trivial⟩) rfl run55
def a56:List AV:=[]
def r56:AV:=(.bool true)
theorem run56:CN Tryz.prog (cfgT [e2,e6,e12,e19,e49,e50,e51,e52,e53,e55]) 60 14 a56 []=some (.ret r56,[]):=by kernel_rfl
theorem ok56:zal Tryz.prog 14 a56 (.ret r56):=zak (zas (l:=[e2,e6,e12,e19,e49,e50,e51,e52,e53,e55]) ⟨ok2,ok6,ok12,ok19,ok49,ok50,ok51,ok52,ok53,ok55,trivial⟩) rfl run56
theorem zxx:zal Tryz.prog 14 [] (.ret (.bool true)):=ok56
theorem zvc:∀ f args v,cfg0.sum f args=some v → zal Tryz.prog f args (.ret v):=fun f args v h=>by
 change sum0 f args=some v at h
 unfold sum0 at h
 cases hf:Nat.beq f 14 with
 | false=>rw [hf] at h;exact zm6 f args v h
 | true =>
  rw [hf] at h
  have:f=14:=Nat.eq_of_beq_eq_true hf
  subst this
  simp only [cond] at h
  split at h
  ·cases h;exact zxx
  ·cases h
theorem z54:z1u Tryz.prog cfg0:=⟨zvc,z66 _⟩
end Go.Proofs
namespace Go.Proofs
open Go Go.Abs Go.ChangeShapes Go.WideShapes Go.ChangeAt Go.RowKit
set_option maxRecDepth 100000 in
theorem zl9 {H:Type}{enc:TypeId × Value → H}{W:World}{base:Nat}{args:Array Value}{ds gs:List (DataW H)}{before:List MemPlace}
  (hval:∀ (j:Nat) t v,Tryz.f8.params[j]?=some t → args[j]?=some v → Value.okWide Tryz.prog W .any base t v)
  (hW:DataW.Whole enc Tryz.prog Tryz.f8.params.toList [] false W args.toList ds gs before):∃ xs:List AV,VRs (zfo W) noBM xs args.toList ∧ zal Tryz.prog 8 xs (.ret (.bool true)):=by
 obtain ⟨p,q,hA0,_⟩:=hW
 have hA:DataW.TrodAll enc Tryz.prog W 0 (fun _=>true) true [46,3,3] args.toList ds p:=hA0
 rw [show Tryz.f8.params=#[46,3,3] by kernel_rfl] at hval
 obtain ⟨args⟩:=args
 simp only at hA
 obtain ⟨v0,vs0,d0,ds0,p0,q0,rfl,rfl,rfl,⟨_,h0⟩,r0⟩:=trodAll_cons hA
 obtain ⟨v1,vs1,d1,ds1,p1,q1,rfl,rfl,rfl,⟨_,h1⟩,r1⟩:=trodAll_cons r0
 obtain ⟨v2,vs2,d2,ds2,p2,q2,rfl,rfl,rfl,⟨_,h2⟩,r2⟩:=trodAll_cons r1
 obtain ⟨rfl,rfl,rfl⟩:=trodAll_nil r2
 obtain ⟨_,tD0,_⟩:=z45
 obtain ⟨c0,rfl,_⟩:=okWide_struct tD0 (hval 0 _ v0 rfl rfl)
 obtain ⟨dk0,g0,ok0⟩:=z6t h0
 obtain ⟨k1,rfl⟩:=okWide_int ty3 (hval 1 3 v1 rfl rfl)
 obtain ⟨k2,rfl⟩:=okWide_int ty3 (hval 2 3 v2 rfl rfl)
 have f0:VR (zfo W) noBM dk0.av (.agg c0):=by unfold Dk.av VR;exact ⟨c0,rfl,g0⟩
 have f1:VR (zfo W) noBM (i64 k1) (.int .i64 k1):=by unfold VR;rfl
 have f2:VR (zfo W) noBM (i64 k2) (.int .i64 k2):=by unfold VR;rfl
 refine ⟨[dk0.av,i64 k1,i64 k2],@zj5 _ _ [_] _ [_] _ (zg3 f0) (@zj5 _ _ [_] _ [_] _ (zg3 f1) (zg3 f2)),?_⟩
 exact zak (n:=20) z54 rfl (zq9 (by omega) dk0 ok0 k1 k2)
set_option maxRecDepth 100000 in
theorem zkl (os:Os) (started:os.Started) (H:Type) (enc:TypeId × Value → H) :
  ReturnsInHanded {} Tryz.checked os 8 .any (YtalaebjjleddaaaGreat.Rows.fileReadsSpec.pre6 enc Tryz.prog Tryz.f8 YtalaebjjleddaaaGreat.Rows.fileReadsRow.domain false) (YtalaebjjleddaaaGreat.Rows.fileReadsSpec.post enc Tryz.prog Tryz.f8 false true false false):=by
 refine returnsInHanded_of_change (C:=Tryz.checked) own started (by kernel_rfl) Tryz.func8
  (ChangeSpec.witness6 (enc:=enc) (C:=Tryz.checked) false ⟨#[],#[.agg #[.slice none 0 0,.slice none 0 0,.slice none 0 0],.int .i64 0,.int .i64 0],[]⟩ 8 (by kernel_rfl) (by kernel_rfl) (by kernel_rfl) (by kernel_rfl)) ?_
 intro W base args ds gs before hval hW _ _
 obtain ⟨xs,hv,hp⟩:=zl9 hval hW
 refine z37 laid (by kernel_rfl) (tb:=4) (by kernel_rfl) ty4 rfl (fun ds hd=>?_) hW hv hp
 match ds,hd with
 | [_,_,_],_=>rfl
end Go.Proofs
namespace Go.Proofs.YtalaebjjleddaaaGreat
open Go Go.Abs
noncomputable abbrev fileReads_P:Program:=Tryz.pinned.checked.prog
theorem zmw:(fileReads_P.mayEnter&&((Rows.fileReadsRow.lifted==fileReads_P.liftsFinal)&&(fileReads_P.make==some Rows.fileReadsRow.make)))=true:=by kernel_rfl
theorem zo5:((Rows.fileReadsRow.inPlace==fileReads_P.inPlace 8)&&((Rows.fileReadsRow.unfollowed==fileReads_P.unfollowed 8)&&((Rows.fileReadsRow.recurses==fileReads_P.recurses 8)&&(Rows.fileReadsRow.named==fileReads_P.varsNamed 8))))=true:=by kernel_rfl
theorem zkm:joinedFacts fileReads_P 8 Tryz.f8 Rows.fileReadsSpec Rows.fileReadsRow=true:=by
 have h1:=zmw
 have h2:=zo5
 simp only [Bool.and_eq_true] at h1 h2
 obtain ⟨p1,p2,p3⟩:=h1
 obtain ⟨p4,p5,p6,p7⟩:=h2
 unfold joinedFacts
 rw [p1,p2,p3,p4,p5,p6,p7]
 show (_:Bool)=true
 kernel_rfl
theorem zl8:fileReads_P.funcNamed Rows.fileReadsRow.func=some 8:=by kernel_rfl
theorem fileReads_holds:Rows.FileReadsSaid :=
 OpenClaim.holds_of_wide 8 Tryz.f8 rfl rfl rfl rfl rfl rfl rfl ⟨rfl,rfl,rfl,rfl,rfl⟩ rfl rfl rfl rfl rfl zl8 Tryz.func8 zkm
  (of_decide_eq_true (by kernel_rfl)) (by unfold Func.isWrapper;first | (rw [if_pos (by decide +kernel)];kernel_rfl) | (rw [if_neg (by decide +kernel)];exact ⟨rfl,rfl⟩))
  (fun os started H enc _=>zkl os started H enc)
#print axioms fileReads_holds
end Go.Proofs.YtalaebjjleddaaaGreat
