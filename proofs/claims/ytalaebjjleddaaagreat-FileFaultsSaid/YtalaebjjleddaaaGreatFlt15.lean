/- The law FileFaults: the row. -/
import Derived.Test.YtalaebjjleddaaaGreatFlt7
import Derived.Test.YtalaebjjleddaaaGreatFlt8
import Derived.Test.YtalaebjjleddaaaGreatFlt12
import Derived.Test.YtalaebjjleddaaaGreatFlt14
import Derived.Test.YtalaebjjleddaaaGreatRows
set_option linter.unusedVariables false
set_option linter.unusedSimpArgs false
namespace Go.Proofs
open Go Go.Abs
def rpt {α:Type}(n:Nat) (x:α):List α:=List.replicate n x
def ap {α:Type}(a b:List α):List α:=a++b
abbrev Ent:Type:=FuncId × List AV × AV
def tblS:List Ent → FuncId → List AV → Option AV
 | [],_,_=>none
 | e::r,f,args=>cond (Nat.beq e.1 f) (cond (zf6 e.2.1 args) (some e.2.2) (tblS r f args)) (tblS r f args)
def Oks:List Ent → Prop
 | []=>True
 | e::r=>zaj Tryz.prog e.1 e.2.1 (.ret e.2.2) ∧ Oks r
theorem zpk:∀ {l:List Ent},Oks l → ∀ f args v,tblS l f args=some v → zaj Tryz.prog f args (.ret v)
 | [],_,_,_,_,h=>by cases h
 | e::r,hk,f,args,v,h=>by
  unfold tblS at h
  cases h1:Nat.beq e.1 f with
  | false=>rw [h1] at h;exact zpk hk.2 f args v h
  | true =>
   rw [h1] at h
   cases h2:zf6 e.2.1 args with
   | false=>rw [h2] at h;exact zpk hk.2 f args v h
   | true =>
    rw [h2] at h
    cases h
    have e1:e.1=f:=Nat.eq_of_beq_eq_true h1
    have e2:=zc9 _ h2
    subst e1 e2
    exact hk.1
def sumT (l:List Ent) (f:FuncId) (args:List AV):Option AV:=match tblS l f args with
 | some v=>some v
 | none=>sum1 f args
def cfgT (l:List Ent):Cfg:=⟨inlA,sumT l,fun _ _ _=>none,fun _=>false⟩
theorem zam {l:List Ent}(h:Oks l):zx5 Tryz.prog (cfgT l):=⟨fun f args v e=>by
 change sumT l f args=some v at e
 unfold sumT at e
 split at e
 ·rename_i v' h1
  cases e
  exact zpk h f args _ h1
 ·exact zk0 f args v e,noMem _⟩
def a0:List AV:=[(.agg (ap [(.int .i64 2),(.int .i64 0),(.int .i64 0)] (ap (rpt 16 (.int .u8 0)) [(.int .i64 0),(.int .i64 3)])))]
def r0:AV:=(.agg (ap [(.int .u8 82),(.int .u8 0),(.int .u8 0),(.int .u8 0),(.int .u8 0),(.int .u8 0),(.int .u8 2)] (ap (rpt 31 (.int .u8 0)) (ap [(.int .u8 3)] (ap (rpt 20 (.int .u8 0)) [(.int .u8 57),(.int .u8 82),(.int .u8 197),(.int .u8 34),(.int .u8 82)])))))
def e0:Ent:=(59,a0,r0)
theorem run0:CN Tryz.prog (cfgT []) 60 59 a0 []=some (.ret r0,[]):=by kernel_rfl
theorem ok0:zaj Tryz.prog 59 a0 (.ret r0):=zai (zam (l:=[]) trivial) rfl run0
def a1:List AV:=[(.agg (ap [(.int .i64 2),(.int .i64 0),(.int .i64 0)] (ap (rpt 16 (.int .u8 0)) [(.int .i64 0),(.int .i64 3)])))]
def r1:AV:=(.int .i64 0)
def e1:Ent:=(19,a1,r1)
theorem run1:CN Tryz.prog (cfgT []) 60 19 a1 []=some (.ret r1,[]):=by kernel_rfl
theorem ok1:zaj Tryz.prog 19 a1 (.ret r1):=zai (zam (l:=[]) trivial) rfl run1
def a2:List AV:=[(.agg (ap [(.int .i64 2),(.int .i64 0),(.int .i64 0)] (ap (rpt 16 (.int .u8 0)) [(.int .i64 0),(.int .i64 3)])))]
def r2:AV:=(.tup [(.str (ap [82,0,0,0,0,0,2] (ap (rpt 31 0) (ap [3] (ap (rpt 20 0) [57,82,197,34,82]))))),(.int .i64 0)])
def e2:Ent:=(15,a2,r2)
theorem run2:CN Tryz.prog (cfgT [e0,e1]) 60 15 a2 []=some (.ret r2,[]):=by kernel_rfl
theorem ok2:zaj Tryz.prog 15 a2 (.ret r2):=zai (zam (l:=[e0,e1]) ⟨ok0,ok1,trivial⟩) rfl run2
def a3:List AV:=[(.str (rpt 512 0))]
def r3:AV:=(.tup [(.agg zPl),(.int .i64 8)])
def e3:Ent:=(162,a3,r3)
theorem run3:CN Tryz.prog (cfgT []) 60 162 a3 []=some (.ret r3,[]):=by kernel_rfl
theorem ok3:zaj Tryz.prog 162 a3 (.ret r3):=zai (zam (l:=[]) trivial) rfl run3
def a4:List AV:=[(.agg [(.lst 1 (ap [(.str (ap [82,0,0,0,0,0,1] (ap (rpt 31 0) (ap [2] (ap (rpt 20 0) [37,225,150,127,82])))))] (rpt 31 (.str (rpt 64 0)))) false),(.lst 0 [] true),(.lst 0 [] true)])]
def r4:AV:=(.int .i64 0)
def e4:Ent:=(121,a4,r4)
theorem run4:CN Tryz.prog (cfgT []) 60 121 a4 []=some (.ret r4,[]):=by kernel_rfl
theorem ok4:zaj Tryz.prog 121 a4 (.ret r4):=zai (zam (l:=[]) trivial) rfl run4
def a5:List AV:=[(.agg [(.lst 1 (ap [(.str (ap [82,0,0,0,0,0,1] (ap (rpt 31 0) (ap [2] (ap (rpt 20 0) [37,225,150,127,82])))))] (rpt 31 (.str (rpt 64 0)))) false),(.lst 0 [] true),(.lst 0 [] true)]),(.int .i64 16),(.int .i64 8)]
def r5:AV:=(.tup [(.str (rpt 512 0)),(.int .i64 0)])
def e5:Ent:=(161,a5,r5)
theorem run5:CN Tryz.prog (cfgT [e4]) 60 161 a5 []=some (.ret r5,[]):=by kernel_rfl
theorem ok5:zaj Tryz.prog 161 a5 (.ret r5):=zai (zam (l:=[e4]) ⟨ok4,trivial⟩) rfl run5
def a6:List AV:=[(.agg [(.lst 1 (ap [(.str (ap [82,0,0,0,0,0,1] (ap (rpt 31 0) (ap [2] (ap (rpt 20 0) [37,225,150,127,82])))))] (rpt 31 (.str (rpt 64 0)))) false),(.lst 0 [] true),(.lst 0 [] true)]),(.int .i64 2)]
def r6:AV:=(.tup [(.agg zPl),(.int .i64 8)])
def e6:Ent:=(33,a6,r6)
theorem run6:CN Tryz.prog (cfgT [e3,e4,e5]) 60 33 a6 []=some (.ret r6,[]):=by kernel_rfl
theorem ok6:zaj Tryz.prog 33 a6 (.ret r6):=zai (zam (l:=[e3,e4,e5]) ⟨ok3,ok4,ok5,trivial⟩) rfl run6
def a7:List AV:=[(.agg [(.int .i64 3),(.int .i64 2),(.int .i64 2),(.int .i64 0),(.int .i64 0),(.bool false),(.lst 0 [] true),(.int .i64 0),(.str [97]),(.lst 0 [] true)])]
def r7:AV:=(.int .i64 0)
def e7:Ent:=(143,a7,r7)
theorem run7:CN Tryz.prog (cfgT []) 60 143 a7 []=some (.ret r7,[]):=by kernel_rfl
theorem ok7:zaj Tryz.prog 143 a7 (.ret r7):=zai (zam (l:=[]) trivial) rfl run7
def a8:List AV:=[(.agg [(.int .i64 3),(.int .i64 2),(.int .i64 2),(.int .i64 0),(.int .i64 0),(.bool false),(.lst 0 [] true),(.int .i64 0),(.str [97]),(.lst 0 [] true)])]
def r8:AV:=(.tup [(.str (ap [85,3,0,0,0,2,0,0,0,0,0,2,0,0,0,0,0,1,97] (ap (rpt 489 0) [39,6,160,245]))),(.int .i64 0)])
def e8:Ent:=(119,a8,r8)
theorem run8:CN Tryz.prog (cfgT [e7]) 60 119 a8 []=some (.ret r8,[]):=by kernel_rfl
theorem ok8:zaj Tryz.prog 119 a8 (.ret r8):=zai (zam (l:=[e7]) ⟨ok7,trivial⟩) rfl run8
def a9:List AV:=[(.str (ap [85,3,0,0,0,2,0,0,0,0,0,2,0,0,0,0,0,1,97] (ap (rpt 489 0) [39,6,160,245])))]
def r9:AV:=(.tup [(.agg [(.int .i64 3),(.int .i64 2),(.int .i64 2),(.int .i64 0),(.int .i64 0),(.bool false),(.lst 0 [] true),(.int .i64 0),(.str [97]),(.lst 0 [] true)]),(.int .i64 0)])
def e9:Ent:=(162,a9,r9)
theorem run9:CN Tryz.prog (cfgT [e7,e8]) 60 162 a9 []=some (.ret r9,[]):=by kernel_rfl
theorem ok9:zaj Tryz.prog 162 a9 (.ret r9):=zai (zam (l:=[e7,e8]) ⟨ok7,ok8,trivial⟩) rfl run9
def a10:List AV:=[(.agg [(.lst 1 (ap [(.str (ap [82,0,0,0,0,0,1] (ap (rpt 31 0) (ap [2] (ap (rpt 20 0) [37,225,150,127,82])))))] (ap (rpt 7 (.str (rpt 64 0))) (ap [(.str (ap [82,0,0,0,0,0,2] (ap (rpt 31 0) (ap [3] (ap (rpt 20 0) [57,82,197,34,82])))))] (ap (rpt 7 (.str (rpt 64 0))) (ap [(.str (ap [85,3,0,0,0,2,0,0,0,0,0,2,0,0,0,0,0,1,97] (rpt 45 0)))] (ap (rpt 6 (.str (rpt 64 0))) (ap [(.str (ap (rpt 60 0) [39,6,160,245]))] (rpt 8 (.str (rpt 64 0)))))))))) false),(.lst 0 [] true),(.lst 0 [] true)])]
def r10:AV:=(.int .i64 0)
def e10:Ent:=(121,a10,r10)
theorem run10:CN Tryz.prog (cfgT []) 60 121 a10 []=some (.ret r10,[]):=by kernel_rfl
theorem ok10:zaj Tryz.prog 121 a10 (.ret r10):=zai (zam (l:=[]) trivial) rfl run10
def a11:List AV:=[(.agg [(.lst 1 (ap [(.str (ap [82,0,0,0,0,0,1] (ap (rpt 31 0) (ap [2] (ap (rpt 20 0) [37,225,150,127,82])))))] (ap (rpt 7 (.str (rpt 64 0))) (ap [(.str (ap [82,0,0,0,0,0,2] (ap (rpt 31 0) (ap [3] (ap (rpt 20 0) [57,82,197,34,82])))))] (ap (rpt 7 (.str (rpt 64 0))) (ap [(.str (ap [85,3,0,0,0,2,0,0,0,0,0,2,0,0,0,0,0,1,97] (rpt 45 0)))] (ap (rpt 6 (.str (rpt 64 0))) (ap [(.str (ap (rpt 60 0) [39,6,160,245]))] (rpt 8 (.str (rpt 64 0)))))))))) false),(.lst 0 [] true),(.lst 0 [] true)]),(.int .i64 16),(.int .i64 8)]
def r11:AV:=(.tup [(.str (ap [85,3,0,0,0,2,0,0,0,0,0,2,0,0,0,0,0,1,97] (ap (rpt 489 0) [39,6,160,245]))),(.int .i64 0)])
def e11:Ent:=(161,a11,r11)
theorem run11:CN Tryz.prog (cfgT [e10]) 60 161 a11 []=some (.ret r11,[]):=by kernel_rfl
theorem ok11:zaj Tryz.prog 161 a11 (.ret r11):=zai (zam (l:=[e10]) ⟨ok10,trivial⟩) rfl run11
def a12:List AV:=[(.agg [(.lst 1 (ap [(.str (ap [82,0,0,0,0,0,1] (ap (rpt 31 0) (ap [2] (ap (rpt 20 0) [37,225,150,127,82])))))] (ap (rpt 7 (.str (rpt 64 0))) (ap [(.str (ap [82,0,0,0,0,0,2] (ap (rpt 31 0) (ap [3] (ap (rpt 20 0) [57,82,197,34,82])))))] (ap (rpt 7 (.str (rpt 64 0))) (ap [(.str (ap [85,3,0,0,0,2,0,0,0,0,0,2,0,0,0,0,0,1,97] (rpt 45 0)))] (ap (rpt 6 (.str (rpt 64 0))) (ap [(.str (ap (rpt 60 0) [39,6,160,245]))] (rpt 8 (.str (rpt 64 0)))))))))) false),(.lst 0 [] true),(.lst 0 [] true)]),(.int .i64 2)]
def r12:AV:=(.tup [(.agg [(.int .i64 3),(.int .i64 2),(.int .i64 2),(.int .i64 0),(.int .i64 0),(.bool false),(.lst 0 [] true),(.int .i64 0),(.str [97]),(.lst 0 [] true)]),(.int .i64 0)])
def e12:Ent:=(33,a12,r12)
theorem run12:CN Tryz.prog (cfgT [e9,e10,e11]) 60 33 a12 []=some (.ret r12,[]):=by kernel_rfl
theorem ok12:zaj Tryz.prog 33 a12 (.ret r12):=zai (zam (l:=[e9,e10,e11]) ⟨ok9,ok10,ok11,trivial⟩) rfl run12
def a13:List AV:=[(.str (ap [82,0,0,0,0,0,2] (ap (rpt 31 0) (ap [3] (ap (rpt 20 0) [57,82,197,34,82])))))]
def r13:AV:=(.tup [(.agg (ap [(.int .i64 2),(.int .i64 0),(.int .i64 0)] (ap (rpt 16 (.int .u8 0)) [(.int .i64 0),(.int .i64 3)]))),(.int .i64 0)])
def e13:Ent:=(17,a13,r13)
theorem run13:CN Tryz.prog (cfgT [e0,e1]) 60 17 a13 []=some (.ret r13,[]):=by kernel_rfl
theorem ok13:zaj Tryz.prog 17 a13 (.ret r13):=zai (zam (l:=[e0,e1]) ⟨ok0,ok1,trivial⟩) rfl run13
def a14:List AV:=[(.agg [(.lst 1 (ap [(.str (ap [82,0,0,0,0,0,1] (ap (rpt 31 0) (ap [2] (ap (rpt 20 0) [37,225,150,127,82])))))] (ap (rpt 7 (.str (rpt 64 0))) (ap [(.str (ap [82,0,0,0,0,0,2] (ap (rpt 31 0) (ap [3] (ap (rpt 20 0) [57,82,197,34,82])))))] (ap (rpt 7 (.str (rpt 64 0))) (ap [(.str (ap [85,3,0,0,0,2,0,0,0,0,0,2,0,0,0,0,0,1,97] (rpt 45 0)))] (ap (rpt 6 (.str (rpt 64 0))) (ap [(.str (ap (rpt 60 0) [39,6,160,245]))] (rpt 8 (.str (rpt 64 0)))))))))) false),(.lst 0 [] true),(.lst 0 [] true)]),(.int .i64 8),(.int .i64 1)]
def r14:AV:=(.tup [(.str (ap [82,0,0,0,0,0,2] (ap (rpt 31 0) (ap [3] (ap (rpt 20 0) [57,82,197,34,82]))))),(.int .i64 0)])
def e14:Ent:=(161,a14,r14)
theorem run14:CN Tryz.prog (cfgT [e10]) 60 161 a14 []=some (.ret r14,[]):=by kernel_rfl
theorem ok14:zaj Tryz.prog 161 a14 (.ret r14):=zai (zam (l:=[e10]) ⟨ok10,trivial⟩) rfl run14
def a15:List AV:=[(.agg (ap [(.int .i64 1),(.int .i64 0),(.int .i64 0)] (ap (rpt 16 (.int .u8 0)) [(.int .i64 0),(.int .i64 2)])))]
def r15:AV:=(.agg (ap [(.int .u8 82),(.int .u8 0),(.int .u8 0),(.int .u8 0),(.int .u8 0),(.int .u8 0),(.int .u8 1)] (ap (rpt 31 (.int .u8 0)) (ap [(.int .u8 2)] (ap (rpt 20 (.int .u8 0)) [(.int .u8 37),(.int .u8 225),(.int .u8 150),(.int .u8 127),(.int .u8 82)])))))
def e15:Ent:=(59,a15,r15)
theorem run15:CN Tryz.prog (cfgT []) 60 59 a15 []=some (.ret r15,[]):=by kernel_rfl
theorem ok15:zaj Tryz.prog 59 a15 (.ret r15):=zai (zam (l:=[]) trivial) rfl run15
def a16:List AV:=[(.agg (ap [(.int .i64 1),(.int .i64 0),(.int .i64 0)] (ap (rpt 16 (.int .u8 0)) [(.int .i64 0),(.int .i64 2)])))]
def r16:AV:=(.int .i64 0)
def e16:Ent:=(19,a16,r16)
theorem run16:CN Tryz.prog (cfgT []) 60 19 a16 []=some (.ret r16,[]):=by kernel_rfl
theorem ok16:zaj Tryz.prog 19 a16 (.ret r16):=zai (zam (l:=[]) trivial) rfl run16
def a17:List AV:=[(.str (ap [82,0,0,0,0,0,1] (ap (rpt 31 0) (ap [2] (ap (rpt 20 0) [37,225,150,127,82])))))]
def r17:AV:=(.tup [(.agg (ap [(.int .i64 1),(.int .i64 0),(.int .i64 0)] (ap (rpt 16 (.int .u8 0)) [(.int .i64 0),(.int .i64 2)]))),(.int .i64 0)])
def e17:Ent:=(17,a17,r17)
theorem run17:CN Tryz.prog (cfgT [e15,e16]) 60 17 a17 []=some (.ret r17,[]):=by kernel_rfl
theorem ok17:zaj Tryz.prog 17 a17 (.ret r17):=zai (zam (l:=[e15,e16]) ⟨ok15,ok16,trivial⟩) rfl run17
def a18:List AV:=[(.agg [(.lst 1 (ap [(.str (ap [82,0,0,0,0,0,1] (ap (rpt 31 0) (ap [2] (ap (rpt 20 0) [37,225,150,127,82])))))] (ap (rpt 7 (.str (rpt 64 0))) (ap [(.str (ap [82,0,0,0,0,0,2] (ap (rpt 31 0) (ap [3] (ap (rpt 20 0) [57,82,197,34,82])))))] (ap (rpt 7 (.str (rpt 64 0))) (ap [(.str (ap [85,3,0,0,0,2,0,0,0,0,0,2,0,0,0,0,0,1,97] (rpt 45 0)))] (ap (rpt 6 (.str (rpt 64 0))) (ap [(.str (ap (rpt 60 0) [39,6,160,245]))] (rpt 8 (.str (rpt 64 0)))))))))) false),(.lst 0 [] true),(.lst 0 [] true)]),(.int .i64 0),(.int .i64 1)]
def r18:AV:=(.tup [(.str (ap [82,0,0,0,0,0,1] (ap (rpt 31 0) (ap [2] (ap (rpt 20 0) [37,225,150,127,82]))))),(.int .i64 0)])
def e18:Ent:=(161,a18,r18)
theorem run18:CN Tryz.prog (cfgT [e10]) 60 161 a18 []=some (.ret r18,[]):=by kernel_rfl
theorem ok18:zaj Tryz.prog 161 a18 (.ret r18):=zai (zam (l:=[e10]) ⟨ok10,trivial⟩) rfl run18
def a19:List AV:=[(.agg [(.lst 1 (ap [(.str (ap [82,0,0,0,0,0,1] (ap (rpt 31 0) (ap [2] (ap (rpt 20 0) [37,225,150,127,82])))))] (ap (rpt 7 (.str (rpt 64 0))) (ap [(.str (ap [82,0,0,0,0,0,2] (ap (rpt 31 0) (ap [3] (ap (rpt 20 0) [57,82,197,34,82])))))] (ap (rpt 7 (.str (rpt 64 0))) (ap [(.str (ap [85,3,0,0,0,2,0,0,0,0,0,2,0,0,0,0,0,1,97] (rpt 45 0)))] (ap (rpt 6 (.str (rpt 64 0))) (ap [(.str (ap (rpt 60 0) [39,6,160,245]))] (rpt 8 (.str (rpt 64 0)))))))))) false),(.lst 0 [] true),(.lst 0 [] true)])]
def r19:AV:=(.tup [(.agg (ap [(.int .i64 2),(.int .i64 0),(.int .i64 0)] (ap (rpt 16 (.int .u8 0)) [(.int .i64 0),(.int .i64 3)]))),(.int .i64 0)])
def e19:Ent:=(45,a19,r19)
theorem run19:CN Tryz.prog (cfgT [e10,e13,e14,e17,e18]) 60 45 a19 []=some (.ret r19,[]):=by kernel_rfl
theorem ok19:zaj Tryz.prog 45 a19 (.ret r19):=zai (zam (l:=[e10,e13,e14,e17,e18]) ⟨ok10,ok13,ok14,ok17,ok18,trivial⟩) rfl run19
def a20:List AV:=[(.agg [(.lst 1 (ap [(.str (ap [82,0,0,0,0,0,1] (ap (rpt 31 0) (ap [2] (ap (rpt 20 0) [37,225,150,127,82])))))] (ap (rpt 15 (.str (rpt 64 0))) (ap [(.str (ap [85,3,0,0,0,2,0,0,0,0,0,2,0,0,0,0,0,1,97] (rpt 45 0)))] (ap (rpt 6 (.str (rpt 64 0))) (ap [(.str (ap (rpt 60 0) [39,6,160,245]))] (rpt 8 (.str (rpt 64 0)))))))) false),(.lst 2 [(.agg [(.int .i64 8),(.str (ap [82,0,0,0,0,0,2] (ap (rpt 31 0) (ap [3] (ap (rpt 20 0) [57,82,197,34,82])))))])] false),(.lst 0 [] true)])]
def r20:AV:=(.int .i64 0)
def e20:Ent:=(121,a20,r20)
theorem run20:CN Tryz.prog (cfgT []) 60 121 a20 []=some (.ret r20,[]):=by kernel_rfl
theorem ok20:zaj Tryz.prog 121 a20 (.ret r20):=zai (zam (l:=[]) trivial) rfl run20
def a21:List AV:=[(.agg [(.lst 1 (ap [(.str (ap [82,0,0,0,0,0,1] (ap (rpt 31 0) (ap [2] (ap (rpt 20 0) [37,225,150,127,82])))))] (ap (rpt 15 (.str (rpt 64 0))) (ap [(.str (ap [85,3,0,0,0,2,0,0,0,0,0,2,0,0,0,0,0,1,97] (rpt 45 0)))] (ap (rpt 6 (.str (rpt 64 0))) (ap [(.str (ap (rpt 60 0) [39,6,160,245]))] (rpt 8 (.str (rpt 64 0)))))))) false),(.lst 2 [(.agg [(.int .i64 8),(.str (ap [82,0,0,0,0,0,2] (ap (rpt 31 0) (ap [3] (ap (rpt 20 0) [57,82,197,34,82])))))])] false),(.lst 0 [] true)])]
def r21:AV:=(.agg [(.lst 1 (ap [(.str (ap [82,0,0,0,0,0,1] (ap (rpt 31 0) (ap [2] (ap (rpt 20 0) [37,225,150,127,82])))))] (ap (rpt 7 (.str (rpt 64 0))) (ap [(.str (ap [82,0,0,0,0,0,2] (ap (rpt 31 0) (ap [3] (ap (rpt 20 0) [57,82,197,34,82])))))] (ap (rpt 7 (.str (rpt 64 0))) (ap [(.str (ap [85,3,0,0,0,2,0,0,0,0,0,2,0,0,0,0,0,1,97] (rpt 45 0)))] (ap (rpt 6 (.str (rpt 64 0))) (ap [(.str (ap (rpt 60 0) [39,6,160,245]))] (rpt 8 (.str (rpt 64 0)))))))))) false),(.lst 0 [] true),(.lst 0 [] true)])
def e21:Ent:=(51,a21,r21)
theorem run21:CN Tryz.prog (cfgT [e20]) 60 51 a21 []=some (.ret r21,[]):=by kernel_rfl
theorem ok21:zaj Tryz.prog 51 a21 (.ret r21):=zai (zam (l:=[e20]) ⟨ok20,trivial⟩) rfl run21
def a22:List AV:=[(.agg [(.lst 1 (ap [(.str (ap [82,0,0,0,0,0,1] (ap (rpt 31 0) (ap [2] (ap (rpt 20 0) [37,225,150,127,82])))))] (ap (rpt 15 (.str (rpt 64 0))) (ap [(.str (ap [85,3,0,0,0,2,0,0,0,0,0,2,0,0,0,0,0,1,97] (rpt 45 0)))] (ap (rpt 6 (.str (rpt 64 0))) (ap [(.str (ap (rpt 60 0) [39,6,160,245]))] (rpt 8 (.str (rpt 64 0)))))))) false),(.lst 0 [] true),(.lst 0 [] true)])]
def r22:AV:=(.int .i64 0)
def e22:Ent:=(121,a22,r22)
theorem run22:CN Tryz.prog (cfgT []) 60 121 a22 []=some (.ret r22,[]):=by kernel_rfl
theorem ok22:zaj Tryz.prog 121 a22 (.ret r22):=zai (zam (l:=[]) trivial) rfl run22
def a23:List AV:=[(.agg [(.lst 1 (ap [(.str (ap [82,0,0,0,0,0,1] (ap (rpt 31 0) (ap [2] (ap (rpt 20 0) [37,225,150,127,82])))))] (ap (rpt 15 (.str (rpt 64 0))) (ap [(.str (ap [85,3,0,0,0,2,0,0,0,0,0,2,0,0,0,0,0,1,97] (rpt 45 0)))] (ap (rpt 6 (.str (rpt 64 0))) (ap [(.str (ap (rpt 60 0) [39,6,160,245]))] (rpt 8 (.str (rpt 64 0)))))))) false),(.lst 0 [] true),(.lst 0 [] true)]),(.int .i64 8),(.str (ap [82,0,0,0,0,0,2] (ap (rpt 31 0) (ap [3] (ap (rpt 20 0) [57,82,197,34,82])))))]
def r23:AV:=(.tup [(.agg [(.lst 1 (ap [(.str (ap [82,0,0,0,0,0,1] (ap (rpt 31 0) (ap [2] (ap (rpt 20 0) [37,225,150,127,82])))))] (ap (rpt 15 (.str (rpt 64 0))) (ap [(.str (ap [85,3,0,0,0,2,0,0,0,0,0,2,0,0,0,0,0,1,97] (rpt 45 0)))] (ap (rpt 6 (.str (rpt 64 0))) (ap [(.str (ap (rpt 60 0) [39,6,160,245]))] (rpt 8 (.str (rpt 64 0)))))))) false),(.lst 2 [(.agg [(.int .i64 8),(.str (ap [82,0,0,0,0,0,2] (ap (rpt 31 0) (ap [3] (ap (rpt 20 0) [57,82,197,34,82])))))])] false),(.lst 0 [] true)]),(.int .i64 0)])
def e23:Ent:=(182,a23,r23)
theorem run23:CN Tryz.prog (cfgT [e22]) 60 182 a23 []=some (.ret r23,[]):=by kernel_rfl
theorem ok23:zaj Tryz.prog 182 a23 (.ret r23):=zai (zam (l:=[e22]) ⟨ok22,trivial⟩) rfl run23
def a24:List AV:=[(.agg [(.lst 1 (ap [(.str (ap [82,0,0,0,0,0,1] (ap (rpt 31 0) (ap [2] (ap (rpt 20 0) [37,225,150,127,82])))))] (ap (rpt 15 (.str (rpt 64 0))) (ap [(.str (ap [85,3,0,0,0,2,0,0,0,0,0,2,0,0,0,0,0,1,97] (rpt 45 0)))] (ap (rpt 6 (.str (rpt 64 0))) (ap [(.str (ap (rpt 60 0) [39,6,160,245]))] (rpt 8 (.str (rpt 64 0)))))))) false),(.lst 2 [(.agg [(.int .i64 8),(.str (rpt 64 0))])] false),(.lst 0 [] true)])]
def r24:AV:=(.int .i64 0)
def e24:Ent:=(121,a24,r24)
theorem run24:CN Tryz.prog (cfgT []) 60 121 a24 []=some (.ret r24,[]):=by kernel_rfl
theorem ok24:zaj Tryz.prog 121 a24 (.ret r24):=zai (zam (l:=[]) trivial) rfl run24
def a25:List AV:=[(.agg [(.lst 1 (ap [(.str (ap [82,0,0,0,0,0,1] (ap (rpt 31 0) (ap [2] (ap (rpt 20 0) [37,225,150,127,82])))))] (ap (rpt 15 (.str (rpt 64 0))) (ap [(.str (ap [85,3,0,0,0,2,0,0,0,0,0,2,0,0,0,0,0,1,97] (rpt 45 0)))] (ap (rpt 6 (.str (rpt 64 0))) (ap [(.str (ap (rpt 60 0) [39,6,160,245]))] (rpt 8 (.str (rpt 64 0)))))))) false),(.lst 2 [(.agg [(.int .i64 8),(.str (rpt 64 0))])] false),(.lst 0 [] true)])]
def r25:AV:=(.agg [(.lst 1 (ap [(.str (ap [82,0,0,0,0,0,1] (ap (rpt 31 0) (ap [2] (ap (rpt 20 0) [37,225,150,127,82])))))] (ap (rpt 15 (.str (rpt 64 0))) (ap [(.str (ap [85,3,0,0,0,2,0,0,0,0,0,2,0,0,0,0,0,1,97] (rpt 45 0)))] (ap (rpt 6 (.str (rpt 64 0))) (ap [(.str (ap (rpt 60 0) [39,6,160,245]))] (rpt 8 (.str (rpt 64 0)))))))) false),(.lst 0 [] true),(.lst 0 [] true)])
def e25:Ent:=(51,a25,r25)
theorem run25:CN Tryz.prog (cfgT [e24]) 60 51 a25 []=some (.ret r25,[]):=by kernel_rfl
theorem ok25:zaj Tryz.prog 51 a25 (.ret r25):=zai (zam (l:=[e24]) ⟨ok24,trivial⟩) rfl run25
def a26:List AV:=[(.agg [(.lst 1 (ap [(.str (ap [82,0,0,0,0,0,1] (ap (rpt 31 0) (ap [2] (ap (rpt 20 0) [37,225,150,127,82])))))] (ap (rpt 15 (.str (rpt 64 0))) (ap [(.str (ap [85,3,0,0,0,2,0,0,0,0,0,2,0,0,0,0,0,1,97] (rpt 45 0)))] (ap (rpt 6 (.str (rpt 64 0))) (ap [(.str (ap (rpt 60 0) [39,6,160,245]))] (rpt 8 (.str (rpt 64 0)))))))) false),(.lst 0 [] true),(.lst 0 [] true)]),(.int .i64 8),(.str (rpt 64 0))]
def r26:AV:=(.tup [(.agg [(.lst 1 (ap [(.str (ap [82,0,0,0,0,0,1] (ap (rpt 31 0) (ap [2] (ap (rpt 20 0) [37,225,150,127,82])))))] (ap (rpt 15 (.str (rpt 64 0))) (ap [(.str (ap [85,3,0,0,0,2,0,0,0,0,0,2,0,0,0,0,0,1,97] (rpt 45 0)))] (ap (rpt 6 (.str (rpt 64 0))) (ap [(.str (ap (rpt 60 0) [39,6,160,245]))] (rpt 8 (.str (rpt 64 0)))))))) false),(.lst 2 [(.agg [(.int .i64 8),(.str (rpt 64 0))])] false),(.lst 0 [] true)]),(.int .i64 0)])
def e26:Ent:=(182,a26,r26)
theorem run26:CN Tryz.prog (cfgT [e22]) 60 182 a26 []=some (.ret r26,[]):=by kernel_rfl
theorem ok26:zaj Tryz.prog 182 a26 (.ret r26):=zai (zam (l:=[e22]) ⟨ok22,trivial⟩) rfl run26
def a27:List AV:=[(.agg [(.lst 1 (ap [(.str (ap [82,0,0,0,0,0,1] (ap (rpt 31 0) (ap [2] (ap (rpt 20 0) [37,225,150,127,82])))))] (rpt 31 (.str (rpt 64 0)))) false),(.lst 2 [(.agg [(.int .i64 16),(.str (ap [85,3,0,0,0,2,0,0,0,0,0,2,0,0,0,0,0,1,97] (rpt 45 0)))]),(.agg [(.int .i64 17),(.str (rpt 64 0))]),(.agg [(.int .i64 18),(.str (rpt 64 0))]),(.agg [(.int .i64 19),(.str (rpt 64 0))]),(.agg [(.int .i64 20),(.str (rpt 64 0))]),(.agg [(.int .i64 21),(.str (rpt 64 0))]),(.agg [(.int .i64 22),(.str (rpt 64 0))]),(.agg [(.int .i64 23),(.str (ap (rpt 60 0) [39,6,160,245]))])] false),(.lst 0 [] true)])]
def r27:AV:=(.int .i64 0)
def e27:Ent:=(121,a27,r27)
theorem run27:CN Tryz.prog (cfgT []) 60 121 a27 []=some (.ret r27,[]):=by kernel_rfl
theorem ok27:zaj Tryz.prog 121 a27 (.ret r27):=zai (zam (l:=[]) trivial) rfl run27
def a28:List AV:=[(.agg [(.lst 1 (ap [(.str (ap [82,0,0,0,0,0,1] (ap (rpt 31 0) (ap [2] (ap (rpt 20 0) [37,225,150,127,82])))))] (rpt 31 (.str (rpt 64 0)))) false),(.lst 2 [(.agg [(.int .i64 16),(.str (ap [85,3,0,0,0,2,0,0,0,0,0,2,0,0,0,0,0,1,97] (rpt 45 0)))]),(.agg [(.int .i64 17),(.str (rpt 64 0))]),(.agg [(.int .i64 18),(.str (rpt 64 0))]),(.agg [(.int .i64 19),(.str (rpt 64 0))]),(.agg [(.int .i64 20),(.str (rpt 64 0))]),(.agg [(.int .i64 21),(.str (rpt 64 0))]),(.agg [(.int .i64 22),(.str (rpt 64 0))]),(.agg [(.int .i64 23),(.str (ap (rpt 60 0) [39,6,160,245]))])] false),(.lst 0 [] true)])]
def r28:AV:=(.agg [(.lst 1 (ap [(.str (ap [82,0,0,0,0,0,1] (ap (rpt 31 0) (ap [2] (ap (rpt 20 0) [37,225,150,127,82])))))] (ap (rpt 15 (.str (rpt 64 0))) (ap [(.str (ap [85,3,0,0,0,2,0,0,0,0,0,2,0,0,0,0,0,1,97] (rpt 45 0)))] (ap (rpt 6 (.str (rpt 64 0))) (ap [(.str (ap (rpt 60 0) [39,6,160,245]))] (rpt 8 (.str (rpt 64 0)))))))) false),(.lst 0 [] true),(.lst 0 [] true)])
def e28:Ent:=(51,a28,r28)
theorem run28:CN Tryz.prog (cfgT [e27]) 60 51 a28 []=some (.ret r28,[]):=by kernel_rfl
theorem ok28:zaj Tryz.prog 51 a28 (.ret r28):=zai (zam (l:=[e27]) ⟨ok27,trivial⟩) rfl run28
def a29:List AV:=[(.agg [(.lst 1 (ap [(.str (ap [82,0,0,0,0,0,1] (ap (rpt 31 0) (ap [2] (ap (rpt 20 0) [37,225,150,127,82])))))] (rpt 31 (.str (rpt 64 0)))) false),(.lst 2 [(.agg [(.int .i64 16),(.str (ap [85,3,0,0,0,2,0,0,0,0,0,2,0,0,0,0,0,1,97] (rpt 45 0)))]),(.agg [(.int .i64 17),(.str (rpt 64 0))]),(.agg [(.int .i64 18),(.str (rpt 64 0))]),(.agg [(.int .i64 19),(.str (rpt 64 0))]),(.agg [(.int .i64 20),(.str (rpt 64 0))]),(.agg [(.int .i64 21),(.str (rpt 64 0))]),(.agg [(.int .i64 22),(.str (rpt 64 0))])] false),(.lst 0 [] true)])]
def r29:AV:=(.int .i64 0)
def e29:Ent:=(121,a29,r29)
theorem run29:CN Tryz.prog (cfgT []) 60 121 a29 []=some (.ret r29,[]):=by kernel_rfl
theorem ok29:zaj Tryz.prog 121 a29 (.ret r29):=zai (zam (l:=[]) trivial) rfl run29
def a30:List AV:=[(.agg [(.lst 1 (ap [(.str (ap [82,0,0,0,0,0,1] (ap (rpt 31 0) (ap [2] (ap (rpt 20 0) [37,225,150,127,82])))))] (rpt 31 (.str (rpt 64 0)))) false),(.lst 2 [(.agg [(.int .i64 16),(.str (ap [85,3,0,0,0,2,0,0,0,0,0,2,0,0,0,0,0,1,97] (rpt 45 0)))]),(.agg [(.int .i64 17),(.str (rpt 64 0))]),(.agg [(.int .i64 18),(.str (rpt 64 0))]),(.agg [(.int .i64 19),(.str (rpt 64 0))]),(.agg [(.int .i64 20),(.str (rpt 64 0))]),(.agg [(.int .i64 21),(.str (rpt 64 0))]),(.agg [(.int .i64 22),(.str (rpt 64 0))])] false),(.lst 0 [] true)]),(.int .i64 23),(.str (ap (rpt 60 0) [39,6,160,245]))]
def r30:AV:=(.tup [(.agg [(.lst 1 (ap [(.str (ap [82,0,0,0,0,0,1] (ap (rpt 31 0) (ap [2] (ap (rpt 20 0) [37,225,150,127,82])))))] (rpt 31 (.str (rpt 64 0)))) false),(.lst 2 [(.agg [(.int .i64 16),(.str (ap [85,3,0,0,0,2,0,0,0,0,0,2,0,0,0,0,0,1,97] (rpt 45 0)))]),(.agg [(.int .i64 17),(.str (rpt 64 0))]),(.agg [(.int .i64 18),(.str (rpt 64 0))]),(.agg [(.int .i64 19),(.str (rpt 64 0))]),(.agg [(.int .i64 20),(.str (rpt 64 0))]),(.agg [(.int .i64 21),(.str (rpt 64 0))]),(.agg [(.int .i64 22),(.str (rpt 64 0))]),(.agg [(.int .i64 23),(.str (ap (rpt 60 0) [39,6,160,245]))])] false),(.lst 0 [] true)]),(.int .i64 0)])
def e30:Ent:=(182,a30,r30)
theorem run30:CN Tryz.prog (cfgT [e29]) 60 182 a30 []=some (.ret r30,[]):=by kernel_rfl
theorem ok30:zaj Tryz.prog 182 a30 (.ret r30):=zai (zam (l:=[e29]) ⟨ok29,trivial⟩) rfl run30
def a31:List AV:=[(.agg [(.lst 1 (ap [(.str (ap [82,0,0,0,0,0,1] (ap (rpt 31 0) (ap [2] (ap (rpt 20 0) [37,225,150,127,82])))))] (rpt 31 (.str (rpt 64 0)))) false),(.lst 2 [(.agg [(.int .i64 16),(.str (ap [85,3,0,0,0,2,0,0,0,0,0,2,0,0,0,0,0,1,97] (rpt 45 0)))]),(.agg [(.int .i64 17),(.str (rpt 64 0))]),(.agg [(.int .i64 18),(.str (rpt 64 0))]),(.agg [(.int .i64 19),(.str (rpt 64 0))]),(.agg [(.int .i64 20),(.str (rpt 64 0))]),(.agg [(.int .i64 21),(.str (rpt 64 0))])] false),(.lst 0 [] true)])]
def r31:AV:=(.int .i64 0)
def e31:Ent:=(121,a31,r31)
theorem run31:CN Tryz.prog (cfgT []) 60 121 a31 []=some (.ret r31,[]):=by kernel_rfl
theorem ok31:zaj Tryz.prog 121 a31 (.ret r31):=zai (zam (l:=[]) trivial) rfl run31
def a32:List AV:=[(.agg [(.lst 1 (ap [(.str (ap [82,0,0,0,0,0,1] (ap (rpt 31 0) (ap [2] (ap (rpt 20 0) [37,225,150,127,82])))))] (rpt 31 (.str (rpt 64 0)))) false),(.lst 2 [(.agg [(.int .i64 16),(.str (ap [85,3,0,0,0,2,0,0,0,0,0,2,0,0,0,0,0,1,97] (rpt 45 0)))]),(.agg [(.int .i64 17),(.str (rpt 64 0))]),(.agg [(.int .i64 18),(.str (rpt 64 0))]),(.agg [(.int .i64 19),(.str (rpt 64 0))]),(.agg [(.int .i64 20),(.str (rpt 64 0))]),(.agg [(.int .i64 21),(.str (rpt 64 0))])] false),(.lst 0 [] true)]),(.int .i64 22),(.str (rpt 64 0))]
def r32:AV:=(.tup [(.agg [(.lst 1 (ap [(.str (ap [82,0,0,0,0,0,1] (ap (rpt 31 0) (ap [2] (ap (rpt 20 0) [37,225,150,127,82])))))] (rpt 31 (.str (rpt 64 0)))) false),(.lst 2 [(.agg [(.int .i64 16),(.str (ap [85,3,0,0,0,2,0,0,0,0,0,2,0,0,0,0,0,1,97] (rpt 45 0)))]),(.agg [(.int .i64 17),(.str (rpt 64 0))]),(.agg [(.int .i64 18),(.str (rpt 64 0))]),(.agg [(.int .i64 19),(.str (rpt 64 0))]),(.agg [(.int .i64 20),(.str (rpt 64 0))]),(.agg [(.int .i64 21),(.str (rpt 64 0))]),(.agg [(.int .i64 22),(.str (rpt 64 0))])] false),(.lst 0 [] true)]),(.int .i64 0)])
def e32:Ent:=(182,a32,r32)
theorem run32:CN Tryz.prog (cfgT [e31]) 60 182 a32 []=some (.ret r32,[]):=by kernel_rfl
theorem ok32:zaj Tryz.prog 182 a32 (.ret r32):=zai (zam (l:=[e31]) ⟨ok31,trivial⟩) rfl run32
def a33:List AV:=[(.agg [(.lst 1 (ap [(.str (ap [82,0,0,0,0,0,1] (ap (rpt 31 0) (ap [2] (ap (rpt 20 0) [37,225,150,127,82])))))] (rpt 31 (.str (rpt 64 0)))) false),(.lst 2 [(.agg [(.int .i64 16),(.str (ap [85,3,0,0,0,2,0,0,0,0,0,2,0,0,0,0,0,1,97] (rpt 45 0)))]),(.agg [(.int .i64 17),(.str (rpt 64 0))]),(.agg [(.int .i64 18),(.str (rpt 64 0))]),(.agg [(.int .i64 19),(.str (rpt 64 0))]),(.agg [(.int .i64 20),(.str (rpt 64 0))])] false),(.lst 0 [] true)])]
def r33:AV:=(.int .i64 0)
def e33:Ent:=(121,a33,r33)
theorem run33:CN Tryz.prog (cfgT []) 60 121 a33 []=some (.ret r33,[]):=by kernel_rfl
theorem ok33:zaj Tryz.prog 121 a33 (.ret r33):=zai (zam (l:=[]) trivial) rfl run33
def a34:List AV:=[(.agg [(.lst 1 (ap [(.str (ap [82,0,0,0,0,0,1] (ap (rpt 31 0) (ap [2] (ap (rpt 20 0) [37,225,150,127,82])))))] (rpt 31 (.str (rpt 64 0)))) false),(.lst 2 [(.agg [(.int .i64 16),(.str (ap [85,3,0,0,0,2,0,0,0,0,0,2,0,0,0,0,0,1,97] (rpt 45 0)))]),(.agg [(.int .i64 17),(.str (rpt 64 0))]),(.agg [(.int .i64 18),(.str (rpt 64 0))]),(.agg [(.int .i64 19),(.str (rpt 64 0))]),(.agg [(.int .i64 20),(.str (rpt 64 0))])] false),(.lst 0 [] true)]),(.int .i64 21),(.str (rpt 64 0))]
def r34:AV:=(.tup [(.agg [(.lst 1 (ap [(.str (ap [82,0,0,0,0,0,1] (ap (rpt 31 0) (ap [2] (ap (rpt 20 0) [37,225,150,127,82])))))] (rpt 31 (.str (rpt 64 0)))) false),(.lst 2 [(.agg [(.int .i64 16),(.str (ap [85,3,0,0,0,2,0,0,0,0,0,2,0,0,0,0,0,1,97] (rpt 45 0)))]),(.agg [(.int .i64 17),(.str (rpt 64 0))]),(.agg [(.int .i64 18),(.str (rpt 64 0))]),(.agg [(.int .i64 19),(.str (rpt 64 0))]),(.agg [(.int .i64 20),(.str (rpt 64 0))]),(.agg [(.int .i64 21),(.str (rpt 64 0))])] false),(.lst 0 [] true)]),(.int .i64 0)])
def e34:Ent:=(182,a34,r34)
theorem run34:CN Tryz.prog (cfgT [e33]) 60 182 a34 []=some (.ret r34,[]):=by kernel_rfl
theorem ok34:zaj Tryz.prog 182 a34 (.ret r34):=zai (zam (l:=[e33]) ⟨ok33,trivial⟩) rfl run34
def a35:List AV:=[(.agg [(.lst 1 (ap [(.str (ap [82,0,0,0,0,0,1] (ap (rpt 31 0) (ap [2] (ap (rpt 20 0) [37,225,150,127,82])))))] (rpt 31 (.str (rpt 64 0)))) false),(.lst 2 [(.agg [(.int .i64 16),(.str (ap [85,3,0,0,0,2,0,0,0,0,0,2,0,0,0,0,0,1,97] (rpt 45 0)))]),(.agg [(.int .i64 17),(.str (rpt 64 0))]),(.agg [(.int .i64 18),(.str (rpt 64 0))]),(.agg [(.int .i64 19),(.str (rpt 64 0))])] false),(.lst 0 [] true)])]
def r35:AV:=(.int .i64 0)
def e35:Ent:=(121,a35,r35)
theorem run35:CN Tryz.prog (cfgT []) 60 121 a35 []=some (.ret r35,[]):=by kernel_rfl
theorem ok35:zaj Tryz.prog 121 a35 (.ret r35):=zai (zam (l:=[]) trivial) rfl run35
def a36:List AV:=[(.agg [(.lst 1 (ap [(.str (ap [82,0,0,0,0,0,1] (ap (rpt 31 0) (ap [2] (ap (rpt 20 0) [37,225,150,127,82])))))] (rpt 31 (.str (rpt 64 0)))) false),(.lst 2 [(.agg [(.int .i64 16),(.str (ap [85,3,0,0,0,2,0,0,0,0,0,2,0,0,0,0,0,1,97] (rpt 45 0)))]),(.agg [(.int .i64 17),(.str (rpt 64 0))]),(.agg [(.int .i64 18),(.str (rpt 64 0))]),(.agg [(.int .i64 19),(.str (rpt 64 0))])] false),(.lst 0 [] true)]),(.int .i64 20),(.str (rpt 64 0))]
def r36:AV:=(.tup [(.agg [(.lst 1 (ap [(.str (ap [82,0,0,0,0,0,1] (ap (rpt 31 0) (ap [2] (ap (rpt 20 0) [37,225,150,127,82])))))] (rpt 31 (.str (rpt 64 0)))) false),(.lst 2 [(.agg [(.int .i64 16),(.str (ap [85,3,0,0,0,2,0,0,0,0,0,2,0,0,0,0,0,1,97] (rpt 45 0)))]),(.agg [(.int .i64 17),(.str (rpt 64 0))]),(.agg [(.int .i64 18),(.str (rpt 64 0))]),(.agg [(.int .i64 19),(.str (rpt 64 0))]),(.agg [(.int .i64 20),(.str (rpt 64 0))])] false),(.lst 0 [] true)]),(.int .i64 0)])
def e36:Ent:=(182,a36,r36)
theorem run36:CN Tryz.prog (cfgT [e35]) 60 182 a36 []=some (.ret r36,[]):=by kernel_rfl
theorem ok36:zaj Tryz.prog 182 a36 (.ret r36):=zai (zam (l:=[e35]) ⟨ok35,trivial⟩) rfl run36
def a37:List AV:=[(.agg [(.lst 1 (ap [(.str (ap [82,0,0,0,0,0,1] (ap (rpt 31 0) (ap [2] (ap (rpt 20 0) [37,225,150,127,82])))))] (rpt 31 (.str (rpt 64 0)))) false),(.lst 2 [(.agg [(.int .i64 16),(.str (ap [85,3,0,0,0,2,0,0,0,0,0,2,0,0,0,0,0,1,97] (rpt 45 0)))]),(.agg [(.int .i64 17),(.str (rpt 64 0))]),(.agg [(.int .i64 18),(.str (rpt 64 0))])] false),(.lst 0 [] true)])]
def r37:AV:=(.int .i64 0)
def e37:Ent:=(121,a37,r37)
theorem run37:CN Tryz.prog (cfgT []) 60 121 a37 []=some (.ret r37,[]):=by kernel_rfl
theorem ok37:zaj Tryz.prog 121 a37 (.ret r37):=zai (zam (l:=[]) trivial) rfl run37
def a38:List AV:=[(.agg [(.lst 1 (ap [(.str (ap [82,0,0,0,0,0,1] (ap (rpt 31 0) (ap [2] (ap (rpt 20 0) [37,225,150,127,82])))))] (rpt 31 (.str (rpt 64 0)))) false),(.lst 2 [(.agg [(.int .i64 16),(.str (ap [85,3,0,0,0,2,0,0,0,0,0,2,0,0,0,0,0,1,97] (rpt 45 0)))]),(.agg [(.int .i64 17),(.str (rpt 64 0))]),(.agg [(.int .i64 18),(.str (rpt 64 0))])] false),(.lst 0 [] true)]),(.int .i64 19),(.str (rpt 64 0))]
def r38:AV:=(.tup [(.agg [(.lst 1 (ap [(.str (ap [82,0,0,0,0,0,1] (ap (rpt 31 0) (ap [2] (ap (rpt 20 0) [37,225,150,127,82])))))] (rpt 31 (.str (rpt 64 0)))) false),(.lst 2 [(.agg [(.int .i64 16),(.str (ap [85,3,0,0,0,2,0,0,0,0,0,2,0,0,0,0,0,1,97] (rpt 45 0)))]),(.agg [(.int .i64 17),(.str (rpt 64 0))]),(.agg [(.int .i64 18),(.str (rpt 64 0))]),(.agg [(.int .i64 19),(.str (rpt 64 0))])] false),(.lst 0 [] true)]),(.int .i64 0)])
def e38:Ent:=(182,a38,r38)
theorem run38:CN Tryz.prog (cfgT [e37]) 60 182 a38 []=some (.ret r38,[]):=by kernel_rfl
theorem ok38:zaj Tryz.prog 182 a38 (.ret r38):=zai (zam (l:=[e37]) ⟨ok37,trivial⟩) rfl run38
def a39:List AV:=[(.agg [(.lst 1 (ap [(.str (ap [82,0,0,0,0,0,1] (ap (rpt 31 0) (ap [2] (ap (rpt 20 0) [37,225,150,127,82])))))] (rpt 31 (.str (rpt 64 0)))) false),(.lst 2 [(.agg [(.int .i64 16),(.str (ap [85,3,0,0,0,2,0,0,0,0,0,2,0,0,0,0,0,1,97] (rpt 45 0)))]),(.agg [(.int .i64 17),(.str (rpt 64 0))])] false),(.lst 0 [] true)])]
def r39:AV:=(.int .i64 0)
def e39:Ent:=(121,a39,r39)
theorem run39:CN Tryz.prog (cfgT []) 60 121 a39 []=some (.ret r39,[]):=by kernel_rfl
theorem ok39:zaj Tryz.prog 121 a39 (.ret r39):=zai (zam (l:=[]) trivial) rfl run39
def a40:List AV:=[(.agg [(.lst 1 (ap [(.str (ap [82,0,0,0,0,0,1] (ap (rpt 31 0) (ap [2] (ap (rpt 20 0) [37,225,150,127,82])))))] (rpt 31 (.str (rpt 64 0)))) false),(.lst 2 [(.agg [(.int .i64 16),(.str (ap [85,3,0,0,0,2,0,0,0,0,0,2,0,0,0,0,0,1,97] (rpt 45 0)))]),(.agg [(.int .i64 17),(.str (rpt 64 0))])] false),(.lst 0 [] true)]),(.int .i64 18),(.str (rpt 64 0))]
def r40:AV:=(.tup [(.agg [(.lst 1 (ap [(.str (ap [82,0,0,0,0,0,1] (ap (rpt 31 0) (ap [2] (ap (rpt 20 0) [37,225,150,127,82])))))] (rpt 31 (.str (rpt 64 0)))) false),(.lst 2 [(.agg [(.int .i64 16),(.str (ap [85,3,0,0,0,2,0,0,0,0,0,2,0,0,0,0,0,1,97] (rpt 45 0)))]),(.agg [(.int .i64 17),(.str (rpt 64 0))]),(.agg [(.int .i64 18),(.str (rpt 64 0))])] false),(.lst 0 [] true)]),(.int .i64 0)])
def e40:Ent:=(182,a40,r40)
theorem run40:CN Tryz.prog (cfgT [e39]) 60 182 a40 []=some (.ret r40,[]):=by kernel_rfl
theorem ok40:zaj Tryz.prog 182 a40 (.ret r40):=zai (zam (l:=[e39]) ⟨ok39,trivial⟩) rfl run40
def a41:List AV:=[(.agg [(.lst 1 (ap [(.str (ap [82,0,0,0,0,0,1] (ap (rpt 31 0) (ap [2] (ap (rpt 20 0) [37,225,150,127,82])))))] (rpt 31 (.str (rpt 64 0)))) false),(.lst 2 [(.agg [(.int .i64 16),(.str (ap [85,3,0,0,0,2,0,0,0,0,0,2,0,0,0,0,0,1,97] (rpt 45 0)))])] false),(.lst 0 [] true)])]
def r41:AV:=(.int .i64 0)
def e41:Ent:=(121,a41,r41)
theorem run41:CN Tryz.prog (cfgT []) 60 121 a41 []=some (.ret r41,[]):=by kernel_rfl
theorem ok41:zaj Tryz.prog 121 a41 (.ret r41):=zai (zam (l:=[]) trivial) rfl run41
def a42:List AV:=[(.agg [(.lst 1 (ap [(.str (ap [82,0,0,0,0,0,1] (ap (rpt 31 0) (ap [2] (ap (rpt 20 0) [37,225,150,127,82])))))] (rpt 31 (.str (rpt 64 0)))) false),(.lst 2 [(.agg [(.int .i64 16),(.str (ap [85,3,0,0,0,2,0,0,0,0,0,2,0,0,0,0,0,1,97] (rpt 45 0)))])] false),(.lst 0 [] true)]),(.int .i64 17),(.str (rpt 64 0))]
def r42:AV:=(.tup [(.agg [(.lst 1 (ap [(.str (ap [82,0,0,0,0,0,1] (ap (rpt 31 0) (ap [2] (ap (rpt 20 0) [37,225,150,127,82])))))] (rpt 31 (.str (rpt 64 0)))) false),(.lst 2 [(.agg [(.int .i64 16),(.str (ap [85,3,0,0,0,2,0,0,0,0,0,2,0,0,0,0,0,1,97] (rpt 45 0)))]),(.agg [(.int .i64 17),(.str (rpt 64 0))])] false),(.lst 0 [] true)]),(.int .i64 0)])
def e42:Ent:=(182,a42,r42)
theorem run42:CN Tryz.prog (cfgT [e41]) 60 182 a42 []=some (.ret r42,[]):=by kernel_rfl
theorem ok42:zaj Tryz.prog 182 a42 (.ret r42):=zai (zam (l:=[e41]) ⟨ok41,trivial⟩) rfl run42
def a43:List AV:=[(.agg [(.lst 1 (ap [(.str (ap [82,0,0,0,0,0,1] (ap (rpt 31 0) (ap [2] (ap (rpt 20 0) [37,225,150,127,82])))))] (rpt 31 (.str (rpt 64 0)))) false),(.lst 0 [] true),(.lst 0 [] true)]),(.int .i64 16),(.str (ap [85,3,0,0,0,2,0,0,0,0,0,2,0,0,0,0,0,1,97] (rpt 45 0)))]
def r43:AV:=(.tup [(.agg [(.lst 1 (ap [(.str (ap [82,0,0,0,0,0,1] (ap (rpt 31 0) (ap [2] (ap (rpt 20 0) [37,225,150,127,82])))))] (rpt 31 (.str (rpt 64 0)))) false),(.lst 2 [(.agg [(.int .i64 16),(.str (ap [85,3,0,0,0,2,0,0,0,0,0,2,0,0,0,0,0,1,97] (rpt 45 0)))])] false),(.lst 0 [] true)]),(.int .i64 0)])
def e43:Ent:=(182,a43,r43)
theorem run43:CN Tryz.prog (cfgT [e4]) 60 182 a43 []=some (.ret r43,[]):=by kernel_rfl
theorem ok43:zaj Tryz.prog 182 a43 (.ret r43):=zai (zam (l:=[e4]) ⟨ok4,trivial⟩) rfl run43
def a44:List AV:=[(.agg [(.lst 1 (ap [(.str (ap [82,0,0,0,0,0,1] (ap (rpt 31 0) (ap [2] (ap (rpt 20 0) [37,225,150,127,82])))))] (rpt 31 (.str (rpt 64 0)))) false),(.lst 0 [] true),(.lst 0 [] true)]),(.lst 3 [(.agg [(.bool false),(.int .i64 16),(.str (ap [85,3,0,0,0,2,0,0,0,0,0,2,0,0,0,0,0,1,97] (rpt 45 0)))]),(.agg [(.bool false),(.int .i64 17),(.str (rpt 64 0))]),(.agg [(.bool false),(.int .i64 18),(.str (rpt 64 0))]),(.agg [(.bool false),(.int .i64 19),(.str (rpt 64 0))]),(.agg [(.bool false),(.int .i64 20),(.str (rpt 64 0))]),(.agg [(.bool false),(.int .i64 21),(.str (rpt 64 0))]),(.agg [(.bool false),(.int .i64 22),(.str (rpt 64 0))]),(.agg [(.bool false),(.int .i64 23),(.str (ap (rpt 60 0) [39,6,160,245]))]),(.agg [(.bool true),(.int .i64 0),(.str [])]),(.agg [(.bool false),(.int .i64 8),(.str (rpt 64 0))]),(.agg [(.bool true),(.int .i64 0),(.str [])]),(.agg [(.bool false),(.int .i64 8),(.str (ap [82,0,0,0,0,0,2] (ap (rpt 31 0) (ap [3] (ap (rpt 20 0) [57,82,197,34,82])))))]),(.agg [(.bool true),(.int .i64 0),(.str [])])] false),(.int .i64 13)]
def r44:AV:=(.tup [(.agg [(.lst 1 (ap [(.str (ap [82,0,0,0,0,0,1] (ap (rpt 31 0) (ap [2] (ap (rpt 20 0) [37,225,150,127,82])))))] (ap (rpt 7 (.str (rpt 64 0))) (ap [(.str (ap [82,0,0,0,0,0,2] (ap (rpt 31 0) (ap [3] (ap (rpt 20 0) [57,82,197,34,82])))))] (ap (rpt 7 (.str (rpt 64 0))) (ap [(.str (ap [85,3,0,0,0,2,0,0,0,0,0,2,0,0,0,0,0,1,97] (rpt 45 0)))] (ap (rpt 6 (.str (rpt 64 0))) (ap [(.str (ap (rpt 60 0) [39,6,160,245]))] (rpt 8 (.str (rpt 64 0)))))))))) false),(.lst 0 [] true),(.lst 0 [] true)]),(.int .i64 0)])
def e44:Ent:=(27,a44,r44)
theorem run44:CN Tryz.prog (cfgT [e4,e21,e23,e25,e26,e28,e30,e32,e34,e36,e38,e40,e42,e43]) 60 27 a44 []=some (.ret r44,[]):=by kernel_rfl
theorem ok44:zaj Tryz.prog 27 a44 (.ret r44):=zai (zam (l:=[e4,e21,e23,e25,e26,e28,e30,e32,e34,e36,e38,e40,e42,e43]) ⟨ok4,ok21,ok23,ok25,ok26,ok28,ok30,ok32,ok34,ok36,ok38,ok40,ok42,ok43,trivial⟩) rfl run44
def a45:List AV:=[(.agg (ap [(.int .i64 0),(.int .i64 0),(.int .i64 0)] (ap (rpt 16 (.int .u8 0)) [(.int .i64 0),(.int .i64 0)])))]
def r45:AV:=(.int .i64 2)
def e45:Ent:=(19,a45,r45)
theorem run45:CN Tryz.prog (cfgT []) 60 19 a45 []=some (.ret r45,[]):=by kernel_rfl
theorem ok45:zaj Tryz.prog 19 a45 (.ret r45):=zai (zam (l:=[]) trivial) rfl run45
def a46:List AV:=[(.str (rpt 64 0))]
def r46:AV:=(.tup [(.agg (ap [(.int .i64 0),(.int .i64 0),(.int .i64 0)] (ap (rpt 16 (.int .u8 0)) [(.int .i64 0),(.int .i64 0)]))),(.int .i64 8)])
def e46:Ent:=(17,a46,r46)
theorem run46:CN Tryz.prog (cfgT [e45]) 60 17 a46 []=some (.ret r46,[]):=by kernel_rfl
theorem ok46:zaj Tryz.prog 17 a46 (.ret r46):=zai (zam (l:=[e45]) ⟨ok45,trivial⟩) rfl run46
def a47:List AV:=[(.agg [(.lst 1 (ap [(.str (ap [82,0,0,0,0,0,1] (ap (rpt 31 0) (ap [2] (ap (rpt 20 0) [37,225,150,127,82])))))] (rpt 31 (.str (rpt 64 0)))) false),(.lst 0 [] true),(.lst 0 [] true)]),(.int .i64 8),(.int .i64 1)]
def r47:AV:=(.tup [(.str (rpt 64 0)),(.int .i64 0)])
def e47:Ent:=(161,a47,r47)
theorem run47:CN Tryz.prog (cfgT [e4]) 60 161 a47 []=some (.ret r47,[]):=by kernel_rfl
theorem ok47:zaj Tryz.prog 161 a47 (.ret r47):=zai (zam (l:=[e4]) ⟨ok4,trivial⟩) rfl run47
def a48:List AV:=[(.agg [(.lst 1 (ap [(.str (ap [82,0,0,0,0,0,1] (ap (rpt 31 0) (ap [2] (ap (rpt 20 0) [37,225,150,127,82])))))] (rpt 31 (.str (rpt 64 0)))) false),(.lst 0 [] true),(.lst 0 [] true)]),(.int .i64 0),(.int .i64 1)]
def r48:AV:=(.tup [(.str (ap [82,0,0,0,0,0,1] (ap (rpt 31 0) (ap [2] (ap (rpt 20 0) [37,225,150,127,82]))))),(.int .i64 0)])
def e48:Ent:=(161,a48,r48)
theorem run48:CN Tryz.prog (cfgT [e4]) 60 161 a48 []=some (.ret r48,[]):=by kernel_rfl
theorem ok48:zaj Tryz.prog 161 a48 (.ret r48):=zai (zam (l:=[e4]) ⟨ok4,trivial⟩) rfl run48
def a49:List AV:=[(.agg [(.lst 1 (ap [(.str (ap [82,0,0,0,0,0,1] (ap (rpt 31 0) (ap [2] (ap (rpt 20 0) [37,225,150,127,82])))))] (rpt 31 (.str (rpt 64 0)))) false),(.lst 0 [] true),(.lst 0 [] true)]),(.lst 10 [(.agg [(.int .i64 3),(.int .i64 2),(.int .i64 2),(.int .i64 0),(.int .i64 0),(.bool false),(.lst 0 [] true),(.int .i64 0),(.str [97]),(.lst 0 [] true)])] true),(.agg (ap [(.int .i64 2),(.int .i64 0),(.int .i64 0)] (ap (rpt 16 (.int .u8 0)) [(.int .i64 0),(.int .i64 3)])))]
def r49:AV:=(.tup [(.lst 3 [(.agg [(.bool false),(.int .i64 16),(.str (ap [85,3,0,0,0,2,0,0,0,0,0,2,0,0,0,0,0,1,97] (rpt 45 0)))]),(.agg [(.bool false),(.int .i64 17),(.str (rpt 64 0))]),(.agg [(.bool false),(.int .i64 18),(.str (rpt 64 0))]),(.agg [(.bool false),(.int .i64 19),(.str (rpt 64 0))]),(.agg [(.bool false),(.int .i64 20),(.str (rpt 64 0))]),(.agg [(.bool false),(.int .i64 21),(.str (rpt 64 0))]),(.agg [(.bool false),(.int .i64 22),(.str (rpt 64 0))]),(.agg [(.bool false),(.int .i64 23),(.str (ap (rpt 60 0) [39,6,160,245]))]),(.agg [(.bool true),(.int .i64 0),(.str [])]),(.agg [(.bool false),(.int .i64 8),(.str (rpt 64 0))]),(.agg [(.bool true),(.int .i64 0),(.str [])]),(.agg [(.bool false),(.int .i64 8),(.str (ap [82,0,0,0,0,0,2] (ap (rpt 31 0) (ap [3] (ap (rpt 20 0) [57,82,197,34,82])))))]),(.agg [(.bool true),(.int .i64 0),(.str [])])] false),(.int .i64 0)])
def e49:Ent:=(23,a49,r49)
theorem run49:CN Tryz.prog (cfgT [e1,e2,e4,e7,e8,e17,e46,e47,e48]) 60 23 a49 []=some (.ret r49,[]):=by kernel_rfl
theorem ok49:zaj Tryz.prog 23 a49 (.ret r49):=zai (zam (l:=[e1,e2,e4,e7,e8,e17,e46,e47,e48]) ⟨ok1,ok2,ok4,ok7,ok8,ok17,ok46,ok47,ok48,trivial⟩) rfl run49
def a50:List AV:=[(.agg [(.lst 1 (ap [(.str (ap [82,0,0,0,0,0,1] (ap (rpt 31 0) (ap [2] (ap (rpt 20 0) [37,225,150,127,82])))))] (rpt 31 (.str (rpt 64 0)))) false),(.lst 0 [] true),(.lst 0 [] true)]),(.lst 10 [(.agg [(.int .i64 3),(.int .i64 2),(.int .i64 2),(.int .i64 0),(.int .i64 0),(.bool false),(.lst 0 [] true),(.int .i64 0),(.str [97]),(.lst 0 [] true)])] true),(.agg (ap [(.int .i64 2),(.int .i64 0),(.int .i64 0)] (ap (rpt 16 (.int .u8 0)) [(.int .i64 0),(.int .i64 3)])))]
def r50:AV:=(.tup [(.agg [(.lst 1 (ap [(.str (ap [82,0,0,0,0,0,1] (ap (rpt 31 0) (ap [2] (ap (rpt 20 0) [37,225,150,127,82])))))] (ap (rpt 7 (.str (rpt 64 0))) (ap [(.str (ap [82,0,0,0,0,0,2] (ap (rpt 31 0) (ap [3] (ap (rpt 20 0) [57,82,197,34,82])))))] (ap (rpt 7 (.str (rpt 64 0))) (ap [(.str (ap [85,3,0,0,0,2,0,0,0,0,0,2,0,0,0,0,0,1,97] (rpt 45 0)))] (ap (rpt 6 (.str (rpt 64 0))) (ap [(.str (ap (rpt 60 0) [39,6,160,245]))] (rpt 8 (.str (rpt 64 0)))))))))) false),(.lst 0 [] true),(.lst 0 [] true)]),(.int .i64 0)])
def e50:Ent:=(25,a50,r50)
theorem run50:CN Tryz.prog (cfgT [e44,e49]) 60 25 a50 []=some (.ret r50,[]):=by kernel_rfl
theorem ok50:zaj Tryz.prog 25 a50 (.ret r50):=zai (zam (l:=[e44,e49]) ⟨ok44,ok49,trivial⟩) rfl run50
def a51:List AV:=[(.agg [(.lst 1 (ap [(.str (ap [82,0,0,0,0,0,1] (ap (rpt 31 0) (ap [2] (ap (rpt 20 0) [37,225,150,127,82])))))] (rpt 31 (.str (rpt 64 0)))) false),(.lst 0 [] true),(.lst 0 [] true)])]
def r51:AV:=(.tup [(.int .i64 1),(.int .i64 0)])
def e51:Ent:=(47,a51,r51)
theorem run51:CN Tryz.prog (cfgT [e4,e17,e46,e47,e48]) 60 47 a51 []=some (.ret r51,[]):=by kernel_rfl
theorem ok51:zaj Tryz.prog 47 a51 (.ret r51):=zai (zam (l:=[e4,e17,e46,e47,e48]) ⟨ok4,ok17,ok46,ok47,ok48,trivial⟩) rfl run51
def a52:List AV:=[(.agg [(.lst 1 (ap [(.str (ap [82,0,0,0,0,0,1] (ap (rpt 31 0) (ap [2] (ap (rpt 20 0) [37,225,150,127,82])))))] (rpt 31 (.str (rpt 64 0)))) false),(.lst 0 [] true),(.lst 0 [] true)])]
def r52:AV:=(.tup [(.agg (ap [(.int .i64 1),(.int .i64 0),(.int .i64 0)] (ap (rpt 16 (.int .u8 0)) [(.int .i64 0),(.int .i64 2)]))),(.int .i64 0)])
def e52:Ent:=(45,a52,r52)
theorem run52:CN Tryz.prog (cfgT [e4,e17,e46,e47,e48]) 60 45 a52 []=some (.ret r52,[]):=by kernel_rfl
theorem ok52:zaj Tryz.prog 45 a52 (.ret r52):=zai (zam (l:=[e4,e17,e46,e47,e48]) ⟨ok4,ok17,ok46,ok47,ok48,trivial⟩) rfl run52
def a53:List AV:=[(.agg [(.lst 1 (ap [(.str (ap [82,0,0,0,0,0,1] (ap (rpt 31 0) (ap [2] (ap (rpt 20 0) [37,225,150,127,82])))))] (rpt 31 (.str (rpt 64 0)))) false),(.lst 0 [] true),(.lst 0 [] true)])]
def r53:AV:=(.tup [(.int .i64 4),(.int .i64 0)])
def e53:Ent:=(38,a53,r53)
theorem run53:CN Tryz.prog (cfgT [e4]) 60 38 a53 []=some (.ret r53,[]):=by kernel_rfl
theorem ok53:zaj Tryz.prog 38 a53 (.ret r53):=zai (zam (l:=[e4]) ⟨ok4,trivial⟩) rfl run53
def a54:List AV:=[(.agg (ap [(.int .i64 1),(.int .i64 0),(.int .i64 0)] (ap (rpt 16 (.int .u8 0)) [(.int .i64 0),(.int .i64 2)])))]
def r54:AV:=(.tup [(.str (ap [82,0,0,0,0,0,1] (ap (rpt 31 0) (ap [2] (ap (rpt 20 0) [37,225,150,127,82]))))),(.int .i64 0)])
def e54:Ent:=(15,a54,r54)
theorem run54:CN Tryz.prog (cfgT [e15,e16]) 60 15 a54 []=some (.ret r54,[]):=by kernel_rfl
theorem ok54:zaj Tryz.prog 15 a54 (.ret r54):=zai (zam (l:=[e15,e16]) ⟨ok15,ok16,trivial⟩) rfl run54
def a55:List AV:=[(.int .i64 4)]
def r55:AV:=(.tup [(.agg [(.lst 1 (ap [(.str (ap [82,0,0,0,0,0,1] (ap (rpt 31 0) (ap [2] (ap (rpt 20 0) [37,225,150,127,82])))))] (rpt 31 (.str (rpt 64 0)))) false),(.lst 0 [] true),(.lst 0 [] true)]),(.int .i64 0)])
def e55:Ent:=(52,a55,r55)
theorem run55:CN Tryz.prog (cfgT [e54]) 60 52 a55 []=some (.ret r55,[]):=by kernel_rfl
theorem ok55:zaj Tryz.prog 52 a55 (.ret r55):=zai (zam (l:=[e54]) ⟨ok54,trivial⟩) rfl run55
def a56:List AV:=[]
def r56:AV:=(.bool true)
theorem run56:CN Tryz.prog (cfgT [e2,e6,e12,e19,e49,e50,e51,e52,e53,e55]) 60 14 a56 []=some (.ret r56,[]):=by kernel_rfl
theorem ok56:zaj Tryz.prog 14 a56 (.ret r56):=zai (zam (l:=[e2,e6,e12,e19,e49,e50,e51,e52,e53,e55]) ⟨ok2,ok6,ok12,ok19,ok49,ok50,ok51,ok52,ok53,ok55,trivial⟩) rfl run56
theorem zu5:zaj Tryz.prog 14 [] (.ret (.bool true)):=ok56
theorem zso:∀ f args v,cfg0.sum f args=some v → zaj Tryz.prog f args (.ret v):=fun f args v h=>by
 change sum0 f args=some v at h
 unfold sum0 at h
 cases hf:Nat.beq f 14 with
 | false=>rw [hf] at h;exact zk0 f args v h
 | true =>
  rw [hf] at h
  have:f=14:=Nat.eq_of_beq_eq_true hf
  subst this
  simp only [cond] at h
  split at h
  ·cases h;exact zu5
  ·cases h
theorem z1r:zx5 Tryz.prog cfg0:=⟨zso,z2r⟩
end Go.Proofs
namespace Go.Proofs
open Go Go.Abs Go.ChangeShapes Go.WideShapes Go.ChangeAt Go.RowKit
set_option maxRecDepth 100000 in
theorem zie {H:Type}{enc:TypeId × Value → H}{W:World}{base:Nat}{args:Array Value}{ds gs:List (DataW H)}{before:List MemPlace}
  (hval:∀ (j:Nat) t v,Tryz.f12.params[j]?=some t → args[j]?=some v → Value.okWide Tryz.prog W .any base t v)
  (hW:DataW.Whole enc Tryz.prog Tryz.f12.params.toList [] false W args.toList ds gs before):∃ xs:List AV,VRs (zes W) noBM xs args.toList ∧ zaj Tryz.prog 12 xs (.ret (.bool true)):=by
 obtain ⟨p,q,hA0,_⟩:=hW
 have hA:DataW.TrodAll enc Tryz.prog W 0 (fun _=>true) true [46,5] args.toList ds p:=hA0
 rw [show Tryz.f12.params=#[46,5] by kernel_rfl] at hval
 obtain ⟨args⟩:=args
 simp only at hA
 obtain ⟨v0,vs0,d0,ds0,p0,q0,rfl,rfl,rfl,⟨_,h0⟩,r0⟩:=trodAll_cons hA
 obtain ⟨v1,vs1,d1,ds1,p1,q1,rfl,rfl,rfl,⟨_,h1⟩,r1⟩:=trodAll_cons r0
 obtain ⟨rfl,rfl,rfl⟩:=trodAll_nil r1
 obtain ⟨_,tD0,_⟩:=z02
 obtain ⟨c0,rfl,_⟩:=okWide_struct tD0 (hval 0 _ v0 rfl rfl)
 obtain ⟨dk0,g0,ok0⟩:=z2a h0
 obtain ⟨k1,rfl⟩:=okWide_int ty5 (hval 1 _ v1 rfl rfl)
 obtain ⟨n1,e1⟩:=rd_u8 ty5 h1
 cases e1
 have f0:VR (zes W) noBM dk0.av (.agg c0):=by unfold Dk.av VR;exact ⟨c0,rfl,g0⟩
 have f1:VR (zes W) noBM (.int .u8 n1.toNat) (.int .u8 n1.toNat):=by unfold VR;rfl
 refine ⟨[dk0.av,.int .u8 n1.toNat],@zki _ _ [_] _ [_] _ (zgn f0) (zgn f1),?_⟩
 exact zai (n:=20) z1r rfl (zmx (by omega) dk0 ok0 n1)
set_option maxRecDepth 100000 in
theorem zhv (os:Os) (started:os.Started) (H:Type) (enc:TypeId × Value → H) :
  ReturnsInHanded {} Tryz.checked os 12 .any (YtalaebjjleddaaaGreat.Rows.fileFaultsSpec.pre6 enc Tryz.prog Tryz.f12 YtalaebjjleddaaaGreat.Rows.fileFaultsRow.domain false) (YtalaebjjleddaaaGreat.Rows.fileFaultsSpec.post enc Tryz.prog Tryz.f12 false true false false):=by
 refine returnsInHanded_of_change (C:=Tryz.checked) own started (by kernel_rfl) Tryz.func12
  (ChangeSpec.witness6 (enc:=enc) (C:=Tryz.checked) false ⟨#[],#[.agg #[.slice none 0 0,.slice none 0 0,.slice none 0 0],.int .u8 0],[]⟩ 8 (by kernel_rfl) (by kernel_rfl) (by kernel_rfl) (by kernel_rfl)) ?_
 intro W base args ds gs before hval hW _ _
 obtain ⟨xs,hv,hp⟩:=zie hval hW
 refine zzz laid (by kernel_rfl) (tb:=4) (by kernel_rfl) ty4 rfl (fun ds hd=>?_) hW hv hp
 match ds,hd with
 | [_,_],_=>rfl
end Go.Proofs
namespace Go.Proofs.YtalaebjjleddaaaGreat
open Go Go.Abs
noncomputable abbrev fileFaults_P:Program:=Tryz.pinned.checked.prog
theorem zju:(fileFaults_P.mayEnter&&((Rows.fileFaultsRow.lifted==fileFaults_P.liftsFinal)&&(fileFaults_P.make==some Rows.fileFaultsRow.make)))=true:=by kernel_rfl
theorem zkn:((Rows.fileFaultsRow.inPlace==fileFaults_P.inPlace 12)&&((Rows.fileFaultsRow.unfollowed==fileFaults_P.unfollowed 12)&&((Rows.fileFaultsRow.recurses==fileFaults_P.recurses 12)&&(Rows.fileFaultsRow.named==fileFaults_P.varsNamed 12))))=true:=by kernel_rfl
theorem zhw:joinedFacts fileFaults_P 12 Tryz.f12 Rows.fileFaultsSpec Rows.fileFaultsRow=true:=by
 have h1:=zju
 have h2:=zkn
 simp only [Bool.and_eq_true] at h1 h2
 obtain ⟨p1,p2,p3⟩:=h1
 obtain ⟨p4,p5,p6,p7⟩:=h2
 unfold joinedFacts
 rw [p1,p2,p3,p4,p5,p6,p7]
 show (_:Bool)=true
 kernel_rfl
theorem zid:fileFaults_P.funcNamed Rows.fileFaultsRow.func=some 12:=by kernel_rfl
theorem fileFaults_holds:Rows.FileFaultsSaid :=
 OpenClaim.holds_of_wide 12 Tryz.f12 rfl rfl rfl rfl rfl rfl rfl ⟨rfl,rfl,rfl,rfl,rfl⟩ rfl rfl rfl rfl rfl zid Tryz.func12 zhw
  (of_decide_eq_true (by kernel_rfl)) (by unfold Func.isWrapper;first | (rw [if_pos (by decide +kernel)];kernel_rfl) | (rw [if_neg (by decide +kernel)];exact ⟨rfl,rfl⟩))
  (fun os started H enc _=>zhv os started H enc)
#print axioms fileFaults_holds
end Go.Proofs.YtalaebjjleddaaaGreat
