/- Texts put together: Zt, Zu, Zv, Ua5, Ub, Ue, Uc, Ud, Ut, Uf, Ug, Uh, Um5, Un, Ui, Ya, Zw, Zy, Uj, Uo, Vm, Vn. -/
import Derived.Test.YtalaebjjleddaaaGreatFlt13
import Derived.Test.YtalaebjjleddaaaGreatFlt7
import Derived.Test.YtalaebjjleddaaaGreatFlt12
set_option linter.unusedVariables false
set_option linter.unusedSimpArgs false
namespace Go.Proofs
open Go Go.Abs
def rowsR (l:List (Rt × Int)):List AV:=l.flatMap fun p=>p.1.cellsE p.2
def NB0 (base:Nat) (h:zaa) (L:AV) (l:List (Rt × Int)):Prop:=(l=[] ∧ L=.lst 0 [] true) ∨ (∃ b ver,base ≤ b ∧ l≠[] ∧ L=.sl 22 b ver 0 l.length ∧ h[b]?=some (.cells ver (some tRtF) (rowsR l) 0))
theorem NB0.keep {base:Nat}{h h':zaa}{L:AV}{l:List (Rt × Int)}(a:NB0 base h L l) (k:Keep h h' []):NB0 base h' L l:=by
 rcases a with a | ⟨b,ver,a1,a2,a3,a4⟩
 ·exact .inl a
 ·exact .inr ⟨b,ver,a1,a2,a3,k.get a4 (by simp)⟩
section
variable {n m:Nat}{h hp:zaa}{d:Dk}
end
def rowsS (l:List Rt):List AV:=l.flatMap fun p=>p.cells
def NB1 (base:Nat) (h:zaa) (L:AV) (l:List Rt):Prop:=(l=[] ∧ L=.lst 0 [] true) ∨ (∃ b ver,base ≤ b ∧ l≠[] ∧ L=.sl 21 b ver 0 l.length ∧ h[b]?=some (.cells ver (some zez) (rowsS l) 0))
theorem NB1.keep {base:Nat}{h h':zaa}{L:AV}{l:List Rt}(a:NB1 base h L l) (k:Keep h h' []):NB1 base h' L l:=by
 rcases a with a | ⟨b,ver,a1,a2,a3,a4⟩
 ·exact .inl a
 ·exact .inr ⟨b,ver,a1,a2,a3,k.get a4 (by simp)⟩
section
variable {n m:Nat}{h hp:zaa}{d:Dk}
theorem NB0.len {base:Nat}{h:zaa}{L:AV}{l:List (Rt × Int)}(a:NB0 base h L l):lenA L=some l.length:=by
 rcases a with ⟨rfl,rfl⟩ | ⟨b,ver,a1,a2,rfl,a4⟩<;>rfl
structure Rts (d:Dk) (a b:Rt) (ea eb:Int):Prop where
 cA:∀ n,11 ≤ n → ∀ hp w,hp[w]?=some (wriC d) → ∃ h',C n 108 [.ptr w 0 0,i64 0] hp=some (.ret (.tup [a.av,i64 ea]),h') ∧ Keep hp h' []
 cB:∀ n,11 ≤ n → ∀ hp w,hp[w]?=some (wriC d) → ∃ h',C n 108 [.ptr w 0 0,i64 1] hp=some (.ret (.tup [b.av,i64 eb]),h') ∧ Keep hp h' []
 sA:∀ n,11 ≤ n → ∀ h,C n 110 [d.av,i64 0] h=some (.ret (.agg (a.cellsE ea)),h)
 sB:∀ n,11 ≤ n → ∀ h,C n 110 [d.av,i64 1] h=some (.ret (.agg (b.cellsE eb)),h)
 zA:ea≠0 → a=Rt.zero ∧ ea=8
 zB:eb≠0 → b=Rt.zero ∧ eb=8
theorem NB1.cells {base:Nat}{h:zaa}{L:AV}{l:List Rt}(a:NB1 base h L l):L.cells?=some [L]:=by
 rcases a with ⟨rfl,rfl⟩ | ⟨b,ver,a1,a2,rfl,a4⟩<;>rfl
end
section
variable {n m:Nat}{h hp:zaa}{d:Dk}
end
def c128:RC :=
 (.seq (.ops [(oP 2 (.mv (.c (.lst 0 [] true))))])
 (.seq (.seq (.ops [(mV 3 0),
 ⟨some 4,none,.op (.raw { dst:=(some 4),op:=(.binOp .eql 44 (.tmp 3) (.const (.slice none 0 0)) 44),type:=4,pos := "slices.go:357",after:=#[⟨0,.data⟩],guard:=none })⟩])
 (.cond (.t 4)
 (.seq (.ops [(oP 2 (.mv (.c (.lst 0 [] true))))])
 .ret)
 .skip))
 (.seq (.ops [(oP 5 (.mkLst 1 false 0 [(.int .i64 0)] [])),(mV 6 0),(oP 7 (.app 3 1 (.t 5) (.t 6))),(mV 2 7)])
 .ret)))
theorem F128:FI 128 1 8 4 [.tmp 2] c128:=mkF Tryz.f128 Tryz.func128
def c185:RC :=
 (.seq (.ops [(oP 2 (.mv (.c (.lst 0 [] true))))])
 (.seq (.seq (.ops [(mV 3 0),
 ⟨some 4,none,.op (.raw { dst:=(some 4),op:=(.binOp .eql 43 (.tmp 3) (.const (.slice none 0 0)) 43),type:=4,pos := "slices.go:357",after:=#[⟨0,.data⟩],guard:=none })⟩])
 (.cond (.t 4)
 (.seq (.ops [(oP 2 (.mv (.c (.lst 0 [] true))))])
 .ret)
 .skip))
 (.seq (.ops [(oP 5 (.mkLst 2 true 0 [(.int .i64 0),(.str [])] [])),(mV 6 0),(oP 7 (.app 52 2 (.t 5) (.t 6))),(mV 2 7)])
 .ret)))
theorem F185:FI 185 1 8 4 [.tmp 2] c185:=mkF Tryz.f185 Tryz.func185
def c132:RC :=
 (.seq (.ops [(oP 1 (.box 46 (.t 0))),(oP 2 (.alloc 46 [(.lst 0 [] true),(.lst 0 [] true),(.lst 0 [] true)]))])
 (.seq (.draw [((oC 3 0 1),0),((oA 4 3),1),((oC 6 1 1),0),((oA 7 6),1),((oC 9 2 1),0),((oA 10 9),1),((oV 5 126 4),2),((oV 8 185 7),2),((oV 11 128 10),2),((oP 12 (.build [(.lst 0 [] true),(.lst 0 [] true),(.lst 0 [] true)] [(0,1,(.t 5)),(1,1,(.t 8)),(2,1,(.t 11))])),0),((oT 3 2 12),3)])
 .ret))
theorem F132:FI 132 1 13 4 [.cell 2 46] c132:=mkF Tryz.f132 Tryz.func132
def c9:RC :=
 (.seq (.ops [(oP 2 (.box 46 (.t 0))),(oP 3 (.box 79 (.t 1))),(oP 4 (.mv (.c (.bool false))))])
 (.seq (.seq (.ops [(oB 19 3 2),(oV 20 21 19),(oP 21 (.un .not (.t 20))),(mV 22 21),(oG 23 22 false (.load true 10 (.t 3))),(oG 24 22 false (.mkLst 10 true 1 zPl [(0,10,(.t 23))])),(oG 25 22 false (.callF 22 [(.t 24)])),(oG 26 22 false (.un .not (.t 25))),(oM 27 22 26)])
 (.cond (.t 27)
 (.seq (.ops [(oP 28 (.callF 14 [])),(mV 4 28)])
 .ret)
 .skip))
 (.seq (.ops [(oB 30 3 2),(oB 31 10 3),(oW 32 50 30 31),(mV 29 32),(oQ 33 29 0),(oQ 34 29 1),(oP 5 (.alloc 46 [(.lst 0 [] true),(.lst 0 [] true),(.lst 0 [] true)])),(oT 3 5 33),(mV 6 34)])
 (.seq (.seq (.ops [(mV 35 6),(oJ 36 .neq 35 0)])
 (.cond (.t 36)
 (.seq (.ops [(oP 37 (.callF 14 [])),(mV 4 37)])
 .ret)
 .skip))
 (.seq (.ops [(oB 38 3 5),(oV 39 51 38),(oP 7 (.alloc 46 [(.lst 0 [] true),(.lst 0 [] true),(.lst 0 [] true)])),(oT 3 7 39)])
 (.seq (.seq (.ops [(oH 8 2)])
 (.block 0
 (.loop
 (.seq (.seq (.ops [(mV 40 8),(oC 41 0 2),(oA 42 41),(oK 43 42),(oJ 44 .quo 43 8),(oI 45 .lss 40 44)])
 (.cond (.t 45)
 .skip
 (.exit 0)))
 (.seq (.block 1
 (.seq (.ops [(oB 49 3 2),(mV 50 8),(oW 51 33 49 50),(mV 48 51),(oQ 52 48 0),(oQ 53 48 1),(oP 9 (.alloc 79 zPl)),(oT 10 9 52),(mV 10 53)])
 (.seq (.seq (.ops [(mV 54 8),(oC 55 1 3),(oA 56 55),(oI 57 .eql 54 56)])
 (.cond (.t 57)
 (.ops [(oB 58 10 3),(oT 10 9 58),(oH 10 0)])
 .skip))
 (.seq (.ops [(oB 60 3 5),(mV 61 8),(oW 62 33 60 61),(mV 59 62),(oQ 63 59 0),(oQ 64 59 1),(oP 11 (.alloc 79 zPl)),(oT 10 11 63),(mV 12 64)])
 (.seq (.ops [(oB 66 3 7),(mV 67 8),(oW 68 33 66 67),(mV 65 68),(oQ 69 65 0),(oQ 70 65 1),(oP 13 (.alloc 79 zPl)),(oT 10 13 69),(mV 14 70)])
 (.seq (.ops [(mV 71 10),(mV 72 12),(oI 73 .neq 71 72),(mV 74 73),(oE 75 74 false 10),(oE 76 74 false 14),(oG 77 74 false (.bin .neq (.t 75) (.t 76))),(oM 78 74 77),(mV 79 78),(oG 80 79 false (.load true 10 (.t 9))),(oG 81 79 false (.load true 10 (.t 11))),(oG 82 79 false (.callF 34 [(.t 80),(.t 81)])),(oG 83 79 false (.un .not (.t 82))),(oM 84 79 83),(mV 85 84),(oG 86 85 false (.load true 10 (.t 9))),(oG 87 85 false (.load true 10 (.t 13))),(oG 88 85 false (.callF 34 [(.t 86),(.t 87)])),(oG 89 85 false (.un .not (.t 88))),(oM 90 85 89)])
 (.cond (.t 90)
 (.seq (.ops [(oP 4 (.mv (.c (.bool false))))])
 .ret)
 .skip)))))))
 (.ops [(mV 46 8),(oJ 47 .add 46 1),(mV 8 47)]))))))
 (.cut (.seq (.ops [(oB 92 3 2),(oV 93 43 92),(mV 91 93),(oQ 94 91 0),(oQ 95 91 1),(mV 15 94),(mV 16 95)])
 (.seq (.ops [(oB 97 3 5),(oV 98 43 97),(mV 96 98),(oQ 99 96 0),(oQ 100 96 1),(mV 17 99),(mV 18 100)])
 (.seq (.ops [(oP 101 (.callF 14 [])),(mV 102 101),(oE 103 102 true 16),(oE 104 102 true 18),(oG 105 102 true (.bin .eql (.t 103) (.t 104))),(oN 106 102 105),(mV 107 106),(oE 108 107 true 15),(oE 109 107 true 17),(oG 110 107 true (.callF 49 [(.t 108),(.t 109)])),(oN 111 107 110),(mV 4 111)])
 .ret))))))))))
theorem zmr {n:Nat}{f:FuncId}{args:List AV}{h h':zaa}{v:AV}(hi:cfg0.inl f=true) (hlt:f<Tryz.prog.funcs.size) (hm:cfg0.mem f args h=some (v,h')):C (n+1) f args h=some (.ret v,h'):=by
 show CN _ _ _ _ _ _=_
 unfold CN zb4
 simp only [hi,if_true,hm]
 rw [if_neg (Nat.not_le.2 hlt)]
def ownB (L:AV) (b:Nat):Prop:=match L with
 | .sl _ b' _ _ _=>b'=b
 | _=>False
def LB (el:TypeId) (sz:Nat) (h:zaa) (L:AV) (rows:List (List AV)):Prop :=
 (∀ r∈rows,r.length=sz ∧ r.all AV.scal=true) ∧ ((∃ k,L=.lst k [] true ∧ rows=[]) ∨ ∃ b ver fz,L=.sl sz b ver 0 rows.length ∧ h[b]?=some (.cells ver (some el) rows.flatten fz) ∧ fz ≤ rows.flatten.length)
section
variable {el sz:Nat}{h h':zaa}{L:AV}{rows:List (List AV)}
theorem LB.cells (g:LB el sz h L rows):L.scal=true ∧ L.cells?=some [L]:=by
 rcases g.2 with ⟨k,rfl,_⟩ | ⟨b,ver,fz,rfl,_⟩<;>exact ⟨rfl,rfl⟩
theorem LB.keep (g:LB el sz h L rows) (k:∀ x,x<h.length → ownB L x → h'[x]?=h[x]?):LB el sz h' L rows:=by
 refine ⟨g.1,?_⟩
 rcases g.2 with q | ⟨b,ver,fz,rfl,h2,h3⟩
 ·exact .inl q
 ·exact .inr ⟨b,ver,fz,rfl,by rw [k b (zac h2) rfl];exact h2,h3⟩
theorem LB.lt (g:LB el sz h L rows) {b:Nat}(o:ownB L b):b<h.length:=by
 rcases g.2 with ⟨k,rfl,_⟩ | ⟨b',ver,fz,rfl,h2,h3⟩
 ·exact o.elim
 ·obtain rfl:b'=b:=o
  exact zac h2
theorem LB.app {x:AV}{row:List AV}(g:LB el sz h L rows) (h1:lenA x=some 1) (h2:zax h sz 1 x=some row) (hr:row.length=sz ∧ row.all AV.scal=true) (hl:rows.length+1 ≤ 1073741824) :
  ∃ v h',appR h el sz L x=some (v,some h') ∧ LB el sz h' v (rows++[row]) ∧ h.length ≤ h'.length ∧ (∀ y,y<h.length → ¬ ownB L y → h'[y]?=h[y]?) ∧ ∀ y,ownB v y → ownB L y ∨ h.length ≤ y:=by
 have hrows:∀ r∈rows++[row],r.length=sz ∧ r.all AV.scal=true:=by
  intro r hm
  simp at hm
  rcases hm with hm | rfl
  ·exact g.1 r hm
  ·exact hr
 unfold appR
 rw [h1]
 simp only
 rw [h2]
 simp only [hr.2,Bool.not_true,Bool.false_eq_true,if_false]
 rcases g.2 with ⟨k,rfl,rfl⟩ | ⟨bb,ver,fz,rfl,g1,g3⟩
 ·simp only
  rw [if_neg (by decide)]
  have h3:zax h sz ([]:List AV).length (.lst k [] true)=some []:=by
   unfold zax
   simp
  rw [h3]
  simp only [List.length_nil,Nat.zero_add]
  rw [if_pos ⟨by decide,rfl⟩]
  exact ⟨_,_,rfl,⟨hrows,.inr ⟨h.length,0,0,rfl,by simp,Nat.zero_le _⟩⟩,by simp,fun y hy _=>List.getElem?_append_left hy,fun y o=>.inr (Nat.le_of_eq o)⟩
 ·have hf:=zem g.1
  simp only
  rw [g1]
  simp only
  rw [if_pos ⟨.inl trivial,trivial,trivial,trivial,hf.1.symm,hf.2,hl,g3⟩,if_neg (by decide)]
  refine ⟨_,_,rfl,⟨hrows,.inr ⟨bb,ver+1,fz,by simp,?_,by rw [List.flatten_append,List.length_append];omega⟩⟩,by simp,fun y hy ho=>?_,fun y o=>.inl o⟩
  ·rw [List.getElem?_set_self (zac g1)];simp
  ·rw [List.getElem?_set_ne];exact ho
theorem LB.frz1 {xs:List AV}{n:Nat}(g:LB el 1 h L (xs.map fun x=>[x])) (hx:∀ x∈xs,Abs.frz h n x=some x):∃ sh:Sh,Abs.frz h (n+1) L=some (.lst sh.sz xs sh.c) ∧ (xs≠[] → sh.sz=1):=by
 rcases g.2 with ⟨k,rfl,q⟩ | q
 ·have:xs=[]:=by simpa using q
  subst this
  exact ⟨⟨k,true⟩,rfl,fun q=>(q rfl).elim⟩
 ·exact zyg ⟨g.1,.inr q⟩ hx
theorem LB.frzR (hz:sz≠1) {n:Nat}(g:LB el sz h L rows) (ha:allM (Abs.frz h n) rows.flatten=some rows.flatten):∃ sh:Sh,Abs.frz h (n+1) L=some (.lst sh.sz (rows.map .agg) sh.c) ∧ (rows≠[] → sh.sz=sz):=by
 rcases g.2 with ⟨k,rfl,rfl⟩ | q
 ·exact ⟨⟨k,true⟩,rfl,fun q=>(q rfl).elim⟩
 ·exact zum hz ⟨g.1,.inr q⟩ ha g.1 rfl
end
theorem z3b (l:List Wr):(l.flatMap Wr.cells)=(l.map Wr.cells).flatten:=List.flatMap_def
theorem z0c (l:List Int):(l.flatMap fun k=>[i64 k])=l.map i64:=by
 induction l with
 | nil=>rfl
 | cons a r ih=>simp [List.flatMap_cons] at ih ⊢;exact ih
abbrev tDW:Nat:=52
section
variable {n m:Nat}{h hp:zaa}
theorem zt2 (hn:1 ≤ n) (l:List Str) (hne:l≠[]) {sz:Nat}(hz:l≠[] → sz=1) (hl:l.length ≤ 1073741824) (c:Bool):∃ v h',C n 126 [.lst sz (l.map .str) c] hp=some (.ret v,h') ∧ LB tStr 1 h' v ((l.map AV.str).map fun x=>[x]) ∧ Keep hp h' [] ∧ ∀ b,ownB v b → hp.length ≤ b:=by
 obtain rfl:=hz hne
 refine ⟨_,_,zo4 hn l hne hl c,⟨?_,.inr ⟨hp.length,0,0,?_,?_,Nat.zero_le _⟩⟩,Keep.app _ _ _,fun b o=>Nat.le_of_eq o⟩
 ·intro r hr
  simp only [List.map_map,List.mem_map] at hr
  obtain ⟨s,_,rfl⟩:=hr
  exact ⟨rfl,rfl⟩
 ·simp
 ·rw [zag,zc3]
theorem zxh (hn:1 ≤ n) (l:List Int) {sz:Nat}(hz:l≠[] → sz=1) (hl:l.length ≤ 1073741824) (c:Bool):∃ v h',C n 128 [.lst sz (l.map i64) c] hp=some (.ret v,h') ∧ LB 3 1 h' v ((l.map i64).map fun x=>[x]) ∧ Keep hp h' [] ∧ ∀ b,ownB v b → hp.length ≤ b:=by
 obtain ⟨m,rfl⟩:=pre1 n
 cases l with
 | nil=>exact ⟨_,_,zmr (by kernel_rfl) (of_decide_eq_true (by kernel_rfl)) (show cfg0.mem 128 [.lst sz [] c] hp=some (.lst 1 [] true,hp) from rfl),⟨by simp,.inl ⟨1,rfl,rfl⟩⟩,Keep.refl _ _,fun b o=>o.elim⟩
 | cons a r =>
  obtain rfl:=hz (by simp)
  have e:=zkc (f:=i64) (g:=fun k=>[i64 k]) (sz:=1) zcv (fun _=>rfl) (fun _=>rfl) hp 3 (a::r) 1 (fun _=>rfl) c (by simp) hl
  rw [z0c] at e
  refine ⟨.sl 1 hp.length 0 0 (a::r).length,hp++[.cells 0 (some 3) ((a::r).map i64) 0],?_,⟨?_,.inr ⟨hp.length,0,0,?_,?_,Nat.zero_le _⟩⟩,Keep.app _ _ _,fun b o=>Nat.le_of_eq o⟩
  ·refine za2 F128 rfl rfl ?_
   conv=>whnf
   refine rawI (v:=.bool false) (h':=hp) (by rfl) (by kernel_rfl) ?_
   conv=>whnf
   refine ⟨rfl,?_⟩
   conv=>whnf
   refine apI5 e ?_
   conv=>whnf
   exact ⟨rfl,_,rfl,rfl,rfl⟩
  ·intro q hq
   simp only [List.map_map,List.mem_map] at hq
   obtain ⟨s,_,rfl⟩:=hq
   exact ⟨rfl,rfl⟩
  ·simp
  ·rw [zag,zc3]
theorem zxg (hn:1 ≤ n) (l:List Wr) {sz:Nat}(hz:l≠[] → sz=2) (hl:l.length ≤ 1073741824) (c:Bool):∃ v h',C n 185 [.lst sz (l.map Wr.av) c] hp=some (.ret v,h') ∧ LB tDW 2 h' v (l.map Wr.cells) ∧ Keep hp h' [] ∧ ∀ b,ownB v b → hp.length ≤ b:=by
 obtain ⟨m,rfl⟩:=pre1 n
 cases l with
 | nil=>exact ⟨_,_,zmr (by kernel_rfl) (of_decide_eq_true (by kernel_rfl)) (show cfg0.mem 185 [.lst sz [] c] hp=some (.lst 2 [] true,hp) from rfl),⟨by simp,.inl ⟨2,rfl,rfl⟩⟩,Keep.refl _ _,fun b o=>o.elim⟩
 | cons a r =>
  obtain rfl:=hz (by simp)
  have e:=zkc (f:=Wr.av) (g:=Wr.cells) (sz:=2) zc2 (fun _=>rfl) (fun _=>rfl) hp tDW (a::r) 2 (fun _=>rfl) c (by simp) hl
  rw [z3b] at e
  refine ⟨.sl 2 hp.length 0 0 (a::r).length,hp++[.cells 0 (some tDW) ((a::r).map Wr.cells).flatten 0],?_,⟨?_,.inr ⟨hp.length,0,0,?_,?_,Nat.zero_le _⟩⟩,Keep.app _ _ _,fun b o=>Nat.le_of_eq o⟩
  ·refine za2 F185 rfl rfl ?_
   conv=>whnf
   refine rawI (v:=.bool false) (h':=hp) (by rfl) (by kernel_rfl) ?_
   conv=>whnf
   refine ⟨rfl,?_⟩
   conv=>whnf
   refine apI5 e ?_
   conv=>whnf
   exact ⟨rfl,_,rfl,rfl,rfl⟩
  ·intro q hq
   obtain ⟨s,_,rfl⟩:=List.mem_map.1 hq
   exact ⟨rfl,rfl⟩
  ·simp
  ·rw [zag]
theorem fill3 {ρ:RX → Option AV}{p q r a b c:AV}{x y z:RX}(hx:ρ x=some a) (hy:ρ y=some b) (hz:ρ z=some c) (ca:a.cells?=some [a]) (cb:b.cells?=some [b]) (cc:c.cells?=some [c]):ztk ρ [p,q,r] [(0,1,x),(1,1,y),(2,1,z)]=some [a,b,c]:=by
 rw [zf2,hx]
 simp only [ca]
 rw [if_pos ⟨rfl,by simp⟩,zf2,hy]
 simp only [cb]
 rw [if_pos ⟨rfl,by simp [putAt]⟩,zf2,hz]
 simp only [cc]
 rw [if_pos ⟨rfl,by simp [putAt]⟩]
 rfl
theorem agg3 {a b c:AV}(ha:a.scal=true) (hb:b.scal=true) (hc:c.scal=true):(AV.agg [a,b,c]).cells?=some [a,b,c]:=by
 simp [AV.cells?,ha,hb,hc]
structure DL (d:Dk) (h:zaa) (S W B:AV) (lo:Nat):Prop where
 s:LB tStr 1 h S ((d.secs.map AV.str).map fun x=>[x])
 w:LB tDW 2 h W (d.ws.map Wr.cells)
 b:LB 3 1 h B ((d.bad.map i64).map fun x=>[x])
 os:∀ x,ownB S x → lo ≤ x
 ow:∀ x,ownB W x → lo ≤ x
 ob:∀ x,ownB B x → lo ≤ x
 sw:∀ x,ownB S x → ¬ ownB W x
 sb:∀ x,ownB S x → ¬ ownB B x
 wb:∀ x,ownB W x → ¬ ownB B x
theorem zxf (hn:2 ≤ n) (d:Dk) (ok:d.Ok) (hr:zap d=true):∃ r h',C n 132 [d.av] hp=some (r,h') ∧ ∃ S W B,r=.ret (.agg [S,W,B]) ∧ DL d h' S W B hp.length ∧ Keep hp h' []:=by
 obtain ⟨m,rfl⟩:=pre1 n
 obtain ⟨⟨z1,z2,z3⟩,-,-,z4⟩:=rightD_iff.1 hr
 have hne:d.secs≠[]:=fun e=>by rw [e] at z1;simp at z1
 refine zbh F132 rfl rfl ?_
 conv=>whnf
 have g0:(hp++[dkC d]++[AB.cells 0 (some zdi) [.lst 0 [] true,.lst 0 [] true,.lst 0 [] true] 0])[List.length hp]?=some (dkC d):=by rw [List.getElem?_append_left (by simp)];exact zag _ _
 have q0:(hp++[dkC d]++[AB.cells 0 (some zdi) [.lst 0 [] true,.lst 0 [] true,.lst 0 [] true] 0])[List.length (hp++[dkC d])]?=some (AB.cells 0 (some zdi) [.lst 0 [] true,.lst 0 [] true,.lst 0 [] true] 0):=zag _ _
 have k0:Keep hp (hp++[dkC d]++[AB.cells 0 (some zdi) [.lst 0 [] true,.lst 0 [] true,.lst 0 [] true] 0]) []:=(Keep.app _ _ []).trans (Keep.app _ _ []) (by simp)
 have n0:(hp++[dkC d]++[AB.cells 0 (some zdi) [.lst 0 [] true,.lst 0 [] true,.lst 0 [] true] 0]).length=hp.length+2:=by simp
 generalize e0:hp++[dkC d]++[AB.cells 0 (some zdi) [.lst 0 [] true,.lst 0 [] true,.lst 0 [] true] 0]=h0 at g0 q0 k0 n0
 have eL:List.length (hp++[dkC d])=hp.length+1:=by simp
 rw [eL] at q0
 obtain ⟨S,h1,c1,l1,k1,o1⟩:=zt2 (n:=m) (hp:=h0) (by omega) d.secs hne ok.ss (by omega) d.ssh.c
 have g1:=k1.get g0 (by simp)
 obtain ⟨W,h2,c2,l2,k2,o2⟩:=zxg (n:=m) (hp:=h1) (by omega) d.ws ok.sw (by omega) d.wsh.c
 have g2:=k2.get g1 (by simp)
 obtain ⟨B,h3,c3,l3,k3,o3⟩:=zxh (n:=m) (hp:=h2) (by omega) d.bad ok.sb (by have:=zj8 z2 (Nat.le_refl _) fun i hi _=>z4 i hi;omega) d.bsh.c
 have g3:=k3.get g2 (by simp)
 have q3:=k3.get (k2.get (k1.get q0 (by simp)) (by simp)) (by simp)
 refine ldI g0 ?_
 conv=>whnf
 refine ldI g0 ?_
 conv=>whnf
 refine ldI g0 ?_
 conv=>whnf
 refine clI c1 ?_
 conv=>whnf
 refine ⟨⟨ldI g1 rfl,ldI g1 rfl,ldI g1 rfl⟩,?_⟩
 conv=>whnf
 refine clI c2 ?_
 conv=>whnf
 refine ⟨⟨ldI g2 rfl,ldI g2 rfl,ldI g2 rfl⟩,?_⟩
 conv=>whnf
 refine clI c3 ?_
 conv=>whnf
 refine ⟨⟨ldI g3 rfl,ldI g3 rfl,ldI g3 rfl⟩,?_⟩
 conv=>whnf
 rw [fill3 (a:=S) (b:=W) (c:=B) rfl rfl rfl l1.cells.2 l2.cells.2 l3.cells.2]
 conv=>whnf
 refine stI (xs:=[S,W,B]) (by rw [eL];exact q3) (agg3 l1.cells.1 l2.cells.1 l3.cells.1) (by rfl) (by rfl) (by rfl) ?_
 conv=>whnf
 have hs:∀ {el sz:Nat}{L:AV}{rows:List (List AV)}{ha:zaa}(g:LB el sz ha L rows) (k:Keep ha h3 []) (ho:∀ x,ownB L x → h0.length ≤ x) (y:AB),LB el sz (h3.set (List.length (hp++[dkC d])) y) L rows:=fun g k ho y=>g.keep fun x hx o=>by
  rw [List.getElem?_set_ne (by have:=ho x o;omega)]
  exact k.2 x hx (by simp)
 have k13:Keep h1 h3 []:=k2.trans k3 (by simp)
 have n1:=k1.1
 have n2:=k2.1
 refine ⟨_,zce rfl (zbk (N:=3) (t:=zdi) (by kernel_rfl) rfl (List.getElem?_set_self (by rw [eL];exact zac q3))),S,W,B,rfl,⟨hs l1 k13 o1 _,hs l2 k3 (fun x o=>Nat.le_trans n1 (o2 x o)) _,hs l3 (Keep.refl _ _) (fun x o=>Nat.le_trans n1 (Nat.le_trans n2 (o3 x o))) _,?_,?_,?_,?_,?_,?_⟩,?_⟩
 ·intro x o;have:=o1 x o;omega
 ·intro x o;have:=o2 x o;omega
 ·intro x o;have:=o3 x o;omega
 ·intro x o o';have:=l1.lt o;have:=o2 x o';omega
 ·intro x o o';have:=l1.lt o;have:=o3 x o';omega
 ·intro x o o';have:=l2.lt o;have:=o3 x o';omega
 ·exact ((k0.trans k1 (by simp)).trans k13 (by simp)).set' (.inr (by rw [eL];omega))
end
theorem z3i (s:Str):∃ (p:Page) (k:Int),∀ n,10 ≤ n → ∃ q:Page,Same p q ∧ q.Ok ∧ ∀ h,C n 162 [.str s] h=some (.ret (.tup [q.av,i64 k]),h):=by
 by_cases hx:∃ p:Page,p.Ok ∧ p.check=true ∧ p.enc=s
 ·obtain ⟨p,_,hc,rfl⟩:=hx
  refine ⟨p,0,fun n hn=>?_⟩
  obtain ⟨q,q1,q2,q3⟩:=ztr hn hc
  exact ⟨q,q1,q2,q3⟩
 ·have hno:∀ p:Page,p.Ok → p.check=true → p.enc≠s:=fun p h1 h2 h3=>hx ⟨p,h1,h2,h3⟩
  exact ⟨zPage,8,fun n hn=>⟨zPage,Same.rfl' _,zl0,zw8 hn hno⟩⟩
def RPw (d:Dk) (no:Nat) (p:Page) (e:Int):Prop:=∀ n,11 ≤ n → ∃ q:Page,Same p q ∧ q.Ok ∧ (e≠0 → q=zPage) ∧ ∀ hp w,hp[w]?=some (wriC d) → ∃ h',C n 93 [.ptr w 0 0,i64 no] hp=some (.ret (.tup [q.av,i64 e]),h') ∧ Keep hp h' []
def RP (d:Dk) (no:Int) (p:Page) (e:Int):Prop:=∀ n,14 ≤ n → ∃ q:Page,Same p q ∧ q.Ok ∧ ∀ h,C n 33 [d.av,i64 no] h=some (.ret (.tup [q.av,i64 e]),h)
theorem zrg {d:Dk}(ok:d.Ok) (hr:zap d=true) {no:Nat}(hno:no<zar d) (hc:za1 d (no*8) 8=false):RPw d no zPage 8:=fun n hn=>by
 refine ⟨zPage,Same.rfl' _,zl0,fun _=>rfl,fun hp w hw=>?_⟩
 obtain ⟨m,rfl⟩:=pre1 n
 obtain ⟨v,h',e,rfl,k⟩:=zsk (m:=m) (by omega) ok hr hno hw hc
 exact ⟨h',e,k⟩
theorem z11 {d:Dk}(ok:d.Ok) (hr:zap d=true) {no:Nat}(hno:no<zar d) (hc:za1 d (no*8) 8=true) {p:Page}{k:Int}(hD:∀ n,10 ≤ n → ∃ q:Page,Same p q ∧ q.Ok ∧ ∀ h,C n 162 [.str (zbt d (no*8) 8)] h=some (.ret (.tup [q.av,i64 k]),h)) :
  RPw d no (if k=0 ∧ p.no=no then p else zPage) (if k=0 ∧ p.no=no then 0 else 8):=fun n hn=>by
 obtain ⟨m,rfl⟩:=pre1 n
 obtain ⟨q,s,o,cD⟩:=hD m (by omega)
 by_cases c:k=0 ∧ p.no=no
 ·rw [if_pos c,if_pos c]
  refine ⟨q,s,o,fun h=>(h rfl).elim,fun hp w hw=>?_⟩
  obtain ⟨v,h',e,rfl,kk⟩:=zna (m:=m) (by omega) ok hr hno hw hc cD rfl
  rw [if_pos ⟨c.1,by rw [s.no];exact c.2⟩] at e
  exact ⟨h',e,kk⟩
 ·rw [if_neg c,if_neg c]
  refine ⟨zPage,Same.rfl' _,zl0,fun _=>rfl,fun hp w hw=>?_⟩
  obtain ⟨v,h',e,rfl,kk⟩:=zna (m:=m) (by omega) ok hr hno hw hc cD rfl
  rw [if_neg (fun h=>c ⟨h.1,by rw [← s.no];exact h.2⟩)] at e
  exact ⟨h',e,kk⟩
theorem zzl (N no:Nat) (hno:no<N) (b:Bool) (T:Str):∃ (p:Page) (e:Int),(e≠0 → p=zPage ∧ e=8) ∧ (e=0 → p.no=no) ∧ ∀ d:Dk,d.Ok → zap d=true → zar d=N → za1 d (no*8) 8=b → (b=true → zbt d (no*8) 8=T) → RPw d no p e:=by
 cases b with
 | false=>exact ⟨zPage,8,fun _=>⟨rfl,rfl⟩,(fun h=>by cases h),fun d ok hr hN hc _=>zrg ok hr (by omega) hc⟩
 | true =>
  obtain ⟨p,k,hD⟩:=z3i T
  refine ⟨if k=0 ∧ p.no=no then p else zPage,if k=0 ∧ p.no=no then 0 else 8,?_,?_,fun d ok hr hN hc hT=>?_⟩
  ·split
   ·exact fun h=>(h rfl).elim
   ·exact fun _=>⟨rfl,rfl⟩
  ·split
   ·rename_i c;exact fun _=>c.2
   ·exact fun h=>by cases h
  ·have:=hT rfl
   subst this
   exact z11 ok hr (by omega) hc hD
theorem RPw.file {d:Dk}(ok:d.Ok) (hr:zap d=true) {no:Nat}(h2:2 ≤ no) (hno:no<zar d) {p:Page}{e:Int}(g:RPw d no p e):RP d no p e:=fun n hn=>by
 obtain ⟨m,rfl⟩ : ∃ m,n=m+2:=⟨n-2,by omega⟩
 obtain ⟨q,s,o,zq,cQ⟩:=g (m-1) (by omega)
 exact ⟨q,s,o,fun h=>rpO (fun hp h0 h1=>zy4 (by omega) ok hr h0 h1 (by omega) (by omega) cQ) zq⟩
theorem zy5 (N s:Nat) (hs:s<N) (b:Bool) (T:Str) (hl:T.length<1099511627776):∃ (q:Rt) (e:Int),(e≠0 → q=Rt.zero ∧ e=8) ∧ ∀ d:Dk,d.Ok → zap d=true → zar d=N → za1 d (s*8) 1=b → (b=true → zbt d (s*8) 1=T) →
  (∀ n,11 ≤ n → ∀ hp w,hp[w]?=some (wriC d) → ∃ h',C n 108 [.ptr w 0 0,i64 s] hp=some (.ret (.tup [q.av,i64 e]),h') ∧ Keep hp h' []) ∧
  (∀ n,11 ≤ n → ∀ h,C n 110 [d.av,i64 s] h=some (.ret (.agg (q.cellsE e)),h)):=by
 cases b with
 | false =>
  refine ⟨Rt.zero,8,fun _=>⟨rfl,rfl⟩,fun d ok hr hN hc _=>⟨fun n hn hp w hw=>?_,fun n hn h=>?_⟩⟩
  ·obtain ⟨m,rfl⟩:=pre1 n
   obtain ⟨v,h',e,rfl,k⟩:=zks (m:=m) (by omega) ok hr (by omega) hw hc
   exact ⟨h',e,k⟩
  ·obtain ⟨m,rfl⟩:=pre1 n
   exact zsq (by omega) ok hr (by omega) hc
 | true =>
  obtain ⟨q,k,cD,cE⟩:=zvr T hl
  by_cases c:k=0 ∧ q.pages ≤ N
  ·refine ⟨q,0,fun h=>(h rfl).elim,fun d ok hr hN hc hT=>?_⟩
   have:=hT rfl
   subst this
   subst hN
   refine ⟨fun n hn hp w hw=>?_,fun n hn h=>?_⟩
   ·obtain ⟨m,rfl⟩:=pre1 n
    obtain ⟨v,h',e,rfl,kk⟩:=zm9 (m:=m) (by omega) ok hr hs hw hc (cD m (by omega)) rfl
    rw [if_pos c] at e
    exact ⟨h',e,kk⟩
   ·obtain ⟨m,rfl⟩:=pre1 n
    have:=znl (m:=m) (h:=h) (by omega) ok hr hs hc (cE m (by omega)) rfl
    rwa [if_pos c] at this
  ·refine ⟨Rt.zero,8,fun _=>⟨rfl,rfl⟩,fun d ok hr hN hc hT=>?_⟩
   have:=hT rfl
   subst this
   subst hN
   refine ⟨fun n hn hp w hw=>?_,fun n hn h=>?_⟩
   ·obtain ⟨m,rfl⟩:=pre1 n
    obtain ⟨v,h',e,rfl,kk⟩:=zm9 (m:=m) (by omega) ok hr hs hw hc (cD m (by omega)) rfl
    rw [if_neg c] at e
    exact ⟨h',e,kk⟩
   ·obtain ⟨m,rfl⟩:=pre1 n
    have:=znl (m:=m) (h:=h) (by omega) ok hr hs hc (cE m (by omega)) rfl
    rwa [if_neg c] at this
theorem zut {d:Dk}(hr:zap d=true) {k:Nat}(h:k<d.secs.length):(zbt d k 1).length<1099511627776:=by rw [ziv hr (by omega)];omega
abbrev u8 (k:Int):AV:=.int .u8 k
def outN (pl:List Int) (i:Nat):Nat:=if pl.length ≤ i then 64 else if pl.getD i 0=255 then 64 else (pl.getD i 0).toNat % 65
def tornS (was data:Str) (n:Nat):Str:=data.take n++was.drop n
def crS (pl:List Int):List Wr → Nat → Str → Int → Str
 | [],_,s,_=>s
 | w::r,i,s,x=>crS pl r (i+1) (if w.sec=x then tornS s w.data (outN pl i) else s) x
def insK (ks:List Int) (k:Int):List Int:=if k∈ks then ks else ks++[k]
def whK (pl:List Int):List Wr → Nat → List Int → List Int
 | [],_,ks=>ks
 | w::r,i,ks=>whK pl r (i+1) (if outN pl i=64 then insK ks w.sec else ks)
def crL (pl:List Int) (d:Dk) (j:Nat):List Str:=(List.range d.secs.length).map fun x=>crS pl (d.ws.take j) 0 (d.secs.getD x []) (x:Int)
def mapK (ks:List Int):List (AV × AV):=ks.map fun k=>(i64 k,.bool true)
section
variable {n m:Nat}{h hp:zaa}
structure CH (pl:List Int) (d:Dk) (j:Nat) (L:AV) (h:zaa):Prop where
 d0:h[0]?=some (dkC d)
 d1:h[1]?=some (.cells 0 (some zdi) [.lst 0 [] true,.lst 0 [] true,.lst 0 [] true] 0)
 d2:h[2]?=some (.cells 0 (some tStr) ((crL pl d j).map .str) 0)
 d3:h[3]?=some (.cells 0 (some zdi) [.sl 1 2 0 0 d.secs.length,.lst 0 [] true,L] 0)
 d4:h[4]?=some (.map (mapK (whK pl (d.ws.take j) 0 [])))
theorem CH.lt {pl:List Int}{d:Dk}{j:Nat}{L:AV}{h:zaa}(a:CH pl d j L h):4<h.length:=zac a.d4
theorem CH.keep {pl:List Int}{d:Dk}{j:Nat}{L:AV}{h h':zaa}(a:CH pl d j L h) (k:∀ x,x ≤ 4 → h'[x]?=h[x]?):CH pl d j L h' :=
 ⟨by rw [k 0 (by omega)];exact a.d0,by rw [k 1 (by omega)];exact a.d1,by rw [k 2 (by omega)];exact a.d2,by rw [k 3 (by omega)];exact a.d3,by rw [k 4 (by omega)];exact a.d4⟩
abbrev kpB (pl:List Int) (d:Dk) (j:Nat):List Int:=(d.bad.take j).filter fun b=>!decide (b∈whK pl (d.ws.take d.ws.length) 0 [])
end
abbrev zDk:List AV:=[.lst 0 [] true,.lst 0 [] true,.lst 0 [] true]
abbrev zDC:AB:=.cells 0 (some zdi) zDk 0
def newW (k:Nat) (s:Str) (j:Nat):List Wr:=(List.range j).map fun i=>⟨((k+i:Nat):Int),(s.take (64*(i+1))).drop (64*i)⟩
section
variable {n m:Nat}{h hp:zaa}
theorem zow {P e:Nat}{a:AV}(hP:h[P]?=some (.cells 0 (some tErr) [a] 0)):∃ h',zca Tryz.prog (C m) (zcf Tryz.prog cfg0.inl (C m)) KK 86 [.ptr P 0 0] (.pan (zhx e) false) h=some (.pan (zhx e) true,h') ∧ h'[P]?=some (.cells 0 (some tErr) [i64 e] 0) ∧ Keep h h' [P]:=by
 refine zha D86 rfl ?_
 have lP:=zac hP
 conv=>whnf
 refine stJ (xs:=[i64 e]) (zag _ _) ?_
 conv=>whnf
 refine ldI (zae _ _ _) ?_
 conv=>whnf
 have e1:((h++[AB.cells 0 (some tDF) [i64 0] 0]).set h.length (AB.cells 0 (some tDF) (putAt [i64 0] 0 [i64 e]) 0))[P]?=some (.cells 0 (some tErr) [a] 0):=by
  rw [List.getElem?_set_ne (by omega),List.getElem?_append_left lP];exact hP
 refine stJ (xs:=[i64 e]) e1 ?_
 exact ⟨rfl,⟨[],rfl⟩,List.getElem?_set_self (zac e1),((Keep.app h _ _).set' (.inr (Nat.le_refl _))).set' (.inl (by simp))⟩
theorem zvd {P:Program}{L:LT}{h:zaa}{t u:Tmp}{ty tz:TypeId}{p q v w:AV}(hk:lk L t=some p) (hj:lk L u=some q) (hl:zbv P h ty p=some v) (hm:zbv P h tz q=some w):zb3 P L h [.cell t ty,.cell u tz]=some [v,w]:=by simp only [zb3,hk,hj,hl,hm]
structure WH (d:Dk) (k:Nat) (s:Str) (j P:Nat) (S W B:AV) (h:zaa):Prop where
 e1:h[1]?=some zDC
 e2:h[2]?=some (errC 0)
 eP:h[P]?=some (.cells 0 (some zdi) [S,W,B] 0)
 fs:LB tStr 1 h S ((d.secs.map AV.str).map fun x=>[x])
 fw:LB tDW 2 h W ((d.ws++newW k s j).map Wr.cells)
 fb:LB 3 1 h B ((d.bad.map i64).map fun x=>[x])
 oS:∀ x,ownB S x → 3 ≤ x ∧ x≠P
 oW:∀ x,ownB W x → 3 ≤ x ∧ x≠P
 oB:∀ x,ownB B x → 3 ≤ x ∧ x≠P
 sw:∀ x,ownB S x → ¬ ownB W x
 wb:∀ x,ownB W x → ¬ ownB B x
end
section
variable {n m:Nat}{h hp h2:zaa}
end
def Dk.zero:Dk:=⟨⟨0,true⟩,[],⟨0,true⟩,[],⟨0,true⟩,[]⟩
section
variable {n m:Nat}{h hp:zaa}{d:Dk}
end
abbrev pgC (p:Page):AB:=.cells 0 (some 79) p.cells 0
structure DWrote (d:Dk) (p:Page) (d':Dk):Prop where
 ok:d'.Ok
 secs:d'.secs=d.secs
 ws:d'.ws=d.ws++newW (p.no.toNat*8) p.enc 8
 bad:d'.bad=d.bad
section
variable {n m:Nat}{h hp:zaa}{d:Dk}{p:Page}
end
theorem zxs {n:Nat}{l:List Int}:z0w n l=true ↔ (∀ b∈l,0 ≤ b ∧ b<(n:Int)) ∧ l.Pairwise (· < ·):=by
 unfold z0w
 rw [List.all_eq_true]
 constructor
 ·intro h
  have hb:∀ i (hi:i<l.length),0 ≤ l[i] ∧ l[i]<n ∧ (i=0 ∨ l.getD (i-1) 0<l[i]):=fun i hi=>by
   have:=h i (List.mem_range.2 hi)
   unfold zcg at this
   rw [zfg hi] at this
   simp only [Bool.and_eq_true,Bool.or_eq_true,decide_eq_true_eq] at this
   exact ⟨this.1,this.2.1,this.2.2⟩
  refine ⟨fun b hb'=>?_,List.pairwise_iff_getElem.2 fun i j hi hj hij=>?_⟩
  ·obtain ⟨i,hi,rfl⟩:=List.getElem_of_mem hb'
   exact ⟨(hb i hi).1,(hb i hi).2.1⟩
  ·induction j with
   | zero=>omega
   | succ j ih =>
    have h1:=(hb (j+1) hj).2.2.resolve_left (by omega)
    rw [Nat.add_sub_cancel,zfg (show j<l.length by omega)] at h1
    by_cases c:i=j
    ·subst c;exact h1
    ·exact Int.lt_trans (ih (by omega) (by omega)) h1
 ·rintro ⟨h1,h2⟩ i hi
  have hi:=List.mem_range.1 hi
  unfold zcg
  rw [zfg hi]
  have:=h1 _ (List.getElem_mem hi)
  simp only [Bool.and_eq_true,Bool.or_eq_true,decide_eq_true_eq]
  refine ⟨this.1,this.2,?_⟩
  by_cases c:i=0
  ·exact .inl c
  ·rw [zfg (show i-1<l.length by omega)]
   exact .inr (List.pairwise_iff_getElem.1 h2 (i-1) i (by omega) hi (by omega))
theorem rightD_iff2 {d:Dk}:zap d=true ↔ (1 ≤ d.secs.length ∧ d.secs.length ≤ 32768 ∧ d.ws.length ≤ 40000) ∧ (∀ s∈d.secs,s.length=64) ∧ (∀ w∈d.ws,0 ≤ w.sec ∧ w.sec<(d.secs.length:Int) ∧ w.data.length=64) ∧ (∀ b∈d.bad,0 ≤ b ∧ b<(d.secs.length:Int)) ∧ d.bad.Pairwise (· < ·):=by
 have e1:∀ w:Wr,wrOk d.secs.length w=true ↔ 0 ≤ w.sec ∧ w.sec<(d.secs.length:Int) ∧ w.data.length=64:=fun w=>by simp [wrOk]
 unfold zap
 simp only [Bool.and_eq_true,decide_eq_true_eq,List.all_eq_true,zxs,e1]
section
variable {d d':Dk}{p:Page}
end
structure Crashed (pl:List Int) (d f:Dk):Prop where
 ok:f.Ok
 secs:f.secs=crL pl d d.ws.length
 ws:f.ws=[]
 bad:f.bad=kpB pl d d.bad.length
section
variable {d f:Dk}{pl:List Int}
end
section
variable {n m:Nat}{h hp:zaa}
end
def c57:RC :=
 (.seq (.ops [(oP 2 (.box 46 (.t 0))),(oP 4 (.alloc 46 [(.lst 0 [] true),(.lst 0 [] true),(.lst 0 [] true)])),(oP 5 (.alloc 29 [(.int .i64 0)]))])
 (.seq (.ops [⟨none,none,.dfr { callee:=.value (.func 86),args:=#[(.tmp 5)],argTypes:=#[172] }⟩])
 (.seq (.ops [(oB 7 3 2),(oP 8 (.mkLst 3 true 1 [(.lst 0 [] true),(.lst 0 [] true),(.lst 0 [] true)] [(0,3,(.t 7))])),(oV 9 87 8)])
 (.seq (.ops [(oB 10 3 2),(mV 11 1),(oW 12 131 10 11),(oP 13 (.callF 130 [(.t 12),(.c (.int .i64 1))]))])
 (.seq (.ops [(oB 14 3 2),(oV 15 132 14),(oP 6 (.alloc 46 [(.lst 0 [] true),(.lst 0 [] true),(.lst 0 [] true)])),(oT 3 6 15)])
 (.seq (.ops [(oC 16 2 2),(oA 17 16),(mV 18 1),(oW 19 133 17 18),(oC 20 2 6),(oT 1 20 19)])
 (.seq (.ops [(oB 21 3 6),(oT 3 4 21),(oU (.store 1 (.t 5) (.c (.int .i64 0))))])
 .ret)))))))
theorem F57:FI 57 2 22 5 [.cell 4 46,.cell 5 29] c57:=mkF Tryz.f57 Tryz.func57
def c12:RC :=
 (.seq (.ops [(oP 2 (.box 46 (.t 0))),(oP 4 (.mv (.c (.bool false))))])
 (.seq (.seq (.ops [(oB 17 3 2),(oV 18 21 17),(oP 19 (.un .not (.t 18)))])
 (.cond (.t 19)
 (.seq (.ops [(oP 20 (.callF 14 [])),(mV 4 20)])
 .ret)
 .skip))
 (.seq (.ops [(oB 22 3 2),(mV 23 1),(oP 24 (.toInt .i64 (.t 23))),(oW 25 57 22 24),(mV 21 25),(oQ 26 21 0),(oQ 27 21 1),(oP 5 (.alloc 46 [(.lst 0 [] true),(.lst 0 [] true),(.lst 0 [] true)])),(oT 3 5 26),(mV 6 27)])
 (.seq (.seq (.ops [(mV 28 6),(oJ 29 .neq 28 0)])
 (.cond (.t 29)
 (.seq (.ops [(oP 30 (.callF 14 [])),(mV 4 30)])
 .ret)
 .skip))
 (.seq (.seq (.ops [(oH 7 2)])
 (.block 0
 (.loop
 (.seq (.seq (.ops [(mV 31 7),(oC 32 0 2),(oA 33 32),(oK 34 33),(oJ 35 .quo 34 8),(oI 36 .lss 31 35)])
 (.cond (.t 36)
 .skip
 (.exit 0)))
 (.seq (.block 1
 (.seq (.ops [(oB 40 3 2),(mV 41 7),(oW 42 33 40 41),(mV 39 42),(oQ 43 39 0),(oQ 44 39 1),(oP 8 (.alloc 79 zPl)),(oT 10 8 43),(mV 9 44)])
 (.seq (.ops [(oB 46 3 5),(mV 47 7),(oW 48 33 46 47),(mV 45 48),(oQ 49 45 0),(oQ 50 45 1),(oP 10 (.alloc 79 zPl)),(oT 10 10 49),(mV 11 50)])
 (.seq (.ops [(mV 51 7),(mV 52 1),(oP 53 (.toInt .i64 (.t 52))),(oJ 54 .quo 53 8),(oI 55 .neq 51 54),(mV 56 55),(oE 57 56 true 9),(oE 58 56 true 11),(oG 59 56 true (.bin .neq (.t 57) (.t 58))),(oE 60 56 true 59),(oG 61 60 false (.load true 10 (.t 8))),(oG 62 60 false (.load true 10 (.t 10))),(oG 63 60 false (.callF 34 [(.t 61),(.t 62)])),(oG 64 60 false (.un .not (.t 63))),(oG 65 56 true (.pick (.t 60) (.c (.bool true)) (.t 64))),(oN 66 56 65),(mV 67 66),(oE 68 67 false 11),(oG 69 67 false (.bin .eql (.t 68) (.c (.int .i64 0)))),(oE 70 67 false 69),(oG 71 70 true (.load true 10 (.t 8))),(oG 72 70 true (.load true 10 (.t 10))),(oG 73 70 true (.callF 34 [(.t 71),(.t 72)])),(oG 74 70 true (.un .not (.t 73))),(oG 75 67 false (.pick (.t 70) (.t 74) (.c (.bool false)))),(oM 76 67 75)])
 (.cond (.t 76)
 (.seq (.ops [(oP 4 (.mv (.c (.bool false))))])
 .ret)
 .skip)))))
 (.ops [(mV 37 7),(oJ 38 .add 37 1),(mV 7 38)]))))))
 (.cut (.seq (.seq (.ops [(oH 12 0)])
 (.block 2
 (.loop
 (.seq (.seq (.ops [(mV 77 12),(oJ 78 .lss 77 2)])
 (.cond (.t 78)
 .skip
 (.exit 2)))
 (.seq (.block 3
 (.seq (.ops [(oB 82 3 2),(mV 83 12),(oW 84 41 82 83),(mV 81 84),(oQ 85 81 0),(oQ 86 81 1),(oP 13 (.alloc 27 zRl)),(oT 21 13 85),(mV 14 86)])
 (.seq (.ops [(oB 88 3 5),(mV 89 12),(oW 90 41 88 89),(mV 87 90),(oQ 91 87 0),(oQ 92 87 1),(oP 15 (.alloc 27 zRl)),(oT 21 15 91),(mV 16 92)])
 (.seq (.ops [(mV 93 1),(oP 94 (.toInt .i64 (.t 93))),(mV 95 12),(oJ 96 .mul 95 8),(oI 97 .neq 94 96),(mV 98 97),(oE 99 98 true 14),(oE 100 98 true 16),(oG 101 98 true (.bin .neq (.t 99) (.t 100))),(oE 102 98 true 101),(oG 103 102 false (.load true 21 (.t 13))),(oG 104 102 false (.load true 21 (.t 15))),(oG 105 102 false (.cmp true 27 (.t 103) (.t 104))),(oG 106 98 true (.pick (.t 102) (.c (.bool true)) (.t 105))),(oN 107 98 106),(mV 108 107),(oE 109 108 false 16),(oG 110 108 false (.bin .eql (.t 109) (.c (.int .i64 0)))),(oE 111 108 false 110),(oG 112 111 true (.load true 21 (.t 13))),(oG 113 111 true (.load true 21 (.t 15))),(oG 114 111 true (.cmp true 27 (.t 112) (.t 113))),(oG 115 108 false (.pick (.t 111) (.t 114) (.c (.bool false)))),(oM 116 108 115)])
 (.cond (.t 116)
 (.seq (.ops [(oP 4 (.mv (.c (.bool false))))])
 .ret)
 .skip)))))
 (.ops [(mV 79 12),(oJ 80 .add 79 1),(mV 12 80)]))))))
 (.cut (.seq (.ops [(oP 117 (.callF 14 [])),(mV 4 117)])
 .ret)))))))))
theorem F12:FI 12 2 118 7 [.tmp 4] c12:=mkF Tryz.f12 Tryz.func12
theorem zod {x:Int}:∀ l:List Int,l.Pairwise (· < ·) → x ∉ l → (insL l (l.countP (·<x)) x).Pairwise (· < ·) ∧ ∀ y,y∈insL l (l.countP (·<x)) x ↔ y=x ∨ y∈l
 | [],_,_=>by simp [insL]
 | a::r,h,hx=>by
  obtain ⟨h1,h2⟩:=List.pairwise_cons.1 h
  have hxr:x ∉ r:=fun q=>hx (by simp [q])
  by_cases c:a<x
  ·obtain ⟨i1,i2⟩:=zod r h2 hxr
   have e:insL (a::r) ((a::r).countP (·<x)) x=a::insL r (r.countP (·<x)) x:=by
    rw [List.countP_cons_of_pos (by simpa using c)]
    simp [insL]
   rw [e]
   refine ⟨List.pairwise_cons.2 ⟨fun y hy=>?_,i1⟩,fun y=>?_⟩
   ·rcases (i2 y).1 hy with rfl | q
    ·exact c
    ·exact h1 y q
   ·rw [List.mem_cons,i2,List.mem_cons]
    constructor
    ·rintro (q | q | q)
     ·exact .inr (.inl q)
     ·exact .inl q
     ·exact .inr (.inr q)
    ·rintro (q | q | q)
     ·exact .inr (.inl q)
     ·exact .inl q
     ·exact .inr (.inr q)
  ·have hlt:x<a:=by
    have:a≠x:=fun q=>hx (by simp [q])
    omega
   have h0:(a::r).countP (·<x)=0:=by
    rw [List.countP_eq_zero]
    intro b hb
    rcases List.mem_cons.1 hb with rfl | q
    ·simpa using Int.le_of_lt hlt
    ·have:=h1 b q
     simp
     omega
   rw [h0]
   have e:insL (a::r) 0 x=x::a::r:=by simp [insL]
   rw [e]
   refine ⟨List.pairwise_cons.2 ⟨fun y hy=>?_,h⟩,fun y=>List.mem_cons⟩
   rcases List.mem_cons.1 hy with rfl | q
   ·exact hlt
   ·exact Int.lt_trans hlt (h1 y q)
theorem zji {x:Int}{l:List Int}(h:l.Pairwise (· < ·)):(insZ l x).Pairwise (· < ·) ∧ ∀ y,y∈insZ l x ↔ y=x ∨ y∈l:=by
 unfold insZ
 cases c:l.contains x with
 | true =>
  rw [if_pos rfl]
  have:=List.contains_iff_mem.1 c
  exact ⟨h,fun y=>⟨.inr,fun q=>q.elim (fun e=>by subst e;exact this) id⟩⟩
 | false =>
  rw [if_neg (by decide)]
  exact zod l h fun q=>by rw [List.contains_iff_mem.2 q] at c;cases c
structure DFault (d:Dk) (x:Nat) (c:Dk):Prop where
 ok:c.Ok
 secs:c.secs=d.secs
 ws:c.ws=d.ws
 bad:c.bad=insZ d.bad x
section
variable {d c:Dk}{x:Nat}
theorem zqf (hr:zap d=true) (hx:x<d.secs.length) (f:DFault d x c):zap c=true:=by
 obtain ⟨z,hs,hw,hb,hp⟩:=rightD_iff2.1 hr
 obtain ⟨i1,i2⟩:=zji (x:=(x:Int)) hp
 rw [rightD_iff2,f.secs,f.ws,f.bad]
 refine ⟨z,hs,hw,fun b hb'=>?_,i1⟩
 rcases (i2 b).1 hb' with rfl | q
 ·omega
 ·exact hb b q
theorem zjv (f:DFault d x c):zar c=zar d:=by unfold zar;rw [f.secs]
theorem zjw (f:DFault d x c) (y:Nat):curD c y=curD d y:=by unfold curD;rw [f.ws,f.secs]
theorem zgj (hr:zap d=true) (f:DFault d x c) {y:Nat}(hy:y≠x):canD c y=canD d y:=by
 obtain ⟨z,hs,hw,hb,hp⟩:=rightD_iff2.1 hr
 unfold canD
 rw [f.ws,f.bad]
 have:(insZ d.bad x).contains (y:Int)=d.bad.contains (y:Int):=by
  rw [Bool.eq_iff_iff,List.contains_iff_mem,List.contains_iff_mem,(zji hp).2]
  exact ⟨fun q=>q.resolve_left (by omega),.inr⟩
 rw [this]
theorem zlo (hr:zap d=true) (f:DFault d x c) {y:Nat}(h:canD c y=true):canD d y=true:=by
 by_cases hy:y=x
 ·subst hy
  obtain ⟨z,hs,hw,hb,hp⟩:=rightD_iff2.1 hr
  unfold canD at h ⊢
  rw [f.ws,f.bad] at h
  have:(insZ d.bad y).contains (y:Int)=true:=by rw [List.contains_iff_mem,(zji hp).2];exact .inl rfl
  rw [this] at h
  simp at h
  rw [h]
  rfl
 ·rw [← zgj hr f hy];exact h
end
theorem z3g (n:Nat) {h:zaa}{S W:AV}{secs:List Str}{ws:List Wr}(bad:List Int) (s:LB tStr 1 h S ((secs.map AV.str).map fun x=>[x])) (w:LB tDW 2 h W (ws.map Wr.cells)) (hb:bad.length<KK) :
  ∃ d':Dk,d'.secs=secs ∧ d'.ws=ws ∧ d'.bad=bad ∧ d'.Ok ∧ Abs.frz h (n+3) (.agg [S,W,.lst 1 (bad.map i64) false])=some d'.av:=by
 obtain ⟨s1,e1,z1⟩:=s.frz1 (n:=n+1) fun x hx=>by obtain ⟨y,_,rfl⟩:=List.mem_map.1 hx;rfl
 obtain ⟨s2,e2,z2⟩:=w.frzR (by decide) (n:=n+1) (zeo fun x hx=>by
  obtain ⟨r,hr,hx⟩:=List.mem_flatten.1 hx
  obtain ⟨y,_,rfl⟩:=List.mem_map.1 hr
  simp only [Wr.cells,List.mem_cons,List.not_mem_nil,or_false] at hx
  rcases hx with rfl | rfl<;>rfl)
 rw [List.map_map] at e2
 have e3:Abs.frz h (n+2) (.lst 1 (bad.map i64) false)=some (.lst 1 (bad.map i64) false):=by
  show (allM (Abs.frz h (n+1)) (bad.map i64)).map (fun ys=>AV.lst 1 ys false)=_
  rw [zeo fun x hx=>by obtain ⟨y,_,rfl⟩:=List.mem_map.1 hx;rfl];rfl
 refine ⟨⟨s1,secs,s2,ws,⟨1,false⟩,bad⟩,rfl,rfl,rfl,⟨fun q=>z1 (by simpa using q),fun q=>z2 (by simpa using q),fun q=>rfl,hb⟩,?_⟩
 show (allM (Abs.frz h (n+2)) [S,W,.lst 1 (bad.map i64) false]).map AV.agg=_
 simp only [allM,e1,e2,e3]
 rfl
theorem zz2 (l:List Int) (x:Int):(insZ l x).length ≤ l.length+1:=by
 unfold insZ
 split
 ·omega
 ·rw [zrx]
  exact Nat.le_refl _
section
variable {n m:Nat}{h hp:zaa}
theorem zqb (hn:1 ≤ n) (l:List Int) {sz:Nat}(hz:l≠[] → sz=1) (c:Bool) (hp':l.Pairwise (· < ·)) (hl:l.length<1099511627776) (x:Int):C n 133 [.lst sz (l.map i64) c,i64 x] h=some (.ret (.lst 1 ((insZ l x).map i64) false),h):=by
 obtain ⟨m,rfl⟩:=pre1 n
 refine zmr (by kernel_rfl) (of_decide_eq_true (by kernel_rfl)) ?_
 show insA [.lst sz (l.map i64) c,.int .i64 x] h=_
 unfold insA
 simp only
 rw [show zp8 (l.map i64)=some l from zrq l]
 simp only
 rw [if_pos ⟨by by_cases q:l=[];exact .inl (by simp [q]);exact .inr (hz q),hp'.imp fun q=>Int.le_of_lt q,hl⟩]
theorem z0d (hn:4 ≤ n) (d:Dk) (ok:d.Ok) (hr:zap d=true) (x:Nat) (hx:x<d.secs.length):∃ c,DFault d x c ∧ ∀ h,C n 57 [d.av,i64 x] h=some (.ret (.tup [c.av,i64 0]),h):=by
 obtain ⟨m,rfl⟩:=pre1 n
 obtain ⟨z,-,-,hb,hp⟩:=rightD_iff2.1 hr
 obtain ⟨⟨z1,z2,z3⟩,-,-,z4⟩:=rightD_iff.1 hr
 have hbl:d.bad.length ≤ 32768:=zj8 z2 (Nat.le_refl _) fun i hi _=>z4 i hi
 have cN:∀ (b:Bool) (e:Nat) h,b=true → C m 130 [.bool b,i64 e] h=some (.ret (.tup []),h):=fun b e h q=>by subst q;exact zmk (by omega) e
 have cH:=fun h=>zmz (n:=m) (h:=h) (by omega) d x
 have cI:=fun h=>zqb (n:=m) (h:=h) (by omega) d.bad ok.sb d.bsh.c hp (by omega) (x:Int)
 have hX:∃ r',(∀ h,C (m+1) 57 [d.av,i64 x] h=some (r',h)) ∧ ∃ c,DFault d x c ∧ r'=.ret (.tup [c.av,i64 0]):=by
  refine zjk F57 rfl rfl rfl (by simp [zan,zb0,AV.pureB]) ?_
  conv=>whnf
  refine ⟨rfl,.fn 86 [.ptr 2 0 0],by kernel_rfl,?_⟩
  conv=>whnf
  refine ldI rfl ?_
  conv=>whnf
  refine ⟨rfl,?_⟩
  conv=>whnf
  refine clI (zjn (by omega) d ok hr _) ?_
  conv=>whnf
  refine ldI rfl ?_
  conv=>whnf
  refine clI (cH _) ?_
  conv=>whnf
  refine clI (cN _ 1 _ (by simp;omega)) ?_
  conv=>whnf
  refine ldI rfl ?_
  conv=>whnf
  obtain ⟨r,hc,eC,S,W,B,rfl,D,kc⟩:=zxf (n:=m) (hp:=[dkC d,zDC,errC 0]) (by omega) d ok hr
  refine clI eC ?_
  conv=>whnf
  refine stI (xs:=[S,W,B]) (zag _ _) (agg3 D.s.cells.1 D.w.cells.1 D.b.cells.1) (by rfl) (by rfl) (by rfl) ?_
  have n3:3 ≤ hc.length:=kc.1
  have ka:∀ (x:Nat) (y z:AB),x<hc.length → ((hc++[y]).set hc.length z)[x]?=hc[x]?:=fun x y z hx=>by rw [List.getElem?_set_ne (by omega),List.getElem?_append_left hx]
  conv=>whnf
  refine ldI ((ka 0 _ _ (by omega)).trans (kc.get (x:=0) rfl (by simp))) ?_
  conv=>whnf
  refine clI (cI _) ?_
  conv=>whnf
  refine stJ (xs:=[.lst 1 ((insZ d.bad x).map i64) false]) (zae _ _ _) ?_
  conv=>whnf
  refine ldI (List.getElem?_set_self (by simp)) ?_
  conv=>whnf
  obtain ⟨H,hH⟩ : ∃ H,H=((hc++[zDC]).set hc.length (.cells 0 (some zdi) [S,W,B] 0)).set hc.length (.cells 0 (some zdi) [S,W,.lst 1 ((insZ d.bad x).map i64) false] 0):=⟨_,rfl⟩
  have kH:∀ y,y<hc.length → H[y]?=hc[y]?:=fun y hy=>by rw [hH,List.getElem?_set_ne (by omega)];exact ka y _ _ hy
  have e1:H[1]?=some zDC:=(kH 1 (by omega)).trans (kc.get (x:=1) rfl (by simp))
  have e2:H[2]?=some (errC 0):=(kH 2 (by omega)).trans (kc.get (x:=2) rfl (by simp))
  have q1:(((hc++[zDC]).set hc.length (.cells 0 (some zdi) [S,W,B] 0)).set hc.length (.cells 0 (some zdi) [S,W,.lst 1 ((insZ d.bad x).map i64) false] 0))[1]?=some zDC:=by rw [← hH];exact e1
  refine stI (xs:=[S,W,.lst 1 ((insZ d.bad x).map i64) false]) q1 (agg3 D.s.cells.1 D.w.cells.1 rfl) (by rfl) (by rfl) (by rfl) ?_
  conv=>whnf
  have q2:((((hc++[zDC]).set hc.length (.cells 0 (some zdi) [S,W,B] 0)).set hc.length (.cells 0 (some zdi) [S,W,.lst 1 ((insZ d.bad x).map i64) false] 0)).set 1 (.cells 0 (some zdi) [S,W,.lst 1 ((insZ d.bad x).map i64) false] 0))[2]?=some (errC 0):=by rw [← hH,List.getElem?_set_ne (by decide)];exact e2
  refine stJ (xs:=[i64 0]) q2 ?_
  obtain ⟨F,hF⟩ : ∃ F,F=((((hc++[zDC]).set hc.length (.cells 0 (some zdi) [S,W,B] 0)).set hc.length (.cells 0 (some zdi) [S,W,.lst 1 ((insZ d.bad x).map i64) false] 0)).set 1 (.cells 0 (some zdi) [S,W,.lst 1 ((insZ d.bad x).map i64) false] 0)).set 2 (errC 0):=⟨_,rfl⟩
  have kF:∀ y,3 ≤ y → y<hc.length → F[y]?=hc[y]?:=fun y h3 hy=>by
   rw [hF,List.getElem?_set_ne (by omega),List.getElem?_set_ne (by omega),← hH];exact kH y hy
  have f1:F[1]?=some (.cells 0 (some zdi) [S,W,.lst 1 ((insZ d.bad x).map i64) false] 0):=by
   rw [hF,List.getElem?_set_ne (by decide)];exact List.getElem?_set_self (zac q1)
  have f2:F[2]?=some (errC 0):=by rw [hF];exact List.getElem?_set_self (zac q2)
  obtain ⟨c,a1,a2,a3,a4,a5⟩:=z3g 60 (insZ d.bad x) (D.s.keep (h':=F) fun y hy o=>kF y (D.os y o) hy) (D.w.keep (h':=F) fun y hy o=>kF y (D.ow y o) hy) (by have:=zz2 d.bad x;simp only [KK];omega)
  have fz:Abs.frz F 64 (tupA [.agg [S,W,.lst 1 ((insZ d.bad x).map i64) false],i64 0])=some (.tup [c.av,i64 0]):=by
   show (allM (Abs.frz F 63) [.agg [S,W,.lst 1 ((insZ d.bad x).map i64) false],i64 0]).map AV.tup=_
   have e9:Abs.frz F 63 (i64 0)=some (i64 0):=rfl
   simp only [allM,a5,e9]
   rfl
  obtain ⟨h',e8,rfl⟩:=zr6 (m:=m) (h:=F) (P:=2)
  rw [hF] at e8 fz f1 f2
  exact ⟨zfi,_,_,e8,[.agg [S,W,.lst 1 ((insZ d.bad x).map i64) false],i64 0],zvd rfl rfl (zbk (N:=3) (by kernel_rfl) rfl f1) (zg9 f2),.ret (.tup [c.av,i64 0]),⟨_,fz,rfl⟩,c,⟨a4,a1,a2,a3⟩,rfl⟩
 obtain ⟨r',e,c,f,rfl⟩:=hX
 exact ⟨c,f,e⟩
theorem z0e (hn:4 ≤ n) (d:Dk) (ok:d.Ok) (x:Nat) (hx:¬(zap d=true ∧ x<d.secs.length)):C n 57 [d.av,i64 x] h=some (.ret (.tup [.agg zDk,i64 (if zap d=true then 1 else 2)]),h):=by
 obtain ⟨m,rfl⟩:=pre1 n
 have cP:∀ (b:Bool) (e:Nat) h,b=false → C m 130 [.bool b,i64 e] h=some (.pan (zhx e),h):=fun b e h q=>by subst q;exact zpz (by omega) e
 have cH:=fun h=>zmz (n:=m) (h:=h) (by omega) d x
 refine zcw F57 rfl rfl rfl (by simp [zan,zb0,AV.pureB]) ?_
 conv=>whnf
 refine ⟨rfl,.fn 86 [.ptr 2 0 0],by kernel_rfl,?_⟩
 conv=>whnf
 refine ldI rfl ?_
 conv=>whnf
 refine ⟨rfl,?_⟩
 conv=>whnf
 cases hr:zap d with
 | false =>
  refine clP (zwu (by omega) d ok hr _) ?_
  conv=>whnf
  obtain ⟨h',e8,q8,k8⟩:=zow (m:=m) (h:=[dkC d,zDC,errC 0]) (P:=2) (e:=2) rfl
  exact ⟨zfi,_,_,e8,[.agg zDk,i64 2],zvd rfl rfl (zbk (N:=3) (by kernel_rfl) rfl (k8.get (x:=1) rfl (by simp))) (zg9 q8),_,rfl,rfl⟩
 | true =>
  have hx:¬ x<d.secs.length:=fun q=>hx ⟨hr,q⟩
  refine clI (zjn (by omega) d ok hr _) ?_
  conv=>whnf
  refine ldI rfl ?_
  conv=>whnf
  refine clI (cH _) ?_
  conv=>whnf
  refine clP (cP _ 1 _ (by simp;omega)) ?_
  conv=>whnf
  obtain ⟨h',e8,q8,k8⟩:=zow (m:=m) (h:=[dkC d,zDC,errC 0]) (P:=2) (e:=1) rfl
  exact ⟨zfi,_,_,e8,[.agg zDk,i64 1],zvd rfl rfl (zbk (N:=3) (by kernel_rfl) rfl (k8.get (x:=1) rfl (by simp))) (zg9 q8),_,rfl,rfl⟩
end
section
variable {n m:Nat}{h:zaa}
structure PgI (p:Page):Prop where
 esz:p.entries≠[] → p.esh.sz=22
 fsz:p.freed≠[] → p.fsh.sz=2
 fr:∀ f∈p.freed,f.Ok ∧ f.pages.length<9223372036854775808
structure Few5 (p:Page):Prop where
 e:p.entries.length ≤ 60
 d:p.data.length ≤ 600
 f:p.freed.length ≤ 130
 k:∀ e∈p.entries,e.key.length ≤ 200 ∧ e.val.length ≤ 200
theorem Few5.ok {p:Page}(g:Few5 p) (i:PgI p):p.Ok :=
 ⟨i.esz,i.fsz,by have:=g.e;omega,by have:=g.f;omega,by have:=g.d;omega,fun e he=>by have:=g.k e he;exact ⟨by omega,by omega⟩,i.fr⟩
end
section
variable {n:Nat}{h:zaa}
theorem zyy (hn:1 ≤ n) (d:Dk) (ok:d.Ok):∃ r,(∀ h,C n 21 [d.av] h=some (r,h)) ∧ ∃ b:Bool,r=.ret (.bool b):=by
 obtain ⟨m,rfl⟩:=pre1 n
 have e1:(d.secs.map AV.str).length=d.secs.length:=List.length_map ..
 have e2:(d.ws.map Wr.av).length=d.ws.length:=List.length_map ..
 refine zjk F21 rfl rfl rfl (by simp [zan,zb0]) ?_
 by_cases hz:d.secs.length ≤ 200 ∧ d.ws.length ≤ 200 ∧ d.bad.length ≤ 200
 ·have e3:(d.bad.map i64).length=d.bad.length:=List.length_map ..
  conv=>whnf
  refine ldI rfl ?_
  conv=>whnf
  refine brd (fun a=>absurd a (by omega)) (fun _=>?_)
  conv=>whnf
  refine ldI rfl ?_
  conv=>whnf
  refine brd (fun a=>absurd a (by omega)) (fun _=>?_)
  conv=>whnf
  refine ldI rfl ?_
  conv=>whnf
  refine brd (fun a=>absurd a (by omega)) (fun _=>?_)
  conv=>whnf
  refine za7 (by decide) rfl (α:=Nat) (fun j=>⟨[(1,.ptr 0 0 0),(3,i64 j)],[dkC d],[]⟩) (fun j=>j ≤ d.secs.length) (fun j=>d.secs.length-j) 0 ⟨⟨rfl,rfl⟩,rfl,rfl⟩ (Nat.zero_le _) (by simp only [KK];omega) ?_
  intro j g1
  conv=>whnf
  refine ldI rfl ?_
  conv=>whnf
  refine brd (fun a=>?_) (fun a=>?_)
  ·have hj:j<d.secs.length:=by omega
   conv=>whnf
   refine ldI rfl ?_
   conv=>whnf
   refine ixL zgt hj ok.ss ?_
   conv=>whnf
   refine brd (fun q=>?_) (fun q=>?_)
   ·exact ⟨_,rfl,_,⟨_,rfl,rfl⟩,_,rfl⟩
   ·conv=>whnf
    refine zJ j ?_
    exact nxI (j+1) hj (by omega) ⟨⟨rfl,rfl⟩,rfl,rfl⟩
  ·conv=>whnf
   refine cutI (by decide) rfl (t:=⟨[(1,.ptr 0 0 0)],[dkC d],[]⟩) ⟨rfl,rfl,rfl⟩ ?_
   conv=>whnf
   refine za7 (by decide) rfl (α:=Nat) (fun j=>⟨[(1,.ptr 0 0 0),(4,i64 j)],[dkC d],[]⟩) (fun j=>j ≤ d.ws.length) (fun j=>d.ws.length-j) 0 ⟨⟨rfl,rfl⟩,rfl,rfl⟩ (Nat.zero_le _) (by simp only [KK];omega) ?_
   intro j g1
   conv=>whnf
   refine ldI rfl ?_
   conv=>whnf
   refine brd (fun a=>?_) (fun a=>?_)
   ·have hj:j<d.ws.length:=by omega
    conv=>whnf
    refine ldI rfl ?_
    conv=>whnf
    refine ixL zc2 hj ok.sw ?_
    conv=>whnf
    refine brd (fun q=>?_) (fun q=>?_)
    ·exact ⟨_,rfl,_,⟨_,rfl,rfl⟩,_,rfl⟩
    ·conv=>whnf
     refine zJ j ?_
     exact nxI (j+1) hj (by omega) ⟨⟨rfl,rfl⟩,rfl,rfl⟩
   ·conv=>whnf
    refine cutI (by decide) rfl (t:=⟨[],[dkC d],[]⟩) ⟨trivial,rfl,rfl⟩ ?_
    exact ⟨_,rfl,_,⟨_,rfl,rfl⟩,_,rfl⟩
 ·have e3:(d.bad.map i64).length=d.bad.length:=List.length_map ..
  repeat' (conv=>whnf);first
   | (exfalso;omega)
   | refine brd (fun _=>?_) (fun _=>?_)
   | refine bre (fun _=>?_) (fun _=>?_)
   | refine brq (fun _=>?_) (fun _=>?_)
   | refine brn (fun _=>?_) (fun _=>?_)
   | refine br (fun _=>?_) (fun _=>?_)
   | refine ldI (by rfl) ?_
   | refine ldI (zae _ _ _) ?_
   | refine ldI (zag _ _) ?_
   | refine stJ (by rfl) ?_
   | refine stJ (zag _ _) ?_
   | refine zI (zad (by omega) (by omega)) ?_
   | refine cutS (by decide) rfl ?_
  all_goals exact ⟨_,rfl,_,⟨_,rfl,rfl⟩,_,rfl⟩
end
section
variable {n m:Nat}{h hp:zaa}{d:Dk}
end
section
variable {n m:Nat}{h hp:zaa}{d:Dk}
end
structure LP (d c f:Dk) (p:Page) (h:zaa):Prop where
 h0:h[0]?=some (dkC d)
 h1:h[1]?=some (pgC p)
 h2:h[2]?=some (dkC c)
 h3:h[3]?=some (dkC f)
theorem LP.lt {d c f:Dk}{p:Page}{h:zaa}(g:LP d c f p h):3<h.length:=zac g.h3
theorem LP.keep {d c f:Dk}{p:Page}{h h':zaa}(g:LP d c f p h) (k:∀ x,x ≤ 3 → h'[x]?=h[x]?):LP d c f p h' :=
 ⟨by rw [k 0 (by omega)];exact g.h0,by rw [k 1 (by omega)];exact g.h1,by rw [k 2 (by omega)];exact g.h2,by rw [k 3 (by omega)];exact g.h3⟩
theorem LP.ap {d c f:Dk}{p:Page}{h:zaa}(g:LP d c f p h) (x y:AB):LP d c f p ((h++[x]).set h.length y):=by
 have:=g.lt
 exact g.keep fun z hz=>by rw [List.getElem?_set_ne (by omega),List.getElem?_append_left (by omega)]
theorem gap {h:zaa}{i:Nat}{x y:AB}(hi:i<h.length):((h++[x]).set h.length y)[i]?=h[i]?:=by
 rw [List.getElem?_set_ne (by omega),List.getElem?_append_left hi]
theorem zo2 {d c:Dk}{k n:Nat}(h:∀ i,i<n → canD c (k+i)=canD d (k+i) ∧ curD c (k+i)=curD d (k+i)):za1 c k n=za1 d k n ∧ zbt c k n=zbt d k n:=by
 constructor
 ·rw [Bool.eq_iff_iff,allCan_iff,allCan_iff]
  exact ⟨fun q i hi=>by rw [← (h i hi).1];exact q i hi,fun q i hi=>by rw [(h i hi).1];exact q i hi⟩
 ·unfold zbt
  rw [List.flatMap_def,List.flatMap_def]
  congr 1
  exact List.map_congr_left fun i hi=>(h i (List.mem_range.1 hi)).2
section
variable {n m:Nat}{h:zaa}{d c f:Dk}{p:Page}
end
def RR (d:Dk) (s:Nat) (q:Rt) (e:Int):Prop:=∀ n,14 ≤ n → ∀ h,C n 41 [d.av,i64 s] h=some (.ret (.tup [q.av,i64 e]),h)
structure FP (d c:Dk) (h:zaa):Prop where
 h0:h[0]?=some (dkC d)
 h1:h[1]?=some (dkC c)
theorem FP.lt {d c:Dk}{h:zaa}(g:FP d c h):1<h.length:=zac g.h1
theorem FP.ap {d c:Dk}{h:zaa}(g:FP d c h) (x y:AB):FP d c ((h++[x]).set h.length y):=by
 have:=g.lt
 exact ⟨(gap (by omega)).trans g.h0,(gap (by omega)).trans g.h1⟩
section
variable {n m:Nat}{h:zaa}{d c:Dk}{x:Nat}
theorem z03 (ok:d.Ok) (hr:zap d=true) (h2:¬ 2 ≤ zar d) (s:Nat):RR d s Rt.zero 1:=fun n hn h=>by
 obtain ⟨m,rfl⟩ : ∃ m,n=m+2:=⟨n-2,by omega⟩
 refine rrO (fun hp h0 h1=>?_) fun _=>rfl
 rw [if_neg (by decide)]
 exact z10 (by omega) ok hr h0 h1 (.inr h2)
theorem z1z (ok:d.Ok) (hr:zap d=true) (h2:2 ≤ zar d) {k:Nat}(hk:k=0 ∨ k=1) {q:Rt}{e:Int}(z:e≠0 → q=Rt.zero ∧ e=8)
  (cR:∀ n,11 ≤ n → ∀ hp w,hp[w]?=some (wriC d) → ∃ h',C n 108 [.ptr w 0 0,i64 k] hp=some (.ret (.tup [q.av,i64 e]),h') ∧ Keep hp h' []):RR d k q e:=fun n hn h=>by
 obtain ⟨m,rfl⟩ : ∃ m,n=m+2:=⟨n-2,by omega⟩
 exact rrO (fun hp h0 h1=>zy3 (by omega) ok hr h0 h1 hk h2 (cR (m-1) (by omega))) fun h=>(z h).1
theorem zps (ok:d.Ok) (hr:zap d=true) (f:DFault d x c) (cr:zap c=true) {k:Nat}(hk:k=0 ∨ k=1):∃ (q r:Rt) (e g:Int),RR d k q e ∧ RR c k r g ∧ (x≠k*8 → r=q ∧ g=e) ∧ (g=0 → r=q ∧ g=e):=by
 have hN:=zjv f
 by_cases h2:2 ≤ zar d
 ·have hs:k*8<d.secs.length:=by unfold zar at h2;omega
  obtain ⟨q,e,z,G⟩:=zy5 (zar d) k (by omega) (za1 d (k*8) 1) (zbt d (k*8) 1) (zut hr (by omega))
  have gD:=z1z ok hr h2 hk z (G d ok hr rfl rfl fun _=>rfl).1
  have hT:zbt c (k*8) 1=zbt d (k*8) 1:=by simp [zbt,zjw f]
  by_cases hc:za1 c (k*8) 1=za1 d (k*8) 1
  ·have gC:=z1z f.ok cr (by omega) hk z (G c f.ok cr hN hc fun _=>hT).1
   exact ⟨q,q,e,e,gD,gC,fun _=>⟨rfl,rfl⟩,fun _=>⟨rfl,rfl⟩⟩
  ·have hx:x=k*8:=by
    apply Classical.byContradiction
    intro q
    exact hc (by simp [za1,zgj hr f (y:=k*8) (Ne.symm q)])
   have hf:za1 c (k*8) 1=false:=by
    cases q:za1 c (k*8) 1 with
    | false=>rfl
    | true =>
     refine absurd ?_ hc
     rw [q]
     have h1:canD c (k*8)=true:=by simpa [za1] using q
     have h3:=zlo hr f h1
     simp [za1,h3]
   have gC:RR c k Rt.zero 8:=z1z f.ok cr (by omega) hk (fun _=>⟨rfl,rfl⟩) fun n hn hp w hw=>by
    obtain ⟨m,rfl⟩:=pre1 n
    obtain ⟨v,h',e,rfl,kk⟩:=zks (m:=m) (by omega) f.ok cr (by omega) hw hf
    exact ⟨h',e,kk⟩
   exact ⟨q,Rt.zero,e,8,gD,gC,fun q=>(q hx).elim,fun q=>by cases q⟩
 ·exact ⟨Rt.zero,Rt.zero,1,1,z03 ok hr h2 k,z03 f.ok cr (by omega) k,fun _=>⟨rfl,rfl⟩,fun _=>⟨rfl,rfl⟩⟩
theorem zpx (ok:d.Ok) (hr:zap d=true) (f:DFault d x c) (cr:zap c=true) {k:Nat}(h2:2 ≤ k) (hk:k<zar d):∃ (P Q:Page) (e g:Int),RP d k P e ∧ RP c k Q g ∧ (k≠x / 8 → Q=P ∧ g=e) ∧ (g=0 → Q=P ∧ g=e):=by
 have hN:=zjv f
 obtain ⟨P,e,z,_,G⟩:=zzl (zar d) k hk (za1 d (k*8) 8) (zbt d (k*8) 8)
 have gD:=(G d ok hr rfl rfl fun _=>rfl).file ok hr h2 hk
 have hT:zbt c (k*8) 8=zbt d (k*8) 8:=by simp [zbt,zjw f]
 by_cases hc:za1 c (k*8) 8=za1 d (k*8) 8
 ·have gC:=(G c f.ok cr hN hc fun _=>hT).file f.ok cr h2 (by omega)
  exact ⟨P,P,e,e,gD,gC,fun _=>⟨rfl,rfl⟩,fun _=>⟨rfl,rfl⟩⟩
 ·have hx:k=x / 8:=by
   apply Classical.byContradiction
   intro q
   exact hc (zo2 fun i hi=>⟨zgj hr f (by omega),zjw f _⟩).1
  have hf:za1 c (k*8) 8=false:=by
   cases q:za1 c (k*8) 8 with
   | false=>rfl
   | true =>
    refine absurd ?_ hc
    rw [q]
    refine ((allCan_iff.2 fun i hi=>?_).symm)
    exact zlo hr f (allCan_iff.1 q i hi)
  have gC:=(zrg f.ok cr (show k<zar c by omega) hf).file f.ok cr h2 (by omega)
  exact ⟨P,zPage,e,8,gD,gC,fun q=>(q hx).elim,fun q=>by cases q⟩
theorem zot (hm:14 ≤ m) (ok:d.Ok) (hr:zap d=true) (f:DFault d x c) (cr:zap c=true) (b:UInt8) (hb:x=b.toNat) {s:LS}(h0:zaa) (g0:FP d c h0)
  (hs:LS.sub ⟨[(1,.int .u8 b.toNat),(2,.ptr 0 0 0),(5,.ptr 1 0 0),(7,i64 2)],h0,[]⟩ s) {Q:Ex → LS → Prop}
  (hE:∀ L h,FP d c h → subL [(1,.int .u8 b.toNat),(2,.ptr 0 0 0),(5,.ptr 1 0 0)] L → Q (.exit 0) ⟨L,h,[]⟩) :
  OkR Tryz.prog (C m) cfg0.inl KK 118 7 (.loop (c12.lp 0)) s Q:=by
 have e1:(d.secs.map AV.str).length=d.secs.length:=List.length_map ..
 have hz:=(rightD_iff.1 hr).1
 have hpd:zar d ≤ 4096:=by unfold zar;omega
 have hb2:b.toNat<256:=b.toNat_lt
 refine za7 (by decide) rfl (α:=Nat × zaa) (fun x=>⟨[(1,.int .u8 b.toNat),(2,.ptr 0 0 0),(5,.ptr 1 0 0),(7,i64 x.1)],x.2,[]⟩) (fun x=>2 ≤ x.1 ∧ x.1 ≤ zar d+2 ∧ FP d c x.2) (fun x=>zar d+2-x.1) (2,h0) hs ⟨Nat.le_refl _,by simp only;omega,g0⟩ (by simp only [KK];unfold zar;omega) ?_
 rintro ⟨k,hp'⟩ ⟨g1,g2,g⟩
 simp only at g1 g2 g
 conv=>whnf
 refine ldI (g.h0) ?_
 conv=>whnf
 refine ⟨by decide,(zar d:Int),by rw [e1,zzc,zad (by omega) (by omega)];rfl,?_⟩
 conv=>whnf
 refine brd (fun a=>?_) (fun a=>?_)
 ·have hk:k<zar d:=by omega
  obtain ⟨P,Q',E,G,gD,gC,w1,w2⟩:=zpx ok hr f cr g1 hk
  obtain ⟨y,sy,oy,cY⟩:=gD m hm
  obtain ⟨z,sz,oz,cZ⟩:=gC m hm
  conv=>whnf
  refine ldI (g.h0) ?_
  conv=>whnf
  refine clI (cY _) ?_
  conv=>whnf
  refine stJ (xs:=y.cells) (zag _ _) ?_
  conv=>whnf
  have q1:=g.ap (.cells 0 (some 79) zbr 0) (.cells 0 (some 79) y.cells 0)
  refine ldI (q1.h1) ?_
  conv=>whnf
  refine clI (cZ _) ?_
  conv=>whnf
  refine stJ (xs:=z.cells) (zag _ _) ?_
  conv=>whnf
  have q2:=q1.ap (.cells 0 (some 79) zbr 0) (.cells 0 (some 79) z.cells 0)
  refine zI (z:=(b.toNat:Int)) (zad (by omega) (by omega)) ?_
  conv=>whnf
  refine ⟨by decide,((b.toNat / 8:Nat):Int),by rw [zzc,zad (by omega) (by omega)],?_⟩
  conv=>whnf
  refine brq (fun a1=>?_) (fun a1=>?_)
  ·obtain ⟨rfl,rfl⟩:=w1 (by omega)
   have cS:=fun h=>zk7 (n:=m) (h:=h) (by omega) (sy.join sz) oy oz
   conv=>whnf
   refine brq (fun a=>absurd rfl a) (fun _=>?_)
   conv=>whnf
   refine ldI ((gap (by simp)).trans (zae _ _ _)) ?_
   conv=>whnf
   refine ldI (zae _ _ _) ?_
   conv=>whnf
   refine clI (cS _) ?_
   conv=>whnf
   refine brd (fun a2=>?_) (fun a2=>?_)
   ·conv=>whnf
    refine ldI ((gap (by simp)).trans (zae _ _ _)) ?_
    conv=>whnf
    refine ldI (zae _ _ _) ?_
    conv=>whnf
    refine clI (cS _) ?_
    conv=>whnf
    refine zI (z:=((k+1:Nat):Int)) (by rw [zad (by omega) (by omega)];rfl) ?_
    exact nxI (k+1,_) ⟨by simp only;omega,by simp only;omega,q2⟩ (by simp only;omega) ⟨⟨rfl,rfl,rfl,rfl⟩,rfl,rfl⟩
   ·conv=>whnf
    refine zI (z:=((k+1:Nat):Int)) (by rw [zad (by omega) (by omega)];rfl) ?_
    exact nxI (k+1,_) ⟨by simp only;omega,by simp only;omega,q2⟩ (by simp only;omega) ⟨⟨rfl,rfl,rfl,rfl⟩,rfl,rfl⟩
  ·conv=>whnf
   refine brd (fun a2=>?_) (fun a2=>?_)
   ·obtain ⟨rfl,rfl⟩:=w2 a2
    have cS:=fun h=>zk7 (n:=m) (h:=h) (by omega) (sy.join sz) oy oz
    conv=>whnf
    refine ldI ((gap (by simp)).trans (zae _ _ _)) ?_
    conv=>whnf
    refine ldI (zae _ _ _) ?_
    conv=>whnf
    refine clI (cS _) ?_
    conv=>whnf
    refine zI (z:=((k+1:Nat):Int)) (by rw [zad (by omega) (by omega)];rfl) ?_
    exact nxI (k+1,_) ⟨by simp only;omega,by simp only;omega,q2⟩ (by simp only;omega) ⟨⟨rfl,rfl,rfl,rfl⟩,rfl,rfl⟩
   ·conv=>whnf
    refine zI (z:=((k+1:Nat):Int)) (by rw [zad (by omega) (by omega)];rfl) ?_
    exact nxI (k+1,_) ⟨by simp only;omega,by simp only;omega,q2⟩ (by simp only;omega) ⟨⟨rfl,rfl,rfl,rfl⟩,rfl,rfl⟩
 ·conv=>whnf
  exact hE _ _ g ⟨rfl,rfl,rfl⟩
theorem zos (hm:14 ≤ m) (ok:d.Ok) (hr:zap d=true) (f:DFault d x c) (cr:zap c=true) (b:UInt8) (hb:x=b.toNat) {s:LS}(h0:zaa) (g0:FP d c h0)
  (hs:LS.sub ⟨[(1,.int .u8 b.toNat),(2,.ptr 0 0 0),(5,.ptr 1 0 0),(12,i64 0)],h0,[]⟩ s) {Q:Ex → LS → Prop}
  (hE:∀ L h,FP d c h → Q (.exit 2) ⟨L,h,[]⟩) :
  OkR Tryz.prog (C m) cfg0.inl KK 118 7 (.loop (c12.lp 1)) s Q:=by
 have hb2:b.toNat<256:=b.toNat_lt
 refine za7 (by decide) rfl (α:=Nat × zaa) (fun x=>⟨[(1,.int .u8 b.toNat),(2,.ptr 0 0 0),(5,.ptr 1 0 0),(12,i64 x.1)],x.2,[]⟩) (fun x=>x.1 ≤ 2 ∧ FP d c x.2) (fun x=>2-x.1) (0,h0) hs ⟨by simp only;omega,g0⟩ (by simp only [KK];omega) ?_
 rintro ⟨k,hp'⟩ ⟨g1,g⟩
 simp only at g1 g
 conv=>whnf
 refine brd (fun a=>?_) (fun a=>?_)
 ·have hk:k=0 ∨ k=1:=by omega
  obtain ⟨q,r,E,G,gD,gC,w1,w2⟩:=zps ok hr f cr hk
  have cY:=gD m hm
  have cZ:=gC m hm
  conv=>whnf
  refine ldI (g.h0) ?_
  conv=>whnf
  refine clI (cY _) ?_
  conv=>whnf
  refine stJ (xs:=q.cells) (zag _ _) ?_
  conv=>whnf
  have q1:=g.ap (za4 Rt.zero) (za4 q)
  refine ldI (q1.h1) ?_
  conv=>whnf
  refine clI (cZ _) ?_
  conv=>whnf
  refine stJ (xs:=r.cells) (zag _ _) ?_
  conv=>whnf
  have q2:=q1.ap (za4 Rt.zero) (za4 r)
  refine zI (z:=(b.toNat:Int)) (zad (by omega) (by omega)) ?_
  conv=>whnf
  refine zI (z:=((k*8:Nat):Int)) (by rw [zad (by omega) (by omega)];omega) ?_
  conv=>whnf
  refine brq (fun a1=>?_) (fun a1=>?_)
  ·obtain ⟨rfl,rfl⟩:=w1 (by omega)
   conv=>whnf
   refine brq (fun a=>absurd rfl a) (fun _=>?_)
   conv=>whnf
   refine ldI ((gap (by simp)).trans (zae _ _ _)) ?_
   conv=>whnf
   refine ldI (zae _ _ _) ?_
   conv=>whnf
   refine eqI (zfj r) ?_
   conv=>whnf
   refine brd (fun a2=>?_) (fun a2=>?_)
   ·conv=>whnf
    refine ldI ((gap (by simp)).trans (zae _ _ _)) ?_
    conv=>whnf
    refine ldI (zae _ _ _) ?_
    conv=>whnf
    refine eqI (zfj r) ?_
    conv=>whnf
    refine zI (z:=((k+1:Nat):Int)) (by rw [zad (by omega) (by omega)];rfl) ?_
    exact nxI (k+1,_) ⟨by simp only;omega,q2⟩ (by simp only;omega) ⟨⟨rfl,rfl,rfl,rfl⟩,rfl,rfl⟩
   ·conv=>whnf
    refine zI (z:=((k+1:Nat):Int)) (by rw [zad (by omega) (by omega)];rfl) ?_
    exact nxI (k+1,_) ⟨by simp only;omega,q2⟩ (by simp only;omega) ⟨⟨rfl,rfl,rfl,rfl⟩,rfl,rfl⟩
  ·conv=>whnf
   refine brd (fun a2=>?_) (fun a2=>?_)
   ·obtain ⟨rfl,rfl⟩:=w2 a2
    conv=>whnf
    refine ldI ((gap (by simp)).trans (zae _ _ _)) ?_
    conv=>whnf
    refine ldI (zae _ _ _) ?_
    conv=>whnf
    refine eqI (zfj r) ?_
    conv=>whnf
    refine zI (z:=((k+1:Nat):Int)) (by rw [zad (by omega) (by omega)];rfl) ?_
    exact nxI (k+1,_) ⟨by simp only;omega,q2⟩ (by simp only;omega) ⟨⟨rfl,rfl,rfl,rfl⟩,rfl,rfl⟩
   ·conv=>whnf
    refine zI (z:=((k+1:Nat):Int)) (by rw [zad (by omega) (by omega)];rfl) ?_
    exact nxI (k+1,_) ⟨by simp only;omega,q2⟩ (by simp only;omega) ⟨⟨rfl,rfl,rfl,rfl⟩,rfl,rfl⟩
 ·conv=>whnf
  exact hE _ _ g
theorem zmx (hn:20 ≤ n) (d:Dk) (ok:d.Ok) (b:UInt8):C n 12 [d.av,.int .u8 b.toNat] h=some (.ret (.bool true),h):=by
 obtain ⟨m,rfl⟩:=pre1 n
 obtain ⟨rS,cS,bS,rfl⟩:=zyy (n:=m) (by omega) d ok
 have hb2:b.toNat<256:=b.toNat_lt
 have cs:∀ h,C m 14 [] h=some (.ret (.bool true),h):=fun h=>z1v (by omega) h
 refine zak F12 rfl rfl rfl (by simp [zan,zb0,AV.pureB]) ?_
 cases bS with
 | false =>
  conv=>whnf
  refine ldI rfl ?_
  conv=>whnf
  refine clI (cS _) ?_
  conv=>whnf
  refine clI (cs _) ?_
  conv=>whnf
  exact ⟨rfl,_,rfl,rfl⟩
 | true =>
  by_cases hx:zap d=true ∧ b.toNat<d.secs.length
  ·obtain ⟨hr,hl⟩:=hx
   obtain ⟨c,f,cF⟩:=z0d (n:=m) (by omega) d ok hr b.toNat hl
   have cr:=zqf hr hl f
   conv=>whnf
   refine ldI rfl ?_
   conv=>whnf
   refine clI (cS _) ?_
   conv=>whnf
   refine ldI rfl ?_
   conv=>whnf
   refine zI (z:=(b.toNat:Int)) (zad (by omega) (by omega)) ?_
   conv=>whnf
   refine clI (cF _) ?_
   conv=>whnf
   refine stJ (xs:=c.cells) (by rfl) ?_
   conv=>whnf
   refine zot (m:=m) (by omega) ok hr f cr b rfl [dkC d,dkC c] ⟨rfl,rfl⟩ ?_ ?_
   ·exact ⟨⟨rfl,rfl,rfl,rfl⟩,rfl,rfl⟩
   intro L h g hL
   conv=>whnf
   refine cutI (by decide) rfl (t:=⟨[(1,.int .u8 b.toNat),(2,.ptr 0 0 0),(5,.ptr 1 0 0)],h,[]⟩) ⟨hL,rfl,rfl⟩ ?_
   conv=>whnf
   refine zos (m:=m) (by omega) ok hr f cr b rfl h g ?_ ?_
   ·exact ⟨⟨rfl,rfl,rfl,rfl⟩,rfl,rfl⟩
   intro L h g
   conv=>whnf
   refine cutI (by decide) rfl (t:=⟨[],h,[]⟩) ⟨trivial,rfl,rfl⟩ ?_
   conv=>whnf
   refine clI (cs _) ?_
   conv=>whnf
   exact ⟨rfl,_,rfl,rfl⟩
  ·have cF:=fun h=>z0e (n:=m) (h:=h) (by omega) d ok b.toNat hx
   conv=>whnf
   refine ldI rfl ?_
   conv=>whnf
   refine clI (cS _) ?_
   conv=>whnf
   refine ldI rfl ?_
   conv=>whnf
   refine zI (z:=(b.toNat:Int)) (zad (by omega) (by omega)) ?_
   conv=>whnf
   refine clI (cF _) ?_
   conv=>whnf
   refine stJ (xs:=zDk) (by rfl) ?_
   conv=>whnf
   refine brq (fun _=>?_) (fun a=>?_)
   ·conv=>whnf
    refine clI (cs _) ?_
    conv=>whnf
    exact ⟨rfl,_,rfl,rfl⟩
   ·exfalso
    split at a<;>cases a
end
section
variable {n:Nat}{h:zaa}
end
end Go.Proofs
