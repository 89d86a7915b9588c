/- Texts put together: Zn, Zo, Zp, Zq, Zr, Zs, Zt, Zu, Zv, Zw, Zy. -/
import Derived.Test.YtalaebjjleddaaaGreatFrd15
set_option linter.unusedVariables false
set_option linter.unusedSimpArgs false
namespace Go.Proofs
open Go Go.Abs
theorem cvP {P:Program}{call:zbp}{g:FuncId}{args:List AV}{h h':zaa}{K X:AV → zaa → Prop}{v:AV}(h0:fnOk P g=true) (h1:call g args h=some (.pan v,h')) (h2:X v h'):fnOk P g=true ∧ ∃ r h',call g args h=some (r,h') ∧ WpR K X h' r:=⟨h0,.pan v,h',h1,h2⟩
abbrev tTPg:Nat:=79
abbrev zTPg:List AV:=zax
abbrev zCPg:AB:=.cells 0 (some tTPg) zTPg 0
def cRecPg:RC:=match c160 with
 | .seq _ r=>r
 | _=>.skip
theorem DTPg:DefI 160 2 15 5 [] (some 6) [] cRecPg :=
 ⟨⟨Tryz.f160,Tryz.func160,by kernel_rfl,by kernel_rfl,by kernel_rfl⟩,by kernel_rfl,by decide,by kernel_rfl,by kernel_rfl,by kernel_rfl⟩
theorem z0l:fnOk Tryz.prog 160=true:=DTPg.fine
theorem ldTPg {h:zaa}{b:Nat}{cs:List AV}(hl:cs.length=10) (hb:h[b]?=some (.cells 0 (some tTPg) cs 0)):∃ v,zce Tryz.prog h tTPg (.ptr b 0 0)=some v ∧ v=.agg cs:=⟨_,zb9 (N:=10) (by kernel_rfl) hl hb,rfl⟩
section
variable {n m:Nat}{h hp h2:zaa}
theorem retTPg {P I:Nat}:∃ h',zcl Tryz.prog (C m) (zcy Tryz.prog cfg0.inl (C m)) KK 160 [.ptr P 0 0,.ptr I 0 0] .ret h=some (.ret,h') ∧ h'=h:=by
 refine zf5 DTPg rfl ?_
 conv=>whnf
 exact ⟨rfl,⟨[],rfl⟩,rfl⟩
theorem panTPg {P I:Nat}{e:Int}{a:AV}{cs:List AV}(hn:P≠I) (hP:h[P]?=some (.cells 0 (some tTPg) cs 0)) (hc:cs.length=10) (hI:h[I]?=some (.cells 0 (some tErr) [a] 0)) :
  ∃ h',zcl Tryz.prog (C m) (zcy Tryz.prog cfg0.inl (C m)) KK 160 [.ptr P 0 0,.ptr I 0 0] (.pan (zbx e) false) h=some (.pan (zbx e) true,h') ∧ h'[P]?=some zCPg ∧ h'[I]?=some (.cells 0 (some tErr) [i64 e] 0) ∧ Keep h h' [P,I]:=by
 refine zf5 DTPg rfl ?_
 have lP:=zab hP
 have lI:=zab hI
 have hput:putAt cs 0 zTPg=zTPg:=by
  unfold putAt
  rw [List.take_zero,List.nil_append,List.drop_of_length_le (by rw [hc];decide),List.append_nil]
 conv=>whnf
 refine stJ (xs:=[i64 e]) (zaf _ _) ?_
 conv=>whnf
 have k00:Keep h ((h++[AB.cells 0 (some tFF) [i64 0] 0]).set h.length (AB.cells 0 (some tFF) (putAt [i64 0] 0 [i64 e]) 0)) [P,I]:=(Keep.app h _ _).set' (.inr (Nat.le_refl _))
 have k0:=k00.trans (Keep.app _ zCPg []) (by simp)
 have eX:(((h++[AB.cells 0 (some tFF) [i64 0] 0]).set h.length (AB.cells 0 (some tFF) (putAt [i64 0] 0 [i64 e]) 0))++[zCPg])[h.length]?=some (.cells 0 (some tFF) [i64 e] 0):=by
  rw [List.getElem?_append_left (by simp),zag];rfl
 have eZ:=zaf ((h++[AB.cells 0 (some tFF) [i64 0] 0]).set h.length (AB.cells 0 (some tFF) (putAt [i64 0] 0 [i64 e]) 0)) zCPg
 have eP:(((h++[AB.cells 0 (some tFF) [i64 0] 0]).set h.length (AB.cells 0 (some tFF) (putAt [i64 0] 0 [i64 e]) 0))++[zCPg])[P]?=some (.cells 0 (some tTPg) cs 0):=by
  rw [List.getElem?_append_left (by simp;omega),List.getElem?_set_ne (by omega),List.getElem?_append_left lP];exact hP
 have eI:(((h++[AB.cells 0 (some tFF) [i64 0] 0]).set h.length (AB.cells 0 (some tFF) (putAt [i64 0] 0 [i64 e]) 0))++[zCPg])[I]?=some (.cells 0 (some tErr) [a] 0):=by
  rw [List.getElem?_append_left (by simp;omega),List.getElem?_set_ne (by omega),List.getElem?_append_left lI];exact hI
 refine ldI eZ ?_
 conv=>whnf
 refine ldI eX ?_
 conv=>whnf
 refine stI (xs:=zTPg) eP (by rfl) (by rfl) (by rw [hc];decide) (by rfl) ?_
 refine ⟨?_,?_⟩
 ·refine ⟨?_,?_⟩
  ·conv=>whnf
   refine ldI (by rw [List.getElem?_set_ne (by omega)];exact eX) ?_
   rfl
  ·conv=>whnf
   refine ldI (by rw [List.getElem?_set_ne (by simp;omega)];exact eZ) ?_
   rfl
 conv=>whnf
 refine stJ (xs:=[i64 e]) (by rw [List.getElem?_set_ne hn];exact eI) ?_
 refine ⟨rfl,⟨[],rfl⟩,?_,?_,?_⟩
 ·rw [List.getElem?_set_ne (Ne.symm hn),List.getElem?_set_self (by simp;omega),hput]
 ·rw [List.getElem?_set_self (by simp;omega)]
  rfl
 ·exact ((k0.set' (.inl (by simp))).set' (.inl (by simp)))
theorem z30 {R:CRes → zaa → Prop}{L:LT}{P I:Nat}{cs:List AV}(a2:lk L 2=some (.ptr P 0 0)) (a3:lk L 3=some (.ptr I 0 0)) (g1:h[P]?=some (.cells 0 (some tTPg) cs 0)) (hl:cs.length=10) (g2:h[I]?=some (errC 0)) (hR:R (.ret (.tup [.agg cs,i64 0])) h) :
  EndQ Tryz.prog (C m) cfg0.inl [.cell 2 tTPg,.cell 3 tErr] R .ret ⟨L,h,[.fn 160 [.ptr P 0 0,.ptr I 0 0]]⟩:=by
 obtain ⟨h',e1,rfl⟩:=retTPg (m:=m) (h:=h) (P:=P) (I:=I)
 obtain ⟨w,ew,rfl⟩:=ldTPg hl g1
 refine ⟨z0l,_,h',e1,[.agg cs,i64 0],?_,hR⟩
 simp only [zcg,a2,a3,ew,zh2 g2]<;>rfl
theorem z34 {R:CRes → zaa → Prop}{L:LT}{P I:Nat}{e:Int}{cs:List AV}(hn:P≠I) (a2:lk L 2=some (.ptr P 0 0)) (a3:lk L 3=some (.ptr I 0 0)) (g1:h[P]?=some (.cells 0 (some tTPg) cs 0)) (hl:cs.length=10) (g2:h[I]?=some (errC 0)) (hR:∀ h',Keep h h' [P,I] → R (.ret (.tup [.agg zTPg,i64 e])) h') :
  EndQ Tryz.prog (C m) cfg0.inl [.cell 2 tTPg,.cell 3 tErr] R (.pan (zbx e)) ⟨L,h,[.fn 160 [.ptr P 0 0,.ptr I 0 0]]⟩:=by
 obtain ⟨h',e1,q1,q2,k1⟩:=panTPg (m:=m) (h:=h) (P:=P) (I:=I) (e:=e) hn g1 hl g2
 obtain ⟨w,ew,hw⟩:=ldTPg rfl q1
 refine ⟨z0l,_,h',e1,[.agg zTPg,i64 e],?_,hR h' k1⟩
 simp only [zcg,a2,a3,ew,hw,zh2 q2]<;>rfl
theorem z2a {g:FuncId}{caps:List AV}{v:AV}{cs:List AV}(hf:fnOk Tryz.prog g=true) (hg:C m g caps (hp++[zCPg]++[errC 0])=some (.ret v,h2)) (hv:v.cells?=some cs) (hl:cs.length=10) (hx:h2[hp.length]?=some zCPg) (he:h2[(hp++[zCPg]).length]?=some (errC 0)) :
  ∃ r h3,C (m+1) 89 [.fn (.func g) [] caps] hp=some (r,h3) ∧ r=.ret (.tup [.agg cs,i64 0]) ∧ Keep h2 h3 [hp.length,(hp++[zCPg]).length]:=by
 have l2:=zab he
 have l1:=zab hx
 have el:(hp++[zCPg]).length≠hp.length:=by simp
 have hput:putAt zTPg 0 cs=cs:=by
  unfold putAt
  rw [List.take_zero,List.nil_append,List.drop_of_length_le (by rw [hl];decide),List.append_nil]
 refine zav F89 rfl rfl ?_
 conv=>whnf
 refine ⟨rfl,.fn 160 [.ptr hp.length 0 0,.ptr (hp++[zCPg]).length 0 0],by kernel_rfl,?_⟩
 conv=>whnf
 refine cvI hf hg ?_
 conv=>whnf
 refine stI (xs:=cs) hx hv hl (by rw [hl];rfl) (by rfl) ?_
 conv=>whnf
 refine stJ (xs:=[i64 0]) ((List.getElem?_set_ne el.symm).trans he) ?_
 refine z30 (cs:=cs) (P:=hp.length) (I:=(hp++[zCPg]).length) rfl rfl ?_ hl ?_ ⟨rfl,?_⟩
 ·refine (List.getElem?_set_ne el).trans ((List.getElem?_set_self l1).trans ?_)
  rw [hput]
 ·exact List.getElem?_set_self (by rw [List.length_set];exact l2)
 ·exact (Keep.set (by simp)).set' (.inl (by simp))
theorem z2c {g:FuncId}{caps:List AV}{e:Int}{cs:List AV}(hf:fnOk Tryz.prog g=true) (hg:C m g caps (hp++[zCPg]++[errC 0])=some (.pan (zbx e),h2)) (hl:cs.length=10) (hx:h2[hp.length]?=some (.cells 0 (some tTPg) cs 0)) (he:h2[(hp++[zCPg]).length]?=some (errC 0)) :
  ∃ r h3,C (m+1) 89 [.fn (.func g) [] caps] hp=some (r,h3) ∧ r=.ret (.tup [.agg zTPg,i64 e]) ∧ Keep h2 h3 [hp.length,(hp++[zCPg]).length]:=by
 have el:(hp++[zCPg]).length≠hp.length:=by simp
 refine zav F89 rfl rfl ?_
 conv=>whnf
 refine ⟨rfl,.fn 160 [.ptr hp.length 0 0,.ptr (hp++[zCPg]).length 0 0],by kernel_rfl,?_⟩
 conv=>whnf
 refine cvP hf hg ?_
 exact z34 (P:=hp.length) (I:=(hp++[zCPg]).length) el.symm rfl rfl hx hl he fun h' k=>⟨rfl,k⟩
end
abbrev tTIn:Nat:=3
abbrev zTIn:List AV:=[i64 0]
abbrev zCIn:AB:=.cells 0 (some tTIn) zTIn 0
def cRecIn:RC:=match c165 with
 | .seq _ r=>r
 | _=>.skip
theorem DTIn:DefI 165 2 15 5 [] (some 6) [] cRecIn :=
 ⟨⟨Tryz.f165,Tryz.func165,by kernel_rfl,by kernel_rfl,by kernel_rfl⟩,by kernel_rfl,by decide,by kernel_rfl,by kernel_rfl,by kernel_rfl⟩
theorem z0m:fnOk Tryz.prog 165=true:=DTIn.fine
theorem ldTIn {h:zaa}{b:Nat}{cs:List AV}(hl:cs.length=1) (hb:h[b]?=some (.cells 0 (some tTIn) cs 0)):∃ v,zce Tryz.prog h tTIn (.ptr b 0 0)=some v ∧ v=cs.headD .undef:=by
 obtain ⟨x,rfl⟩:=List.length_eq_one_iff.1 hl
 exact ⟨x,zks (N:=1) (by kernel_rfl) hb,rfl⟩
section
variable {n m:Nat}{h hp h2:zaa}
theorem retTIn {P I:Nat}:∃ h',zcl Tryz.prog (C m) (zcy Tryz.prog cfg0.inl (C m)) KK 165 [.ptr P 0 0,.ptr I 0 0] .ret h=some (.ret,h') ∧ h'=h:=by
 refine zf5 DTIn rfl ?_
 conv=>whnf
 exact ⟨rfl,⟨[],rfl⟩,rfl⟩
theorem panTIn {P I:Nat}{e:Int}{a:AV}{cs:List AV}(hn:P≠I) (hP:h[P]?=some (.cells 0 (some tTIn) cs 0)) (hc:cs.length=1) (hI:h[I]?=some (.cells 0 (some tErr) [a] 0)) :
  ∃ h',zcl Tryz.prog (C m) (zcy Tryz.prog cfg0.inl (C m)) KK 165 [.ptr P 0 0,.ptr I 0 0] (.pan (zbx e) false) h=some (.pan (zbx e) true,h') ∧ h'[P]?=some zCIn ∧ h'[I]?=some (.cells 0 (some tErr) [i64 e] 0) ∧ Keep h h' [P,I]:=by
 refine zf5 DTIn rfl ?_
 have lP:=zab hP
 have lI:=zab hI
 have hput:putAt cs 0 zTIn=zTIn:=by
  unfold putAt
  rw [List.take_zero,List.nil_append,List.drop_of_length_le (by rw [hc];decide),List.append_nil]
 conv=>whnf
 refine stJ (xs:=[i64 e]) (zaf _ _) ?_
 conv=>whnf
 have k0:Keep h ((h++[AB.cells 0 (some tFF) [i64 0] 0]).set h.length (AB.cells 0 (some tFF) (putAt [i64 0] 0 [i64 e]) 0)) [P,I]:=(Keep.app h _ _).set' (.inr (Nat.le_refl _))
 have eX:=zag h (AB.cells 0 (some tFF) [i64 0] 0) (AB.cells 0 (some tFF) (putAt [i64 0] 0 [i64 e]) 0)
 have eP:((h++[AB.cells 0 (some tFF) [i64 0] 0]).set h.length (AB.cells 0 (some tFF) (putAt [i64 0] 0 [i64 e]) 0))[P]?=some (.cells 0 (some tTIn) cs 0):=by
  rw [List.getElem?_set_ne (by omega),List.getElem?_append_left lP];exact hP
 have eI:((h++[AB.cells 0 (some tFF) [i64 0] 0]).set h.length (AB.cells 0 (some tFF) (putAt [i64 0] 0 [i64 e]) 0))[I]?=some (.cells 0 (some tErr) [a] 0):=by
  rw [List.getElem?_set_ne (by omega),List.getElem?_append_left lI];exact hI
 refine ldI eX ?_
 conv=>whnf
 refine stI (xs:=zTIn) eP (by rfl) (by rfl) (by rw [hc];decide) (by rfl) ?_
 refine ⟨?_,?_⟩
 ·conv=>whnf
  refine ldI (by rw [List.getElem?_set_ne (by omega)];exact eX) ?_
  rfl
 conv=>whnf
 refine stJ (xs:=[i64 e]) (by rw [List.getElem?_set_ne hn];exact eI) ?_
 refine ⟨rfl,⟨[],rfl⟩,?_,?_,?_⟩
 ·rw [List.getElem?_set_ne (Ne.symm hn),List.getElem?_set_self (by simp;omega),hput]
 ·rw [List.getElem?_set_self (by simp;omega)]
  rfl
 ·exact ((k0.set' (.inl (by simp))).set' (.inl (by simp)))
theorem z31 {R:CRes → zaa → Prop}{L:LT}{P I:Nat}{cs:List AV}(a2:lk L 2=some (.ptr P 0 0)) (a3:lk L 3=some (.ptr I 0 0)) (g1:h[P]?=some (.cells 0 (some tTIn) cs 0)) (hl:cs.length=1) (g2:h[I]?=some (errC 0)) (hR:R (.ret (.tup [cs.headD .undef,i64 0])) h) :
  EndQ Tryz.prog (C m) cfg0.inl [.cell 2 tTIn,.cell 3 tErr] R .ret ⟨L,h,[.fn 165 [.ptr P 0 0,.ptr I 0 0]]⟩:=by
 obtain ⟨h',e1,rfl⟩:=retTIn (m:=m) (h:=h) (P:=P) (I:=I)
 obtain ⟨w,ew,rfl⟩:=ldTIn hl g1
 refine ⟨z0m,_,h',e1,[cs.headD .undef,i64 0],?_,hR⟩
 simp only [zcg,a2,a3,ew,zh2 g2]<;>rfl
theorem z35 {R:CRes → zaa → Prop}{L:LT}{P I:Nat}{e:Int}{cs:List AV}(hn:P≠I) (a2:lk L 2=some (.ptr P 0 0)) (a3:lk L 3=some (.ptr I 0 0)) (g1:h[P]?=some (.cells 0 (some tTIn) cs 0)) (hl:cs.length=1) (g2:h[I]?=some (errC 0)) (hR:∀ h',Keep h h' [P,I] → R (.ret (.tup [(zTIn.headD .undef),i64 e])) h') :
  EndQ Tryz.prog (C m) cfg0.inl [.cell 2 tTIn,.cell 3 tErr] R (.pan (zbx e)) ⟨L,h,[.fn 165 [.ptr P 0 0,.ptr I 0 0]]⟩:=by
 obtain ⟨h',e1,q1,q2,k1⟩:=panTIn (m:=m) (h:=h) (P:=P) (I:=I) (e:=e) hn g1 hl g2
 obtain ⟨w,ew,hw⟩:=ldTIn rfl q1
 refine ⟨z0m,_,h',e1,[(zTIn.headD .undef),i64 e],?_,hR h' k1⟩
 simp only [zcg,a2,a3,ew,hw,zh2 q2]<;>rfl
theorem ztt {g:FuncId}{caps:List AV}{v:AV}{cs:List AV}(hf:fnOk Tryz.prog g=true) (hg:C m g caps (hp++[zCIn]++[errC 0])=some (.ret v,h2)) (hv:v.cells?=some cs) (hl:cs.length=1) (hx:h2[hp.length]?=some zCIn) (he:h2[(hp++[zCIn]).length]?=some (errC 0)) :
  ∃ r h3,C (m+1) 99 [.fn (.func g) [] caps] hp=some (r,h3) ∧ r=.ret (.tup [cs.headD .undef,i64 0]) ∧ Keep h2 h3 [hp.length,(hp++[zCIn]).length]:=by
 have l2:=zab he
 have l1:=zab hx
 have el:(hp++[zCIn]).length≠hp.length:=by simp
 have hput:putAt zTIn 0 cs=cs:=by
  unfold putAt
  rw [List.take_zero,List.nil_append,List.drop_of_length_le (by rw [hl];decide),List.append_nil]
 refine zav F99 rfl rfl ?_
 conv=>whnf
 refine ⟨rfl,.fn 165 [.ptr hp.length 0 0,.ptr (hp++[zCIn]).length 0 0],by kernel_rfl,?_⟩
 conv=>whnf
 refine cvI hf hg ?_
 conv=>whnf
 refine stI (xs:=cs) hx hv hl (by rw [hl];rfl) (by rfl) ?_
 conv=>whnf
 refine stJ (xs:=[i64 0]) ((List.getElem?_set_ne el.symm).trans he) ?_
 refine z31 (cs:=cs) (P:=hp.length) (I:=(hp++[zCIn]).length) rfl rfl ?_ hl ?_ ⟨rfl,?_⟩
 ·refine (List.getElem?_set_ne el).trans ((List.getElem?_set_self l1).trans ?_)
  rw [hput]
 ·exact List.getElem?_set_self (by rw [List.length_set];exact l2)
 ·exact (Keep.set (by simp)).set' (.inl (by simp))
theorem ztv {g:FuncId}{caps:List AV}{e:Int}{cs:List AV}(hf:fnOk Tryz.prog g=true) (hg:C m g caps (hp++[zCIn]++[errC 0])=some (.pan (zbx e),h2)) (hl:cs.length=1) (hx:h2[hp.length]?=some (.cells 0 (some tTIn) cs 0)) (he:h2[(hp++[zCIn]).length]?=some (errC 0)) :
  ∃ r h3,C (m+1) 99 [.fn (.func g) [] caps] hp=some (r,h3) ∧ r=.ret (.tup [(zTIn.headD .undef),i64 e]) ∧ Keep h2 h3 [hp.length,(hp++[zCIn]).length]:=by
 have el:(hp++[zCIn]).length≠hp.length:=by simp
 refine zav F99 rfl rfl ?_
 conv=>whnf
 refine ⟨rfl,.fn 165 [.ptr hp.length 0 0,.ptr (hp++[zCIn]).length 0 0],by kernel_rfl,?_⟩
 conv=>whnf
 refine cvP hf hg ?_
 exact z35 (P:=hp.length) (I:=(hp++[zCIn]).length) el.symm rfl rfl hx hl he fun h' k=>⟨rfl,k⟩
end
abbrev tTRt:Nat:=27
abbrev zTRt:List AV:=Rt.zero.cells
abbrev zCRt:AB:=.cells 0 (some tTRt) zTRt 0
def cRecRt:RC:=match c168 with
 | .seq _ r=>r
 | _=>.skip
theorem DTRt:DefI 168 2 15 5 [] (some 6) [] cRecRt :=
 ⟨⟨Tryz.f168,Tryz.func168,by kernel_rfl,by kernel_rfl,by kernel_rfl⟩,by kernel_rfl,by decide,by kernel_rfl,by kernel_rfl,by kernel_rfl⟩
theorem z0j:fnOk Tryz.prog 168=true:=DTRt.fine
theorem ldTRt {h:zaa}{b:Nat}{cs:List AV}(hl:cs.length=21) (hb:h[b]?=some (.cells 0 (some tTRt) cs 0)):∃ v,zce Tryz.prog h tTRt (.ptr b 0 0)=some v ∧ v=.agg cs:=⟨_,zb9 (N:=21) (by kernel_rfl) hl hb,rfl⟩
section
variable {n m:Nat}{h hp h2:zaa}
theorem retTRt {P I:Nat}:∃ h',zcl Tryz.prog (C m) (zcy Tryz.prog cfg0.inl (C m)) KK 168 [.ptr P 0 0,.ptr I 0 0] .ret h=some (.ret,h') ∧ h'=h:=by
 refine zf5 DTRt rfl ?_
 conv=>whnf
 exact ⟨rfl,⟨[],rfl⟩,rfl⟩
theorem panTRt {P I:Nat}{e:Int}{a:AV}{cs:List AV}(hn:P≠I) (hP:h[P]?=some (.cells 0 (some tTRt) cs 0)) (hc:cs.length=21) (hI:h[I]?=some (.cells 0 (some tErr) [a] 0)) :
  ∃ h',zcl Tryz.prog (C m) (zcy Tryz.prog cfg0.inl (C m)) KK 168 [.ptr P 0 0,.ptr I 0 0] (.pan (zbx e) false) h=some (.pan (zbx e) true,h') ∧ h'[P]?=some zCRt ∧ h'[I]?=some (.cells 0 (some tErr) [i64 e] 0) ∧ Keep h h' [P,I]:=by
 refine zf5 DTRt rfl ?_
 have lP:=zab hP
 have lI:=zab hI
 have hput:putAt cs 0 zTRt=zTRt:=by
  unfold putAt
  rw [List.take_zero,List.nil_append,List.drop_of_length_le (by rw [hc];decide),List.append_nil]
 conv=>whnf
 refine stJ (xs:=[i64 e]) (zaf _ _) ?_
 conv=>whnf
 have k00:Keep h ((h++[AB.cells 0 (some tFF) [i64 0] 0]).set h.length (AB.cells 0 (some tFF) (putAt [i64 0] 0 [i64 e]) 0)) [P,I]:=(Keep.app h _ _).set' (.inr (Nat.le_refl _))
 have k0:=k00.trans (Keep.app _ zCRt []) (by simp)
 have eX:(((h++[AB.cells 0 (some tFF) [i64 0] 0]).set h.length (AB.cells 0 (some tFF) (putAt [i64 0] 0 [i64 e]) 0))++[zCRt])[h.length]?=some (.cells 0 (some tFF) [i64 e] 0):=by
  rw [List.getElem?_append_left (by simp),zag];rfl
 have eZ:=zaf ((h++[AB.cells 0 (some tFF) [i64 0] 0]).set h.length (AB.cells 0 (some tFF) (putAt [i64 0] 0 [i64 e]) 0)) zCRt
 have eP:(((h++[AB.cells 0 (some tFF) [i64 0] 0]).set h.length (AB.cells 0 (some tFF) (putAt [i64 0] 0 [i64 e]) 0))++[zCRt])[P]?=some (.cells 0 (some tTRt) cs 0):=by
  rw [List.getElem?_append_left (by simp;omega),List.getElem?_set_ne (by omega),List.getElem?_append_left lP];exact hP
 have eI:(((h++[AB.cells 0 (some tFF) [i64 0] 0]).set h.length (AB.cells 0 (some tFF) (putAt [i64 0] 0 [i64 e]) 0))++[zCRt])[I]?=some (.cells 0 (some tErr) [a] 0):=by
  rw [List.getElem?_append_left (by simp;omega),List.getElem?_set_ne (by omega),List.getElem?_append_left lI];exact hI
 refine ldI eZ ?_
 conv=>whnf
 refine ldI eX ?_
 conv=>whnf
 refine stI (xs:=zTRt) eP (by rfl) (by rfl) (by rw [hc];decide) (by rfl) ?_
 refine ⟨?_,?_⟩
 ·refine ⟨?_,?_⟩
  ·conv=>whnf
   refine ldI (by rw [List.getElem?_set_ne (by omega)];exact eX) ?_
   rfl
  ·conv=>whnf
   refine ldI (by rw [List.getElem?_set_ne (by simp;omega)];exact eZ) ?_
   rfl
 conv=>whnf
 refine stJ (xs:=[i64 e]) (by rw [List.getElem?_set_ne hn];exact eI) ?_
 refine ⟨rfl,⟨[],rfl⟩,?_,?_,?_⟩
 ·rw [List.getElem?_set_ne (Ne.symm hn),List.getElem?_set_self (by simp;omega),hput]
 ·rw [List.getElem?_set_self (by simp;omega)]
  rfl
 ·exact ((k0.set' (.inl (by simp))).set' (.inl (by simp)))
theorem z3y {R:CRes → zaa → Prop}{L:LT}{P I:Nat}{cs:List AV}(a2:lk L 2=some (.ptr P 0 0)) (a3:lk L 3=some (.ptr I 0 0)) (g1:h[P]?=some (.cells 0 (some tTRt) cs 0)) (hl:cs.length=21) (g2:h[I]?=some (errC 0)) (hR:R (.ret (.tup [.agg cs,i64 0])) h) :
  EndQ Tryz.prog (C m) cfg0.inl [.cell 2 tTRt,.cell 3 tErr] R .ret ⟨L,h,[.fn 168 [.ptr P 0 0,.ptr I 0 0]]⟩:=by
 obtain ⟨h',e1,rfl⟩:=retTRt (m:=m) (h:=h) (P:=P) (I:=I)
 obtain ⟨w,ew,rfl⟩:=ldTRt hl g1
 refine ⟨z0j,_,h',e1,[.agg cs,i64 0],?_,hR⟩
 simp only [zcg,a2,a3,ew,zh2 g2]<;>rfl
theorem z32 {R:CRes → zaa → Prop}{L:LT}{P I:Nat}{e:Int}{cs:List AV}(hn:P≠I) (a2:lk L 2=some (.ptr P 0 0)) (a3:lk L 3=some (.ptr I 0 0)) (g1:h[P]?=some (.cells 0 (some tTRt) cs 0)) (hl:cs.length=21) (g2:h[I]?=some (errC 0)) (hR:∀ h',Keep h h' [P,I] → R (.ret (.tup [.agg zTRt,i64 e])) h') :
  EndQ Tryz.prog (C m) cfg0.inl [.cell 2 tTRt,.cell 3 tErr] R (.pan (zbx e)) ⟨L,h,[.fn 168 [.ptr P 0 0,.ptr I 0 0]]⟩:=by
 obtain ⟨h',e1,q1,q2,k1⟩:=panTRt (m:=m) (h:=h) (P:=P) (I:=I) (e:=e) hn g1 hl g2
 obtain ⟨w,ew,hw⟩:=ldTRt rfl q1
 refine ⟨z0j,_,h',e1,[.agg zTRt,i64 e],?_,hR h' k1⟩
 simp only [zcg,a2,a3,ew,hw,zh2 q2]<;>rfl
theorem zts {g:FuncId}{caps:List AV}{v:AV}{cs:List AV}(hf:fnOk Tryz.prog g=true) (hg:C m g caps (hp++[zCRt]++[errC 0])=some (.ret v,h2)) (hv:v.cells?=some cs) (hl:cs.length=21) (hx:h2[hp.length]?=some zCRt) (he:h2[(hp++[zCRt]).length]?=some (errC 0)) :
  ∃ r h3,C (m+1) 104 [.fn (.func g) [] caps] hp=some (r,h3) ∧ r=.ret (.tup [.agg cs,i64 0]) ∧ Keep h2 h3 [hp.length,(hp++[zCRt]).length]:=by
 have l2:=zab he
 have l1:=zab hx
 have el:(hp++[zCRt]).length≠hp.length:=by simp
 have hput:putAt zTRt 0 cs=cs:=by
  unfold putAt
  rw [List.take_zero,List.nil_append,List.drop_of_length_le (by rw [hl];decide),List.append_nil]
 refine zav F104 rfl rfl ?_
 conv=>whnf
 refine ⟨rfl,.fn 168 [.ptr hp.length 0 0,.ptr (hp++[zCRt]).length 0 0],by kernel_rfl,?_⟩
 conv=>whnf
 refine cvI hf hg ?_
 conv=>whnf
 refine stI (xs:=cs) hx hv hl (by rw [hl];rfl) (by rfl) ?_
 conv=>whnf
 refine stJ (xs:=[i64 0]) ((List.getElem?_set_ne el.symm).trans he) ?_
 refine z3y (cs:=cs) (P:=hp.length) (I:=(hp++[zCRt]).length) rfl rfl ?_ hl ?_ ⟨rfl,?_⟩
 ·refine (List.getElem?_set_ne el).trans ((List.getElem?_set_self l1).trans ?_)
  rw [hput]
 ·exact List.getElem?_set_self (by rw [List.length_set];exact l2)
 ·exact (Keep.set (by simp)).set' (.inl (by simp))
theorem ztu {g:FuncId}{caps:List AV}{e:Int}{cs:List AV}(hf:fnOk Tryz.prog g=true) (hg:C m g caps (hp++[zCRt]++[errC 0])=some (.pan (zbx e),h2)) (hl:cs.length=21) (hx:h2[hp.length]?=some (.cells 0 (some tTRt) cs 0)) (he:h2[(hp++[zCRt]).length]?=some (errC 0)) :
  ∃ r h3,C (m+1) 104 [.fn (.func g) [] caps] hp=some (r,h3) ∧ r=.ret (.tup [.agg zTRt,i64 e]) ∧ Keep h2 h3 [hp.length,(hp++[zCRt]).length]:=by
 have el:(hp++[zCRt]).length≠hp.length:=by simp
 refine zav F104 rfl rfl ?_
 conv=>whnf
 refine ⟨rfl,.fn 168 [.ptr hp.length 0 0,.ptr (hp++[zCRt]).length 0 0],by kernel_rfl,?_⟩
 conv=>whnf
 refine cvP hf hg ?_
 exact z32 (P:=hp.length) (I:=(hp++[zCRt]).length) el.symm rfl rfl hx hl he fun h' k=>⟨rfl,k⟩
end
abbrev tTRs:Nat:=103
abbrev zTRs:List AV:=[.lst 0 [] true]
abbrev zCRs:AB:=.cells 0 (some tTRs) zTRs 0
def cRecRs:RC:=match c169 with
 | .seq _ r=>r
 | _=>.skip
theorem DTRs:DefI 169 2 15 5 [] (some 6) [] cRecRs :=
 ⟨⟨Tryz.f169,Tryz.func169,by kernel_rfl,by kernel_rfl,by kernel_rfl⟩,by kernel_rfl,by decide,by kernel_rfl,by kernel_rfl,by kernel_rfl⟩
theorem z0k:fnOk Tryz.prog 169=true:=DTRs.fine
theorem ldTRs {h:zaa}{b:Nat}{cs:List AV}(hl:cs.length=1) (hb:h[b]?=some (.cells 0 (some tTRs) cs 0)):∃ v,zce Tryz.prog h tTRs (.ptr b 0 0)=some v ∧ v=cs.headD .undef:=by
 obtain ⟨x,rfl⟩:=List.length_eq_one_iff.1 hl
 exact ⟨x,zks (N:=1) (by kernel_rfl) hb,rfl⟩
section
variable {n m:Nat}{h hp h2:zaa}
theorem retTRs {P I:Nat}:∃ h',zcl Tryz.prog (C m) (zcy Tryz.prog cfg0.inl (C m)) KK 169 [.ptr P 0 0,.ptr I 0 0] .ret h=some (.ret,h') ∧ h'=h:=by
 refine zf5 DTRs rfl ?_
 conv=>whnf
 exact ⟨rfl,⟨[],rfl⟩,rfl⟩
theorem panTRs {P I:Nat}{e:Int}{a:AV}{cs:List AV}(hn:P≠I) (hP:h[P]?=some (.cells 0 (some tTRs) cs 0)) (hc:cs.length=1) (hI:h[I]?=some (.cells 0 (some tErr) [a] 0)) :
  ∃ h',zcl Tryz.prog (C m) (zcy Tryz.prog cfg0.inl (C m)) KK 169 [.ptr P 0 0,.ptr I 0 0] (.pan (zbx e) false) h=some (.pan (zbx e) true,h') ∧ h'[P]?=some zCRs ∧ h'[I]?=some (.cells 0 (some tErr) [i64 e] 0) ∧ Keep h h' [P,I]:=by
 refine zf5 DTRs rfl ?_
 have lP:=zab hP
 have lI:=zab hI
 have hput:putAt cs 0 zTRs=zTRs:=by
  unfold putAt
  rw [List.take_zero,List.nil_append,List.drop_of_length_le (by rw [hc];decide),List.append_nil]
 conv=>whnf
 refine stJ (xs:=[i64 e]) (zaf _ _) ?_
 conv=>whnf
 have k0:Keep h ((h++[AB.cells 0 (some tFF) [i64 0] 0]).set h.length (AB.cells 0 (some tFF) (putAt [i64 0] 0 [i64 e]) 0)) [P,I]:=(Keep.app h _ _).set' (.inr (Nat.le_refl _))
 have eX:=zag h (AB.cells 0 (some tFF) [i64 0] 0) (AB.cells 0 (some tFF) (putAt [i64 0] 0 [i64 e]) 0)
 have eP:((h++[AB.cells 0 (some tFF) [i64 0] 0]).set h.length (AB.cells 0 (some tFF) (putAt [i64 0] 0 [i64 e]) 0))[P]?=some (.cells 0 (some tTRs) cs 0):=by
  rw [List.getElem?_set_ne (by omega),List.getElem?_append_left lP];exact hP
 have eI:((h++[AB.cells 0 (some tFF) [i64 0] 0]).set h.length (AB.cells 0 (some tFF) (putAt [i64 0] 0 [i64 e]) 0))[I]?=some (.cells 0 (some tErr) [a] 0):=by
  rw [List.getElem?_set_ne (by omega),List.getElem?_append_left lI];exact hI
 refine ldI eX ?_
 conv=>whnf
 refine stI (xs:=zTRs) eP (by rfl) (by rfl) (by rw [hc];decide) (by rfl) ?_
 refine ⟨?_,?_⟩
 ·conv=>whnf
  refine ldI (by rw [List.getElem?_set_ne (by omega)];exact eX) ?_
  rfl
 conv=>whnf
 refine stJ (xs:=[i64 e]) (by rw [List.getElem?_set_ne hn];exact eI) ?_
 refine ⟨rfl,⟨[],rfl⟩,?_,?_,?_⟩
 ·rw [List.getElem?_set_ne (Ne.symm hn),List.getElem?_set_self (by simp;omega),hput]
 ·rw [List.getElem?_set_self (by simp;omega)]
  rfl
 ·exact ((k0.set' (.inl (by simp))).set' (.inl (by simp)))
theorem z3z {R:CRes → zaa → Prop}{L:LT}{P I:Nat}{cs:List AV}(a2:lk L 2=some (.ptr P 0 0)) (a3:lk L 3=some (.ptr I 0 0)) (g1:h[P]?=some (.cells 0 (some tTRs) cs 0)) (hl:cs.length=1) (g2:h[I]?=some (errC 0)) (hR:R (.ret (.tup [cs.headD .undef,i64 0])) h) :
  EndQ Tryz.prog (C m) cfg0.inl [.cell 2 tTRs,.cell 3 tErr] R .ret ⟨L,h,[.fn 169 [.ptr P 0 0,.ptr I 0 0]]⟩:=by
 obtain ⟨h',e1,rfl⟩:=retTRs (m:=m) (h:=h) (P:=P) (I:=I)
 obtain ⟨w,ew,rfl⟩:=ldTRs hl g1
 refine ⟨z0k,_,h',e1,[cs.headD .undef,i64 0],?_,hR⟩
 simp only [zcg,a2,a3,ew,zh2 g2]<;>rfl
theorem z33 {R:CRes → zaa → Prop}{L:LT}{P I:Nat}{e:Int}{cs:List AV}(hn:P≠I) (a2:lk L 2=some (.ptr P 0 0)) (a3:lk L 3=some (.ptr I 0 0)) (g1:h[P]?=some (.cells 0 (some tTRs) cs 0)) (hl:cs.length=1) (g2:h[I]?=some (errC 0)) (hR:∀ h',Keep h h' [P,I] → R (.ret (.tup [(zTRs.headD .undef),i64 e])) h') :
  EndQ Tryz.prog (C m) cfg0.inl [.cell 2 tTRs,.cell 3 tErr] R (.pan (zbx e)) ⟨L,h,[.fn 169 [.ptr P 0 0,.ptr I 0 0]]⟩:=by
 obtain ⟨h',e1,q1,q2,k1⟩:=panTRs (m:=m) (h:=h) (P:=P) (I:=I) (e:=e) hn g1 hl g2
 obtain ⟨w,ew,hw⟩:=ldTRs rfl q1
 refine ⟨z0k,_,h',e1,[(zTRs.headD .undef),i64 e],?_,hR h' k1⟩
 simp only [zcg,a2,a3,ew,hw,zh2 q2]<;>rfl
theorem z19 {g:FuncId}{caps:List AV}{v:AV}{cs:List AV}(hf:fnOk Tryz.prog g=true) (hg:C m g caps (hp++[zCRs]++[errC 0])=some (.ret v,h2)) (hv:v.cells?=some cs) (hl:cs.length=1) (hx:h2[hp.length]?=some zCRs) (he:h2[(hp++[zCRs]).length]?=some (errC 0)) :
  ∃ r h3,C (m+1) 111 [.fn (.func g) [] caps] hp=some (r,h3) ∧ r=.ret (.tup [cs.headD .undef,i64 0]) ∧ Keep h2 h3 [hp.length,(hp++[zCRs]).length]:=by
 have l2:=zab he
 have l1:=zab hx
 have el:(hp++[zCRs]).length≠hp.length:=by simp
 have hput:putAt zTRs 0 cs=cs:=by
  unfold putAt
  rw [List.take_zero,List.nil_append,List.drop_of_length_le (by rw [hl];decide),List.append_nil]
 refine zav F111 rfl rfl ?_
 conv=>whnf
 refine ⟨rfl,.fn 169 [.ptr hp.length 0 0,.ptr (hp++[zCRs]).length 0 0],by kernel_rfl,?_⟩
 conv=>whnf
 refine cvI hf hg ?_
 conv=>whnf
 refine stI (xs:=cs) hx hv hl (by rw [hl];rfl) (by rfl) ?_
 conv=>whnf
 refine stJ (xs:=[i64 0]) ((List.getElem?_set_ne el.symm).trans he) ?_
 refine z3z (cs:=cs) (P:=hp.length) (I:=(hp++[zCRs]).length) rfl rfl ?_ hl ?_ ⟨rfl,?_⟩
 ·refine (List.getElem?_set_ne el).trans ((List.getElem?_set_self l1).trans ?_)
  rw [hput]
 ·exact List.getElem?_set_self (by rw [List.length_set];exact l2)
 ·exact (Keep.set (by simp)).set' (.inl (by simp))
theorem z2b {g:FuncId}{caps:List AV}{e:Int}{cs:List AV}(hf:fnOk Tryz.prog g=true) (hg:C m g caps (hp++[zCRs]++[errC 0])=some (.pan (zbx e),h2)) (hl:cs.length=1) (hx:h2[hp.length]?=some (.cells 0 (some tTRs) cs 0)) (he:h2[(hp++[zCRs]).length]?=some (errC 0)) :
  ∃ r h3,C (m+1) 111 [.fn (.func g) [] caps] hp=some (r,h3) ∧ r=.ret (.tup [(zTRs.headD .undef),i64 e]) ∧ Keep h2 h3 [hp.length,(hp++[zCRs]).length]:=by
 have el:(hp++[zCRs]).length≠hp.length:=by simp
 refine zav F111 rfl rfl ?_
 conv=>whnf
 refine ⟨rfl,.fn 169 [.ptr hp.length 0 0,.ptr (hp++[zCRs]).length 0 0],by kernel_rfl,?_⟩
 conv=>whnf
 refine cvP hf hg ?_
 exact z33 (P:=hp.length) (I:=(hp++[zCRs]).length) el.symm rfl rfl hx hl he fun h' k=>⟨rfl,k⟩
end
abbrev intC (k:Int):AB:=.cells 0 (some 3) [i64 k] 0
section
variable {n m:Nat}{h hp:zaa}{d:Dk}
theorem zfv (hn:1 ≤ n) {b:Bool}(hb:b=true) (e:Int):C n 80 [.bool b,i64 e] h=some (.ret (.tup []),h):=by subst hb;exact z69 hn e
theorem zi8 (hn:2 ≤ n) {b:Bool}(hb:b=false) (e:Int) (he:e≠0):C n 80 [.bool b,i64 e] h=some (.pan (zbx e),h):=by subst hb;exact z7a hn e he
theorem z7q (hn:2 ≤ n) (q:Page):C n 92 [q.av,i64 0] h=some (.ret q.av,h):=by
 obtain ⟨m,rfl⟩:=pre1 n
 refine zad F92 rfl rfl rfl (by simp [zao,zbv,AV.pureB]) ?_
 conv=>whnf
 refine clI (zsz (by omega)) ?_
 conv=>whnf
 refine ldI rfl ?_
 conv=>whnf
 refine stJ (xs:=q.cells) (by rfl) ?_
 exact ⟨rfl,_,za6 rfl (zjs rfl rfl),zqp q _⟩
theorem z7r (hn:2 ≤ n) (q:Page) (e:Int) (he:e≠0):C n 92 [q.av,i64 e] h=some (.pan (zbx e),h):=by
 obtain ⟨m,rfl⟩:=pre1 n
 refine zfl F92 rfl rfl rfl (by simp [zao,zbv,AV.pureB]) ?_
 conv=>whnf
 refine clP (zo6 (by omega) e he) ?_
 exact ⟨zbx e,rfl,rfl⟩
theorem z22 (hn:4 ≤ n) (ok:d.Ok) (hr:zau d=false) {D N:Nat}(hD:hp[D]?=some (dkC d)) :
  ∃ r h',C n 90 [.ptr D 0 0,.ptr N 0 0] hp=some (r,h') ∧ r=.pan (zbx 2) ∧ Keep hp h' []:=by
 obtain ⟨m,rfl⟩:=pre1 n
 refine zav F90 rfl rfl ?_
 conv=>whnf
 refine ldI (za8 hD) ?_
 conv=>whnf
 refine clP (zv4 (by omega) d ok hr) ?_
 exact ⟨rfl,(Keep.app _ _ []).trans (Keep.app _ _ []) (by simp)⟩
theorem z6f (hn:4 ≤ n) (ok:d.Ok) (hr:zau d=true) {D N:Nat}{no:Int}(hD:hp[D]?=some (dkC d)) (hN:hp[N]?=some (intC no)) (hno:¬(2 ≤ no ∧ no<zay d)) :
  ∃ r h',C n 90 [.ptr D 0 0,.ptr N 0 0] hp=some (r,h') ∧ r=.pan (zbx 1) ∧ Keep hp h' []:=by
 obtain ⟨m,rfl⟩:=pre1 n
 have hz:=(rightD_iff.1 hr).1
 refine zav F90 rfl rfl ?_
 conv=>whnf
 refine ldI (za8 hD) ?_
 conv=>whnf
 refine clI (zlr (by omega) d ok hr) ?_
 have k1:∀ x,Keep hp (hp++[x]++[dkC d]++[wriC d]) []:=fun x=>((Keep.app _ _ []).trans (Keep.app _ _ []) (by simp)).trans (Keep.app _ _ []) (by simp)
 have hN1:∀ x,(hp++[x]++[dkC d]++[wriC d])[N]?=some (intC no):=fun x=>(k1 x).get hN (by simp)
 have hw:∀ x:AB,(hp++[x]++[dkC d]++[wriC d])[(hp++[x]).length+1]?=some (wriC d):=fun x=>by
  rw [show (hp++[x]).length+1=(hp++[x]++[dkC d]).length by simp];exact zaf _ _
 conv=>whnf
 refine ldI (hN1 _) ?_
 conv=>whnf
 refine brd (fun a=>?_) (fun a=>?_)
 ·conv=>whnf
  refine ldI (hN1 _) ?_
  conv=>whnf
  refine clI (zhe (by omega) d (hw _) (by omega)) ?_
  refine ⟨?_,?_⟩
  ·repeat' (conv=>whnf);first | done | exact ldI (hN1 _) rfl | exact ldI (hN1 _) rfl | refine ⟨?_,?_⟩ | rfl
  conv=>whnf
  refine clP (zi8 (by omega) (by rw [decide_eq_false_iff_not];omega) 1 (by decide)) ?_
  exact ⟨rfl,k1 _⟩
 ·conv=>whnf
  refine ⟨?_,?_⟩
  ·repeat' (conv=>whnf);first | done | exact ldI (hN1 _) rfl | exact ldI (hN1 _) rfl | refine ⟨?_,?_⟩ | rfl
  conv=>whnf
  refine clP (zi8 (by omega) rfl 1 (by decide)) ?_
  exact ⟨rfl,k1 _⟩
theorem z21 (hn:12 ≤ n) (ok:d.Ok) (hr:zau d=true) {D N no:Nat}(hD:hp[D]?=some (dkC d)) (hN:hp[N]?=some (intC no)) (h2:2 ≤ no) (hno:no<zay d) {q:Page}{e:Int}
  (cR:∀ hp w,hp[w]?=some (wriC d) → ∃ h',C (n-1) 93 [.ptr w 0 0,i64 no] hp=some (.ret (.tup [q.av,i64 e]),h') ∧ Keep hp h' []) :
  ∃ r h',C n 90 [.ptr D 0 0,.ptr N 0 0] hp=some (r,h') ∧ r=(if e=0 then .ret q.av else .pan (zbx e)) ∧ Keep hp h' []:=by
 obtain ⟨m,rfl⟩:=pre1 n
 have hz:=(rightD_iff.1 hr).1
 rw [Nat.add_sub_cancel] at cR
 refine zav F90 rfl rfl ?_
 conv=>whnf
 refine ldI (za8 hD) ?_
 conv=>whnf
 refine clI (zlr (by omega) d ok hr) ?_
 have k1:∀ x,Keep hp (hp++[x]++[dkC d]++[wriC d]) []:=fun x=>((Keep.app _ _ []).trans (Keep.app _ _ []) (by simp)).trans (Keep.app _ _ []) (by simp)
 have hN1:∀ x,(hp++[x]++[dkC d]++[wriC d])[N]?=some (intC no):=fun x=>(k1 x).get hN (by simp)
 have hw:∀ x:AB,(hp++[x]++[dkC d]++[wriC d])[(hp++[x]).length+1]?=some (wriC d):=fun x=>by
  rw [show (hp++[x]).length+1=(hp++[x]++[dkC d]).length by simp];exact zaf _ _
 have hX:∀ x:AB,(hp++[x]++[dkC d]++[wriC d])[hp.length]?=some x:=fun x=>by
  rw [List.getElem?_append_left (by simp),List.getElem?_append_left (by simp)];exact zaf _ _
 conv=>whnf
 refine ldI (hN1 _) ?_
 conv=>whnf
 refine brd (fun _=>?_) (fun a=>absurd h2 (by omega))
 conv=>whnf
 refine ldI (hN1 _) ?_
 conv=>whnf
 refine clI (zhe (by omega) d (hw _) (by omega)) ?_
 refine ⟨?_,?_⟩
 ·repeat' (conv=>whnf);first | done | exact ldI (hN1 _) rfl | exact ldI (hN1 _) rfl | refine ⟨?_,?_⟩ | rfl
 conv=>whnf
 refine clI (zfv (by omega) (by rw [decide_eq_true_iff];omega) 1) ?_
 conv=>whnf
 refine ldI (hN1 _) ?_
 conv=>whnf
 obtain ⟨h3,e3,k3⟩:=cR _ _ (hw (.cells 0 (some 79) zax 0))
 refine clI e3 ?_
 conv=>whnf
 by_cases c:e=0
 ·subst c
  rw [if_pos rfl]
  refine clI (z7q (by omega) q) ?_
  conv=>whnf
  have g3:=k3.get (hX (.cells 0 (some 79) zax 0)) (by simp)
  refine stJ (xs:=q.cells) g3 ?_
  exact ⟨_,za6 rfl (zjs rfl (List.getElem?_set_self (zab g3))),rfl,((k1 _).trans k3 (by simp)).set' (.inr (Nat.le_refl _))⟩
 ·rw [if_neg c]
  refine clP (z7r (by omega) q e c) ?_
  exact ⟨rfl,(k1 _).trans k3 (by simp)⟩
theorem z6z (h:zaa) (q:Page) (e:Int):Abs.frz h 64 (tupA [q.av,i64 e])=some (.tup [q.av,i64 e]):=z5a
theorem z5l:fnOk Tryz.prog 90=true:=by kernel_rfl
theorem rpO {P:Page}{E no:Int}(hI:∀ hp,hp[0]?=some (dkC d) → hp[1]?=some (intC no) → ∃ r h',C n 90 [.ptr 0 0 0,.ptr 1 0 0] hp=some (r,h') ∧ r=(if E=0 then .ret P.av else .pan (zbx E)) ∧ Keep hp h' []) (hz:E≠0 → P=zPage) :
  C (n+2) 33 [d.av,i64 no] h=some (.ret (.tup [P.av,i64 E]),h):=by
 obtain ⟨r,h',e0,hr,k0⟩:=hI ([dkC d,intC no,zCPg]++[zCPg]++[errC 0]) rfl rfl
 have g3:=k0.get (x:=3) rfl (by simp)
 have g4:=k0.get (x:=4) rfl (by simp)
 have g2:=k0.get (x:=2) rfl (by simp)
 have main:∃ h3,C (n+1) 89 [.fn (.func 90) [] [.ptr 0 0 0,.ptr 1 0 0]] [dkC d,intC no,zCPg]=some (.ret (.tup [P.av,i64 E]),h3) ∧ h3[2]?=some zCPg:=by
  by_cases c:E=0
  ·subst c
   rw [if_pos rfl] at hr
   subst hr
   obtain ⟨r,h3,e1,rfl,k1⟩:=z2a (m:=n) (hp:=[dkC d,intC no,zCPg]) (cs:=P.cells) z5l e0 rfl rfl g3 g4
   exact ⟨h3,e1,k1.get g2 (by simp)⟩
  ·rw [if_neg c] at hr
   subst hr
   obtain ⟨r,h3,e1,rfl,k1⟩:=z2c (m:=n) (hp:=[dkC d,intC no,zCPg]) (cs:=zTPg) z5l e0 rfl g3 g4
   rw [hz c]
   exact ⟨h3,e1,k1.get g2 (by simp)⟩
 obtain ⟨h3,e1,g⟩:=main
 refine zad F33 rfl rfl rfl (by simp [zao,za1,AV.pureB]) ?_
 conv=>whnf
 refine clI e1 ?_
 conv=>whnf
 refine stJ (xs:=P.cells) g ?_
 exact ⟨rfl,_,zgm rfl rfl (List.getElem?_set_self (zab g)) rfl,z6z _ _ _⟩
theorem zvh (hn:4 ≤ n) (ok:d.Ok) (hr:zau d=false) (no:Int):C n 40 [d.av,i64 no] h=some (.ret (.agg (zbd zPage 2)),h):=by
 obtain ⟨m,rfl⟩:=pre1 n
 have cT:=fun h=>zel (n:=m) (h:=h) (by omega) d ok
 rw [hr] at cT
 refine zad F40 rfl rfl rfl (by simp [zao,za1,AV.pureB]) ?_
 conv=>whnf
 refine ldI rfl ?_
 conv=>whnf
 refine clI (cT _) ?_
 conv=>whnf
 refine stJ (xs:=zbd zPage 2) (by rfl) ?_
 exact ⟨rfl,_,za6 rfl (zng rfl rfl),rfl⟩
theorem zx9 (hn:4 ≤ n) (ok:d.Ok) (hr:zau d=true) (no:Int) (hno:¬(2 ≤ no ∧ no<zay d)):C n 40 [d.av,i64 no] h=some (.ret (.agg (zbd zPage 1)),h):=by
 obtain ⟨m,rfl⟩:=pre1 n
 have hz:=(rightD_iff.1 hr).1
 have cT:=fun h=>zel (n:=m) (h:=h) (by omega) d ok
 rw [hr] at cT
 refine zad F40 rfl rfl rfl (by simp [zao,za1,AV.pureB]) ?_
 conv=>whnf
 refine ldI rfl ?_
 conv=>whnf
 refine clI (cT _) ?_
 conv=>whnf
 refine ldI rfl ?_
 conv=>whnf
 refine clI (zfg (by omega) d (by omega)) ?_
 conv=>whnf
 refine clI (zkt (by omega) _ _) ?_
 rw [show zet (zay d:Int) no=false by
  unfold zet
  rcases Int.lt_or_le no 2 with q | q
  ·rw [show decide (2 ≤ no)=false by rw [decide_eq_false_iff_not];omega,Bool.false_and]
  ·rw [show decide (no<(zay d:Int))=false by rw [decide_eq_false_iff_not];omega,Bool.and_false]]
 conv=>whnf
 refine stJ (xs:=zbd zPage 1) (by rfl) ?_
 exact ⟨rfl,_,za6 rfl (zng rfl rfl),rfl⟩
theorem zqj (d:Dk) (ok:d.Ok) (no:Int):∃ (p:Page) (e:Int),(e≠0 → p=zPage) ∧ (∀ n,14 ≤ n → ∃ q:Page,Same p q ∧ q.Ok ∧ ∀ h,C n 33 [d.av,i64 no] h=some (.ret (.tup [q.av,i64 e]),h)) ∧ ∀ n,11 ≤ n → ∃ b:Page,Same p b ∧ b.Ok ∧ ∀ h,C n 40 [d.av,i64 no] h=some (.ret (.agg (zbd b e)),h):=by
 cases hr:zau d with
 | false =>
  refine ⟨zPage,2,fun _=>rfl,fun n hn=>⟨zPage,Same.rfl' _,zdp,fun h=>?_⟩,fun n hn=>⟨zPage,Same.rfl' _,zdp,fun h=>zvh (by omega) ok hr no⟩⟩
  obtain ⟨m,rfl⟩ : ∃ m,n=m+2:=⟨n-2,by omega⟩
  refine rpO (fun hp h0 h1=>?_) fun _=>rfl
  rw [if_neg (by decide)]
  exact z22 (by omega) ok hr h0
 | true =>
  by_cases hno:2 ≤ no ∧ no<zay d
  ·obtain ⟨k,rfl⟩ : ∃ k:Nat,no=(k:Int):=⟨no.toNat,by omega⟩
   obtain ⟨p,e,z,_,cR,cB⟩:=z3n d ok hr k (by omega)
   refine ⟨p,e,fun h=>(z h).1,fun n hn=>?_,cB (by omega)⟩
   obtain ⟨m,rfl⟩ : ∃ m,n=m+2:=⟨n-2,by omega⟩
   obtain ⟨q,s,o,zq,cQ⟩:=cR (m-1) (by omega)
   exact ⟨q,s,o,fun h=>rpO (fun hp h0 h1=>z21 (by omega) ok hr h0 h1 (by omega) (by omega) cQ) zq⟩
  ·refine ⟨zPage,1,fun _=>rfl,fun n hn=>⟨zPage,Same.rfl' _,zdp,fun h=>?_⟩,fun n hn=>⟨zPage,Same.rfl' _,zdp,fun h=>zx9 (by omega) ok hr no hno⟩⟩
   obtain ⟨m,rfl⟩ : ∃ m,n=m+2:=⟨n-2,by omega⟩
   refine rpO (fun hp h0 h1=>?_) fun _=>rfl
   rw [if_neg (by decide)]
   exact z6f (by omega) ok hr h0 h1 hno
end
abbrev tNum:Nat:=96
theorem zls {h:zaa}{b:Nat}{cs:List AV}(hl:cs.length=2) (hb:h[b]?=some (.cells 0 (some tNum) cs 0)):zce Tryz.prog h tNum (.ptr b 0 0)=some (.agg cs):=zb9 (N:=2) (by kernel_rfl) hl hb
section
variable {n m:Nat}{h hp:zaa}{d:Dk}
theorem pg1_no (hn:4 ≤ n) (ok:d.Ok) (hr:zau d=false) {D:Nat}(hD:hp[D]?=some (dkC d)):∃ r h',C n 100 [.ptr D 0 0] hp=some (r,h') ∧ r=.pan (zbx 2) ∧ Keep hp h' []:=by
 obtain ⟨m,rfl⟩:=pre1 n
 refine zav F100 rfl rfl ?_
 conv=>whnf
 refine ldI hD ?_
 conv=>whnf
 refine clP (zv4 (by omega) d ok hr) ?_
 exact ⟨rfl,Keep.app _ _ []⟩
theorem zip (x:zaa) (d:Dk):(x++[dkC d]++[wriC d])[x.length+1]?=some (wriC d):=by
 rw [show x.length+1=(x++[dkC d]).length by simp];exact zaf _ _
theorem zfq (x:zaa) (d:Dk):Keep x (x++[dkC d]++[wriC d]) []:=(Keep.app _ _ []).trans (Keep.app _ _ []) (by simp)
theorem pg1_ok (hn:4 ≤ n) (ok:d.Ok) (hr:zau d=true) {D:Nat}(hD:hp[D]?=some (dkC d)):∃ r h',C n 100 [.ptr D 0 0] hp=some (r,h') ∧ r=.ret (i64 (zay d)) ∧ Keep hp h' []:=by
 obtain ⟨m,rfl⟩:=pre1 n
 have hz:=(rightD_iff.1 hr).1
 refine zav F100 rfl rfl ?_
 conv=>whnf
 refine ldI hD ?_
 conv=>whnf
 refine clI (zlr (by omega) d ok hr) ?_
 conv=>whnf
 refine clI (zhe (by omega) d (zip _ _) (by omega)) ?_
 exact ⟨_,rfl,rfl,zfq _ _⟩
theorem z5m:fnOk Tryz.prog 100=true:=by kernel_rfl
def zi4 (d:Dk):Int × Int:=if zau d=true then ((zay d:Nat),0) else (0,2)
theorem zv3 (hn:6 ≤ n) (d:Dk) (ok:d.Ok):C n 38 [d.av] h=some (.ret (.tup [i64 (zi4 d).1,i64 (zi4 d).2]),h):=by
 obtain ⟨m,rfl⟩ : ∃ m,n=m+2:=⟨n-2,by omega⟩
 have main:∃ h3,C (m+1) 99 [.fn (.func 100) [] [.ptr 0 0 0]] [dkC d]=some (.ret (.tup [i64 (zi4 d).1,i64 (zi4 d).2]),h3):=by
  unfold zi4
  cases hr:zau d with
  | true =>
   obtain ⟨r,h',e0,rfl,k0⟩:=pg1_ok (n:=m) (hp:=[dkC d]++[zCIn]++[errC 0]) (D:=0) (by omega) ok hr rfl
   obtain ⟨r,h3,e1,rfl,k1⟩:=ztt (m:=m) (hp:=[dkC d]) (cs:=[i64 (zay d)]) z5m e0 rfl rfl (k0.get (x:=1) rfl (by simp)) (k0.get (x:=2) rfl (by simp))
   exact ⟨h3,e1⟩
  | false =>
   obtain ⟨r,h',e0,rfl,k0⟩:=pg1_no (n:=m) (hp:=[dkC d]++[zCIn]++[errC 0]) (D:=0) (by omega) ok hr rfl
   obtain ⟨r,h3,e1,rfl,k1⟩:=ztv (m:=m) (hp:=[dkC d]) (cs:=zTIn) z5m e0 rfl (k0.get (x:=1) rfl (by simp)) (k0.get (x:=2) rfl (by simp))
   exact ⟨h3,e1⟩
 obtain ⟨h3,e1⟩:=main
 refine zad F38 rfl rfl rfl (by simp [zao,za1]) ?_
 conv=>whnf
 refine clI e1 ?_
 exact ⟨rfl,_,rfl,rfl⟩
theorem zza (hn:4 ≤ n) (d:Dk) (ok:d.Ok):C n 39 [d.av] h=some (.ret (.agg [i64 (zi4 d).1,i64 (zi4 d).2]),h):=by
 obtain ⟨m,rfl⟩:=pre1 n
 have cT:=fun h=>zel (n:=m) (h:=h) (by omega) d ok
 refine zad F39 rfl rfl rfl (by simp [zao,za1]) ?_
 unfold zi4
 cases hr:zau d with
 | true =>
  have hz:=(rightD_iff.1 hr).1
  rw [hr] at cT
  conv=>whnf
  refine ldI rfl ?_
  conv=>whnf
  refine clI (cT _) ?_
  conv=>whnf
  refine ldI rfl ?_
  conv=>whnf
  refine clI (zfg (by omega) d (by omega)) ?_
  conv=>whnf
  refine stJ (xs:=[i64 (zay d),i64 0]) (by rfl) ?_
  exact ⟨rfl,_,za6 rfl (zls rfl rfl),rfl⟩
 | false =>
  rw [hr] at cT
  conv=>whnf
  refine ldI rfl ?_
  conv=>whnf
  refine clI (cT _) ?_
  conv=>whnf
  refine stJ (xs:=[i64 0,i64 2]) (by rfl) ?_
  exact ⟨rfl,_,za6 rfl (zls rfl rfl),rfl⟩
theorem zjm (hn:2 ≤ n) {w:Nat}(hw:hp[w]?=some (wriC d)) (hl:d.secs.length ≤ 1099511627776) (h2:2 ≤ zay d):C n 106 [.ptr w 0 0] hp=some (.ret (.tup []),hp):=by
 obtain ⟨m,rfl⟩:=pre1 n
 refine za7 F106 rfl rfl ?_
 conv=>whnf
 refine clI (zhe (by omega) d hw hl) ?_
 conv=>whnf
 refine clI (zfv (by omega) (by rw [decide_eq_true_iff];omega) 1) ?_
 exact ⟨rfl,_,rfl,rfl,rfl⟩
theorem zjn (hn:4 ≤ n) {w:Nat}(hw:hp[w]?=some (wriC d)) (hl:d.secs.length ≤ 1099511627776) (h2:¬ 2 ≤ zay d):C n 106 [.ptr w 0 0] hp=some (.pan (zbx 1),hp):=by
 obtain ⟨m,rfl⟩:=pre1 n
 obtain ⟨r,h',e,rfl,rfl⟩:=zav (n:=m) (c:=cfg0) (args:=[.ptr w 0 0]) (h:=hp) (R:=fun r h=>r=.pan (zbx 1) ∧ h=hp) F106 rfl rfl (by
  conv=>whnf
  refine clI (zhe (by omega) d hw hl) ?_
  conv=>whnf
  refine clP (zi8 (by omega) (by rw [decide_eq_false_iff_not];omega) 1 (by decide)) ?_
  exact ⟨rfl,rfl⟩)
 exact e
theorem z6b (q:Rt):q.av.pureB=true:=rfl
theorem zz7 (hn:2 ≤ n) (q:Rt):C n 107 [q.av,i64 0] h=some (.ret q.av,h):=by
 obtain ⟨m,rfl⟩:=pre1 n
 refine zad F107 rfl rfl rfl rfl ?_
 conv=>whnf
 refine clI (zsz (by omega)) ?_
 conv=>whnf
 refine ldI rfl ?_
 conv=>whnf
 refine stJ (xs:=q.cells) (by rfl) ?_
 exact ⟨rfl,_,za6 rfl (zx2 rfl rfl),rfl⟩
theorem zz8 (hn:2 ≤ n) (q:Rt) (e:Int) (he:e≠0):C n 107 [q.av,i64 e] h=some (.pan (zbx e),h):=by
 obtain ⟨m,rfl⟩:=pre1 n
 refine zfl F107 rfl rfl rfl rfl ?_
 conv=>whnf
 refine clP (zo6 (by omega) e he) ?_
 exact ⟨zbx e,rfl,rfl⟩
theorem z20 (hn:4 ≤ n) (ok:d.Ok) (hr:zau d=false) {D N:Nat}(hD:hp[D]?=some (dkC d)) :
  ∃ r h',C n 105 [.ptr D 0 0,.ptr N 0 0] hp=some (r,h') ∧ r=.pan (zbx 2) ∧ Keep hp h' []:=by
 obtain ⟨m,rfl⟩:=pre1 n
 refine zav F105 rfl rfl ?_
 conv=>whnf
 refine ldI (za8 hD) ?_
 conv=>whnf
 refine clP (zv4 (by omega) d ok hr) ?_
 exact ⟨rfl,(Keep.app _ _ []).trans (Keep.app _ _ []) (by simp)⟩
theorem zx6 (hn:5 ≤ n) (ok:d.Ok) (hr:zau d=true) {D N:Nat}{s:Int}(hD:hp[D]?=some (dkC d)) (hN:hp[N]?=some (intC s)) (hno:¬(s=0 ∨ s=1) ∨ ¬ 2 ≤ zay d) :
  ∃ r h',C n 105 [.ptr D 0 0,.ptr N 0 0] hp=some (r,h') ∧ r=.pan (zbx 1) ∧ Keep hp h' []:=by
 obtain ⟨m,rfl⟩:=pre1 n
 have hz:=(rightD_iff.1 hr).1
 refine zav F105 rfl rfl ?_
 conv=>whnf
 refine ldI (za8 hD) ?_
 conv=>whnf
 refine clI (zlr (by omega) d ok hr) ?_
 have k1:∀ x,Keep hp (hp++[x]++[dkC d]++[wriC d]) []:=fun x=>((Keep.app _ _ []).trans (Keep.app _ _ []) (by simp)).trans (Keep.app _ _ []) (by simp)
 have hN1:∀ x,(hp++[x]++[dkC d]++[wriC d])[N]?=some (intC s):=fun x=>(k1 x).get hN (by simp)
 have hw:∀ x:AB,(hp++[x]++[dkC d]++[wriC d])[(hp++[x]).length+1]?=some (wriC d):=fun x=>zip _ _
 have hX:∀ x:AB,(hp++[x]++[dkC d]++[wriC d])[hp.length]?=some x:=fun x=>by
  rw [List.getElem?_append_left (by simp),List.getElem?_append_left (by simp)];exact zaf _ _
 conv=>whnf
 refine ldI (hN1 _) ?_
 conv=>whnf
 by_cases c:s=0 ∨ s=1
 ·have h2:¬ 2 ≤ zay d:=hno.resolve_left (fun e=>e c)
  rcases c with rfl | rfl
  ·conv=>whnf
   refine clI (zfv (by omega) rfl 1) ?_
   conv=>whnf
   refine clP (zjn (by omega) (hw _) (by omega) h2) ?_
   exact ⟨rfl,k1 _⟩
  ·conv=>whnf
   refine ldI (hN1 _) ?_
   conv=>whnf
   refine clI (zfv (by omega) rfl 1) ?_
   conv=>whnf
   refine clP (zjn (by omega) (hw _) (by omega) h2) ?_
   exact ⟨rfl,k1 _⟩
 ·refine bre (fun a=>absurd (Or.inl a) c) (fun _=>?_)
  conv=>whnf
  refine ldI (hN1 _) ?_
  conv=>whnf
  refine clP (zi8 (by omega) (by rw [beq_eq_false_iff_ne];exact fun a=>c (.inr a)) 1 (by decide)) ?_
  exact ⟨rfl,k1 _⟩
theorem z2z (hn:12 ≤ n) (ok:d.Ok) (hr:zau d=true) {D N s:Nat}(hD:hp[D]?=some (dkC d)) (hN:hp[N]?=some (intC s)) (hs:s=0 ∨ s=1) (h2:2 ≤ zay d) {q:Rt}{e:Int}
  (cR:∀ hp w,hp[w]?=some (wriC d) → ∃ h',C (n-1) 108 [.ptr w 0 0,i64 s] hp=some (.ret (.tup [q.av,i64 e]),h') ∧ Keep hp h' []) :
  ∃ r h',C n 105 [.ptr D 0 0,.ptr N 0 0] hp=some (r,h') ∧ r=(if e=0 then .ret q.av else .pan (zbx e)) ∧ Keep hp h' []:=by
 obtain ⟨m,rfl⟩:=pre1 n
 rw [Nat.add_sub_cancel] at cR
 generalize hR:(if e=0 then CRes.ret q.av else .pan (zbx e))=R0
 have hz:=(rightD_iff.1 hr).1
 refine zav F105 rfl rfl ?_
 conv=>whnf
 refine ldI (za8 hD) ?_
 conv=>whnf
 refine clI (zlr (by omega) d ok hr) ?_
 have k1:∀ x,Keep hp (hp++[x]++[dkC d]++[wriC d]) []:=fun x=>((Keep.app _ _ []).trans (Keep.app _ _ []) (by simp)).trans (Keep.app _ _ []) (by simp)
 have hN1:∀ x,(hp++[x]++[dkC d]++[wriC d])[N]?=some (intC s):=fun x=>(k1 x).get hN (by simp)
 have hw:∀ x:AB,(hp++[x]++[dkC d]++[wriC d])[(hp++[x]).length+1]?=some (wriC d):=fun x=>zip _ _
 have hX:∀ x:AB,(hp++[x]++[dkC d]++[wriC d])[hp.length]?=some x:=fun x=>by
  rw [List.getElem?_append_left (by simp),List.getElem?_append_left (by simp)];exact zaf _ _
 conv=>whnf
 refine ldI (hN1 _) ?_
 conv=>whnf
 rcases hs with rfl | rfl
 ·conv=>whnf
  refine clI (zfv (by omega) rfl 1) ?_
  conv=>whnf
  refine clI (zjm (by omega) (hw _) (by omega) h2) ?_
  conv=>whnf
  refine ldI (hN1 _) ?_
  conv=>whnf
  obtain ⟨h3,e3,k3⟩:=cR _ _ (hw (.cells 0 (some zco) Rt.zero.cells 0))
  refine clI e3 ?_
  conv=>whnf
  by_cases c:e=0
  ·subst c
   rw [if_pos rfl] at hR
   subst hR
   refine clI (zz7 (by omega) q) ?_
   conv=>whnf
   have g3:=k3.get (hX (.cells 0 (some zco) Rt.zero.cells 0)) (by simp)
   refine stJ (xs:=q.cells) g3 ?_
   exact ⟨_,za6 rfl (zx2 rfl (List.getElem?_set_self (zab g3))),rfl,((k1 _).trans k3 (by simp)).set' (.inr (Nat.le_refl _))⟩
  ·rw [if_neg c] at hR
   subst hR
   refine clP (zz8 (by omega) q e c) ?_
   exact ⟨rfl,(k1 _).trans k3 (by simp)⟩
 ·conv=>whnf
  refine ldI (hN1 _) ?_
  conv=>whnf
  refine clI (zfv (by omega) rfl 1) ?_
  conv=>whnf
  refine clI (zjm (by omega) (hw _) (by omega) h2) ?_
  conv=>whnf
  refine ldI (hN1 _) ?_
  conv=>whnf
  obtain ⟨h3,e3,k3⟩:=cR _ _ (hw (.cells 0 (some zco) Rt.zero.cells 0))
  refine clI e3 ?_
  conv=>whnf
  by_cases c:e=0
  ·subst c
   rw [if_pos rfl] at hR
   subst hR
   refine clI (zz7 (by omega) q) ?_
   conv=>whnf
   have g3:=k3.get (hX (.cells 0 (some zco) Rt.zero.cells 0)) (by simp)
   refine stJ (xs:=q.cells) g3 ?_
   exact ⟨_,za6 rfl (zx2 rfl (List.getElem?_set_self (zab g3))),rfl,((k1 _).trans k3 (by simp)).set' (.inr (Nat.le_refl _))⟩
  ·rw [if_neg c] at hR
   subst hR
   refine clP (zz8 (by omega) q e c) ?_
   exact ⟨rfl,(k1 _).trans k3 (by simp)⟩
end
def twoE (d:Dk):Int:=if zau d=true then (if 2 ≤ zay d then 0 else 1) else 2
section
variable {n m:Nat}{h hp:zaa}{d:Dk}
theorem zx1 (h:zaa) (q:Rt) (e:Int):Abs.frz h 64 (tupA [q.av,i64 e])=some (.tup [q.av,i64 e]):=rfl
theorem z5k:fnOk Tryz.prog 105=true:=by kernel_rfl
theorem rrO {P:Rt}{E s:Int}(hI:∀ hp,hp[0]?=some (dkC d) → hp[1]?=some (intC s) → ∃ r h',C n 105 [.ptr 0 0 0,.ptr 1 0 0] hp=some (r,h') ∧ r=(if E=0 then .ret P.av else .pan (zbx E)) ∧ Keep hp h' []) (hz:E≠0 → P=Rt.zero) :
  C (n+2) 41 [d.av,i64 s] h=some (.ret (.tup [P.av,i64 E]),h):=by
 obtain ⟨r,h',e0,hr,k0⟩:=hI ([dkC d,intC s,zCRt]++[zCRt]++[errC 0]) rfl rfl
 have g3:=k0.get (x:=3) rfl (by simp)
 have g4:=k0.get (x:=4) rfl (by simp)
 have g2:=k0.get (x:=2) rfl (by simp)
 have main:∃ h3,C (n+1) 104 [.fn (.func 105) [] [.ptr 0 0 0,.ptr 1 0 0]] [dkC d,intC s,zCRt]=some (.ret (.tup [P.av,i64 E]),h3) ∧ h3[2]?=some zCRt:=by
  by_cases c:E=0
  ·subst c
   rw [if_pos rfl] at hr
   subst hr
   obtain ⟨r,h3,e1,rfl,k1⟩:=zts (m:=n) (hp:=[dkC d,intC s,zCRt]) (cs:=P.cells) z5k e0 rfl rfl g3 g4
   exact ⟨h3,e1,k1.get g2 (by simp)⟩
  ·rw [if_neg c] at hr
   subst hr
   obtain ⟨r,h3,e1,rfl,k1⟩:=ztu (m:=n) (hp:=[dkC d,intC s,zCRt]) (cs:=zTRt) z5k e0 rfl g3 g4
   rw [hz c]
   exact ⟨h3,e1,k1.get g2 (by simp)⟩
 obtain ⟨h3,e1,g⟩:=main
 refine zad F41 rfl rfl rfl (by simp [zao,za1,AV.pureB]) ?_
 conv=>whnf
 refine clI e1 ?_
 conv=>whnf
 refine stJ (xs:=P.cells) g ?_
 exact ⟨rfl,_,zm9 rfl rfl (List.getElem?_set_self (zab g)) rfl,zx1 _ _ _⟩
theorem zpp (hn:4 ≤ n) (d:Dk) (ok:d.Ok):C n 109 [d.av] h=some (.ret (i64 (twoE d)),h):=by
 obtain ⟨m,rfl⟩:=pre1 n
 have cT:=fun h=>zel (n:=m) (h:=h) (by omega) d ok
 refine zad F109 rfl rfl rfl (by simp [zao,za1]) ?_
 unfold twoE
 cases hr:zau d with
 | true =>
  have hz:=(rightD_iff.1 hr).1
  rw [hr] at cT
  conv=>whnf
  refine ldI rfl ?_
  conv=>whnf
  refine clI (cT _) ?_
  conv=>whnf
  refine ldI rfl ?_
  conv=>whnf
  refine clI (zfg (by omega) d (by omega)) ?_
  conv=>whnf
  refine brd (fun a=>?_) (fun a=>?_)
  ·rw [if_pos rfl,if_neg (by omega)]
   exact ⟨rfl,_,rfl,rfl⟩
  ·rw [if_pos rfl,if_pos (by omega)]
   exact ⟨rfl,_,rfl,rfl⟩
 | false =>
  rw [hr] at cT
  rw [if_neg (by decide)]
  conv=>whnf
  refine ldI rfl ?_
  conv=>whnf
  refine clI (cT _) ?_
  exact ⟨rfl,_,rfl,rfl⟩
theorem zp1 (hn:6 ≤ n) (ok:d.Ok) (s:Int) (he:twoE d≠0):C n 42 [d.av,i64 s] h=some (.ret (.agg (Rt.zero.cellsE (twoE d))),h):=by
 obtain ⟨m,rfl⟩:=pre1 n
 have c2:=fun h=>zpp (n:=m) (h:=h) (by omega) d ok
 generalize twoE d=e at *
 refine zad F42 rfl rfl rfl (by simp [zao,za1,AV.pureB]) ?_
 conv=>whnf
 refine ldI rfl ?_
 conv=>whnf
 refine clI (c2 _) ?_
 conv=>whnf
 refine brq (fun _=>?_) (fun a=>absurd a he)
 conv=>whnf
 refine stJ (xs:=Rt.zero.cellsE e) (by rfl) ?_
 exact ⟨rfl,_,za6 rfl (zhw rfl rfl),rfl⟩
theorem zx5 (hn:6 ≤ n) (ok:d.Ok) (s:Int) (he:twoE d=0) (hs:¬(s=0 ∨ s=1)):C n 42 [d.av,i64 s] h=some (.ret (.agg (Rt.zero.cellsE 1)),h):=by
 obtain ⟨m,rfl⟩:=pre1 n
 have c2:=fun h=>zpp (n:=m) (h:=h) (by omega) d ok
 rw [he] at c2
 refine zad F42 rfl rfl rfl (by simp [zao,za1,AV.pureB]) ?_
 conv=>whnf
 refine ldI rfl ?_
 conv=>whnf
 refine clI (c2 _) ?_
 conv=>whnf
 refine brq (fun _=>?_) (fun a=>absurd (Or.inl a) hs)
 conv=>whnf
 refine brq (fun _=>?_) (fun a=>absurd (Or.inr a) hs)
 conv=>whnf
 refine stJ (xs:=Rt.zero.cellsE 1) (by rfl) ?_
 exact ⟨rfl,_,za6 rfl (zhw rfl rfl),rfl⟩
theorem z2y (hn:12 ≤ n) (ok:d.Ok) (s:Nat) (he:twoE d=0) (hs:s=0 ∨ s=1) {q:Rt}{e:Int}(cS:∀ n,11 ≤ n → ∀ h,C n 110 [d.av,i64 s] h=some (.ret (.agg (q.cellsE e)),h)):C n 42 [d.av,i64 s] h=some (.ret (.agg (q.cellsE e)),h):=by
 obtain ⟨m,rfl⟩:=pre1 n
 have c2:=fun h=>zpp (n:=m) (h:=h) (by omega) d ok
 rw [he] at c2
 refine zad F42 rfl rfl rfl (by simp [zao,za1,AV.pureB]) ?_
 conv=>whnf
 refine ldI rfl ?_
 conv=>whnf
 refine clI (c2 _) ?_
 rcases hs with rfl | rfl
 all_goals
  conv=>whnf
  refine ldI rfl ?_
  conv=>whnf
  refine clI (cS m (by omega) _) ?_
  conv=>whnf
  refine stJ (xs:=q.cellsE e) (by rfl) ?_
  exact ⟨rfl,_,za6 rfl (zhw rfl rfl),zx3 _ _ _⟩
theorem two_iff {d:Dk}:twoE d=0 ↔ zau d=true ∧ 2 ≤ zay d:=by
 unfold twoE
 cases zau d<;>by_cases c:2 ≤ zay d<;>simp [c]
theorem zqi (d:Dk) (ok:d.Ok) (s:Int):∃ (q:Rt) (e:Int),(∀ n,14 ≤ n → ∀ h,C n 41 [d.av,i64 s] h=some (.ret (.tup [q.av,i64 e]),h)) ∧ ∀ n,12 ≤ n → ∀ h,C n 42 [d.av,i64 s] h=some (.ret (.agg (q.cellsE e)),h):=by
 cases hr:zau d with
 | false =>
  have e2:twoE d=2:=by unfold twoE;rw [hr];rfl
  refine ⟨Rt.zero,2,fun n hn h=>?_,fun n hn h=>?_⟩
  ·obtain ⟨m,rfl⟩ : ∃ m,n=m+2:=⟨n-2,by omega⟩
   refine rrO (fun hp h0 h1=>?_) fun _=>rfl
   rw [if_neg (by decide)]
   exact z20 (by omega) ok hr h0
  ·have:=zp1 (n:=n) (h:=h) (by omega) ok s (by rw [e2];decide)
   rwa [e2] at this
 | true =>
  by_cases h2:2 ≤ zay d
  ·have e2:twoE d=0:=two_iff.2 ⟨hr,h2⟩
   by_cases hs:s=0 ∨ s=1
   ·obtain ⟨k,rfl⟩ : ∃ k:Nat,s=(k:Int):=⟨s.toNat,by omega⟩
    have hk:k=0 ∨ k=1:=by omega
    obtain ⟨q,e,z,cR,cS⟩:=zoi d ok hr k (by omega)
    refine ⟨q,e,fun n hn h=>?_,fun n hn h=>z2y (by omega) ok k e2 hk cS⟩
    obtain ⟨m,rfl⟩ : ∃ m,n=m+2:=⟨n-2,by omega⟩
    exact rrO (fun hp h0 h1=>z2z (by omega) ok hr h0 h1 hk h2 (cR (m-1) (by omega))) fun h=>(z h).1
   ·refine ⟨Rt.zero,1,fun n hn h=>?_,fun n hn h=>zx5 (by omega) ok s e2 hs⟩
    obtain ⟨m,rfl⟩ : ∃ m,n=m+2:=⟨n-2,by omega⟩
    refine rrO (fun hp h0 h1=>?_) fun _=>rfl
    rw [if_neg (by decide)]
    exact zx6 (by omega) ok hr h0 h1 (.inl hs)
  ·have e2:twoE d=1:=by unfold twoE;rw [hr,if_pos rfl,if_neg h2]
   refine ⟨Rt.zero,1,fun n hn h=>?_,fun n hn h=>?_⟩
   ·obtain ⟨m,rfl⟩ : ∃ m,n=m+2:=⟨n-2,by omega⟩
    refine rrO (fun hp h0 h1=>?_) fun _=>rfl
    rw [if_neg (by decide)]
    exact zx6 (by omega) ok hr h0 h1 (.inr h2)
   ·have:=zp1 (n:=n) (h:=h) (by omega) ok s (by rw [e2];decide)
    rwa [e2] at this
end
abbrev tRtF:Nat:=200
section
variable {n m:Nat}{h hp:zaa}{d:Dk}
theorem z5b (hn:1 ≤ n) (a:Int):C n 213 [i64 a] h=some (.ret (.bool false),h):=by
 obtain ⟨m,rfl⟩:=pre1 n
 refine zad F213 rfl rfl rfl rfl ?_
 conv=>whnf
 exact ⟨rfl,_,rfl,zai (by simp)⟩
theorem z74 (hn:2 ≤ n) (a b:Int):C n 172 [i64 a,i64 b] h=some (.ret (i64 (if a<b then -1 else if b<a then 1 else 0)),h):=by
 obtain ⟨m,rfl⟩:=pre1 n
 refine zad F172 rfl rfl rfl rfl ?_
 conv=>whnf
 refine clI (z5b (by omega) _) ?_
 conv=>whnf
 refine clI (z5b (by omega) _) ?_
 conv=>whnf
 refine brd (fun c=>?_) (fun c=>?_)
 ·rw [if_pos c]
  exact ⟨rfl,_,rfl,rfl⟩
 ·rw [if_neg c]
  conv=>whnf
  refine brd (fun c2=>?_) (fun c2=>?_)
  ·rw [if_pos c2]
   exact ⟨rfl,_,rfl,rfl⟩
  ·rw [if_neg c2]
   exact ⟨rfl,_,rfl,rfl⟩
theorem z3q (hn:3 ≤ n) (x y:Rt) (s t:Int):∃ h',C n 171 [.agg (x.cellsE s),.agg (y.cellsE t)] hp=some (.ret (i64 (if y.ver<x.ver then -1 else if x.ver<y.ver then 1 else 0)),h') ∧ Keep hp h' []:=by
 obtain ⟨m,rfl⟩:=pre1 n
 refine ⟨hp++[.cells 0 (some tRtF) (x.cellsE s) 0]++[.cells 0 (some tRtF) (y.cellsE t) 0],?_,(Keep.app _ _ []).trans (Keep.app _ _ []) (by simp)⟩
 refine za7 F171 rfl rfl ?_
 conv=>whnf
 refine ldI (zaf _ _) ?_
 conv=>whnf
 refine ldI (by rw [List.getElem?_append_left (by simp)];exact zaf _ _) ?_
 conv=>whnf
 refine clI (z74 (by omega) _ _) ?_
 exact ⟨rfl,_,rfl,rfl,rfl⟩
abbrev fNew:AV:=.fn (.func 171) [] []
theorem z7x:fnOk Tryz.prog 171=true:=by kernel_rfl
theorem zz3 (hn:1 ≤ n) (L:AV) (k:Nat) (hk:k ≤ 1):C n 234 [L,i64 0,i64 k,fNew] hp=some (.ret (.tup []),hp):=by
 obtain ⟨m,rfl⟩:=pre1 n
 refine za7 F234 rfl rfl ?_
 conv=>whnf
 refine zI (z:=1) (by rfl) ?_
 conv=>whnf
 refine za3 (by decide) rfl (α:=Unit) (fun _=>⟨[(2,i64 k),(8,i64 1)],hp,[]⟩) (fun _=>True) (fun _=>0) () ⟨⟨rfl,rfl⟩,rfl,rfl⟩ trivial (by simp only [KK];omega) ?_
 rintro - -
 conv=>whnf
 refine brd (fun a=>absurd hk (by omega)) (fun _=>?_)
 conv=>whnf
 exact ⟨rfl,_,rfl,rfl,rfl⟩
abbrev twoC (ver:Nat) (x y:Rt) (s t:Int):AB:=.cells ver (some tRtF) (x.cellsE s++y.cellsE t) 0
set_option maxRecDepth 10000 in
theorem zz2 {b ver:Nat}(hm:3 ≤ m) (x y:Rt) (s t:Int) (hb:hp[b]?=some (twoC ver x y s t)) {Q:Ex → LS → Prop}{st:LS}
  (hs:LS.sub ⟨[(0,.sl 22 b ver 0 2),(1,i64 0),(2,i64 2),(3,fNew),(8,i64 1),(9,i64 1)],hp,[]⟩ st)
  (hE:∀ L h,Keep hp h [b] → h[b]?=some (if x.ver<y.ver then twoC ver y x t s else twoC ver x y s t) → subL [(0,.sl 22 b ver 0 2),(1,i64 0),(2,i64 2),(3,fNew),(8,i64 1)] L → Q (.exit 2) ⟨L,h,[]⟩) :
  OkR Tryz.prog (C m) cfg0.inl KK 53 6 (.loop (c234.lp 1)) st Q:=by
 have lb:=zab hb
 refine za3 (by decide) rfl (α:=Bool × zaa) (fun f=>⟨[(0,.sl 22 b ver 0 2),(1,i64 0),(2,i64 2),(3,fNew),(8,i64 1),(9,if f.1 then i64 0 else i64 1)],f.2,[]⟩) (fun f=>(f.1=true → x.ver<y.ver ∧ Keep hp f.2 [b] ∧ f.2[b]?=some (twoC ver y x t s)) ∧ (f.1=false → f.2=hp)) (fun f=>if f.1 then 0 else 1) (false,hp) hs ⟨(fun h=>by cases h),fun _=>rfl⟩ (by show (1:Nat)<KK;decide) ?_
 rintro ⟨f,h1⟩ ⟨hf,hg⟩
 cases f with
 | true =>
  obtain ⟨q1,q2,q3⟩:=hf rfl
  conv=>whnf
  refine ⟨?_,?_⟩
  ·repeat' (conv=>whnf);first | done | exact ldI (hb) rfl | exact ldI (hb) rfl | refine ⟨?_,?_⟩ | rfl
  conv=>whnf
  refine hE _ _ q2 ?_ ?_
  ·rw [if_pos q1];exact q3
  ·exact ⟨rfl,rfl,rfl,rfl,rfl⟩
 | false =>
  have:=hg rfl
  simp only at this
  subst this
  obtain ⟨h2,e2,k2⟩:=z3q (n:=m) (hp:=h1) hm y x t s
  have hb2:=k2.get hb (by simp)
  conv=>whnf
  refine ⟨by decide,by decide,rfl,?_⟩
  conv=>whnf
  refine ldI hb ?_
  conv=>whnf
  refine zI (z:=0) (by rfl) ?_
  conv=>whnf
  refine ⟨by decide,by decide,rfl,?_⟩
  conv=>whnf
  refine ldI hb ?_
  conv=>whnf
  refine cvI z7x e2 ?_
  refine ⟨?_,?_⟩
  ·repeat' (conv=>whnf);first | done | exact ldI (hb2) rfl | exact ldI (hb2) rfl | refine ⟨?_,?_⟩ | rfl
  conv=>whnf
  by_cases c:x.ver<y.ver
  ·rw [if_pos c]
   conv=>whnf
   refine zI (z:=0) (by rfl) ?_
   conv=>whnf
   refine zI (z:=0) (by rfl) ?_
   conv=>whnf
   refine ⟨by decide,by decide,rfl,?_⟩
   conv=>whnf
   refine ldI hb2 ?_
   conv=>whnf
   refine ⟨by decide,by decide,rfl,?_⟩
   conv=>whnf
   refine ldI hb2 ?_
   conv=>whnf
   refine ⟨by decide,by decide,rfl,?_⟩
   conv=>whnf
   refine stJ (xs:=x.cellsE s) hb2 ?_
   conv=>whnf
   refine ⟨by decide,by decide,rfl,?_⟩
   conv=>whnf
   refine stJ (xs:=y.cellsE t) (List.getElem?_set_self (zab hb2)) ?_
   conv=>whnf
   refine zI (z:=0) (by rfl) ?_
   refine nxI (true,_) ⟨fun _=>⟨c,((k2.mono (by simp)).set' (.inl (by simp))).set' (.inl (by simp)),?_⟩,(fun h=>by cases h)⟩ (by show 0<1;decide) ⟨⟨rfl,rfl,rfl,rfl,rfl,rfl⟩,rfl,rfl⟩
   exact List.getElem?_set_self (by rw [List.length_set];exact zab hb2)
  ·rw [if_neg c]
   by_cases c2:y.ver<x.ver
   ·rw [if_pos c2]
    conv=>whnf
    refine hE _ _ (k2.mono (by simp)) ?_ ?_
    ·rw [if_neg c];exact hb2
    ·exact ⟨rfl,rfl,rfl,rfl,rfl⟩
   ·rw [if_neg c2]
    conv=>whnf
    refine hE _ _ (k2.mono (by simp)) ?_ ?_
    ·rw [if_neg c];exact hb2
    ·exact ⟨rfl,rfl,rfl,rfl,rfl⟩
end
section
variable {n m:Nat}{h hp:zaa}{d:Dk}
theorem z7o (hn:4 ≤ n) {b ver:Nat}(x y:Rt) (s t:Int) (hb:hp[b]?=some (twoC ver x y s t)):∃ v h',C n 234 [.sl 22 b ver 0 2,i64 0,i64 2,fNew] hp=some (.ret v,h') ∧ v=.tup [] ∧ Keep hp h' [b] ∧ h'[b]?=some (if x.ver<y.ver then twoC ver y x t s else twoC ver x y s t):=by
 obtain ⟨m,rfl⟩:=pre1 n
 refine zcn F234 rfl rfl ?_
 conv=>whnf
 refine zI (z:=1) (by rfl) ?_
 conv=>whnf
 refine za3 (by decide) rfl (α:=Bool × zaa) (fun f=>⟨[(0,.sl 22 b ver 0 2),(1,i64 0),(2,i64 2),(3,fNew),(8,if f.1 then i64 2 else i64 1)],f.2,[]⟩) (fun f=>(f.1=true → Keep hp f.2 [b] ∧ f.2[b]?=some (if x.ver<y.ver then twoC ver y x t s else twoC ver x y s t)) ∧ (f.1=false → f.2=hp)) (fun f=>if f.1 then 0 else 1) (false,hp) ⟨⟨rfl,rfl,rfl,rfl,rfl⟩,rfl,rfl⟩ ⟨(fun h=>by cases h),fun _=>rfl⟩ (by show (1:Nat)<KK;decide) ?_
 rintro ⟨f,h1⟩ ⟨hf,hg⟩
 cases f with
 | true =>
  obtain ⟨q2,q3⟩:=hf rfl
  conv=>whnf
  exact ⟨rfl,_,rfl,rfl,q2,q3⟩
 | false =>
  have:=hg rfl
  simp only at this
  subst this
  conv=>whnf
  refine zz2 (by omega) x y s t hb ⟨⟨rfl,rfl,rfl,rfl,rfl,rfl⟩,rfl,rfl⟩ (fun L h2 k2 g2 hL=>?_)
  conv=>whnf
  refine cutI (by decide) rfl (t:=⟨[(0,.sl 22 b ver 0 2),(1,i64 0),(2,i64 2),(3,fNew),(8,i64 1)],h2,[]⟩) ⟨hL,rfl,rfl⟩ ?_
  conv=>whnf
  refine zI (z:=2) (by rfl) ?_
  exact nxI (true,h2) ⟨fun _=>⟨k2,g2⟩,(fun h=>by cases h)⟩ (by show 0<1;decide) ⟨⟨rfl,rfl,rfl,rfl,rfl⟩,rfl,rfl⟩
theorem zk5 {L:AV}{k:Nat}(hk:k ≤ 2) (e:C m 234 [L,i64 0,i64 k,fNew] hp=some (.ret (.tup []),h)):C (m+1) 212 [L,i64 k,fNew] hp=some (.ret (.tup []),h):=by
 refine za7 F212 rfl rfl ?_
 conv=>whnf
 refine za3 (by decide) rfl (α:=Unit) (fun _=>⟨[(0,L),(1,i64 k),(2,fNew),(6,i64 20),(7,i64 0),(8,i64 20)],hp,[]⟩) (fun _=>True) (fun _=>0) () ⟨⟨rfl,rfl,rfl,rfl,rfl,rfl⟩,rfl,rfl⟩ trivial (by simp only [KK];omega) ?_
 rintro - -
 conv=>whnf
 refine brd (fun a=>absurd hk (by omega)) (fun _=>?_)
 conv=>whnf
 refine cutI (by decide) rfl (t:=⟨[(0,L),(1,i64 k),(2,fNew),(6,i64 20),(7,i64 0)],hp,[]⟩) ⟨⟨rfl,rfl,rfl,rfl,rfl⟩,rfl,rfl⟩ ?_
 conv=>whnf
 refine clI e ?_
 conv=>whnf
 refine za3 (by decide) rfl (α:=Unit) (fun _=>⟨[(1,i64 k),(6,i64 20)],h,[]⟩) (fun _=>True) (fun _=>0) () ⟨⟨rfl,rfl⟩,rfl,rfl⟩ trivial (by simp only [KK];omega) ?_
 rintro - -
 conv=>whnf
 refine brd (fun a=>absurd hk (by omega)) (fun _=>?_)
 conv=>whnf
 exact ⟨rfl,[],rfl,rfl,rfl⟩
theorem z2o (hn:3 ≤ n):C n 170 [.lst 0 [] true,fNew] hp=some (.ret (.tup []),hp):=by
 obtain ⟨m,rfl⟩ : ∃ m,n=m+2:=⟨n-2,by omega⟩
 refine za7 F170 rfl rfl ?_
 conv=>whnf
 refine clI (zk5 (k:=0) (by omega) (zz3 (by omega) _ 0 (by omega))) ?_
 exact ⟨rfl,[],rfl,rfl,rfl⟩
theorem ztx (hn:3 ≤ n) {b ver:Nat}:C n 170 [.sl 22 b ver 0 1,fNew] hp=some (.ret (.tup []),hp):=by
 obtain ⟨m,rfl⟩ : ∃ m,n=m+2:=⟨n-2,by omega⟩
 refine za7 F170 rfl rfl ?_
 conv=>whnf
 refine clI (zk5 (k:=1) (by omega) (zz3 (by omega) _ 1 (by omega))) ?_
 exact ⟨rfl,[],rfl,rfl,rfl⟩
theorem z2n (hn:6 ≤ n) {b ver:Nat}(x y:Rt) (s t:Int) (hb:hp[b]?=some (twoC ver x y s t)):∃ h',C n 170 [.sl 22 b ver 0 2,fNew] hp=some (.ret (.tup []),h') ∧ Keep hp h' [b] ∧ h'[b]?=some (if x.ver<y.ver then twoC ver y x t s else twoC ver x y s t):=by
 obtain ⟨m,rfl⟩ : ∃ m,n=m+2:=⟨n-2,by omega⟩
 obtain ⟨v,h',e,rfl,k1,g1⟩:=z7o (n:=m) (by omega) x y s t hb
 refine ⟨h',?_,k1,g1⟩
 refine za7 F170 rfl rfl ?_
 conv=>whnf
 refine clI (zk5 (k:=2) (by omega) e) ?_
 exact ⟨rfl,[],rfl,rfl,rfl⟩
end
def zvj (l:List (Rt × Int)):List AV:=l.flatMap fun p=>p.1.cellsE p.2
def NB0 (base:Nat) (h:zaa) (L:AV) (l:List (Rt × Int)):Prop:=(l=[] ∧ L=.lst 0 [] true) ∨ (∃ b ver,base ≤ b ∧ l≠[] ∧ L=.sl 22 b ver 0 l.length ∧ h[b]?=some (.cells ver (some tRtF) (zvj l) 0))
theorem NB0.keep {base:Nat}{h h':zaa}{L:AV}{l:List (Rt × Int)}(a:NB0 base h L l) (k:Keep h h' []):NB0 base h' L l:=by
 rcases a with a | ⟨b,ver,a1,a2,a3,a4⟩
 ·exact .inl a
 ·exact .inr ⟨b,ver,a1,a2,a3,k.get a4 (by simp)⟩
theorem zzk {base:Nat}{h:zaa}{L:AV}{l:List (Rt × Int)}(a:NB0 base h L l) (hb:base ≤ h.length) (hl:l.length ≤ 1) (q:Rt) (e:Int) :
  ∃ v h',appR h tRtF 22 L (.lst 22 [.agg (q.cellsE e)] true)=some (v,some h') ∧ NB0 base h' v (l++[(q,e)]) ∧ (∀ y,y<base → h'[y]?=h[y]?) ∧ h.length ≤ h'.length:=by
 rcases a with ⟨rfl,rfl⟩ | ⟨b,ver,a1,a2,rfl,a4⟩
 ·refine ⟨.sl 22 h.length 0 0 1,h++[.cells 0 (some tRtF) (q.cellsE e) 0],rfl,.inr ⟨h.length,0,hb,by simp,rfl,zaf _ _⟩,fun y hy=>List.getElem?_append_left (by omega),by simp⟩
 ·obtain ⟨p,rfl⟩ : ∃ p,l=[p]:=by
   cases l with
   | nil=>exact (a2 rfl).elim
   | cons p r=>cases r with
    | nil=>exact ⟨p,rfl⟩
    | cons _ _=>simp at hl
  refine ⟨.sl 22 b (ver+1) 0 2,h.set b (.cells (ver+1) (some tRtF) (zvj [p]++q.cellsE e) 0),?_,.inr ⟨b,ver+1,a1,by simp,rfl,?_⟩,fun y hy=>List.getElem?_set_ne (by omega),by simp⟩
  ·have:appR h tRtF 22 (.sl 22 b ver 0 [p].length) (.lst 22 [.agg (q.cellsE e)] true)=(match h[b]? with
     | some (.cells ver' el cs frz) =>
      if (el=some tRtF ∨ el=none) ∧ 22=22 ∧ ver'=ver ∧ 0=0 ∧ 1*22=cs.length ∧ cs.all AV.scal ∧ 1+1 ≤ 1073741824 ∧ frz ≤ cs.length then
       (if 1=0 then some (AV.sl 22 b ver 0 1,none) else some (.sl 22 b (ver+1) 0 (1+1),some (h.set b (.cells (ver+1) el (cs++q.cellsE e) frz))))
      else none
     | _=>none):=rfl
   rw [this,a4]
   simp only
   rw [if_pos ⟨.inl trivial,trivial,trivial,trivial,rfl,rfl,by decide,Nat.zero_le _⟩,if_neg (by decide)]
  ·rw [List.getElem?_set_self (zab a4)]
   simp [zvj]
def preL (a b:Rt) (ea eb:Int):Nat → List (Rt × Int)
 | 0=>[]
 | 1=>if ea=0 then [(a,0)] else []
 | _=>(if ea=0 then [(a,0)] else [])++(if eb=0 then [(b,1)] else [])
def newL (a b:Rt) (ea eb:Int):List (Rt × Int):=if ea=0 ∧ eb=0 ∧ a.ver<b.ver then [(b,1),(a,0)] else preL a b ea eb 2
section
variable {n m:Nat}{h hp:zaa}{d:Dk}
theorem zog (hn:5 ≤ n) {w:Nat}(hw:hp[w]?=some (wriC d)) (hl:d.secs.length ≤ 1099511627776) (h2:¬ 2 ≤ zay d):C n 113 [.ptr w 0 0] hp=some (.pan (zbx 1),hp):=by
 obtain ⟨m,rfl⟩:=pre1 n
 obtain ⟨r,h',e,rfl,rfl⟩:=zav (n:=m) (c:=cfg0) (args:=[.ptr w 0 0]) (h:=hp) (R:=fun r h=>r=.pan (zbx 1) ∧ h=hp) F113 rfl rfl (by
  conv=>whnf
  refine clP (zjn (by omega) hw hl h2) ?_
  exact ⟨rfl,rfl⟩)
 exact e
set_option maxRecDepth 10000 in
theorem zvl {w:Nat}(hw:hp[w]?=some (wriC d)) {a b:Rt}{ea eb:Int}
  (cA:∀ hp w,hp[w]?=some (wriC d) → ∃ h',C m 108 [.ptr w 0 0,i64 0] hp=some (.ret (.tup [a.av,i64 ea]),h') ∧ Keep hp h' [])
  (cB:∀ hp w,hp[w]?=some (wriC d) → ∃ h',C m 108 [.ptr w 0 0,i64 1] hp=some (.ret (.tup [b.av,i64 eb]),h') ∧ Keep hp h' [])
  {Q:Ex → LS → Prop}{st:LS}(hs:LS.sub ⟨[(0,.ptr w 0 0),(3,.lst 0 [] true),(9,i64 0)],hp,[]⟩ st)
  (hE:∀ LL L h,Keep hp h [] → NB0 hp.length h L (preL a b ea eb 2) → subL [(0,.ptr w 0 0),(3,L)] LL → Q (.exit 0) ⟨LL,h,[]⟩) :
  OkR Tryz.prog (C m) cfg0.inl KK 30 5 (.loop (c113.lp 0)) st Q:=by
 refine za3 (by decide) rfl (α:=Nat × zaa × AV) (fun x=>⟨[(0,.ptr w 0 0),(3,x.2.2),(9,i64 x.1)],x.2.1,[]⟩) (fun x=>x.1 ≤ 2 ∧ Keep hp x.2.1 [] ∧ NB0 hp.length x.2.1 x.2.2 (preL a b ea eb x.1)) (fun x=>2-x.1) (0,hp,.lst 0 [] true) hs ⟨Nat.zero_le _,Keep.refl _ _,.inl ⟨rfl,rfl⟩⟩ (by show 2-0<KK;decide) ?_
 rintro ⟨j,h1,L⟩ ⟨g1,g2,g3⟩
 simp only at g1 g2 g3
 have step:∀ (q:Rt) (e:Int) (h2:zaa),Keep h1 h2 [] → Keep hp ((h2++[zRtB]).set h2.length (.cells 0 (some zco) (putAt Rt.zero.cells 0 q.cells) 0)) [] ∧ NB0 hp.length ((h2++[zRtB]).set h2.length (.cells 0 (some zco) (putAt Rt.zero.cells 0 q.cells) 0)) L (preL a b ea eb j):=fun q e h2 k2=>by
  have k3:Keep h1 ((h2++[zRtB]).set h2.length (.cells 0 (some zco) (putAt Rt.zero.cells 0 q.cells) 0)) []:=(k2.trans (Keep.app _ _ []) (by simp)).set' (.inr k2.1)
  exact ⟨g2.trans k3 (by simp),g3.keep k3⟩
 obtain rfl | rfl | rfl:j=0 ∨ j=1 ∨ j=2:=by omega
 ·obtain ⟨h2,e2,k2⟩:=cA h1 w (g2.get hw (by simp))
  obtain ⟨k3,n3⟩:=step a ea h2 k2
  conv=>whnf
  refine clI e2 ?_
  conv=>whnf
  refine stJ (xs:=a.cells) (zaf _ _) ?_
  conv=>whnf
  refine bre (fun c=>?_) (fun c=>?_)
  ·conv=>whnf
   refine ldI (zag _ _ _) ?_
   conv=>whnf
   refine ⟨rfl,?_⟩
   conv=>whnf
   obtain ⟨v,h4,e4,n4,q4,l4⟩:=zzk n3 k3.1 (by simp [preL]) a 0
   refine apI5 e4 ?_
   conv=>whnf
   refine zI (z:=1) (by rfl) ?_
   refine nxI (1,h4,v) ⟨(show 1 ≤ 2 by decide),⟨Nat.le_trans k3.1 l4,fun y hy _=>(q4 y hy).trans (k3.2 y hy (by simp))⟩,?_⟩ (by show 2-1<2-0;decide) ⟨⟨rfl,rfl,rfl⟩,rfl,rfl⟩
   simp only [preL,List.nil_append] at n4
   simp only [preL,if_pos c]
   exact n4
  ·conv=>whnf
   refine zI (z:=1) (by rfl) ?_
   refine nxI (1,_,L) ⟨(show 1 ≤ 2 by decide),k3,?_⟩ (by show 2-1<2-0;decide) ⟨⟨rfl,rfl,rfl⟩,rfl,rfl⟩
   simp only [preL,if_neg c]
   exact n3
 ·obtain ⟨h2,e2,k2⟩:=cB h1 w (g2.get hw (by simp))
  obtain ⟨k3,n3⟩:=step b eb h2 k2
  conv=>whnf
  refine clI e2 ?_
  conv=>whnf
  refine stJ (xs:=b.cells) (zaf _ _) ?_
  conv=>whnf
  refine bre (fun c=>?_) (fun c=>?_)
  ·conv=>whnf
   refine ldI (zag _ _ _) ?_
   conv=>whnf
   refine ⟨rfl,?_⟩
   conv=>whnf
   obtain ⟨v,h4,e4,n4,q4,l4⟩:=zzk n3 k3.1 (by simp only [preL];split<;>simp) b 1
   refine apI5 e4 ?_
   conv=>whnf
   refine zI (z:=2) (by rfl) ?_
   refine nxI (2,h4,v) ⟨(show 2 ≤ 2 by decide),⟨Nat.le_trans k3.1 l4,fun y hy _=>(q4 y hy).trans (k3.2 y hy (by simp))⟩,?_⟩ (by show 2-2<2-1;decide) ⟨⟨rfl,rfl,rfl⟩,rfl,rfl⟩
   simp only [preL] at n4
   simp only [preL,if_pos c]
   exact n4
  ·conv=>whnf
   refine zI (z:=2) (by rfl) ?_
   refine nxI (2,_,L) ⟨(show 2 ≤ 2 by decide),k3,?_⟩ (by show 2-2<2-1;decide) ⟨⟨rfl,rfl,rfl⟩,rfl,rfl⟩
   simp only [preL,if_neg c,List.append_nil]
   exact n3
 ·conv=>whnf
  exact hE _ _ _ g2 g3 ⟨rfl,rfl⟩
theorem zi7 (a b:Rt) (ea eb:Int):(newL a b ea eb).length ≤ 2:=by
 unfold newL
 by_cases c1:ea=0<;>by_cases c2:eb=0<;>by_cases c3:a.ver<b.ver<;>simp [preL,c1,c2,c3]
theorem zi6 {a b:Rt}{ea eb:Int}(c1:ea=0) (c2:eb=0):newL a b ea eb=if a.ver<b.ver then [(b,1),(a,0)] else [(a,0),(b,1)]:=by
 unfold newL
 by_cases c3:a.ver<b.ver<;>simp [preL,c1,c2,c3]
theorem zoh (hn:12 ≤ n) (hr:zau d=true) (h2:2 ≤ zay d) {w:Nat}(hw:hp[w]?=some (wriC d)) {a b:Rt}{ea eb:Int}
  (cA:∀ n,11 ≤ n → ∀ hp w,hp[w]?=some (wriC d) → ∃ h',C n 108 [.ptr w 0 0,i64 0] hp=some (.ret (.tup [a.av,i64 ea]),h') ∧ Keep hp h' [])
  (cB:∀ n,11 ≤ n → ∀ hp w,hp[w]?=some (wriC d) → ∃ h',C n 108 [.ptr w 0 0,i64 1] hp=some (.ret (.tup [b.av,i64 eb]),h') ∧ Keep hp h' []) :
  ∃ L h',C n 113 [.ptr w 0 0] hp=some (.ret L,h') ∧ Keep hp h' [] ∧ NB0 hp.length h' L (newL a b ea eb):=by
 obtain ⟨m,rfl⟩:=pre1 n
 have hz:=(rightD_iff.1 hr).1
 refine zcn F113 rfl rfl ?_
 conv=>whnf
 refine clI (zjm (by omega) hw (by omega) h2) ?_
 conv=>whnf
 refine zvl hw (cA m (by omega)) (cB m (by omega)) ⟨⟨rfl,rfl,rfl⟩,rfl,rfl⟩ (fun LL L h1 k1 n1 hL=>?_)
 conv=>whnf
 refine cutI (by decide) rfl (t:=⟨[(0,.ptr w 0 0),(3,L)],h1,[]⟩) ⟨hL,rfl,rfl⟩ ?_
 conv=>whnf
 have fin:∃ h2,C m 170 [L,fNew] h1=some (.ret (.tup []),h2) ∧ Keep hp h2 [] ∧ NB0 hp.length h2 L (newL a b ea eb):=by
  by_cases c1:ea=0
  ·by_cases c2:eb=0
   ·simp only [preL,if_pos c1,if_pos c2,List.cons_append,List.nil_append] at n1
    rcases n1 with ⟨q,_⟩ | ⟨x,ver,a1,a2,rfl,a4⟩
    ·cases q
    ·obtain ⟨h2,e2,k2,g2⟩:=z2n (n:=m) (by omega) a b 0 1 (show h1[x]?=some (twoC ver a b 0 1) by rw [a4];rfl)
     refine ⟨h2,e2,k1.trans k2 (fun y hy=>.inr (by simp at hy;omega)),.inr ⟨x,ver,a1,?_,?_,?_⟩⟩
     ·rw [zi6 c1 c2];split<;>simp
     ·rw [zi6 c1 c2];split<;>rfl
     ·rw [g2,zi6 c1 c2]
      by_cases c3:a.ver<b.ver
      ·rw [if_pos c3,if_pos c3];rfl
      ·rw [if_neg c3,if_neg c3];rfl
   ·simp only [preL,if_pos c1,if_neg c2,List.append_nil] at n1
    have e:newL a b ea eb=[(a,0)]:=by unfold newL;rw [if_neg (fun q=>c2 q.2.1)];simp [preL,c1,c2]
    rw [e]
    rcases n1 with ⟨q,_⟩ | ⟨x,ver,a1,a2,rfl,a4⟩
    ·cases q
    ·exact ⟨h1,ztx (by omega),k1,.inr ⟨x,ver,a1,a2,rfl,a4⟩⟩
  ·by_cases c2:eb=0
   ·simp only [preL,if_neg c1,if_pos c2,List.nil_append] at n1
    have e:newL a b ea eb=[(b,1)]:=by unfold newL;rw [if_neg (fun q=>c1 q.1)];simp [preL,c1,c2]
    rw [e]
    rcases n1 with ⟨q,_⟩ | ⟨x,ver,a1,a2,rfl,a4⟩
    ·cases q
    ·exact ⟨h1,ztx (by omega),k1,.inr ⟨x,ver,a1,a2,rfl,a4⟩⟩
   ·simp only [preL,if_neg c1,if_neg c2,List.append_nil] at n1
    have e:newL a b ea eb=[]:=by unfold newL;rw [if_neg (fun q=>c1 q.1)];simp [preL,c1,c2]
    rw [e]
    rcases n1 with ⟨_,rfl⟩ | ⟨x,ver,a1,a2,_,a4⟩
    ·exact ⟨h1,z2o (by omega),k1,.inl ⟨rfl,rfl⟩⟩
    ·exact (a2 rfl).elim
 obtain ⟨h2,e2,k2,n2⟩:=fin
 refine clI e2 ?_
 exact ⟨rfl,_,rfl,k2,n2⟩
end
def zya (l:List Rt):List AV:=l.flatMap fun p=>p.cells
def NB1 (base:Nat) (h:zaa) (L:AV) (l:List Rt):Prop:=(l=[] ∧ L=.lst 0 [] true) ∨ (∃ b ver,base ≤ b ∧ l≠[] ∧ L=.sl 21 b ver 0 l.length ∧ h[b]?=some (.cells ver (some zco) (zya l) 0))
theorem NB1.keep {base:Nat}{h h':zaa}{L:AV}{l:List Rt}(a:NB1 base h L l) (k:Keep h h' []):NB1 base h' L l:=by
 rcases a with a | ⟨b,ver,a1,a2,a3,a4⟩
 ·exact .inl a
 ·exact .inr ⟨b,ver,a1,a2,a3,k.get a4 (by simp)⟩
theorem z68 {base:Nat}{h:zaa}{L:AV}{l:List Rt}(a:NB1 base h L l) (hb:base ≤ h.length) (hl:l.length ≤ 1) (q:Rt) :
  ∃ v h',appR h zco 21 L (.lst 21 [.agg (q.cells)] true)=some (v,some h') ∧ NB1 base h' v (l++[q]) ∧ (∀ y,y<base → h'[y]?=h[y]?) ∧ h.length ≤ h'.length:=by
 rcases a with ⟨rfl,rfl⟩ | ⟨b,ver,a1,a2,rfl,a4⟩
 ·refine ⟨.sl 21 h.length 0 0 1,h++[.cells 0 (some zco) (q.cells) 0],rfl,.inr ⟨h.length,0,hb,by simp,rfl,zaf _ _⟩,fun y hy=>List.getElem?_append_left (by omega),by simp⟩
 ·obtain ⟨p,rfl⟩ : ∃ p,l=[p]:=by
   cases l with
   | nil=>exact (a2 rfl).elim
   | cons p r=>cases r with
    | nil=>exact ⟨p,rfl⟩
    | cons _ _=>simp at hl
  refine ⟨.sl 21 b (ver+1) 0 2,h.set b (.cells (ver+1) (some zco) (zya [p]++q.cells) 0),?_,.inr ⟨b,ver+1,a1,by simp,rfl,?_⟩,fun y hy=>List.getElem?_set_ne (by omega),by simp⟩
  ·have:appR h zco 21 (.sl 21 b ver 0 [p].length) (.lst 21 [.agg (q.cells)] true)=(match h[b]? with
     | some (.cells ver' el cs frz) =>
      if (el=some zco ∨ el=none) ∧ 21=21 ∧ ver'=ver ∧ 0=0 ∧ 1*21=cs.length ∧ cs.all AV.scal ∧ 1+1 ≤ 1073741824 ∧ frz ≤ cs.length then
       (if 1=0 then some (AV.sl 21 b ver 0 1,none) else some (.sl 21 b (ver+1) 0 (1+1),some (h.set b (.cells (ver+1) el (cs++q.cells) frz))))
      else none
     | _=>none):=rfl
   rw [this,a4]
   simp only
   rw [if_pos ⟨.inl trivial,trivial,trivial,trivial,rfl,rfl,by decide,Nat.zero_le _⟩,if_neg (by decide)]
  ·rw [List.getElem?_set_self (zab a4)]
   simp [zya]
theorem row_at {l:List (Rt × Int)}{j:Nat}(hl:l.length ≤ 2) (hj:j<l.length):zjq true 22 (zvj l) (0+(j:Int).toNat*22)=some (.agg (l[j].1.cellsE l[j].2)):=by
 rcases l with _ | ⟨p,_ | ⟨p2,_ | ⟨p3,r⟩⟩⟩
 ·exact absurd hj (Nat.not_lt_zero _)
 ·obtain rfl:j=0:=by simp at hj;omega
  rfl
 ·obtain rfl | rfl:j=0 ∨ j=1:=by simp at hj;omega
  ·rfl
  ·rfl
 ·simp at hl
theorem zq0 {base:Nat}{h:zaa}{L:AV}{l:List Rt}(a:NB1 base h L l):∃ (sz:Nat) (c:Bool),Abs.frz h 63 L=some (.lst sz (l.map Rt.av) c) ∧ (l≠[] → sz=21):=by
 rcases a with ⟨rfl,rfl⟩ | ⟨b,ver,a1,a2,rfl,a4⟩
 ·exact ⟨0,true,rfl,fun h=>(h rfl).elim⟩
 ·refine ⟨21,false,?_,fun _=>rfl⟩
  have e1:zya l=(l.map Rt.cells).flatten:=by rw [zya,List.flatMap_def]
  rw [e1] at a4
  have:=z0b (n:=62) (sz:=21) (rows:=l.map Rt.cells) (rows':=l.map Rt.cells) (by decide) a4 (fun r hr=>by obtain ⟨q,_,rfl⟩:=List.mem_map.1 hr;rfl) (zim fun x hx=>by
   obtain ⟨r,hr,hx⟩:=List.mem_flatten.1 hx
   obtain ⟨q,_,rfl⟩:=List.mem_map.1 hr
   simp only [Rt.cells,List.mem_cons,List.not_mem_nil,or_false] at hx
   rcases hx with rfl | rfl | rfl | rfl | rfl | rfl | rfl | rfl | rfl | rfl | rfl | rfl | rfl | rfl | rfl | rfl | rfl | rfl | rfl | rfl | rfl<;>rfl) (fun r hr=>by obtain ⟨q,_,rfl⟩:=List.mem_map.1 hr;exact ⟨rfl,rfl⟩) rfl
  rw [List.length_map] at this
  rw [this,List.map_map]
  rfl
section
variable {n m:Nat}{h hp:zaa}{d:Dk}
abbrev zi5 (l:List (Rt × Int)):List Rt:=l.map (·.1)
theorem zlc {l:List (Rt × Int)}(hl:l.length ≤ 2) {L:AV}{base:Nat}(hL:NB0 base h L l) {Q:Ex → LS → Prop}{st:LS}(hs:LS.sub ⟨[(2,.lst 0 [] true),(7,L),(8,i64 l.length),(9,i64 0)],h,[]⟩ st)
  (hE:∀ LL V h',Keep h h' [] → NB1 h.length h' V (zi5 l) → lk LL 2=some V → Q (.exit 0) ⟨LL,h',[]⟩) :
  OkR Tryz.prog (C m) cfg0.inl KK 20 5 (.loop (c112.lp 0)) st Q:=by
 refine za3 (by decide) rfl (α:=Nat × zaa × AV) (fun x=>⟨[(2,x.2.2),(7,L),(8,i64 l.length),(9,i64 x.1)],x.2.1,[]⟩) (fun x=>x.1 ≤ l.length ∧ Keep h x.2.1 [] ∧ NB1 h.length x.2.1 x.2.2 (zi5 (l.take x.1))) (fun x=>l.length-x.1) (0,h,.lst 0 [] true) hs ⟨Nat.zero_le _,Keep.refl _ _,.inl ⟨rfl,rfl⟩⟩ (by show l.length-0<KK;simp only [KK];omega) ?_
 rintro ⟨j,h1,V⟩ ⟨g1,g2,g3⟩
 simp only at g1 g2 g3
 conv=>whnf
 refine brd (fun a=>?_) (fun a=>?_)
 ·have hj:j<l.length:=by omega
  rcases hL.keep g2 with ⟨rfl,_⟩ | ⟨b,ver,a1,a2,rfl,a4⟩
  ·exact absurd hj (Nat.not_lt_zero _)
  conv=>whnf
  refine ⟨by omega,by omega,rfl,?_⟩
  conv=>whnf
  refine ldI a4 ?_
  refine zdr (v:=.agg (l[j].1.cellsE l[j].2)) (row_at hl hj) ?_
  conv=>whnf
  refine stJ (xs:=l[j].1.cellsE l[j].2) (zaf _ _) ?_
  conv=>whnf
  refine ldI (zag _ _ _) ?_
  conv=>whnf
  refine ⟨rfl,?_⟩
  conv=>whnf
  have k3:∀ x y,Keep h ((h1++[x]).set h1.length y) []:=fun x y=>(g2.trans (Keep.app _ _ []) (by simp)).set' (.inr g2.1)
  have n3:∀ x y,NB1 h.length ((h1++[x]).set h1.length y) V (zi5 (l.take j)):=fun x y=>g3.keep ((Keep.app h1 x []).set' (.inr (Nat.le_refl _)))
  obtain ⟨v,h4,e4,n4,q4,l4⟩:=z68 (n3 (.cells 0 (some tRtF) (Rt.zero.cellsE 0) 0) (.cells 0 (some tRtF) (putAt (Rt.zero.cellsE 0) 0 (l[j].1.cellsE l[j].2)) 0)) (k3 _ _).1 (by simp;omega) l[j].1
  refine apI5 e4 ?_
  conv=>whnf
  refine zJ j ?_
  refine nxI (j+1,h4,v) ⟨hj,⟨Nat.le_trans (k3 (.cells 0 (some tRtF) (Rt.zero.cellsE 0) 0) (.cells 0 (some tRtF) (putAt (Rt.zero.cellsE 0) 0 (l[j].1.cellsE l[j].2)) 0)).1 l4,fun y hy _=>(q4 y hy).trans ((k3 _ _).2 y hy (by simp))⟩,?_⟩ (by simp only;omega) ⟨⟨rfl,rfl,rfl,rfl⟩,rfl,rfl⟩
  rw [zdu hj]
  show NB1 h.length h4 v (zi5 (l.take j++[l[j]]))
  have e9:zi5 (l.take j++[l[j]])=zi5 (l.take j)++[l[j].1]:=List.map_append
  rw [e9]
  exact n4
 ·have hj:j=l.length:=by omega
  subst hj
  rw [List.take_length] at g3
  conv=>whnf
  exact hE _ _ _ g2 g3 rfl
theorem NB0.len {base:Nat}{h:zaa}{L:AV}{l:List (Rt × Int)}(a:NB0 base h L l):lenA L=some l.length:=by
 rcases a with ⟨rfl,rfl⟩ | ⟨b,ver,a1,a2,rfl,a4⟩<;>rfl
structure Rts (d:Dk) (a b:Rt) (ea eb:Int):Prop where
 cA:∀ n,11 ≤ n → ∀ hp w,hp[w]?=some (wriC d) → ∃ h',C n 108 [.ptr w 0 0,i64 0] hp=some (.ret (.tup [a.av,i64 ea]),h') ∧ Keep hp h' []
 cB:∀ n,11 ≤ n → ∀ hp w,hp[w]?=some (wriC d) → ∃ h',C n 108 [.ptr w 0 0,i64 1] hp=some (.ret (.tup [b.av,i64 eb]),h') ∧ Keep hp h' []
 sA:∀ n,11 ≤ n → ∀ h,C n 110 [d.av,i64 0] h=some (.ret (.agg (a.cellsE ea)),h)
 sB:∀ n,11 ≤ n → ∀ h,C n 110 [d.av,i64 1] h=some (.ret (.agg (b.cellsE eb)),h)
 zA:ea≠0 → a=Rt.zero ∧ ea=8
 zB:eb≠0 → b=Rt.zero ∧ eb=8
theorem zx0 (ok:d.Ok) (he:twoE d=0):∃ a b ea eb,Rts d a b ea eb:=by
 obtain ⟨hr,h2⟩:=two_iff.1 he
 obtain ⟨a,ea,zA,cA,sA⟩:=zoi d ok hr 0 (by omega)
 obtain ⟨b,eb,zB,cB,sB⟩:=zoi d ok hr 1 (by omega)
 exact ⟨a,b,ea,eb,cA,cB,sA,sB,zA,zB⟩
theorem zye (hn:13 ≤ n) (ok:d.Ok) (he:twoE d=0) {a b:Rt}{ea eb:Int}(R:Rts d a b ea eb) {D:Nat}(hD:hp[D]?=some (dkC d)) :
  ∃ V h',C n 112 [.ptr D 0 0] hp=some (.ret V,h') ∧ Keep hp h' [] ∧ NB1 hp.length h' V (zi5 (newL a b ea eb)):=by
 obtain ⟨m,rfl⟩:=pre1 n
 obtain ⟨hr,h2⟩:=two_iff.1 he
 have hz:=(rightD_iff.1 hr).1
 obtain ⟨L,h1,e1,k1,n1⟩:=zoh (n:=m) (hp:=hp++[dkC d]++[wriC d]) (by omega) hr h2 (zip _ _) R.cA R.cB
 have k2:=(zfq hp d).trans k1 (by simp)
 refine zcn F112 rfl rfl ?_
 conv=>whnf
 refine ldI hD ?_
 conv=>whnf
 refine clI (zlr (by omega) d ok hr) ?_
 conv=>whnf
 refine clI e1 ?_
 have fin:∀ LL V h',Keep h1 h' [] → NB1 h1.length h' V (zi5 (newL a b ea eb)) → lk LL 2=some V → Keep hp h' [] ∧ NB1 hp.length h' V (zi5 (newL a b ea eb)):=fun LL V h' k n _=>by
  refine ⟨k2.trans k (by simp),?_⟩
  rcases n with n | ⟨x,ver,q1,q⟩
  ·exact .inl n
  ·exact .inr ⟨x,ver,Nat.le_trans k2.1 q1,q⟩
 have n1c:=n1
 rcases n1c with ⟨e,rfl⟩ | ⟨b',ver,_,_,rfl,_⟩
 ·conv=>whnf
  refine zlc (zi7 a b ea eb) n1 ⟨⟨rfl,rfl,by rw [e];rfl,rfl⟩,rfl,rfl⟩ (fun LL V h' k3 n3 hk=>?_)
  conv=>whnf
  refine cutI (by decide) rfl (t:=⟨[(2,V)],h',[]⟩) ⟨hk,rfl,rfl⟩ ?_
  exact ⟨rfl,_,rfl,(fin LL V h' k3 n3 hk).1,(fin LL V h' k3 n3 hk).2⟩
 ·conv=>whnf
  refine zlc (zi7 a b ea eb) n1 ⟨⟨rfl,rfl,rfl,rfl⟩,rfl,rfl⟩ (fun LL V h' k3 n3 hk=>?_)
  conv=>whnf
  refine cutI (by decide) rfl (t:=⟨[(2,V)],h',[]⟩) ⟨hk,rfl,rfl⟩ ?_
  exact ⟨rfl,_,rfl,(fin LL V h' k3 n3 hk).1,(fin LL V h' k3 n3 hk).2⟩
theorem zyf (hn:7 ≤ n) (ok:d.Ok) (he:twoE d≠0) {D:Nat}(hD:hp[D]?=some (dkC d)) :
  ∃ r h',C n 112 [.ptr D 0 0] hp=some (r,h') ∧ r=.pan (zbx (twoE d)) ∧ Keep hp h' []:=by
 obtain ⟨m,rfl⟩:=pre1 n
 cases hr:zau d with
 | false =>
  have e2:twoE d=2:=by unfold twoE;rw [hr];rfl
  rw [e2]
  refine zav F112 rfl rfl ?_
  conv=>whnf
  refine ldI hD ?_
  conv=>whnf
  refine clP (zv4 (by omega) d ok hr) ?_
  exact ⟨rfl,Keep.app _ _ []⟩
 | true =>
  have hz:=(rightD_iff.1 hr).1
  have h2:¬ 2 ≤ zay d:=fun q=>he (two_iff.2 ⟨hr,q⟩)
  have e2:twoE d=1:=by unfold twoE;rw [hr,if_pos rfl,if_neg h2]
  rw [e2]
  refine zav F112 rfl rfl ?_
  conv=>whnf
  refine ldI hD ?_
  conv=>whnf
  refine clI (zlr (by omega) d ok hr) ?_
  conv=>whnf
  refine clP (zog (by omega) (zip _ _) (by omega) h2) ?_
  exact ⟨rfl,zfq _ _⟩
theorem z5j:fnOk Tryz.prog 112=true:=by kernel_rfl
theorem NB1.cells {base:Nat}{h:zaa}{L:AV}{l:List Rt}(a:NB1 base h L l):L.cells?=some [L]:=by
 rcases a with ⟨rfl,rfl⟩ | ⟨b,ver,a1,a2,rfl,a4⟩<;>rfl
theorem zvm (hn:16 ≤ n) (ok:d.Ok) (he:twoE d=0) {a b:Rt}{ea eb:Int}(R:Rts d a b ea eb):∃ (sz:Nat) (c:Bool),(newL a b ea eb≠[] → sz=21) ∧ ∀ h,C n 43 [d.av] h=some (.ret (.tup [.lst sz ((zi5 (newL a b ea eb)).map Rt.av) c,i64 0]),h):=by
 obtain ⟨m,rfl⟩ : ∃ m,n=m+2:=⟨n-2,by omega⟩
 obtain ⟨V,h',e0,k0,n0⟩:=zye (n:=m) (hp:=[dkC d]++[zCRs]++[errC 0]) (D:=0) (by omega) ok he R rfl
 obtain ⟨r,h3,e1,rfl,k1⟩:=z19 (m:=m) (hp:=[dkC d]) (cs:=[V]) z5j e0 n0.cells rfl (k0.get (x:=1) rfl (by simp)) (k0.get (x:=2) rfl (by simp))
 have n3:NB1 3 h3 V (zi5 (newL a b ea eb)):=by
  rcases n0 with n | ⟨x,ver,q1,q2,q3,q4⟩
  ·exact .inl n
  ·exact .inr ⟨x,ver,q1,q2,q3,k1.get q4 (by simp at q1 ⊢;omega)⟩
 obtain ⟨sz,c,e3,z⟩:=zq0 n3
 refine ⟨sz,c,fun q=>z (fun q2=>q (List.map_eq_nil_iff.1 q2)),fun h=>?_⟩
 refine zad F43 rfl rfl rfl (by simp [zao,za1]) ?_
 conv=>whnf
 refine clI e1 ?_
 refine ⟨rfl,[V,i64 0],rfl,?_⟩
 show Abs.frz h3 64 (.tup [V,i64 0])=_
 unfold Abs.frz
 simp only [allM,e3]
 rfl
theorem zsd (hn:10 ≤ n) (ok:d.Ok) (he:twoE d≠0):C n 43 [d.av] h=some (.ret (.tup [.lst 0 [] true,i64 (twoE d)]),h):=by
 obtain ⟨m,rfl⟩ : ∃ m,n=m+2:=⟨n-2,by omega⟩
 obtain ⟨r,h',e0,rfl,k0⟩:=zyf (n:=m) (hp:=[dkC d]++[zCRs]++[errC 0]) (D:=0) (by omega) ok he rfl
 obtain ⟨r,h3,e1,rfl,k1⟩:=z2b (m:=m) (hp:=[dkC d]) (cs:=zTRs) z5j e0 rfl (k0.get (x:=1) rfl (by simp)) (k0.get (x:=2) rfl (by simp))
 refine zad F43 rfl rfl rfl (by simp [zao,za1]) ?_
 conv=>whnf
 refine clI e1 ?_
 exact ⟨rfl,_,rfl,rfl⟩
end
theorem zyc {p:Rt × Int}{r:List (Rt × Int)}(hl:(p::r).length ≤ 2):zjq true 21 (zvj (p::r)) 0=some (.agg p.1.cells):=by
 rcases r with _ | ⟨p2,_ | ⟨p3,r⟩⟩
 ·rfl
 ·rfl
 ·simp at hl
theorem zyb {p:Rt × Int}{r:List (Rt × Int)}(hl:(p::r).length ≤ 2):zjq false 1 (zvj (p::r)) 21=some (i64 p.2):=by
 rcases r with _ | ⟨p2,_ | ⟨p3,r⟩⟩
 ·rfl
 ·rfl
 ·simp at hl
def latR:List (Rt × Int) → Rt × Int
 | []=>(Rt.zero,4)
 | p::_=>(p.1,0)
def zxs:List (Rt × Int) → Int
 | []=>0
 | p::_=>1-p.2
section
variable {n m:Nat}{h hp:zaa}{d:Dk}
theorem z7h (hn:13 ≤ n) (ok:d.Ok) (he:twoE d=0) {a b:Rt}{ea eb:Int}(R:Rts d a b ea eb) {D:Nat}(hD:hp[D]?=some (dkC d)) :
  ∃ r h',C n 114 [.ptr D 0 0] hp=some (r,h') ∧ r=(if (latR (newL a b ea eb)).2=0 then .ret (latR (newL a b ea eb)).1.av else .pan (zbx (latR (newL a b ea eb)).2)) ∧ Keep hp h' []:=by
 obtain ⟨m,rfl⟩:=pre1 n
 obtain ⟨hr,h2⟩:=two_iff.1 he
 have hz:=(rightD_iff.1 hr).1
 obtain ⟨L,h1,e1,k1,n1⟩:=zoh (n:=m) (hp:=hp++[zRtB]++[dkC d]++[wriC d]) (by omega) hr h2 (zip _ _) R.cA R.cB
 have k0:Keep hp (hp++[zRtB]++[dkC d]++[wriC d]) []:=(Keep.app hp _ []).trans (zfq _ d) (by simp)
 have k2:=k0.trans k1 (by simp)
 have gX:(hp++[zRtB]++[dkC d]++[wriC d])[hp.length]?=some zRtB:=by
  rw [List.getElem?_append_left (by simp),List.getElem?_append_left (by simp)];exact zaf _ _
 have gX1:=k1.get gX (by simp)
 have hl:=zi7 a b ea eb
 generalize newL a b ea eb=l at *
 refine zav F114 rfl rfl ?_
 conv=>whnf
 refine ldI (za8 hD) ?_
 conv=>whnf
 refine clI (zlr (by omega) d ok hr) ?_
 conv=>whnf
 refine clI e1 ?_
 rcases n1 with ⟨rfl,rfl⟩ | ⟨x,ver,_,ne,rfl,g⟩
 ·conv=>whnf
  refine clP (zi8 (by omega) rfl 4 (by decide)) ?_
  exact ⟨rfl,k2⟩
 ·obtain ⟨p,r,rfl⟩ : ∃ p r,l=p::r:=by cases l with | nil=>exact (ne rfl).elim | cons p r=>exact ⟨p,r,rfl⟩
  conv=>whnf
  refine clI (zfv (by omega) (by rw [decide_eq_true_iff];simp) 4) ?_
  conv=>whnf
  refine ⟨by show (0:Int) ≤ 0;decide,by simp,rfl,?_⟩
  conv=>whnf
  refine ldI g ?_
  refine zdr (v:=p.1.av) (zyc hl) ?_
  conv=>whnf
  refine stJ (xs:=p.1.cells) gX1 ?_
  exact ⟨_,za6 rfl (zx2 rfl (List.getElem?_set_self (zab gX1))),rfl,k2.set' (.inr (Nat.le_refl _))⟩
theorem z7i (hn:7 ≤ n) (ok:d.Ok) (he:twoE d≠0) {D:Nat}(hD:hp[D]?=some (dkC d)) :
  ∃ r h',C n 114 [.ptr D 0 0] hp=some (r,h') ∧ r=.pan (zbx (twoE d)) ∧ Keep hp h' []:=by
 obtain ⟨m,rfl⟩:=pre1 n
 cases hr:zau d with
 | false =>
  have e2:twoE d=2:=by unfold twoE;rw [hr];rfl
  rw [e2]
  refine zav F114 rfl rfl ?_
  conv=>whnf
  refine ldI (za8 hD) ?_
  conv=>whnf
  refine clP (zv4 (by omega) d ok hr) ?_
  exact ⟨rfl,(Keep.app _ _ []).trans (Keep.app _ _ []) (by simp)⟩
 | true =>
  have hz:=(rightD_iff.1 hr).1
  have h2:¬ 2 ≤ zay d:=fun q=>he (two_iff.2 ⟨hr,q⟩)
  have e2:twoE d=1:=by unfold twoE;rw [hr,if_pos rfl,if_neg h2]
  rw [e2]
  refine zav F114 rfl rfl ?_
  conv=>whnf
  refine ldI (za8 hD) ?_
  conv=>whnf
  refine clI (zlr (by omega) d ok hr) ?_
  conv=>whnf
  refine clP (zog (by omega) (zip _ _) (by omega) h2) ?_
  exact ⟨rfl,(Keep.app _ _ []).trans (zfq _ _) (by simp)⟩
theorem z5n:fnOk Tryz.prog 114=true:=by kernel_rfl
theorem latO {P:Rt}{E:Int}(hI:∀ hp,hp[0]?=some (dkC d) → ∃ r h',C n 114 [.ptr 0 0 0] hp=some (r,h') ∧ r=(if E=0 then .ret P.av else .pan (zbx E)) ∧ Keep hp h' []) (hz:E≠0 → P=Rt.zero) :
  C (n+2) 45 [d.av] h=some (.ret (.tup [P.av,i64 E]),h):=by
 obtain ⟨r,h',e0,hr,k0⟩:=hI ([dkC d,zCRt]++[zCRt]++[errC 0]) rfl
 have g3:=k0.get (x:=2) rfl (by simp)
 have g4:=k0.get (x:=3) rfl (by simp)
 have g2:=k0.get (x:=1) rfl (by simp)
 have main:∃ h3,C (n+1) 104 [.fn (.func 114) [] [.ptr 0 0 0]] [dkC d,zCRt]=some (.ret (.tup [P.av,i64 E]),h3) ∧ h3[1]?=some zCRt:=by
  by_cases c:E=0
  ·subst c
   rw [if_pos rfl] at hr
   subst hr
   obtain ⟨r,h3,e1,rfl,k1⟩:=zts (m:=n) (hp:=[dkC d,zCRt]) (cs:=P.cells) z5n e0 rfl rfl g3 g4
   exact ⟨h3,e1,k1.get g2 (by simp)⟩
  ·rw [if_neg c] at hr
   subst hr
   obtain ⟨r,h3,e1,rfl,k1⟩:=ztu (m:=n) (hp:=[dkC d,zCRt]) (cs:=zTRt) z5n e0 rfl g3 g4
   rw [hz c]
   exact ⟨h3,e1,k1.get g2 (by simp)⟩
 obtain ⟨h3,e1,g⟩:=main
 refine zad F45 rfl rfl rfl (by simp [zao,za1,AV.pureB]) ?_
 conv=>whnf
 refine clI e1 ?_
 conv=>whnf
 refine stJ (xs:=P.cells) g ?_
 exact ⟨rfl,_,zm9 rfl rfl (List.getElem?_set_self (zab g)) rfl,zx1 _ _ _⟩
theorem zzt (l:List (Rt × Int)) (h:(latR l).2≠0):(latR l).1=Rt.zero:=by
 cases l with
 | nil=>rfl
 | cons p r=>exact (h rfl).elim
theorem zzr (hn:16 ≤ n) (ok:d.Ok) (he:twoE d=0) {a b:Rt}{ea eb:Int}(R:Rts d a b ea eb):C n 45 [d.av] h=some (.ret (.tup [(latR (newL a b ea eb)).1.av,i64 (latR (newL a b ea eb)).2]),h):=by
 obtain ⟨m,rfl⟩ : ∃ m,n=m+2:=⟨n-2,by omega⟩
 exact latO (fun hp h0=>z7h (by omega) ok he R h0) (zzt _)
theorem zzs (hn:10 ≤ n) (ok:d.Ok) (he:twoE d≠0):C n 45 [d.av] h=some (.ret (.tup [Rt.zero.av,i64 (twoE d)]),h):=by
 obtain ⟨m,rfl⟩ : ∃ m,n=m+2:=⟨n-2,by omega⟩
 exact latO (fun hp h0=>by rw [if_neg he];exact z7i (by omega) ok he h0) fun _=>rfl
theorem z10 (hn:13 ≤ n) (hr:zau d=true) (h2:2 ≤ zay d) {a b:Rt}{ea eb:Int}(R:Rts d a b ea eb) {w:Nat}(hw:hp[w]?=some (wriC d)) :
  ∃ v h',C n 116 [.ptr w 0 0] hp=some (.ret v,h') ∧ v=i64 (zxs (newL a b ea eb)) ∧ Keep hp h' []:=by
 obtain ⟨m,rfl⟩:=pre1 n
 obtain ⟨L,h1,e1,k1,n1⟩:=zoh (n:=m) (hp:=hp) (by omega) hr h2 hw R.cA R.cB
 have hl:=zi7 a b ea eb
 have hs:∀ p r,newL a b ea eb=p::r → p.2=0 ∨ p.2=1:=fun p r e=>by
  unfold newL at e
  by_cases c1:ea=0<;>by_cases c2:eb=0<;>by_cases c3:a.ver<b.ver<;>simp [preL,c1,c2,c3] at e<;>(try (obtain ⟨rfl,_⟩:=e;simp))
 generalize newL a b ea eb=l at *
 refine zcn F116 rfl rfl ?_
 conv=>whnf
 refine clI e1 ?_
 rcases n1 with ⟨rfl,rfl⟩ | ⟨x,ver,_,ne,rfl,g⟩
 ·exact ⟨rfl,_,rfl,rfl,k1⟩
 ·obtain ⟨p,r,rfl⟩ : ∃ p r,l=p::r:=by cases l with | nil=>exact (ne rfl).elim | cons p r=>exact ⟨p,r,rfl⟩
  have:=hs p r rfl
  conv=>whnf
  refine brd (fun _=>?_) (fun a=>absurd a (by simp))
  conv=>whnf
  refine ⟨by show (0:Int) ≤ 0;decide,by simp,rfl,?_⟩
  conv=>whnf
  refine ldI g ?_
  refine zdr (v:=i64 p.2) (zyb hl) ?_
  conv=>whnf
  refine zI (z:=1-p.2) (zae (by omega) (by omega)) ?_
  exact ⟨rfl,_,rfl,rfl,k1⟩
theorem z2r (hn:14 ≤ n) (ok:d.Ok) (he:twoE d=0) {a b:Rt}{ea eb:Int}(R:Rts d a b ea eb) {D:Nat}(hD:hp[D]?=some (dkC d)) :
  ∃ r h',C n 115 [.ptr D 0 0] hp=some (r,h') ∧ r=.ret (i64 (zxs (newL a b ea eb))) ∧ Keep hp h' []:=by
 obtain ⟨m,rfl⟩:=pre1 n
 obtain ⟨hr,h2⟩:=two_iff.1 he
 obtain ⟨v,h1,e1,rfl,k1⟩:=z10 (n:=m) (hp:=hp++[dkC d]++[wriC d]) (by omega) hr h2 R (zip _ _)
 refine zav F115 rfl rfl ?_
 conv=>whnf
 refine ldI hD ?_
 conv=>whnf
 refine clI (zlr (by omega) d ok hr) ?_
 conv=>whnf
 refine clI e1 ?_
 exact ⟨_,rfl,rfl,(zfq hp d).trans k1 (by simp)⟩
theorem z2s (hn:8 ≤ n) (ok:d.Ok) (he:twoE d≠0) {D:Nat}(hD:hp[D]?=some (dkC d)) :
  ∃ r h',C n 115 [.ptr D 0 0] hp=some (r,h') ∧ r=.pan (zbx (twoE d)) ∧ Keep hp h' []:=by
 obtain ⟨m,rfl⟩ : ∃ m,n=m+2:=⟨n-2,by omega⟩
 cases hr:zau d with
 | false =>
  have e2:twoE d=2:=by unfold twoE;rw [hr];rfl
  rw [e2]
  refine zav F115 rfl rfl ?_
  conv=>whnf
  refine ldI hD ?_
  conv=>whnf
  refine clP (zv4 (by omega) d ok hr) ?_
  exact ⟨rfl,Keep.app _ _ []⟩
 | true =>
  have hz:=(rightD_iff.1 hr).1
  have h2:¬ 2 ≤ zay d:=fun q=>he (two_iff.2 ⟨hr,q⟩)
  have e2:twoE d=1:=by unfold twoE;rw [hr,if_pos rfl,if_neg h2]
  rw [e2]
  have e3:∃ r h',C (m+1) 116 [.ptr (hp.length+1) 0 0] (hp++[dkC d]++[wriC d])=some (r,h') ∧ r=.pan (zbx 1) ∧ h'=hp++[dkC d]++[wriC d]:=by
   refine zav F116 rfl rfl ?_
   conv=>whnf
   refine clP (zog (by omega) (zip _ _) (by omega) h2) ?_
   exact ⟨rfl,rfl⟩
  obtain ⟨r,h',e3,rfl,rfl⟩:=e3
  refine zav F115 rfl rfl ?_
  conv=>whnf
  refine ldI hD ?_
  conv=>whnf
  refine clI (zlr (by omega) d ok hr) ?_
  conv=>whnf
  refine clP e3 ?_
  exact ⟨rfl,zfq _ _⟩
theorem z5i:fnOk Tryz.prog 115=true:=by kernel_rfl
theorem z56 (hn:17 ≤ n) (ok:d.Ok) (he:twoE d=0) {a b:Rt}{ea eb:Int}(R:Rts d a b ea eb):C n 47 [d.av] h=some (.ret (.tup [i64 (zxs (newL a b ea eb)),i64 0]),h):=by
 obtain ⟨m,rfl⟩ : ∃ m,n=m+2:=⟨n-2,by omega⟩
 obtain ⟨r,h',e0,rfl,k0⟩:=z2r (n:=m) (hp:=[dkC d]++[zCIn]++[errC 0]) (D:=0) (by omega) ok he R rfl
 obtain ⟨r,h3,e1,rfl,k1⟩:=ztt (m:=m) (hp:=[dkC d]) (cs:=[i64 (zxs (newL a b ea eb))]) z5i e0 rfl rfl (k0.get (x:=1) rfl (by simp)) (k0.get (x:=2) rfl (by simp))
 refine zad F47 rfl rfl rfl (by simp [zao,za1]) ?_
 conv=>whnf
 refine clI e1 ?_
 exact ⟨rfl,_,rfl,rfl⟩
theorem z57 (hn:10 ≤ n) (ok:d.Ok) (he:twoE d≠0):C n 47 [d.av] h=some (.ret (.tup [i64 0,i64 (twoE d)]),h):=by
 obtain ⟨m,rfl⟩ : ∃ m,n=m+2:=⟨n-2,by omega⟩
 obtain ⟨r,h',e0,rfl,k0⟩:=z2s (n:=m) (hp:=[dkC d]++[zCIn]++[errC 0]) (D:=0) (by omega) ok he rfl
 obtain ⟨r,h3,e1,rfl,k1⟩:=ztv (m:=m) (hp:=[dkC d]) (cs:=zTIn) z5i e0 rfl (k0.get (x:=1) rfl (by simp)) (k0.get (x:=2) rfl (by simp))
 refine zad F47 rfl rfl rfl (by simp [zao,za1]) ?_
 conv=>whnf
 refine clI e1 ?_
 exact ⟨rfl,_,rfl,rfl⟩
end
abbrev tLis:Nat:=107
theorem z5g {h:zaa}{b:Nat}{cs:List AV}(hl:cs.length=2) (hb:h[b]?=some (.cells 0 (some tLis) cs 0)):zce Tryz.prog h tLis (.ptr b 0 0)=some (.agg cs):=zb9 (N:=2) (by kernel_rfl) hl hb
theorem zwl {r q:Rt}(h:r.ver≠q.ver):eqA Tryz.prog 20 zco (.agg r.cells) (.agg q.cells)=some false:=by
 have e1:eqA Tryz.prog 20 zco (.agg r.cells) (.agg q.cells)=zdo (eqA Tryz.prog 19) [(3,i64 r.ver,i64 q.ver),(25,.agg (i64 r.root::i64 r.count::r.sum.cells),.agg (i64 q.root::i64 q.count::q.sum.cells)),(3,i64 r.list,i64 q.list),(3,i64 r.pages,i64 q.pages)]:=by kernel_rfl
 have e2:∀ (a b:Int),eqA Tryz.prog 19 3 (i64 a) (i64 b)=some (a==b):=fun a b=>by kernel_rfl
 rw [e1]
 unfold zdo
 rw [e2,show (r.ver==q.ver)=false by rw [beq_eq_false_iff_ne];exact h]
section
variable {n m:Nat}{h hp:zaa}{d:Dk}
theorem zp0 (hn:6 ≤ n) (ok:d.Ok) (he:twoE d≠0):C n 44 [d.av] h=some (.ret (.agg [.lst 0 [] true,i64 (twoE d)]),h):=by
 obtain ⟨m,rfl⟩:=pre1 n
 have c2:=fun h=>zpp (n:=m) (h:=h) (by omega) d ok
 generalize twoE d=e at *
 refine zad F44 rfl rfl rfl (by simp [zao,za1]) ?_
 conv=>whnf
 refine ldI rfl ?_
 conv=>whnf
 refine clI (c2 _) ?_
 conv=>whnf
 refine brq (fun _=>?_) (fun a=>absurd a he)
 conv=>whnf
 refine stJ (xs:=[.lst 0 [] true,i64 e]) (by rfl) ?_
 exact ⟨rfl,_,za6 rfl (z5g rfl rfl),rfl⟩
abbrev H4 (d:Dk) (a b:Rt) (ea eb:Int):zaa:=[dkC d,.cells 0 (some tLis) [.lst 0 [] true,i64 0] 0,.cells 0 (some tRtd) (a.cellsE ea) 0,.cells 0 (some tRtd) (b.cellsE eb) 0]
theorem zlv {hp:zaa}{V:AV}{l:List Rt}{base:Nat}(nb:NB1 base hp V l) (hb:2 ≤ base) (h1:hp[1]?=some (.cells 0 (some tLis) [.lst 0 [] true,i64 0] 0)) :
  ∃ (sz:Nat) (c:Bool),(l≠[] → sz=21) ∧ ∀ L:LT,lk L 2=some (.ptr 1 0 0) → ([]:List DI)=[] ∧ ∃ vs,zcg Tryz.prog L (hp.set 1 (.cells 0 (some tLis) [V,i64 0] 0)) [.cell 2 tLis]=some vs ∧ Abs.frz (hp.set 1 (.cells 0 (some tLis) [V,i64 0] 0)) 64 (tupA vs)=some (.agg [.lst sz (l.map Rt.av) c,i64 0]):=by
 have nb2:NB1 base (hp.set 1 (.cells 0 (some tLis) [V,i64 0] 0)) V l:=by
  rcases nb with n | ⟨x,ver,q1,q2,q3,q4⟩
  ·exact .inl n
  ·exact .inr ⟨x,ver,q1,q2,q3,by rw [List.getElem?_set_ne (by omega)];exact q4⟩
 obtain ⟨sz,c,e3,z⟩:=zq0 nb2
 refine ⟨sz,c,z,fun L hk=>⟨rfl,_,za6 hk (z5g rfl (List.getElem?_set_self (zab h1))),?_⟩⟩
 show Abs.frz _ 64 (.agg [V,i64 0])=_
 unfold Abs.frz
 simp only [allM,e3]
 rfl
theorem zpz (hn:13 ≤ n) (ok:d.Ok) (he:twoE d=0) {a b:Rt}{ea eb:Int}(R:Rts d a b ea eb):∃ (sz:Nat) (c:Bool),(newL a b ea eb≠[] → sz=21) ∧ ∀ h,C n 44 [d.av] h=some (.ret (.agg [.lst sz ((zi5 (newL a b ea eb)).map Rt.av) c,i64 0]),h):=by
 obtain ⟨m,rfl⟩:=pre1 n
 have c2:=fun h=>zpp (n:=m) (h:=h) (by omega) d ok
 rw [he] at c2
 have sA:=R.sA m (by omega)
 have sB:=R.sB m (by omega)
 have head:∀ (V:AV),Wp Tryz.prog (C m) cfg0.inl KK 60 6 c44 ⟨zde 0 [d.av],[],[]⟩ (RetQ Tryz.prog [.cell 2 tLis] fun v' h'=>frz h' 64 v'=some V) → ∀ h,C (m+1) 44 [d.av] h=some (.ret V,h):=fun V w h=>zad F44 rfl rfl rfl (by simp [zao,za1]) w
 by_cases cb:eb=0
 ·subst cb
  by_cases ca:ea=0
  ·subst ca
   by_cases cv:a.ver<b.ver
   ·have e:newL a b 0 0=[(b,1),(a,0)]:=by rw [zi6 rfl rfl,if_pos cv]
    rw [e]
    have nb:NB1 4 (H4 d a b 0 0++[.cells 0 (some zco) (b.cells++a.cells) 0]) (.sl 21 4 0 0 2) [b,a]:=.inr ⟨4,0,by decide,by simp,rfl,rfl⟩
    obtain ⟨sz,c,z,g⟩:=zlv nb (by decide) rfl
    refine ⟨sz,c,fun _=>z (by simp),head _ ?_⟩
    conv=>whnf
    refine ldI rfl ?_
    conv=>whnf
    refine clI (c2 _) ?_
    conv=>whnf
    refine ldI rfl ?_
    conv=>whnf
    refine clI (sA _) ?_
    conv=>whnf
    refine stJ (xs:=a.cellsE 0) (by rfl) ?_
    conv=>whnf
    refine ldI rfl ?_
    conv=>whnf
    refine clI (sB _) ?_
    conv=>whnf
    refine stJ (xs:=b.cellsE 0) (by rfl) ?_
    conv=>whnf
    refine ldI rfl ?_
    conv=>whnf
    refine ldI rfl ?_
    conv=>whnf
    refine ldI rfl ?_
    conv=>whnf
    refine ldI rfl ?_
    conv=>whnf
    refine brd (fun _=>?_) (fun q=>absurd cv (by omega))
    conv=>whnf
    refine ldI rfl ?_
    conv=>whnf
    refine ldI rfl ?_
    conv=>whnf
    refine ⟨rfl,?_⟩
    conv=>whnf
    refine apI5 (v:=(.sl 21 4 0 0 2)) (h':=(H4 d a b 0 0++[.cells 0 (some zco) (b.cells++a.cells) 0])) rfl ?_
    conv=>whnf
    refine stJ (xs:=[(.sl 21 4 0 0 2),i64 0]) (by rfl) ?_
    exact g _ rfl
   ·have e:newL a b 0 0=[(a,0),(b,1)]:=by rw [zi6 rfl rfl,if_neg cv]
    rw [e]
    have nb:NB1 4 (H4 d a b 0 0++[.cells 1 (some zco) (a.cells++b.cells) 0]) (.sl 21 4 1 0 2) [a,b]:=.inr ⟨4,1,by decide,by simp,rfl,rfl⟩
    obtain ⟨sz,c,z,g⟩:=zlv nb (by decide) rfl
    refine ⟨sz,c,fun _=>z (by simp),head _ ?_⟩
    conv=>whnf
    refine ldI rfl ?_
    conv=>whnf
    refine clI (c2 _) ?_
    conv=>whnf
    refine ldI rfl ?_
    conv=>whnf
    refine clI (sA _) ?_
    conv=>whnf
    refine stJ (xs:=a.cellsE 0) (by rfl) ?_
    conv=>whnf
    refine ldI rfl ?_
    conv=>whnf
    refine clI (sB _) ?_
    conv=>whnf
    refine stJ (xs:=b.cellsE 0) (by rfl) ?_
    conv=>whnf
    refine ldI rfl ?_
    conv=>whnf
    refine ldI rfl ?_
    conv=>whnf
    refine ldI rfl ?_
    conv=>whnf
    refine ldI rfl ?_
    conv=>whnf
    refine brd (fun q=>absurd q (by omega)) (fun _=>?_)
    conv=>whnf
    refine ldI rfl ?_
    conv=>whnf
    refine ldI rfl ?_
    conv=>whnf
    refine ⟨rfl,?_⟩
    conv=>whnf
    refine apI5 (v:=(.sl 21 4 0 0 1)) (h':=(H4 d a b 0 0++[.cells 0 (some zco) a.cells 0])) rfl ?_
    conv=>whnf
    refine ldI rfl ?_
    conv=>whnf
    refine ldI rfl ?_
    conv=>whnf
    refine ⟨rfl,?_⟩
    conv=>whnf
    refine apI5 (v:=(.sl 21 4 1 0 2)) (h':=(H4 d a b 0 0++[.cells 1 (some zco) (a.cells++b.cells) 0])) rfl ?_
    conv=>whnf
    refine stJ (xs:=[(.sl 21 4 1 0 2),i64 0]) (by rfl) ?_
    exact g _ rfl
  ·have e:newL a b ea 0=[(b,1)]:=by unfold newL;rw [if_neg (fun q=>ca q.1)];simp [preL,ca]
   rw [e]
   have nb:NB1 4 (H4 d a b ea 0++[.cells 0 (some zco) b.cells 0]) (.sl 21 4 0 0 1) [b]:=.inr ⟨4,0,by decide,by simp,rfl,rfl⟩
   obtain ⟨sz,c,z,g⟩:=zlv nb (by decide) rfl
   refine ⟨sz,c,fun _=>z (by simp),head _ ?_⟩
   conv=>whnf
   refine ldI rfl ?_
   conv=>whnf
   refine clI (c2 _) ?_
   conv=>whnf
   refine ldI rfl ?_
   conv=>whnf
   refine clI (sA _) ?_
   conv=>whnf
   refine stJ (xs:=a.cellsE ea) (by rfl) ?_
   conv=>whnf
   refine ldI rfl ?_
   conv=>whnf
   refine clI (sB _) ?_
   conv=>whnf
   refine stJ (xs:=b.cellsE 0) (by rfl) ?_
   conv=>whnf
   refine ldI rfl ?_
   conv=>whnf
   refine ldI rfl ?_
   conv=>whnf
   refine bre (fun q=>absurd q ca) (fun _=>?_)
   conv=>whnf
   refine ldI rfl ?_
   conv=>whnf
   refine bre (fun q=>absurd q ca) (fun _=>?_)
   conv=>whnf
   refine ldI rfl ?_
   conv=>whnf
   refine ldI rfl ?_
   conv=>whnf
   refine ⟨rfl,?_⟩
   conv=>whnf
   refine apI5 (v:=(.sl 21 4 0 0 1)) (h':=(H4 d a b ea 0++[.cells 0 (some zco) b.cells 0])) rfl ?_
   conv=>whnf
   refine stJ (xs:=[(.sl 21 4 0 0 1),i64 0]) (by rfl) ?_
   exact g _ rfl
 ·by_cases ca:ea=0
  ·subst ca
   have e:newL a b 0 eb=[(a,0)]:=by unfold newL;rw [if_neg (fun q=>cb q.2.1)];simp [preL,cb]
   rw [e]
   have nb:NB1 4 (H4 d a b 0 eb++[.cells 0 (some zco) a.cells 0]) (.sl 21 4 0 0 1) [a]:=.inr ⟨4,0,by decide,by simp,rfl,rfl⟩
   obtain ⟨sz,c,z,g⟩:=zlv nb (by decide) rfl
   refine ⟨sz,c,fun _=>z (by simp),head _ ?_⟩
   conv=>whnf
   refine ldI rfl ?_
   conv=>whnf
   refine clI (c2 _) ?_
   conv=>whnf
   refine ldI rfl ?_
   conv=>whnf
   refine clI (sA _) ?_
   conv=>whnf
   refine stJ (xs:=a.cellsE 0) (by rfl) ?_
   conv=>whnf
   refine ldI rfl ?_
   conv=>whnf
   refine clI (sB _) ?_
   conv=>whnf
   refine stJ (xs:=b.cellsE eb) (by rfl) ?_
   conv=>whnf
   refine ldI rfl ?_
   conv=>whnf
   refine bre (fun q=>absurd q cb) (fun _=>?_)
   conv=>whnf
   refine ldI rfl ?_
   conv=>whnf
   refine ldI rfl ?_
   conv=>whnf
   refine ⟨rfl,?_⟩
   conv=>whnf
   refine apI5 (v:=(.sl 21 4 0 0 1)) (h':=(H4 d a b 0 eb++[.cells 0 (some zco) a.cells 0])) rfl ?_
   conv=>whnf
   refine ldI rfl ?_
   conv=>whnf
   refine bre (fun q=>absurd q cb) (fun _=>?_)
   conv=>whnf
   refine stJ (xs:=[(.sl 21 4 0 0 1),i64 0]) (by rfl) ?_
   exact g _ rfl
  ·have e:newL a b ea eb=[]:=by unfold newL;rw [if_neg (fun q=>ca q.1)];simp [preL,ca,cb]
   rw [e]
   have nb:NB1 4 (H4 d a b ea eb) (.lst 0 [] true) []:=.inl ⟨rfl,rfl⟩
   obtain ⟨sz,c,z,g⟩:=zlv nb (by decide) rfl
   refine ⟨sz,c,fun q=>(q rfl).elim,head _ ?_⟩
   conv=>whnf
   refine ldI rfl ?_
   conv=>whnf
   refine clI (c2 _) ?_
   conv=>whnf
   refine ldI rfl ?_
   conv=>whnf
   refine clI (sA _) ?_
   conv=>whnf
   refine stJ (xs:=a.cellsE ea) (by rfl) ?_
   conv=>whnf
   refine ldI rfl ?_
   conv=>whnf
   refine clI (sB _) ?_
   conv=>whnf
   refine stJ (xs:=b.cellsE eb) (by rfl) ?_
   conv=>whnf
   refine ldI rfl ?_
   conv=>whnf
   refine bre (fun q=>absurd q cb) (fun _=>?_)
   conv=>whnf
   refine ldI rfl ?_
   conv=>whnf
   refine bre (fun q=>absurd q ca) (fun _=>?_)
   conv=>whnf
   refine ldI rfl ?_
   conv=>whnf
   refine bre (fun q=>absurd q cb) (fun _=>?_)
   conv=>whnf
   refine stJ (xs:=[(.lst 0 [] true),i64 0]) (by rfl) ?_
   exact g _ rfl
end
section
variable {n m:Nat}{h hp:zaa}{d:Dk}
theorem zt4 (hn:7 ≤ n) (ok:d.Ok) (he:twoE d≠0):C n 46 [d.av] h=some (.ret (.agg (Rt.zero.cellsE (twoE d))),h):=by
 obtain ⟨m,rfl⟩:=pre1 n
 have cR:=fun h=>zp0 (n:=m) (h:=h) (by omega) ok he
 generalize twoE d=e at *
 refine zad F46 rfl rfl rfl (by simp [zao,za1]) ?_
 conv=>whnf
 refine ldI rfl ?_
 conv=>whnf
 refine clI (cR _) ?_
 conv=>whnf
 refine stJ (xs:=[.lst 0 [] true,i64 e]) (by rfl) ?_
 conv=>whnf
 refine ldI rfl ?_
 conv=>whnf
 refine brq (fun _=>?_) (fun a=>absurd a he)
 conv=>whnf
 refine ldI rfl ?_
 conv=>whnf
 refine stJ (xs:=Rt.zero.cellsE e) (by rfl) ?_
 exact ⟨rfl,_,za6 rfl (zhw rfl rfl),rfl⟩
theorem zt3 (hn:14 ≤ n) (ok:d.Ok) (he:twoE d=0) {a b:Rt}{ea eb:Int}(R:Rts d a b ea eb):C n 46 [d.av] h=some (.ret (.agg ((latR (newL a b ea eb)).1.cellsE (latR (newL a b ea eb)).2)),h):=by
 obtain ⟨m,rfl⟩:=pre1 n
 obtain ⟨sz,c,z,cR⟩:=zpz (n:=m) (by omega) ok he R
 generalize newL a b ea eb=l at *
 refine zad F46 rfl rfl rfl (by simp [zao,za1]) ?_
 conv=>whnf
 refine ldI rfl ?_
 conv=>whnf
 refine clI (cR _) ?_
 conv=>whnf
 refine stJ (xs:=[.lst sz ((zi5 l).map Rt.av) c,i64 0]) (by rfl) ?_
 conv=>whnf
 refine ldI rfl ?_
 conv=>whnf
 refine ldI rfl ?_
 cases l with
 | nil =>
  conv=>whnf
  refine stJ (xs:=Rt.zero.cellsE 4) (by rfl) ?_
  exact ⟨rfl,_,za6 rfl (zhw rfl rfl),rfl⟩
 | cons p r =>
  conv=>whnf
  refine ldI rfl ?_
  conv=>whnf
  refine ⟨by show (0:Int) ≤ 0;decide,z (by simp),p.1.av,rfl,p.1.cells,rfl,?_⟩
  conv=>whnf
  refine stJ (xs:=p.1.cellsE 0) (by rfl) ?_
  exact ⟨rfl,_,za6 rfl (zhw rfl rfl),zx3 _ _ _⟩
theorem z6e (hn:8 ≤ n) (ok:d.Ok) (he:twoE d≠0) (h4:twoE d≠4):C n 48 [d.av] h=some (.ret (.agg [i64 0,i64 (twoE d)]),h):=by
 obtain ⟨m,rfl⟩:=pre1 n
 have cR:=fun h=>zt4 (n:=m) (h:=h) (by omega) ok he
 generalize twoE d=e at *
 refine zad F48 rfl rfl rfl (by simp [zao,za1]) ?_
 conv=>whnf
 refine ldI rfl ?_
 conv=>whnf
 refine clI (cR _) ?_
 conv=>whnf
 refine stJ (xs:=Rt.zero.cellsE e) (by rfl) ?_
 conv=>whnf
 refine ldI rfl ?_
 conv=>whnf
 refine bre (fun q=>absurd q h4) (fun _=>?_)
 conv=>whnf
 refine ldI rfl ?_
 conv=>whnf
 refine brq (fun _=>?_) (fun a=>absurd a he)
 conv=>whnf
 refine ldI rfl ?_
 conv=>whnf
 refine stJ (xs:=[i64 0,i64 e]) (by rfl) ?_
 exact ⟨rfl,_,za6 rfl (zls rfl rfl),rfl⟩
theorem z18 (d:Dk):twoE d≠4:=by
 unfold twoE
 split
 ·split<;>decide
 ·decide
theorem z6d (hn:15 ≤ n) (ok:d.Ok) (he:twoE d=0) {a b:Rt}{ea eb:Int}(R:Rts d a b ea eb):C n 48 [d.av] h=some (.ret (.agg [i64 (zxs (newL a b ea eb)),i64 0]),h):=by
 obtain ⟨m,rfl⟩:=pre1 n
 have cR:=fun h=>zt3 (n:=m) (h:=h) (by omega) ok he R
 have sA:=R.sA m (by omega)
 have shape:(newL a b ea eb=[]) ∨ (ea=0 ∧ ∃ r,newL a b ea eb=(a,0)::r) ∨ ((ea≠0 ∨ a.ver<b.ver) ∧ ∃ r,newL a b ea eb=(b,1)::r):=by
  unfold newL
  by_cases c1:ea=0<;>by_cases c2:eb=0<;>by_cases c3:a.ver<b.ver<;>simp [preL,c1,c2,c3]
 rcases shape with e | ⟨ca,r,e⟩ | ⟨ca,r,e⟩
 ·rw [e] at cR ⊢
  refine zad F48 rfl rfl rfl (by simp [zao,za1]) ?_
  conv=>whnf
  refine ldI rfl ?_
  conv=>whnf
  refine clI (cR _) ?_
  conv=>whnf
  refine stJ (xs:=Rt.zero.cellsE 4) (by rfl) ?_
  conv=>whnf
  refine ldI rfl ?_
  conv=>whnf
  refine stJ (xs:=[i64 0,i64 0]) (by rfl) ?_
  exact ⟨rfl,_,za6 rfl (zls rfl rfl),rfl⟩
 ·subst ca
  rw [e] at cR ⊢
  refine zad F48 rfl rfl rfl (by simp [zao,za1]) ?_
  conv=>whnf
  refine ldI rfl ?_
  conv=>whnf
  refine clI (cR _) ?_
  conv=>whnf
  refine stJ (xs:=a.cellsE 0) (by rfl) ?_
  conv=>whnf
  refine ldI rfl ?_
  conv=>whnf
  refine ldI rfl ?_
  conv=>whnf
  refine ldI rfl ?_
  conv=>whnf
  refine clI (sA _) ?_
  conv=>whnf
  refine stJ (xs:=a.cellsE 0) (by rfl) ?_
  conv=>whnf
  refine ldI rfl ?_
  conv=>whnf
  refine ldI rfl ?_
  conv=>whnf
  refine ldI rfl ?_
  conv=>whnf
  refine eqI (ze5 a) ?_
  conv=>whnf
  refine stJ (xs:=[i64 1,i64 0]) (by rfl) ?_
  exact ⟨rfl,_,za6 rfl (zls rfl rfl),rfl⟩
 ·rw [e] at cR ⊢
  refine zad F48 rfl rfl rfl (by simp [zao,za1]) ?_
  conv=>whnf
  refine ldI rfl ?_
  conv=>whnf
  refine clI (cR _) ?_
  conv=>whnf
  refine stJ (xs:=b.cellsE 0) (by rfl) ?_
  conv=>whnf
  refine ldI rfl ?_
  conv=>whnf
  refine ldI rfl ?_
  conv=>whnf
  refine ldI rfl ?_
  conv=>whnf
  refine clI (sA _) ?_
  conv=>whnf
  refine stJ (xs:=a.cellsE ea) (by rfl) ?_
  conv=>whnf
  refine ldI rfl ?_
  by_cases c:ea=0
  ·have hlt:=ca.resolve_left (fun q=>q c)
   subst c
   conv=>whnf
   refine ldI rfl ?_
   conv=>whnf
   refine ldI rfl ?_
   conv=>whnf
   refine eqI (zwl (by omega)) ?_
   conv=>whnf
   refine stJ (xs:=[i64 0,i64 0]) (by rfl) ?_
   exact ⟨rfl,_,za6 rfl (zls rfl rfl),rfl⟩
  ·conv=>whnf
   refine bre (fun q=>absurd q c) (fun _=>?_)
   conv=>whnf
   refine stJ (xs:=[i64 0,i64 0]) (by rfl) ?_
   exact ⟨rfl,_,za6 rfl (zls rfl rfl),rfl⟩
theorem z2w (l:List Rt) (sz:Nat) (c:Bool):(AV.lst sz (l.map Rt.av) c).pureB=true:=by simp [AV.pureB,zdq z6b]
theorem zve (hn:1 ≤ n) (l:List Rt) (hl:l.length ≤ 2) (sz sz':Nat) (c c':Bool) (z:l≠[] → sz=21) (z':l≠[] → sz'=21):C n 49 [.lst sz (l.map Rt.av) c,.lst sz' (l.map Rt.av) c'] h=some (.ret (.bool true),h):=by
 obtain ⟨m,rfl⟩:=pre1 n
 have e1:(l.map Rt.av).length=l.length:=List.length_map ..
 refine zad F49 rfl rfl rfl (by simp [zao,z2w]) ?_
 conv=>whnf
 refine brq (fun a=>absurd rfl a) (fun _=>?_)
 conv=>whnf
 refine za3 (by decide) rfl (α:=Nat) (fun j=>⟨[(0,.lst sz (l.map Rt.av) c),(1,.lst sz' (l.map Rt.av) c'),(5,i64 j)],[],[]⟩) (fun j=>j ≤ l.length) (fun j=>l.length-j) 0 ⟨⟨rfl,rfl,rfl⟩,rfl,rfl⟩ (Nat.zero_le _) (by simp only [KK];omega) ?_
 intro j g1
 conv=>whnf
 refine brd (fun a=>?_) (fun a=>?_)
 ·have hj:j<l.length:=by omega
  conv=>whnf
  refine ⟨by omega,z (zeq hj),l[j].av,zig _ hj,l[j].cells,rfl,?_⟩
  conv=>whnf
  refine ⟨by omega,z' (zeq hj),l[j].av,zig _ hj,l[j].cells,rfl,?_⟩
  conv=>whnf
  refine eqI (ze5 l[j]) ?_
  conv=>whnf
  refine zJ j ?_
  exact nxI (j+1) hj (by omega) ⟨⟨rfl,rfl,rfl⟩,rfl,rfl⟩
 ·conv=>whnf
  refine cutI (by decide) rfl (t:=⟨[],[],[]⟩) ⟨trivial,rfl,rfl⟩ ?_
  exact ⟨rfl,_,rfl,rfl⟩
end
end Go.Proofs
