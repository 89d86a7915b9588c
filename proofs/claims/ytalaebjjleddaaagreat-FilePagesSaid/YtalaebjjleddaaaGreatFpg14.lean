/- Texts put together: Zn, Zo, Zp, Zq, Zr, Zs, Zt, Zu, Zv, Ua5, Ub, Ue. -/
import Derived.Test.YtalaebjjleddaaaGreatFpg13
import Derived.Test.YtalaebjjleddaaaGreatFpg7
set_option linter.unusedVariables false
set_option linter.unusedSimpArgs false
namespace Go.Proofs
open Go Go.Abs
theorem cvP {P:Program}{call:zbb}{g:FuncId}{args:List AV}{h h':zaa}{K X:AV → zaa → Prop}{v:AV}(h0:fnOk P g=true) (h1:call g args h=some (.pan v,h')) (h2:X v h'):fnOk P g=true ∧ ∃ r h',call g args h=some (r,h') ∧ WpR K X h' r:=⟨h0,.pan v,h',h1,h2⟩
abbrev tTPg:Nat:=79
abbrev zTPg:List AV:=zbo
abbrev zCPg:AB:=.cells 0 (some tTPg) zTPg 0
def cRecPg:RC:=match c160 with
 | .seq _ r=>r
 | _=>.skip
theorem DTPg:DefI 160 2 15 5 [] (some 6) [] cRecPg :=
 ⟨⟨Tryz.f160,Tryz.func160,by kernel_rfl,by kernel_rfl,by kernel_rfl⟩,by kernel_rfl,by decide,by kernel_rfl,by kernel_rfl,by kernel_rfl⟩
theorem zx6:fnOk Tryz.prog 160=true:=DTPg.fine
theorem ldTPg {h:zaa}{b:Nat}{cs:List AV}(hl:cs.length=10) (hb:h[b]?=some (.cells 0 (some tTPg) cs 0)):∃ v,zbp Tryz.prog h tTPg (.ptr b 0 0)=some v ∧ v=.agg cs:=⟨_,zbl (N:=10) (by kernel_rfl) hl hb,rfl⟩
section
variable {n m:Nat}{h hp h2:zaa}
theorem retTPg {P I:Nat}:∃ h',zb7 Tryz.prog (C m) (zcl Tryz.prog cfg0.inl (C m)) KK 160 [.ptr P 0 0,.ptr I 0 0] .ret h=some (.ret,h') ∧ h'=h:=by
 refine zfo DTPg rfl ?_
 conv=>whnf
 exact ⟨rfl,⟨[],rfl⟩,rfl⟩
theorem panTPg {P I:Nat}{e:Int}{a:AV}{cs:List AV}(hn:P≠I) (hP:h[P]?=some (.cells 0 (some tTPg) cs 0)) (hc:cs.length=10) (hI:h[I]?=some (.cells 0 (some tErr) [a] 0)) :
  ∃ h',zb7 Tryz.prog (C m) (zcl Tryz.prog cfg0.inl (C m)) KK 160 [.ptr P 0 0,.ptr I 0 0] (.pan (zbz e) false) h=some (.pan (zbz e) true,h') ∧ h'[P]?=some zCPg ∧ h'[I]?=some (.cells 0 (some tErr) [i64 e] 0) ∧ Keep h h' [P,I]:=by
 refine zfo DTPg rfl ?_
 have lP:=zab hP
 have lI:=zab hI
 have hput:putAt cs 0 zTPg=zTPg:=by
  unfold putAt
  rw [List.take_zero,List.nil_append,List.drop_of_length_le (by rw [hc];decide),List.append_nil]
 conv=>whnf
 refine stJ (xs:=[i64 e]) (zad _ _) ?_
 conv=>whnf
 have k00:Keep h ((h++[AB.cells 0 (some tFF) [i64 0] 0]).set h.length (AB.cells 0 (some tFF) (putAt [i64 0] 0 [i64 e]) 0)) [P,I]:=(Keep.app h _ _).set' (.inr (Nat.le_refl _))
 have k0:=k00.trans (Keep.app _ zCPg []) (by simp)
 have eX:(((h++[AB.cells 0 (some tFF) [i64 0] 0]).set h.length (AB.cells 0 (some tFF) (putAt [i64 0] 0 [i64 e]) 0))++[zCPg])[h.length]?=some (.cells 0 (some tFF) [i64 e] 0):=by
  rw [List.getElem?_append_left (by simp),zaf];rfl
 have eZ:=zad ((h++[AB.cells 0 (some tFF) [i64 0] 0]).set h.length (AB.cells 0 (some tFF) (putAt [i64 0] 0 [i64 e]) 0)) zCPg
 have eP:(((h++[AB.cells 0 (some tFF) [i64 0] 0]).set h.length (AB.cells 0 (some tFF) (putAt [i64 0] 0 [i64 e]) 0))++[zCPg])[P]?=some (.cells 0 (some tTPg) cs 0):=by
  rw [List.getElem?_append_left (by simp;omega),List.getElem?_set_ne (by omega),List.getElem?_append_left lP];exact hP
 have eI:(((h++[AB.cells 0 (some tFF) [i64 0] 0]).set h.length (AB.cells 0 (some tFF) (putAt [i64 0] 0 [i64 e]) 0))++[zCPg])[I]?=some (.cells 0 (some tErr) [a] 0):=by
  rw [List.getElem?_append_left (by simp;omega),List.getElem?_set_ne (by omega),List.getElem?_append_left lI];exact hI
 refine ldI eZ ?_
 conv=>whnf
 refine ldI eX ?_
 conv=>whnf
 refine stI (xs:=zTPg) eP (by rfl) (by rfl) (by rw [hc];decide) (by rfl) ?_
 refine ⟨?_,?_⟩
 ·refine ⟨?_,?_⟩
  ·conv=>whnf
   refine ldI (by rw [List.getElem?_set_ne (by omega)];exact eX) ?_
   rfl
  ·conv=>whnf
   refine ldI (by rw [List.getElem?_set_ne (by simp;omega)];exact eZ) ?_
   rfl
 conv=>whnf
 refine stJ (xs:=[i64 e]) (by rw [List.getElem?_set_ne hn];exact eI) ?_
 refine ⟨rfl,⟨[],rfl⟩,?_,?_,?_⟩
 ·rw [List.getElem?_set_ne (Ne.symm hn),List.getElem?_set_self (by simp;omega),hput]
 ·rw [List.getElem?_set_self (by simp;omega)]
  rfl
 ·exact ((k0.set' (.inl (by simp))).set' (.inl (by simp)))
theorem z1j {R:CRes → zaa → Prop}{L:LT}{P I:Nat}{cs:List AV}(a2:lk L 2=some (.ptr P 0 0)) (a3:lk L 3=some (.ptr I 0 0)) (g1:h[P]?=some (.cells 0 (some tTPg) cs 0)) (hl:cs.length=10) (g2:h[I]?=some (errC 0)) (hR:R (.ret (.tup [.agg cs,i64 0])) h) :
  EndQ Tryz.prog (C m) cfg0.inl [.cell 2 tTPg,.cell 3 tErr] R .ret ⟨L,h,[.fn 160 [.ptr P 0 0,.ptr I 0 0]]⟩:=by
 obtain ⟨h',e1,rfl⟩:=retTPg (m:=m) (h:=h) (P:=P) (I:=I)
 obtain ⟨w,ew,rfl⟩:=ldTPg hl g1
 refine ⟨zx6,_,h',e1,[.agg cs,i64 0],?_,hR⟩
 simp only [zbv,a2,a3,ew,zgg g2]<;>rfl
theorem z1m {R:CRes → zaa → Prop}{L:LT}{P I:Nat}{e:Int}{cs:List AV}(hn:P≠I) (a2:lk L 2=some (.ptr P 0 0)) (a3:lk L 3=some (.ptr I 0 0)) (g1:h[P]?=some (.cells 0 (some tTPg) cs 0)) (hl:cs.length=10) (g2:h[I]?=some (errC 0)) (hR:∀ h',Keep h h' [P,I] → R (.ret (.tup [.agg zTPg,i64 e])) h') :
  EndQ Tryz.prog (C m) cfg0.inl [.cell 2 tTPg,.cell 3 tErr] R (.pan (zbz e)) ⟨L,h,[.fn 160 [.ptr P 0 0,.ptr I 0 0]]⟩:=by
 obtain ⟨h',e1,q1,q2,k1⟩:=panTPg (m:=m) (h:=h) (P:=P) (I:=I) (e:=e) hn g1 hl g2
 obtain ⟨w,ew,hw⟩:=ldTPg rfl q1
 refine ⟨zx6,_,h',e1,[.agg zTPg,i64 e],?_,hR h' k1⟩
 simp only [zbv,a2,a3,ew,hw,zgg q2]<;>rfl
theorem zz0 {g:FuncId}{caps:List AV}{v:AV}{cs:List AV}(hf:fnOk Tryz.prog g=true) (hg:C m g caps (hp++[zCPg]++[errC 0])=some (.ret v,h2)) (hv:v.cells?=some cs) (hl:cs.length=10) (hx:h2[hp.length]?=some zCPg) (he:h2[(hp++[zCPg]).length]?=some (errC 0)) :
  ∃ r h3,C (m+1) 89 [.fn (.func g) [] caps] hp=some (r,h3) ∧ r=.ret (.tup [.agg cs,i64 0]) ∧ Keep h2 h3 [hp.length,(hp++[zCPg]).length]:=by
 have l2:=zab he
 have l1:=zab hx
 have el:(hp++[zCPg]).length≠hp.length:=by simp
 have hput:putAt zTPg 0 cs=cs:=by
  unfold putAt
  rw [List.take_zero,List.nil_append,List.drop_of_length_le (by rw [hl];decide),List.append_nil]
 refine za0 F89 rfl rfl ?_
 conv=>whnf
 refine ⟨rfl,.fn 160 [.ptr hp.length 0 0,.ptr (hp++[zCPg]).length 0 0],by kernel_rfl,?_⟩
 conv=>whnf
 refine cvI hf hg ?_
 conv=>whnf
 refine stI (xs:=cs) hx hv hl (by rw [hl];rfl) (by rfl) ?_
 conv=>whnf
 refine stJ (xs:=[i64 0]) ((List.getElem?_set_ne el.symm).trans he) ?_
 refine z1j (cs:=cs) (P:=hp.length) (I:=(hp++[zCPg]).length) rfl rfl ?_ hl ?_ ⟨rfl,?_⟩
 ·refine (List.getElem?_set_ne el).trans ((List.getElem?_set_self l1).trans ?_)
  rw [hput]
 ·exact List.getElem?_set_self (by rw [List.length_set];exact l2)
 ·exact (Keep.set (by simp)).set' (.inl (by simp))
theorem zz3 {g:FuncId}{caps:List AV}{e:Int}{cs:List AV}(hf:fnOk Tryz.prog g=true) (hg:C m g caps (hp++[zCPg]++[errC 0])=some (.pan (zbz e),h2)) (hl:cs.length=10) (hx:h2[hp.length]?=some (.cells 0 (some tTPg) cs 0)) (he:h2[(hp++[zCPg]).length]?=some (errC 0)) :
  ∃ r h3,C (m+1) 89 [.fn (.func g) [] caps] hp=some (r,h3) ∧ r=.ret (.tup [.agg zTPg,i64 e]) ∧ Keep h2 h3 [hp.length,(hp++[zCPg]).length]:=by
 have el:(hp++[zCPg]).length≠hp.length:=by simp
 refine za0 F89 rfl rfl ?_
 conv=>whnf
 refine ⟨rfl,.fn 160 [.ptr hp.length 0 0,.ptr (hp++[zCPg]).length 0 0],by kernel_rfl,?_⟩
 conv=>whnf
 refine cvP hf hg ?_
 exact z1m (P:=hp.length) (I:=(hp++[zCPg]).length) el.symm rfl rfl hx hl he fun h' k=>⟨rfl,k⟩
end
section
variable {n m:Nat}{h hp h2:zaa}
end
section
variable {n m:Nat}{h hp h2:zaa}
end
abbrev tTRs:Nat:=103
abbrev zTRs:List AV:=[.lst 0 [] true]
abbrev zCRs:AB:=.cells 0 (some tTRs) zTRs 0
def cRecRs:RC:=match c169 with
 | .seq _ r=>r
 | _=>.skip
theorem DTRs:DefI 169 2 15 5 [] (some 6) [] cRecRs :=
 ⟨⟨Tryz.f169,Tryz.func169,by kernel_rfl,by kernel_rfl,by kernel_rfl⟩,by kernel_rfl,by decide,by kernel_rfl,by kernel_rfl,by kernel_rfl⟩
theorem zx5:fnOk Tryz.prog 169=true:=DTRs.fine
theorem ldTRs {h:zaa}{b:Nat}{cs:List AV}(hl:cs.length=1) (hb:h[b]?=some (.cells 0 (some tTRs) cs 0)):∃ v,zbp Tryz.prog h tTRs (.ptr b 0 0)=some v ∧ v=cs.headD .undef:=by
 obtain ⟨x,rfl⟩:=List.length_eq_one_iff.1 hl
 exact ⟨x,zmz (N:=1) (by kernel_rfl) hb,rfl⟩
section
variable {n m:Nat}{h hp h2:zaa}
theorem retTRs {P I:Nat}:∃ h',zb7 Tryz.prog (C m) (zcl Tryz.prog cfg0.inl (C m)) KK 169 [.ptr P 0 0,.ptr I 0 0] .ret h=some (.ret,h') ∧ h'=h:=by
 refine zfo DTRs rfl ?_
 conv=>whnf
 exact ⟨rfl,⟨[],rfl⟩,rfl⟩
theorem panTRs {P I:Nat}{e:Int}{a:AV}{cs:List AV}(hn:P≠I) (hP:h[P]?=some (.cells 0 (some tTRs) cs 0)) (hc:cs.length=1) (hI:h[I]?=some (.cells 0 (some tErr) [a] 0)) :
  ∃ h',zb7 Tryz.prog (C m) (zcl Tryz.prog cfg0.inl (C m)) KK 169 [.ptr P 0 0,.ptr I 0 0] (.pan (zbz e) false) h=some (.pan (zbz e) true,h') ∧ h'[P]?=some zCRs ∧ h'[I]?=some (.cells 0 (some tErr) [i64 e] 0) ∧ Keep h h' [P,I]:=by
 refine zfo DTRs rfl ?_
 have lP:=zab hP
 have lI:=zab hI
 have hput:putAt cs 0 zTRs=zTRs:=by
  unfold putAt
  rw [List.take_zero,List.nil_append,List.drop_of_length_le (by rw [hc];decide),List.append_nil]
 conv=>whnf
 refine stJ (xs:=[i64 e]) (zad _ _) ?_
 conv=>whnf
 have k0:Keep h ((h++[AB.cells 0 (some tFF) [i64 0] 0]).set h.length (AB.cells 0 (some tFF) (putAt [i64 0] 0 [i64 e]) 0)) [P,I]:=(Keep.app h _ _).set' (.inr (Nat.le_refl _))
 have eX:=zaf h (AB.cells 0 (some tFF) [i64 0] 0) (AB.cells 0 (some tFF) (putAt [i64 0] 0 [i64 e]) 0)
 have eP:((h++[AB.cells 0 (some tFF) [i64 0] 0]).set h.length (AB.cells 0 (some tFF) (putAt [i64 0] 0 [i64 e]) 0))[P]?=some (.cells 0 (some tTRs) cs 0):=by
  rw [List.getElem?_set_ne (by omega),List.getElem?_append_left lP];exact hP
 have eI:((h++[AB.cells 0 (some tFF) [i64 0] 0]).set h.length (AB.cells 0 (some tFF) (putAt [i64 0] 0 [i64 e]) 0))[I]?=some (.cells 0 (some tErr) [a] 0):=by
  rw [List.getElem?_set_ne (by omega),List.getElem?_append_left lI];exact hI
 refine ldI eX ?_
 conv=>whnf
 refine stI (xs:=zTRs) eP (by rfl) (by rfl) (by rw [hc];decide) (by rfl) ?_
 refine ⟨?_,?_⟩
 ·conv=>whnf
  refine ldI (by rw [List.getElem?_set_ne (by omega)];exact eX) ?_
  rfl
 conv=>whnf
 refine stJ (xs:=[i64 e]) (by rw [List.getElem?_set_ne hn];exact eI) ?_
 refine ⟨rfl,⟨[],rfl⟩,?_,?_,?_⟩
 ·rw [List.getElem?_set_ne (Ne.symm hn),List.getElem?_set_self (by simp;omega),hput]
 ·rw [List.getElem?_set_self (by simp;omega)]
  rfl
 ·exact ((k0.set' (.inl (by simp))).set' (.inl (by simp)))
theorem z1i {R:CRes → zaa → Prop}{L:LT}{P I:Nat}{cs:List AV}(a2:lk L 2=some (.ptr P 0 0)) (a3:lk L 3=some (.ptr I 0 0)) (g1:h[P]?=some (.cells 0 (some tTRs) cs 0)) (hl:cs.length=1) (g2:h[I]?=some (errC 0)) (hR:R (.ret (.tup [cs.headD .undef,i64 0])) h) :
  EndQ Tryz.prog (C m) cfg0.inl [.cell 2 tTRs,.cell 3 tErr] R .ret ⟨L,h,[.fn 169 [.ptr P 0 0,.ptr I 0 0]]⟩:=by
 obtain ⟨h',e1,rfl⟩:=retTRs (m:=m) (h:=h) (P:=P) (I:=I)
 obtain ⟨w,ew,rfl⟩:=ldTRs hl g1
 refine ⟨zx5,_,h',e1,[cs.headD .undef,i64 0],?_,hR⟩
 simp only [zbv,a2,a3,ew,zgg g2]<;>rfl
theorem z1l {R:CRes → zaa → Prop}{L:LT}{P I:Nat}{e:Int}{cs:List AV}(hn:P≠I) (a2:lk L 2=some (.ptr P 0 0)) (a3:lk L 3=some (.ptr I 0 0)) (g1:h[P]?=some (.cells 0 (some tTRs) cs 0)) (hl:cs.length=1) (g2:h[I]?=some (errC 0)) (hR:∀ h',Keep h h' [P,I] → R (.ret (.tup [(zTRs.headD .undef),i64 e])) h') :
  EndQ Tryz.prog (C m) cfg0.inl [.cell 2 tTRs,.cell 3 tErr] R (.pan (zbz e)) ⟨L,h,[.fn 169 [.ptr P 0 0,.ptr I 0 0]]⟩:=by
 obtain ⟨h',e1,q1,q2,k1⟩:=panTRs (m:=m) (h:=h) (P:=P) (I:=I) (e:=e) hn g1 hl g2
 obtain ⟨w,ew,hw⟩:=ldTRs rfl q1
 refine ⟨zx5,_,h',e1,[(zTRs.headD .undef),i64 e],?_,hR h' k1⟩
 simp only [zbv,a2,a3,ew,hw,zgg q2]<;>rfl
theorem zzz {g:FuncId}{caps:List AV}{v:AV}{cs:List AV}(hf:fnOk Tryz.prog g=true) (hg:C m g caps (hp++[zCRs]++[errC 0])=some (.ret v,h2)) (hv:v.cells?=some cs) (hl:cs.length=1) (hx:h2[hp.length]?=some zCRs) (he:h2[(hp++[zCRs]).length]?=some (errC 0)) :
  ∃ r h3,C (m+1) 111 [.fn (.func g) [] caps] hp=some (r,h3) ∧ r=.ret (.tup [cs.headD .undef,i64 0]) ∧ Keep h2 h3 [hp.length,(hp++[zCRs]).length]:=by
 have l2:=zab he
 have l1:=zab hx
 have el:(hp++[zCRs]).length≠hp.length:=by simp
 have hput:putAt zTRs 0 cs=cs:=by
  unfold putAt
  rw [List.take_zero,List.nil_append,List.drop_of_length_le (by rw [hl];decide),List.append_nil]
 refine za0 F111 rfl rfl ?_
 conv=>whnf
 refine ⟨rfl,.fn 169 [.ptr hp.length 0 0,.ptr (hp++[zCRs]).length 0 0],by kernel_rfl,?_⟩
 conv=>whnf
 refine cvI hf hg ?_
 conv=>whnf
 refine stI (xs:=cs) hx hv hl (by rw [hl];rfl) (by rfl) ?_
 conv=>whnf
 refine stJ (xs:=[i64 0]) ((List.getElem?_set_ne el.symm).trans he) ?_
 refine z1i (cs:=cs) (P:=hp.length) (I:=(hp++[zCRs]).length) rfl rfl ?_ hl ?_ ⟨rfl,?_⟩
 ·refine (List.getElem?_set_ne el).trans ((List.getElem?_set_self l1).trans ?_)
  rw [hput]
 ·exact List.getElem?_set_self (by rw [List.length_set];exact l2)
 ·exact (Keep.set (by simp)).set' (.inl (by simp))
theorem zz2 {g:FuncId}{caps:List AV}{e:Int}{cs:List AV}(hf:fnOk Tryz.prog g=true) (hg:C m g caps (hp++[zCRs]++[errC 0])=some (.pan (zbz e),h2)) (hl:cs.length=1) (hx:h2[hp.length]?=some (.cells 0 (some tTRs) cs 0)) (he:h2[(hp++[zCRs]).length]?=some (errC 0)) :
  ∃ r h3,C (m+1) 111 [.fn (.func g) [] caps] hp=some (r,h3) ∧ r=.ret (.tup [(zTRs.headD .undef),i64 e]) ∧ Keep h2 h3 [hp.length,(hp++[zCRs]).length]:=by
 have el:(hp++[zCRs]).length≠hp.length:=by simp
 refine za0 F111 rfl rfl ?_
 conv=>whnf
 refine ⟨rfl,.fn 169 [.ptr hp.length 0 0,.ptr (hp++[zCRs]).length 0 0],by kernel_rfl,?_⟩
 conv=>whnf
 refine cvP hf hg ?_
 exact z1l (P:=hp.length) (I:=(hp++[zCRs]).length) el.symm rfl rfl hx hl he fun h' k=>⟨rfl,k⟩
end
abbrev intC (k:Int):AB:=.cells 0 (some 3) [i64 k] 0
section
variable {n m:Nat}{h hp:zaa}{d:Dk}
theorem zmw (hn:1 ≤ n) {b:Bool}(hb:b=true) (e:Int):C n 80 [.bool b,i64 e] h=some (.ret (.tup []),h):=by subst hb;exact z4v hn e
theorem zr9 (hn:2 ≤ n) {b:Bool}(hb:b=false) (e:Int) (he:e≠0):C n 80 [.bool b,i64 e] h=some (.pan (zbz e),h):=by subst hb;exact z4w hn e he
theorem z5d (hn:2 ≤ n) (q:Page):C n 92 [q.av,i64 0] h=some (.ret q.av,h):=by
 obtain ⟨m,rfl⟩:=pre1 n
 refine zak F92 rfl rfl rfl (by simp [zam,zb5,AV.pureB]) ?_
 conv=>whnf
 refine clI (zm9 (by omega)) ?_
 conv=>whnf
 refine ldI rfl ?_
 conv=>whnf
 refine stJ (xs:=q.cells) (by rfl) ?_
 exact ⟨rfl,_,zci rfl (zhy rfl rfl),zoj q _⟩
theorem z5e (hn:2 ≤ n) (q:Page) (e:Int) (he:e≠0):C n 92 [q.av,i64 e] h=some (.pan (zbz e),h):=by
 obtain ⟨m,rfl⟩:=pre1 n
 refine zc7 F92 rfl rfl rfl (by simp [zam,zb5,AV.pureB]) ?_
 conv=>whnf
 refine clP (zj6 (by omega) e he) ?_
 exact ⟨zbz e,rfl,rfl⟩
theorem z0o (hn:12 ≤ n) (ok:d.Ok) (hr:zan d=true) {D N no:Nat}(hD:hp[D]?=some (dkC d)) (hN:hp[N]?=some (intC no)) (h2:2 ≤ no) (hno:no<zaq d) {q:Page}{e:Int}
  (cR:∀ hp w,hp[w]?=some (wriC d) → ∃ h',C (n-1) 93 [.ptr w 0 0,i64 no] hp=some (.ret (.tup [q.av,i64 e]),h') ∧ Keep hp h' []) :
  ∃ r h',C n 90 [.ptr D 0 0,.ptr N 0 0] hp=some (r,h') ∧ r=(if e=0 then .ret q.av else .pan (zbz e)) ∧ Keep hp h' []:=by
 obtain ⟨m,rfl⟩:=pre1 n
 have hz:=(rightD_iff.1 hr).1
 rw [Nat.add_sub_cancel] at cR
 refine za0 F90 rfl rfl ?_
 conv=>whnf
 refine ldI (za8 hD) ?_
 conv=>whnf
 refine clI (zw2 (by omega) d ok hr) ?_
 have k1:∀ x,Keep hp (hp++[x]++[dkC d]++[wriC d]) []:=fun x=>((Keep.app _ _ []).trans (Keep.app _ _ []) (by simp)).trans (Keep.app _ _ []) (by simp)
 have hN1:∀ x,(hp++[x]++[dkC d]++[wriC d])[N]?=some (intC no):=fun x=>(k1 x).get hN (by simp)
 have hw:∀ x:AB,(hp++[x]++[dkC d]++[wriC d])[(hp++[x]).length+1]?=some (wriC d):=fun x=>by
  rw [show (hp++[x]).length+1=(hp++[x]++[dkC d]).length by simp];exact zad _ _
 have hX:∀ x:AB,(hp++[x]++[dkC d]++[wriC d])[hp.length]?=some x:=fun x=>by
  rw [List.getElem?_append_left (by simp),List.getElem?_append_left (by simp)];exact zad _ _
 conv=>whnf
 refine ldI (hN1 _) ?_
 conv=>whnf
 refine brd (fun _=>?_) (fun a=>absurd h2 (by omega))
 conv=>whnf
 refine ldI (hN1 _) ?_
 conv=>whnf
 refine clI (zha (by omega) d (hw _) (by omega)) ?_
 refine ⟨?_,?_⟩
 ·repeat' (conv=>whnf);first | done | exact ldI (hN1 _) rfl | exact ldI (hN1 _) rfl | refine ⟨?_,?_⟩ | rfl
 conv=>whnf
 refine clI (zmw (by omega) (by rw [decide_eq_true_iff];omega) 1) ?_
 conv=>whnf
 refine ldI (hN1 _) ?_
 conv=>whnf
 obtain ⟨h3,e3,k3⟩:=cR _ _ (hw (.cells 0 (some 79) zbo 0))
 refine clI e3 ?_
 conv=>whnf
 by_cases c:e=0
 ·subst c
  rw [if_pos rfl]
  refine clI (z5d (by omega) q) ?_
  conv=>whnf
  have g3:=k3.get (hX (.cells 0 (some 79) zbo 0)) (by simp)
  refine stJ (xs:=q.cells) g3 ?_
  exact ⟨_,zci rfl (zhy rfl (List.getElem?_set_self (zab g3))),rfl,((k1 _).trans k3 (by simp)).set' (.inr (Nat.le_refl _))⟩
 ·rw [if_neg c]
  refine clP (z5e (by omega) q e c) ?_
  exact ⟨rfl,(k1 _).trans k3 (by simp)⟩
theorem z4n (h:zaa) (q:Page) (e:Int):Abs.frz h 64 (tupA [q.av,i64 e])=some (.tup [q.av,i64 e]):=z21
theorem z29:fnOk Tryz.prog 90=true:=by kernel_rfl
theorem rpO {P:Page}{E no:Int}(hI:∀ hp,hp[0]?=some (dkC d) → hp[1]?=some (intC no) → ∃ r h',C n 90 [.ptr 0 0 0,.ptr 1 0 0] hp=some (r,h') ∧ r=(if E=0 then .ret P.av else .pan (zbz E)) ∧ Keep hp h' []) (hz:E≠0 → P=zPage) :
  C (n+2) 33 [d.av,i64 no] h=some (.ret (.tup [P.av,i64 E]),h):=by
 obtain ⟨r,h',e0,hr,k0⟩:=hI ([dkC d,intC no,zCPg]++[zCPg]++[errC 0]) rfl rfl
 have g3:=k0.get (x:=3) rfl (by simp)
 have g4:=k0.get (x:=4) rfl (by simp)
 have g2:=k0.get (x:=2) rfl (by simp)
 have main:∃ h3,C (n+1) 89 [.fn (.func 90) [] [.ptr 0 0 0,.ptr 1 0 0]] [dkC d,intC no,zCPg]=some (.ret (.tup [P.av,i64 E]),h3) ∧ h3[2]?=some zCPg:=by
  by_cases c:E=0
  ·subst c
   rw [if_pos rfl] at hr
   subst hr
   obtain ⟨r,h3,e1,rfl,k1⟩:=zz0 (m:=n) (hp:=[dkC d,intC no,zCPg]) (cs:=P.cells) z29 e0 rfl rfl g3 g4
   exact ⟨h3,e1,k1.get g2 (by simp)⟩
  ·rw [if_neg c] at hr
   subst hr
   obtain ⟨r,h3,e1,rfl,k1⟩:=zz3 (m:=n) (hp:=[dkC d,intC no,zCPg]) (cs:=zTPg) z29 e0 rfl g3 g4
   rw [hz c]
   exact ⟨h3,e1,k1.get g2 (by simp)⟩
 obtain ⟨h3,e1,g⟩:=main
 refine zak F33 rfl rfl rfl (by simp [zam,zbk,AV.pureB]) ?_
 conv=>whnf
 refine clI e1 ?_
 conv=>whnf
 refine stJ (xs:=P.cells) g ?_
 exact ⟨rfl,_,zff rfl rfl (List.getElem?_set_self (zab g)) rfl,z4n _ _ _⟩
end
section
variable {n m:Nat}{h hp:zaa}{d:Dk}
theorem z2r (x:zaa) (d:Dk):(x++[dkC d]++[wriC d])[x.length+1]?=some (wriC d):=by
 rw [show x.length+1=(x++[dkC d]).length by simp];exact zad _ _
theorem zrk (x:zaa) (d:Dk):Keep x (x++[dkC d]++[wriC d]) []:=(Keep.app _ _ []).trans (Keep.app _ _ []) (by simp)
theorem ztg (hn:2 ≤ n) {w:Nat}(hw:hp[w]?=some (wriC d)) (hl:d.secs.length ≤ 1099511627776) (h2:2 ≤ zaq d):C n 106 [.ptr w 0 0] hp=some (.ret (.tup []),hp):=by
 obtain ⟨m,rfl⟩:=pre1 n
 refine zat F106 rfl rfl ?_
 conv=>whnf
 refine clI (zha (by omega) d hw hl) ?_
 conv=>whnf
 refine clI (zmw (by omega) (by rw [decide_eq_true_iff];omega) 1) ?_
 exact ⟨rfl,_,rfl,rfl,rfl⟩
theorem zth (hn:4 ≤ n) {w:Nat}(hw:hp[w]?=some (wriC d)) (hl:d.secs.length ≤ 1099511627776) (h2:¬ 2 ≤ zaq d):C n 106 [.ptr w 0 0] hp=some (.pan (zbz 1),hp):=by
 obtain ⟨m,rfl⟩:=pre1 n
 obtain ⟨r,h',e,rfl,rfl⟩:=za0 (n:=m) (c:=cfg0) (args:=[.ptr w 0 0]) (h:=hp) (R:=fun r h=>r=.pan (zbz 1) ∧ h=hp) F106 rfl rfl (by
  conv=>whnf
  refine clI (zha (by omega) d hw hl) ?_
  conv=>whnf
  refine clP (zr9 (by omega) (by rw [decide_eq_false_iff_not];omega) 1 (by decide)) ?_
  exact ⟨rfl,rfl⟩)
 exact e
theorem z35 (q:Rt):q.av.pureB=true:=rfl
end
def twoE (d:Dk):Int:=if zan d=true then (if 2 ≤ zaq d then 0 else 1) else 2
section
variable {n m:Nat}{h hp:zaa}{d:Dk}
theorem two_iff {d:Dk}:twoE d=0 ↔ zan d=true ∧ 2 ≤ zaq d:=by
 unfold twoE
 cases zan d<;>by_cases c:2 ≤ zaq d<;>simp [c]
end
abbrev tRtF:Nat:=200
section
variable {n m:Nat}{h hp:zaa}{d:Dk}
theorem z22 (hn:1 ≤ n) (a:Int):C n 213 [i64 a] h=some (.ret (.bool false),h):=by
 obtain ⟨m,rfl⟩:=pre1 n
 refine zak F213 rfl rfl rfl rfl ?_
 conv=>whnf
 exact ⟨rfl,_,rfl,zas (by simp)⟩
theorem z5x (hn:2 ≤ n) (a b:Int):C n 172 [i64 a,i64 b] h=some (.ret (i64 (if a<b then -1 else if b<a then 1 else 0)),h):=by
 obtain ⟨m,rfl⟩:=pre1 n
 refine zak F172 rfl rfl rfl rfl ?_
 conv=>whnf
 refine clI (z22 (by omega) _) ?_
 conv=>whnf
 refine clI (z22 (by omega) _) ?_
 conv=>whnf
 refine brd (fun c=>?_) (fun c=>?_)
 ·rw [if_pos c]
  exact ⟨rfl,_,rfl,rfl⟩
 ·rw [if_neg c]
  conv=>whnf
  refine brd (fun c2=>?_) (fun c2=>?_)
  ·rw [if_pos c2]
   exact ⟨rfl,_,rfl,rfl⟩
  ·rw [if_neg c2]
   exact ⟨rfl,_,rfl,rfl⟩
theorem z1a (hn:3 ≤ n) (x y:Rt) (s t:Int):∃ h',C n 171 [.agg (x.cellsE s),.agg (y.cellsE t)] hp=some (.ret (i64 (if y.ver<x.ver then -1 else if x.ver<y.ver then 1 else 0)),h') ∧ Keep hp h' []:=by
 obtain ⟨m,rfl⟩:=pre1 n
 refine ⟨hp++[.cells 0 (some tRtF) (x.cellsE s) 0]++[.cells 0 (some tRtF) (y.cellsE t) 0],?_,(Keep.app _ _ []).trans (Keep.app _ _ []) (by simp)⟩
 refine zat F171 rfl rfl ?_
 conv=>whnf
 refine ldI (zad _ _) ?_
 conv=>whnf
 refine ldI (by rw [List.getElem?_append_left (by simp)];exact zad _ _) ?_
 conv=>whnf
 refine clI (z5x (by omega) _ _) ?_
 exact ⟨rfl,_,rfl,rfl,rfl⟩
abbrev fNew:AV:=.fn (.func 171) [] []
theorem z5n:fnOk Tryz.prog 171=true:=by kernel_rfl
theorem zxo (hn:1 ≤ n) (L:AV) (k:Nat) (hk:k ≤ 1):C n 234 [L,i64 0,i64 k,fNew] hp=some (.ret (.tup []),hp):=by
 obtain ⟨m,rfl⟩:=pre1 n
 refine zat F234 rfl rfl ?_
 conv=>whnf
 refine zI (z:=1) (by rfl) ?_
 conv=>whnf
 refine za1 (by decide) rfl (α:=Unit) (fun _=>⟨[(2,i64 k),(8,i64 1)],hp,[]⟩) (fun _=>True) (fun _=>0) () ⟨⟨rfl,rfl⟩,rfl,rfl⟩ trivial (by simp only [KK];omega) ?_
 rintro - -
 conv=>whnf
 refine brd (fun a=>absurd hk (by omega)) (fun _=>?_)
 conv=>whnf
 exact ⟨rfl,_,rfl,rfl,rfl⟩
abbrev twoC (ver:Nat) (x y:Rt) (s t:Int):AB:=.cells ver (some tRtF) (x.cellsE s++y.cellsE t) 0
set_option maxRecDepth 10000 in
theorem zxn {b ver:Nat}(hm:3 ≤ m) (x y:Rt) (s t:Int) (hb:hp[b]?=some (twoC ver x y s t)) {Q:Ex → LS → Prop}{st:LS}
  (hs:LS.sub ⟨[(0,.sl 22 b ver 0 2),(1,i64 0),(2,i64 2),(3,fNew),(8,i64 1),(9,i64 1)],hp,[]⟩ st)
  (hE:∀ L h,Keep hp h [b] → h[b]?=some (if x.ver<y.ver then twoC ver y x t s else twoC ver x y s t) → subL [(0,.sl 22 b ver 0 2),(1,i64 0),(2,i64 2),(3,fNew),(8,i64 1)] L → Q (.exit 2) ⟨L,h,[]⟩) :
  OkR Tryz.prog (C m) cfg0.inl KK 53 6 (.loop (c234.lp 1)) st Q:=by
 have lb:=zab hb
 refine za1 (by decide) rfl (α:=Bool × zaa) (fun f=>⟨[(0,.sl 22 b ver 0 2),(1,i64 0),(2,i64 2),(3,fNew),(8,i64 1),(9,if f.1 then i64 0 else i64 1)],f.2,[]⟩) (fun f=>(f.1=true → x.ver<y.ver ∧ Keep hp f.2 [b] ∧ f.2[b]?=some (twoC ver y x t s)) ∧ (f.1=false → f.2=hp)) (fun f=>if f.1 then 0 else 1) (false,hp) hs ⟨(fun h=>by cases h),fun _=>rfl⟩ (by show (1:Nat)<KK;decide) ?_
 rintro ⟨f,h1⟩ ⟨hf,hg⟩
 cases f with
 | true =>
  obtain ⟨q1,q2,q3⟩:=hf rfl
  conv=>whnf
  refine ⟨?_,?_⟩
  ·repeat' (conv=>whnf);first | done | exact ldI (hb) rfl | exact ldI (hb) rfl | refine ⟨?_,?_⟩ | rfl
  conv=>whnf
  refine hE _ _ q2 ?_ ?_
  ·rw [if_pos q1];exact q3
  ·exact ⟨rfl,rfl,rfl,rfl,rfl⟩
 | false =>
  have:=hg rfl
  simp only at this
  subst this
  obtain ⟨h2,e2,k2⟩:=z1a (n:=m) (hp:=h1) hm y x t s
  have hb2:=k2.get hb (by simp)
  conv=>whnf
  refine ⟨by decide,by decide,rfl,?_⟩
  conv=>whnf
  refine ldI hb ?_
  conv=>whnf
  refine zI (z:=0) (by rfl) ?_
  conv=>whnf
  refine ⟨by decide,by decide,rfl,?_⟩
  conv=>whnf
  refine ldI hb ?_
  conv=>whnf
  refine cvI z5n e2 ?_
  refine ⟨?_,?_⟩
  ·repeat' (conv=>whnf);first | done | exact ldI (hb2) rfl | exact ldI (hb2) rfl | refine ⟨?_,?_⟩ | rfl
  conv=>whnf
  by_cases c:x.ver<y.ver
  ·rw [if_pos c]
   conv=>whnf
   refine zI (z:=0) (by rfl) ?_
   conv=>whnf
   refine zI (z:=0) (by rfl) ?_
   conv=>whnf
   refine ⟨by decide,by decide,rfl,?_⟩
   conv=>whnf
   refine ldI hb2 ?_
   conv=>whnf
   refine ⟨by decide,by decide,rfl,?_⟩
   conv=>whnf
   refine ldI hb2 ?_
   conv=>whnf
   refine ⟨by decide,by decide,rfl,?_⟩
   conv=>whnf
   refine stJ (xs:=x.cellsE s) hb2 ?_
   conv=>whnf
   refine ⟨by decide,by decide,rfl,?_⟩
   conv=>whnf
   refine stJ (xs:=y.cellsE t) (List.getElem?_set_self (zab hb2)) ?_
   conv=>whnf
   refine zI (z:=0) (by rfl) ?_
   refine nxI (true,_) ⟨fun _=>⟨c,((k2.mono (by simp)).set' (.inl (by simp))).set' (.inl (by simp)),?_⟩,(fun h=>by cases h)⟩ (by show 0<1;decide) ⟨⟨rfl,rfl,rfl,rfl,rfl,rfl⟩,rfl,rfl⟩
   exact List.getElem?_set_self (by rw [List.length_set];exact zab hb2)
  ·rw [if_neg c]
   by_cases c2:y.ver<x.ver
   ·rw [if_pos c2]
    conv=>whnf
    refine hE _ _ (k2.mono (by simp)) ?_ ?_
    ·rw [if_neg c];exact hb2
    ·exact ⟨rfl,rfl,rfl,rfl,rfl⟩
   ·rw [if_neg c2]
    conv=>whnf
    refine hE _ _ (k2.mono (by simp)) ?_ ?_
    ·rw [if_neg c];exact hb2
    ·exact ⟨rfl,rfl,rfl,rfl,rfl⟩
end
section
variable {n m:Nat}{h hp:zaa}{d:Dk}
theorem z49 (hn:4 ≤ n) {b ver:Nat}(x y:Rt) (s t:Int) (hb:hp[b]?=some (twoC ver x y s t)):∃ v h',C n 234 [.sl 22 b ver 0 2,i64 0,i64 2,fNew] hp=some (.ret v,h') ∧ v=.tup [] ∧ Keep hp h' [b] ∧ h'[b]?=some (if x.ver<y.ver then twoC ver y x t s else twoC ver x y s t):=by
 obtain ⟨m,rfl⟩:=pre1 n
 refine zcc F234 rfl rfl ?_
 conv=>whnf
 refine zI (z:=1) (by rfl) ?_
 conv=>whnf
 refine za1 (by decide) rfl (α:=Bool × zaa) (fun f=>⟨[(0,.sl 22 b ver 0 2),(1,i64 0),(2,i64 2),(3,fNew),(8,if f.1 then i64 2 else i64 1)],f.2,[]⟩) (fun f=>(f.1=true → Keep hp f.2 [b] ∧ f.2[b]?=some (if x.ver<y.ver then twoC ver y x t s else twoC ver x y s t)) ∧ (f.1=false → f.2=hp)) (fun f=>if f.1 then 0 else 1) (false,hp) ⟨⟨rfl,rfl,rfl,rfl,rfl⟩,rfl,rfl⟩ ⟨(fun h=>by cases h),fun _=>rfl⟩ (by show (1:Nat)<KK;decide) ?_
 rintro ⟨f,h1⟩ ⟨hf,hg⟩
 cases f with
 | true =>
  obtain ⟨q2,q3⟩:=hf rfl
  conv=>whnf
  exact ⟨rfl,_,rfl,rfl,q2,q3⟩
 | false =>
  have:=hg rfl
  simp only at this
  subst this
  conv=>whnf
  refine zxn (by omega) x y s t hb ⟨⟨rfl,rfl,rfl,rfl,rfl,rfl⟩,rfl,rfl⟩ (fun L h2 k2 g2 hL=>?_)
  conv=>whnf
  refine cutI (by decide) rfl (t:=⟨[(0,.sl 22 b ver 0 2),(1,i64 0),(2,i64 2),(3,fNew),(8,i64 1)],h2,[]⟩) ⟨hL,rfl,rfl⟩ ?_
  conv=>whnf
  refine zI (z:=2) (by rfl) ?_
  exact nxI (true,h2) ⟨fun _=>⟨k2,g2⟩,(fun h=>by cases h)⟩ (by show 0<1;decide) ⟨⟨rfl,rfl,rfl,rfl,rfl⟩,rfl,rfl⟩
theorem zi3 {L:AV}{k:Nat}(hk:k ≤ 2) (e:C m 234 [L,i64 0,i64 k,fNew] hp=some (.ret (.tup []),h)):C (m+1) 212 [L,i64 k,fNew] hp=some (.ret (.tup []),h):=by
 refine zat F212 rfl rfl ?_
 conv=>whnf
 refine za1 (by decide) rfl (α:=Unit) (fun _=>⟨[(0,L),(1,i64 k),(2,fNew),(6,i64 20),(7,i64 0),(8,i64 20)],hp,[]⟩) (fun _=>True) (fun _=>0) () ⟨⟨rfl,rfl,rfl,rfl,rfl,rfl⟩,rfl,rfl⟩ trivial (by simp only [KK];omega) ?_
 rintro - -
 conv=>whnf
 refine brd (fun a=>absurd hk (by omega)) (fun _=>?_)
 conv=>whnf
 refine cutI (by decide) rfl (t:=⟨[(0,L),(1,i64 k),(2,fNew),(6,i64 20),(7,i64 0)],hp,[]⟩) ⟨⟨rfl,rfl,rfl,rfl,rfl⟩,rfl,rfl⟩ ?_
 conv=>whnf
 refine clI e ?_
 conv=>whnf
 refine za1 (by decide) rfl (α:=Unit) (fun _=>⟨[(1,i64 k),(6,i64 20)],h,[]⟩) (fun _=>True) (fun _=>0) () ⟨⟨rfl,rfl⟩,rfl,rfl⟩ trivial (by simp only [KK];omega) ?_
 rintro - -
 conv=>whnf
 refine brd (fun a=>absurd hk (by omega)) (fun _=>?_)
 conv=>whnf
 exact ⟨rfl,[],rfl,rfl,rfl⟩
theorem z0h (hn:3 ≤ n):C n 170 [.lst 0 [] true,fNew] hp=some (.ret (.tup []),hp):=by
 obtain ⟨m,rfl⟩ : ∃ m,n=m+2:=⟨n-2,by omega⟩
 refine zat F170 rfl rfl ?_
 conv=>whnf
 refine clI (zi3 (k:=0) (by omega) (zxo (by omega) _ 0 (by omega))) ?_
 exact ⟨rfl,[],rfl,rfl,rfl⟩
theorem zrs (hn:3 ≤ n) {b ver:Nat}:C n 170 [.sl 22 b ver 0 1,fNew] hp=some (.ret (.tup []),hp):=by
 obtain ⟨m,rfl⟩ : ∃ m,n=m+2:=⟨n-2,by omega⟩
 refine zat F170 rfl rfl ?_
 conv=>whnf
 refine clI (zi3 (k:=1) (by omega) (zxo (by omega) _ 1 (by omega))) ?_
 exact ⟨rfl,[],rfl,rfl,rfl⟩
theorem z0g (hn:6 ≤ n) {b ver:Nat}(x y:Rt) (s t:Int) (hb:hp[b]?=some (twoC ver x y s t)):∃ h',C n 170 [.sl 22 b ver 0 2,fNew] hp=some (.ret (.tup []),h') ∧ Keep hp h' [b] ∧ h'[b]?=some (if x.ver<y.ver then twoC ver y x t s else twoC ver x y s t):=by
 obtain ⟨m,rfl⟩ : ∃ m,n=m+2:=⟨n-2,by omega⟩
 obtain ⟨v,h',e,rfl,k1,g1⟩:=z49 (n:=m) (by omega) x y s t hb
 refine ⟨h',?_,k1,g1⟩
 refine zat F170 rfl rfl ?_
 conv=>whnf
 refine clI (zi3 (k:=2) (by omega) e) ?_
 exact ⟨rfl,[],rfl,rfl,rfl⟩
end
def z0p (l:List (Rt × Int)):List AV:=l.flatMap fun p=>p.1.cellsE p.2
def NB0 (base:Nat) (h:zaa) (L:AV) (l:List (Rt × Int)):Prop:=(l=[] ∧ L=.lst 0 [] true) ∨ (∃ b ver,base ≤ b ∧ l≠[] ∧ L=.sl 22 b ver 0 l.length ∧ h[b]?=some (.cells ver (some tRtF) (z0p l) 0))
theorem NB0.keep {base:Nat}{h h':zaa}{L:AV}{l:List (Rt × Int)}(a:NB0 base h L l) (k:Keep h h' []):NB0 base h' L l:=by
 rcases a with a | ⟨b,ver,a1,a2,a3,a4⟩
 ·exact .inl a
 ·exact .inr ⟨b,ver,a1,a2,a3,k.get a4 (by simp)⟩
theorem zxa {base:Nat}{h:zaa}{L:AV}{l:List (Rt × Int)}(a:NB0 base h L l) (hb:base ≤ h.length) (hl:l.length ≤ 1) (q:Rt) (e:Int) :
  ∃ v h',appR h tRtF 22 L (.lst 22 [.agg (q.cellsE e)] true)=some (v,some h') ∧ NB0 base h' v (l++[(q,e)]) ∧ (∀ y,y<base → h'[y]?=h[y]?) ∧ h.length ≤ h'.length:=by
 rcases a with ⟨rfl,rfl⟩ | ⟨b,ver,a1,a2,rfl,a4⟩
 ·refine ⟨.sl 22 h.length 0 0 1,h++[.cells 0 (some tRtF) (q.cellsE e) 0],rfl,.inr ⟨h.length,0,hb,by simp,rfl,zad _ _⟩,fun y hy=>List.getElem?_append_left (by omega),by simp⟩
 ·obtain ⟨p,rfl⟩ : ∃ p,l=[p]:=by
   cases l with
   | nil=>exact (a2 rfl).elim
   | cons p r=>cases r with
    | nil=>exact ⟨p,rfl⟩
    | cons _ _=>simp at hl
  refine ⟨.sl 22 b (ver+1) 0 2,h.set b (.cells (ver+1) (some tRtF) (z0p [p]++q.cellsE e) 0),?_,.inr ⟨b,ver+1,a1,by simp,rfl,?_⟩,fun y hy=>List.getElem?_set_ne (by omega),by simp⟩
  ·have:appR h tRtF 22 (.sl 22 b ver 0 [p].length) (.lst 22 [.agg (q.cellsE e)] true)=(match h[b]? with
     | some (.cells ver' el cs frz) =>
      if (el=some tRtF ∨ el=none) ∧ 22=22 ∧ ver'=ver ∧ 0=0 ∧ 1*22=cs.length ∧ cs.all AV.scal ∧ 1+1 ≤ 1073741824 ∧ frz ≤ cs.length then
       (if 1=0 then some (AV.sl 22 b ver 0 1,none) else some (.sl 22 b (ver+1) 0 (1+1),some (h.set b (.cells (ver+1) el (cs++q.cellsE e) frz))))
      else none
     | _=>none):=rfl
   rw [this,a4]
   simp only
   rw [if_pos ⟨.inl trivial,trivial,trivial,trivial,rfl,rfl,by decide,Nat.zero_le _⟩,if_neg (by decide)]
  ·rw [List.getElem?_set_self (zab a4)]
   simp [z0p]
def preL (a b:Rt) (ea eb:Int):Nat → List (Rt × Int)
 | 0=>[]
 | 1=>if ea=0 then [(a,0)] else []
 | _=>(if ea=0 then [(a,0)] else [])++(if eb=0 then [(b,1)] else [])
def newL (a b:Rt) (ea eb:Int):List (Rt × Int):=if ea=0 ∧ eb=0 ∧ a.ver<b.ver then [(b,1),(a,0)] else preL a b ea eb 2
section
variable {n m:Nat}{h hp:zaa}{d:Dk}
theorem z0q (hn:5 ≤ n) {w:Nat}(hw:hp[w]?=some (wriC d)) (hl:d.secs.length ≤ 1099511627776) (h2:¬ 2 ≤ zaq d):C n 113 [.ptr w 0 0] hp=some (.pan (zbz 1),hp):=by
 obtain ⟨m,rfl⟩:=pre1 n
 obtain ⟨r,h',e,rfl,rfl⟩:=za0 (n:=m) (c:=cfg0) (args:=[.ptr w 0 0]) (h:=hp) (R:=fun r h=>r=.pan (zbz 1) ∧ h=hp) F113 rfl rfl (by
  conv=>whnf
  refine clP (zth (by omega) hw hl h2) ?_
  exact ⟨rfl,rfl⟩)
 exact e
set_option maxRecDepth 10000 in
theorem zto {w:Nat}(hw:hp[w]?=some (wriC d)) {a b:Rt}{ea eb:Int}
  (cA:∀ hp w,hp[w]?=some (wriC d) → ∃ h',C m 108 [.ptr w 0 0,i64 0] hp=some (.ret (.tup [a.av,i64 ea]),h') ∧ Keep hp h' [])
  (cB:∀ hp w,hp[w]?=some (wriC d) → ∃ h',C m 108 [.ptr w 0 0,i64 1] hp=some (.ret (.tup [b.av,i64 eb]),h') ∧ Keep hp h' [])
  {Q:Ex → LS → Prop}{st:LS}(hs:LS.sub ⟨[(0,.ptr w 0 0),(3,.lst 0 [] true),(9,i64 0)],hp,[]⟩ st)
  (hE:∀ LL L h,Keep hp h [] → NB0 hp.length h L (preL a b ea eb 2) → subL [(0,.ptr w 0 0),(3,L)] LL → Q (.exit 0) ⟨LL,h,[]⟩) :
  OkR Tryz.prog (C m) cfg0.inl KK 30 5 (.loop (c113.lp 0)) st Q:=by
 refine za1 (by decide) rfl (α:=Nat × zaa × AV) (fun x=>⟨[(0,.ptr w 0 0),(3,x.2.2),(9,i64 x.1)],x.2.1,[]⟩) (fun x=>x.1 ≤ 2 ∧ Keep hp x.2.1 [] ∧ NB0 hp.length x.2.1 x.2.2 (preL a b ea eb x.1)) (fun x=>2-x.1) (0,hp,.lst 0 [] true) hs ⟨Nat.zero_le _,Keep.refl _ _,.inl ⟨rfl,rfl⟩⟩ (by show 2-0<KK;decide) ?_
 rintro ⟨j,h1,L⟩ ⟨g1,g2,g3⟩
 simp only at g1 g2 g3
 have step:∀ (q:Rt) (e:Int) (h2:zaa),Keep h1 h2 [] → Keep hp ((h2++[zRtB]).set h2.length (.cells 0 (some zd5) (putAt Rt.zero.cells 0 q.cells) 0)) [] ∧ NB0 hp.length ((h2++[zRtB]).set h2.length (.cells 0 (some zd5) (putAt Rt.zero.cells 0 q.cells) 0)) L (preL a b ea eb j):=fun q e h2 k2=>by
  have k3:Keep h1 ((h2++[zRtB]).set h2.length (.cells 0 (some zd5) (putAt Rt.zero.cells 0 q.cells) 0)) []:=(k2.trans (Keep.app _ _ []) (by simp)).set' (.inr k2.1)
  exact ⟨g2.trans k3 (by simp),g3.keep k3⟩
 obtain rfl | rfl | rfl:j=0 ∨ j=1 ∨ j=2:=by omega
 ·obtain ⟨h2,e2,k2⟩:=cA h1 w (g2.get hw (by simp))
  obtain ⟨k3,n3⟩:=step a ea h2 k2
  conv=>whnf
  refine clI e2 ?_
  conv=>whnf
  refine stJ (xs:=a.cells) (zad _ _) ?_
  conv=>whnf
  refine bre (fun c=>?_) (fun c=>?_)
  ·conv=>whnf
   refine ldI (zaf _ _ _) ?_
   conv=>whnf
   refine ⟨rfl,?_⟩
   conv=>whnf
   obtain ⟨v,h4,e4,n4,q4,l4⟩:=zxa n3 k3.1 (by simp [preL]) a 0
   refine apI5 e4 ?_
   conv=>whnf
   refine zI (z:=1) (by rfl) ?_
   refine nxI (1,h4,v) ⟨(show 1 ≤ 2 by decide),⟨Nat.le_trans k3.1 l4,fun y hy _=>(q4 y hy).trans (k3.2 y hy (by simp))⟩,?_⟩ (by show 2-1<2-0;decide) ⟨⟨rfl,rfl,rfl⟩,rfl,rfl⟩
   simp only [preL,List.nil_append] at n4
   simp only [preL,if_pos c]
   exact n4
  ·conv=>whnf
   refine zI (z:=1) (by rfl) ?_
   refine nxI (1,_,L) ⟨(show 1 ≤ 2 by decide),k3,?_⟩ (by show 2-1<2-0;decide) ⟨⟨rfl,rfl,rfl⟩,rfl,rfl⟩
   simp only [preL,if_neg c]
   exact n3
 ·obtain ⟨h2,e2,k2⟩:=cB h1 w (g2.get hw (by simp))
  obtain ⟨k3,n3⟩:=step b eb h2 k2
  conv=>whnf
  refine clI e2 ?_
  conv=>whnf
  refine stJ (xs:=b.cells) (zad _ _) ?_
  conv=>whnf
  refine bre (fun c=>?_) (fun c=>?_)
  ·conv=>whnf
   refine ldI (zaf _ _ _) ?_
   conv=>whnf
   refine ⟨rfl,?_⟩
   conv=>whnf
   obtain ⟨v,h4,e4,n4,q4,l4⟩:=zxa n3 k3.1 (by simp only [preL];split<;>simp) b 1
   refine apI5 e4 ?_
   conv=>whnf
   refine zI (z:=2) (by rfl) ?_
   refine nxI (2,h4,v) ⟨(show 2 ≤ 2 by decide),⟨Nat.le_trans k3.1 l4,fun y hy _=>(q4 y hy).trans (k3.2 y hy (by simp))⟩,?_⟩ (by show 2-2<2-1;decide) ⟨⟨rfl,rfl,rfl⟩,rfl,rfl⟩
   simp only [preL] at n4
   simp only [preL,if_pos c]
   exact n4
  ·conv=>whnf
   refine zI (z:=2) (by rfl) ?_
   refine nxI (2,_,L) ⟨(show 2 ≤ 2 by decide),k3,?_⟩ (by show 2-2<2-1;decide) ⟨⟨rfl,rfl,rfl⟩,rfl,rfl⟩
   simp only [preL,if_neg c,List.append_nil]
   exact n3
 ·conv=>whnf
  exact hE _ _ _ g2 g3 ⟨rfl,rfl⟩
theorem zmv (a b:Rt) (ea eb:Int):(newL a b ea eb).length ≤ 2:=by
 unfold newL
 by_cases c1:ea=0<;>by_cases c2:eb=0<;>by_cases c3:a.ver<b.ver<;>simp [preL,c1,c2,c3]
theorem zmu {a b:Rt}{ea eb:Int}(c1:ea=0) (c2:eb=0):newL a b ea eb=if a.ver<b.ver then [(b,1),(a,0)] else [(a,0),(b,1)]:=by
 unfold newL
 by_cases c3:a.ver<b.ver<;>simp [preL,c1,c2,c3]
theorem z0r (hn:12 ≤ n) (hr:zan d=true) (h2:2 ≤ zaq d) {w:Nat}(hw:hp[w]?=some (wriC d)) {a b:Rt}{ea eb:Int}
  (cA:∀ n,11 ≤ n → ∀ hp w,hp[w]?=some (wriC d) → ∃ h',C n 108 [.ptr w 0 0,i64 0] hp=some (.ret (.tup [a.av,i64 ea]),h') ∧ Keep hp h' [])
  (cB:∀ n,11 ≤ n → ∀ hp w,hp[w]?=some (wriC d) → ∃ h',C n 108 [.ptr w 0 0,i64 1] hp=some (.ret (.tup [b.av,i64 eb]),h') ∧ Keep hp h' []) :
  ∃ L h',C n 113 [.ptr w 0 0] hp=some (.ret L,h') ∧ Keep hp h' [] ∧ NB0 hp.length h' L (newL a b ea eb):=by
 obtain ⟨m,rfl⟩:=pre1 n
 have hz:=(rightD_iff.1 hr).1
 refine zcc F113 rfl rfl ?_
 conv=>whnf
 refine clI (ztg (by omega) hw (by omega) h2) ?_
 conv=>whnf
 refine zto hw (cA m (by omega)) (cB m (by omega)) ⟨⟨rfl,rfl,rfl⟩,rfl,rfl⟩ (fun LL L h1 k1 n1 hL=>?_)
 conv=>whnf
 refine cutI (by decide) rfl (t:=⟨[(0,.ptr w 0 0),(3,L)],h1,[]⟩) ⟨hL,rfl,rfl⟩ ?_
 conv=>whnf
 have fin:∃ h2,C m 170 [L,fNew] h1=some (.ret (.tup []),h2) ∧ Keep hp h2 [] ∧ NB0 hp.length h2 L (newL a b ea eb):=by
  by_cases c1:ea=0
  ·by_cases c2:eb=0
   ·simp only [preL,if_pos c1,if_pos c2,List.cons_append,List.nil_append] at n1
    rcases n1 with ⟨q,_⟩ | ⟨x,ver,a1,a2,rfl,a4⟩
    ·cases q
    ·obtain ⟨h2,e2,k2,g2⟩:=z0g (n:=m) (by omega) a b 0 1 (show h1[x]?=some (twoC ver a b 0 1) by rw [a4];rfl)
     refine ⟨h2,e2,k1.trans k2 (fun y hy=>.inr (by simp at hy;omega)),.inr ⟨x,ver,a1,?_,?_,?_⟩⟩
     ·rw [zmu c1 c2];split<;>simp
     ·rw [zmu c1 c2];split<;>rfl
     ·rw [g2,zmu c1 c2]
      by_cases c3:a.ver<b.ver
      ·rw [if_pos c3,if_pos c3];rfl
      ·rw [if_neg c3,if_neg c3];rfl
   ·simp only [preL,if_pos c1,if_neg c2,List.append_nil] at n1
    have e:newL a b ea eb=[(a,0)]:=by unfold newL;rw [if_neg (fun q=>c2 q.2.1)];simp [preL,c1,c2]
    rw [e]
    rcases n1 with ⟨q,_⟩ | ⟨x,ver,a1,a2,rfl,a4⟩
    ·cases q
    ·exact ⟨h1,zrs (by omega),k1,.inr ⟨x,ver,a1,a2,rfl,a4⟩⟩
  ·by_cases c2:eb=0
   ·simp only [preL,if_neg c1,if_pos c2,List.nil_append] at n1
    have e:newL a b ea eb=[(b,1)]:=by unfold newL;rw [if_neg (fun q=>c1 q.1)];simp [preL,c1,c2]
    rw [e]
    rcases n1 with ⟨q,_⟩ | ⟨x,ver,a1,a2,rfl,a4⟩
    ·cases q
    ·exact ⟨h1,zrs (by omega),k1,.inr ⟨x,ver,a1,a2,rfl,a4⟩⟩
   ·simp only [preL,if_neg c1,if_neg c2,List.append_nil] at n1
    have e:newL a b ea eb=[]:=by unfold newL;rw [if_neg (fun q=>c1 q.1)];simp [preL,c1,c2]
    rw [e]
    rcases n1 with ⟨_,rfl⟩ | ⟨x,ver,a1,a2,_,a4⟩
    ·exact ⟨h1,z0h (by omega),k1,.inl ⟨rfl,rfl⟩⟩
    ·exact (a2 rfl).elim
 obtain ⟨h2,e2,k2,n2⟩:=fin
 refine clI e2 ?_
 exact ⟨rfl,_,rfl,k2,n2⟩
end
def zwa (l:List Rt):List AV:=l.flatMap fun p=>p.cells
def NB1 (base:Nat) (h:zaa) (L:AV) (l:List Rt):Prop:=(l=[] ∧ L=.lst 0 [] true) ∨ (∃ b ver,base ≤ b ∧ l≠[] ∧ L=.sl 21 b ver 0 l.length ∧ h[b]?=some (.cells ver (some zd5) (zwa l) 0))
theorem NB1.keep {base:Nat}{h h':zaa}{L:AV}{l:List Rt}(a:NB1 base h L l) (k:Keep h h' []):NB1 base h' L l:=by
 rcases a with a | ⟨b,ver,a1,a2,a3,a4⟩
 ·exact .inl a
 ·exact .inr ⟨b,ver,a1,a2,a3,k.get a4 (by simp)⟩
theorem z4u {base:Nat}{h:zaa}{L:AV}{l:List Rt}(a:NB1 base h L l) (hb:base ≤ h.length) (hl:l.length ≤ 1) (q:Rt) :
  ∃ v h',appR h zd5 21 L (.lst 21 [.agg (q.cells)] true)=some (v,some h') ∧ NB1 base h' v (l++[q]) ∧ (∀ y,y<base → h'[y]?=h[y]?) ∧ h.length ≤ h'.length:=by
 rcases a with ⟨rfl,rfl⟩ | ⟨b,ver,a1,a2,rfl,a4⟩
 ·refine ⟨.sl 21 h.length 0 0 1,h++[.cells 0 (some zd5) (q.cells) 0],rfl,.inr ⟨h.length,0,hb,by simp,rfl,zad _ _⟩,fun y hy=>List.getElem?_append_left (by omega),by simp⟩
 ·obtain ⟨p,rfl⟩ : ∃ p,l=[p]:=by
   cases l with
   | nil=>exact (a2 rfl).elim
   | cons p r=>cases r with
    | nil=>exact ⟨p,rfl⟩
    | cons _ _=>simp at hl
  refine ⟨.sl 21 b (ver+1) 0 2,h.set b (.cells (ver+1) (some zd5) (zwa [p]++q.cells) 0),?_,.inr ⟨b,ver+1,a1,by simp,rfl,?_⟩,fun y hy=>List.getElem?_set_ne (by omega),by simp⟩
  ·have:appR h zd5 21 (.sl 21 b ver 0 [p].length) (.lst 21 [.agg (q.cells)] true)=(match h[b]? with
     | some (.cells ver' el cs frz) =>
      if (el=some zd5 ∨ el=none) ∧ 21=21 ∧ ver'=ver ∧ 0=0 ∧ 1*21=cs.length ∧ cs.all AV.scal ∧ 1+1 ≤ 1073741824 ∧ frz ≤ cs.length then
       (if 1=0 then some (AV.sl 21 b ver 0 1,none) else some (.sl 21 b (ver+1) 0 (1+1),some (h.set b (.cells (ver+1) el (cs++q.cells) frz))))
      else none
     | _=>none):=rfl
   rw [this,a4]
   simp only
   rw [if_pos ⟨.inl trivial,trivial,trivial,trivial,rfl,rfl,by decide,Nat.zero_le _⟩,if_neg (by decide)]
  ·rw [List.getElem?_set_self (zab a4)]
   simp [zwa]
theorem row_at {l:List (Rt × Int)}{j:Nat}(hl:l.length ≤ 2) (hj:j<l.length):zjl true 22 (z0p l) (0+(j:Int).toNat*22)=some (.agg (l[j].1.cellsE l[j].2)):=by
 rcases l with _ | ⟨p,_ | ⟨p2,_ | ⟨p3,r⟩⟩⟩
 ·exact absurd hj (Nat.not_lt_zero _)
 ·obtain rfl:j=0:=by simp at hj;omega
  rfl
 ·obtain rfl | rfl:j=0 ∨ j=1:=by simp at hj;omega
  ·rfl
  ·rfl
 ·simp at hl
theorem zxv {base:Nat}{h:zaa}{L:AV}{l:List Rt}(a:NB1 base h L l):∃ (sz:Nat) (c:Bool),Abs.frz h 63 L=some (.lst sz (l.map Rt.av) c) ∧ (l≠[] → sz=21):=by
 rcases a with ⟨rfl,rfl⟩ | ⟨b,ver,a1,a2,rfl,a4⟩
 ·exact ⟨0,true,rfl,fun h=>(h rfl).elim⟩
 ·refine ⟨21,false,?_,fun _=>rfl⟩
  have e1:zwa l=(l.map Rt.cells).flatten:=by rw [zwa,List.flatMap_def]
  rw [e1] at a4
  have:=zsi (n:=62) (sz:=21) (rows:=l.map Rt.cells) (rows':=l.map Rt.cells) (by decide) a4 (fun r hr=>by obtain ⟨q,_,rfl⟩:=List.mem_map.1 hr;rfl) (zda fun x hx=>by
   obtain ⟨r,hr,hx⟩:=List.mem_flatten.1 hx
   obtain ⟨q,_,rfl⟩:=List.mem_map.1 hr
   simp only [Rt.cells,List.mem_cons,List.not_mem_nil,or_false] at hx
   rcases hx with rfl | rfl | rfl | rfl | rfl | rfl | rfl | rfl | rfl | rfl | rfl | rfl | rfl | rfl | rfl | rfl | rfl | rfl | rfl | rfl | rfl<;>rfl) (fun r hr=>by obtain ⟨q,_,rfl⟩:=List.mem_map.1 hr;exact ⟨rfl,rfl⟩) rfl
  rw [List.length_map] at this
  rw [this,List.map_map]
  rfl
section
variable {n m:Nat}{h hp:zaa}{d:Dk}
abbrev zii (l:List (Rt × Int)):List Rt:=l.map (·.1)
theorem zi9 {l:List (Rt × Int)}(hl:l.length ≤ 2) {L:AV}{base:Nat}(hL:NB0 base h L l) {Q:Ex → LS → Prop}{st:LS}(hs:LS.sub ⟨[(2,.lst 0 [] true),(7,L),(8,i64 l.length),(9,i64 0)],h,[]⟩ st)
  (hE:∀ LL V h',Keep h h' [] → NB1 h.length h' V (zii l) → lk LL 2=some V → Q (.exit 0) ⟨LL,h',[]⟩) :
  OkR Tryz.prog (C m) cfg0.inl KK 20 5 (.loop (c112.lp 0)) st Q:=by
 refine za1 (by decide) rfl (α:=Nat × zaa × AV) (fun x=>⟨[(2,x.2.2),(7,L),(8,i64 l.length),(9,i64 x.1)],x.2.1,[]⟩) (fun x=>x.1 ≤ l.length ∧ Keep h x.2.1 [] ∧ NB1 h.length x.2.1 x.2.2 (zii (l.take x.1))) (fun x=>l.length-x.1) (0,h,.lst 0 [] true) hs ⟨Nat.zero_le _,Keep.refl _ _,.inl ⟨rfl,rfl⟩⟩ (by show l.length-0<KK;simp only [KK];omega) ?_
 rintro ⟨j,h1,V⟩ ⟨g1,g2,g3⟩
 simp only at g1 g2 g3
 conv=>whnf
 refine brd (fun a=>?_) (fun a=>?_)
 ·have hj:j<l.length:=by omega
  rcases hL.keep g2 with ⟨rfl,_⟩ | ⟨b,ver,a1,a2,rfl,a4⟩
  ·exact absurd hj (Nat.not_lt_zero _)
  conv=>whnf
  refine ⟨by omega,by omega,rfl,?_⟩
  conv=>whnf
  refine ldI a4 ?_
  refine zdd (v:=.agg (l[j].1.cellsE l[j].2)) (row_at hl hj) ?_
  conv=>whnf
  refine stJ (xs:=l[j].1.cellsE l[j].2) (zad _ _) ?_
  conv=>whnf
  refine ldI (zaf _ _ _) ?_
  conv=>whnf
  refine ⟨rfl,?_⟩
  conv=>whnf
  have k3:∀ x y,Keep h ((h1++[x]).set h1.length y) []:=fun x y=>(g2.trans (Keep.app _ _ []) (by simp)).set' (.inr g2.1)
  have n3:∀ x y,NB1 h.length ((h1++[x]).set h1.length y) V (zii (l.take j)):=fun x y=>g3.keep ((Keep.app h1 x []).set' (.inr (Nat.le_refl _)))
  obtain ⟨v,h4,e4,n4,q4,l4⟩:=z4u (n3 (.cells 0 (some tRtF) (Rt.zero.cellsE 0) 0) (.cells 0 (some tRtF) (putAt (Rt.zero.cellsE 0) 0 (l[j].1.cellsE l[j].2)) 0)) (k3 _ _).1 (by simp;omega) l[j].1
  refine apI5 e4 ?_
  conv=>whnf
  refine zJ j ?_
  refine nxI (j+1,h4,v) ⟨hj,⟨Nat.le_trans (k3 (.cells 0 (some tRtF) (Rt.zero.cellsE 0) 0) (.cells 0 (some tRtF) (putAt (Rt.zero.cellsE 0) 0 (l[j].1.cellsE l[j].2)) 0)).1 l4,fun y hy _=>(q4 y hy).trans ((k3 _ _).2 y hy (by simp))⟩,?_⟩ (by simp only;omega) ⟨⟨rfl,rfl,rfl,rfl⟩,rfl,rfl⟩
  rw [zb4 hj]
  show NB1 h.length h4 v (zii (l.take j++[l[j]]))
  have e9:zii (l.take j++[l[j]])=zii (l.take j)++[l[j].1]:=List.map_append
  rw [e9]
  exact n4
 ·have hj:j=l.length:=by omega
  subst hj
  rw [List.take_length] at g3
  conv=>whnf
  exact hE _ _ _ g2 g3 rfl
theorem NB0.len {base:Nat}{h:zaa}{L:AV}{l:List (Rt × Int)}(a:NB0 base h L l):lenA L=some l.length:=by
 rcases a with ⟨rfl,rfl⟩ | ⟨b,ver,a1,a2,rfl,a4⟩<;>rfl
structure Rts (d:Dk) (a b:Rt) (ea eb:Int):Prop where
 cA:∀ n,11 ≤ n → ∀ hp w,hp[w]?=some (wriC d) → ∃ h',C n 108 [.ptr w 0 0,i64 0] hp=some (.ret (.tup [a.av,i64 ea]),h') ∧ Keep hp h' []
 cB:∀ n,11 ≤ n → ∀ hp w,hp[w]?=some (wriC d) → ∃ h',C n 108 [.ptr w 0 0,i64 1] hp=some (.ret (.tup [b.av,i64 eb]),h') ∧ Keep hp h' []
 sA:∀ n,11 ≤ n → ∀ h,C n 110 [d.av,i64 0] h=some (.ret (.agg (a.cellsE ea)),h)
 sB:∀ n,11 ≤ n → ∀ h,C n 110 [d.av,i64 1] h=some (.ret (.agg (b.cellsE eb)),h)
 zA:ea≠0 → a=Rt.zero ∧ ea=8
 zB:eb≠0 → b=Rt.zero ∧ eb=8
theorem zwb (hn:13 ≤ n) (ok:d.Ok) (he:twoE d=0) {a b:Rt}{ea eb:Int}(R:Rts d a b ea eb) {D:Nat}(hD:hp[D]?=some (dkC d)) :
  ∃ V h',C n 112 [.ptr D 0 0] hp=some (.ret V,h') ∧ Keep hp h' [] ∧ NB1 hp.length h' V (zii (newL a b ea eb)):=by
 obtain ⟨m,rfl⟩:=pre1 n
 obtain ⟨hr,h2⟩:=two_iff.1 he
 have hz:=(rightD_iff.1 hr).1
 obtain ⟨L,h1,e1,k1,n1⟩:=z0r (n:=m) (hp:=hp++[dkC d]++[wriC d]) (by omega) hr h2 (z2r _ _) R.cA R.cB
 have k2:=(zrk hp d).trans k1 (by simp)
 refine zcc F112 rfl rfl ?_
 conv=>whnf
 refine ldI hD ?_
 conv=>whnf
 refine clI (zw2 (by omega) d ok hr) ?_
 conv=>whnf
 refine clI e1 ?_
 have fin:∀ LL V h',Keep h1 h' [] → NB1 h1.length h' V (zii (newL a b ea eb)) → lk LL 2=some V → Keep hp h' [] ∧ NB1 hp.length h' V (zii (newL a b ea eb)):=fun LL V h' k n _=>by
  refine ⟨k2.trans k (by simp),?_⟩
  rcases n with n | ⟨x,ver,q1,q⟩
  ·exact .inl n
  ·exact .inr ⟨x,ver,Nat.le_trans k2.1 q1,q⟩
 have n1c:=n1
 rcases n1c with ⟨e,rfl⟩ | ⟨b',ver,_,_,rfl,_⟩
 ·conv=>whnf
  refine zi9 (zmv a b ea eb) n1 ⟨⟨rfl,rfl,by rw [e];rfl,rfl⟩,rfl,rfl⟩ (fun LL V h' k3 n3 hk=>?_)
  conv=>whnf
  refine cutI (by decide) rfl (t:=⟨[(2,V)],h',[]⟩) ⟨hk,rfl,rfl⟩ ?_
  exact ⟨rfl,_,rfl,(fin LL V h' k3 n3 hk).1,(fin LL V h' k3 n3 hk).2⟩
 ·conv=>whnf
  refine zi9 (zmv a b ea eb) n1 ⟨⟨rfl,rfl,rfl,rfl⟩,rfl,rfl⟩ (fun LL V h' k3 n3 hk=>?_)
  conv=>whnf
  refine cutI (by decide) rfl (t:=⟨[(2,V)],h',[]⟩) ⟨hk,rfl,rfl⟩ ?_
  exact ⟨rfl,_,rfl,(fin LL V h' k3 n3 hk).1,(fin LL V h' k3 n3 hk).2⟩
theorem zwc (hn:7 ≤ n) (ok:d.Ok) (he:twoE d≠0) {D:Nat}(hD:hp[D]?=some (dkC d)) :
  ∃ r h',C n 112 [.ptr D 0 0] hp=some (r,h') ∧ r=.pan (zbz (twoE d)) ∧ Keep hp h' []:=by
 obtain ⟨m,rfl⟩:=pre1 n
 cases hr:zan d with
 | false =>
  have e2:twoE d=2:=by unfold twoE;rw [hr];rfl
  rw [e2]
  refine za0 F112 rfl rfl ?_
  conv=>whnf
  refine ldI hD ?_
  conv=>whnf
  refine clP (of_no (by omega) d ok hr) ?_
  exact ⟨rfl,Keep.app _ _ []⟩
 | true =>
  have hz:=(rightD_iff.1 hr).1
  have h2:¬ 2 ≤ zaq d:=fun q=>he (two_iff.2 ⟨hr,q⟩)
  have e2:twoE d=1:=by unfold twoE;rw [hr,if_pos rfl,if_neg h2]
  rw [e2]
  refine za0 F112 rfl rfl ?_
  conv=>whnf
  refine ldI hD ?_
  conv=>whnf
  refine clI (zw2 (by omega) d ok hr) ?_
  conv=>whnf
  refine clP (z0q (by omega) (z2r _ _) (by omega) h2) ?_
  exact ⟨rfl,zrk _ _⟩
theorem z28:fnOk Tryz.prog 112=true:=by kernel_rfl
theorem NB1.cells {base:Nat}{h:zaa}{L:AV}{l:List Rt}(a:NB1 base h L l):L.cells?=some [L]:=by
 rcases a with ⟨rfl,rfl⟩ | ⟨b,ver,a1,a2,rfl,a4⟩<;>rfl
theorem zlf (hn:16 ≤ n) (ok:d.Ok) (he:twoE d=0) {a b:Rt}{ea eb:Int}(R:Rts d a b ea eb):∃ (sz:Nat) (c:Bool),(newL a b ea eb≠[] → sz=21) ∧ ∀ h,C n 43 [d.av] h=some (.ret (.tup [.lst sz ((zii (newL a b ea eb)).map Rt.av) c,i64 0]),h):=by
 obtain ⟨m,rfl⟩ : ∃ m,n=m+2:=⟨n-2,by omega⟩
 obtain ⟨V,h',e0,k0,n0⟩:=zwb (n:=m) (hp:=[dkC d]++[zCRs]++[errC 0]) (D:=0) (by omega) ok he R rfl
 obtain ⟨r,h3,e1,rfl,k1⟩:=zzz (m:=m) (hp:=[dkC d]) (cs:=[V]) z28 e0 n0.cells rfl (k0.get (x:=1) rfl (by simp)) (k0.get (x:=2) rfl (by simp))
 have n3:NB1 3 h3 V (zii (newL a b ea eb)):=by
  rcases n0 with n | ⟨x,ver,q1,q2,q3,q4⟩
  ·exact .inl n
  ·exact .inr ⟨x,ver,q1,q2,q3,k1.get q4 (by simp at q1 ⊢;omega)⟩
 obtain ⟨sz,c,e3,z⟩:=zxv n3
 refine ⟨sz,c,fun q=>z (fun q2=>q (List.map_eq_nil_iff.1 q2)),fun h=>?_⟩
 refine zak F43 rfl rfl rfl (by simp [zam,zbk]) ?_
 conv=>whnf
 refine clI e1 ?_
 refine ⟨rfl,[V,i64 0],rfl,?_⟩
 show Abs.frz h3 64 (.tup [V,i64 0])=_
 unfold Abs.frz
 simp only [allM,e3]
 rfl
theorem zi8 (hn:10 ≤ n) (ok:d.Ok) (he:twoE d≠0):C n 43 [d.av] h=some (.ret (.tup [.lst 0 [] true,i64 (twoE d)]),h):=by
 obtain ⟨m,rfl⟩ : ∃ m,n=m+2:=⟨n-2,by omega⟩
 obtain ⟨r,h',e0,rfl,k0⟩:=zwc (n:=m) (hp:=[dkC d]++[zCRs]++[errC 0]) (D:=0) (by omega) ok he rfl
 obtain ⟨r,h3,e1,rfl,k1⟩:=zz2 (m:=m) (hp:=[dkC d]) (cs:=zTRs) z28 e0 rfl (k0.get (x:=1) rfl (by simp)) (k0.get (x:=2) rfl (by simp))
 refine zak F43 rfl rfl rfl (by simp [zam,zbk]) ?_
 conv=>whnf
 refine clI e1 ?_
 exact ⟨rfl,_,rfl,rfl⟩
end
section
variable {n m:Nat}{h hp:zaa}{d:Dk}
end
def c128:RC :=
 (.seq (.ops [(oP 2 (.mv (.c (.lst 0 [] true))))])
 (.seq (.seq (.ops [(mV 3 0),
 ⟨some 4,none,.op (.raw { dst:=(some 4),op:=(.binOp .eql 44 (.tmp 3) (.const (.slice none 0 0)) 44),type:=4,pos := "slices.go:357",after:=#[⟨0,.data⟩],guard:=none })⟩])
 (.cond (.t 4)
 (.seq (.ops [(oP 2 (.mv (.c (.lst 0 [] true))))])
 .ret)
 .skip))
 (.seq (.ops [(oP 5 (.mkLst 1 false 0 [(.int .i64 0)] [])),(mV 6 0),(oP 7 (.app 3 1 (.t 5) (.t 6))),(mV 2 7)])
 .ret)))
theorem F128:FI 128 1 8 4 [.tmp 2] c128:=mkF Tryz.f128 Tryz.func128
def c185:RC :=
 (.seq (.ops [(oP 2 (.mv (.c (.lst 0 [] true))))])
 (.seq (.seq (.ops [(mV 3 0),
 ⟨some 4,none,.op (.raw { dst:=(some 4),op:=(.binOp .eql 43 (.tmp 3) (.const (.slice none 0 0)) 43),type:=4,pos := "slices.go:357",after:=#[⟨0,.data⟩],guard:=none })⟩])
 (.cond (.t 4)
 (.seq (.ops [(oP 2 (.mv (.c (.lst 0 [] true))))])
 .ret)
 .skip))
 (.seq (.ops [(oP 5 (.mkLst 2 true 0 [(.int .i64 0),(.str [])] [])),(mV 6 0),(oP 7 (.app 52 2 (.t 5) (.t 6))),(mV 2 7)])
 .ret)))
theorem F185:FI 185 1 8 4 [.tmp 2] c185:=mkF Tryz.f185 Tryz.func185
def c132:RC :=
 (.seq (.ops [(oP 1 (.box 46 (.t 0))),(oP 2 (.alloc 46 [(.lst 0 [] true),(.lst 0 [] true),(.lst 0 [] true)]))])
 (.seq (.draw [((oC 3 0 1),0),((oA 4 3),1),((oC 6 1 1),0),((oA 7 6),1),((oC 9 2 1),0),((oA 10 9),1),((oV 5 126 4),2),((oV 8 185 7),2),((oV 11 128 10),2),((oP 12 (.build [(.lst 0 [] true),(.lst 0 [] true),(.lst 0 [] true)] [(0,1,(.t 5)),(1,1,(.t 8)),(2,1,(.t 11))])),0),((oT 3 2 12),3)])
 .ret))
theorem F132:FI 132 1 13 4 [.cell 2 46] c132:=mkF Tryz.f132 Tryz.func132
def c182:RC :=
 (.seq (.ops [(oP 3 (.box 46 (.t 0))),(oP 6 (.alloc 46 [(.lst 0 [] true),(.lst 0 [] true),(.lst 0 [] true)])),(oP 7 (.alloc 29 [(.int .i64 0)]))])
 (.seq (.ops [⟨none,none,.dfr { callee:=.value (.func 86),args:=#[(.tmp 7)],argTypes:=#[172] }⟩])
 (.seq (.ops [(oB 11 3 3),(oP 12 (.mkLst 3 true 1 [(.lst 0 [] true),(.lst 0 [] true),(.lst 0 [] true)] [(0,3,(.t 11))])),(oV 13 87 12)])
 (.seq (.ops [(mV 14 2),(oP 15 (.lenS (.t 14))),(oJ 16 .quo 15 64),(mV 8 16)])
 (.seq (.ops [(mV 17 8),(oJ 18 .gtr 17 0),(mV 19 18),(oE 20 19 true 2),(oG 21 19 true (.lenS (.t 20))),(oG 22 19 true (.bin .rem (.t 21) (.c (.int .i64 64)))),(oG 23 19 true (.bin .eql (.t 22) (.c (.int .i64 0)))),(oN 24 19 23),(mV 25 24),(oG 26 25 true (.load true 3 (.t 3))),(oE 27 25 true 1),(oG 28 25 true (.callF 131 [(.t 26),(.t 27)])),(oN 29 25 28),(mV 30 29),(oE 31 30 true 8),(oF 32 30 true 0 3),(oD 33 30 true 32),(oG 34 30 true (.lenL (.t 33))),(oE 35 30 true 1),(oG 36 30 true (.bin .sub (.t 34) (.t 35))),(oG 37 30 true (.bin .leq (.t 31) (.t 36))),(oN 38 30 37),(oP 39 (.callF 130 [(.t 38),(.c (.int .i64 1))]))])
 (.seq (.ops [(oC 40 1 3),(oA 41 40),(oK 42 41),(mV 43 8),(oI 44 .add 42 43),(oJ 45 .leq 44 40000),(oP 46 (.callF 130 [(.t 45),(.c (.int .i64 3))]))])
 (.seq (.ops [(oB 47 3 3),(oV 48 132 47),(oP 9 (.alloc 46 [(.lst 0 [] true),(.lst 0 [] true),(.lst 0 [] true)])),(oT 3 9 48)])
 (.seq (.seq (.ops [(mV 49 8),(oH 50 0)])
 (.block 0
 (.loop
 (.seq (.ops [(oI 51 .lss 50 49)])
 (.seq (.cond (.t 51)
 .skip
 (.exit 0))
 (.seq (.block 1
 (.seq (.ops [(mV 52 50),(mV 10 52)])
 (.draw [((oC 53 1 9),0),((oA 54 53),1),((mV 55 1),0),((mV 56 10),0),((oI 57 .add 55 56),0),((mV 58 2),0),((mV 59 10),0),((oJ 60 .mul 59 64),0),((mV 61 10),0),((oJ 62 .add 61 1),0),((oJ 63 .mul 62 64),0),((oP 64 (.sliceS (.t 58) (some (.t 60)) (some (.t 63)))),1),((oP 65 (.build [(.int .i64 0),(.str [])] [(0,1,(.t 57)),(1,1,(.t 64))])),0),((oP 66 (.mkLst 2 true 1 [(.int .i64 0),(.str [])] [(0,2,(.t 65))])),0),((oP 67 (.app 52 2 (.t 54) (.t 66))),2),((oC 68 1 9),0),((oT 1 68 67),3)])))
 (.ops [(oJ 69 .add 50 1),(mV 50 69)])))))))
 (.cut (.seq (.ops [(oB 70 3 9),(oT 3 6 70),(oU (.store 1 (.t 7) (.c (.int .i64 0))))])
 .ret))))))))))
theorem F182:FI 182 3 71 7 [.cell 6 46,.cell 7 29] c182:=mkF Tryz.f182 Tryz.func182
def c158:RC :=
 (.seq (.ops [(oH 4 0)])
 (.seq (.seq (.ops [(mV 5 1),(mV 6 0),(oK 7 6),(oI 8 .geq 5 7),(mV 9 8),(oE 10 9 false 0),(oE 11 9 false 1),(oG 12 9 false (.indexAddrL 1 (.t 10) (.t 11))),(oD 13 9 false 12),(oG 14 9 false (.bin .eql (.t 13) (.c (.int .u8 255)))),(oM 15 9 14)])
 (.cond (.t 15)
 (.seq (.ops [(oH 4 64)])
 .ret)
 .skip))
 (.seq (.ops [(mV 16 0),(mV 17 1),(oS 18 1 16 17),(oA 19 18),(oP 20 (.toInt .i64 (.t 19))),(oJ 21 .rem 20 65),(mV 4 21)])
 .ret)))
theorem F158:FI 158 2 22 5 [.tmp 4] c158:=mkF Tryz.f158 Tryz.func158
def c159:RC :=
 (.seq (.ops [(oP 6 (.mv (.c (.str []))))])
 (.seq (.draw [((mV 7 1),0),((mV 8 2),0),((oP 9 (.sliceS (.t 7) none (some (.t 8)))),1),((mV 10 0),0),((mV 11 2),0),((oP 12 (.sliceS (.t 10) (some (.t 11)) none)),1),((oI 13 .add 9 12),0),((mV 6 13),0)])
 .ret))
theorem F159:FI 159 3 14 4 [.tmp 6] c159:=mkF Tryz.f159 Tryz.func159
def c88:RC :=
 (.seq (.ops [(oP 2 (.box 46 (.t 0))),(oP 4 (.alloc 46 [(.lst 0 [] true),(.lst 0 [] true),(.lst 0 [] true)]))])
 (.seq (.ops [(oC 12 0 2),(oA 13 12),(oV 14 126 13),(oP 15 (.build [(.lst 0 [] true),(.lst 0 [] true),(.lst 0 [] true)] [(0,1,(.t 14))])),(oP 5 (.alloc 46 [(.lst 0 [] true),(.lst 0 [] true),(.lst 0 [] true)])),(oT 3 5 15)])
 (.seq (.ops [(oP 16 (.mkMap)),(mV 6 16)])
 (.seq (.seq (.ops [(oC 17 1 2),(oA 18 17),(oK 19 18),(oH 20 0)])
 (.block 0
 (.loop
 (.seq (.ops [(oI 21 .lss 20 19)])
 (.seq (.cond (.t 21)
 .skip
 (.exit 0))
 (.seq (.block 1
 (.seq (.ops [(mV 22 20),(oS 23 2 18 20),(oB 24 2 23),(oP 8 (.alloc 52 [(.int .i64 0),(.str [])])),(mV 7 22),(oT 2 8 24)])
 (.seq (.ops [(mV 25 1),(mV 26 7),(oW 27 158 25 26),(mV 9 27)])
 (.seq (.draw [((oC 28 0 5),0),((oA 29 28),1),((oC 30 0 8),0),((oA 31 30),1),((oC 32 0 5),0),((oA 33 32),1),((oC 34 0 8),0),((oA 35 34),1),((oS 36 1 33 35),0),((oA 37 36),1),((oC 38 1 8),0),((oA 39 38),1),((mV 40 9),0),((oP 41 (.callF 159 [(.t 37),(.t 39),(.t 40)])),4),((oS 42 1 29 31),0),((oT 1 42 41),3)])
 (.seq (.ops [(mV 43 9),(oJ 44 .eql 43 64)])
 (.cond (.t 44)
 (.ops [(mV 45 6),(oC 46 0 8),(oA 47 46),(oU (.upd 219 (.t 45) (.t 47) (.c (.bool true))))])
 .skip))))))
 (.ops [(oJ 48 .add 20 1),(mV 20 48)])))))))
 (.cut (.seq (.seq (.ops [(oC 49 2 2),(oA 50 49),(oK 51 50),(oH 52 0)])
 (.block 2
 (.loop
 (.seq (.ops [(oI 53 .lss 52 51)])
 (.seq (.cond (.t 53)
 .skip
 (.exit 2))
 (.seq (.block 3
 (.seq (.ops [(oS 54 1 50 52),(oA 55 54),(mV 11 55)])
 (.seq (.ops [(mV 56 6),(mV 57 11),(oP 58 (.look 219 false (.t 56) (.t 57))),(oP 59 (.un .not (.t 58)))])
 (.cond (.t 59)
 (.ops [(oC 60 2 5),(oA 61 60),(mV 62 11),(oP 63 (.mkLst 1 false 1 [(.int .i64 0)] [(0,1,(.t 62))])),(oP 64 (.app 3 1 (.t 61) (.t 63))),(oC 65 2 5),(oT 1 65 64)])
 .skip))))
 (.ops [(oJ 66 .add 52 1),(mV 52 66)])))))))
 (.cut (.seq (.ops [(oB 67 3 5),(oT 3 4 67)])
 .ret))))))))
theorem F88:FI 88 2 68 7 [.cell 4 46] c88:=mkF Tryz.f88 Tryz.func88
def c51:RC :=
 (.seq (.ops [(oP 1 (.box 46 (.t 0))),(oP 2 (.alloc 46 [(.lst 0 [] true),(.lst 0 [] true),(.lst 0 [] true)]))])
 (.seq (.seq (.ops [(oB 3 3 1),(oV 4 121 3),(oJ 5 .neq 4 0)])
 (.cond (.t 5)
 (.seq (.ops [(oP 6 (.build [(.lst 0 [] true),(.lst 0 [] true),(.lst 0 [] true)] [])),(oT 3 2 6)])
 .ret)
 .skip))
 (.seq (.ops [(oB 7 3 1),(oP 8 (.callF 88 [(.t 7),(.c (.lst 0 [] true))])),(oT 3 2 8)])
 .ret)))
theorem F51:FI 51 1 9 4 [.cell 2 46] c51:=mkF Tryz.f51 Tryz.func51
def c181:RC :=
 (.seq (.ops [(oP 2 (.box 46 (.t 0))),(oP 4 (.alloc 46 [(.lst 0 [] true),(.lst 0 [] true),(.lst 0 [] true)]))])
 (.seq (.ops [(mV 5 1),(oV 6 98 5)])
 (.seq (.ops [(oB 7 3 2),(oT 3 4 7)])
 .ret)))
theorem F181:FI 181 2 8 4 [.cell 4 46] c181:=mkF Tryz.f181 Tryz.func181
def c120:RC :=
 (.ops [(mV 6 0),(mV 7 0),(oR 8 7),(oC 9 0 8),(oB 10 3 9),(mV 11 1),(mV 12 2),(oP 13 (.callF 182 [(.t 10),(.t 11),(.t 12)])),(oQ 14 13 0),(oQ 15 13 1),(oW 16 181 14 15),(oR 17 6),(oC 18 0 17),(oT 3 18 16)])
theorem F120:FI 120 3 19 5 [] c120:=mkF Tryz.f120 Tryz.func120
def c78:RC :=
 (.seq (.ops [(oP 2 (.alloc 46 [(.lst 0 [] true),(.lst 0 [] true),(.lst 0 [] true)])),(oP 3 (.alloc 29 [(.int .i64 0)]))])
 (.seq (.ops [(oP 4 (.mkFn (.func 155) [] [(.t 2),(.t 3)])),
 ⟨none,none,.dfr { callee:=.value (.tmp 4),args:=#[],argTypes:=#[] }⟩])
 (.seq (.ops [(mV 5 0),(oP 6 (.callV (.t 5) [])),(oT 3 2 6),(oU (.store 1 (.t 3) (.c (.int .i64 0))))])
 .ret)))
theorem F78:FI 78 1 7 4 [.cell 2 46,.cell 3 29] c78:=mkF Tryz.f78 Tryz.func78
def c155:RC :=
 (.seq (.ops [(oP 6 (.raw { dst:=(some 6),op:=(.call { callee:=.builtin .recover,args:=#[],argTypes:=#[] }),type:=20,pos := "file.go:40",after:=#[],guard:=none }))])
 (.block 0
 (.seq (.ops [(oP 8 (.isNilI false (.t 6)))])
 (.cond (.t 8)
 (.ops [(mV 2 6)])
 (.seq (.ops [(oP 9 (.asrt 217 true true (.t 6))),(oQ 10 9 1),(oQ 11 9 0)])
 (.cond (.t 10)
 (.seq (.ops [(oP 3 (.alloc 217 [(.int .i64 0)])),(oT 1 3 11)])
 (.seq (.ops [(oP 4 (.alloc 46 [(.lst 0 [] true),(.lst 0 [] true),(.lst 0 [] true)]))])
 (.draw [((oB 12 3 4),1),((oC 13 0 3),0),((oA 14 13),1),((oT 3 0 12),2),((oT 1 1 14),3)])))
 (.seq (.ops [(mV 5 6)])
 (.ops [(mV 7 5),
 ⟨none,none,.pan (.t 7)⟩]))))))))
def c50:RC :=
 (.seq (.ops [(oP 2 (.box 46 (.t 0))),(oP 3 (.box 79 (.t 1))),(oP 4 (.alloc 46 [(.lst 0 [] true),(.lst 0 [] true),(.lst 0 [] true)])),(oH 5 0)])
 (.seq (.ops [(oP 6 (.mkFn (.func 117) [] [(.t 2),(.t 3)])),(oV 7 78 6),(oQ 8 7 0),(oQ 9 7 1),(oT 3 4 8),(mV 5 9)])
 .ret))
theorem F50:FI 50 2 10 4 [.cell 4 46,.tmp 5] c50:=mkF Tryz.f50 Tryz.func50
def c117:RC :=
 (.seq (.ops [(oP 2 (.alloc 46 [(.lst 0 [] true),(.lst 0 [] true),(.lst 0 [] true)]))])
 (.seq (.ops [(oB 5 3 0),(oV 6 70 5),(mV 3 6)])
 (.seq (.ops [(oB 7 10 1),(oV 8 119 7),(oQ 9 8 0),(oQ 10 8 1),(oW 11 118 9 10),(mV 4 11)])
 (.seq (.draw [((oC 12 1 1),0),((oA 13 12),1),((mV 14 3),0),((oV 15 91 14),2),((oI 16 .lss 13 15),0),((oP 17 (.callF 80 [(.t 16),(.c (.int .i64 1))])),4)])
 (.seq (.ops [(mV 18 3),(oC 19 1 1),(oA 20 19),(oJ 21 .mul 20 8),(mV 22 4),(oP 23 (.callF 120 [(.t 18),(.t 21),(.t 22)]))])
 (.seq (.ops [(mV 24 3),(oR 25 24),(oC 26 0 25),(oB 27 3 26),(oT 3 2 27)])
 .ret))))))
theorem F117:FI 117 2 28 5 [.cell 2 46] c117:=mkF Tryz.f117 Tryz.func117
def c9:RC :=
 (.seq (.ops [(oP 2 (.box 46 (.t 0))),(oP 3 (.box 79 (.t 1))),(oP 4 (.mv (.c (.bool false))))])
 (.seq (.seq (.ops [(oB 19 3 2),(oV 20 21 19),(oP 21 (.un .not (.t 20))),(mV 22 21),(oG 23 22 false (.load true 10 (.t 3))),(oG 24 22 false (.mkLst 10 true 1 zPl [(0,10,(.t 23))])),(oG 25 22 false (.callF 22 [(.t 24)])),(oG 26 22 false (.un .not (.t 25))),(oM 27 22 26)])
 (.cond (.t 27)
 (.seq (.ops [(oP 28 (.callF 14 [])),(mV 4 28)])
 .ret)
 .skip))
 (.seq (.ops [(oB 30 3 2),(oB 31 10 3),(oW 32 50 30 31),(mV 29 32),(oQ 33 29 0),(oQ 34 29 1),(oP 5 (.alloc 46 [(.lst 0 [] true),(.lst 0 [] true),(.lst 0 [] true)])),(oT 3 5 33),(mV 6 34)])
 (.seq (.seq (.ops [(mV 35 6),(oJ 36 .neq 35 0)])
 (.cond (.t 36)
 (.seq (.ops [(oP 37 (.callF 14 [])),(mV 4 37)])
 .ret)
 .skip))
 (.seq (.ops [(oB 38 3 5),(oV 39 51 38),(oP 7 (.alloc 46 [(.lst 0 [] true),(.lst 0 [] true),(.lst 0 [] true)])),(oT 3 7 39)])
 (.seq (.seq (.ops [(oH 8 2)])
 (.block 0
 (.loop
 (.seq (.seq (.ops [(mV 40 8),(oC 41 0 2),(oA 42 41),(oK 43 42),(oJ 44 .quo 43 8),(oI 45 .lss 40 44)])
 (.cond (.t 45)
 .skip
 (.exit 0)))
 (.seq (.block 1
 (.seq (.ops [(oB 49 3 2),(mV 50 8),(oW 51 33 49 50),(mV 48 51),(oQ 52 48 0),(oQ 53 48 1),(oP 9 (.alloc 79 zPl)),(oT 10 9 52),(mV 10 53)])
 (.seq (.seq (.ops [(mV 54 8),(oC 55 1 3),(oA 56 55),(oI 57 .eql 54 56)])
 (.cond (.t 57)
 (.ops [(oB 58 10 3),(oT 10 9 58),(oH 10 0)])
 .skip))
 (.seq (.ops [(oB 60 3 5),(mV 61 8),(oW 62 33 60 61),(mV 59 62),(oQ 63 59 0),(oQ 64 59 1),(oP 11 (.alloc 79 zPl)),(oT 10 11 63),(mV 12 64)])
 (.seq (.ops [(oB 66 3 7),(mV 67 8),(oW 68 33 66 67),(mV 65 68),(oQ 69 65 0),(oQ 70 65 1),(oP 13 (.alloc 79 zPl)),(oT 10 13 69),(mV 14 70)])
 (.seq (.ops [(mV 71 10),(mV 72 12),(oI 73 .neq 71 72),(mV 74 73),(oE 75 74 false 10),(oE 76 74 false 14),(oG 77 74 false (.bin .neq (.t 75) (.t 76))),(oM 78 74 77),(mV 79 78),(oG 80 79 false (.load true 10 (.t 9))),(oG 81 79 false (.load true 10 (.t 11))),(oG 82 79 false (.callF 34 [(.t 80),(.t 81)])),(oG 83 79 false (.un .not (.t 82))),(oM 84 79 83),(mV 85 84),(oG 86 85 false (.load true 10 (.t 9))),(oG 87 85 false (.load true 10 (.t 13))),(oG 88 85 false (.callF 34 [(.t 86),(.t 87)])),(oG 89 85 false (.un .not (.t 88))),(oM 90 85 89)])
 (.cond (.t 90)
 (.seq (.ops [(oP 4 (.mv (.c (.bool false))))])
 .ret)
 .skip)))))))
 (.ops [(mV 46 8),(oJ 47 .add 46 1),(mV 8 47)]))))))
 (.cut (.seq (.ops [(oB 92 3 2),(oV 93 43 92),(mV 91 93),(oQ 94 91 0),(oQ 95 91 1),(mV 15 94),(mV 16 95)])
 (.seq (.ops [(oB 97 3 5),(oV 98 43 97),(mV 96 98),(oQ 99 96 0),(oQ 100 96 1),(mV 17 99),(mV 18 100)])
 (.seq (.ops [(oP 101 (.callF 14 [])),(mV 102 101),(oE 103 102 true 16),(oE 104 102 true 18),(oG 105 102 true (.bin .eql (.t 103) (.t 104))),(oN 106 102 105),(mV 107 106),(oE 108 107 true 15),(oE 109 107 true 17),(oG 110 107 true (.callF 49 [(.t 108),(.t 109)])),(oN 111 107 110),(mV 4 111)])
 .ret))))))))))
theorem F9:FI 9 2 112 7 [.tmp 4] c9:=mkF Tryz.f9 Tryz.func9
def c118:RC :=
 (.seq (.ops [(oP 4 (.mv (.c (.str []))))])
 (.seq (.ops [(mV 5 1),(oV 6 98 5)])
 (.seq (.ops [(mV 7 0),(mV 4 7)])
 .ret)))
theorem F118:FI 118 2 8 4 [.tmp 4] c118:=mkF Tryz.f118 Tryz.func118
def c22:RC :=
 (.seq (.ops [(oP 2 (.mv (.c (.bool false))))])
 (.seq (.seq (.ops [(mV 7 0),(oK 8 7),(oJ 9 .gtr 8 20)])
 (.cond (.t 9)
 (.seq (.ops [(oP 2 (.mv (.c (.bool false))))])
 .ret)
 .skip))
 (.seq (.seq (.ops [(oH 3 0)])
 (.block 0
 (.loop
 (.seq (.seq (.ops [(mV 10 3),(mV 11 0),(oK 12 11),(oI 13 .lss 10 12)])
 (.cond (.t 13)
 .skip
 (.exit 0)))
 (.seq (.block 1
 (.seq (.ops [(oH 4 0)])
 (.seq (.seq (.ops [(oH 5 0)])
 (.block 2
 (.loop
 (.seq (.seq (.ops [(mV 16 5),(mV 17 0),(mV 18 3),(oS 19 10 17 18),(oC 20 9 19),(oA 21 20),(oK 22 21),(oI 23 .lss 16 22),(mV 24 23),(oE 25 24 true 5),(oG 26 24 true (.bin .leq (.t 25) (.c (.int .i64 130)))),(oN 27 24 26)])
 (.cond (.t 27)
 .skip
 (.exit 2)))
 (.seq (.block 3
 (.ops [(mV 30 4),(oJ 31 .add 30 1),(mV 32 0),(mV 33 3),(oS 34 10 32 33),(oC 35 9 34),(oA 36 35),(mV 37 5),(oS 38 2 36 37),(oC 39 1 38),(oA 40 39),(oK 41 40),(oI 42 .add 31 41),(mV 4 42)]))
 (.ops [(mV 28 5),(oJ 29 .add 28 1),(mV 5 29)]))))))
 (.cut (.seq (.seq (.ops [(mV 43 0),(mV 44 3),(oS 45 10 43 44),(oC 46 6 45),(oA 47 46),(oK 48 47),(oJ 49 .gtr 48 60),(mV 50 49),(oE 51 50 false 4),(oG 52 50 false (.bin .gtr (.t 51) (.c (.int .i64 130)))),(oM 53 50 52),(mV 54 53),(oE 55 54 false 0),(oE 56 54 false 3),(oG 57 54 false (.indexAddrL 10 (.t 55) (.t 56))),(oF 58 54 false 8 57),(oD 59 54 false 58),(oG 60 54 false (.lenS (.t 59))),(oG 61 54 false (.bin .gtr (.t 60) (.c (.int .i64 600)))),(oM 62 54 61),(mV 63 62),(oE 64 63 false 0),(oE 65 63 false 3),(oG 66 63 false (.indexAddrL 10 (.t 64) (.t 65))),(oF 67 63 false 9 66),(oD 68 63 false 67),(oG 69 63 false (.lenL (.t 68))),(oG 70 63 false (.bin .gtr (.t 69) (.c (.int .i64 130)))),(oM 71 63 70)])
 (.cond (.t 71)
 (.seq (.ops [(oP 2 (.mv (.c (.bool false))))])
 .ret)
 .skip))
 (.seq (.ops [(oH 6 0)])
 (.block 4
 (.loop
 (.seq (.seq (.ops [(mV 72 6),(mV 73 0),(mV 74 3),(oS 75 10 73 74),(oC 76 6 75),(oA 77 76),(oK 78 77),(oI 79 .lss 72 78)])
 (.cond (.t 79)
 .skip
 (.exit 4)))
 (.seq (.block 5
 (.seq (.ops [(mV 82 0),(mV 83 3),(oS 84 10 82 83),(oC 85 6 84),(oA 86 85),(mV 87 6),(oS 88 22 86 87),(oC 89 0 88),(oA 90 89),(oP 91 (.lenS (.t 90))),(oJ 92 .gtr 91 200),(mV 93 92),(oE 94 93 false 0),(oE 95 93 false 3),(oG 96 93 false (.indexAddrL 10 (.t 94) (.t 95))),(oF 97 93 false 6 96),(oD 98 93 false 97),(oE 99 93 false 6),(oG 100 93 false (.indexAddrL 22 (.t 98) (.t 99))),(oF 101 93 false 1 100),(oD 102 93 false 101),(oG 103 93 false (.lenS (.t 102))),(oG 104 93 false (.bin .gtr (.t 103) (.c (.int .i64 200)))),(oM 105 93 104)])
 (.cond (.t 105)
 (.seq (.ops [(oP 2 (.mv (.c (.bool false))))])
 .ret)
 .skip)))
 (.ops [(mV 80 6),(oJ 81 .add 80 1),(mV 6 81)])))))))))))
 (.cut (.ops [(mV 14 3),(oJ 15 .add 14 1),(mV 3 15)])))))))
 (.cut (.seq (.ops [(oP 2 (.mv (.c (.bool true))))])
 .ret)))))
theorem F22:FI 22 1 106 7 [.tmp 2] c22:=mkF Tryz.f22 Tryz.func22
theorem zsh {n:Nat}{f:FuncId}{args:List AV}{h h':zaa}{v:AV}(hi:cfg0.inl f=true) (hlt:f<Tryz.prog.funcs.size) (hm:cfg0.mem f args h=some (v,h')):C (n+1) f args h=some (.ret v,h'):=by
 show CN _ _ _ _ _ _=_
 unfold CN zce
 simp only [hi,if_true,hm]
 rw [if_neg (Nat.not_le.2 hlt)]
def ownB (L:AV) (b:Nat):Prop:=match L with
 | .sl _ b' _ _ _=>b'=b
 | _=>False
def LB (el:TypeId) (sz:Nat) (h:zaa) (L:AV) (rows:List (List AV)):Prop :=
 (∀ r∈rows,r.length=sz ∧ r.all AV.scal=true) ∧ ((∃ k,L=.lst k [] true ∧ rows=[]) ∨ ∃ b ver fz,L=.sl sz b ver 0 rows.length ∧ h[b]?=some (.cells ver (some el) rows.flatten fz) ∧ fz ≤ rows.flatten.length)
section
variable {el sz:Nat}{h h':zaa}{L:AV}{rows:List (List AV)}
theorem LB.cells (g:LB el sz h L rows):L.scal=true ∧ L.cells?=some [L]:=by
 rcases g.2 with ⟨k,rfl,_⟩ | ⟨b,ver,fz,rfl,_⟩<;>exact ⟨rfl,rfl⟩
theorem LB.keep (g:LB el sz h L rows) (k:∀ x,x<h.length → ownB L x → h'[x]?=h[x]?):LB el sz h' L rows:=by
 refine ⟨g.1,?_⟩
 rcases g.2 with q | ⟨b,ver,fz,rfl,h2,h3⟩
 ·exact .inl q
 ·exact .inr ⟨b,ver,fz,rfl,by rw [k b (zab h2) rfl];exact h2,h3⟩
theorem LB.lt (g:LB el sz h L rows) {b:Nat}(o:ownB L b):b<h.length:=by
 rcases g.2 with ⟨k,rfl,_⟩ | ⟨b',ver,fz,rfl,h2,h3⟩
 ·exact o.elim
 ·obtain rfl:b'=b:=o
  exact zab h2
theorem LB.app {x:AV}{row:List AV}(g:LB el sz h L rows) (h1:lenA x=some 1) (h2:zav h sz 1 x=some row) (hr:row.length=sz ∧ row.all AV.scal=true) (hl:rows.length+1 ≤ 1073741824) :
  ∃ v h',appR h el sz L x=some (v,some h') ∧ LB el sz h' v (rows++[row]) ∧ h.length ≤ h'.length ∧ (∀ y,y<h.length → ¬ ownB L y → h'[y]?=h[y]?) ∧ ∀ y,ownB v y → ownB L y ∨ h.length ≤ y:=by
 have hrows:∀ r∈rows++[row],r.length=sz ∧ r.all AV.scal=true:=by
  intro r hm
  simp at hm
  rcases hm with hm | rfl
  ·exact g.1 r hm
  ·exact hr
 unfold appR
 rw [h1]
 simp only
 rw [h2]
 simp only [hr.2,Bool.not_true,Bool.false_eq_true,if_false]
 rcases g.2 with ⟨k,rfl,rfl⟩ | ⟨bb,ver,fz,rfl,g1,g3⟩
 ·simp only
  rw [if_neg (by decide)]
  have h3:zav h sz ([]:List AV).length (.lst k [] true)=some []:=by
   unfold zav
   simp
  rw [h3]
  simp only [List.length_nil,Nat.zero_add]
  rw [if_pos ⟨by decide,rfl⟩]
  exact ⟨_,_,rfl,⟨hrows,.inr ⟨h.length,0,0,rfl,by simp,Nat.zero_le _⟩⟩,by simp,fun y hy _=>List.getElem?_append_left hy,fun y o=>.inr (Nat.le_of_eq o)⟩
 ·have hf:=zev g.1
  simp only
  rw [g1]
  simp only
  rw [if_pos ⟨.inl trivial,trivial,trivial,trivial,hf.1.symm,hf.2,hl,g3⟩,if_neg (by decide)]
  refine ⟨_,_,rfl,⟨hrows,.inr ⟨bb,ver+1,fz,by simp,?_,by rw [List.flatten_append,List.length_append];omega⟩⟩,by simp,fun y hy ho=>?_,fun y o=>.inl o⟩
  ·rw [List.getElem?_set_self (zab g1)];simp
  ·rw [List.getElem?_set_ne];exact ho
theorem LB.frz1 {xs:List AV}{n:Nat}(g:LB el 1 h L (xs.map fun x=>[x])) (hx:∀ x∈xs,Abs.frz h n x=some x):∃ sh:Sh,Abs.frz h (n+1) L=some (.lst sh.sz xs sh.c) ∧ (xs≠[] → sh.sz=1):=by
 rcases g.2 with ⟨k,rfl,q⟩ | q
 ·have:xs=[]:=by simpa using q
  subst this
  exact ⟨⟨k,true⟩,rfl,fun q=>(q rfl).elim⟩
 ·exact zzu ⟨g.1,.inr q⟩ hx
theorem LB.frzR (hz:sz≠1) {n:Nat}(g:LB el sz h L rows) (ha:allM (Abs.frz h n) rows.flatten=some rows.flatten):∃ sh:Sh,Abs.frz h (n+1) L=some (.lst sh.sz (rows.map .agg) sh.c) ∧ (rows≠[] → sh.sz=sz):=by
 rcases g.2 with ⟨k,rfl,rfl⟩ | q
 ·exact ⟨⟨k,true⟩,rfl,fun q=>(q rfl).elim⟩
 ·exact zvn hz ⟨g.1,.inr q⟩ ha g.1 rfl
end
theorem z5l (l:List Wr):(l.flatMap Wr.cells)=(l.map Wr.cells).flatten:=List.flatMap_def
theorem z11 (l:List Int):(l.flatMap fun k=>[i64 k])=l.map i64:=by
 induction l with
 | nil=>rfl
 | cons a r ih=>simp [List.flatMap_cons] at ih ⊢;exact ih
abbrev tDW:Nat:=52
section
variable {n m:Nat}{h hp:zaa}
theorem zu1 (hn:1 ≤ n) (l:List Str) (hne:l≠[]) {sz:Nat}(hz:l≠[] → sz=1) (hl:l.length ≤ 1073741824) (c:Bool):∃ v h',C n 126 [.lst sz (l.map .str) c] hp=some (.ret v,h') ∧ LB tStr 1 h' v ((l.map AV.str).map fun x=>[x]) ∧ Keep hp h' [] ∧ ∀ b,ownB v b → hp.length ≤ b:=by
 obtain rfl:=hz hne
 refine ⟨_,_,zka hn l hne hl c,⟨?_,.inr ⟨hp.length,0,0,?_,?_,Nat.zero_le _⟩⟩,Keep.app _ _ _,fun b o=>Nat.le_of_eq o⟩
 ·intro r hr
  simp only [List.map_map,List.mem_map] at hr
  obtain ⟨s,_,rfl⟩:=hr
  exact ⟨rfl,rfl⟩
 ·simp
 ·rw [zad,zcp]
theorem zys (hn:1 ≤ n) (l:List Int) {sz:Nat}(hz:l≠[] → sz=1) (hl:l.length ≤ 1073741824) (c:Bool):∃ v h',C n 128 [.lst sz (l.map i64) c] hp=some (.ret v,h') ∧ LB 3 1 h' v ((l.map i64).map fun x=>[x]) ∧ Keep hp h' [] ∧ ∀ b,ownB v b → hp.length ≤ b:=by
 obtain ⟨m,rfl⟩:=pre1 n
 cases l with
 | nil=>exact ⟨_,_,zsh (by kernel_rfl) (of_decide_eq_true (by kernel_rfl)) (show cfg0.mem 128 [.lst sz [] c] hp=some (.lst 1 [] true,hp) from rfl),⟨by simp,.inl ⟨1,rfl,rfl⟩⟩,Keep.refl _ _,fun b o=>o.elim⟩
 | cons a r =>
  obtain rfl:=hz (by simp)
  have e:=zkn (f:=i64) (g:=fun k=>[i64 k]) (sz:=1) zcr (fun _=>rfl) (fun _=>rfl) hp 3 (a::r) 1 (fun _=>rfl) c (by simp) hl
  rw [z11] at e
  refine ⟨.sl 1 hp.length 0 0 (a::r).length,hp++[.cells 0 (some 3) ((a::r).map i64) 0],?_,⟨?_,.inr ⟨hp.length,0,0,?_,?_,Nat.zero_le _⟩⟩,Keep.app _ _ _,fun b o=>Nat.le_of_eq o⟩
  ·refine zat F128 rfl rfl ?_
   conv=>whnf
   refine rawI (v:=.bool false) (h':=hp) (by rfl) (by kernel_rfl) ?_
   conv=>whnf
   refine ⟨rfl,?_⟩
   conv=>whnf
   refine apI5 e ?_
   conv=>whnf
   exact ⟨rfl,_,rfl,rfl,rfl⟩
  ·intro q hq
   simp only [List.map_map,List.mem_map] at hq
   obtain ⟨s,_,rfl⟩:=hq
   exact ⟨rfl,rfl⟩
  ·simp
  ·rw [zad,zcp]
theorem zyr (hn:1 ≤ n) (l:List Wr) {sz:Nat}(hz:l≠[] → sz=2) (hl:l.length ≤ 1073741824) (c:Bool):∃ v h',C n 185 [.lst sz (l.map Wr.av) c] hp=some (.ret v,h') ∧ LB tDW 2 h' v (l.map Wr.cells) ∧ Keep hp h' [] ∧ ∀ b,ownB v b → hp.length ≤ b:=by
 obtain ⟨m,rfl⟩:=pre1 n
 cases l with
 | nil=>exact ⟨_,_,zsh (by kernel_rfl) (of_decide_eq_true (by kernel_rfl)) (show cfg0.mem 185 [.lst sz [] c] hp=some (.lst 2 [] true,hp) from rfl),⟨by simp,.inl ⟨2,rfl,rfl⟩⟩,Keep.refl _ _,fun b o=>o.elim⟩
 | cons a r =>
  obtain rfl:=hz (by simp)
  have e:=zkn (f:=Wr.av) (g:=Wr.cells) (sz:=2) zc1 (fun _=>rfl) (fun _=>rfl) hp tDW (a::r) 2 (fun _=>rfl) c (by simp) hl
  rw [z5l] at e
  refine ⟨.sl 2 hp.length 0 0 (a::r).length,hp++[.cells 0 (some tDW) ((a::r).map Wr.cells).flatten 0],?_,⟨?_,.inr ⟨hp.length,0,0,?_,?_,Nat.zero_le _⟩⟩,Keep.app _ _ _,fun b o=>Nat.le_of_eq o⟩
  ·refine zat F185 rfl rfl ?_
   conv=>whnf
   refine rawI (v:=.bool false) (h':=hp) (by rfl) (by kernel_rfl) ?_
   conv=>whnf
   refine ⟨rfl,?_⟩
   conv=>whnf
   refine apI5 e ?_
   conv=>whnf
   exact ⟨rfl,_,rfl,rfl,rfl⟩
  ·intro q hq
   obtain ⟨s,_,rfl⟩:=List.mem_map.1 hq
   exact ⟨rfl,rfl⟩
  ·simp
  ·rw [zad]
theorem fill3 {ρ:RX → Option AV}{p q r a b c:AV}{x y z:RX}(hx:ρ x=some a) (hy:ρ y=some b) (hz:ρ z=some c) (ca:a.cells?=some [a]) (cb:b.cells?=some [b]) (cc:c.cells?=some [c]):zui ρ [p,q,r] [(0,1,x),(1,1,y),(2,1,z)]=some [a,b,c]:=by
 rw [zf9,hx]
 simp only [ca]
 rw [if_pos ⟨rfl,by simp⟩,zf9,hy]
 simp only [cb]
 rw [if_pos ⟨rfl,by simp [putAt]⟩,zf9,hz]
 simp only [cc]
 rw [if_pos ⟨rfl,by simp [putAt]⟩]
 rfl
theorem agg3 {a b c:AV}(ha:a.scal=true) (hb:b.scal=true) (hc:c.scal=true):(AV.agg [a,b,c]).cells?=some [a,b,c]:=by
 simp [AV.cells?,ha,hb,hc]
structure DL (d:Dk) (h:zaa) (S W B:AV) (lo:Nat):Prop where
 s:LB tStr 1 h S ((d.secs.map AV.str).map fun x=>[x])
 w:LB tDW 2 h W (d.ws.map Wr.cells)
 b:LB 3 1 h B ((d.bad.map i64).map fun x=>[x])
 os:∀ x,ownB S x → lo ≤ x
 ow:∀ x,ownB W x → lo ≤ x
 ob:∀ x,ownB B x → lo ≤ x
 sw:∀ x,ownB S x → ¬ ownB W x
 sb:∀ x,ownB S x → ¬ ownB B x
 wb:∀ x,ownB W x → ¬ ownB B x
theorem zyq (hn:2 ≤ n) (d:Dk) (ok:d.Ok) (hr:zan d=true):∃ r h',C n 132 [d.av] hp=some (r,h') ∧ ∃ S W B,r=.ret (.agg [S,W,B]) ∧ DL d h' S W B hp.length ∧ Keep hp h' []:=by
 obtain ⟨m,rfl⟩:=pre1 n
 obtain ⟨⟨z1,z2,z3⟩,-,-,z4⟩:=rightD_iff.1 hr
 have hne:d.secs≠[]:=fun e=>by rw [e] at z1;simp at z1
 refine za0 F132 rfl rfl ?_
 conv=>whnf
 have g0:(hp++[dkC d]++[AB.cells 0 (some zc2) [.lst 0 [] true,.lst 0 [] true,.lst 0 [] true] 0])[List.length hp]?=some (dkC d):=by rw [List.getElem?_append_left (by simp)];exact zad _ _
 have q0:(hp++[dkC d]++[AB.cells 0 (some zc2) [.lst 0 [] true,.lst 0 [] true,.lst 0 [] true] 0])[List.length (hp++[dkC d])]?=some (AB.cells 0 (some zc2) [.lst 0 [] true,.lst 0 [] true,.lst 0 [] true] 0):=zad _ _
 have k0:Keep hp (hp++[dkC d]++[AB.cells 0 (some zc2) [.lst 0 [] true,.lst 0 [] true,.lst 0 [] true] 0]) []:=(Keep.app _ _ []).trans (Keep.app _ _ []) (by simp)
 have n0:(hp++[dkC d]++[AB.cells 0 (some zc2) [.lst 0 [] true,.lst 0 [] true,.lst 0 [] true] 0]).length=hp.length+2:=by simp
 generalize e0:hp++[dkC d]++[AB.cells 0 (some zc2) [.lst 0 [] true,.lst 0 [] true,.lst 0 [] true] 0]=h0 at g0 q0 k0 n0
 have eL:List.length (hp++[dkC d])=hp.length+1:=by simp
 rw [eL] at q0
 obtain ⟨S,h1,c1,l1,k1,o1⟩:=zu1 (n:=m) (hp:=h0) (by omega) d.secs hne ok.ss (by omega) d.ssh.c
 have g1:=k1.get g0 (by simp)
 obtain ⟨W,h2,c2,l2,k2,o2⟩:=zyr (n:=m) (hp:=h1) (by omega) d.ws ok.sw (by omega) d.wsh.c
 have g2:=k2.get g1 (by simp)
 obtain ⟨B,h3,c3,l3,k3,o3⟩:=zys (n:=m) (hp:=h2) (by omega) d.bad ok.sb (by have:=zkj z2 (Nat.le_refl _) fun i hi _=>z4 i hi;omega) d.bsh.c
 have g3:=k3.get g2 (by simp)
 have q3:=k3.get (k2.get (k1.get q0 (by simp)) (by simp)) (by simp)
 refine ldI g0 ?_
 conv=>whnf
 refine ldI g0 ?_
 conv=>whnf
 refine ldI g0 ?_
 conv=>whnf
 refine clI c1 ?_
 conv=>whnf
 refine ⟨⟨ldI g1 rfl,ldI g1 rfl,ldI g1 rfl⟩,?_⟩
 conv=>whnf
 refine clI c2 ?_
 conv=>whnf
 refine ⟨⟨ldI g2 rfl,ldI g2 rfl,ldI g2 rfl⟩,?_⟩
 conv=>whnf
 refine clI c3 ?_
 conv=>whnf
 refine ⟨⟨ldI g3 rfl,ldI g3 rfl,ldI g3 rfl⟩,?_⟩
 conv=>whnf
 rw [fill3 (a:=S) (b:=W) (c:=B) rfl rfl rfl l1.cells.2 l2.cells.2 l3.cells.2]
 conv=>whnf
 refine stI (xs:=[S,W,B]) (by rw [eL];exact q3) (agg3 l1.cells.1 l2.cells.1 l3.cells.1) (by rfl) (by rfl) (by rfl) ?_
 conv=>whnf
 have hs:∀ {el sz:Nat}{L:AV}{rows:List (List AV)}{ha:zaa}(g:LB el sz ha L rows) (k:Keep ha h3 []) (ho:∀ x,ownB L x → h0.length ≤ x) (y:AB),LB el sz (h3.set (List.length (hp++[dkC d])) y) L rows:=fun g k ho y=>g.keep fun x hx o=>by
  rw [List.getElem?_set_ne (by have:=ho x o;omega)]
  exact k.2 x hx (by simp)
 have k13:Keep h1 h3 []:=k2.trans k3 (by simp)
 have n1:=k1.1
 have n2:=k2.1
 refine ⟨_,zci rfl (zbl (N:=3) (t:=zc2) (by kernel_rfl) rfl (List.getElem?_set_self (by rw [eL];exact zab q3))),S,W,B,rfl,⟨hs l1 k13 o1 _,hs l2 k3 (fun x o=>Nat.le_trans n1 (o2 x o)) _,hs l3 (Keep.refl _ _) (fun x o=>Nat.le_trans n1 (Nat.le_trans n2 (o3 x o))) _,?_,?_,?_,?_,?_,?_⟩,?_⟩
 ·intro x o;have:=o1 x o;omega
 ·intro x o;have:=o2 x o;omega
 ·intro x o;have:=o3 x o;omega
 ·intro x o o';have:=l1.lt o;have:=o2 x o';omega
 ·intro x o o';have:=l1.lt o;have:=o3 x o';omega
 ·intro x o o';have:=l2.lt o;have:=o3 x o';omega
 ·exact ((k0.trans k1 (by simp)).trans k13 (by simp)).set' (.inr (by rw [eL];omega))
end
theorem z5u (s:Str):∃ (p:Page) (k:Int),∀ n,10 ≤ n → ∃ q:Page,Same p q ∧ q.Ok ∧ ∀ h,C n 162 [.str s] h=some (.ret (.tup [q.av,i64 k]),h):=by
 by_cases hx:∃ p:Page,p.Ok ∧ p.check=true ∧ p.enc=s
 ·obtain ⟨p,_,hc,rfl⟩:=hx
  refine ⟨p,0,fun n hn=>?_⟩
  obtain ⟨q,q1,q2,q3⟩:=zl2 hn hc
  exact ⟨q,q1,q2,q3⟩
 ·have hno:∀ p:Page,p.Ok → p.check=true → p.enc≠s:=fun p h1 h2 h3=>hx ⟨p,h1,h2,h3⟩
  exact ⟨zPage,8,fun n hn=>⟨zPage,Same.rfl' _,zl9,zyi hn hno⟩⟩
def RPw (d:Dk) (no:Nat) (p:Page) (e:Int):Prop:=∀ n,11 ≤ n → ∃ q:Page,Same p q ∧ q.Ok ∧ (e≠0 → q=zPage) ∧ ∀ hp w,hp[w]?=some (wriC d) → ∃ h',C n 93 [.ptr w 0 0,i64 no] hp=some (.ret (.tup [q.av,i64 e]),h') ∧ Keep hp h' []
def RP (d:Dk) (no:Int) (p:Page) (e:Int):Prop:=∀ n,14 ≤ n → ∃ q:Page,Same p q ∧ q.Ok ∧ ∀ h,C n 33 [d.av,i64 no] h=some (.ret (.tup [q.av,i64 e]),h)
theorem z0n {d:Dk}(ok:d.Ok) (hr:zan d=true) {no:Nat}(hno:no<zaq d) (hc:zbc d (no*8) 8=false):RPw d no zPage 8:=fun n hn=>by
 refine ⟨zPage,Same.rfl' _,zl9,fun _=>rfl,fun hp w hw=>?_⟩
 obtain ⟨m,rfl⟩:=pre1 n
 obtain ⟨v,h',e,rfl,k⟩:=zta (m:=m) (by omega) ok hr hno hw hc
 exact ⟨h',e,k⟩
theorem zv7 {d:Dk}(ok:d.Ok) (hr:zan d=true) {no:Nat}(hno:no<zaq d) (hc:zbc d (no*8) 8=true) {p:Page}{k:Int}(hD:∀ n,10 ≤ n → ∃ q:Page,Same p q ∧ q.Ok ∧ ∀ h,C n 162 [.str (zby d (no*8) 8)] h=some (.ret (.tup [q.av,i64 k]),h)) :
  RPw d no (if k=0 ∧ p.no=no then p else zPage) (if k=0 ∧ p.no=no then 0 else 8):=fun n hn=>by
 obtain ⟨m,rfl⟩:=pre1 n
 obtain ⟨q,s,o,cD⟩:=hD m (by omega)
 by_cases c:k=0 ∧ p.no=no
 ·rw [if_pos c,if_pos c]
  refine ⟨q,s,o,fun h=>(h rfl).elim,fun hp w hw=>?_⟩
  obtain ⟨v,h',e,rfl,kk⟩:=znr (m:=m) (by omega) ok hr hno hw hc cD rfl
  rw [if_pos ⟨c.1,by rw [s.no];exact c.2⟩] at e
  exact ⟨h',e,kk⟩
 ·rw [if_neg c,if_neg c]
  refine ⟨zPage,Same.rfl' _,zl9,fun _=>rfl,fun hp w hw=>?_⟩
  obtain ⟨v,h',e,rfl,kk⟩:=znr (m:=m) (by omega) ok hr hno hw hc cD rfl
  rw [if_neg (fun h=>c ⟨h.1,by rw [← s.no];exact h.2⟩)] at e
  exact ⟨h',e,kk⟩
theorem z07 (N no:Nat) (hno:no<N) (b:Bool) (T:Str):∃ (p:Page) (e:Int),(e≠0 → p=zPage ∧ e=8) ∧ (e=0 → p.no=no) ∧ ∀ d:Dk,d.Ok → zan d=true → zaq d=N → zbc d (no*8) 8=b → (b=true → zby d (no*8) 8=T) → RPw d no p e:=by
 cases b with
 | false=>exact ⟨zPage,8,fun _=>⟨rfl,rfl⟩,(fun h=>by cases h),fun d ok hr hN hc _=>z0n ok hr (by omega) hc⟩
 | true =>
  obtain ⟨p,k,hD⟩:=z5u T
  refine ⟨if k=0 ∧ p.no=no then p else zPage,if k=0 ∧ p.no=no then 0 else 8,?_,?_,fun d ok hr hN hc hT=>?_⟩
  ·split
   ·exact fun h=>(h rfl).elim
   ·exact fun _=>⟨rfl,rfl⟩
  ·split
   ·rename_i c;exact fun _=>c.2
   ·exact fun h=>by cases h
  ·have:=hT rfl
   subst this
   exact zv7 ok hr (by omega) hc hD
theorem zwx {d:Dk}(ok:d.Ok) (hr:zan d=true) {no:Nat}(hno:no<zaq d) (hc:zbc d (no*8) 8=true) {p:Page}(pc:p.check=true) (hn:p.no=no) (hT:zby d (no*8) 8=p.enc):RPw d no p 0:=by
 have:=zv7 ok hr hno hc (p:=p) (k:=0) fun n hn=>by
  rw [hT]
  obtain ⟨q,q1,q2,q3⟩:=zl2 hn pc
  exact ⟨q,q1,q2,q3⟩
 rwa [if_pos ⟨rfl,hn⟩,if_pos ⟨rfl,hn⟩] at this
theorem RPw.file {d:Dk}(ok:d.Ok) (hr:zan d=true) {no:Nat}(h2:2 ≤ no) (hno:no<zaq d) {p:Page}{e:Int}(g:RPw d no p e):RP d no p e:=fun n hn=>by
 obtain ⟨m,rfl⟩ : ∃ m,n=m+2:=⟨n-2,by omega⟩
 obtain ⟨q,s,o,zq,cQ⟩:=g (m-1) (by omega)
 exact ⟨q,s,o,fun h=>rpO (fun hp h0 h1=>z0o (by omega) ok hr h0 h1 (by omega) (by omega) cQ) zq⟩
theorem zr0 (N s:Nat) (hs:s<N) (b:Bool) (T:Str) (hl:T.length<1099511627776):∃ (q:Rt) (e:Int),(e≠0 → q=Rt.zero ∧ e=8) ∧ ∀ d:Dk,d.Ok → zan d=true → zaq d=N → zbc d (s*8) 1=b → (b=true → zby d (s*8) 1=T) →
  (∀ n,11 ≤ n → ∀ hp w,hp[w]?=some (wriC d) → ∃ h',C n 108 [.ptr w 0 0,i64 s] hp=some (.ret (.tup [q.av,i64 e]),h') ∧ Keep hp h' []) ∧
  (∀ n,11 ≤ n → ∀ h,C n 110 [d.av,i64 s] h=some (.ret (.agg (q.cellsE e)),h)):=by
 cases b with
 | false =>
  refine ⟨Rt.zero,8,fun _=>⟨rfl,rfl⟩,fun d ok hr hN hc _=>⟨fun n hn hp w hw=>?_,fun n hn h=>?_⟩⟩
  ·obtain ⟨m,rfl⟩:=pre1 n
   obtain ⟨v,h',e,rfl,k⟩:=zs8 (m:=m) (by omega) ok hr (by omega) hw hc
   exact ⟨h',e,k⟩
  ·obtain ⟨m,rfl⟩:=pre1 n
   exact ztk (by omega) ok hr (by omega) hc
 | true =>
  obtain ⟨q,k,cD,cE⟩:=zwv T hl
  by_cases c:k=0 ∧ q.pages ≤ N
  ·refine ⟨q,0,fun h=>(h rfl).elim,fun d ok hr hN hc hT=>?_⟩
   have:=hT rfl
   subst this
   subst hN
   refine ⟨fun n hn hp w hw=>?_,fun n hn h=>?_⟩
   ·obtain ⟨m,rfl⟩:=pre1 n
    obtain ⟨v,h',e,rfl,kk⟩:=znp (m:=m) (by omega) ok hr hs hw hc (cD m (by omega)) rfl
    rw [if_pos c] at e
    exact ⟨h',e,kk⟩
   ·obtain ⟨m,rfl⟩:=pre1 n
    have:=zn3 (m:=m) (h:=h) (by omega) ok hr hs hc (cE m (by omega)) rfl
    rwa [if_pos c] at this
  ·refine ⟨Rt.zero,8,fun _=>⟨rfl,rfl⟩,fun d ok hr hN hc hT=>?_⟩
   have:=hT rfl
   subst this
   subst hN
   refine ⟨fun n hn hp w hw=>?_,fun n hn h=>?_⟩
   ·obtain ⟨m,rfl⟩:=pre1 n
    obtain ⟨v,h',e,rfl,kk⟩:=znp (m:=m) (by omega) ok hr hs hw hc (cD m (by omega)) rfl
    rw [if_neg c] at e
    exact ⟨h',e,kk⟩
   ·obtain ⟨m,rfl⟩:=pre1 n
    have:=zn3 (m:=m) (h:=h) (by omega) ok hr hs hc (cE m (by omega)) rfl
    rwa [if_neg c] at this
theorem znx {d:Dk}(hr:zan d=true) {k:Nat}(h:k<d.secs.length):(zby d k 1).length<1099511627776:=by rw [zi1 hr (by omega)];omega
theorem z34 (d:Dk) (hr:zan d=true) (h2:2 ≤ zaq d):∃ a b ea eb,∀ c:Dk,c.Ok → zan c=true → zaq c=zaq d → (∀ x,x=0 ∨ x=8 → canD c x=canD d x ∧ curD c x=curD d x) → Rts c a b ea eb:=by
 have hz:16 ≤ d.secs.length:=by unfold zaq at h2;omega
 obtain ⟨a,ea,zA,gA⟩:=zr0 (zaq d) 0 (by omega) (zbc d (0*8) 1) (zby d (0*8) 1) (znx hr (by omega))
 obtain ⟨b,eb,zB,gB⟩:=zr0 (zaq d) 1 (by omega) (zbc d (1*8) 1) (zby d (1*8) 1) (znx hr (by omega))
 refine ⟨a,b,ea,eb,fun c ok cr hN hx=>?_⟩
 have x0:=hx 0 (.inl rfl)
 have x8:=hx 8 (.inr rfl)
 obtain ⟨a1,a2⟩:=gA c ok cr hN (by simp [zbc,x0.1]) (fun _=>by simp [zby,x0.2])
 obtain ⟨b1,b2⟩:=gB c ok cr hN (by simp [zbc,x8.1]) (fun _=>by simp [zby,x8.2])
 exact ⟨a1,b1,a2,b2,zA,zB⟩
end Go.Proofs
