/- Texts put together: Zg, Zh, Zi, Zj, Zk, Ed, Fz, Ee, Ef, Eg, Eh, Ei, Ej, Ek, El. -/
import Derived.Test.YtalaebjjleddaaaGreatFrd12
import Derived.Test.YtalaebjjleddaaaGreatFrd10
import Derived.Test.YtalaebjjleddaaaGreatFrd11
import Derived.Test.YtalaebjjleddaaaGreatFrd8
set_option linter.unusedVariables false
set_option linter.unusedSimpArgs false
namespace Go.Proofs
open Go Go.Abs
abbrev tDF:Nat:=231
abbrev zs0 (e:Nat):AV:=.ifc tDF (.agg [i64 e])
section
variable {n:Nat}{h hp:zaa}
theorem zsn (hn:1 ≤ n) (e:Nat):C n 130 [.bool true,i64 e] h=some (.ret (.tup []),h):=by
 obtain ⟨m,rfl⟩:=pre1 n
 refine zad F130 rfl rfl rfl rfl ?_
 conv=>whnf
 exact ⟨rfl,[],rfl,rfl⟩
theorem z67 (hn:1 ≤ n) (e:Nat):C n 130 [.bool false,i64 e] h=some (.pan (zs0 e),h):=by
 obtain ⟨m,rfl⟩:=pre1 n
 refine zfl F130 rfl rfl rfl rfl ?_
 conv=>whnf
 exact ⟨zs0 e,rfl,rfl⟩
theorem z0g (hn:3 ≤ n) (d:Dk) (ok:d.Ok) (hr:zau d=true) (c:Bool):C n 87 [.lst 3 [d.av] c] h=some (.ret (.tup []),h):=by
 obtain ⟨m,rfl⟩:=pre1 n
 have cK:∀ h,C m 121 [d.av] h=some (.ret (i64 (if zau d then 0 else 2)),h):=fun h=>zmc (by omega) d ok
 rw [hr] at cK
 have cN:∀ h,C m 130 [.bool true,i64 2] h=some (.ret (.tup []),h):=fun h=>zsn (by omega) 2
 refine zad F87 rfl rfl rfl (by simp [zao,AV.pureB,za1]) ?_
 conv=>whnf
 refine za3 (by decide) rfl (α:=Nat × zaa) (fun x=>⟨[(4,.lst 3 [d.av] c),(5,i64 1),(6,i64 x.1)],x.2,[]⟩) (fun x=>x.1 ≤ 1) (fun x=>1-x.1) (0,[]) ⟨⟨rfl,rfl,rfl⟩,rfl,rfl⟩ (Nat.zero_le _) (by simp only [KK];omega) ?_
 rintro ⟨j,h1⟩ g1
 simp only at g1
 obtain rfl | rfl:j=0 ∨ j=1:=by omega
 ·conv=>whnf
  refine ⟨by show (0:Int) ≤ 0;decide,rfl,d.av,rfl,d.cells,rfl,?_⟩
  conv=>whnf
  refine stJ (xs:=d.cells) (zaf _ _) ?_
  conv=>whnf
  refine ldI (zag _ _ _) ?_
  conv=>whnf
  refine clI (cK _) ?_
  conv=>whnf
  refine clI (cN _) ?_
  conv=>whnf
  refine zI (z:=1) (by rfl) ?_
  exact nxI (1,_) (Nat.le_refl _) (by show 1-1<1-0;decide) ⟨⟨rfl,rfl,rfl⟩,rfl,rfl⟩
 ·conv=>whnf
  exact ⟨rfl,[],rfl,rfl⟩
end
abbrev tErr:Nat:=29
def cRecD:RC:=match c86 with
 | .seq _ r=>r
 | _=>.skip
theorem D86:DefI 86 1 15 5 [] (some 5) [] cRecD :=
 ⟨⟨Tryz.f86,Tryz.func86,by kernel_rfl,by kernel_rfl,by kernel_rfl⟩,by kernel_rfl,by decide,by kernel_rfl,by kernel_rfl,by kernel_rfl⟩
theorem zq7:fnOk Tryz.prog 86=true:=D86.fine
section
variable {n m:Nat}{h hp:zaa}
theorem z4k {P:Nat}:∃ h',zcl Tryz.prog (C m) (zcy Tryz.prog cfg0.inl (C m)) KK 86 [.ptr P 0 0] .ret h=some (.ret,h') ∧ h'=h:=by
 refine zf5 D86 rfl ?_
 conv=>whnf
 exact ⟨rfl,⟨[],rfl⟩,rfl⟩
theorem z4l {P e:Nat}{a:AV}(hP:h[P]?=some (.cells 0 (some tErr) [a] 0)):∃ h',zcl Tryz.prog (C m) (zcy Tryz.prog cfg0.inl (C m)) KK 86 [.ptr P 0 0] (.pan (zs0 e) false) h=some (.pan (zs0 e) true,h') ∧ h'[P]?=some (.cells 0 (some tErr) [i64 e] 0):=by
 refine zf5 D86 rfl ?_
 have lP:=zab hP
 conv=>whnf
 refine stJ (xs:=[i64 e]) (zaf _ _) ?_
 conv=>whnf
 refine ldI (zag _ _ _) ?_
 conv=>whnf
 have e1:((h++[AB.cells 0 (some tDF) [i64 0] 0]).set h.length (AB.cells 0 (some tDF) (putAt [i64 0] 0 [i64 e]) 0))[P]?=some (.cells 0 (some tErr) [a] 0):=by
  rw [List.getElem?_set_ne (by omega),List.getElem?_append_left lP];exact hP
 refine stJ (xs:=[i64 e]) e1 ?_
 exact ⟨rfl,⟨[],rfl⟩,List.getElem?_set_self (zab e1)⟩
theorem zxp {ls:List Str}{j:Nat}(hj:j<ls.length):(ls.map AV.str)[j]?=some (.str ls[j]):=by simp [hj]
theorem zl4 (ls:List Str) (j:Nat):(ls.take j).flatten.length ≤ ls.flatten.length:=by
 have:ls.flatten=(ls.take j).flatten++(ls.drop j).flatten:=by rw [← List.flatten_append,List.take_append_drop]
 rw [this,List.length_append];omega
theorem zfm {ls:List Str}{j:Nat}(hj:j<ls.length):(ls.take (j+1)).flatten=(ls.take j).flatten++ls[j]:=by
 rw [zdu hj,List.flatten_append,List.flatten_singleton]
theorem z39 (hn:1 ≤ n) {b fz:Nat}{el:Option TypeId}(s:Str) (hb:hp[b]?=some (.cells 0 el [.str s] fz)):C n 204 [.sl 1 b 0 0 1,.str []] hp=some (.ret (.str s),hp):=by
 obtain ⟨m,rfl⟩:=pre1 n
 refine za7 F204 rfl rfl ?_
 conv=>whnf
 refine ⟨by show (0:Int) ≤ 0;decide,by show (0:Int)<1;decide,rfl,?_⟩
 conv=>whnf
 refine ldI hb ?_
 exact ⟨rfl,_,rfl,rfl,rfl⟩
theorem z7m (hn:4 ≤ n) {b fz:Nat}{el:Option TypeId}(ls:List Str) (h2:2 ≤ ls.length) (hne:ls.flatten≠[]) (hl:ls.flatten.length<1048576) (hls:ls.length<1048576) (hb:hp[b]?=some (.cells 0 el (ls.map .str) fz)) :
  ∃ v h',C n 204 [.sl 1 b 0 0 ls.length,.str []] hp=some (.ret v,h') ∧ v=.str ls.flatten ∧ Keep hp h' []:=by
 obtain ⟨m,rfl⟩:=pre1 n
 have hpos:0<ls.flatten.length:=List.length_pos_iff.2 hne
 refine zcn F204 rfl rfl ?_
 conv=>whnf
 refine bre (fun a=>absurd a (by omega)) (fun _=>?_)
 conv=>whnf
 refine bre (fun a=>absurd a (by omega)) (fun _=>?_)
 conv=>whnf
 refine za3 (by decide) rfl (α:=Nat) (fun j=>⟨[(0,.sl 1 b 0 0 ls.length),(1,.str []),(5,i64 (ls.take j).flatten.length),(39,.sl 1 b 0 0 ls.length),(40,i64 ls.length),(41,i64 j)],hp,[]⟩) (fun j=>j ≤ ls.length) (fun j=>ls.length-j) 0 ⟨⟨rfl,rfl,rfl,rfl,rfl,rfl⟩,rfl,rfl⟩ (Nat.zero_le _) (by simp only [KK];omega) ?_
 intro j g1
 have fl:=zl4 ls j
 conv=>whnf
 refine brd (fun a=>?_) (fun a=>?_)
 ·have hj:j<ls.length:=by omega
  have fl2:=zl4 ls (j+1)
  rw [zfm hj,List.length_append] at fl2
  conv=>whnf
  refine ⟨by omega,by omega,rfl,?_⟩
  conv=>whnf
  refine ldI hb ?_
  refine zdr (v:=.str ls[j]) (by show (ls.map AV.str)[0+(j:Int).toNat*1]?=_;rw [Nat.zero_add,Nat.mul_one,Int.toNat_natCast];exact zxp hj) ?_
  conv=>whnf
  refine zI (z:=9223372036854775807-((ls.take j).flatten.length:Int)) (zae (by omega) (by omega)) ?_
  conv=>whnf
  refine brd (fun a=>absurd a (by omega)) (fun _=>?_)
  conv=>whnf
  refine zI (z:=(((ls.take j).flatten.length+ls[j].length:Nat):Int)) (by rw [zae (by omega) (by omega)];omega) ?_
  conv=>whnf
  refine zJ j ?_
  refine nxI (j+1) hj (by omega) ⟨⟨rfl,rfl,?_,rfl,rfl,rfl⟩,rfl,rfl⟩
  rw [zfm hj,List.length_append]
  rfl
 ·have hj:j=ls.length:=by omega
  subst hj
  rw [List.take_length]
  conv=>whnf
  refine cutI (by decide) rfl (t:=⟨[(0,.sl 1 b 0 0 ls.length),(1,.str []),(5,i64 ls.flatten.length)],hp,[]⟩) ⟨⟨rfl,rfl,rfl⟩,rfl,rfl⟩ ?_
  conv=>whnf
  obtain ⟨h2',F2,e2,w2⟩:=z1w (n:=m) (hp:=hp++[AB.cells 0 (some tBld) [.nilp,.lst 0 [] true] 0]) (b:=hp.length) (by omega) (zaf _ _) ls.flatten.length (by omega) (by omega)
  have l2:hp.length<h2'.length:=by have:=w2.2.1.1;simp at this;omega
  have k2:Keep hp h2' []:=(Keep.app hp _ []).trans w2.2.1 (by simp)
  have hF2:∀ x∈F2,hp.length ≤ x:=fun x hx=>by
   rcases w2.2.2 x hx with q | q
   ·simp at q;omega
   ·simp at q;omega
  refine clI e2 ?_
  conv=>whnf
  refine ⟨by show (0:Int) ≤ 0;decide,by show (0:Int)<_;omega,rfl,?_⟩
  conv=>whnf
  refine ldI (k2.get hb (by simp)) ?_
  refine zdr (v:=.str ls[0]) (zxp (by omega)) ?_
  have fl1:=zl4 ls 1
  rw [zfm (show 0<ls.length by omega),List.length_append] at fl1
  obtain ⟨h3,F3,e3,w3⟩:=zb5 (n:=m) (by omega) w2.1 ls[0] (by simp;omega)
  conv=>whnf
  refine clI e3 ?_
  conv=>whnf
  have hsl:zcb 1 (.sl 1 b 0 0 ls.length) (some 1) none none=some (.sl 1 b 0 1 (ls.length-1)):=by
   unfold zcb
   simp only [Option.getD_some,Option.getD_none]
   rw [if_pos ⟨by omega,by omega,by omega,trivial⟩,if_neg (by omega)]
   congr 2
   omega
  refine slI hsl ?_
  conv=>whnf
  have k3:Keep hp h3 []:=k2.trans w3.2.1 (fun x hx=>.inr (hF2 x hx))
  refine za3 (by decide) rfl (α:=Nat × List Nat × zaa) (fun x=>⟨[(1,.str []),(8,.ptr hp.length 0 0),(63,.sl 1 b 0 1 (ls.length-1)),(64,i64 (ls.length-1:Nat)),(65,i64 x.1)],x.2.2,[]⟩) (fun x=>(x.1 ≤ ls.length-1 ∧ BW x.2.2 hp.length (ls.take (x.1+1)).flatten x.2.1) ∧ Keep hp x.2.2 [] ∧ ∀ y∈x.2.1,hp.length ≤ y) (fun x=>ls.length-1-x.1) (0,F3,h3) ⟨⟨rfl,rfl,rfl,rfl,rfl⟩,rfl,rfl⟩ ⟨⟨Nat.zero_le _,by rw [zfm (show 0<ls.length by omega)];exact w3.1⟩,k3,fun y hy=>?_⟩ (by show ls.length-1-0<KK;simp only [KK];omega) ?_
  ·rcases w3.2.2 y hy with q | q
   ·exact hF2 y q
   ·omega
  rintro ⟨j,G,h4⟩ ⟨⟨g1,g2⟩,g3,g4⟩
  simp only at g1 g2 g3 g4
  have fl:=zl4 ls (j+1)
  conv=>whnf
  refine brd (fun a=>?_) (fun a=>?_)
  ·have hj:j<ls.length-1:=by omega
   have hj1:j+1<ls.length:=by omega
   have fl2:=zl4 ls (j+1+1)
   rw [zfm hj1,List.length_append] at fl2
   obtain ⟨h5,F5,e5,w5⟩:=zb5 (n:=m) (by omega) g2 [] (by rw [List.length_nil];omega)
   rw [List.append_nil] at w5
   obtain ⟨h6,F6,e6,w6⟩:=zb5 (n:=m) (by omega) w5.1 ls[j+1] (by omega)
   rw [← zfm hj1] at w6
   conv=>whnf
   refine ⟨by omega,by omega,rfl,?_⟩
   conv=>whnf
   refine ldI (g3.get hb (by simp)) ?_
   refine zdr (v:=.str ls[j+1]) (by show (ls.map AV.str)[1+(j:Int).toNat*1]?=_;rw [Nat.mul_one,Int.toNat_natCast,Nat.add_comm];exact zxp hj1) ?_
   conv=>whnf
   refine clI e5 ?_
   conv=>whnf
   refine clI e6 ?_
   conv=>whnf
   refine zJ j ?_
   have k5:Keep hp h5 []:=g3.trans w5.2.1 (fun x hx=>.inr (g4 x hx))
   have f5:∀ y∈F5,hp.length ≤ y:=fun y hy=>(w5.2.2 y hy).elim (g4 y) fun q=>Nat.le_trans g3.1 q
   refine nxI (j+1,F6,h6) ⟨⟨by simp only;omega,w6.1⟩,k5.trans w6.2.1 (fun x hx=>.inr (f5 x hx)),fun y hy=>(w6.2.2 y hy).elim (f5 y) fun q=>Nat.le_trans k5.1 q⟩ (by simp only;omega) ⟨⟨rfl,rfl,rfl,rfl,rfl⟩,rfl,rfl⟩
  ·have hj:j+1=ls.length:=by omega
   rw [hj,List.take_length] at g2
   obtain ⟨h5,e5,w5⟩:=zg4 (n:=m) (by omega) g2 hne (by omega)
   conv=>whnf
   refine cutI (by decide) rfl (t:=⟨[(8,.ptr hp.length 0 0)],h4,[]⟩) ⟨rfl,rfl,rfl⟩ ?_
   conv=>whnf
   refine clI e5 ?_
   exact ⟨rfl,_,rfl,rfl,g3.trans w5.2.1 (fun x hx=>.inr (g4 x hx))⟩
end
theorem apI5 {h:zaa}{e:TypeId}{sz:Nat}{a b v:AV}{h':zaa}{K:AV → zaa → Prop}(h1:appR h e sz a b=some (v,some h')) (h2:K v h'):∃ r,appR h e sz a b=r ∧ WpA K h r:=⟨_,h1,h2⟩
theorem z1h {α:Type}{f:α → AV}{g:α → List AV}{sz:Nat}(hc:∀ a,(f a).cells?=some (g a)) (hg:∀ a,(g a).length=sz) (hs:∀ a,(g a).all AV.scal=true) (h:zaa) (el:TypeId) (l:List α) (sz':Nat) (hz:l≠[] → sz'=sz) (c:Bool) (hne:l≠[]) (hl:l.length ≤ 1073741824) :
  appR h el sz (.lst sz [] true) (.lst sz' (l.map f) c)=some (.sl sz h.length 0 0 l.length,some (h++[.cells 0 (some el) (l.flatMap g) 0])):=by
 have hn:l.length≠0:=fun e=>hne (List.length_eq_zero_iff.1 e)
 obtain rfl:=hz hne
 have h5:(l.flatMap g).all AV.scal=true:=by
  rw [List.all_eq_true];intro x hx
  obtain ⟨a,_,ha⟩:=List.mem_flatMap.1 hx
  exact List.all_eq_true.1 (hs a) x ha
 unfold appR
 have h1:lenA (.lst sz' (l.map f) c)=some l.length:=by simp [lenA]
 rw [h1]
 simp only
 have h3:zbc h sz' l.length (.lst sz' (l.map f) c)=some (l.flatMap g):=by
  unfold zbc
  simp only [List.length_map]
  rw [if_pos ⟨Nat.le_refl _,.inl trivial⟩]
  have h1:(l.map f).take l.length=l.map f:=List.take_of_length_le (by simp)
  rw [h1]
  have h2:(l.map f).map AV.cells?=l.map fun e=>some (g e):=by rw [List.map_map];exact List.map_congr_left fun a _=>hc a
  rw [h2]
  rw [if_pos (by rw [List.all_eq_true];intro x hx;obtain ⟨e,_,rfl⟩:=List.mem_map.1 hx;simp [hg])]
  congr 1
  rw [List.flatMap_map]
  rfl
 rw [h3]
 simp only
 rw [if_neg (by simp [h5]),if_neg hn]
 have h2:zbc h sz' ([]:List AV).length (.lst sz' [] true)=some []:=by simp [zbc]
 rw [h2]
 simp only
 rw [if_pos ⟨by simpa using hl,rfl⟩]
 simp
theorem z0i (l:List Str):(l.flatMap fun s=>[AV.str s])=l.map .str:=by
 induction l with
 | nil=>rfl
 | cons a r ih=>simp [List.flatMap_cons] at ih ⊢;exact ih
theorem sl_lh {α:Type}(f:α → AV) (l:List α) {sz sz':Nat}(hz:l≠[] → sz'=sz) (c:Bool) (k u:Nat) (hk:k ≤ u) (hu:u ≤ l.length) :
  zcb sz (.lst sz' (l.map f) c) (some (k:Int)) (some (u:Int)) none=some (.lst sz (((l.take u).drop k).map f) (sz != 0&&(c&&((u:Int)==(l.length:Nat))))):=by
 unfold zcb
 simp only [Option.getD_some,List.length_map]
 rw [if_pos ⟨by omega,by omega,by omega,by by_cases e:l=[];exact .inr (by simp [e]);exact .inl (hz e)⟩]
 simp [List.map_take,List.map_drop]
abbrev tStr:Nat:=9
section
variable {n:Nat}{h hp:zaa}
theorem z07 (hn:1 ≤ n) (l:List Str) (hne:l≠[]) (hl:l.length ≤ 1073741824) (c:Bool):C n 126 [.lst 1 (l.map .str) c] hp=some (.ret (.sl 1 hp.length 0 0 l.length),hp++[.cells 0 (some tStr) (l.map .str) 0]):=by
 obtain ⟨m,rfl⟩:=pre1 n
 obtain ⟨a,r,rfl⟩ : ∃ a r,l=a::r:=by cases l with | nil=>exact (hne rfl).elim | cons a r=>exact ⟨a,r,rfl⟩
 refine za7 F126 rfl rfl ?_
 conv=>whnf
 refine rawI (v:=.bool false) (h':=hp) (by rfl) (by kernel_rfl) ?_
 conv=>whnf
 refine ⟨rfl,?_⟩
 conv=>whnf
 have e:=z1h (f:=AV.str) (g:=fun s=>[AV.str s]) (sz:=1) ziu (fun _=>rfl) (fun _=>rfl) hp tStr (a::r) 1 (fun _=>rfl) c hne hl
 rw [z0i] at e
 refine apI5 e ?_
 conv=>whnf
 exact ⟨rfl,_,rfl,rfl,rfl⟩
end
theorem zql {α:Type}{f:α → AV}{l:List α}{i:Nat}{a:α}(hi:i<l.length):putAt (l.map f) i [f a]=(l.set i a).map f:=by
 unfold putAt
 apply List.ext_getElem?
 intro j
 rw [List.getElem?_map,List.getElem?_set]
 simp only [List.length_singleton,List.append_assoc]
 rcases Nat.lt_trichotomy j i with q | q | q
 ·rw [if_neg (by omega),List.getElem?_append_left (by simp;omega),List.getElem?_take,if_pos q,List.getElem?_map]
 ·subst q
  rw [if_pos rfl,if_pos hi,List.getElem?_append_right (by simp;omega)]
  simp [Nat.min_eq_left (Nat.le_of_lt hi)]
 ·rw [if_neg (by omega),List.getElem?_append_right (by simp;omega)]
  simp only [List.length_take,List.length_map,Nat.min_eq_left (Nat.le_of_lt hi)]
  rw [List.getElem?_append_right (by simp;omega)]
  simp only [List.length_singleton,List.getElem?_drop,List.getElem?_map]
  rw [show i+1+(j-i-1)=j by omega]
abbrev errC (e:Nat):AB:=.cells 0 (some tErr) [i64 e] 0
theorem zh2 {h:zaa}{b:Nat}{v:AV}(hb:h[b]?=some (.cells 0 (some tErr) [v] 0)):zce Tryz.prog h tErr (.ptr b 0 0)=some v:=zks (N:=1) (by kernel_rfl) hb
abbrev dfD (b:Nat):List DI:=[.fn 86 [.ptr b 0 0]]
section
variable {n m:Nat}{h hp:zaa}
abbrev TQ (m:Nat) (s:Str) (e:Nat):Ex → LS → Prop:=EndQ Tryz.prog (C m) cfg0.inl [.tmp 6,.cell 7 tErr] (OutR (.ret (.tup [.str s,i64 e])))
theorem z27 {L:LT}{s:Str}{e:Nat}(h6:lk L 6=some (.str s)) (h7:lk L 7=some (.ptr 1 0 0)) (h1:h[1]?=some (errC e)):TQ m s e .ret ⟨L,h,dfD 1⟩:=by
 obtain ⟨h',e1,rfl⟩:=z4k (m:=m) (h:=h) (P:=1)
 refine ⟨zq7,_,h',e1,[.str s,i64 e],?_,_,rfl,rfl⟩
 simp only [zcg,h6,h7,zh2 h1]
theorem z28 {L:LT}{s:Str}{e a:Nat}(h6:lk L 6=some (.str s)) (h7:lk L 7=some (.ptr 1 0 0)) (h1:h[1]?=some (errC a)):TQ m s e (.pan (zs0 e)) ⟨L,h,dfD 1⟩:=by
 obtain ⟨h',e1,g⟩:=z4l (m:=m) (h:=h) (P:=1) (e:=e) h1
 refine ⟨zq7,_,h',e1,[.str s,i64 e],?_,_,rfl,rfl⟩
 simp only [zcg,h6,h7,zh2 g]
structure RH (d:Dk) (k m j:Nat) (h:zaa):Prop where
 d0:h[0]?=some (dkC d)
 d1:h[1]?=some (errC 0)
 d2:h[2]?=some (.cells 0 (some tStr) ((nowL d k m j).map .str) 0)
 d3:h[3]?=some (.cells 0 (some 4) ((frL d k m j).map .bool) 0)
theorem RH.lt {d:Dk}{k m j:Nat}{h:zaa}(a:RH d k m j h):3<h.length:=zab a.d3
theorem RH.app {d:Dk}{k m j:Nat}{h:zaa}(a:RH d k m j h) (x y:AB):RH d k m j ((h++[x]).set h.length y):=by
 have l:=a.lt
 have g:∀ i,i ≤ 3 → ((h++[x]).set h.length y)[i]?=h[i]?:=fun i hi=>by rw [List.getElem?_set_ne (by omega),List.getElem?_append_left (by omega)]
 exact ⟨by rw [g 0 (by omega)];exact a.d0,by rw [g 1 (by omega)];exact a.d1,by rw [g 2 (by omega)];exact a.d2,by rw [g 3 (by omega)];exact a.d3⟩
theorem zvu (d:Dk) (ok:d.Ok) (hr:zau d=true) (k m':Nat) (hk:k+m' ≤ d.secs.length) {Q:Ex → LS → Prop}{s:LS}(h0:zaa) (g0:RH d k m' 0 h0)
  (hs:LS.sub ⟨[(1,i64 k),(2,i64 m'),(3,.ptr 0 0 0),(6,.str []),(7,.ptr 1 0 0),(8,.sl 1 2 0 0 m'),(9,.sl 1 3 0 0 m'),(53,wsA d),(54,i64 d.ws.length),(55,i64 0)],h0,dfD 1⟩ s)
  (hE:∀ L h,RH d k m' d.ws.length h → subL [(1,i64 k),(2,i64 m'),(3,.ptr 0 0 0),(6,.str []),(7,.ptr 1 0 0),(8,.sl 1 2 0 0 m'),(9,.sl 1 3 0 0 m')] L → Q (.exit 0) ⟨L,h,dfD 1⟩) :
  OkR Tryz.prog (C m) cfg0.inl KK 106 7 (.loop (c161.lp 0)) s Q:=by
 have hz:=rightD_iff.1 hr
 refine za3 (by decide) rfl (α:=Nat × zaa) (fun x=>⟨[(1,i64 k),(2,i64 m'),(3,.ptr 0 0 0),(6,.str []),(7,.ptr 1 0 0),(8,.sl 1 2 0 0 m'),(9,.sl 1 3 0 0 m'),(53,wsA d),(54,i64 d.ws.length),(55,i64 x.1)],x.2,dfD 1⟩) (fun x=>x.1 ≤ d.ws.length ∧ RH d k m' x.1 x.2) (fun x=>d.ws.length-x.1) (0,h0) hs ⟨Nat.zero_le _,g0⟩ (by simp only [KK];omega) ?_
 rintro ⟨j,hp⟩ ⟨g1,g2⟩
 simp only at g1 g2
 conv=>whnf
 refine brd (fun a=>?_) (fun a=>?_)
 ·have hj:j<d.ws.length:=by omega
  have hw:=hz.2.2.1 _ (List.getElem_mem hj)
  unfold wrOk at hw
  simp only [Bool.and_eq_true,decide_eq_true_eq] at hw
  conv=>whnf
  refine ixL zey hj ok.sw ?_
  conv=>whnf
  refine stJ (xs:=d.ws[j].cells) (zaf _ _) ?_
  have g3:=g2.app (.cells 0 (some 52) [.int .i64 0,.str []] 0) (.cells 0 (some 52) (putAt [.int .i64 0,.str []] 0 d.ws[j].cells) 0)
  have gl:=zag hp (.cells 0 (some 52) [.int .i64 0,.str []] 0) (.cells 0 (some 52) (putAt [.int .i64 0,.str []] 0 d.ws[j].cells) 0)
  have nl:3<hp.length:=g2.lt
  conv=>whnf
  refine ldI gl ?_
  by_cases hc:∃ i,i<m' ∧ d.ws[j].sec=((k+i:Nat):Int)
  ·obtain ⟨i,hi,e⟩:=hc
   conv=>whnf
   refine zI (z:=(i:Int)) (by rw [zae (by omega) (by omega)];omega) ?_
   conv=>whnf
   refine brd (fun _=>?_) (fun a=>absurd hi (by omega))
   conv=>whnf
   refine ldI gl ?_
   conv=>whnf
   refine ⟨by omega,by omega,rfl,?_⟩
   conv=>whnf
   refine stI (xs:=[.str d.ws[j].data]) g3.d2 (by rfl) (by rfl) (by rw [Nat.ble_eq,List.length_map,zb8];simp;omega) (by rfl) ?_
   conv=>whnf
   refine ⟨by omega,by omega,rfl,?_⟩
   conv=>whnf
   refine stI (xs:=[.bool true]) (by rw [List.getElem?_set_ne (by decide)];exact g3.d3) (by rfl) (by rfl) (by rw [Nat.ble_eq,List.length_map,zf0];simp;omega) (by rfl) ?_
   conv=>whnf
   refine zJ j ?_
   have l3:=g3.lt
   refine nxI (j+1,_) ⟨hj,?_,?_,?_,?_⟩ (by simp only;omega) ⟨⟨rfl,rfl,rfl,rfl,rfl,rfl,rfl,rfl,rfl,rfl⟩,rfl,rfl⟩
   ·rw [List.getElem?_set_ne (by decide),List.getElem?_set_ne (by decide)];exact g3.d0
   ·rw [List.getElem?_set_ne (by decide),List.getElem?_set_ne (by decide)];exact g3.d1
   ·rw [List.getElem?_set_ne (by decide),List.getElem?_set_self (zab g3.d2),z3o hj e,← zql (by rw [zb8];exact hi)]
    simp
   ·rw [List.getElem?_set_self (by rw [List.length_set];exact l3),z7u hj e,← zql (by rw [zf0];exact hi)]
    simp
  ·have hno:∀ i,i<m' → d.ws[j].sec≠((k+i:Nat):Int):=fun i hi e=>hc ⟨i,hi,e⟩
   have e1:=zzh hj hno
   have e2:=z4d hj hno
   have nx:RH d k m' (j+1) ((hp++[AB.cells 0 (some 52) [.int .i64 0,.str []] 0]).set hp.length (AB.cells 0 (some 52) (putAt [.int .i64 0,.str []] 0 d.ws[j].cells) 0)):=⟨g3.d0,g3.d1,by rw [e1];exact g3.d2,by rw [e2];exact g3.d3⟩
   conv=>whnf
   refine zI (z:=d.ws[j].sec-(k:Int)) (zae (by omega) (by omega)) ?_
   conv=>whnf
   refine brd (fun a=>?_) (fun a=>?_)
   ·conv=>whnf
    refine brd (fun a2=>absurd (hno (d.ws[j].sec-k).toNat (by omega)) (by simp;omega)) (fun a2=>?_)
    conv=>whnf
    refine zJ j ?_
    exact nxI (j+1,_) ⟨hj,nx⟩ (by simp only;omega) ⟨⟨rfl,rfl,rfl,rfl,rfl,rfl,rfl,rfl,rfl,rfl⟩,rfl,rfl⟩
   ·conv=>whnf
    refine zJ j ?_
    exact nxI (j+1,_) ⟨hj,nx⟩ (by simp only;omega) ⟨⟨rfl,rfl,rfl,rfl,rfl,rfl,rfl,rfl,rfl,rfl⟩,rfl,rfl⟩
 ·have hj:j=d.ws.length:=by omega
  subst hj
  conv=>whnf
  exact hE _ _ g2 ⟨rfl,rfl,rfl,rfl,rfl,rfl,rfl⟩
theorem fr_get {d:Dk}{k m j i:Nat}(hi:i<m):((frL d k m j).map AV.bool)[i]?=some (.bool (frW (d.ws.take j) ((k+i:Nat):Int))):=by
 rw [List.getElem?_map,List.getElem?_eq_getElem (by rw [zf0];exact hi),z0f]
 rfl
theorem zvt (hm:1 ≤ m) (d:Dk) (ok:d.Ok) (hr:zau d=true) (k m':Nat) (hk:k+m' ≤ d.secs.length) {Q:Ex → LS → Prop}{s:LS}(h0:zaa) (g0:RH d k m' d.ws.length h0)
  (hs:LS.sub ⟨[(1,i64 k),(2,i64 m'),(6,.str []),(7,.ptr 1 0 0),(8,.sl 1 2 0 0 m'),(9,.sl 1 3 0 0 m'),(80,badA d),(81,i64 d.bad.length),(82,i64 0)],h0,dfD 1⟩ s)
  (hE:zcs d k m'=true → ∀ L,subL [(7,.ptr 1 0 0),(8,.sl 1 2 0 0 m')] L → Q (.exit 2) ⟨L,h0,dfD 1⟩) (hP:zcs d k m'=false → ∀ L,lk L 6=some (.str []) → lk L 7=some (.ptr 1 0 0) → Q (.pan (zs0 8)) ⟨L,h0,dfD 1⟩) :
  OkR Tryz.prog (C m) cfg0.inl KK 106 7 (.loop (c161.lp 1)) s Q:=by
 obtain ⟨⟨z1,z2,z3⟩,-,-,z4⟩:=rightD_iff.1 hr
 have hb:d.bad.length ≤ 32768:=ztf z2 (Nat.le_refl _) fun i hi _=>z4 i hi
 have cN:∀ h,C m 130 [.bool true,i64 8] h=some (.ret (.tup []),h):=fun h=>zsn hm 8
 have cP:∀ h,C m 130 [.bool false,i64 8] h=some (.pan (zs0 8),h):=fun h=>z67 hm 8
 refine za3 (by decide) rfl (α:=Nat) (fun j=>⟨[(1,i64 k),(2,i64 m'),(6,.str []),(7,.ptr 1 0 0),(8,.sl 1 2 0 0 m'),(9,.sl 1 3 0 0 m'),(80,badA d),(81,i64 d.bad.length),(82,i64 j)],h0,dfD 1⟩) (fun j=>j ≤ d.bad.length ∧ ∀ i (hi:i<d.bad.length),i<j → d.bad[i]<k ∨ (k+m':Nat) ≤ d.bad[i] ∨ frW d.ws d.bad[i]=true) (fun j=>d.bad.length-j) 0 hs ⟨Nat.zero_le _,fun i _ hi=>absurd hi (Nat.not_lt_zero _)⟩ (by simp only [KK];omega) ?_
 rintro j ⟨g1,g2⟩
 conv=>whnf
 refine brd (fun a=>?_) (fun a=>?_)
 ·have hj:j<d.bad.length:=by omega
  have hbj:=z4 j hj
  unfold zdn at hbj
  rw [zly hj] at hbj
  simp only [Bool.and_eq_true,decide_eq_true_eq] at hbj
  have nx:(d.bad[j]<k ∨ (k+m':Nat) ≤ d.bad[j] ∨ frW d.ws d.bad[j]=true) → ∀ i (hi:i<d.bad.length),i<j+1 → d.bad[i]<k ∨ (k+m':Nat) ≤ d.bad[i] ∨ frW d.ws d.bad[i]=true:=fun e i hi hi2=>by
   by_cases c:i=j
   ·subst c;exact e
   ·exact g2 i hi (by omega)
  conv=>whnf
  refine ixL zeu hj ok.sb ?_
  by_cases hc:∃ i,i<m' ∧ d.bad[j]=((k+i:Nat):Int)
  ·obtain ⟨i,hi,e⟩:=hc
   conv=>whnf
   refine zI (z:=(i:Int)) (by rw [zae (by omega) (by omega)];omega) ?_
   conv=>whnf
   refine brd (fun a=>absurd hi (by omega)) (fun _=>?_)
   conv=>whnf
   refine ⟨by omega,by omega,rfl,?_⟩
   conv=>whnf
   refine ldI g0.d3 ?_
   refine zdr (v:=.bool (frW d.ws d.bad[j])) (by show ((frL d k m' d.ws.length).map AV.bool)[0+(i:Int).toNat*1]?=_;rw [Nat.zero_add,Nat.mul_one,Int.toNat_natCast,fr_get hi,List.take_length,e]) ?_
   cases hf:frW d.ws d.bad[j] with
   | true =>
    conv=>whnf
    refine clI (cN _) ?_
    conv=>whnf
    refine zJ j ?_
    exact nxI (j+1) ⟨hj,nx (.inr (.inr hf))⟩ (by omega) ⟨⟨rfl,rfl,rfl,rfl,rfl,rfl,rfl,rfl,rfl⟩,rfl,rfl⟩
   | false =>
    conv=>whnf
    refine clP (cP _) ?_
    conv=>whnf
    exact hP (z8c hj (by omega) (by omega) hf) _ rfl rfl
  ·have hno:∀ i,i<m' → d.bad[j]≠((k+i:Nat):Int):=fun i hi e=>hc ⟨i,hi,e⟩
   conv=>whnf
   refine zI (z:=d.bad[j] - (k:Int)) (zae (by omega) (by omega)) ?_
   conv=>whnf
   refine brd (fun a=>?_) (fun a=>?_)
   ·conv=>whnf
    refine clI (cN _) ?_
    conv=>whnf
    refine zJ j ?_
    exact nxI (j+1) ⟨hj,nx (.inl (by omega))⟩ (by omega) ⟨⟨rfl,rfl,rfl,rfl,rfl,rfl,rfl,rfl,rfl⟩,rfl,rfl⟩
   ·conv=>whnf
    refine brd (fun a2=>?_) (fun a2=>absurd (hno (d.bad[j] - k).toNat (by omega)) (by simp;omega))
    conv=>whnf
    refine clI (cN _) ?_
    conv=>whnf
    refine zJ j ?_
    exact nxI (j+1) ⟨hj,nx (.inr (.inl (by omega)))⟩ (by omega) ⟨⟨rfl,rfl,rfl,rfl,rfl,rfl,rfl,rfl,rfl⟩,rfl,rfl⟩
 ·conv=>whnf
  exact hE (z75 fun i hi=>g2 i hi (by omega)) _ ⟨rfl,rfl⟩
end
section
variable {n:Nat}{h:zaa}
theorem zyk (m:Nat):rep m [AV.bool false]=(List.replicate m false).map .bool:=by
 induction m with
 | zero=>rfl
 | succ m ih=>rw [List.replicate_succ,List.map_cons,← ih];rfl
theorem zkx (hn:6 ≤ n) (d:Dk) (ok:d.Ok) (hr:zau d=true) (k m':Nat) (hm:1 ≤ m') (hm8:m' ≤ 1000) (hk:k+m' ≤ d.secs.length):C n 161 [d.av,i64 k,i64 m'] h=some (.ret (.tup (zht d k m')),h):=by
 obtain ⟨m,rfl⟩:=pre1 n
 have hz:=(rightD_iff.1 hr).1
 have e1:(d.secs.map AV.str).length=d.secs.length:=List.length_map ..
 have cN:∀ h,C m 130 [.bool true,i64 1] h=some (.ret (.tup []),h):=fun h=>zsn (by omega) 1
 have hT:zdt d k m'=(nowL d k m' d.ws.length).flatten:=(zzg d k m').symm
 have hl:=zk3 hr hk
 have eS:∃ s e,zht d k m'=[.str s,i64 (e:Nat)] ∧ (zcs d k m'=true → s=zdt d k m' ∧ e=0) ∧ (zcs d k m'=false → s=[] ∧ e=8):=by
  unfold zht
  cases zcs d k m' with
  | true=>exact ⟨_,0,rfl,fun _=>⟨rfl,rfl⟩,fun h=>by cases h⟩
  | false=>exact ⟨_,8,rfl,(fun h=>by cases h),fun _=>⟨rfl,rfl⟩⟩
 obtain ⟨s,e,eR,eY,eN⟩:=eS
 rw [eR]
 refine zfl F161 rfl rfl rfl (by simp [zao,za1,AV.pureB]) ?_
 conv=>whnf
 refine ⟨rfl,.fn 86 [.ptr 1 0 0],by kernel_rfl,?_⟩
 conv=>whnf
 refine ldI rfl ?_
 conv=>whnf
 refine ⟨rfl,?_⟩
 conv=>whnf
 refine clI (z0g (by omega) d ok hr _) ?_
 conv=>whnf
 refine brd (fun _=>?_) (fun a=>absurd hm (by omega))
 conv=>whnf
 refine ldI rfl ?_
 conv=>whnf
 refine brd (fun _=>?_) (fun a=>absurd hm (by omega))
 conv=>whnf
 refine ldI rfl ?_
 conv=>whnf
 refine zI (z:=((d.secs.length-k:Nat):Int)) (by rw [e1,zae (by omega) (by omega)];omega) ?_
 conv=>whnf
 rw [show decide ((m':Int) ≤ ((d.secs.length-k:Nat):Int))=true by rw [decide_eq_true_iff];omega]
 refine clI (cN _) ?_
 conv=>whnf
 refine ldI rfl ?_
 conv=>whnf
 refine zI (z:=((k+m':Nat):Int)) (by rw [zae (by omega) (by omega)];rfl) ?_
 conv=>whnf
 refine slI (sl_lh AV.str d.secs ok.ss d.ssh.c k (k+m') (by omega) hk) ?_
 conv=>whnf
 rw [← zzf hk]
 refine clI (z07 (by omega) (nowL d k m' 0) (fun e=>by have:=congrArg List.length e;rw [zb8] at this;simp at this;omega) (by rw [zb8];omega) _) ?_
 rw [zb8]
 conv=>whnf
 refine ⟨by omega,by omega,by omega,?_⟩
 conv=>whnf
 refine ldI rfl ?_
 conv=>whnf
 refine zvu d ok hr k m' hk _ ⟨rfl,rfl,rfl,?_⟩ ⟨⟨rfl,rfl,rfl,rfl,rfl,rfl,rfl,rfl,lenI Wr.av _,rfl⟩,rfl,rfl⟩ (fun L h1 g1 hL=>?_)
 ·show some (AB.cells 0 (some 4) (rep (m':Int).toNat [AV.bool false]) 0)=_
  rw [Int.toNat_natCast,zyk,z4c]
 conv=>whnf
 refine cutI (by decide) rfl (t:=⟨[(1,i64 k),(2,i64 m'),(3,.ptr 0 0 0),(6,.str []),(7,.ptr 1 0 0),(8,.sl 1 2 0 0 m'),(9,.sl 1 3 0 0 m')],h1,dfD 1⟩) ⟨hL,rfl,rfl⟩ ?_
 conv=>whnf
 refine ldI g1.d0 ?_
 conv=>whnf
 refine zvt (by omega) d ok hr k m' hk _ g1 ⟨⟨rfl,rfl,rfl,rfl,rfl,rfl,rfl,lenI i64 _,rfl⟩,rfl,rfl⟩ (fun hc L hL=>?_) (fun hc L h6 h7=>?_)
 ·obtain ⟨rfl,rfl⟩:=eY hc
  conv=>whnf
  refine cutI (by decide) rfl (t:=⟨[(7,.ptr 1 0 0),(8,.sl 1 2 0 0 m')],h1,dfD 1⟩) ⟨hL,rfl,rfl⟩ ?_
  conv=>whnf
  have hne:(nowL d k m' d.ws.length).flatten≠[]:=fun e=>by rw [← hT] at e;rw [e] at hl;simp at hl;omega
  have hj:∃ v h2,C m 204 [.sl 1 2 0 0 m',.str []] h1=some (.ret v,h2) ∧ v=.str (zdt d k m') ∧ Keep h1 h2 []:=by
   rcases Nat.lt_or_ge m' 2 with q | q
   ·have q1:m'=1:=by omega
    subst q1
    obtain ⟨x,hx⟩ : ∃ x,nowL d k 1 d.ws.length=[x]:=List.length_eq_one_iff.1 (zb8 ..)
    have g2:=g1.d2
    rw [hx] at g2
    refine ⟨_,_,z39 (by omega) x g2,?_,Keep.refl _ _⟩
    rw [hT,hx]
    simp
   ·have:=z7m (n:=m) (hp:=h1) (b:=2) (fz:=0) (el:=some tStr) (by omega) (nowL d k m' d.ws.length) (by rw [zb8];exact q) hne (by rw [← hT,hl];omega) (by rw [zb8];omega) g1.d2
    rw [zb8,← hT] at this
    exact this
  obtain ⟨v,h2,e2,rfl,k2⟩:=hj
  refine clI e2 ?_
  conv=>whnf
  refine stJ (xs:=[i64 0]) (k2.get g1.d1 (by simp)) ?_
  exact z27 rfl rfl (List.getElem?_set_self (zab (k2.get g1.d1 (by simp))))
 ·obtain ⟨rfl,rfl⟩:=eN hc
  conv=>whnf
  exact z28 h6 h7 g1.d1
end
section
variable {n:Nat}{h:zaa}
theorem zym (hn:1 ≤ n) (d:Dg):C n 248 [.agg d.cells] h=some (.ret (.str d.bytes),h):=by
 obtain ⟨m,rfl⟩:=pre1 n
 refine zad F248 rfl rfl rfl rfl ?_
 conv=>whnf
 refine ⟨_,_,_,rfl,⟨Nat.le_refl 16,by decide⟩,?_⟩
 refine slI (v:=.sl 1 0 0 0 16) rfl ?_
 conv=>whnf
 refine ⟨_,d.bytes,zhm (el:=some 23) (s:=d.bytes) (frz:=0) (ver:=0) _ rfl,zbt _,?_⟩
 conv=>whnf
 exact retP rfl (zbw rfl)
theorem zj9 (hn:2 ≤ n) (e:Entry):C n 225 [e.av] h=some (.ret (.bool (za2 e != 0)),h):=by
 obtain ⟨m,rfl⟩:=pre1 n
 have e1:=eq_dg e.sum Dg.zero
 refine zad F225 rfl rfl rfl rfl ?_
 repeat' (conv=>whnf);first
  | refine clI (zgs (by omega) _) ?_
  | refine clI (zux (by omega) _) ?_
  | refine eqI e1 ?_
  | refine retP rfl (zai ?_)
  | refine brd (fun _=>?_) (fun _=>?_)
  | refine bre (fun _=>?_) (fun _=>?_)
  | refine brq (fun _=>?_) (fun _=>?_)
  | refine brn (fun _=>?_) (fun _=>?_)
  | refine br (fun _=>?_) (fun _=>?_)
  | refine ldI (by rfl) ?_
  | refine ldI (zag _ _ _) ?_
  | refine ldI (zaf _ _) ?_
  | refine stJ (by rfl) ?_
  | refine stJ (zaf _ _) ?_
  | refine cutS (by decide) rfl ?_
 all_goals simp_all [za2,zfc,zkb,zka,zaz,zar]
 all_goals first
  | omega
  | (by_cases q:e.len=0<;>simp_all;done)
  | (by_cases q:e.count=0<;>simp_all<;>omega)
  | (by_cases q:e.sum=Dg.zero<;>simp_all<;>omega)
theorem zh4 (hn:2 ≤ n) (e:Entry):C n 226 [e.av] h=some (.ret (.bool (zpg e)),h):=by
 obtain ⟨m,rfl⟩:=pre1 n
 refine zad F226 rfl rfl rfl rfl ?_
 repeat' (conv=>whnf);first
  | refine clI (zgs (by omega) _) ?_
  | refine clI (zux (by omega) _) ?_
  | refine retP rfl (zai ?_)
  | refine brd (fun _=>?_) (fun _=>?_)
  | refine bre (fun _=>?_) (fun _=>?_)
  | refine brq (fun _=>?_) (fun _=>?_)
  | refine brn (fun _=>?_) (fun _=>?_)
  | refine br (fun _=>?_) (fun _=>?_)
  | refine ldI (by rfl) ?_
  | refine ldI (zag _ _ _) ?_
  | refine ldI (zaf _ _) ?_
  | refine stJ (by rfl) ?_
  | refine stJ (zaf _ _) ?_
  | refine cutS (by decide) rfl ?_
 all_goals simp_all [zpg]
theorem zsg (hn:2 ≤ n) (e:Entry) (lv:Int) (h0:0 ≤ lv) (hv:if lv=0 then za2 e≠0 else zbf e=true):C n 227 [e.av,i64 lv] h=some (.ret (.str (zf7 e lv)),h):=by
 obtain ⟨m,rfl⟩:=pre1 n
 have cN:∀ (k:Int) (w:Nat) (h:zaa),0 ≤ k → k<9223372036854775808 → w ≤ 8 → C m 61 [i64 k,i64 w] h=some (.ret (.str (num k.toNat w)),h):=fun k w h h1 h2 h3=>by
  have:=zcp (n:=m) (h:=h) (by omega) k.toNat w h3 (by omega)
  rwa [show ((k.toNat:Nat):Int)=k by omega] at this
 have cS:∀ (h:zaa),C m 248 [.agg e.sum.cells] h=some (.ret (.str e.sum.bytes),h):=fun h=>zym (by omega) e.sum
 have nn:0 ≤ e.over ∧ 0 ≤ e.len ∧ 0 ≤ e.child ∧ 0 ≤ e.count:=by
  split at hv
  ·exact (zzj hv).1
  ·exact (zqr hv).1
 have big:e.over<1099511627776 ∧ e.len<1099511627776 ∧ e.child<1099511627776 ∧ e.count<1099511627776 ∧ e.val.length ≤ 64:=by
  split at hv
  ·rcases (zhl hv).2 with ⟨a,b,c,d,_,g⟩ | ⟨a,b,c,d,g⟩ | ⟨a,b,c,d,g⟩
   ·omega
   ·rw [a];simp;omega
   ·rw [a];simp;omega
  ·obtain ⟨_,a,b,c,d,g⟩:=zgz hv
   rw [a];simp;omega
 refine zad F227 rfl rfl rfl rfl ?_
 conv=>whnf
 refine brd (fun a=>?_) (fun a=>?_)
 ·conv=>whnf
  refine ldI (by rfl) ?_
  conv=>whnf
  refine clI (cN e.child 4 _ (by omega) (by omega) (by omega)) ?_
  conv=>whnf
  refine ldI (by rfl) ?_
  conv=>whnf
  refine clI (cN e.count 4 _ (by omega) (by omega) (by omega)) ?_
  conv=>whnf
  refine ⟨by simp only [zam];decide,?_⟩
  conv=>whnf
  refine ldI (by rfl) ?_
  conv=>whnf
  refine clI (cS _) ?_
  conv=>whnf
  refine ⟨by simp only [List.length_append,zam,Dg.bytes_len];decide,?_⟩
  conv=>whnf
  refine retP rfl (zbw ?_)
  unfold zf7
  rw [if_pos a,List.append_assoc]
 ·have hl:lv=0:=by omega
  rw [if_pos hl] at hv
  have hf:=(zhl hv).2
  conv=>whnf
  refine ldI (by rfl) ?_
  conv=>whnf
  refine brq (fun b=>?_) (fun b=>?_)
  ·have hov:¬ 0<e.over:=by omega
   conv=>whnf
   refine clI (cN 65534 2 _ (by omega) (by omega) (by omega)) ?_
   conv=>whnf
   refine ldI (by rfl) ?_
   conv=>whnf
   refine clI (cN e.child 4 _ (by omega) (by omega) (by omega)) ?_
   conv=>whnf
   refine ⟨by simp only [zam];decide,?_⟩
   conv=>whnf
   refine ldI (by rfl) ?_
   conv=>whnf
   refine clI (cN e.count 4 _ (by omega) (by omega) (by omega)) ?_
   conv=>whnf
   refine ⟨by simp only [List.length_append,zam];decide,?_⟩
   conv=>whnf
   refine ldI (by rfl) ?_
   conv=>whnf
   refine clI (cS _) ?_
   conv=>whnf
   refine ⟨by simp only [List.length_append,zam,Dg.bytes_len];decide,?_⟩
   conv=>whnf
   refine retP rfl (zbw ?_)
   unfold zf7
   rw [if_neg a,if_neg hov,if_pos (by omega)]
   simp only [List.append_assoc]
   rfl
  ·conv=>whnf
   refine ldI (by rfl) ?_
   conv=>whnf
   refine brq (fun d=>?_) (fun d=>?_)
   ·conv=>whnf
    refine clI (cN 65535 2 _ (by omega) (by omega) (by omega)) ?_
    conv=>whnf
    refine ldI (by rfl) ?_
    conv=>whnf
    refine clI (cN e.over 4 _ (by omega) (by omega) (by omega)) ?_
    conv=>whnf
    refine ⟨by simp only [zam];decide,?_⟩
    conv=>whnf
    refine ldI (by rfl) ?_
    conv=>whnf
    refine clI (cN e.len 2 _ (by omega) (by omega) (by omega)) ?_
    conv=>whnf
    refine ⟨by simp only [List.length_append,zam];decide,?_⟩
    conv=>whnf
    refine ldI (by rfl) ?_
    conv=>whnf
    refine clI (cS _) ?_
    conv=>whnf
    refine ⟨by simp only [List.length_append,zam,Dg.bytes_len];decide,?_⟩
    conv=>whnf
    refine retP rfl (zbw ?_)
    unfold zf7
    rw [if_neg a,if_pos (by omega)]
    simp only [List.append_assoc]
    rfl
   ·conv=>whnf
    refine ldI (by rfl) ?_
    conv=>whnf
    refine clI (cN e.val.length 2 _ (by omega) (by omega) (by omega)) ?_
    conv=>whnf
    refine ldI (by rfl) ?_
    conv=>whnf
    refine ⟨by rw [zam];omega,?_⟩
    conv=>whnf
    refine retP rfl (zbw ?_)
    unfold zf7
    rw [if_neg a,if_neg (by omega),if_neg (by omega)]
    rfl
end
theorem cmp_neg {x y:Str}:cmpS x y<0 ↔ Op.bytesLess x y=true:=by
 unfold cmpS
 by_cases a:Op.bytesLess x y=true
 ·simp [a]
 ·by_cases b:Op.bytesLess y x=true
  ·simp [a,b]
  ·simp [a,b]
theorem eq_ent (e:Entry):eqA Tryz.prog 20 147 (.agg e.cells) (.agg e.cells)=some true:=by
 have e1:eqA Tryz.prog 20 147 (.agg e.cells) (.agg e.cells)=zdo (eqA Tryz.prog 19) [(9,.str e.key,.str e.key),(9,.str e.val,.str e.val),(3,i64 e.over,i64 e.over),(3,i64 e.len,i64 e.len),(3,i64 e.child,i64 e.child),(3,i64 e.count,i64 e.count),(23,.agg e.sum.cells,.agg e.sum.cells)]:=by kernel_rfl
 have e2:∀ (s:Str),eqA Tryz.prog 19 9 (.str s) (.str s)=some (s==s):=fun s=>by kernel_rfl
 have e3:∀ (k:Int),eqA Tryz.prog 19 3 (i64 k) (i64 k)=some (k==k):=fun k=>by kernel_rfl
 have e4:eqA Tryz.prog 19 23 (.agg e.sum.cells) (.agg e.sum.cells)=zdo (eqA Tryz.prog 18) (zipE 5 (e.sum.list.map u8) (e.sum.list.map u8)):=by kernel_rfl
 have e5:∀ (x y:UInt8),eqA Tryz.prog 18 5 (.int .u8 x.toNat) (.int .u8 y.toNat)=some (((x.toNat:Nat):Int)==y.toNat):=fun x y=>by kernel_rfl
 have e6:eqA Tryz.prog 19 23 (.agg e.sum.cells) (.agg e.sum.cells)=some true:=by
  rw [e4,zf2 (fun x y=>by rw [e5,zs1]) e.sum.list e.sum.list rfl]
  simp
 rw [e1]
 simp only [zdo,e2,e3,e6,beq_self_eq_true]
section
variable {n:Nat}{h:zaa}
theorem zi2 {m:Nat}(hn:2 ≤ m) (l:List Entry) (hl:l.length<1099511627776) (lv:Int) (sz:Nat) (hz:l≠[] → sz=22) (c:Bool) (W:0 ≤ lv) (hk0:lv≠0 → ∀ h0:0<l.length,l[0].key=[]) {Q:Ex → LS → Prop}{s:LS}
  (hs:LS.sub ⟨[(0,.lst sz (l.map Entry.av) c),(1,i64 lv),(5,i64 0)],[],[]⟩ s)
  (hE:(∀ i,i<l.length → vAt lv l i=true) → ∀ L hp,Q (.exit 0) ⟨L,hp,[]⟩) (hR:∀ j,j<l.length → vAt lv l j=false → ∀ L hp,lk L 4=some (.bool false) → Q .ret ⟨L,hp,[]⟩) :
  OkR Tryz.prog (C m) cfg0.inl KK 105 7 (.loop (c197.lp 0)) s Q:=by
 refine za3 (by decide) rfl (α:=Nat × zaa) (fun x=>⟨[(0,.lst sz (l.map Entry.av) c),(1,i64 lv),(5,i64 x.1)],x.2,[]⟩)
  (fun x=>x.1 ≤ l.length ∧ ∀ i,i<x.1 → vAt lv l i=true) (fun x=>l.length-x.1) (0,[]) hs ?_ ?_ ?_
 ·exact ⟨Nat.zero_le _,fun i hi=>absurd hi (Nat.not_lt_zero _)⟩
 ·show l.length-0<KK;simp only [KK];omega
 ·rintro ⟨j,hp⟩ ⟨g1,g2⟩
  simp only at g1 g2
  conv=>whnf
  refine brd (fun b=>?_) (fun b=>?_)
  ·have hj:j<l.length:=by simp only [List.length_map] at b;omega
   have ext:vAt lv l j=true → ∀ i,i<j+1 → vAt lv l i=true:=fun hv i hi=>by
    by_cases e:i=j
    ·rw [e];exact hv
    ·exact g2 i (by omega)
   conv=>whnf
   refine bre (fun z=>?_) (fun z=>?_)
   ·subst z
    conv=>whnf
    refine ixL zap hj hz ?_
    conv=>whnf
    refine clI (zj9 (by omega) l[j]) ?_
    conv=>whnf
    refine brn (fun c1=>?_) (fun c1=>?_)
    ·exact hR j hj (by rw [zcw hj];simp [c1]) _ _ rfl
    ·have hfst:(if (0:Int)=0 then za2 l[j] != 0 else zbf l[j]&&(decide (j=0)||l[j].key != []))=true:=by rw [if_pos rfl];exact c1
     conv=>whnf
     refine brd (fun c2=>?_) (fun c2=>?_)
     ·have hj1:j-1<l.length:=by omega
      have hj0:j≠0:=by omega
      conv=>whnf
      refine ixL zap hj hz ?_
      conv=>whnf
      refine zI (z:=((j-1:Nat):Int)) (by rw [zae (by omega) (by omega)];omega) ?_
      conv=>whnf
      refine ixL zap (l:=l) (j:=j-1) hj1 hz ?_
      conv=>whnf
      have tri:=zeb l[j].key (l[j-1]'hj1).key
      refine br (fun d=>?_) (fun d=>?_)
      ·have d':Op.bytesLess (l[j-1]'hj1).key l[j].key=false:=by
        have:=tri.symm.trans d
        simpa using this
       have hc:¬ cmpS (l[j-1]'hj1).key l[j].key<0:=fun q=>by rw [cmp_neg.1 q] at d';cases d'
       refine hR j hj (by rw [zcw hj];simp [hj0,hc]) _ _ rfl
      ·have d':Op.bytesLess (l[j-1]'hj1).key l[j].key=true:=by
        have:=tri.symm.trans d
        simpa using this
       have hc:cmpS (l[j-1]'hj1).key l[j].key<0:=cmp_neg.2 d'
       conv=>whnf
       refine zJ j ?_
       refine nxI (j+1,_) ⟨hj,ext (by rw [zcw hj,hfst];simp [hj0,hc])⟩ (by simp only;omega) ⟨⟨rfl,rfl,rfl⟩,rfl,rfl⟩
     ·have hj0:j=0:=by omega
      conv=>whnf
      refine zJ j ?_
      refine nxI (j+1,_) ⟨hj,ext (by rw [zcw hj,hfst];simp [hj0])⟩ (by simp only;omega) ⟨⟨rfl,rfl,rfl⟩,rfl,rfl⟩
   ·have zp:0<lv:=by omega
    conv=>whnf
    refine brd (fun _=>?_) (fun q=>absurd zp q)
    conv=>whnf
    refine ixL zap hj hz ?_
    conv=>whnf
    refine clI (zh4 (by omega) l[j]) ?_
    conv=>whnf
    refine brn (fun c1=>?_) (fun c1=>?_)
    ·exact hR j hj (by rw [zcw hj,zcr];simp [c1,z]) _ _ rfl
    ·conv=>whnf
     refine brd (fun _=>?_) (fun q=>absurd zp q)
     conv=>whnf
     refine brd (fun jp=>?_) (fun jp=>?_)
     ·have hj0:j≠0:=by omega
      conv=>whnf
      refine ixL zap hj hz ?_
      conv=>whnf
      refine brd (fun k1=>?_) (fun k1=>?_)
      ·have hk:l[j].key=[]:=List.length_eq_zero_iff.1 (by omega)
       exact hR j hj (by rw [zcw hj];simp [hk,z,hj0]) _ _ rfl
      ·conv=>whnf
       refine ixL zap hj hz ?_
       conv=>whnf
       refine brd (fun k2=>?_) (fun k2=>?_)
       ·exact hR j hj (by rw [zcw hj,zcr];simp [z,show ¬ l[j].key.length ≤ 48 by omega]) _ _ rfl
       ·have hk:l[j].key≠[]:=by intro q;rw [q] at k1;simp at k1
        have hfst:(if lv=0 then za2 l[j] != 0 else zbf l[j]&&(decide (j=0)||l[j].key != []))=true:=by rw [if_neg z,zcr];simp [c1,hk,show l[j].key.length ≤ 48 by omega]
        conv=>whnf
        refine brd (fun c2=>?_) (fun c2=>?_)
        ·have hj1:j-1<l.length:=by omega
         have hj0:j≠0:=by omega
         conv=>whnf
         refine ixL zap hj hz ?_
         conv=>whnf
         refine zI (z:=((j-1:Nat):Int)) (by rw [zae (by omega) (by omega)];omega) ?_
         conv=>whnf
         refine ixL zap (l:=l) (j:=j-1) hj1 hz ?_
         conv=>whnf
         have tri:=zeb l[j].key (l[j-1]'hj1).key
         refine br (fun d=>?_) (fun d=>?_)
         ·have d':Op.bytesLess (l[j-1]'hj1).key l[j].key=false:=by
           have:=tri.symm.trans d
           simpa using this
          have hc:¬ cmpS (l[j-1]'hj1).key l[j].key<0:=fun q=>by rw [cmp_neg.1 q] at d';cases d'
          refine hR j hj (by rw [zcw hj];simp [hj0,hc]) _ _ rfl
         ·have d':Op.bytesLess (l[j-1]'hj1).key l[j].key=true:=by
           have:=tri.symm.trans d
           simpa using this
          have hc:cmpS (l[j-1]'hj1).key l[j].key<0:=cmp_neg.2 d'
          conv=>whnf
          refine zJ j ?_
          refine nxI (j+1,_) ⟨hj,ext (by rw [zcw hj,hfst];simp [hj0,hc])⟩ (by simp only;omega) ⟨⟨rfl,rfl,rfl⟩,rfl,rfl⟩
        ·have hj0:j=0:=by omega
         conv=>whnf
         refine zJ j ?_
         refine nxI (j+1,_) ⟨hj,ext (by rw [zcw hj,hfst];simp [hj0])⟩ (by simp only;omega) ⟨⟨rfl,rfl,rfl⟩,rfl,rfl⟩
     ·have hj0:j=0:=by omega
      subst hj0
      have hk:=hk0 z hj
      have hfst:(if lv=0 then za2 l[0] != 0 else zbf l[0]&&(decide ((0:Nat)=0)||l[0].key != []))=true:=by rw [if_neg z,zcr,hk];simp [c1]
      conv=>whnf
      refine zI (z:=((0+1:Nat):Int)) (by rw [zae (by omega) (by omega)];rfl) ?_
      refine nxI (0+1,_) ⟨hj,ext (by rw [zcw hj,hfst];simp)⟩ (by simp only;omega) ⟨⟨rfl,rfl,rfl⟩,rfl,rfl⟩
  ·have hj:j=l.length:=by simp only [List.length_map] at b;omega
   subst hj
   conv=>whnf
   exact hE g2 _ _
theorem zsi (hn:3 ≤ n) (l:List Entry) (hl:l.length<1099511627776) (lv:Int) (sz:Nat) (hz:l≠[] → sz=22) (c:Bool):C n 197 [.lst sz (l.map Entry.av) c,i64 lv] h=some (.ret (.bool (zc7 l lv)),h):=by
 obtain ⟨m,rfl⟩:=pre1 n
 refine zad F197 rfl rfl rfl (zbk zbs l rfl) ?_
 conv=>whnf
 refine brd (fun a=>?_) (fun a=>?_)
 ·conv=>whnf
  exact retP rfl (zai (by simp [zc7,zar];omega))
 conv=>whnf
 refine brd (fun b=>?_) (fun b=>?_)
 ·conv=>whnf
  exact retP rfl (zai (by simp [zc7,zar];omega))
 have W:zar lv 0 20=true:=within_iff.2 (by omega)
 conv=>whnf
 refine bre (fun z=>?_) (fun z=>?_)
 ·subst z
  conv=>whnf
  refine brd (fun d=>?_) (fun d=>?_)
  ·have:l=[]:=List.length_eq_zero_iff.1 (by rw [List.length_map] at d;omega)
   conv=>whnf
   exact retP rfl (zai (by subst this;rfl))
  ·have hne:l≠[]:=by rintro rfl;simp at d
   conv=>whnf
   refine zi2 (by omega) l hl 0 sz hz c (by omega) (fun q=>(q rfl).elim) ⟨⟨rfl,rfl,rfl⟩,rfl,rfl⟩ (fun e L hp=>?_) (fun j hj e L hp hk=>?_)
   ·refine cutI (by decide) rfl (t:=⟨[],hp,[]⟩) ⟨trivial,rfl,rfl⟩ ?_
    conv=>whnf
    exact retP rfl (zai (zg6 W hne (.inl rfl) e).symm)
   ·exact retK hk (zai (ziq hj e).symm)
 ·conv=>whnf
  refine brd (fun zp=>?_) (fun q=>absurd (by omega) q)
  conv=>whnf
  refine brd (fun d=>?_) (fun d=>?_)
  ·have:¬ 2 ≤ l.length:=by rw [List.length_map] at d;omega
   conv=>whnf
   exact retP rfl (zai (by simp [zc7, *]))
  ·have h2:2 ≤ l.length:=by rw [List.length_map] at d;omega
   have h0:0<l.length:=by omega
   have hne:l≠[]:=by rintro rfl;simp at h0
   have k0:l[0].key=zkj l 0:=by simp [zkj,h0]
   conv=>whnf
   refine ixL zap (j:=0) h0 hz ?_
   conv=>whnf
   refine brq (fun g=>?_) (fun g=>?_)
   ·conv=>whnf
    rw [k0] at g
    exact retP rfl (zai (by simp [zc7, *]))
   ·conv=>whnf
    refine zi2 (by omega) l hl lv sz hz c (by omega) (fun _ _=>g) ⟨⟨rfl,rfl,rfl⟩,rfl,rfl⟩ (fun e L hp=>?_) (fun j hj e L hp hk=>?_)
    ·refine cutI (by decide) rfl (t:=⟨[],hp,[]⟩) ⟨trivial,rfl,rfl⟩ ?_
     conv=>whnf
     exact retP rfl (zai (zg6 W hne (.inr ⟨h2,by rw [← k0];exact g⟩) e).symm)
    ·exact retK hk (zai (ziq hj e).symm)
end
theorem zoa {l:List Entry}{lv:Int}{k:Nat}(hk:k<(zbr l lv).length) (f:Nat) (hf:f=if 0<lv then 1 else 0):∃ h:f+k<l.length,(zbr l lv)[k]=l[f+k]:=by
 by_cases h:0<lv
 ·have e:zbr l lv=l.drop 1:=by unfold zbr;rw [if_pos h]
  rw [if_pos h] at hf
  subst hf
  have hl:1+k<l.length:=by rw [e,List.length_drop] at hk;omega
  refine ⟨hl,?_⟩
  simp only [e,List.getElem_drop]
 ·have e:zbr l lv=l:=by unfold zbr;rw [if_neg h]
  rw [if_neg h] at hf
  subst hf
  have hl:0+k<l.length:=by rw [e] at hk;omega
  refine ⟨hl,?_⟩
  simp only [e,Nat.zero_add]
theorem ztw (l:List Entry) (lv:Int) (f:Nat) (hf:f=if 0<lv then 1 else 0):(zbr l lv).length=l.length-f:=by
 by_cases h:0<lv
 ·unfold zbr;rw [if_pos h] at hf ⊢;simp [hf]
 ·unfold zbr;rw [if_neg h] at hf ⊢;simp [hf]
section
variable {n:Nat}{h:zaa}
theorem zhy {m:Nat}(l:List Entry) (hl:l.length<1099511627776) (he:∀ e∈l,e.Ok) (lv:Int) (hne:0<(zbr l lv).length) (f:Nat) (hf:f=if 0<lv then 1 else 0) (sz:Nat) (hz:l≠[] → sz=22) (c:Bool) {Q:Ex → LS → Prop}{s:LS}
  (hs:LS.sub ⟨[(0,.lst sz (l.map Entry.av) c),(6,.str ((zbr l lv).headD default).key),(7,i64 ((f+0:Nat)))],[],[]⟩ s) (hE:∀ L,lk L 6=some (.str (shared l lv)) → Q (.exit 0) ⟨L,[],[]⟩) :
  OkR Tryz.prog (C m) cfg0.inl KK 56 6 (.loop (c200.lp 0)) s Q:=by
 have hf1:f ≤ 1:=by rw [hf];split<;>omega
 have tl:=ztw l lv f hf
 have hh:(zbr l lv).headD default∈l:=by
  obtain ⟨h1,h2⟩:=zoa hne f hf
  rw [← zlz hne,h2]
  exact List.getElem_mem h1
 refine za3 (by decide) rfl (α:=Nat × Str) (fun x=>⟨[(0,.lst sz (l.map Entry.av) c),(6,.str x.2),(7,i64 ((f+x.1:Nat)))],[],[]⟩)
  (fun x=>x.1 ≤ (zbr l lv).length ∧ x.2=((zbr l lv).take x.1).foldl (fun p e=>pre2 p e.key) ((zbr l lv).headD default).key ∧ x.2.length<1099511627776) (fun x=>(zbr l lv).length-x.1) (0,((zbr l lv).headD default).key) hs ⟨Nat.zero_le _,rfl,(he _ hh).1⟩ (by show (zbr l lv).length-0<KK;simp only [KK];omega) ?_
 rintro ⟨k,p⟩ ⟨g1,g2,g3⟩
 simp only at g1 g2 g3
 conv=>whnf
 refine brd (fun b=>?_) (fun b=>?_)
 ·have hk:k<(zbr l lv).length:=by simp only [List.length_map] at b;omega
  obtain ⟨hj,hat⟩:=zoa hk f hf
  have hst:pre2 p l[f+k].key=((zbr l lv).take (k+1)).foldl (fun p e=>pre2 p e.key) ((zbr l lv).headD default).key:=by
   rw [List.take_succ_eq_append_getElem hk,List.foldl_append,← g2,hat];rfl
  have hkey:=he _ (List.getElem_mem hj)
  have hle:=(z73 p l[f+k].key).1
  conv=>whnf
  refine za3 (by decide) rfl (α:=Nat) (fun t=>⟨[(0,.lst sz (l.map Entry.av) c),(6,.str p),(7,i64 ((f+k:Nat))),(8,i64 t)],[],[]⟩) (fun t=>(t ≤ p.length ∧ t ≤ l[f+k].key.length) ∧ cp p l[f+k].key=t+cp (p.drop t) (l[f+k].key.drop t)) (fun t=>p.length-t) 0 ⟨⟨rfl,rfl,rfl,rfl⟩,rfl,rfl⟩ (by simp) (by show p.length-0<KK;simp only [KK];omega) ?_
  rintro t ⟨⟨t1,t2⟩,t3⟩
  conv=>whnf
  refine brd (fun d=>?_) (fun d=>?_)
  ·have ht:t<p.length:=by omega
   conv=>whnf
   refine ixL zap hj hz ?_
   conv=>whnf
   refine brd (fun d2=>?_) (fun d2=>?_)
   ·have ht2:t<l[f+k].key.length:=by omega
    conv=>whnf
    refine strI (b:=p[t]) (by omega) (by rw [Int.toNat_natCast];exact List.getElem?_eq_getElem ht) ?_
    conv=>whnf
    refine ixL zap hj hz ?_
    conv=>whnf
    refine strI (b:=l[f+k].key[t]) (by omega) (by rw [Int.toNat_natCast];exact List.getElem?_eq_getElem ht2) ?_
    have e:=u8_eq p[t] l[f+k].key[t]
    conv=>whnf
    refine br (fun b=>?_) (fun b=>?_)
    ·have b':p[t]=l[f+k].key[t]:=by simpa using e.symm.trans b
     conv=>whnf
     refine zI (z:=((t+1:Nat):Int)) (by rw [zae (by omega) (by omega)];rfl) ?_
     exact nxI (t+1) ⟨⟨ht,ht2⟩,z03 p _ t ht ht2 b' t3⟩ (by omega) ⟨⟨rfl,rfl,rfl,rfl⟩,rfl,rfl⟩
    ·have b':p[t]≠l[f+k].key[t]:=by simpa using e.symm.trans b
     have ec:=z01 p _ t ht ht2 b' t3
     conv=>whnf
     refine cutI (by decide) rfl (t:=⟨[(0,.lst sz (l.map Entry.av) c),(6,.str p),(7,i64 ((f+k:Nat))),(8,i64 (cp p l[f+k].key))],[],[]⟩) ⟨⟨rfl,rfl,rfl,by rw [ec];rfl⟩,rfl,rfl⟩ ?_
     conv=>whnf
     refine zob hle ?_
     refine cutI (by decide) rfl (t:=⟨[(0,.lst sz (l.map Entry.av) c),(6,.str (pre2 p l[f+k].key)),(7,i64 ((f+k:Nat)))],[],[]⟩) ⟨⟨rfl,rfl,rfl⟩,rfl,rfl⟩ ?_
     conv=>whnf
     refine zI (z:=((f+(k+1):Nat):Int)) (by rw [zae (by omega) (by omega)];omega) ?_
     refine nxI (k+1,pre2 p l[f+k].key) ⟨by omega,hst,by simp only [pre2,List.length_take];omega⟩ (by simp only;omega) ⟨⟨rfl,rfl,rfl⟩,rfl,rfl⟩
   ·have ec:=z04 p l[f+k].key t (by omega) t3
    conv=>whnf
    refine cutI (by decide) rfl (t:=⟨[(0,.lst sz (l.map Entry.av) c),(6,.str p),(7,i64 ((f+k:Nat))),(8,i64 (cp p l[f+k].key))],[],[]⟩) ⟨⟨rfl,rfl,rfl,by rw [ec];rfl⟩,rfl,rfl⟩ ?_
    conv=>whnf
    refine zob hle ?_
    refine cutI (by decide) rfl (t:=⟨[(0,.lst sz (l.map Entry.av) c),(6,.str (pre2 p l[f+k].key)),(7,i64 ((f+k:Nat)))],[],[]⟩) ⟨⟨rfl,rfl,rfl⟩,rfl,rfl⟩ ?_
    conv=>whnf
    refine zI (z:=((f+(k+1):Nat):Int)) (by rw [zae (by omega) (by omega)];omega) ?_
    refine nxI (k+1,pre2 p l[f+k].key) ⟨by omega,hst,by simp only [pre2,List.length_take];omega⟩ (by simp only;omega) ⟨⟨rfl,rfl,rfl⟩,rfl,rfl⟩
  ·have ec:=z04 p l[f+k].key t (by omega) t3
   conv=>whnf
   refine cutI (by decide) rfl (t:=⟨[(0,.lst sz (l.map Entry.av) c),(6,.str p),(7,i64 ((f+k:Nat))),(8,i64 (cp p l[f+k].key))],[],[]⟩) ⟨⟨rfl,rfl,rfl,by rw [ec];rfl⟩,rfl,rfl⟩ ?_
   conv=>whnf
   refine zob hle ?_
   refine cutI (by decide) rfl (t:=⟨[(0,.lst sz (l.map Entry.av) c),(6,.str (pre2 p l[f+k].key)),(7,i64 ((f+k:Nat)))],[],[]⟩) ⟨⟨rfl,rfl,rfl⟩,rfl,rfl⟩ ?_
   conv=>whnf
   refine zI (z:=((f+(k+1):Nat):Int)) (by rw [zae (by omega) (by omega)];omega) ?_
   refine nxI (k+1,pre2 p l[f+k].key) ⟨by omega,hst,by simp only [pre2,List.length_take];omega⟩ (by simp only;omega) ⟨⟨rfl,rfl,rfl⟩,rfl,rfl⟩
 ·have hk:k=(zbr l lv).length:=by simp only [List.length_map] at b;omega
  subst hk
  rw [List.take_length,zr7] at g2
  subst g2
  conv=>whnf
  exact hE _ rfl
theorem zgg (hn:1 ≤ n) (l:List Entry) (hl:l.length<1099511627776) (he:∀ e∈l,e.Ok) (lv:Int) (hne:0<(zbr l lv).length) (sz:Nat) (hz:l≠[] → sz=22) (c:Bool):C n 200 [.lst sz (l.map Entry.av) c,i64 lv] h=some (.ret (.str (shared l lv)),h):=by
 obtain ⟨m,rfl⟩:=pre1 n
 have h0:0<l.length:=by
  have:=ztw l lv _ rfl
  omega
 refine zad F200 rfl rfl rfl (zbk zbs l rfl) ?_
 conv=>whnf
 refine brd (fun a=>?_) (fun a=>?_)
 ·obtain ⟨hj,hat⟩:=zoa hne 1 (by rw [if_pos a])
  conv=>whnf
  refine ixL zap (j:=1) hj hz ?_
  conv=>whnf
  refine zhy l hl he lv hne 1 (by rw [if_pos a]) sz hz c ⟨⟨rfl,?_,rfl⟩,rfl,rfl⟩ (fun L hL=>?_)
  ·rw [← zlz hne,hat];rfl
  ·refine cutI (by decide) rfl (t:=⟨[(6,.str (shared l lv))],[],[]⟩) ⟨hL,rfl,rfl⟩ ?_
   conv=>whnf
   exact retP rfl (zbw rfl)
 ·obtain ⟨hj,hat⟩:=zoa hne 0 (by rw [if_neg a])
  conv=>whnf
  refine ixL zap (j:=0) h0 hz ?_
  conv=>whnf
  refine zhy l hl he lv hne 0 (by rw [if_neg a]) sz hz c ⟨⟨rfl,?_,rfl⟩,rfl,rfl⟩ (fun L hL=>?_)
  ·rw [← zlz hne,hat];rfl
  ·refine cutI (by decide) rfl (t:=⟨[(6,.str (shared l lv))],[],[]⟩) ⟨hL,rfl,rfl⟩ ?_
   conv=>whnf
   exact retP rfl (zbw rfl)
theorem zxm (hn:2 ≤ n) (l:List Entry) (hl:l.length<1099511627776) (he:∀ e∈l,e.Ok) (lv:Int) (hne:0<(zbr l lv).length) (i:Nat) (hi:i<l.length) (sz:Nat) (hz:l≠[] → sz=22) (c:Bool):C n 228 [.lst sz (l.map Entry.av) c,i64 lv,i64 i] h=some (.ret (.str (if i=0 ∧ 0<lv then [] else l[i].key.drop (zdc l lv i))),h):=by
 obtain ⟨m,rfl⟩:=pre1 n
 have cP:=fun h=>zgg (n:=m) (h:=h) (by omega) l hl he lv hne sz hz c
 have tailw:¬(i=0 ∧ 0<lv) → zdc l lv i=(shared l lv).length:=fun q=>by unfold zdc;rw [if_neg q]
 have hcut:zdc l lv i ≤ l[i].key.length:=zpa hi
 refine zad F228 rfl rfl rfl (zbk zbs l rfl) ?_
 conv=>whnf
 refine brd (fun a=>?_) (fun a=>?_)
 ·conv=>whnf
  refine bre (fun b=>?_) (fun b=>?_)
  ·conv=>whnf
   refine retP rfl (zbw ?_)
   rw [if_pos ⟨by omega,a⟩]
  ·have q:¬(i=0 ∧ 0<lv):=by omega
   rw [tailw q] at hcut
   conv=>whnf
   refine ixL zap hi hz ?_
   conv=>whnf
   refine clI (cP _) ?_
   conv=>whnf
   refine zxr hcut ?_
   conv=>whnf
   refine retP rfl (zbw ?_)
   rw [if_neg q,tailw q]
 ·have q:¬(i=0 ∧ 0<lv):=by omega
  rw [tailw q] at hcut
  conv=>whnf
  refine ixL zap hi hz ?_
  conv=>whnf
  refine clI (cP _) ?_
  conv=>whnf
  refine zxr hcut ?_
  conv=>whnf
  refine retP rfl (zbw ?_)
  rw [if_neg q,tailw q]
end
theorem zbq {L:LT}{h:zaa}{k b t N f:Nat}{el:Option TypeId}{cs:List AV}(hk:lk L k=some (.ptr b 0 0)) (ht:(ti Tryz.prog t).map (fun d=>(zbm d.desc,d.size))=some (true,N)) (hN:cs.length=N) (hb:h[b]?=some (.cells 0 el cs f)):zcg Tryz.prog L h [.cell k t]=some [.agg cs]:=by
 simp only [zcg,hk,zb9 ht hN hb]
theorem zxe {l:List Entry}{lv:Int}(hv:zc7 l lv=true) {i:Nat}(hi:i<l.length):(if i=0 ∧ 0<lv then [] else l[i].key.drop (zdc l lv i))=l[i].key.drop (zdc l lv i):=by
 split
 ·rename_i q
  obtain ⟨rfl,q2⟩:=q
  obtain ⟨_,_,h3,_⟩:=valid_iff.1 hv
  rcases h3 with h3 | h3
  ·omega
  ·have:l[0].key=[]:=by rw [← h3.2];simp [zkj,hi]
   rw [this];simp
 ·rfl
def zda (l:List Entry) (lv:Int):List AV:=match zds l lv with
 | some n=>[i64 n,i64 0]
 | none=>[i64 0,i64 2]
section
variable {n:Nat}{h:zaa}
theorem zo8 (hn:3 ≤ n) (l:List Entry) (hl:l.length<1099511627776) (lv:Int) (hv:zc7 l lv=true) (at':Nat) (ha:at'<1099511627776) (sz:Nat) (hz:l≠[] → sz=22) (c:Bool) :
  C n 201 [.lst sz (l.map Entry.av) c,i64 lv,i64 at'] h=some (.ret (.str (shared l lv++(zlq l lv (at'+(shared l lv).length+2*l.length) l.length++zea l lv l.length))),h):=by
 obtain ⟨m,rfl⟩:=pre1 n
 have hnn:=zn3 hv
 have he:∀ e∈l,e.Ok:=fun e h=>by have:=hnn e h;exact ⟨by omega,by omega⟩
 have hne:=zg5 hv
 have hsl:=zha hv
 have hlv:=(valid_iff.1 hv).1.1
 have cP:=fun h=>zgg (n:=m) (h:=h) (by omega) l hl he lv hne sz hz c
 have cS:=fun (i:Nat) (hi:i<l.length) h=>(zxm (n:=m) (h:=h) (by omega) l hl he lv hne i hi sz hz c).trans (by rw [zxe hv hi])
 have cN:∀ (k w:Nat) (h:zaa),k<9223372036854775808 → w ≤ 8 → C m 61 [i64 k,i64 w] h=some (.ret (.str (num k w)),h):=fun k w h h2 h3=>zcp (by omega) k w h3 h2
 have cR:=fun (i:Nat) (hi:i<l.length) h=>zsg (n:=m) (h:=h) (by omega) l[i] lv hlv (zg7 hv hi).1
 refine zad F201 rfl rfl rfl (zbk zbs l rfl) ?_
 conv=>whnf
 refine clI (cP _) ?_
 conv=>whnf
 refine zI (z:=((at'+(shared l lv).length:Nat):Int)) (by rw [zae (by omega) (by omega)];rfl) ?_
 conv=>whnf
 refine zI (z:=((2*l.length:Nat):Int)) (by rw [List.length_map,zae (by omega) (by omega)];rfl) ?_
 conv=>whnf
 refine zI (z:=((at'+(shared l lv).length+2*l.length:Nat):Int)) (by rw [zae (by omega) (by omega)];rfl) ?_
 conv=>whnf
 refine za3 (by decide) rfl (α:=Nat) (fun j=>⟨[(0,.lst sz (l.map Entry.av) c),(1,i64 lv),(2,i64 ((at'+(shared l lv).length+2*l.length:Nat))),(7,.str (shared l lv)),(8,.str (zlq l lv (at'+(shared l lv).length+2*l.length) j)),(9,.str (zea l lv j)),(10,i64 j)],[],[]⟩)
  (fun j=>j ≤ l.length) (fun j=>l.length-j) 0 ⟨⟨rfl,rfl,rfl,rfl,rfl,rfl,rfl⟩,rfl,rfl⟩ (Nat.zero_le _) (by show l.length-0<KK;simp only [KK];omega) ?_
 intro j hj
 have hle:=zgv hv j hj
 have hlo:=zen l lv (at'+(shared l lv).length+2*l.length) j
 conv=>whnf
 refine brd (fun b=>?_) (fun b=>?_)
 ·have hjl:j<l.length:=by simp only [List.length_map] at b;omega
  have hb:=zgf l[j] lv
  have hnj:=hnn _ (List.getElem_mem hjl)
  conv=>whnf
  refine clI (cS j hjl _) ?_
  conv=>whnf
  refine zI (z:=((at'+(shared l lv).length+2*l.length+(zea l lv j).length:Nat):Int)) (by rw [zae (by omega) (by omega)];rfl) ?_
  conv=>whnf
  refine clI (cN _ 2 _ (by omega) (by omega)) ?_
  conv=>whnf
  refine ⟨by rw [zam];omega,?_⟩
  conv=>whnf
  refine clI (cN (l[j].key.drop (zdc l lv j)).length 1 _ (by rw [List.length_drop];omega) (by omega)) ?_
  conv=>whnf
  refine ⟨by rw [zam];omega,?_⟩
  conv=>whnf
  refine ⟨by simp only [List.length_append,zam,List.length_drop];omega,?_⟩
  conv=>whnf
  refine ixL zap hjl hz ?_
  conv=>whnf
  refine clI (cR j hjl _) ?_
  conv=>whnf
  refine ⟨by simp only [List.length_append,zam,List.length_drop];omega,?_⟩
  conv=>whnf
  refine zJ j ?_
  refine nxI (j+1) hjl (by omega) ⟨⟨rfl,rfl,rfl,rfl,?_,?_,rfl⟩,rfl,rfl⟩
  ·rw [zjv];rfl
  ·rw [zei l lv hjl]
   unfold entB
   rw [List.length_drop]
   simp only [List.append_assoc]
   rfl
 ·have:j=l.length:=by simp only [List.length_map] at b;omega
  subst this
  conv=>whnf
  refine cutI (by decide) rfl (t:=⟨[(7,.str (shared l lv)),(8,.str (zlq l lv (at'+(shared l lv).length+2*l.length) l.length)),(9,.str (zea l lv l.length))],[],[]⟩) ⟨⟨rfl,rfl,rfl⟩,rfl,rfl⟩ ?_
  conv=>whnf
  refine ⟨by omega,?_⟩
  conv=>whnf
  refine ⟨by rw [List.length_append];omega,?_⟩
  conv=>whnf
  exact retP rfl (zbw (by rw [List.append_assoc]))
end
section
variable {n:Nat}{h:zaa}
theorem zqf (hn:3 ≤ n) (l:List Entry) (hl:l.length<1099511627776) (he:∀ e∈l,e.Ok) (lv:Int) (sz:Nat) (hz:l≠[] → sz=22) (c:Bool):C n 198 [.lst sz (l.map Entry.av) c,i64 lv] h=some (.ret (.agg (zda l lv)),h):=by
 obtain ⟨m,rfl⟩:=pre1 n
 refine zad F198 rfl rfl rfl (zbk zbs l rfl) ?_
 conv=>whnf
 refine brd (fun a=>?_) (fun a=>?_)
 ·conv=>whnf
  refine stJ (xs:=[i64 0,i64 2]) (by rfl) ?_
  exact ⟨rfl,_,zbq (el:=some 271) (f:=0) (cs:=[i64 0,i64 2]) (N:=2) (b:=0) rfl (by kernel_rfl) rfl rfl,by rw [show zda l lv=[i64 0,i64 2] by unfold zda zds;rw [if_neg (by simp [zar];omega)]];rfl⟩
 conv=>whnf
 refine brd (fun b=>?_) (fun b=>?_)
 ·conv=>whnf
  refine stJ (xs:=[i64 0,i64 2]) (by rfl) ?_
  exact ⟨rfl,_,zbq (el:=some 271) (f:=0) (cs:=[i64 0,i64 2]) (N:=2) (b:=0) rfl (by kernel_rfl) rfl rfl,by rw [show zda l lv=[i64 0,i64 2] by unfold zda zds;rw [if_neg (by simp [zar];omega)]];rfl⟩
 have W:zar lv 0 20=true:=within_iff.2 (by omega)
 conv=>whnf
 refine za3 (by decide) rfl (α:=Nat × Int) (fun x=>⟨[(0,.lst sz (l.map Entry.av) c),(1,i64 lv),(4,.ptr 0 0 0),(5,i64 x.2),(6,i64 x.1)],[.cells 0 (some 271) [i64 0,i64 0] 0],[]⟩)
  (fun x=>x.1 ≤ l.length ∧ wsum lv (l.take x.1)=some (x.2-6) ∧ x.2 ≤ 6+117*x.1 ∧ 6 ≤ x.2) (fun x=>l.length-x.1) (0,6) ⟨⟨rfl,rfl,rfl,rfl,rfl⟩,rfl,rfl⟩ (by simp [wsum]) (by show l.length-0<KK;simp only [KK];omega) ?_
 rintro ⟨j,s⟩ ⟨g1,g2,g3,g4⟩
 simp only at g1 g2 g3 g4
 conv=>whnf
 refine brd (fun b=>?_) (fun b=>?_)
 ·have hj:j<l.length:=by simp only [List.length_map] at b;omega
  have hw:=zin hj g2
  have hke:=(he _ (List.getElem_mem hj))
  conv=>whnf
  refine bre (fun z=>?_) (fun z=>?_)
  ·subst z
   conv=>whnf
   refine ixL zap hj hz ?_
   conv=>whnf
   refine clI (zj9 (by omega) l[j]) ?_
   conv=>whnf
   refine brn (fun c1=>?_) (fun c1=>?_)
   ·have hw := hw.trans (if_neg (by have : za2 l[j] = 0 := by simpa using c1
                                    simp [zdd,this]))
    conv=>whnf
    refine stJ (xs:=[i64 0,i64 2]) (by rfl) ?_
    exact ⟨rfl,_,zbq (el:=some 271) (f:=0) (cs:=[i64 0,i64 2]) (N:=2) (b:=0) rfl (by kernel_rfl) rfl rfl,by rw [show zda l 0=[i64 0,i64 2] by unfold zda zds;rw [if_pos W,zio hw];rfl];rfl⟩
   ·have hvj:if (0:Int)=0 then za2 l[j]≠0 else zbf l[j]=true:=by rw [if_pos rfl];simpa using c1
    have hsum:=zol (e:=l[j]) (lv:=0) hvj (by omega)
    have hbd:=zfr hsum.1
    rw [if_pos hsum.1] at hw
    have hrl:=zgf l[j] 0
    conv=>whnf
    refine zI (z:=s+2) (zae (by omega) (by omega)) ?_
    conv=>whnf
    refine zI (z:=s+2+1) (zae (by omega) (by omega)) ?_
    conv=>whnf
    refine ixL zap hj hz ?_
    conv=>whnf
    refine zI (z:=s+2+1+l[j].key.length) (zae (by omega) (by omega)) ?_
    conv=>whnf
    refine ixL zap hj hz ?_
    conv=>whnf
    refine clI (zsg (by omega) l[j] 0 (by omega) hvj) ?_
    conv=>whnf
    refine zI (z:=s+zd5 l[j] 0) (by rw [zae (by omega) (by omega)];omega) ?_
    conv=>whnf
    refine zJ j ?_
    exact nxI (j+1,s+zd5 l[j] 0) ⟨hj,hw.trans (congrArg some (by simp only;omega)),by simp only;omega,by simp only;omega⟩ (by simp only;omega) ⟨⟨rfl,rfl,rfl,rfl,rfl⟩,rfl,rfl⟩
  ·have zp:0<lv:=by omega
   conv=>whnf
   refine brd (fun _=>?_) (fun q=>absurd zp q)
   conv=>whnf
   refine ixL zap hj hz ?_
   conv=>whnf
   refine clI (zh4 (by omega) l[j]) ?_
   conv=>whnf
   refine brn (fun c1=>?_) (fun c1=>?_)
   ·have hw:=hw.trans (if_neg (by simp [zdd,zp,zcr,c1]))
    conv=>whnf
    refine stJ (xs:=[i64 0,i64 2]) (by rfl) ?_
    exact ⟨rfl,_,zbq (el:=some 271) (f:=0) (cs:=[i64 0,i64 2]) (N:=2) (b:=0) rfl (by kernel_rfl) rfl rfl,by rw [show zda l lv=[i64 0,i64 2] by unfold zda zds;rw [if_pos W,zio hw];rfl];rfl⟩
   ·conv=>whnf
    refine ixL zap hj hz ?_
    conv=>whnf
    refine brd (fun k2=>?_) (fun k2=>?_)
    ·have hw:=hw.trans (if_neg (by simp [zdd,zp,zcr,c1];omega))
     conv=>whnf
     refine stJ (xs:=[i64 0,i64 2]) (by rfl) ?_
     exact ⟨rfl,_,zbq (el:=some 271) (f:=0) (cs:=[i64 0,i64 2]) (N:=2) (b:=0) rfl (by kernel_rfl) rfl rfl,by rw [show zda l lv=[i64 0,i64 2] by unfold zda zds;rw [if_pos W,zio hw];rfl];rfl⟩
    ·have hvj:if lv=0 then za2 l[j]≠0 else zbf l[j]=true:=by rw [if_neg z,zcr];simp [c1];omega
     have hsum:=zol (e:=l[j]) (lv:=lv) hvj (by omega)
     have hbd:=zfr hsum.1
     rw [if_pos hsum.1] at hw
     have hrl:=zgf l[j] lv
     conv=>whnf
     refine zI (z:=s+2) (zae (by omega) (by omega)) ?_
     conv=>whnf
     refine zI (z:=s+2+1) (zae (by omega) (by omega)) ?_
     conv=>whnf
     refine ixL zap hj hz ?_
     conv=>whnf
     refine zI (z:=s+2+1+l[j].key.length) (zae (by omega) (by omega)) ?_
     conv=>whnf
     refine ixL zap hj hz ?_
     conv=>whnf
     refine clI (zsg (by omega) l[j] lv (by omega) hvj) ?_
     conv=>whnf
     refine zI (z:=s+zd5 l[j] lv) (by rw [zae (by omega) (by omega)];omega) ?_
     conv=>whnf
     refine zJ j ?_
     exact nxI (j+1,s+zd5 l[j] lv) ⟨hj,hw.trans (congrArg some (by simp only;omega)),by simp only;omega,by simp only;omega⟩ (by simp only;omega) ⟨⟨rfl,rfl,rfl,rfl,rfl⟩,rfl,rfl⟩
 ·have:j=l.length:=by simp only [List.length_map] at b;omega
  subst this
  rw [List.take_length] at g2
  conv=>whnf
  refine cutI (by decide) rfl (t:=⟨[(4,.ptr 0 0 0),(5,i64 s)],[.cells 0 (some 271) [i64 0,i64 0] 0],[]⟩) ⟨⟨rfl,rfl⟩,rfl,rfl⟩ ?_
  conv=>whnf
  refine stJ (xs:=[i64 s,i64 0]) (by rfl) ?_
  refine ⟨rfl,_,zbq (el:=some 271) (f:=0) (cs:=[i64 s,i64 0]) (N:=2) (b:=0) rfl (by kernel_rfl) rfl rfl,?_⟩
  have:zda l lv=[i64 s,i64 0]:=by
   unfold zda zds
   rw [if_pos W,g2]
   show [i64 (6+(s-6)),i64 0]=_
   rw [show 6+(s-6)=s by omega]
  rw [this]
  rfl
theorem zvs (hn:4 ≤ n) (l:List Entry) (hl:l.length<1099511627776) (he:∀ e∈l,e.Ok) (lv:Int) (sz:Nat) (hz:l≠[] → sz=22) (c:Bool):C n 149 [.lst sz (l.map Entry.av) c,i64 lv] h=some (.ret (.bool (fits l lv)),h):=by
 obtain ⟨m,rfl⟩:=pre1 n
 have cV:=fun h=>zsi (n:=m) (h:=h) (by omega) l hl lv sz hz c
 have cW:=fun h=>zqf (n:=m) (h:=h) (by omega) l hl he lv sz hz c
 refine zad F149 rfl rfl rfl (zbk zbs l rfl) ?_
 conv=>whnf
 refine clI (cV _) ?_
 conv=>whnf
 refine br (fun a=>?_) (fun a=>?_)
 ·conv=>whnf
  refine clI (cW _) ?_
  unfold zda
  cases hw:zds l lv with
  | none =>
   obtain ⟨w,h2⟩:=zj6 a
   rw [hw] at h2;cases h2
  | some w =>
   conv=>whnf
   refine retP rfl (zai ?_)
   simp [fits,a,hw]
 ·conv=>whnf
  refine retP rfl (zai ?_)
  simp [fits,a]
end
section
variable {n:Nat}{h:zaa}
theorem z7v (hn:1 ≤ n) (b:Bool):C n 199 [.bool b] h=some (.ret (i64 (if b then 1 else 0)),h):=by
 obtain ⟨m,rfl⟩:=pre1 n
 refine zad F199 rfl rfl rfl rfl ?_
 conv=>whnf
 refine br (fun a=>?_) (fun a=>?_)
 ·conv=>whnf
  exact retP rfl (zb2 (by rw [a];rfl))
 ·conv=>whnf
  exact retP rfl (zb2 (by rw [a];rfl))
theorem zli {m:Nat}(hm:1 ≤ m) (l:List Int) (hl:l.length<9223372036854775808) (sz:Nat) (hz:l≠[] → sz=1) (c:Bool) (f:Freed) (hf:f=⟨f.ver,⟨sz,c⟩,l⟩) {hp:zaa}{E:Nat}(hE0:hp[E]?=some (.cells 0 (some 145) f.cells 0)) {Q:Ex → LS → Prop}{s:LS}(v0 v3:AV)
  (hs:LS.sub ⟨[(0,v0),(3,v3),(4,.ptr E 0 0),(5,i64 0)],hp,[]⟩ s)
  (hE:zki l=true → ∀ L,subL [(0,v0),(3,v3)] L → Q (.exit 2) ⟨L,hp,[]⟩) (hR:zki l=false → ∀ L,lk L 2=some (.bool false) → Q .ret ⟨L,hp,[]⟩) :
  OkR Tryz.prog (C m) cfg0.inl KK 77 7 (.loop (c150.lp 1)) s Q:=by
 refine za3 (by decide) rfl (α:=Nat) (fun x=>⟨[(0,v0),(3,v3),(4,.ptr E 0 0),(5,i64 x)],hp,[]⟩) (fun x=>x ≤ l.length ∧ ∀ i,i<x → pgAt l i=true) (fun x=>l.length-x) 0 hs ⟨Nat.zero_le _,fun i hi=>absurd hi (Nat.not_lt_zero _)⟩ (by show l.length-0<KK;simp only [KK];omega) ?_
 rintro j ⟨g1,g2⟩
 have e0:f.cells=[i64 f.ver,.lst sz (l.map i64) c]:=by rw [hf];rfl
 rw [e0] at hE0
 conv=>whnf
 refine ldI hE0 ?_
 conv=>whnf
 refine brd (fun a=>?_) (fun a=>?_)
 ·have hj:j<l.length:=by rw [List.length_map] at a;omega
  conv=>whnf
  refine ldI hE0 ?_
  conv=>whnf
  refine ⟨by omega,hz (fun e=>by subst e;simp at hj),i64 l[j],by simp [hj],[i64 l[j]],rfl,?_⟩
  conv=>whnf
  refine clI (zgs (by omega) _) ?_
  conv=>whnf
  refine brn (fun b=>?_) (fun b=>?_)
  ·conv=>whnf
   exact hR (zd3 hj (by rw [ze2 hj];simp [b])) _ rfl
  ·conv=>whnf
   refine brd (fun d=>?_) (fun d=>?_)
   ·have hj1:j-1<l.length:=by omega
    have hj0:j≠0:=by omega
    conv=>whnf
    refine ldI hE0 ?_
    conv=>whnf
    refine ⟨by omega,hz (fun e=>by subst e;simp at hj),i64 l[j],by simp [hj],[i64 l[j]],rfl,?_⟩
    conv=>whnf
    refine ldI hE0 ?_
    conv=>whnf
    refine zI (z:=((j-1:Nat):Int)) (by rw [zae (by omega) (by omega)];omega) ?_
    conv=>whnf
    refine ⟨by omega,hz (fun e=>by subst e;simp at hj),i64 l[j-1],by simp [hj1],[i64 l[j-1]],rfl,?_⟩
    conv=>whnf
    refine brd (fun e=>?_) (fun e=>?_)
    ·conv=>whnf
     exact hR (zd3 hj (by rw [ze2 hj];simp [hj0];omega)) _ rfl
    ·conv=>whnf
     refine zJ j ?_
     exact nxI (j+1) ⟨hj,zho g2 (by rw [ze2 hj];simp [b];omega)⟩ (by omega) ⟨⟨rfl,rfl,rfl,rfl⟩,rfl,rfl⟩
   ·have hj0:j=0:=by omega
    conv=>whnf
    refine zJ j ?_
    exact nxI (j+1) ⟨hj,zho g2 (by rw [ze2 hj,b];simp [hj0])⟩ (by omega) ⟨⟨rfl,rfl,rfl,rfl⟩,rfl,rfl⟩
 ·have hj:j=l.length:=by rw [List.length_map] at a;omega
  subst hj
  conv=>whnf
  exact hE (zky g2) _ ⟨rfl,rfl⟩
theorem zsj (hn:2 ≤ n) (l:List Freed) (hl:l.length<1048576) (hf:∀ f∈l,f.Ok ∧ f.pages.length<9223372036854775808) (sz:Nat) (hz:l≠[] → sz=2) (c:Bool):C n 150 [.lst sz (l.map Freed.av) c] h=some (.ret (.bool (zdi l)),h):=by
 obtain ⟨m,rfl⟩:=pre1 n
 refine zad F150 rfl rfl rfl (zbk zc6 l rfl) ?_
 conv=>whnf
 refine za3 (by decide) rfl (α:=Nat × zaa) (fun x=>⟨[(0,.lst sz (l.map Freed.av) c),(3,i64 x.1)],x.2,[]⟩) (fun x=>x.1 ≤ l.length ∧ ∀ i,i<x.1 → frAt l i=true) (fun x=>l.length-x.1) (0,[]) ⟨⟨rfl,rfl⟩,rfl,rfl⟩ ⟨Nat.zero_le _,fun i hi=>absurd hi (Nat.not_lt_zero _)⟩ (by show l.length-0<KK;simp only [KK];omega) ?_
 rintro ⟨j,hp⟩ ⟨g1,g2⟩
 simp only at g1 g2
 conv=>whnf
 refine brd (fun a=>?_) (fun a=>?_)
 ·have hj:j<l.length:=by simp only [List.length_map] at a;omega
  obtain ⟨k1,k2⟩:=hf _ (List.getElem_mem hj)
  conv=>whnf
  refine ixL zbb hj hz ?_
  conv=>whnf
  refine stJ (zaf _ _) ?_
  conv=>whnf
  refine ldI (zag _ _ _) ?_
  conv=>whnf
  refine brd (fun v1=>?_) (fun v1=>?_)
  ·have v':zar l[j].ver 0 1099511627776=false:=by simp [zar];omega
   conv=>whnf
   exact retP rfl (zai (zd3 hj (by rw [zc0 hj];simp [v'])).symm)
  conv=>whnf
  refine ldI (zag _ _ _) ?_
  conv=>whnf
  refine brd (fun v2=>?_) (fun v2=>?_)
  ·have v':zar l[j].ver 0 1099511627776=false:=by simp [zar];omega
   conv=>whnf
   exact retP rfl (zai (zd3 hj (by rw [zc0 hj];simp [v'])).symm)
  have W:zar l[j].ver 0 1099511627776=true:=within_iff.2 (by omega)
  conv=>whnf
  refine brd (fun b=>?_) (fun b=>?_)
  ·have hj1:j-1<l.length:=by simp only at b;omega
   have hj0:j≠0:=by simp only at b;omega
   conv=>whnf
   refine ldI (zag _ _ _) ?_
   conv=>whnf
   refine zI (z:=((j-1:Nat):Int)) (by simp only at b;rw [zae (by simp only;omega) (by simp only;omega)];simp only;omega) ?_
   conv=>whnf
   refine ixL (l:=l) (j:=j-1) zbb hj1 hz ?_
   conv=>whnf
   refine brd (fun e=>?_) (fun e=>?_)
   ·have e':¬ l[j-1].ver<l[j].ver:=by omega
    conv=>whnf
    exact retP rfl (zai (zd3 hj (by rw [zc0 hj];simp [e',hj0])).symm)
   ·have hord:(decide (j=0)||decide (l[j-1].ver<l[j].ver))=true:=by simp;omega
    conv=>whnf
    refine ldI (zag _ _ _) ?_
    conv=>whnf
    refine bre (fun d=>?_) (fun d=>?_)
    ·have d':l[j].pages=[]:=List.length_eq_zero_iff.1 (by rw [List.length_map] at d;omega)
     conv=>whnf
     exact retP rfl (zai (zd3 hj (by rw [zc0 hj];simp [d'])).symm)
    ·have d':l[j].pages≠[]:=by
      intro q
      rw [q] at d
      exact d rfl
     conv=>whnf
     refine zli (by omega) l[j].pages k2 l[j].sh.sz k1 l[j].sh.c l[j] rfl (zag _ _ _) (.lst sz (l.map Freed.av) c) (i64 j) ⟨⟨rfl,rfl,rfl,rfl⟩,rfl,rfl⟩ (fun q L hL=>?_) (fun q L hk=>?_)
     ·refine cutI (by decide) rfl (t:=⟨[(0,.lst sz (l.map Freed.av) c),(3,i64 j)],_,[]⟩) ⟨hL,rfl,rfl⟩ ?_
      conv=>whnf
      refine zJ j ?_
      refine nxI (j+1,_) ⟨hj,zho g2 (by rw [zc0 hj,q,W,hord];simp [d'])⟩ (by simp only;omega) ⟨⟨rfl,rfl⟩,rfl,rfl⟩
     ·exact retK hk (zai (zd3 hj (by rw [zc0 hj,q];simp)).symm)
  ·have hj0:j=0:=by simp only at b;omega
   have hord:(decide (j=0)||decide (l[j-1].ver<l[j].ver))=true:=by simp [hj0]
   conv=>whnf
   refine ldI (zag _ _ _) ?_
   conv=>whnf
   refine bre (fun d=>?_) (fun d=>?_)
   ·have d':l[j].pages=[]:=List.length_eq_zero_iff.1 (by rw [List.length_map] at d;omega)
    conv=>whnf
    exact retP rfl (zai (zd3 hj (by rw [zc0 hj];simp [d'])).symm)
   ·have d':l[j].pages≠[]:=by
     intro q
     rw [q] at d
     exact d rfl
    conv=>whnf
    refine zli (by omega) l[j].pages k2 l[j].sh.sz k1 l[j].sh.c l[j] rfl (zag _ _ _) (.lst sz (l.map Freed.av) c) (i64 j) ⟨⟨rfl,rfl,rfl,rfl⟩,rfl,rfl⟩ (fun q L hL=>?_) (fun q L hk=>?_)
    ·refine cutI (by decide) rfl (t:=⟨[(0,.lst sz (l.map Freed.av) c),(3,i64 j)],_,[]⟩) ⟨hL,rfl,rfl⟩ ?_
     conv=>whnf
     refine zJ j ?_
     refine nxI (j+1,_) ⟨hj,zho g2 (by rw [zc0 hj,q,W,hord];simp [d'])⟩ (by simp only;omega) ⟨⟨rfl,rfl⟩,rfl,rfl⟩
    ·exact retK hk (zai (zd3 hj (by rw [zc0 hj,q];simp)).symm)
 ·have hj:j=l.length:=by simp only [List.length_map] at a;omega
  subst hj
  conv=>whnf
  refine cutI (by decide) rfl (t:=⟨[],hp,[]⟩) ⟨trivial,rfl,rfl⟩ ?_
  conv=>whnf
  exact retP rfl (zai (zky g2).symm)
theorem zkz:∀ (l:List Freed),(∀ f∈l,f.pages.length<1048576) → 0 ≤ zej l ∧ zej l ≤ 1048578*l.length
 | [],_=>by simp [zej]
 | f::r,h=>by
  have h1:=zkz r fun x hx=>h x (List.mem_cons_of_mem _ hx)
  have h2:=h f (List.mem_cons_self ..)
  simp only [zej,List.map_cons,List.sum_cons,List.length_cons] at h1 ⊢
  omega
theorem ztq (hn:1 ≤ n) (l:List Freed) (hl:l.length<1048576) (hf:∀ f∈l,f.pages.length<1048576) (sz:Nat) (hz:l≠[] → sz=2) (c:Bool):C n 151 [.lst sz (l.map Freed.av) c] h=some (.ret (i64 (zej l)),h):=by
 obtain ⟨m,rfl⟩:=pre1 n
 refine zad F151 rfl rfl rfl (zbk zc6 l rfl) ?_
 conv=>whnf
 refine za3 (by decide) rfl (α:=Nat) (fun x=>⟨[(0,.lst sz (l.map Freed.av) c),(3,i64 (zej (l.take x))),(4,i64 x)],[],[]⟩) (fun x=>x ≤ l.length) (fun x=>l.length-x) 0 ⟨⟨rfl,rfl,rfl⟩,rfl,rfl⟩ (Nat.zero_le _) (by show l.length-0<KK;simp only [KK];omega) ?_
 intro j g1
 conv=>whnf
 refine brd (fun a=>?_) (fun a=>?_)
 ·have hj:j<l.length:=by simp only [List.length_map] at a;omega
  have k2:=hf _ (List.getElem_mem hj)
  have hb:=zkz (l.take j) fun f h=>hf f (List.mem_of_mem_take h)
  rw [List.length_take] at hb
  have el:((l[j].pages.map i64).length:Int)=(l[j].pages.length:Int):=by rw [List.length_map]
  conv=>whnf
  refine zI (z:=zej (l.take j)+2) (zae (by omega) (by omega)) ?_
  conv=>whnf
  refine ixL zbb hj hz ?_
  conv=>whnf
  refine zI (z:=zej (l.take (j+1))) (by rw [zu9 l hj,el,zae (by omega) (by omega)];omega) ?_
  conv=>whnf
  refine zJ j ?_
  exact nxI (j+1) hj (by omega) ⟨⟨rfl,rfl,rfl⟩,rfl,rfl⟩
 ·have hj:j=l.length:=by simp only [List.length_map] at a;omega
  subst hj
  conv=>whnf
  refine cutI (by decide) rfl (t:=⟨[(3,i64 (zej l))],[],[]⟩) ⟨by rw [List.take_length];rfl,rfl,rfl⟩ ?_
  conv=>whnf
  exact retP rfl (zb2 rfl)
end
def zff (p:Page):Bool:=(if p.kind=1 ∨ p.kind=2 then p.next==0 else p.plain)&&((p.kind==3||p.data==[])&&(p.kind==4||(p.freed.length:Int)==0))
theorem z4t {p:Page}(h:zaz p.no=false):p.check=false:=by unfold Page.check;rw [h];rfl
theorem zrn {p:Page}(h:zar p.ver 0 1099511627776=false):p.check=false:=by unfold Page.check;rw [h];simp
theorem zs5 {p:Page}(h:zff p=false):p.check=false:=by
 rw [← Bool.not_eq_true,check_iff]
 rintro ⟨_,_,⟨hk,_,_,_,a,b,c⟩ | ⟨hk,a,_,_,c⟩ | ⟨hk,a,_,b,_⟩⟩
 ·unfold zff at h
  rw [if_pos hk,a,b,c] at h
  simp at h
 ·unfold zff at h
  rw [if_neg (by omega),a,hk,c] at h
  simp at h
 ·unfold zff at h
  rw [if_neg (by omega),a,hk,b] at h
  simp at h
theorem zcj {p:Page}(h1:zaz p.no=true) (h2:zar p.ver 0 1099511627776=true) (hp:zff p=true) (hk:p.kind=1 ∨ p.kind=2):p.check=(((p.kind==1)==(p.level==0))&&(zar p.tree 0 255&&fits p.entries p.level)):=by
 unfold Page.check
 unfold zff at hp
 have k3:(p.kind==3)=false:=by simp;omega
 have k4:(p.kind==4)=false:=by simp;omega
 rw [if_pos hk,k3,k4] at hp
 simp only [Bool.and_eq_true,Bool.false_or] at hp
 obtain ⟨a,b,c⟩:=hp
 rw [h1,h2,if_pos hk,a,b,c]
 simp only [Bool.true_and,Bool.and_true]
 cases zar p.tree 0 255<;>cases ((p.kind==1)==(p.level==0))<;>rfl
theorem zew {p:Page}(h1:zaz p.no=true) (h2:zar p.ver 0 1099511627776=true) (hp:zff p=true) (hk:p.kind=3):p.check=(zcv p.next&&zar p.data.length 1 490):=by
 unfold Page.check
 unfold zff at hp
 have k4:(p.kind==4)=false:=by simp;omega
 rw [if_neg (by omega),k4] at hp
 simp only [Bool.and_eq_true,Bool.false_or] at hp
 obtain ⟨a,b,c⟩:=hp
 rw [h1,h2,if_neg (by omega),if_pos hk,a,c]
 simp
theorem zct {p:Page}(h1:zaz p.no=true) (h2:zar p.ver 0 1099511627776=true) (hp:zff p=true) (hk:p.kind=4):p.check=(zcv p.next&&(zdi p.freed&&decide (zbo p.freed ≤ 496))):=by
 unfold Page.check
 unfold zff at hp
 have k3:(p.kind==3)=false:=by simp;omega
 rw [if_neg (by omega),k3] at hp
 simp only [Bool.and_eq_true,Bool.false_or] at hp
 obtain ⟨a,b,c⟩:=hp
 rw [h1,h2,if_neg (by omega),if_neg (by omega),if_pos hk,a,b]
 simp
theorem zs6 {p:Page}(hk:¬(p.kind=1 ∨ p.kind=2)) (h3:p.kind≠3) (h4:p.kind≠4):p.check=false:=by
 unfold Page.check
 rw [if_neg hk,if_neg h3,if_neg h4]
 simp
section
variable {n:Nat}{h:zaa}
theorem zx7 (hn:1 ≤ n) (p:Page):C n 148 [p.av] h=some (.ret (.bool (zff p)),h):=by
 obtain ⟨m,rfl⟩:=pre1 n
 refine zad F148 rfl rfl rfl (by simp [zao,zbv]) ?_
 repeat' (conv=>whnf);first
  | refine retP rfl (zai ?_)
  | refine brd (fun _=>?_) (fun _=>?_)
  | refine bre (fun _=>?_) (fun _=>?_)
  | refine brq (fun _=>?_) (fun _=>?_)
  | refine brn (fun _=>?_) (fun _=>?_)
  | refine br (fun _=>?_) (fun _=>?_)
  | refine ldI (by rfl) ?_
  | refine ldI (zag _ _ _) ?_
  | refine ldI (zaf _ _) ?_
  | refine stJ (by rfl) ?_
  | refine stJ (zaf _ _) ?_
  | refine cutS (by decide) rfl ?_
 all_goals simp_all [zff,Page.plain]
 all_goals first | omega | (intro q;simp_all)
theorem zoj (hn:2 ≤ n) (l:List Freed) (hl:l.length ≤ 496) (hk:zdi l=true) (hf:∀ f∈l,f.Ok ∧ f.pages.length<1048576) (sz:Nat) (hz:l≠[] → sz=2) (c:Bool):C n 152 [.lst sz (l.map Freed.av) c] h=some (.ret (.str (num l.length 2++zbe l)),h):=by
 obtain ⟨m,rfl⟩:=pre1 n
 have cN:∀ (k:Int) (w:Nat) (h:zaa),0 ≤ k → k<9223372036854775808 → w ≤ 8 → C m 61 [i64 k,i64 w] h=some (.ret (.str (num k.toNat w)),h):=fun k w h h1 h2 h3=>by
  have:=zcp (n:=m) (h:=h) (by omega) k.toNat w h3 (by omega)
  rwa [show ((k.toNat:Nat):Int)=k by omega] at this
 have hle:∀ j,j ≤ l.length → (zbe (l.take j)).length ≤ 4194312*j:=fun j hj=>by
  have h1:=zc4 (l.take j)
  have h2:=zgq (l.take j) fun f h=>(hf f (List.mem_of_mem_take h)).2
  rw [List.length_take] at h2
  omega
 refine zad F152 rfl rfl rfl (zbk zc6 l rfl) ?_
 conv=>whnf
 refine clI (by rw [List.length_map];exact cN l.length 2 _ (by omega) (by omega) (by omega)) ?_
 conv=>whnf
 refine za3 (by decide) rfl (α:=Nat) (fun x=>⟨[(0,.lst sz (l.map Freed.av) c),(3,.str (num l.length 2++zbe (l.take x))),(4,i64 x)],[],[]⟩) (fun x=>x ≤ l.length) (fun x=>l.length-x) 0 ⟨⟨rfl,by simp [zbe];rfl,rfl⟩,rfl,rfl⟩ (Nat.zero_le _) (by show l.length-0<KK;simp only [KK];omega) ?_
 intro j g1
 have hlj:=hle j g1
 conv=>whnf
 refine brd (fun a=>?_) (fun a=>?_)
 ·have hj:j<l.length:=by simp only [List.length_map] at a;omega
  obtain ⟨k1,k2⟩:=hf _ (List.getElem_mem hj)
  obtain ⟨v1,_,_,p1⟩:=zhk hk hj
  have hnn:∀ k (hk:k<l[j].pages.length),2 ≤ (l[j].pages[k]) ∧ l[j].pages[k] ≤ 4095:=fun k hk=>(zkq p1 hk).1
  conv=>whnf
  refine ixL zbb hj hz ?_
  conv=>whnf
  refine clI (cN l[j].ver 6 _ (by omega) (by omega) (by omega)) ?_
  conv=>whnf
  refine ⟨by simp only [List.length_append,zam];omega,?_⟩
  conv=>whnf
  refine ixL zbb hj hz ?_
  conv=>whnf
  refine clI (by rw [List.length_map];exact cN l[j].pages.length 2 _ (by omega) (by omega) (by omega)) ?_
  conv=>whnf
  refine ⟨by simp only [List.length_append,zam];omega,?_⟩
  conv=>whnf
  refine za3 (by decide) rfl (α:=Nat) (fun x=>⟨[(0,.lst sz (l.map Freed.av) c),(3,.str (((num l.length 2++zbe (l.take j))++num l[j].ver.toNat 6)++num l[j].pages.length 2++zem (l[j].pages.take x))),(4,i64 j),(5,i64 x)],[],[]⟩) (fun x=>x ≤ l[j].pages.length) (fun x=>l[j].pages.length-x) 0 ⟨⟨rfl,by simp [zem];rfl,rfl,rfl⟩,rfl,rfl⟩ (Nat.zero_le _) (by show l[j].pages.length-0<KK;simp only [KK];omega) ?_
  intro k gk
  have hpl:=zjr (l[j].pages.take k)
  rw [List.length_take] at hpl
  conv=>whnf
  refine ixL zbb hj hz ?_
  conv=>whnf
  refine brd (fun b=>?_) (fun b=>?_)
  ·have hkl:k<l[j].pages.length:=by simp only [List.length_map] at b;omega
   have hnk:=hnn k hkl
   conv=>whnf
   refine ixL zbb hj hz ?_
   conv=>whnf
   refine ⟨by omega,k1 (fun e=>by rw [e] at hkl;simp at hkl),i64 l[j].pages[k],by simp [hkl],[i64 l[j].pages[k]],rfl,?_⟩
   conv=>whnf
   refine clI (cN l[j].pages[k] 4 _ (by omega) (by omega) (by omega)) ?_
   conv=>whnf
   refine ⟨by simp only [List.length_append,zam];omega,?_⟩
   conv=>whnf
   refine zI (z:=((k+1:Nat):Int)) (by rw [zae (by omega) (by omega)];rfl) ?_
   exact nxI (k+1) hkl (by omega) ⟨⟨rfl,by rw [zlp _ _ hkl,← List.append_assoc];rfl,rfl,rfl⟩,rfl,rfl⟩
  ·have hkl:k=l[j].pages.length:=by simp only [List.length_map] at b;omega
   subst hkl
   conv=>whnf
   refine cutI (by decide) rfl (t:=⟨[(0,.lst sz (l.map Freed.av) c),(3,.str (num l.length 2++zbe (l.take (j+1)))),(4,i64 j)],[],[]⟩) ⟨⟨rfl,by rw [zkd _ _ hj,List.take_length];unfold zh1;simp only [List.append_assoc];rfl,rfl⟩,rfl,rfl⟩ ?_
   conv=>whnf
   refine zJ j ?_
   exact nxI (j+1) hj (by omega) ⟨⟨rfl,rfl,rfl⟩,rfl,rfl⟩
 ·have hj:j=l.length:=by simp only [List.length_map] at a;omega
  subst hj
  conv=>whnf
  refine cutI (by decide) rfl (t:=⟨[(3,.str (num l.length 2++zbe l))],[],[]⟩) ⟨by rw [List.take_length];rfl,rfl,rfl⟩ ?_
  conv=>whnf
  exact retP rfl (zbw rfl)
theorem zj7 (hn:6 ≤ n) (p:Page) (ok:p.Ok):C n 76 [p.av] h=some (.ret (.bool p.check),h):=by
 obtain ⟨m,rfl⟩:=pre1 n
 have cN:∀ h,C m 147 [i64 p.no] h=some (.ret (.bool (zaz p.no)),h):=fun h=>zgs (by omega) _
 have cX:∀ h,C m 147 [i64 p.next] h=some (.ret (.bool (zaz p.next)),h):=fun h=>zgs (by omega) _
 have cP:∀ h,C m 148 [p.av] h=some (.ret (.bool (zff p)),h):=fun h=>zx7 (by omega) p
 have cF:∀ h,C m 149 [.lst p.esh.sz (p.entries.map Entry.av) p.esh.c,i64 p.level] h=some (.ret (.bool (fits p.entries p.level)),h):=fun h=>zvs (by omega) _ ok.elen ok.ent _ _ ok.esz _
 have cR:∀ h,C m 150 [.lst p.fsh.sz (p.freed.map Freed.av) p.fsh.c] h=some (.ret (.bool (zdi p.freed)),h):=fun h=>zsj (by omega) _ ok.flen ok.fr _ ok.fsz _
 have lbl:=zjy p.freed
 have wl:=z13 p.freed
 refine zad F76 rfl rfl rfl (by simp [zao,zbv]) ?_
 conv=>whnf
 refine ldI (by rfl) ?_
 conv=>whnf
 refine brd (fun v1=>?_) (fun v1=>?_)
 ·conv=>whnf
  exact retP rfl (zai (zrn (by simp [zar];omega)).symm)
 conv=>whnf
 refine ldI (by rfl) ?_
 conv=>whnf
 refine brd (fun v2=>?_) (fun v2=>?_)
 ·conv=>whnf
  exact retP rfl (zai (zrn (by simp [zar];omega)).symm)
 have W:zar p.ver 0 1099511627776=true:=within_iff.2 (by omega)
 conv=>whnf
 refine ldI (by rfl) ?_
 conv=>whnf
 refine clI (cN _) ?_
 conv=>whnf
 refine brn (fun a1=>?_) (fun a1=>?_)
 ·conv=>whnf
  exact retP rfl (zai (z4t a1).symm)
 conv=>whnf
 refine ldI (by rfl) ?_
 conv=>whnf
 refine clI (cP _) ?_
 conv=>whnf
 refine brn (fun a2=>?_) (fun a2=>?_)
 ·conv=>whnf
  exact retP rfl (zai (zs5 a2).symm)
 conv=>whnf
 refine ldI (by rfl) ?_
 conv=>whnf
 refine bre (fun k1=>?_) (fun k1=>?_)
 ·have hk:p.kind=1 ∨ p.kind=2:=.inl k1
  conv=>whnf
  refine ldI (by rfl) ?_
  conv=>whnf
  refine ldI (by rfl) ?_
  conv=>whnf
  refine eqI (zo7 (p.kind==1) (p.level==0)) ?_
  conv=>whnf
  refine br (fun b1'=>?_) (fun b1'=>?_)
  ·have b1:((p.kind==1)==(p.level==0))=true:=b1'
   conv=>whnf
   refine ldI (by rfl) ?_
   conv=>whnf
   refine brd (fun t1=>?_) (fun t1=>?_)
   ·conv=>whnf
    refine ldI (by rfl) ?_
    conv=>whnf
    refine brd (fun t2=>?_) (fun t2=>?_)
    ·have T:zar p.tree 0 255=true:=within_iff.2 (by omega)
     conv=>whnf
     refine ldI (by rfl) ?_
     conv=>whnf
     refine brd (fun d=>?_) (fun d=>?_)
     ·conv=>whnf
      refine ldI (by rfl) ?_
      conv=>whnf
      refine ldI (by rfl) ?_
      conv=>whnf
      refine clI (cF _) ?_
      conv=>whnf
      exact retP rfl (zai (by rw [zcj a1 W a2 hk,b1,T];rfl))
     ·have hf:fits p.entries p.level=false:=by
       rw [← Bool.not_eq_true]
       intro q
       have:=(zep (tree:=0) (top:=true) (base:=12) q).2.2
       rw [List.length_map] at d
       omega
      conv=>whnf
      exact retP rfl (zai (by rw [zcj a1 W a2 hk,hf];simp))
    ·conv=>whnf
     exact retP rfl (zai (by rw [zcj a1 W a2 hk,show zar p.tree 0 255=false by simp [zar];omega];simp))
   ·conv=>whnf
    exact retP rfl (zai (by rw [zcj a1 W a2 hk,show zar p.tree 0 255=false by simp [zar];omega];simp))
  ·have b1:((p.kind==1)==(p.level==0))=false:=b1'
   conv=>whnf
   exact retP rfl (zai (by rw [zcj a1 W a2 hk,b1];rfl))
 conv=>whnf
 refine bre (fun k2=>?_) (fun k2=>?_)
 ·have hk:p.kind=1 ∨ p.kind=2:=.inr k2
  conv=>whnf
  refine ldI (by rfl) ?_
  conv=>whnf
  refine ldI (by rfl) ?_
  conv=>whnf
  refine eqI (zo7 (p.kind==1) (p.level==0)) ?_
  conv=>whnf
  refine br (fun b1'=>?_) (fun b1'=>?_)
  ·have b1:((p.kind==1)==(p.level==0))=true:=b1'
   conv=>whnf
   refine ldI (by rfl) ?_
   conv=>whnf
   refine brd (fun t1=>?_) (fun t1=>?_)
   ·conv=>whnf
    refine ldI (by rfl) ?_
    conv=>whnf
    refine brd (fun t2=>?_) (fun t2=>?_)
    ·have T:zar p.tree 0 255=true:=within_iff.2 (by omega)
     conv=>whnf
     refine ldI (by rfl) ?_
     conv=>whnf
     refine brd (fun d=>?_) (fun d=>?_)
     ·conv=>whnf
      refine ldI (by rfl) ?_
      conv=>whnf
      refine ldI (by rfl) ?_
      conv=>whnf
      refine clI (cF _) ?_
      conv=>whnf
      exact retP rfl (zai (by rw [zcj a1 W a2 hk,b1,T];rfl))
     ·have hf:fits p.entries p.level=false:=by
       rw [← Bool.not_eq_true]
       intro q
       have:=(zep (tree:=0) (top:=true) (base:=12) q).2.2
       rw [List.length_map] at d
       omega
      conv=>whnf
      exact retP rfl (zai (by rw [zcj a1 W a2 hk,hf];simp))
    ·conv=>whnf
     exact retP rfl (zai (by rw [zcj a1 W a2 hk,show zar p.tree 0 255=false by simp [zar];omega];simp))
   ·conv=>whnf
    exact retP rfl (zai (by rw [zcj a1 W a2 hk,show zar p.tree 0 255=false by simp [zar];omega];simp))
  ·have b1:((p.kind==1)==(p.level==0))=false:=b1'
   conv=>whnf
   exact retP rfl (zai (by rw [zcj a1 W a2 hk,b1];rfl))
 conv=>whnf
 refine bre (fun k3=>?_) (fun k3=>?_)
 ·conv=>whnf
  refine ldI (by rfl) ?_
  conv=>whnf
  refine bre (fun x1=>?_) (fun x1=>?_)
  ·have hl:zcv p.next=true:=by simp [zcv,x1]
   conv=>whnf
   refine ldI (by rfl) ?_
   conv=>whnf
   refine brd (fun d1=>?_) (fun d1=>?_)
   ·conv=>whnf
    refine ldI (by rfl) ?_
    conv=>whnf
    exact retP rfl (zai (by rw [zew a1 W a2 k3,hl];simp [zar];omega))
   ·conv=>whnf
    exact retP rfl (zai (by rw [zew a1 W a2 k3,hl];simp [zar];omega))
  ·conv=>whnf
   refine ldI (by rfl) ?_
   conv=>whnf
   refine clI (cX _) ?_
   conv=>whnf
   refine br (fun x2=>?_) (fun x2=>?_)
   ·have hl:zcv p.next=true:=by simp [zcv,x2]
    conv=>whnf
    refine ldI (by rfl) ?_
    conv=>whnf
    refine brd (fun d1=>?_) (fun d1=>?_)
    ·conv=>whnf
     refine ldI (by rfl) ?_
     conv=>whnf
     exact retP rfl (zai (by rw [zew a1 W a2 k3,hl];simp [zar];omega))
    ·conv=>whnf
     exact retP rfl (zai (by rw [zew a1 W a2 k3,hl];simp [zar];omega))
   ·conv=>whnf
    exact retP rfl (zai (by rw [zew a1 W a2 k3,show zcv p.next=false by simp [zcv,x1,x2]];rfl))
 conv=>whnf
 refine bre (fun k4=>?_) (fun k4=>?_)
 ·conv=>whnf
  refine ldI (by rfl) ?_
  conv=>whnf
  refine bre (fun x1=>?_) (fun x1=>?_)
  ·have hl:zcv p.next=true:=by simp [zcv,x1]
   conv=>whnf
   refine ldI (by rfl) ?_
   conv=>whnf
   refine brd (fun d1=>?_) (fun d1=>?_)
   ·rw [List.length_map] at d1
    conv=>whnf
    refine ldI (by rfl) ?_
    conv=>whnf
    refine clI (cR _) ?_
    conv=>whnf
    refine br (fun fo=>?_) (fun fo=>?_)
    ·have hff:=zjb fo ok.fr
     conv=>whnf
     refine ldI (by rfl) ?_
     conv=>whnf
     refine clI (ztq (by omega) p.freed ok.flen (fun f h=>(hff f h).2) _ ok.fsz _) ?_
     conv=>whnf
     refine brd (fun w1=>?_) (fun w1=>?_)
     ·have fl:=zc4 p.freed
      conv=>whnf
      refine ldI (by rfl) ?_
      conv=>whnf
      refine clI (zoj (by omega) p.freed (by omega) fo hff _ ok.fsz _) ?_
      conv=>whnf
      exact retP rfl (zai (by rw [zct a1 W a2 k4,hl,fo,List.length_append,zam];simp;omega))
     ·conv=>whnf
      exact retP rfl (zai (by rw [zct a1 W a2 k4,show decide (zbo p.freed ≤ 496)=false by simp;omega];simp))
    ·conv=>whnf
     exact retP rfl (zai (by rw [zct a1 W a2 k4,fo];simp))
   ·rw [List.length_map] at d1
    conv=>whnf
    exact retP rfl (zai (by rw [zct a1 W a2 k4,show decide (zbo p.freed ≤ 496)=false by simp;omega];simp))
  ·conv=>whnf
   refine ldI (by rfl) ?_
   conv=>whnf
   refine clI (cX _) ?_
   conv=>whnf
   refine br (fun x2=>?_) (fun x2=>?_)
   ·have hl:zcv p.next=true:=by simp [zcv,x2]
    conv=>whnf
    refine ldI (by rfl) ?_
    conv=>whnf
    refine brd (fun d1=>?_) (fun d1=>?_)
    ·rw [List.length_map] at d1
     conv=>whnf
     refine ldI (by rfl) ?_
     conv=>whnf
     refine clI (cR _) ?_
     conv=>whnf
     refine br (fun fo=>?_) (fun fo=>?_)
     ·have hff:=zjb fo ok.fr
      conv=>whnf
      refine ldI (by rfl) ?_
      conv=>whnf
      refine clI (ztq (by omega) p.freed ok.flen (fun f h=>(hff f h).2) _ ok.fsz _) ?_
      conv=>whnf
      refine brd (fun w1=>?_) (fun w1=>?_)
      ·have fl:=zc4 p.freed
       conv=>whnf
       refine ldI (by rfl) ?_
       conv=>whnf
       refine clI (zoj (by omega) p.freed (by omega) fo hff _ ok.fsz _) ?_
       conv=>whnf
       exact retP rfl (zai (by rw [zct a1 W a2 k4,hl,fo,List.length_append,zam];simp;omega))
      ·conv=>whnf
       exact retP rfl (zai (by rw [zct a1 W a2 k4,show decide (zbo p.freed ≤ 496)=false by simp;omega];simp))
     ·conv=>whnf
      exact retP rfl (zai (by rw [zct a1 W a2 k4,fo];simp))
    ·rw [List.length_map] at d1
     conv=>whnf
     exact retP rfl (zai (by rw [zct a1 W a2 k4,show decide (zbo p.freed ≤ 496)=false by simp;omega];simp))
   ·conv=>whnf
    exact retP rfl (zai (by rw [zct a1 W a2 k4,show zcv p.next=false by simp [zcv,x1,x2]];rfl))
 ·conv=>whnf
  exact retP rfl (zai (zs6 (by omega) k3 k4).symm)
end
theorem z6x {s:Str}{j:Nat}(hj:j<s.length):putAt ((List.replicate (s.length-j) (0:UInt8)++(s.take j).reverse).map u8) (s.length-j-1) [u8 s[j]]=(List.replicate (s.length-(j+1)) (0:UInt8)++(s.take (j+1)).reverse).map u8:=by
 have e:s.length-j=(s.length-j-1)+1:=by omega
 rw [List.take_succ_eq_append_getElem hj,List.reverse_append,show s.length-(j+1)=s.length-j-1 by omega]
 conv=>lhs;arg 1;rw [e]
 rw [zyy]
 simp
theorem z46:∀ w,rep w [AV.int .u8 0]=(List.replicate w (0:UInt8)).map u8:=fun w=>by
 induction w with
 | zero=>rfl
 | succ w ih=>rw [List.replicate_succ,List.map_cons,← ih];rfl
section
variable {n:Nat}{h:zaa}
theorem zsf (hn:1 ≤ n) (s:Str) (hs:s.length<1048576):C n 202 [.str s] h=some (.ret (.str s.reverse),h):=by
 obtain ⟨m,rfl⟩:=pre1 n
 refine zad F202 rfl rfl rfl rfl ?_
 conv=>whnf
 refine ⟨by omega,by omega,by omega,?_⟩
 conv=>whnf
 refine za3 (by decide) rfl (α:=Nat) (fun j=>⟨[(0,.str s),(3,.sl 1 0 0 0 s.length),(4,i64 j)],[.cells 0 (some 5) ((List.replicate (s.length-j) (0:UInt8)++(s.take j).reverse).map u8) 0],[]⟩) (fun j=>j ≤ s.length) (fun j=>s.length-j) 0 ?_ (Nat.zero_le _) (by show s.length-0<KK;simp only [KK];omega) ?_
 ·refine ⟨⟨rfl,rfl,rfl⟩,?_,rfl⟩
  show []++[AB.cells 0 (some 5) (rep ((s.length:Int)).toNat [AV.int IntKind.u8 0]) 0]=_
  rw [Int.toNat_natCast,z46]
  simp
 ·intro j hj
  conv=>whnf
  refine brd (fun a=>?_) (fun a=>?_)
  ·have hjl:j<s.length:=by omega
   conv=>whnf
   refine zI (z:=(s.length:Int)-1) (zae (by omega) (by omega)) ?_
   conv=>whnf
   refine zI (z:=(s.length:Int)-1-j) (zae (by omega) (by omega)) ?_
   conv=>whnf
   refine strI (b:=s[j]) (by omega) (by rw [Int.toNat_natCast];exact List.getElem?_eq_getElem hjl) ?_
   conv=>whnf
   refine ⟨by omega,by omega,rfl,?_⟩
   conv=>whnf
   have hi:0+((s.length:Int)-1-j).toNat*1=s.length-j-1:=by omega
   refine stI (cs:=(List.replicate (s.length-j) (0:UInt8)++(s.take j).reverse).map u8) (xs:=[u8 s[j]]) (by rfl) (by rfl) (by rfl) (by rw [Nat.ble_eq,hi];simp;omega) (by rfl) ?_
   have hput:putAt ((List.replicate (s.length-j) (0:UInt8)++(s.take j).reverse).map u8) (0+((s.length:Int)-1-j).toNat*1) [u8 s[j]]=(List.replicate (s.length-(j+1)) (0:UInt8)++(s.take (j+1)).reverse).map u8:=by
    rw [hi];exact z6x hjl
   conv=>whnf
   refine zJ j ?_
   exact nxI (j+1) hjl (by omega) ⟨⟨rfl,rfl,rfl⟩,congrArg (fun x=>[AB.cells 0 (some 5) x 0]) hput,rfl⟩
  ·have hjl:j=s.length:=by omega
   have e:((List.replicate (s.length-j) (0:UInt8)++(s.take j).reverse).map u8)=s.reverse.map u8:=by
    subst hjl;simp
   have hf:=zhm (h:=[AB.cells 0 (some 5) (s.reverse.map u8) 0]) (bb:=0) (ver:=0) (el:=some 5) (s:=s.reverse) (frz:=0) rfl
   rw [List.length_reverse] at hf
   rw [e]
   conv=>whnf
   refine cutI (by decide) rfl (t:=⟨[(3,.sl 1 0 0 0 s.length)],[AB.cells 0 (some 5) (s.reverse.map u8) 0],[]⟩) ⟨rfl,rfl,rfl⟩ ?_
   conv=>whnf
   refine ⟨_,s.reverse,hf,zbt _,?_⟩
   conv=>whnf
   exact retP rfl (zbw rfl)
theorem zys (hn:4 ≤ n) (s:Str) (hs:s.length<1099511627776):C n 154 [.str s] h=some (.ret (.str (crcB s)),h):=by
 obtain ⟨m,rfl⟩:=pre1 n
 have cN:=fun h=>zcp (n:=m) (h:=h) (by omega) (crc s).toNat 4 (by omega) (by have:=(crc s).toNat_lt;omega)
 have cR:=fun h=>zsf (n:=m) (h:=h) (by omega) (num (crc s).toNat 4) (by rw [zam];decide)
 refine zad F154 rfl rfl rfl rfl ?_
 conv=>whnf
 refine clI (zyx (by omega) s hs) ?_
 conv=>whnf
 refine zI (z:=((crc s).toNat:Int)) (by have:=(crc s).toNat_lt;exact zae (by omega) (by omega)) ?_
 conv=>whnf
 refine clI (cN _) ?_
 conv=>whnf
 refine clI (cR _) ?_
 conv=>whnf
 exact retP rfl (zbw (z4q s).symm)
theorem z3d (hn:4 ≤ n) (p:Page) (ok:p.Ok) (hc:p.check=true):C n 153 [p.av] h=some (.ret (.str p.bodyB),h):=by
 obtain ⟨m,rfl⟩:=pre1 n
 obtain ⟨hno,hver,hk⟩:=check_iff.1 hc
 have cN:∀ (k:Int) (w:Nat) (h:zaa),0 ≤ k → k<9223372036854775808 → w ≤ 8 → C m 61 [i64 k,i64 w] h=some (.ret (.str (num k.toNat w)),h):=fun k w h h1 h2 h3=>by
  have:=zcp (n:=m) (h:=h) (by omega) k.toNat w h3 (by omega)
  rwa [show ((k.toNat:Nat):Int)=k by omega] at this
 rcases hk with ⟨hk,ht,_,hf,_⟩ | ⟨hk,_,hl,hd,_⟩ | ⟨hk,_,hl,_,fo,hls⟩
 ·have k3:p.kind≠3:=by omega
  have k4:p.kind≠4:=by omega
  obtain ⟨_,hv,hlen⟩:=zep (tree:=0) (top:=true) (base:=12) hf
  obtain ⟨⟨q1,q2⟩,_⟩:=valid_iff.1 hv
  have hsl:=zha hv
  have cP:=fun h=>zgg (n:=m) (h:=h) (by omega) p.entries ok.elen ok.ent p.level (zg5 hv) _ ok.esz p.esh.c
  have cE:=fun h=>zo8 (n:=m) (h:=h) (by omega) p.entries ok.elen p.level hv 18 (by decide) _ ok.esz p.esh.c
  have cG:=fun h=>z7v (n:=m) (h:=h) (by omega) p.top
  have hel:=zgv hv p.entries.length (Nat.le_refl _)
  refine zad F153 rfl rfl rfl (by simp [zao,zbv]) ?_
  conv=>whnf
  refine ldI (by rfl) ?_
  conv=>whnf
  refine bre (fun q=>absurd q k3) (fun _=>?_)
  conv=>whnf
  refine bre (fun q=>absurd q k4) (fun _=>?_)
  conv=>whnf
  refine ldI (by rfl) ?_
  conv=>whnf
  refine clI (cN p.tree 1 _ (by omega) (by omega) (by omega)) ?_
  conv=>whnf
  refine ldI (by rfl) ?_
  conv=>whnf
  refine clI (cN p.level 1 _ (by omega) (by omega) (by omega)) ?_
  conv=>whnf
  refine ⟨by simp only [zam];decide,?_⟩
  conv=>whnf
  refine ldI (by rfl) ?_
  conv=>whnf
  refine clI (cG _) ?_
  conv=>whnf
  refine clI (cN (if p.top then 1 else 0) 1 _ (by split<;>decide) (by split<;>decide) (by omega)) ?_
  conv=>whnf
  refine ⟨by simp only [List.length_append,zam];decide,?_⟩
  conv=>whnf
  refine ldI (by rfl) ?_
  conv=>whnf
  refine ldI (by rfl) ?_
  conv=>whnf
  refine clI (cP _) ?_
  conv=>whnf
  refine clI (cN (shared p.entries p.level).length 1 _ (by omega) (by omega) (by omega)) ?_
  conv=>whnf
  refine ⟨by simp only [List.length_append,zam];decide,?_⟩
  conv=>whnf
  refine ldI (by rfl) ?_
  conv=>whnf
  refine clI (by rw [List.length_map];exact cN p.entries.length 2 _ (by omega) (by omega) (by omega)) ?_
  conv=>whnf
  refine ⟨by simp only [List.length_append,zam];decide,?_⟩
  conv=>whnf
  refine ldI (by rfl) ?_
  conv=>whnf
  refine ldI (by rfl) ?_
  conv=>whnf
  refine clI (cE _) ?_
  conv=>whnf
  refine ⟨by simp only [List.length_append,zam,zen];omega,?_⟩
  conv=>whnf
  refine retP rfl (zbw ?_)
  unfold Page.bodyB zlt
  rw [if_neg k3,if_neg k4]
  simp only [List.append_assoc]
  cases p.top<;>rfl
 ·have hnx:=zdx hl
  refine zad F153 rfl rfl rfl (by simp [zao,zbv]) ?_
  conv=>whnf
  refine ldI (by rfl) ?_
  conv=>whnf
  refine bre (fun _=>?_) (fun q=>absurd hk q)
  conv=>whnf
  refine ldI (by rfl) ?_
  conv=>whnf
  refine clI (cN p.next 4 _ (by omega) (by omega) (by omega)) ?_
  conv=>whnf
  refine ldI (by rfl) ?_
  conv=>whnf
  refine clI (cN p.data.length 2 _ (by omega) (by omega) (by omega)) ?_
  conv=>whnf
  refine ⟨by simp only [zam];decide,?_⟩
  conv=>whnf
  refine ldI (by rfl) ?_
  conv=>whnf
  refine ⟨by simp only [List.length_append,zam];omega,?_⟩
  conv=>whnf
  refine retP rfl (zbw ?_)
  unfold Page.bodyB zi3
  rw [if_pos hk,List.append_assoc]
  rfl
 ·have hnx:=zdx hl
  have hll:=zjy p.freed
  have hff:=zjb fo ok.fr
  have fl:=zc4 p.freed
  have cL:=fun h=>zoj (n:=m) (h:=h) (by omega) p.freed (by omega) fo hff _ ok.fsz p.fsh.c
  have k3:p.kind≠3:=by omega
  refine zad F153 rfl rfl rfl (by simp [zao,zbv]) ?_
  conv=>whnf
  refine ldI (by rfl) ?_
  conv=>whnf
  refine bre (fun q=>absurd q k3) (fun _=>?_)
  conv=>whnf
  refine bre (fun _=>?_) (fun q=>absurd hk q)
  conv=>whnf
  refine ldI (by rfl) ?_
  conv=>whnf
  refine clI (cN p.next 4 _ (by omega) (by omega) (by omega)) ?_
  conv=>whnf
  refine ldI (by rfl) ?_
  conv=>whnf
  refine clI (cL _) ?_
  conv=>whnf
  refine ⟨by simp only [List.length_append,zam];omega,?_⟩
  conv=>whnf
  refine retP rfl (zbw ?_)
  unfold Page.bodyB zo0
  rw [if_neg k3,if_pos hk]
theorem zoo (hn:7 ≤ n) (p:Page) (ok:p.Ok) (hc:p.check=false):C n 77 [p.av] h=some (.ret (.agg [.str [],i64 2]),h):=by
 obtain ⟨m,rfl⟩:=pre1 n
 have cI:∀ h,C m 76 [p.av] h=some (.ret (.bool p.check),h):=fun h=>zj7 (by omega) p ok
 rw [hc] at cI
 refine zad F77 rfl rfl rfl (by simp [zao,zbv]) ?_
 conv=>whnf
 refine ldI (by rfl) ?_
 conv=>whnf
 refine clI (cI _) ?_
 conv=>whnf
 refine stJ (xs:=[.str [],i64 2]) (by rfl) ?_
 exact ⟨rfl,_,zbq (el:=some 159) (f:=0) (cs:=[.str [],i64 2]) (N:=2) (b:=1) rfl (by kernel_rfl) rfl rfl,rfl⟩
theorem zmu (hn:7 ≤ n) (p:Page) (ok:p.Ok) (hc:p.check=true):C n 77 [p.av] h=some (.ret (.agg [.str p.enc,i64 0]),h):=by
 obtain ⟨m,rfl⟩:=pre1 n
 have cI:∀ h,C m 76 [p.av] h=some (.ret (.bool p.check),h):=fun h=>zj7 (by omega) p ok
 rw [hc] at cI
 obtain ⟨hno,hver,hk⟩:=check_iff.1 hc
 have hkd:1 ≤ p.kind ∧ p.kind ≤ 4:=by omega
 have cN:∀ (k:Int) (w:Nat) (h:zaa),0 ≤ k → k<9223372036854775808 → w ≤ 8 → C m 61 [i64 k,i64 w] h=some (.ret (.str (num k.toNat w)),h):=fun k w h h1 h2 h3=>by
  have:=zcp (n:=m) (h:=h) (by omega) k.toNat w h3 (by omega)
  rwa [show ((k.toNat:Nat):Int)=k by omega] at this
 have cB:∀ h,C m 153 [p.av] h=some (.ret (.str p.bodyB),h):=fun h=>z3d (by omega) p ok hc
 have hbl:=zrq hc
 have hul:=zn4 hc
 have hfl:=zfz hc
 have hel:=zma hc
 have cC:∀ h,C m 154 [.str p.full] h=some (.ret (.str (crcB p.full)),h):=fun h=>zys (by omega) p.full (by omega)
 refine zad F77 rfl rfl rfl (by simp [zao,zbv]) ?_
 conv=>whnf
 refine ldI (by rfl) ?_
 conv=>whnf
 refine clI (cI _) ?_
 conv=>whnf
 refine clI (cN 85 1 _ (by omega) (by omega) (by omega)) ?_
 conv=>whnf
 refine ldI (by rfl) ?_
 conv=>whnf
 refine clI (cN p.kind 1 _ (by omega) (by omega) (by omega)) ?_
 conv=>whnf
 refine ⟨by simp only [zam];decide,?_⟩
 conv=>whnf
 refine ldI (by rfl) ?_
 conv=>whnf
 refine clI (cN p.no 4 _ (by omega) (by omega) (by omega)) ?_
 conv=>whnf
 refine ⟨by simp only [List.length_append,zam];decide,?_⟩
 conv=>whnf
 refine ldI (by rfl) ?_
 conv=>whnf
 refine clI (cN p.ver 6 _ (by omega) (by omega) (by omega)) ?_
 conv=>whnf
 refine ⟨by simp only [List.length_append,zam];decide,?_⟩
 conv=>whnf
 refine ldI (by rfl) ?_
 conv=>whnf
 refine clI (cB _) ?_
 conv=>whnf
 refine ⟨by simp only [List.length_append,zam];omega,?_⟩
 have hu:num (85:Int).toNat 1++num p.kind.toNat 1++num p.no.toNat 4++num p.ver.toNat 6++p.bodyB=p.used:=by
  unfold Page.used Page.headB
  simp only [List.append_assoc]
  rfl
 rw [hu]
 have hf:∀ (x y:AB),zbc [x,y,AB.cells 0 (some 5) (rep (((508-p.used.length:Nat):Int)).toNat [AV.int .u8 0]) 0] 1 (((508-p.used.length:Nat):Int)).toNat (.sl 1 2 0 0 (((508-p.used.length:Nat):Int)).toNat)=some ((za5 (508-p.used.length)).map u8):=fun x y=>by
  rw [Int.toNat_natCast,z46]
  have:=zhm (h:=[x,y,AB.cells 0 (some 5) ((za5 (508-p.used.length)).map u8) 0]) (bb:=2) (ver:=0) (el:=some 5) (s:=za5 (508-p.used.length)) (frz:=0) rfl
  rwa [za4] at this
 conv=>whnf
 refine zI (z:=((508-p.used.length:Nat):Int)) (by rw [zae (by omega) (by omega)];omega) ?_
 conv=>whnf
 refine ⟨by omega,by omega,by omega,?_⟩
 conv=>whnf
 refine ⟨_,za5 (508-p.used.length),hf _ _,zbt _,?_⟩
 conv=>whnf
 refine ⟨by rw [za4];omega,?_⟩
 conv=>whnf
 refine clI (cC _) ?_
 conv=>whnf
 refine ⟨by show p.full.length+(crcB p.full).length ≤ _;rw [hfl];exact (by decide:508+4 ≤ 4611686018427387904),?_⟩
 conv=>whnf
 refine stJ (xs:=[.str p.enc,i64 0]) (by rfl) ?_
 exact ⟨rfl,_,zbq (el:=some 159) (f:=0) (cs:=[.str p.enc,i64 0]) (N:=2) (b:=1) rfl (by kernel_rfl) rfl rfl,rfl⟩
theorem zqg (hn:7 ≤ n) (p:Page) (ok:p.Ok):C n 77 [p.av] h=some (.ret (.agg [.str (if p.check then p.enc else []),i64 (if p.check then 0 else 2)]),h):=by
 cases hc:p.check with
 | false=>exact zoo hn p ok hc
 | true=>exact zmu hn p ok hc
end
abbrev tRef:Nat:=287
def zbj (t:RT):AB:=.cells 0 (some tRef) [.str t.1,.bool t.2] 0
def RRd (hp:zaa) (b:Nat) (t:RT):Prop:=hp[b]?=some (zbj t)
theorem RRd.stays {hp hp':zaa}{b:Nat}{t:RT}{F:List Nat}(r:RRd hp b t) (k:Keep hp hp' F) (hb:b ∉ F):RRd hp' b t:=k.get r hb
theorem RRd.lt {hp:zaa}{b:Nat}{t:RT}(r:RRd hp b t):b<hp.length:=zab r
theorem RRd.set {hp:zaa}{b:Nat}{t t':RT}(r:RRd hp b t):RRd (hp.set b (zbj t')) b t':=by
 unfold RRd;rw [List.getElem?_set_self r.lt]
section
variable {n:Nat}{hp h:zaa}{b:Nat}{t:RT}
theorem zpw (hn:1 ≤ n) (r:RRd hp b t) (hl:t.1.length<1099511627776) (k:Nat) (hk:k<1099511627776):C n 210 [.ptr b 0 0,i64 k] hp=some (.ret (.str (zbh k t).1),hp.set b (zbj (zbh k t).2)):=by
 obtain ⟨m,rfl⟩:=pre1 n
 have h1:hp[b]?=some (.cells 0 (some tRef) [.str t.1,.bool t.2] 0):=r
 obtain ⟨s,bad⟩:=t
 simp only at h1 hl
 refine za7 F210 rfl rfl ?_
 conv=>whnf
 refine ldI h1 ?_
 conv=>whnf
 refine brd (fun a=>?_) (fun a=>?_)
 ·have e:zbh k (s,bad)=([],s,true):=by unfold zbh;rw [if_pos (.inl (by simp only;omega))]
  conv=>whnf
  refine stJ h1 ?_
  rw [e]
  exact ⟨rfl,[.str []],rfl,rfl,rfl⟩
 ·conv=>whnf
  refine ldI h1 ?_
  conv=>whnf
  cases bad with
  | true =>
   have e:zbh k (s,true)=([],s,true):=by unfold zbh;rw [if_pos (.inr rfl)]
   conv=>whnf
   refine stJ h1 ?_
   rw [e]
   exact ⟨rfl,[.str []],rfl,rfl,rfl⟩
  | false =>
   have e:zbh k (s,false)=(s.take k,s.drop k,false):=by unfold zbh;rw [if_neg (by simp;omega)]
   conv=>whnf
   refine ldI h1 ?_
   conv=>whnf
   refine zob (by omega) ?_
   conv=>whnf
   refine ldI h1 ?_
   conv=>whnf
   refine zxr (by omega) ?_
   conv=>whnf
   refine stJ h1 ?_
   rw [e]
   exact ⟨rfl,[.str (s.take k)],rfl,rfl,rfl⟩
theorem ze0 (hn:1 ≤ n) (r:RRd hp b t) (hl:t.1.length<1099511627776) (k:Nat) (hk:k<1099511627776):∃ hp',C n 210 [.ptr b 0 0,i64 k] hp=some (.ret (.str (zbh k t).1),hp') ∧ RRd hp' b (zbh k t).2 ∧ Keep hp hp' [b] :=
 ⟨_,zpw hn r hl k hk,r.set,Keep.set (by simp)⟩
theorem zyl (hn:1 ≤ n) (s:Str) (hs:s.length ≤ 6):C n 232 [.str s] h=some (.ret (i64 (zah s)),h):=by
 obtain ⟨m,rfl⟩:=pre1 n
 refine zad F232 rfl rfl rfl rfl ?_
 conv=>whnf
 refine za3 (by decide) rfl (α:=Nat) (fun j=>⟨[(0,.str s),(3,i64 (zah (s.take j))),(4,i64 j)],[],[]⟩) (fun j=>j ≤ s.length) (fun j=>s.length-j) 0 ⟨⟨rfl,rfl,rfl⟩,rfl,rfl⟩ (Nat.zero_le _) (by show s.length-0<KK;simp only [KK];omega) ?_
 intro j hj
 conv=>whnf
 refine brd (fun a=>?_) (fun a=>?_)
 ·have hjl:j<s.length:=by omega
  have hb:=zcm j (s.take j) (by rw [List.length_take];omega)
  have hb2:256 ^ j ≤ 256 ^ 5:=Nat.pow_le_pow_right (by decide) (by omega)
  have hx:zah (s.take j)<36028797018963968:=by
   have:(256:Nat) ^ 5=1099511627776:=by decide
   omega
  have hc:=s[j].toNat_lt
  have hst:zah (s.take j)*256+(s[j]).toNat=zah (s.take (j+1)):=by
   rw [List.take_succ_eq_append_getElem hjl,zga]
  conv=>whnf
  refine zI (z:=((zah (s.take j)*256:Nat):Int)) (by rw [zae (by omega) (by omega)];omega) ?_
  conv=>whnf
  refine strI (b:=s[j]) (by omega) (by rw [Int.toNat_natCast];exact List.getElem?_eq_getElem hjl) ?_
  conv=>whnf
  refine zI (z:=((s[j].toNat:Nat):Int)) (zae (by omega) (by omega)) ?_
  conv=>whnf
  refine zI (z:=((zah (s.take (j+1)):Nat):Int)) (by rw [← hst,zae (by omega) (by omega)];omega) ?_
  conv=>whnf
  refine zJ j ?_
  exact nxI (j+1) hjl (by omega) ⟨⟨rfl,rfl,rfl⟩,rfl,rfl⟩
 ·have hjl:j=s.length:=by omega
  subst hjl
  conv=>whnf
  refine cutI (by decide) rfl (t:=⟨[(3,i64 (zah s))],[],[]⟩) ⟨by rw [List.take_length];rfl,rfl,rfl⟩ ?_
  conv=>whnf
  exact retP rfl (zb2 rfl)
theorem zb7 (hn:2 ≤ n) (r:RRd hp b t) (hl:t.1.length<1099511627776) (w:Nat) (hw:w ≤ 6):C n 209 [.ptr b 0 0,i64 w] hp=some (.ret (i64 (rnum w t).1),hp.set b (zbj (rnum w t).2)):=by
 obtain ⟨m,rfl⟩:=pre1 n
 have e1:=zpw (n:=m) (by omega) r hl w (by omega)
 have hk:=(zcc w t).2.2
 refine za7 F209 rfl rfl ?_
 conv=>whnf
 refine clI e1 ?_
 conv=>whnf
 refine clI (zyl (by omega) (zbh w t).1 (by omega)) ?_
 conv=>whnf
 exact ⟨rfl,[i64 (zah (zbh w t).1)],rfl,rfl,rfl⟩
theorem zbu (hn:2 ≤ n) (r:RRd hp b t) (hl:t.1.length<1099511627776) (w:Nat) (hw:w ≤ 6):∃ hp',C n 209 [.ptr b 0 0,i64 w] hp=some (.ret (i64 (rnum w t).1),hp') ∧ RRd hp' b (rnum w t).2 ∧ Keep hp hp' [b] :=
 ⟨_,zb7 hn r hl w hw,r.set,Keep.set (by simp)⟩
end
theorem z6y {s:Str}{j:Nat}(hj:j<s.length) (hs:s.length ≤ 16):putAt ((s.take j++List.replicate (16-j) (0:UInt8)).map u8) j [u8 s[j]]=(s.take (j+1)++List.replicate (16-(j+1)) (0:UInt8)).map u8:=by
 have hlt:(s.take j).length=j:=by rw [List.length_take];omega
 rw [List.take_succ_eq_append_getElem hj,show 16-j=(16-(j+1))+1 by omega,List.replicate_succ]
 unfold putAt
 simp only [List.map_append,List.map_cons,List.length_singleton]
 rw [List.take_append_of_le_length (by simp;omega),List.take_of_length_le (by simp;omega)]
 rw [List.drop_append,List.drop_of_length_le (by simp;omega)]
 simp [hlt,show min j s.length=j by omega]
theorem dg_pad {s:Str}(h:s=[] ∨ s.length=16):(s++List.replicate (16-s.length) (0:UInt8)).map u8=(dgOf s).cells:=by
 rcases h with rfl | h
 ·rfl
 ·rw [h,zj2 h]
  simp
theorem z6a (t:RT):(zbh 16 t).1=[] ∨ (zbh 16 t).1.length=16:=by
 unfold zbh
 split
 ·exact .inl rfl
 ·right;simp;omega
end Go.Proofs
