/- Texts put together: Em, En, Eo, Er, Et, Eu, Ev, Es, Ww, Db5, Ve, Vf. -/
import Derived.Test.YtalaebjjleddaaaGreatFrd13
import Derived.Test.YtalaebjjleddaaaGreatFrd11
import Derived.Test.YtalaebjjleddaaaGreatFrd7
import Derived.Test.YtalaebjjleddaaaGreatFrd12
set_option linter.unusedVariables false
set_option linter.unusedSimpArgs false
namespace Go.Proofs
open Go Go.Abs
theorem z2u {α:Type}{l:List α}{i:Nat}{x:α}(h:l[i]?=some x):l.set i x=l:=by
 apply List.ext_getElem?
 intro j
 by_cases e:i=j
 ·subst e
  have hl:i<l.length:=by
   rcases Nat.lt_or_ge i l.length with q | q
   ·exact q
   ·rw [List.getElem?_eq_none q] at h;cases h
  rw [List.getElem?_set_self hl,h]
 ·rw [List.getElem?_set_ne e]
section
variable {n:Nat}{hp h:zaa}{b:Nat}{t:RT}
theorem zyt (hn:2 ≤ n) (r:RRd hp b t) (hl:t.1.length<1099511627776):∃ hp',C n 233 [.ptr b 0 0] hp=some (.ret (.agg (rsum t).1.cells),hp') ∧ RRd hp' b (rsum t).2 ∧ Keep hp hp' [b]:=by
 obtain ⟨m,rfl⟩:=pre1 n
 have k0:Keep hp (hp++[AB.cells 0 (some 23) Dg.zero.cells 0]++[AB.cells 0 (some 23) Dg.zero.cells 0]) []:=(Keep.app hp _ []).trans (Keep.app _ _ []) (by simp)
 have hlen:(hp++[AB.cells 0 (some 23) Dg.zero.cells 0]).length=hp.length+1:=by simp
 have d1:(hp++[AB.cells 0 (some 23) Dg.zero.cells 0]++[AB.cells 0 (some 23) Dg.zero.cells 0])[hp.length]?=some (.cells 0 (some 23) Dg.zero.cells 0):=za8 (zaf _ _)
 have d2:(hp++[AB.cells 0 (some 23) Dg.zero.cells 0]++[AB.cells 0 (some 23) Dg.zero.cells 0])[(hp++[AB.cells 0 (some 23) Dg.zero.cells 0]).length]?=some (.cells 0 (some 23) Dg.zero.cells 0):=zaf _ _
 obtain ⟨h1,e1,r1,k1⟩:=ze0 (n:=m) (by omega) (r.stays k0 (by simp)) hl 16 (by decide)
 have hb:=r.lt
 have d1':=k1.get d1 (by simp;omega)
 have d2':=k1.get d2 (by simp;omega)
 have kk:Keep hp h1 [b]:=(k0.mono (by simp)).trans k1 (fun x hx=>.inl hx)
 have hs16:=z6a t
 have hsl:(zbh 16 t).1.length ≤ 16:=(zcc 16 t).2.2
 have hcells:=dg_pad hs16
 have hsum:(rsum t).1=dgOf (zbh 16 t).1:=rfl
 have hsum2:(rsum t).2=(zbh 16 t).2:=rfl
 rw [hsum,hsum2]
 generalize hS:(zbh 16 t).1=S at *
 refine ⟨(h1.set (hp++[AB.cells 0 (some 23) Dg.zero.cells 0]).length (.cells 0 (some 23) (dgOf S).cells 0)).set hp.length (.cells 0 (some 23) (dgOf S).cells 0),?_,?_,?_⟩
 ·refine za7 F233 rfl rfl ?_
  conv=>whnf
  refine clI e1 ?_
  conv=>whnf
  refine za3 (by decide) rfl (α:=Nat) (fun j=>⟨[(2,.ptr hp.length 0 0),(3,.ptr (hp++[AB.cells 0 (some 23) Dg.zero.cells 0]).length 0 0),(4,.str S),(5,i64 j)],h1.set (hp++[AB.cells 0 (some 23) Dg.zero.cells 0]).length (.cells 0 (some 23) ((S.take j++List.replicate (16-j) (0:UInt8)).map u8) 0),[]⟩) (fun j=>j ≤ S.length) (fun j=>S.length-j) 0 ?_ (Nat.zero_le _) (by show S.length-0<KK;simp only [KK];omega) ?_
  ·refine ⟨⟨rfl,rfl,rfl,rfl⟩,?_,rfl⟩
   show h1=h1.set _ _
   have e0:((S.take 0++List.replicate (16-0) (0:UInt8)).map u8)=Dg.zero.cells:=rfl
   rw [e0]
   exact (z2u d2').symm
  ·intro j hj
   have f2:(h1.set (hp++[AB.cells 0 (some 23) Dg.zero.cells 0]).length (.cells 0 (some 23) ((S.take j++List.replicate (16-j) (0:UInt8)).map u8) 0))[(hp++[AB.cells 0 (some 23) Dg.zero.cells 0]).length]?=some (.cells 0 (some 23) ((S.take j++List.replicate (16-j) (0:UInt8)).map u8) 0):=by rw [List.getElem?_set_self (zab d2')]
   conv=>whnf
   refine brd (fun a=>?_) (fun a=>?_)
   ·have hjl:j<S.length:=by omega
    conv=>whnf
    refine strI (b:=S[j]) (by omega) (by rw [Int.toNat_natCast];exact List.getElem?_eq_getElem hjl) ?_
    conv=>whnf
    refine ⟨by omega,by omega,?_⟩
    conv=>whnf
    have hi:0+(j:Int).toNat*1=j:=by omega
    refine stI f2 (xs:=[u8 S[j]]) (by rfl) (by rfl) (by rw [Nat.ble_eq,hi];simp;omega) (by rfl) ?_
    conv=>whnf
    refine zJ j ?_
    refine nxI (j+1) hjl (by omega) ⟨⟨rfl,rfl,rfl,rfl⟩,?_,rfl⟩
    show (h1.set _ _).set _ (AB.cells 0 (some 23) (putAt _ (0+(j:Int).toNat*1) [u8 S[j]]) 0)=_
    rw [hi,z6y hjl hsl,List.set_set]
   ·have hjl:j=S.length:=by omega
    have e:(S.take j++List.replicate (16-j) (0:UInt8)).map u8=(dgOf S).cells:=by
     subst hjl;rw [List.take_length];exact hcells
    rw [e] at f2 ⊢
    have f1:(h1.set (hp++[AB.cells 0 (some 23) Dg.zero.cells 0]).length (.cells 0 (some 23) (dgOf S).cells 0))[hp.length]?=some (.cells 0 (some 23) Dg.zero.cells 0):=by rw [List.getElem?_set_ne (by rw [hlen];omega)];exact d1'
    conv=>whnf
    refine cutI (by decide) rfl (t:=⟨[(2,.ptr hp.length 0 0),(3,.ptr (hp++[AB.cells 0 (some 23) Dg.zero.cells 0]).length 0 0)],h1.set (hp++[AB.cells 0 (some 23) Dg.zero.cells 0]).length (.cells 0 (some 23) (dgOf S).cells 0),[]⟩) ⟨⟨rfl,rfl⟩,rfl,rfl⟩ ?_
    conv=>whnf
    refine ldI f2 ?_
    conv=>whnf
    refine stJ f1 (xs:=(dgOf S).cells) ?_
    refine ⟨rfl,[.agg (dgOf S).cells],?_,rfl,rfl⟩
    exact zbq (b:=hp.length) (el:=some 23) (f:=0) (cs:=(dgOf S).cells) (N:=16) rfl (by kernel_rfl) rfl (by rw [List.getElem?_set_self (zab f1)];rfl)
 ·refine r1.stays (F:=[(hp++[AB.cells 0 (some 23) Dg.zero.cells 0]).length,hp.length]) ⟨by simp,fun x hx hn=>?_⟩ (by simp;omega)
  simp at hn
  rw [List.getElem?_set_ne (by omega),List.getElem?_set_ne (by rw [hlen];omega)]
 ·exact (kk.set' (.inr (by rw [hlen];omega))).set' (.inr (Nat.le_refl _))
end
abbrev tEn:Nat:=147
structure ES (h0 h:zaa) (b A B:Nat) (cs:List AV) (t:RT):Prop where
 r:RRd h b t
 a:h[A]?=some (.cells 0 (some tEn) (keyE []).cells 0)
 e:h[B]?=some (.cells 0 (some tEn) cs 0)
 k:Keep h0 h [b]
 ne:b<A ∧ A<B ∧ h0.length ≤ A
theorem ES.next {h0 h h':zaa}{b A B:Nat}{cs:List AV}{t t':RT}(s:ES h0 h b A B cs t) (k:Keep h h' [b]) (r:RRd h' b t'):ES h0 h' b A B cs t':=by
 obtain ⟨n1,n2,n3⟩:=s.ne
 exact ⟨r,k.get s.a (by simp;omega),k.get s.e (by simp;omega),s.k.trans k (fun x hx=>.inl hx),s.ne⟩
theorem ES.set {h0 h:zaa}{b A B:Nat}{cs cs':List AV}{t:RT}(s:ES h0 h b A B cs t):ES h0 (h.set B (.cells 0 (some tEn) cs' 0)) b A B cs' t:=by
 obtain ⟨n1,n2,n3⟩:=s.ne
 refine ⟨?_,?_,?_,?_,s.ne⟩
 ·unfold RRd;rw [List.getElem?_set_ne (by omega)];exact s.r
 ·rw [List.getElem?_set_ne (by omega)];exact s.a
 ·rw [List.getElem?_set_self (zab s.e)]
 ·exact s.k.set' (.inr (by omega))
theorem ES.done {h0 h:zaa}{b A B:Nat}{cs cs':List AV}{t:RT}(s:ES h0 h b A B cs t):(h.set A (.cells 0 (some tEn) cs' 0))[A]?=some (.cells 0 (some tEn) cs' 0) ∧ RRd (h.set A (.cells 0 (some tEn) cs' 0)) b t ∧ Keep h0 (h.set A (.cells 0 (some tEn) cs' 0)) [b]:=by
 obtain ⟨n1,n2,n3⟩:=s.ne
 refine ⟨?_,?_,?_⟩
 ·rw [List.getElem?_set_self (zab s.a)]
 ·unfold RRd;rw [List.getElem?_set_ne (by omega)];exact s.r
 ·exact s.k.set' (.inr (by omega))
def EntQ (h0:zaa) (b:Nat) (x:Entry × RT) (r:CRes) (h:zaa):Prop:=r=.ret (.agg x.1.cells) ∧ RRd h b x.2 ∧ Keep h0 h [b]
section
variable {n:Nat}{hp h:zaa}{b:Nat}{t:RT}
theorem zjw {hp h:zaa}{A B:Nat}{m:Nat}(hm:2 ≤ m) {key:Str}{u:RT}(s:ES hp h b A B (keyE key).cells u) (hu:u.1.length<1099511627776) :
  ∃ h1 h2 h3,C m 209 [.ptr b 0 0,i64 (4:Nat)] h=some (.ret (i64 (rnum 4 u).1),h1) ∧ h1[B]?=some (.cells 0 (some tEn) (keyE key).cells 0) ∧
   C m 209 [.ptr b 0 0,i64 (4:Nat)] (h1.set B (.cells 0 (some tEn) (Entry.mk key [] 0 0 (rnum 4 u).1 0 Dg.zero).cells 0))=some (.ret (i64 (rnum 4 (rnum 4 u).2).1),h2) ∧ h2[B]?=some (.cells 0 (some tEn) (Entry.mk key [] 0 0 (rnum 4 u).1 0 Dg.zero).cells 0) ∧
   C m 233 [.ptr b 0 0] (h2.set B (.cells 0 (some tEn) (Entry.mk key [] 0 0 (rnum 4 u).1 (rnum 4 (rnum 4 u).2).1 Dg.zero).cells 0))=some (.ret (.agg (rsum (rnum 4 (rnum 4 u).2).2).1.cells),h3) ∧
   ES hp h3 b A B (Entry.mk key [] 0 0 (rnum 4 u).1 (rnum 4 (rnum 4 u).2).1 Dg.zero).cells (rsum (rnum 4 (rnum 4 u).2).2).2:=by
 have l1:=zaq 4 u
 have l2:=zaq 4 (rnum 4 u).2
 obtain ⟨h1,e1,r1,k1⟩:=zbu (n:=m) (by omega) s.r hu 4 (by omega)
 have s1:=s.next k1 r1
 have s1':=s1.set (cs':=(Entry.mk key [] 0 0 (rnum 4 u).1 0 Dg.zero).cells)
 obtain ⟨h2,e2,r2,k2⟩:=zbu (n:=m) (by omega) s1'.r (by omega) 4 (by omega)
 have s2:=s1'.next k2 r2
 have s2':=s2.set (cs':=(Entry.mk key [] 0 0 (rnum 4 u).1 (rnum 4 (rnum 4 u).2).1 Dg.zero).cells)
 obtain ⟨h3,e3,r3,k3⟩:=zyt (n:=m) (by omega) s2'.r (by omega)
 exact ⟨h1,h2,h3,e1,s1.e,e2,s2.e,e3,s2'.next k3 r3⟩
theorem zv9 {hp h:zaa}{A B:Nat}{m:Nat}(hm:2 ≤ m) {key:Str}{u:RT}(s:ES hp h b A B (keyE key).cells u) (hu:u.1.length<1099511627776) :
  ∃ h1 h2 h3,C m 209 [.ptr b 0 0,i64 (4:Nat)] h=some (.ret (i64 (rnum 4 u).1),h1) ∧ h1[B]?=some (.cells 0 (some tEn) (keyE key).cells 0) ∧
   C m 209 [.ptr b 0 0,i64 (2:Nat)] (h1.set B (.cells 0 (some tEn) (Entry.mk key [] (rnum 4 u).1 0 0 0 Dg.zero).cells 0))=some (.ret (i64 (rnum 2 (rnum 4 u).2).1),h2) ∧ h2[B]?=some (.cells 0 (some tEn) (Entry.mk key [] (rnum 4 u).1 0 0 0 Dg.zero).cells 0) ∧
   C m 233 [.ptr b 0 0] (h2.set B (.cells 0 (some tEn) (Entry.mk key [] (rnum 4 u).1 (rnum 2 (rnum 4 u).2).1 0 0 Dg.zero).cells 0))=some (.ret (.agg (rsum (rnum 2 (rnum 4 u).2).2).1.cells),h3) ∧
   ES hp h3 b A B (Entry.mk key [] (rnum 4 u).1 (rnum 2 (rnum 4 u).2).1 0 0 Dg.zero).cells (rsum (rnum 2 (rnum 4 u).2).2).2:=by
 have l1:=zaq 4 u
 have l2:=zaq 2 (rnum 4 u).2
 obtain ⟨h1,e1,r1,k1⟩:=zbu (n:=m) (by omega) s.r hu 4 (by omega)
 have s1:=s.next k1 r1
 have s1':=s1.set (cs':=(Entry.mk key [] (rnum 4 u).1 0 0 0 Dg.zero).cells)
 obtain ⟨h2,e2,r2,k2⟩:=zbu (n:=m) (by omega) s1'.r (by omega) 2 (by omega)
 have s2:=s1'.next k2 r2
 have s2':=s2.set (cs':=(Entry.mk key [] (rnum 4 u).1 (rnum 2 (rnum 4 u).2).1 0 0 Dg.zero).cells)
 obtain ⟨h3,e3,r3,k3⟩:=zyt (n:=m) (by omega) s2'.r (by omega)
 exact ⟨h1,h2,h3,e1,s1.e,e2,s2.e,e3,s2'.next k3 r3⟩
theorem z6l (hn:3 ≤ n) (r:RRd hp b t) (hl:t.1.length<1099511627776) (pre:Str) (hpl:pre.length<1099511627776) (lv:Int) (h0:0 ≤ lv) (first:Bool):∃ r' hp',C n 211 [.ptr b 0 0,.str pre,i64 lv,.bool first] hp=some (r',hp') ∧ EntQ hp b (rent pre lv first t) r' hp':=by
 obtain ⟨m,rfl⟩:=pre1 n
 have hb:=r.lt
 have l1:=zaq 1 t
 have l2:=zcc (rnum 1 t).1 (rnum 1 t).2
 have u1:=zd2 1 t
 have s0:ES hp (hp++[AB.cells 0 (some tEn) (keyE []).cells 0]++[AB.cells 0 (some tEn) (keyE []).cells 0]) b hp.length (hp++[AB.cells 0 (some tEn) (keyE []).cells 0]).length (keyE []).cells t :=
  ⟨r.stays ((Keep.app hp _ []).trans (Keep.app _ _ []) (by simp)) (by simp),za8 (zaf _ _),zaf _ _,((Keep.app hp _ []).trans (Keep.app _ _ []) (by simp)).mono (by simp),by simp;omega⟩
 obtain ⟨h1,e1,r1,k1⟩:=zbu (n:=m) (by omega) s0.r hl 1 (by omega)
 have s1:=s0.next k1 r1
 obtain ⟨h2,e2,r2,k2⟩:=ze0 (n:=m) (by omega) s1.r (by omega) (rnum 1 t).1 (by omega)
 have s2:=s1.next k2 r2
 have hx0:∀ key m',zh9 key m' (zbh (rnum 1 t).1 (rnum 1 t).2).2=zh9 key m' (zbh (rnum 1 t).1 (rnum 1 t).2).2:=fun _ _=>rfl
 generalize hK:(zbh (rnum 1 t).1 (rnum 1 t).2).1=K at *
 generalize hU:(zbh (rnum 1 t).1 (rnum 1 t).2).2=U at *
 have s3:=s2.set (cs':=(keyE K).cells)
 have s3p:=s3.set (cs':=(keyE (pre++K)).cells)
 refine zav F211 rfl rfl ?_
 conv=>whnf
 refine clI e1 ?_
 conv=>whnf
 refine clI e2 ?_
 conv=>whnf
 refine stJ s2.e ?_
 conv=>whnf
 refine bre (fun z=>?_) (fun z=>?_)
 ·conv=>whnf
  refine ldI s3.e ?_
  conv=>whnf
  refine ⟨by show pre.length+K.length ≤ _;omega,?_⟩
  conv=>whnf
  refine stJ s3.e ?_
  conv=>whnf
  refine brd (fun q=>absurd q (by omega)) (fun _=>?_)
  obtain ⟨h4,e4,r4,k4⟩:=zbu (n:=m) (by omega) s3p.r (by omega) 2 (by omega)
  have s5:=s3p.next k4 r4
  have l4:=zaq 2 U
  have u4:=zd2 2 U
  conv=>whnf
  refine clI e4 ?_
  conv=>whnf
  refine bre (fun q1=>?_) (fun q1=>?_)
  ·have hx:rent pre lv first t=zge (pre++K) (rnum 2 U).2:=by
    unfold rent
    rw [if_neg (by omega),hK,hU]
    unfold zh9 rkey
    rw [if_pos (by omega),if_pos (.inl z)]
   obtain ⟨g1,g2,g3,c1,f1,c2,f2,c3,s3⟩:=zjw (m:=m) (by omega) s5 (by omega)
   have s4:=s3.set (cs':=(zge (pre++K) (rnum 2 U).2).1.cells)
   conv=>whnf
   refine clI c1 ?_
   conv=>whnf
   refine stJ f1 ?_
   conv=>whnf
   refine clI c2 ?_
   conv=>whnf
   refine stJ f2 ?_
   conv=>whnf
   refine clI c3 ?_
   conv=>whnf
   refine stJ s3.e (xs:=(rsum (rnum 4 (rnum 4 (rnum 2 U).2).2).2).1.cells) ?_
   conv=>whnf
   refine ldI (s4).e ?_
   conv=>whnf
   refine stJ (s4).a (xs:=(zge (pre++K) (rnum 2 U).2).1.cells) ?_
   have fin:=(s4).done (cs':=(zge (pre++K) (rnum 2 U).2).1.cells)
   refine ⟨[.agg (zge (pre++K) (rnum 2 U).2).1.cells],zbq (b:=hp.length) (el:=some tEn) (f:=0) (N:=22) rfl (by kernel_rfl) rfl fin.1,?_⟩
   rw [hx]
   exact ⟨rfl,fin.2.1,fin.2.2⟩
  ·conv=>whnf
   refine bre (fun q2=>?_) (fun q2=>?_)
   ·have hx:rent pre lv first t=zse (pre++K) (rnum 2 U).2:=by
     unfold rent
     rw [if_neg (by omega),hK,hU]
     unfold zh9 rkey
     rw [if_neg (by omega),if_pos (by omega),if_pos (.inl z)]
    obtain ⟨g1,g2,g3,c1,f1,c2,f2,c3,s3⟩:=zv9 (m:=m) (by omega) s5 (by omega)
    have s4:=s3.set (cs':=(zse (pre++K) (rnum 2 U).2).1.cells)
    conv=>whnf
    refine clI c1 ?_
    conv=>whnf
    refine stJ f1 ?_
    conv=>whnf
    refine clI c2 ?_
    conv=>whnf
    refine stJ f2 ?_
    conv=>whnf
    refine clI c3 ?_
    conv=>whnf
    refine stJ s3.e (xs:=(rsum (rnum 2 (rnum 4 (rnum 2 U).2).2).2).1.cells) ?_
    conv=>whnf
    refine ldI (s4).e ?_
    conv=>whnf
    refine stJ (s4).a (xs:=(zse (pre++K) (rnum 2 U).2).1.cells) ?_
    have fin:=(s4).done (cs':=(zse (pre++K) (rnum 2 U).2).1.cells)
    refine ⟨[.agg (zse (pre++K) (rnum 2 U).2).1.cells],zbq (b:=hp.length) (el:=some tEn) (f:=0) (N:=22) rfl (by kernel_rfl) rfl fin.1,?_⟩
    rw [hx]
    exact ⟨rfl,fin.2.1,fin.2.2⟩
   ·have hx:rent pre lv first t=zla (pre++K) (rnum 2 U).1 (rnum 2 U).2:=by
     unfold rent
     rw [if_neg (by omega),hK,hU]
     unfold zh9 rkey
     rw [if_neg (by omega),if_neg (by omega),if_pos (.inl z)]
    obtain ⟨h6,e6,r6,k6⟩:=ze0 (n:=m) (by omega) s5.r (by omega) (rnum 2 U).1 (by omega)
    have s6:=s5.next k6 r6
    have s7:=s6.set (cs':=(zla (pre++K) (rnum 2 U).1 (rnum 2 U).2).1.cells)
    conv=>whnf
    refine clI e6 ?_
    conv=>whnf
    refine stJ s6.e ?_
    conv=>whnf
    refine ldI (s7).e ?_
    conv=>whnf
    refine stJ (s7).a (xs:=(zla (pre++K) (rnum 2 U).1 (rnum 2 U).2).1.cells) ?_
    have fin:=(s7).done (cs':=(zla (pre++K) (rnum 2 U).1 (rnum 2 U).2).1.cells)
    refine ⟨[.agg (zla (pre++K) (rnum 2 U).1 (rnum 2 U).2).1.cells],zbq (b:=hp.length) (el:=some tEn) (f:=0) (N:=22) rfl (by kernel_rfl) rfl fin.1,?_⟩
    rw [hx]
    exact ⟨rfl,fin.2.1,fin.2.2⟩
 ·have zp:0<lv:=by omega
  conv=>whnf
  cases first with
  | true =>
   conv=>whnf
   refine brd (fun _=>?_) (fun q=>absurd zp q)
   have hx:rent pre lv true t=zge K U:=by
    unfold rent
    rw [if_pos zp,hK,hU]
    unfold zh9 rkey
    rw [if_pos rfl,if_neg (by simp;exact z)]
   obtain ⟨g1,g2,g3,c1,f1,c2,f2,c3,s3⟩:=zjw (m:=m) (by omega) s3 (by omega)
   have s4:=s3.set (cs':=(zge K U).1.cells)
   conv=>whnf
   refine clI c1 ?_
   conv=>whnf
   refine stJ f1 ?_
   conv=>whnf
   refine clI c2 ?_
   conv=>whnf
   refine stJ f2 ?_
   conv=>whnf
   refine clI c3 ?_
   conv=>whnf
   refine stJ s3.e (xs:=(rsum (rnum 4 (rnum 4 U).2).2).1.cells) ?_
   conv=>whnf
   refine ldI (s4).e ?_
   conv=>whnf
   refine stJ (s4).a (xs:=(zge K U).1.cells) ?_
   have fin:=(s4).done (cs':=(zge K U).1.cells)
   refine ⟨[.agg (zge K U).1.cells],zbq (b:=hp.length) (el:=some tEn) (f:=0) (N:=22) rfl (by kernel_rfl) rfl fin.1,?_⟩
   rw [hx]
   exact ⟨rfl,fin.2.1,fin.2.2⟩
  | false =>
   have hx:rent pre lv false t=zge (pre++K) U:=by
    unfold rent
    rw [if_pos zp,hK,hU]
    unfold zh9 rkey
    rw [if_pos rfl,if_pos (.inr rfl)]
   conv=>whnf
   refine ldI s3.e ?_
   conv=>whnf
   refine ⟨by show pre.length+K.length ≤ _;omega,?_⟩
   conv=>whnf
   refine stJ s3.e ?_
   conv=>whnf
   refine brd (fun _=>?_) (fun q=>absurd zp q)
   obtain ⟨g1,g2,g3,c1,f1,c2,f2,c3,s3⟩:=zjw (m:=m) (by omega) s3p (by omega)
   have s4:=s3.set (cs':=(zge (pre++K) U).1.cells)
   conv=>whnf
   refine clI c1 ?_
   conv=>whnf
   refine stJ f1 ?_
   conv=>whnf
   refine clI c2 ?_
   conv=>whnf
   refine stJ f2 ?_
   conv=>whnf
   refine clI c3 ?_
   conv=>whnf
   refine stJ s3.e (xs:=(rsum (rnum 4 (rnum 4 U).2).2).1.cells) ?_
   conv=>whnf
   refine ldI (s4).e ?_
   conv=>whnf
   refine stJ (s4).a (xs:=(zge (pre++K) U).1.cells) ?_
   have fin:=(s4).done (cs':=(zge (pre++K) U).1.cells)
   refine ⟨[.agg (zge (pre++K) U).1.cells],zbq (b:=hp.length) (el:=some tEn) (f:=0) (N:=22) rfl (by kernel_rfl) rfl fin.1,?_⟩
   rw [hx]
   exact ⟨rfl,fin.2.1,fin.2.2⟩
end
abbrev tPg:Nat:=79
structure PSt (h:zaa) (cs:List AV) (t:RT):Prop where
 a:h[0]?=some (.cells 0 (some tPg) zax 0)
 r:RRd h 1 t
 p:h[2]?=some (.cells 0 (some tPg) cs 0)
theorem PSt.next {h h':zaa}{cs:List AV}{t t':RT}(s:PSt h cs t) (k:Keep h h' [1]) (r:RRd h' 1 t'):PSt h' cs t' :=
 ⟨k.get s.a (by simp),r,k.get s.p (by simp)⟩
theorem PSt.set {h:zaa}{cs cs':List AV}{t:RT}(s:PSt h cs t):PSt (h.set 2 (.cells 0 (some tPg) cs' 0)) cs' t:=by
 refine ⟨?_,?_,?_⟩
 ·rw [List.getElem?_set_ne (by omega)];exact s.a
 ·unfold RRd;rw [List.getElem?_set_ne (by omega)];exact s.r
 ·rw [List.getElem?_set_self (zab s.p)]
theorem PSt.stays {h h':zaa}{cs:List AV}{t:RT}{F:List Nat}(s:PSt h cs t) (k:Keep h h' F) (hF:∀ z∈F,3 ≤ z):PSt h' cs t :=
 ⟨k.get s.a (fun q=>by have:=hF _ q;omega),k.get s.r (fun q=>by have:=hF _ q;omega),k.get s.p (fun q=>by have:=hF _ q;omega)⟩
def zcf (k no v tree lv:Nat) (top:Bool) (L:AV):List AV:=[i64 k,i64 no,i64 v,i64 tree,i64 lv,.bool top,L,i64 0,.str [],.lst 0 [] true]
set_option maxRecDepth 10000 in
theorem znd {m:Nat}(hm:3 ≤ m) {h0:zaa}{k no v tree lv:Nat}{top:Bool}{t0:RT}(s0:PSt h0 (zcf k no v tree lv top (.lst 0 [] true)) t0) (hl:t0.1.length<1099511627776) (cnt:Nat) (hc:cnt<65536) (pre:Str) (hpl:pre.length<1099511627776) {Q:Ex → LS → Prop}{st:LS}
  (hs:LS.sub ⟨[(2,.ptr 0 0 0),(3,.ptr 1 0 0),(4,.ptr 2 0 0),(6,i64 cnt),(7,.str pre),(8,i64 0)],h0,[]⟩ st)
  (hE:∀ h L G,PSt h (zcf k no v tree lv top L) (ze7 pre lv cnt 0 t0).2 → GBuf tEn 22 h 2 L ((ze7 pre lv cnt 0 t0).1.map Entry.cells) G → (∀ z∈G,z=2 ∨ 3 ≤ z) → ∀ Lt,subL [(2,.ptr 0 0 0),(4,.ptr 2 0 0)] Lt → Q (.exit 1) ⟨Lt,h,[]⟩) :
  OkR Tryz.prog (C m) cfg0.inl KK 135 8 (.loop (c167.lp 0)) st Q:=by
 refine za3 (by decide) rfl (α:=Nat × List Entry × RT × List Nat × AV × zaa) (fun y=>⟨[(2,.ptr 0 0 0),(3,.ptr 1 0 0),(4,.ptr 2 0 0),(6,i64 cnt),(7,.str pre),(8,i64 y.1)],y.2.2.2.2.2,[]⟩)
  (fun y=>y.1 ≤ cnt ∧ PSt y.2.2.2.2.2 (zcf k no v tree lv top y.2.2.2.2.1) y.2.2.1 ∧ GBuf tEn 22 y.2.2.2.2.2 2 y.2.2.2.2.1 (y.2.1.map Entry.cells) y.2.2.2.1 ∧ (∀ z∈y.2.2.2.1,z=2 ∨ 3 ≤ z) ∧ y.2.1.length=y.1 ∧ ze7 pre lv cnt 0 t0=(y.2.1++(ze7 pre lv (cnt-y.1) y.1 y.2.2.1).1,(ze7 pre lv (cnt-y.1) y.1 y.2.2.1).2) ∧ y.2.2.1.1.length<1099511627776)
  (fun y=>cnt-y.1) (0,[],t0,[2],.lst 0 [] true,h0) hs ⟨Nat.zero_le _,s0,⟨by simp,.inl ⟨rfl,rfl,rfl⟩⟩,fun z hz=>.inl (by simpa using hz),rfl,by simp,hl⟩ (by show cnt-0<KK;simp only [KK];omega) ?_
 rintro ⟨j,es,t,G,L,h⟩ ⟨g1,g2,g3,g4,g5,g6,g7⟩
 simp only at g1 g2 g3 g4 g5 g6 g7
 have exitW:∀ Lt:LT,ze7 pre lv (cnt-j) j t=([],t) → subL [(2,.ptr 0 0 0),(4,.ptr 2 0 0)] Lt → Q (.exit 1) ⟨Lt,h,[]⟩:=fun Lt hr hL=>by
  rw [hr] at g6
  simp only [List.append_nil] at g6
  exact hE h L G (by rw [g6];exact g2) (by rw [g6];exact g3) g4 Lt hL
 have hrr:h[1]?=some (.cells 0 (some tRef) [.str t.1,.bool t.2] 0):=g2.r
 conv=>whnf
 refine brd (fun a=>?_) (fun a=>?_)
 ·have hj:j<cnt:=by simp only at a;omega
  obtain ⟨d,hd⟩ : ∃ d,cnt-j=d+1:=⟨cnt-j-1,by omega⟩
  have hd':cnt-(j+1)=d:=by omega
  conv=>whnf
  refine ldI hrr ?_
  conv=>whnf
  refine brn (fun c=>?_) (fun c=>?_)
  ·have step:ze7 pre lv (d+1) j t=if t.2=true then ([],t) else ((rent pre lv (decide (j=0)) t).1::(ze7 pre lv d (j+1) (rent pre lv (decide (j=0)) t).2).1,(ze7 pre lv d (j+1) (rent pre lv (decide (j=0)) t).2).2):=rfl
   rw [hd,step,if_neg (by rw [c];decide)] at g6
   obtain ⟨r',h1,e1,er,r1,k1⟩:=z6l (n:=m) (by omega) g2.r g7 pre hpl (lv:Int) (by omega) (decide (j=0))
   subst er
   have hfst:((j:Int)==0)=decide (j=0):=by rw [Bool.eq_iff_iff,beq_iff_eq,decide_eq_true_eq];omega
   have hlen:=(zt7 pre lv (decide (j=0)) t).2.2
   generalize hX:rent pre lv (decide (j=0)) t=X at *
   have e1':C m 211 [.ptr 1 0 0,.str pre,i64 lv,.bool ((j:Int)==0)] h=some (.ret (.agg X.1.cells),h1):=by rw [hfst];exact e1
   have s1:=g2.next k1 r1
   have b1:GBuf tEn 22 h1 2 L (es.map Entry.cells) G:=g3.stays fun x hx hne=>by
    have:=g4 x hx
    exact k1.2 x (g3.lt (zab g2.p) x hx) (by simp;omega)
   obtain ⟨w,oh,ea,hp2,G',ehp2,p1,p2,p3,p4,xs,p5,p6⟩:=zhj (x:=.lst 22 [.agg X.1.cells] true) b1 (zab s1.p) rfl (zjc _ rfl rfl) ⟨rfl,rfl⟩ (by simp [g5];omega)
   subst p6
   have f1:=p1.trans s1.p
   conv=>whnf
   refine ldI g2.p ?_
   conv=>whnf
   refine ldI g2.p ?_
   conv=>whnf
   refine clI e1' ?_
   conv=>whnf
   refine ⟨?_,?_⟩
   ·repeat' (conv=>whnf);first | exact ldI (s1.p) rfl | refine ⟨?_,?_⟩
   conv=>whnf
   refine ⟨rfl,?_⟩
   refine ⟨_,ea,?_⟩
   have nxt:∀ L':LT,subL [(2,.ptr 0 0 0),(3,.ptr 1 0 0),(4,.ptr 2 0 0),(6,i64 cnt),(7,.str pre),(8,i64 ((j+1:Nat):Int))] L' → ∃ y:Nat × List Entry × RT × List Nat × AV × zaa,(y.1 ≤ cnt ∧ PSt y.2.2.2.2.2 (zcf k no v tree lv top y.2.2.2.2.1) y.2.2.1 ∧ GBuf tEn 22 y.2.2.2.2.2 2 y.2.2.2.2.1 (y.2.1.map Entry.cells) y.2.2.2.1 ∧ (∀ z∈y.2.2.2.1,z=2 ∨ 3 ≤ z) ∧ y.2.1.length=y.1 ∧ ze7 pre lv cnt 0 t0=(y.2.1++(ze7 pre lv (cnt-y.1) y.1 y.2.2.1).1,(ze7 pre lv (cnt-y.1) y.1 y.2.2.1).2) ∧ y.2.2.1.1.length<1099511627776) ∧ cnt-y.1<cnt-j ∧ LS.sub ⟨[(2,.ptr 0 0 0),(3,.ptr 1 0 0),(4,.ptr 2 0 0),(6,i64 cnt),(7,.str pre),(8,i64 y.1)],y.2.2.2.2.2,[]⟩ ⟨L',hp2.set 2 (.cells 0 (some tPg) (putAt (zcf k no v tree lv top L) 6 [w]) 0),[]⟩:=fun L' hL=>by
    have s2:PSt hp2 (zcf k no v tree lv top L) X.2:=by
     refine ⟨p3.get s1.a (fun q=>?_),p3.get s1.r (fun q=>?_),f1⟩
     ·have:=g4 _ q;omega
     ·have:=g4 _ q;omega
    refine ⟨(j+1,es++[X.1],X.2,G',w,_),⟨hj,s2.set (cs':=zcf k no v tree lv top w),?_,fun z hz=>?_,by simp [g5],?_,by simp only;omega⟩,by simp only;omega,hL,rfl,rfl⟩
    ·simp only [List.map_append,List.map_cons,List.map_nil]
     exact p2.stays fun y hy hn=>by rw [List.getElem?_set_ne (Ne.symm hn)]
    ·rcases p4 z hz with q | q
     ·exact g4 z q
     ·exact .inr (by have:=zab s1.p;omega)
    ·simp only
     rw [g6,hd']
     simp
   subst ehp2
   cases oh with
   | none =>
    conv=>whnf
    refine ⟨?_,?_⟩
    ·repeat' (conv=>whnf);first | exact ldI (f1) rfl | refine ⟨?_,?_⟩
    conv=>whnf
    refine stI f1 p5 (by rfl) (by rfl) (by rfl) ?_
    conv=>whnf
    refine zJ j ?_
    exact nxt _ ⟨rfl,rfl,rfl,rfl,rfl,rfl⟩
   | some h9 =>
    conv=>whnf
    refine ⟨?_,?_⟩
    ·repeat' (conv=>whnf);first | exact ldI (f1) rfl | refine ⟨?_,?_⟩
    conv=>whnf
    refine stI f1 p5 (by rfl) (by rfl) (by rfl) ?_
    conv=>whnf
    refine zJ j ?_
    exact nxt _ ⟨rfl,rfl,rfl,rfl,rfl,rfl⟩
  ·refine exitW _ ?_ ⟨rfl,rfl⟩
   rw [hd]
   show (if t.2=true then ([],t) else _)=_
   rw [if_pos c]
 ·conv=>whnf
  refine exitW _ ?_ ⟨rfl,rfl⟩
  have:cnt-j=0:=by simp only at a;omega
  rw [this]
  rfl
set_option maxRecDepth 10000 in
theorem zpy {m:Nat}(hm:2 ≤ m) {hp:zaa}{t0:RT}(r:RRd hp 1 t0) (hl:t0.1.length<1099511627776) {X:Nat}(hX:3 ≤ X) {ver:Int}(x:PG hp X ver [] [X]) (k:Nat) (hk:k<65536) (v2 v4 v9 v10:AV) {Q:Ex → LS → Prop}{st:LS}
  (hs:LS.sub ⟨[(2,v2),(3,.ptr 1 0 0),(4,v4),(9,v9),(10,v10),(11,.ptr X 0 0),(12,i64 k),(13,i64 0)],hp,[]⟩ st)
  (hE:∀ G h,RRd h 1 (zb6 k t0).2 → PG h X ver (zb6 k t0).1 G → Keep hp h [1,X] → (∀ z∈G,z=X ∨ hp.length ≤ z) → ∀ L,subL [(2,v2),(3,.ptr 1 0 0),(4,v4),(9,v9),(10,v10),(11,.ptr X 0 0)] L → Q (.exit 5) ⟨L,h,[]⟩) :
  OkR Tryz.prog (C m) cfg0.inl KK 135 8 (.loop (c167.lp 2)) st Q:=by
 have hXl:X<hp.length:=by obtain ⟨L,q2,_⟩:=x.ex;exact zab q2
 refine za3 (by decide) rfl (α:=Nat × List Nat × RT × List Nat × zaa) (fun y=>⟨[(2,v2),(3,.ptr 1 0 0),(4,v4),(9,v9),(10,v10),(11,.ptr X 0 0),(12,i64 k),(13,i64 y.1)],y.2.2.2.2,[]⟩)
  (fun y=>y.1 ≤ k ∧ PG y.2.2.2.2 X ver y.2.1 y.2.2.2.1 ∧ RRd y.2.2.2.2 1 y.2.2.1 ∧ Keep hp y.2.2.2.2 [1,X] ∧ (∀ z∈y.2.2.2.1,z=X ∨ hp.length ≤ z) ∧ y.2.1.length=y.1 ∧ zb6 k t0=(y.2.1++(zb6 (k-y.1) y.2.2.1).1,(zb6 (k-y.1) y.2.2.1).2) ∧ y.2.2.1.1.length<1099511627776)
  (fun y=>k-y.1) (0,[],t0,[X],hp) hs ⟨Nat.zero_le _,x,r,Keep.refl _ _,fun z hz=>.inl (by simpa using hz),rfl,by simp,hl⟩ (by show k-0<KK;simp only [KK];omega) ?_
 rintro ⟨j,ps,t,G1,h1⟩ ⟨g1,g2,g3,g4,g5,g6,g7,g8⟩
 simp only at g1 g2 g3 g4 g5 g6 g7 g8
 have bG1:1 ∉ G1:=fun q=>by
  rcases g5 _ q with q | q
  ·omega
  ·omega
 have exitW:∀ Lt:LT,zb6 (k-j) t=([],t) → subL [(2,v2),(3,.ptr 1 0 0),(4,v4),(9,v9),(10,v10),(11,.ptr X 0 0)] Lt → Q (.exit 5) ⟨Lt,h1,[]⟩:=fun Lt hr hL=>by
  rw [hr] at g7
  simp only [List.append_nil] at g7
  exact hE G1 h1 (by rw [g7];exact g3) (by rw [g7];exact g2) g4 g5 Lt hL
 have hrr:h1[1]?=some (.cells 0 (some tRef) [.str t.1,.bool t.2] 0):=g3
 conv=>whnf
 refine brd (fun a=>?_) (fun a=>?_)
 ·have hj:j<k:=by simp only at a;omega
  obtain ⟨d,hd⟩ : ∃ d,k-j=d+1:=⟨k-j-1,by omega⟩
  have hd':k-(j+1)=d:=by omega
  conv=>whnf
  refine ldI hrr ?_
  conv=>whnf
  refine brn (fun c=>?_) (fun c=>?_)
  ·have step:zb6 (d+1) t=if t.2=true then ([],t) else ((rnum 4 t).1::(zb6 d (rnum 4 t).2).1,(zb6 d (rnum 4 t).2).2):=rfl
   rw [hd,step,if_neg (by rw [c];decide)] at g7
   obtain ⟨h3,e3,r3,k3⟩:=zbu (n:=m) (by omega) g3 g8 4 (by omega)
   have hlen:=zaq 4 t
   generalize hZ:rnum 4 t=Z at *
   obtain ⟨L,x1,x2⟩:=g2.ex
   have x3:=k3.get x1 (by simp;omega)
   have b3:GBuf 3 1 h3 X L (row1 ps) G1:=x2.stays fun y hy hn=>k3.2 y (x2.lt (zab x1) y hy) (by simp;rintro rfl;exact bG1 hy)
   have k03:Keep hp h3 [1,X]:=g4.trans k3 (fun z hz=>.inl (by simp at hz;simp [hz]))
   have hlen2:(row1 ps).length=j:=by simp [row1,g6]
   obtain ⟨v,oh,ea,hp2,G',ehp2,p1,p2,p3,p4,xs,p5,p6⟩:=zhj (x:=.lst 1 [i64 Z.1] true) b3 (zab x3) rfl (zq6 _ _ rfl) ⟨rfl,rfl⟩ (by rw [hlen2];omega)
   subst p6
   have f3:=p1.trans x3
   have next:∀ (L':LT),subL [(2,v2),(3,.ptr 1 0 0),(4,v4),(9,v9),(10,v10),(11,.ptr X 0 0),(12,i64 k),(13,i64 ((j+1:Nat):Int))] L' → ∃ y:Nat × List Nat × RT × List Nat × zaa,(y.1 ≤ k ∧ PG y.2.2.2.2 X ver y.2.1 y.2.2.2.1 ∧ RRd y.2.2.2.2 1 y.2.2.1 ∧ Keep hp y.2.2.2.2 [1,X] ∧ (∀ z∈y.2.2.2.1,z=X ∨ hp.length ≤ z) ∧ y.2.1.length=y.1 ∧ zb6 k t0=(y.2.1++(zb6 (k-y.1) y.2.2.1).1,(zb6 (k-y.1) y.2.2.1).2) ∧ y.2.2.1.1.length<1099511627776) ∧ k-y.1<k-j ∧ LS.sub ⟨[(2,v2),(3,.ptr 1 0 0),(4,v4),(9,v9),(10,v10),(11,.ptr X 0 0),(12,i64 k),(13,i64 y.1)],y.2.2.2.2,[]⟩ ⟨L',hp2.set X (.cells 0 (some 145) (putAt [i64 ver,L] 1 [v]) 0),[]⟩:=fun L' hL=>by
    have eX:(hp2.set X (.cells 0 (some 145) (putAt [i64 ver,L] 1 [v]) 0))[X]?=some (.cells 0 (some 145) [i64 ver,v] 0):=by rw [List.getElem?_set_self (zab f3)];rfl
    have kS:Keep h3 (hp2.set X (.cells 0 (some 145) (putAt [i64 ver,L] 1 [v]) 0)) G1:=p3.set' (.inl b3.mem)
    refine ⟨(j+1,ps++[Z.1],Z.2,G',_),⟨hj,⟨v,eX,?_⟩,r3.stays kS bG1,?_,fun z hz=>?_,by simp [g6],?_,by simp only;omega⟩,by simp only;omega,hL,rfl,rfl⟩
    ·have:row1 (ps++[Z.1])=row1 ps++[[i64 Z.1]]:=by simp [row1]
     rw [this]
     exact p2.stays fun y hy hn=>by rw [List.getElem?_set_ne (Ne.symm hn)]
    ·exact k03.trans kS (fun z hz=>by
      rcases g5 z hz with q | q
      ·exact .inl (by simp [q])
      ·exact .inr q)
    ·rcases p4 z hz with q | q
     ·exact g5 z q
     ·exact .inr (by have:=k03.1;omega)
    ·simp only
     rw [g7,hd']
     simp
   conv=>whnf
   refine ldI x1 ?_
   conv=>whnf
   refine clI e3 ?_
   conv=>whnf
   refine ⟨?_,?_⟩
   ·repeat' (conv=>whnf);first | exact ldI (x3) rfl | refine ⟨?_,?_⟩
   conv=>whnf
   refine ⟨rfl,?_⟩
   refine ⟨_,ea,?_⟩
   subst ehp2
   cases oh with
   | none =>
    conv=>whnf
    refine stI f3 p5 (by rfl) (by rfl) (by rfl) ?_
    conv=>whnf
    refine zJ j ?_
    exact next _ ⟨rfl,rfl,rfl,rfl,rfl,rfl,rfl,rfl⟩
   | some h2 =>
    conv=>whnf
    refine stI f3 p5 (by rfl) (by rfl) (by rfl) ?_
    conv=>whnf
    refine zJ j ?_
    exact next _ ⟨rfl,rfl,rfl,rfl,rfl,rfl,rfl,rfl⟩
  ·refine exitW _ ?_ ⟨rfl,rfl,rfl,rfl,rfl,rfl⟩
   rw [hd]
   show (if t.2=true then ([],t) else _)=_
   rw [if_pos c]
 ·conv=>whnf
  refine exitW _ ?_ ⟨rfl,rfl,rfl,rfl,rfl,rfl⟩
  have:k-j=0:=by simp only at a;omega
  rw [this]
  rfl
def zc3 (k no v next:Nat) (LL:AV):List AV:=[i64 k,i64 no,i64 v,i64 0,i64 0,.bool false,.lst 0 [] true,i64 next,.str [],LL]
theorem zlb:∀ (k:Nat) (t:RT),(zb6 k t).2.1.length ≤ t.1.length
 | 0,t=>Nat.le_refl _
 | k+1,t=>by
  unfold zb6
  split
  ·exact Nat.le_refl _
  ·exact Nat.le_trans (zlb k _) (zaq 4 t)
abbrev FY:Type:=Nat × List FT × RT × List Nat × List Nat × AV × zaa
def FInv (kk no v next k:Nat) (t0:RT) (y:FY):Prop :=
 y.1 ≤ k ∧ PSt y.2.2.2.2.2.2 (zc3 kk no v next y.2.2.2.2.2.1) y.2.2.1 ∧ LV y.2.2.2.2.2.2 2 y.2.2.2.2.2.1 y.2.1 y.2.2.2.1 y.2.2.2.2.1 ∧ (∀ z∈y.2.2.2.1,z=2 ∨ 3 ≤ z) ∧ (∀ z∈y.2.2.2.2.1,3 ≤ z ∧ z ∉ y.2.2.2.1 ∧ z<y.2.2.2.2.2.2.length) ∧ y.2.1.length=y.1 ∧ zck k t0=(y.2.1.map ofF++(zck (k-y.1) y.2.2.1).1,(zck (k-y.1) y.2.2.1).2) ∧ y.2.2.1.1.length<1099511627776
set_option maxRecDepth 10000 in
theorem zof {m:Nat}(hm:2 ≤ m) {h0:zaa}{kk no v next:Nat}{t0:RT}(s0:PSt h0 (zc3 kk no v next (.lst 0 [] true)) t0) (hl:t0.1.length<1099511627776) (k:Nat) (hk:k<65536) {Q:Ex → LS → Prop}{st:LS}
  (hs:LS.sub ⟨[(2,.ptr 0 0 0),(3,.ptr 1 0 0),(4,.ptr 2 0 0),(9,i64 k),(10,i64 0)],h0,[]⟩ st)
  (hE:∀ ts G I LL h,(zck k t0).1=ts.map ofF → PSt h (zc3 kk no v next LL) (zck k t0).2 → LV h 2 LL ts G I → (∀ z∈G,z=2 ∨ 3 ≤ z) → (∀ z∈I,3 ≤ z ∧ z<h.length) → ∀ Lt,subL [(2,.ptr 0 0 0),(4,.ptr 2 0 0)] Lt → Q (.exit 3) ⟨Lt,h,[]⟩) :
  OkR Tryz.prog (C m) cfg0.inl KK 135 8 (.loop (c167.lp 1)) st Q:=by
 refine za3 (by decide) rfl (α:=FY) (fun y=>⟨[(2,.ptr 0 0 0),(3,.ptr 1 0 0),(4,.ptr 2 0 0),(9,i64 k),(10,i64 y.1)],y.2.2.2.2.2.2,[]⟩)
  (FInv kk no v next k t0) (fun y=>k-y.1) (0,[],t0,[2],[],.lst 0 [] true,h0) hs ⟨Nat.zero_le _,s0,⟨⟨by simp,.inl ⟨rfl,rfl,rfl⟩⟩,by simp⟩,fun z hz=>.inl (by simpa using hz),by simp,rfl,by simp,hl⟩ (by show k-0<KK;simp only [KK];omega) ?_
 rintro ⟨j,ts,t,G1,I1,LL,h1⟩ ⟨g1,g2,g3,g6,g7,g8,g9,g10⟩
 simp only at g1 g2 g3 g6 g7 g8 g9 g10
 have bG1:1 ∉ G1:=fun q=>by
  rcases g6 _ q with q | q
  ·omega
  ·omega
 have bI1:1 ∉ I1:=fun q=>by have:=(g7 _ q).1;omega
 have exitW:∀ Lt:LT,zck (k-j) t=([],t) → subL [(2,.ptr 0 0 0),(4,.ptr 2 0 0)] Lt → Q (.exit 3) ⟨Lt,h1,[]⟩:=fun Lt hr hL=>by
  rw [hr] at g9
  simp only [List.append_nil] at g9
  exact hE ts G1 I1 LL h1 (by rw [g9]) (by rw [g9];exact g2) g3 g6 (fun z hz=>⟨(g7 z hz).1,(g7 z hz).2.2⟩) Lt hL
 have hrr:h1[1]?=some (.cells 0 (some tRef) [.str t.1,.bool t.2] 0):=g2.r
 conv=>whnf
 refine brd (fun a=>?_) (fun a=>?_)
 ·have hj:j<k:=by simp only at a;omega
  obtain ⟨d,hd⟩ : ∃ d,k-j=d+1:=⟨k-j-1,by omega⟩
  have hd':k-(j+1)=d:=by omega
  conv=>whnf
  refine ldI hrr ?_
  conv=>whnf
  refine brn (fun c=>?_) (fun c=>?_)
  ·have step:zck (d+1) t=if t.2=true then ([],t) else ((zhx t).1::(zck d (zhx t).2).1,(zck d (zhx t).2).2):=rfl
   rw [hd,step,if_neg (by rw [c];decide)] at g9
   have l3:3 ≤ h1.length:=by have:=zab g2.p;omega
   obtain ⟨h2,e2,r2,k2⟩:=zbu (n:=m) (by omega) g2.r g10 6 (by omega)
   have n2:=zaq 6 t
   have s2:=g2.next k2 r2
   have hX3:3 ≤ h2.length:=by have:=k2.1;omega
   have es2:(h2++[AB.cells 0 (some 145) [i64 0,.lst 0 [] true] 0]).set h2.length (AB.cells 0 (some 145) [i64 (rnum 6 t).1,.lst 0 [] true] 0)=h2++[AB.cells 0 (some 145) [i64 (rnum 6 t).1,.lst 0 [] true] 0]:=by simp
   have kx:Keep h2 ((h2++[AB.cells 0 (some 145) [i64 0,.lst 0 [] true] 0]).set h2.length (AB.cells 0 (some 145) [i64 (rnum 6 t).1,.lst 0 [] true] 0)) []:=by rw [es2];exact Keep.app _ _ _
   have x3:((h2++[AB.cells 0 (some 145) [i64 0,.lst 0 [] true] 0]).set h2.length (AB.cells 0 (some 145) [i64 (rnum 6 t).1,.lst 0 [] true] 0))[h2.length]?=some (AB.cells 0 (some 145) [i64 (rnum 6 t).1,.lst 0 [] true] 0):=by rw [es2];exact zaf _ _
   have s3:=s2.stays kx (by simp)
   obtain ⟨h4,e4,r4,k4⟩:=zbu (n:=m) (by omega) s3.r (by omega) 2 (by omega)
   have n4:=zaq 2 (rnum 6 t).2
   have lz:=zd2 2 (rnum 6 t).2
   have x4:=k4.get x3 (by simp;omega)
   have k14:Keep h1 h4 [1]:=(k2.trans kx (by simp)).trans k4 (fun z hz=>.inl hz)
   have e0:zhx t=(((rnum 6 t).1,(zb6 (rnum 2 (rnum 6 t).2).1 (rnum 2 (rnum 6 t).2).2).1),(zb6 (rnum 2 (rnum 6 t).2).1 (rnum 2 (rnum 6 t).2).2).2):=rfl
   conv=>whnf
   refine clI e2 ?_
   conv=>whnf
   refine stJ (zaf _ _) ?_
   conv=>whnf
   refine clI e4 ?_
   conv=>whnf
   refine zpy (hp:=h4) hm r4 (by omega) (X:=h2.length) hX3 (ver:=((rnum 6 t).1:Nat)) ⟨_,x4,⟨by simp [row1],.inl ⟨rfl,rfl,rfl⟩⟩⟩ _ lz (.ptr 0 0 0) (.ptr 2 0 0) (i64 k) (i64 j) ⟨⟨rfl,rfl,rfl,rfl,rfl,rfl,rfl,rfl⟩,rfl,rfl⟩ (fun G5 h5 r5 x5 k5 g5' L5 hL5=>?_)
   have k15:Keep h1 h5 [1]:=k14.trans k5 (fun z hz=>by
    simp at hz
    rcases hz with rfl | rfl
    ·exact .inl (by simp)
    ·exact .inr k2.1)
   have y5:=k15.get g2.p (by simp)
   have lG1:=g3.buf.lt (zab g2.p)
   have l5:LV h5 2 LL ts G1 I1:=g3.stays (fun x hx _=>k15.2 x (lG1 x hx) (by simp;rintro rfl;exact bG1 hx)) (fun x hx=>k15.2 x (g7 x hx).2.2 (by simp;rintro rfl;exact bI1 hx))
   have lG5:=x5.lt
   obtain ⟨L,x5a,x5b⟩:=x5.ex
   have hi:=x5b.inr
   have hsc:=hi.scal
   have gG5:∀ z∈G5,h1.length ≤ z:=fun z hz=>by
    have:=k2.1
    have:=k14.1
    rcases g5' z hz with q | q
    ·omega
    ·omega
   have s5:=g2.next k15 r5
   have nr:=zlb (rnum 2 (rnum 6 t).2).1 (rnum 2 (rnum 6 t).2).2
   obtain ⟨w,oh,ea,hp2,G',ehp2,p1,p2,p3,p4,xs,p5,p6⟩:=zhj (x:=.lst 2 [.agg [i64 (rnum 6 t).1,L]] true) l5.buf (zab y5) rfl (zjc _ rfl (zpq hsc)) ⟨rfl,zn7 hsc⟩ (by simp only [List.length_map];omega)
   subst p6
   have f5:=p1.trans y5
   have nxt:∀ (L':LT),subL [(2,.ptr 0 0 0),(3,.ptr 1 0 0),(4,.ptr 2 0 0),(9,i64 k),(10,i64 ((j+1:Nat):Int))] L' → ∃ y:FY,FInv kk no v next k t0 y ∧ k-y.1<k-j ∧ LS.sub ⟨[(2,.ptr 0 0 0),(3,.ptr 1 0 0),(4,.ptr 2 0 0),(9,i64 k),(10,i64 y.1)],y.2.2.2.2.2.2,[]⟩ ⟨L',hp2.set 2 (.cells 0 (some tPg) (putAt (zc3 kk no v next LL) 9 [w]) 0),[]⟩:=fun L' hL=>by
    have kS:Keep h5 (hp2.set 2 (.cells 0 (some tPg) (putAt (zc3 kk no v next LL) 9 [w]) 0)) G1:=p3.set' (.inl l5.buf.mem)
    have s6:PSt hp2 (zc3 kk no v next LL) (zb6 (rnum 2 (rnum 6 t).2).1 (rnum 2 (rnum 6 t).2).2).2 :=
     ⟨p3.get s5.a (fun q=>by have:=g6 _ q;omega),p3.get s5.r bG1,f5⟩
    have n5:∀ z∈G5,z ∉ G1:=fun z hz q=>by have:=gG5 z hz;have:=lG1 z q;omega
    have sI:∀ x∈I1,(hp2.set 2 (.cells 0 (some tPg) (putAt (zc3 kk no v next LL) 9 [w]) 0))[x]?=h5[x]?:=fun x hx=>kS.2 x (by have:=(g7 x hx).2.2;have:=k15.1;omega) (g7 x hx).2.1
    have s5':∀ x∈G5,(hp2.set 2 (.cells 0 (some tPg) (putAt (zc3 kk no v next LL) 9 [w]) 0))[x]?=h5[x]?:=fun x hx=>kS.2 x (lG5 x hx) (n5 x hx)
    have hl2:=k15.1
    have hl3:=kS.1
    refine ⟨(j+1,ts++[((rnum 6 t).1,(zb6 (rnum 2 (rnum 6 t).2).1 (rnum 2 (rnum 6 t).2).2).1,L)],(zb6 (rnum 2 (rnum 6 t).2).1 (rnum 2 (rnum 6 t).2).2).2,G',I1++G5,w,_),⟨hj,s6.set (cs':=zc3 kk no v next w),⟨?_,fun u hu=>?_⟩,fun z hz=>?_,fun z hz=>?_,by simp [g8],?_,by simp only;omega⟩,by simp only;omega,hL,rfl,rfl⟩
    ·rw [List.map_append]
     exact p2.stays fun y hy hn=>by rw [List.getElem?_set_ne (Ne.symm hn)]
    ·rcases List.mem_append.1 hu with hu | hu
     ·exact (l5.inr u hu).stays sI fun x hx=>List.mem_append.2 (.inl hx)
     ·simp at hu
      subst hu
      exact hi.stays s5' fun x hx=>List.mem_append.2 (.inr hx)
    ·rcases p4 z hz with q | q
     ·exact g6 z q
     ·exact .inr (by omega)
    ·rcases List.mem_append.1 hz with q | q
     ·obtain ⟨a1,a2,a3⟩:=g7 z q
      refine ⟨a1,fun q2=>?_,by simp only [List.length_set] at hl3 ⊢;omega⟩
      rcases p4 z q2 with q3 | q3
      ·exact a2 q3
      ·omega
     ·have a1:=gG5 z q
      have a2:=lG5 z q
      refine ⟨by omega,fun q2=>?_,by simp only [List.length_set] at hl3 ⊢;omega⟩
      rcases p4 z q2 with q3 | q3
      ·exact n5 z q q3
      ·omega
    ·simp only
     rw [g9,hd',e0]
     simp [ofF]
   conv=>whnf
   refine cutI (by decide) rfl (t:=⟨[(2,.ptr 0 0 0),(3,.ptr 1 0 0),(4,.ptr 2 0 0),(9,i64 k),(10,i64 j),(11,.ptr h2.length 0 0)],h5,[]⟩) ⟨hL5,rfl,rfl⟩ ?_
   subst ehp2
   rcases hi with ⟨rfl,e⟩ | ⟨eb,ver',frz',rfl,i1,i2⟩
   ·conv=>whnf
    refine ldI y5 ?_
    conv=>whnf
    refine ldI x5a ?_
    conv=>whnf
    refine ⟨rfl,?_⟩
    refine ⟨_,ea,?_⟩
    cases oh with
    | none =>
     conv=>whnf
     refine stI f5 p5 (by rfl) (by rfl) (by rfl) ?_
     refine cutI (by decide) rfl (t:=⟨[(2,.ptr 0 0 0),(3,.ptr 1 0 0),(4,.ptr 2 0 0),(9,i64 k),(10,i64 j)],_,[]⟩) ⟨⟨rfl,rfl,rfl,rfl,rfl⟩,rfl,rfl⟩ ?_
     conv=>whnf
     refine zJ j ?_
     exact nxt _ ⟨rfl,rfl,rfl,rfl,rfl⟩
    | some h9 =>
     conv=>whnf
     refine stI f5 p5 (by rfl) (by rfl) (by rfl) ?_
     refine cutI (by decide) rfl (t:=⟨[(2,.ptr 0 0 0),(3,.ptr 1 0 0),(4,.ptr 2 0 0),(9,i64 k),(10,i64 j)],_,[]⟩) ⟨⟨rfl,rfl,rfl,rfl,rfl⟩,rfl,rfl⟩ ?_
     conv=>whnf
     refine zJ j ?_
     exact nxt _ ⟨rfl,rfl,rfl,rfl,rfl⟩
   ·conv=>whnf
    refine ldI y5 ?_
    conv=>whnf
    refine ldI x5a ?_
    conv=>whnf
    refine ⟨rfl,?_⟩
    refine ⟨_,ea,?_⟩
    cases oh with
    | none =>
     conv=>whnf
     refine stI f5 p5 (by rfl) (by rfl) (by rfl) ?_
     refine cutI (by decide) rfl (t:=⟨[(2,.ptr 0 0 0),(3,.ptr 1 0 0),(4,.ptr 2 0 0),(9,i64 k),(10,i64 j)],_,[]⟩) ⟨⟨rfl,rfl,rfl,rfl,rfl⟩,rfl,rfl⟩ ?_
     conv=>whnf
     refine zJ j ?_
     exact nxt _ ⟨rfl,rfl,rfl,rfl,rfl⟩
    | some h9 =>
     conv=>whnf
     refine stI f5 p5 (by rfl) (by rfl) (by rfl) ?_
     refine cutI (by decide) rfl (t:=⟨[(2,.ptr 0 0 0),(3,.ptr 1 0 0),(4,.ptr 2 0 0),(9,i64 k),(10,i64 j)],_,[]⟩) ⟨⟨rfl,rfl,rfl,rfl,rfl⟩,rfl,rfl⟩ ?_
     conv=>whnf
     refine zJ j ?_
     exact nxt _ ⟨rfl,rfl,rfl,rfl,rfl⟩
  ·refine exitW _ ?_ ⟨rfl,rfl⟩
   rw [hd]
   show (if t.2=true then ([],t) else _)=_
   rw [if_pos c]
 ·conv=>whnf
  refine exitW _ ?_ ⟨rfl,rfl⟩
  have:k-j=0:=by simp only at a;omega
  rw [this]
  rfl
def hA (t:RT):=rnum 1 t
def hB (t:RT):=rnum 4 (hA t).2
def hC (t:RT):=rnum 6 (hB t).2
def nA (t:RT):=rnum 1 t
def nB (t:RT):=rnum 1 (nA t).2
def nC (t:RT):=rnum 1 (nB t).2
def nD (t:RT):=rnum 1 (nC t).2
def nE (t:RT):=rnum 2 (nD t).2
def nF (t:RT):=zbh (nD t).1 (nE t).2
def nG (t:RT):=zbh (2*(nE t).1) (nF t).2
def nR (t:RT):=ze7 (nF t).1 ((nB t).1:Nat) (nE t).1 0 (nG t).2
theorem z5d (t:RT):nG t=zbh (2*(nE t).1) (nF t).2:=by unfold nG;rfl
theorem z5c (t:RT):nR t=ze7 (nF t).1 ((nB t).1:Nat) (nE t).1 0 (nG t).2:=by unfold nR;rfl
def pA (t:RT):=rnum 4 t
def pB (t:RT):=rnum 2 (pA t).2
def pC (t:RT):=zbh (pB t).1 (pB t).2
def lC (t:RT):=zck (pB t).1 (pB t).2
theorem pC_def (t:RT):pC t=zbh (pB t).1 (pB t).2:=by unfold pC;rfl
theorem lC_def (t:RT):lC t=zck (pB t).1 (pB t).2:=by unfold lC;rfl
def T0 (s:Str):RT:=((s.take 508).drop 1,false)
def T3 (s:Str):RT:=(hC (T0 s)).2
theorem znz {s:Str}(hl:s.length=512):(T0 s).1.length=507:=by unfold T0;simp;omega
theorem zmt {s:Str}(hl:s.length=512):(T3 s).1.length ≤ 507:=by
 have h1:=zaq 1 (T0 s)
 have h2:=zaq 4 (hA (T0 s)).2
 have h3:=zaq 6 (hB (T0 s)).2
 have:=znz hl
 exact Nat.le_trans h3 (Nat.le_trans h2 (Nat.le_trans h1 (by omega)))
theorem z5e (t:RT):(nE t).2.1.length ≤ t.1.length:=Nat.le_trans (zaq 2 (nD t).2) (Nat.le_trans (zaq 1 (nC t).2) (Nat.le_trans (zaq 1 (nB t).2) (Nat.le_trans (zaq 1 (nA t).2) (zaq 1 t))))
theorem zuf (t:RT):(nF t).1.length ≤ t.1.length ∧ (nF t).2.1.length ≤ t.1.length :=
 ⟨Nat.le_trans (zcc (nD t).1 (nE t).2).1 (z5e t),Nat.le_trans (zcc (nD t).1 (nE t).2).2.1 (z5e t)⟩
theorem zzl (t:RT):(nG t).2.1.length ≤ t.1.length:=by
 have h1:=(zcc (2*(nE t).1) (nF t).2).2.1
 have h2:=(zuf t).2
 unfold nG
 exact Nat.le_trans h1 h2
theorem pC_len (t:RT):(pC t).1.length ≤ t.1.length:=Nat.le_trans (zcc (pB t).1 (pB t).2).1 (Nat.le_trans (zaq 2 (pA t).2) (zaq 4 t))
theorem nR_len {t:RT}{M:Nat}(h:t.1.length ≤ M):(nR t).1.length<65536 ∧ ∀ e∈(nR t).1,e.key.length ≤ M+M ∧ e.val.length ≤ M:=by
 have l1:=zqe (pre:=(nF t).1) (lv:=((nB t).1:Nat)) (M:=M) (nE t).1 0 (nG t).2 (Nat.le_trans (zzl t) h)
 have l2:(nE t).1<65536:=zd2 2 (nD t).2
 have l3:=(zuf t).1
 refine ⟨Nat.lt_of_le_of_lt l1.1 l2,fun e he=>?_⟩
 have:=l1.2 e he
 exact ⟨by omega,this.2⟩
theorem lC_len (t:RT):(lC t).1.length<65536 ∧ ∀ x∈(lC t).1,x.2.length<65536:=by
 have l1:=zlf (pB t).1 (pB t).2
 have l2:(pB t).1<65536:=zd2 2 (pA t).2
 exact ⟨Nat.lt_of_le_of_lt l1.1 l2,l1.2⟩
def RdS (s:Str) (q:Page):Prop:=q.Ok ∧ ∀ x,zd9 s=some x → (x.kind=1 ∨ x.kind=2 ∨ x.kind=3 ∨ x.kind=4) → BlkIs q x
theorem zo1 {s:Str}{x:Blk}(h:zd9 s=some x):x.kind=(hA (T0 s)).1 ∧ x.no=(hB (T0 s)).1 ∧ x.ver=(hC (T0 s)).1 ∧ ∃ s3,T3 s=(s3,false) ∧ zfa x.kind s3=some x.bd:=by
 unfold zd9 at h
 obtain ⟨⟨a,s1⟩,h1,h⟩:=zan h
 obtain ⟨⟨b,s2⟩,h2,h⟩:=zan h
 obtain ⟨⟨c,s3⟩,h3,h⟩:=zan h
 obtain ⟨bd,h4,h⟩:=za0 h
 simp only at h2 h3 h4
 have e1:hA (T0 s)=(a,s1,false):=zb3 h1
 have e2:hB (T0 s)=(b,s2,false):=by unfold hB;rw [e1];exact zb3 h2
 have e3:hC (T0 s)=(c,s3,false):=by unfold hC;rw [e2];exact zb3 h3
 rw [e1,e2,e3,← h]
 exact ⟨rfl,rfl,rfl,s3,by unfold T3;rw [e3],h4⟩
theorem z63 {s u:Str}{x:NodeP}(h:zdw s=some (x,u)):x.tree=(nA (s,false)).1 ∧ x.lv=(nB (s,false)).1 ∧ x.top=((nC (s,false)).1==1) ∧ x.es=(nR (s,false)).1:=by
 unfold zdw at h
 obtain ⟨⟨a,s1⟩,h1,h⟩:=zan h
 obtain ⟨⟨b,s2⟩,h2,h⟩:=zan h
 obtain ⟨⟨c,s3⟩,h3,h⟩:=zan h
 obtain ⟨⟨d,s4⟩,h4,h⟩:=zan h
 obtain ⟨⟨e,s5⟩,h5,h⟩:=zan h
 obtain ⟨⟨f,s6⟩,h6,h⟩:=zan h
 obtain ⟨⟨g,s7⟩,h7,h⟩:=zan h
 obtain ⟨⟨r,s8⟩,h8,h⟩:=za0 h
 simp only at h2 h3 h4 h5 h6 h7 h8
 have e1:nA (s,false)=(a,s1,false):=zb3 h1
 have e2:nB (s,false)=(b,s2,false):=by unfold nB;rw [e1];exact zb3 h2
 have e3:nC (s,false)=(c,s3,false):=by unfold nC;rw [e2];exact zb3 h3
 have e4:nD (s,false)=(d,s4,false):=by unfold nD;rw [e3];exact zb3 h4
 have e5:nE (s,false)=(e,s5,false):=by unfold nE;rw [e4];exact zb3 h5
 have e6:nF (s,false)=(f,s6,false):=by unfold nF;rw [e4,e5];exact ziz h6
 have e7:nG (s,false)=(g,s7,false):=by unfold nG;rw [e5,e6];exact ziz h7
 have e8:nR (s,false)=(r,s8,false):=by unfold nR;rw [e2,e5,e6,e7];exact zt6 (by simp only;omega) h8
 cases h
 rw [e1,e2,e3,e8]
 exact ⟨rfl,rfl,rfl,rfl⟩
theorem z3j {s u:Str}{x:Nat × Str}(h:zdv s=some (x,u)):x.1=(pA (s,false)).1 ∧ x.2=(pC (s,false)).1:=by
 unfold zdv at h
 obtain ⟨⟨a,s1⟩,h1,h⟩:=zan h
 obtain ⟨⟨b,s2⟩,h2,h⟩:=zan h
 obtain ⟨⟨c,s3⟩,h3,h⟩:=za0 h
 simp only at h2 h3
 have e1:pA (s,false)=(a,s1,false):=zb3 h1
 have e2:pB (s,false)=(b,s2,false):=by unfold pB;rw [e1];exact zb3 h2
 have e3:pC (s,false)=(c,s3,false):=by unfold pC;rw [e2];exact ziz h3
 cases h
 rw [e1,e3]
 exact ⟨rfl,rfl⟩
theorem z3v {s u:Str}{x:Nat × List (Nat × List Nat)}(h:zia s=some (x,u)):x.1=(pA (s,false)).1 ∧ x.2=(lC (s,false)).1:=by
 unfold zia at h
 obtain ⟨⟨a,s1⟩,h1,h⟩:=zan h
 obtain ⟨⟨b,s2⟩,h2,h⟩:=zan h
 obtain ⟨⟨c,s3⟩,h3,h⟩:=za0 h
 simp only at h2 h3
 have e1:pA (s,false)=(a,s1,false):=zb3 h1
 have e2:pB (s,false)=(b,s2,false):=by unfold pB;rw [e1];exact zb3 h2
 have e3:lC (s,false)=(c,s3,false):=by unfold lC;rw [e2];exact znc h3
 cases h
 rw [e1,e3]
 exact ⟨rfl,rfl⟩
theorem z8a {s s3:Str}{x:Blk}(hx:zd9 s=some x) (hk:x.kind=1 ∨ x.kind=2) (e3:T3 s=(s3,false)) (hb:zfa x.kind s3=some x.bd):∃ y,x.bd=.nd y ∧ y.tree=(nA (T3 s)).1 ∧ y.lv=(nB (T3 s)).1 ∧ y.top=((nC (T3 s)).1==1) ∧ y.es=(nR (T3 s)).1:=by
 unfold zfa at hb
 rw [if_pos hk] at hb
 obtain ⟨⟨y,u⟩,hn,hb⟩:=za0 hb
 rw [e3]
 exact ⟨y,hb.symm,z63 hn⟩
theorem z40 {s s3:Str}{x:Blk}(hx:zd9 s=some x) (hk:x.kind=3) (e3:T3 s=(s3,false)) (hb:zfa x.kind s3=some x.bd):∃ y,x.bd=.pc y ∧ y.1=(pA (T3 s)).1 ∧ y.2=(pC (T3 s)).1:=by
 unfold zfa at hb
 rw [if_neg (by omega),if_pos hk] at hb
 obtain ⟨⟨y,u⟩,hn,hb⟩:=za0 hb
 rw [e3]
 exact ⟨y,hb.symm,z3j hn⟩
theorem z8b {s s3:Str}{x:Blk}(hx:zd9 s=some x) (hk:x.kind=4) (e3:T3 s=(s3,false)) (hb:zfa x.kind s3=some x.bd):∃ y,x.bd=.ls y ∧ y.1=(pA (T3 s)).1 ∧ y.2=(lC (T3 s)).1:=by
 unfold zfa at hb
 rw [if_neg (by omega),if_neg (by omega)] at hb
 obtain ⟨⟨y,u⟩,hn,hb⟩:=za0 hb
 rw [e3]
 exact ⟨y,hb.symm,z3v hn⟩
theorem z6q {s:Str}(hl:s.length=512) {q:Page}(hk:(hA (T0 s)).1=1 ∨ (hA (T0 s)).1=2) (q1:q.kind=(hA (T0 s)).1) (q2:q.no=(hB (T0 s)).1) (q3:q.ver=(hC (T0 s)).1) (q4:q.tree=(nA (T3 s)).1) (q5:q.level=(nB (T3 s)).1) (q6:q.top=((nC (T3 s)).1==1)) (q7:q.entries=(nR (T3 s)).1) (q8:q.next=0) (q9:q.data=[]) (q10:q.freed=[]) (hsz:q.entries≠[] → q.esh.sz=22):RdS s q:=by
 have lR:=nR_len (zmt hl)
 rw [← q7] at lR
 refine ⟨⟨hsz,fun h=>(h q10).elim,by omega,by rw [q10];decide,by rw [q9];decide,fun e he=>?_,fun f hf=>?_⟩,fun x hx _=>?_⟩
 ·have:=lR.2 e he
  exact ⟨by omega,by omega⟩
 ·rw [q10] at hf;cases hf
 ·obtain ⟨a1,a2,a3,s3,e3,hb⟩:=zo1 hx
  obtain ⟨y,b0,b1,b2,b3,b4⟩:=z8a hx (by rw [a1];exact hk) e3 hb
  refine ⟨by rw [q1,a1],by rw [q2,a2],by rw [q3,a3],?_,hsz,fun h=>(h q10).elim⟩
  rw [b0]
  exact ⟨by rw [q4,b1],by rw [q5,b2],by rw [q6,b3],by rw [q7,b4],q8,q9,q10⟩
theorem z3a {s:Str}(hl:s.length=512) {q:Page}(hk:(hA (T0 s)).1=3) (q1:q.kind=(hA (T0 s)).1) (q2:q.no=(hB (T0 s)).1) (q3:q.ver=(hC (T0 s)).1) (q4:q.tree=0) (q5:q.level=0) (q6:q.top=false) (q7:q.entries=[]) (q8:q.next=(pA (T3 s)).1) (q9:q.data=(pC (T3 s)).1) (q10:q.freed=[]):RdS s q:=by
 have l1:=pC_len (T3 s)
 have l2:=zmt hl
 rw [← q9] at l1
 refine ⟨⟨fun h=>(h q7).elim,fun h=>(h q10).elim,by rw [q7];decide,by rw [q10];decide,by omega,fun e he=>?_,fun f hf=>?_⟩,fun x hx _=>?_⟩
 ·rw [q7] at he;cases he
 ·rw [q10] at hf;cases hf
 ·obtain ⟨a1,a2,a3,s3,e3,hb⟩:=zo1 hx
  obtain ⟨y,b0,b1,b2⟩:=z40 hx (by rw [a1];exact hk) e3 hb
  refine ⟨by rw [q1,a1],by rw [q2,a2],by rw [q3,a3],?_,fun h=>(h q7).elim,fun h=>(h q10).elim⟩
  rw [b0]
  exact ⟨q4,q5,q6,q7,by rw [q8,b1],by rw [q9,b2],q10⟩
theorem z6r {s:Str}(hl:s.length=512) {q:Page}(hk:(hA (T0 s)).1=4) (q1:q.kind=(hA (T0 s)).1) (q2:q.no=(hB (T0 s)).1) (q3:q.ver=(hC (T0 s)).1) (q4:q.tree=0) (q5:q.level=0) (q6:q.top=false) (q7:q.entries=[]) (q8:q.next=(pA (T3 s)).1) (q9:q.data=[]) (hsz:q.freed≠[] → q.fsh.sz=2) (hf:FsAre q.freed (lC (T3 s)).1):RdS s q:=by
 have lF:=lC_len (T3 s)
 have le:=hf.length_eq
 refine ⟨⟨fun h=>(h q7).elim,hsz,by rw [q7];decide,by omega,by rw [q9];decide,fun e he=>?_,hf.ok lF.2⟩,fun x hx _=>?_⟩
 ·rw [q7] at he;cases he
 ·obtain ⟨a1,a2,a3,s3,e3,hb⟩:=zo1 hx
  obtain ⟨y,b0,b1,b2⟩:=z8b hx (by rw [a1];exact hk) e3 hb
  refine ⟨by rw [q1,a1],by rw [q2,a2],by rw [q3,a3],?_,fun h=>(h q7).elim,hsz⟩
  rw [b0]
  exact ⟨q4,q5,q6,q7,by rw [q8,b1],q9,by rw [b2];exact hf⟩
theorem z3b {s:Str}{q:Page}(hk:¬((hA (T0 s)).1=1 ∨ (hA (T0 s)).1=2)) (h3:(hA (T0 s)).1≠3) (h4:(hA (T0 s)).1≠4) (q7:q.entries=[]) (q9:q.data=[]) (q10:q.freed=[]):RdS s q:=by
 refine ⟨⟨fun h=>(h q7).elim,fun h=>(h q10).elim,by rw [q7];decide,by rw [q10];decide,by rw [q9];decide,fun e he=>?_,fun f hf=>?_⟩,fun x hx hk'=>?_⟩
 ·rw [q7] at he;cases he
 ·rw [q10] at hf;cases hf
 ·have:=(zo1 hx).1
  omega
theorem zj4 {h:zaa}{a b c d e g:Int}{f:Bool}{t:Str}{L M L' M':AV}(h1:Abs.frz h 63 L=some M) (h2:Abs.frz h 63 L'=some M') :
  allM (Abs.frz h 63) [i64 a,i64 b,i64 c,i64 d,i64 e,.bool f,L,i64 g,.str t,L']=some [i64 a,i64 b,i64 c,i64 d,i64 e,.bool f,M,i64 g,.str t,M']:=by
 have fi:∀ k:Int,Abs.frz h 63 (i64 k)=some (i64 k):=fun _=>rfl
 have fb:Abs.frz h 63 (.bool f)=some (.bool f):=rfl
 have fs:Abs.frz h 63 (.str t)=some (.str t):=rfl
 simp only [allM,fi,fb,fs,h1,h2]
theorem zkv {h:zaa}:Abs.frz h 63 (.lst 0 [] true)=some (.lst 0 [] true):=rfl
abbrev RdQ (m:Nat) (s:Str):Ex → LS → Prop:=EndQ Tryz.prog (C m) cfg0.inl [.cell 2 tPg] (fun r h=>∃ r',OutR r' r h ∧ ∃ q:Page,r'=.ret q.av ∧ RdS s q)
theorem zyw {m:Nat}{s:Str}{L:LT}{h:zaa}{cs:List AV}{q:Page}(h2:lk L 2=some (.ptr 0 0 0)) (hP:h[0]?=some (.cells 0 (some tPg) cs 0)) (hc:cs.length=10) (hf:allM (Abs.frz h 63) cs=some q.cells) (hS:RdS s q):RdQ m s .ret ⟨L,h,[]⟩:=by
 refine ⟨[.agg cs],zbq h2 (N:=10) (by kernel_rfl) hc hP,.ret q.av,⟨q.av,?_,rfl⟩,q,rfl,hS⟩
 show Abs.frz h 64 (.agg cs)=some q.av
 unfold Abs.frz
 simp only [hf]
 rfl
def zic (k no v next:Nat) (d:Str):List AV:=[i64 k,i64 no,i64 v,i64 0,i64 0,.bool false,.lst 0 [] true,i64 next,.str d,.lst 0 [] true]
section
variable {m:Nat}{s:Str}{h:zaa}{L:AV}{G I:List Nat}{k no v tr lv next:Nat}{top:Bool}{es:List Entry}{d:Str}{t:RT}{Lt:LT}
theorem zut (st:PSt h (zcf k no v tr lv top L) t) (g:GBuf tEn 22 h 2 L (es.map Entry.cells) G) (hG:∀ z∈G,z=2 ∨ 3 ≤ z) (hS:∀ sh:Sh,(es≠[] → sh.sz=22) → RdS s ⟨k,no,v,tr,lv,top,sh,es,0,[],⟨0,true⟩,[]⟩) (h2:lk Lt 2=some (.ptr 0 0 0)) :
  RdQ m s .ret ⟨Lt,h.set 0 (.cells 0 (some tPg) (zcf k no v tr lv top L) 0),[]⟩:=by
 obtain ⟨sh,f1,f2⟩:=zup (h:=h.set 0 (.cells 0 (some tPg) (zcf k no v tr lv top L) 0)) (g.stays fun y hy hn=>by
  have:=hG y hy
  rw [List.getElem?_set_ne (by omega)]) 61
 exact zyw (cs:=zcf k no v tr lv top L) (q:=⟨k,no,v,tr,lv,top,sh,es,0,[],⟨0,true⟩,[]⟩) h2 (by rw [List.getElem?_set_self (zab st.a)]) rfl (zj4 f1 zkv) (hS sh f2)
theorem zq8 (st:PSt h (zic k no v next d) t) (hS:RdS s ⟨k,no,v,0,0,false,⟨0,true⟩,[],next,d,⟨0,true⟩,[]⟩) (h2:lk Lt 2=some (.ptr 0 0 0)) :
  RdQ m s .ret ⟨Lt,h.set 0 (.cells 0 (some tPg) (zic k no v next d) 0),[]⟩ :=
 zyw (cs:=zic k no v next d) (q:=⟨k,no,v,0,0,false,⟨0,true⟩,[],next,d,⟨0,true⟩,[]⟩) h2 (by rw [List.getElem?_set_self (zab st.a)]) rfl (zj4 zkv zkv) hS
theorem z4f {ts:List FT}(st:PSt h (zc3 k no v next L) t) (lv:LV h 2 L ts G I) (hG:∀ z∈G,z=2 ∨ 3 ≤ z) (hI:∀ z∈I,3 ≤ z ∧ z<h.length) (hS:∀ (sh:Sh) (fs:List Freed),(fs≠[] → sh.sz=2) → FsAre fs (ts.map ofF) → RdS s ⟨k,no,v,0,0,false,⟨0,true⟩,[],next,[],sh,fs⟩) (h2:lk Lt 2=some (.ptr 0 0 0)) :
  RdQ m s .ret ⟨Lt,h.set 0 (.cells 0 (some tPg) (zc3 k no v next L) 0),[]⟩:=by
 obtain ⟨sh,fs,f1,f2,f3⟩:=zuo (h:=h.set 0 (.cells 0 (some tPg) (zc3 k no v next L) 0)) (lv.stays (fun y hy hn=>by
  have:=hG y hy
  rw [List.getElem?_set_ne (by omega)]) (fun y hy=>by
  have:=hI y hy
  rw [List.getElem?_set_ne (by omega)])) 60
 exact zyw (cs:=zc3 k no v next L) (q:=⟨k,no,v,0,0,false,⟨0,true⟩,[],next,[],sh,fs⟩) h2 (by rw [List.getElem?_set_self (zab st.a)]) rfl (zj4 zkv f1) (hS sh fs f2 f3)
theorem zt9 {sh:Sh}(hl:s.length=512) (hk:k=1 ∨ k=2) (h1:k=(hA (T0 s)).1) (h2:no=(hB (T0 s)).1) (h3:v=(hC (T0 s)).1) (h4:tr=(nA (T3 s)).1) (h5:lv=(nB (T3 s)).1) (h6:top=((nC (T3 s)).1==1)) (h7:es=(nR (T3 s)).1) (hsz:es≠[] → sh.sz=22):RdS s ⟨k,no,v,tr,lv,top,sh,es,0,[],⟨0,true⟩,[]⟩ :=
 z6q hl (by rw [← h1];exact hk) (by rw [← h1]) (by rw [← h2]) (by rw [← h3]) (by rw [← h4]) (by rw [← h5]) (by rw [← h6]) (by rw [← h7]) rfl rfl rfl hsz
theorem zyu (hl:s.length=512) (hk:k=3) (h1:k=(hA (T0 s)).1) (h2:no=(hB (T0 s)).1) (h3:v=(hC (T0 s)).1) (h4:next=(pA (T3 s)).1) (h5:d=(pC (T3 s)).1):RdS s ⟨k,no,v,0,0,false,⟨0,true⟩,[],next,d,⟨0,true⟩,[]⟩ :=
 z3a hl (by rw [← h1];exact hk) (by rw [← h1]) (by rw [← h2]) (by rw [← h3]) rfl rfl rfl rfl (by rw [← h4]) (by rw [← h5]) rfl
theorem z3c {sh:Sh}{fs:List Freed}{w:List (Nat × List Nat)}(hl:s.length=512) (hk:k=4) (h1:k=(hA (T0 s)).1) (h2:no=(hB (T0 s)).1) (h3:v=(hC (T0 s)).1) (h4:next=(pA (T3 s)).1) (hsz:fs≠[] → sh.sz=2) (hw:(lC (T3 s)).1=w) (hf:FsAre fs w):RdS s ⟨k,no,v,0,0,false,⟨0,true⟩,[],next,[],sh,fs⟩ :=
 z6r hl (by rw [← h1];exact hk) (by rw [← h1]) (by rw [← h2]) (by rw [← h3]) rfl rfl rfl rfl (by rw [← h4]) rfl hsz (by rw [hw];exact hf)
theorem zyv (hk:¬(k=1 ∨ k=2)) (hk3:k≠3) (hk4:k≠4) (h1:k=(hA (T0 s)).1):RdS s ⟨k,no,v,0,0,false,⟨0,true⟩,[],(0:Nat),[],⟨0,true⟩,[]⟩ :=
 z3b (by rw [← h1];exact hk) (by rw [← h1];exact hk3) (by rw [← h1];exact hk4) rfl rfl rfl
end
section
variable {m:Nat}{s:Str}
set_option maxRecDepth 10000 in
theorem zyq (hn:3 ≤ m) (hl:s.length=512) (hk1:(hA (T0 s)).1=1):∃ r,(∀ h,C (m+1) 167 [.str s] h=some (r,h)) ∧ ∃ q:Page,r=.ret q.av ∧ RdS s q:=by
 have hk:(hA (T0 s)).1=1 ∨ (hA (T0 s)).1=2:=.inl hk1
 have l0:=znz hl
 have e1:C m 209 [.ptr 1 0 0,i64 (1:Nat)] [.cells 0 (some tPg) zax 0,zbj (T0 s)]=some (.ret (i64 (hA (T0 s)).1),[.cells 0 (some tPg) zax 0,zbj (hA (T0 s)).2]):=zb7 (n:=m) (t:=T0 s) (by omega) (show RRd [.cells 0 (some tPg) zax 0,zbj (T0 s)] 1 (T0 s) from rfl) (by omega) 1 (by omega)
 have l1:(hA (T0 s)).2.1.length ≤ (T0 s).1.length:=zaq 1 _
 have e2:C m 209 [.ptr 1 0 0,i64 (4:Nat)] [.cells 0 (some tPg) zax 0,zbj (hA (T0 s)).2]=some (.ret (i64 (hB (T0 s)).1),[.cells 0 (some tPg) zax 0,zbj (hB (T0 s)).2]):=zb7 (n:=m) (t:=(hA (T0 s)).2) (by omega) (show RRd [.cells 0 (some tPg) zax 0,zbj (hA (T0 s)).2] 1 (hA (T0 s)).2 from rfl) (by omega) 4 (by omega)
 have l2:(hB (T0 s)).2.1.length ≤ (hA (T0 s)).2.1.length:=zaq 4 _
 have e3:C m 209 [.ptr 1 0 0,i64 (6:Nat)] [.cells 0 (some tPg) zax 0,zbj (hB (T0 s)).2]=some (.ret (i64 (hC (T0 s)).1),[.cells 0 (some tPg) zax 0,zbj (T3 s)]):=zb7 (n:=m) (t:=(hB (T0 s)).2) (by omega) (show RRd [.cells 0 (some tPg) zax 0,zbj (hB (T0 s)).2] 1 (hB (T0 s)).2 from rfl) (by omega) 6 (by omega)
 have l3:=zmt hl
 refine zev F167 rfl rfl rfl rfl ?_
 conv=>whnf
 refine zhs (s:=s) (c:=1) (d:=508) (by omega) (by omega) ?_
 conv=>whnf
 refine clI e1 ?_
 conv=>whnf
 refine clI e2 ?_
 conv=>whnf
 refine clI e3 ?_
 conv=>whnf
 refine stJ (xs:=zcd (hA (T0 s)).1 (hB (T0 s)).1 (hC (T0 s)).1) (by rfl) ?_
 conv=>whnf
 refine ldI (by rfl) ?_
 conv=>whnf
 have s3:PSt [.cells 0 (some tPg) zax 0,zbj (T3 s),.cells 0 (some tPg) (zcd (hA (T0 s)).1 (hB (T0 s)).1 (hC (T0 s)).1) 0] (zcd (hA (T0 s)).1 (hB (T0 s)).1 (hC (T0 s)).1) (T3 s):=⟨rfl,rfl,rfl⟩
 refine bre (fun _=>?_) (fun q=>absurd (by rw [hk1];rfl) q)
 obtain ⟨h4,e4,r4,k4⟩:=zbu (n:=m) (by omega) s3.r (by omega) 1 (by omega)
 have z4:=s3.next k4 r4
 have s4:=z4.set (cs':=zcf (hA (T0 s)).1 (hB (T0 s)).1 (hC (T0 s)).1 (nA (T3 s)).1 0 false (.lst 0 [] true))
 have n4:(nA (T3 s)).2.1.length ≤ 507:=Nat.le_trans (zaq 1 (T3 s)) l3
 obtain ⟨h5,e5,r5,k5⟩:=zbu (n:=m) (t:=(nA (T3 s)).2) (by omega) s4.r (by omega) 1 (by omega)
 have z5:=s4.next k5 r5
 have s5:=z5.set (cs':=zcf (hA (T0 s)).1 (hB (T0 s)).1 (hC (T0 s)).1 (nA (T3 s)).1 (nB (T3 s)).1 false (.lst 0 [] true))
 have n5:(nB (T3 s)).2.1.length ≤ 507:=Nat.le_trans (zaq 1 (nA (T3 s)).2) n4
 obtain ⟨h6,e6,r6,k6⟩:=zbu (n:=m) (t:=(nB (T3 s)).2) (by omega) s5.r (by omega) 1 (by omega)
 have z6:=s5.next k6 r6
 have s6:=z6.set (cs':=zcf (hA (T0 s)).1 (hB (T0 s)).1 (hC (T0 s)).1 (nA (T3 s)).1 (nB (T3 s)).1 ((nC (T3 s)).1==1) (.lst 0 [] true))
 have n6:(nC (T3 s)).2.1.length ≤ 507:=Nat.le_trans (zaq 1 (nB (T3 s)).2) n5
 obtain ⟨h7,e7,r7,k7⟩:=zbu (n:=m) (t:=(nC (T3 s)).2) (by omega) s6.r (by omega) 1 (by omega)
 have s7:=s6.next k7 r7
 have n7:(nD (T3 s)).2.1.length ≤ 507:=Nat.le_trans (zaq 1 (nC (T3 s)).2) n6
 obtain ⟨h8,e8,r8,k8⟩:=zbu (n:=m) (t:=(nD (T3 s)).2) (by omega) s7.r (by omega) 2 (by omega)
 have s8:=s7.next k8 r8
 have n8:(nE (T3 s)).2.1.length ≤ 507:=Nat.le_trans (zaq 2 (nD (T3 s)).2) n7
 have bD:(nD (T3 s)).1<256:=zd2 1 (nC (T3 s)).2
 have bE:(nE (T3 s)).1<65536:=zd2 2 (nD (T3 s)).2
 obtain ⟨h9,e9,r9,k9⟩:=ze0 (n:=m) (t:=(nE (T3 s)).2) (by omega) s8.r (by omega) (nD (T3 s)).1 (by omega)
 have s9:=s8.next k9 r9
 have n9:=zuf (T3 s)
 obtain ⟨hx,ex,rx,kx⟩:=ze0 (n:=m) (t:=(nF (T3 s)).2) (by omega) s9.r (by omega) (2*(nE (T3 s)).1) (by omega)
 rw [← z5d] at ex rx
 have sx:=s9.next kx rx
 have nx:=zzl (T3 s)
 conv=>whnf
 refine clI e4 ?_
 conv=>whnf
 refine stJ z4.p ?_
 conv=>whnf
 refine clI e5 ?_
 conv=>whnf
 refine stJ z5.p ?_
 conv=>whnf
 refine clI e6 ?_
 conv=>whnf
 refine stI z6.p (xs:=[.bool ((nC (T3 s)).1==1)]) (by rw [← ztd];rfl) (by rfl) (by rfl) (by rfl) ?_
 conv=>whnf
 refine clI e7 ?_
 conv=>whnf
 refine clI e8 ?_
 conv=>whnf
 refine clI e9 ?_
 conv=>whnf
 refine zI (z:=((2*(nE (T3 s)).1:Nat):Int)) (by show IntKind.i64.wrap (2*((nE (T3 s)).1:Int))=_;rw [zae (by omega) (by omega)];omega) ?_
 conv=>whnf
 refine clI ex ?_
 conv=>whnf
 refine znd (by omega) sx (by omega) (nE (T3 s)).1 bE (nF (T3 s)).1 (by omega) ⟨⟨rfl,rfl,rfl,rfl,rfl,rfl⟩,rfl,rfl⟩ (fun h L G st g hG Lt hL=>?_)
 rw [← z5c] at st g
 have one:=g.one
 conv=>whnf
 refine cutI (by decide) rfl (t:=⟨[(2,.ptr 0 0 0),(4,.ptr 2 0 0)],h,[]⟩) ⟨hL,rfl,rfl⟩ ?_
 conv=>whnf
 refine ldI (st).p ?_
 conv=>whnf
 refine stI (st).a (xs:=(zcf (hA (T0 s)).1 (hB (T0 s)).1 (hC (T0 s)).1 (nA (T3 s)).1 (nB (T3 s)).1 ((nC (T3 s)).1==1) L)) (zhd one.2 rfl) (by rfl) (by rfl) (by rfl) ?_
 exact zut st g hG (fun sh hz=>zt9 hl hk rfl rfl rfl rfl rfl rfl rfl hz) rfl
set_option maxRecDepth 10000 in
theorem zyp (hn:3 ≤ m) (hl:s.length=512) (hk2:(hA (T0 s)).1=2):∃ r,(∀ h,C (m+1) 167 [.str s] h=some (r,h)) ∧ ∃ q:Page,r=.ret q.av ∧ RdS s q:=by
 have hk:(hA (T0 s)).1=1 ∨ (hA (T0 s)).1=2:=.inr hk2
 have l0:=znz hl
 have e1:C m 209 [.ptr 1 0 0,i64 (1:Nat)] [.cells 0 (some tPg) zax 0,zbj (T0 s)]=some (.ret (i64 (hA (T0 s)).1),[.cells 0 (some tPg) zax 0,zbj (hA (T0 s)).2]):=zb7 (n:=m) (t:=T0 s) (by omega) (show RRd [.cells 0 (some tPg) zax 0,zbj (T0 s)] 1 (T0 s) from rfl) (by omega) 1 (by omega)
 have l1:(hA (T0 s)).2.1.length ≤ (T0 s).1.length:=zaq 1 _
 have e2:C m 209 [.ptr 1 0 0,i64 (4:Nat)] [.cells 0 (some tPg) zax 0,zbj (hA (T0 s)).2]=some (.ret (i64 (hB (T0 s)).1),[.cells 0 (some tPg) zax 0,zbj (hB (T0 s)).2]):=zb7 (n:=m) (t:=(hA (T0 s)).2) (by omega) (show RRd [.cells 0 (some tPg) zax 0,zbj (hA (T0 s)).2] 1 (hA (T0 s)).2 from rfl) (by omega) 4 (by omega)
 have l2:(hB (T0 s)).2.1.length ≤ (hA (T0 s)).2.1.length:=zaq 4 _
 have e3:C m 209 [.ptr 1 0 0,i64 (6:Nat)] [.cells 0 (some tPg) zax 0,zbj (hB (T0 s)).2]=some (.ret (i64 (hC (T0 s)).1),[.cells 0 (some tPg) zax 0,zbj (T3 s)]):=zb7 (n:=m) (t:=(hB (T0 s)).2) (by omega) (show RRd [.cells 0 (some tPg) zax 0,zbj (hB (T0 s)).2] 1 (hB (T0 s)).2 from rfl) (by omega) 6 (by omega)
 have l3:=zmt hl
 refine zev F167 rfl rfl rfl rfl ?_
 conv=>whnf
 refine zhs (s:=s) (c:=1) (d:=508) (by omega) (by omega) ?_
 conv=>whnf
 refine clI e1 ?_
 conv=>whnf
 refine clI e2 ?_
 conv=>whnf
 refine clI e3 ?_
 conv=>whnf
 refine stJ (xs:=zcd (hA (T0 s)).1 (hB (T0 s)).1 (hC (T0 s)).1) (by rfl) ?_
 conv=>whnf
 refine ldI (by rfl) ?_
 conv=>whnf
 have s3:PSt [.cells 0 (some tPg) zax 0,zbj (T3 s),.cells 0 (some tPg) (zcd (hA (T0 s)).1 (hB (T0 s)).1 (hC (T0 s)).1) 0] (zcd (hA (T0 s)).1 (hB (T0 s)).1 (hC (T0 s)).1) (T3 s):=⟨rfl,rfl,rfl⟩
 refine bre (fun q=>absurd q (by omega)) (fun _=>?_)
 conv=>whnf
 refine bre (fun _=>?_) (fun q=>absurd (by rw [hk2];rfl) q)
 obtain ⟨h4,e4,r4,k4⟩:=zbu (n:=m) (by omega) s3.r (by omega) 1 (by omega)
 have z4:=s3.next k4 r4
 have s4:=z4.set (cs':=zcf (hA (T0 s)).1 (hB (T0 s)).1 (hC (T0 s)).1 (nA (T3 s)).1 0 false (.lst 0 [] true))
 have n4:(nA (T3 s)).2.1.length ≤ 507:=Nat.le_trans (zaq 1 (T3 s)) l3
 obtain ⟨h5,e5,r5,k5⟩:=zbu (n:=m) (t:=(nA (T3 s)).2) (by omega) s4.r (by omega) 1 (by omega)
 have z5:=s4.next k5 r5
 have s5:=z5.set (cs':=zcf (hA (T0 s)).1 (hB (T0 s)).1 (hC (T0 s)).1 (nA (T3 s)).1 (nB (T3 s)).1 false (.lst 0 [] true))
 have n5:(nB (T3 s)).2.1.length ≤ 507:=Nat.le_trans (zaq 1 (nA (T3 s)).2) n4
 obtain ⟨h6,e6,r6,k6⟩:=zbu (n:=m) (t:=(nB (T3 s)).2) (by omega) s5.r (by omega) 1 (by omega)
 have z6:=s5.next k6 r6
 have s6:=z6.set (cs':=zcf (hA (T0 s)).1 (hB (T0 s)).1 (hC (T0 s)).1 (nA (T3 s)).1 (nB (T3 s)).1 ((nC (T3 s)).1==1) (.lst 0 [] true))
 have n6:(nC (T3 s)).2.1.length ≤ 507:=Nat.le_trans (zaq 1 (nB (T3 s)).2) n5
 obtain ⟨h7,e7,r7,k7⟩:=zbu (n:=m) (t:=(nC (T3 s)).2) (by omega) s6.r (by omega) 1 (by omega)
 have s7:=s6.next k7 r7
 have n7:(nD (T3 s)).2.1.length ≤ 507:=Nat.le_trans (zaq 1 (nC (T3 s)).2) n6
 obtain ⟨h8,e8,r8,k8⟩:=zbu (n:=m) (t:=(nD (T3 s)).2) (by omega) s7.r (by omega) 2 (by omega)
 have s8:=s7.next k8 r8
 have n8:(nE (T3 s)).2.1.length ≤ 507:=Nat.le_trans (zaq 2 (nD (T3 s)).2) n7
 have bD:(nD (T3 s)).1<256:=zd2 1 (nC (T3 s)).2
 have bE:(nE (T3 s)).1<65536:=zd2 2 (nD (T3 s)).2
 obtain ⟨h9,e9,r9,k9⟩:=ze0 (n:=m) (t:=(nE (T3 s)).2) (by omega) s8.r (by omega) (nD (T3 s)).1 (by omega)
 have s9:=s8.next k9 r9
 have n9:=zuf (T3 s)
 obtain ⟨hx,ex,rx,kx⟩:=ze0 (n:=m) (t:=(nF (T3 s)).2) (by omega) s9.r (by omega) (2*(nE (T3 s)).1) (by omega)
 rw [← z5d] at ex rx
 have sx:=s9.next kx rx
 have nx:=zzl (T3 s)
 conv=>whnf
 refine clI e4 ?_
 conv=>whnf
 refine stJ z4.p ?_
 conv=>whnf
 refine clI e5 ?_
 conv=>whnf
 refine stJ z5.p ?_
 conv=>whnf
 refine clI e6 ?_
 conv=>whnf
 refine stI z6.p (xs:=[.bool ((nC (T3 s)).1==1)]) (by rw [← ztd];rfl) (by rfl) (by rfl) (by rfl) ?_
 conv=>whnf
 refine clI e7 ?_
 conv=>whnf
 refine clI e8 ?_
 conv=>whnf
 refine clI e9 ?_
 conv=>whnf
 refine zI (z:=((2*(nE (T3 s)).1:Nat):Int)) (by show IntKind.i64.wrap (2*((nE (T3 s)).1:Int))=_;rw [zae (by omega) (by omega)];omega) ?_
 conv=>whnf
 refine clI ex ?_
 conv=>whnf
 refine znd (by omega) sx (by omega) (nE (T3 s)).1 bE (nF (T3 s)).1 (by omega) ⟨⟨rfl,rfl,rfl,rfl,rfl,rfl⟩,rfl,rfl⟩ (fun h L G st g hG Lt hL=>?_)
 rw [← z5c] at st g
 have one:=g.one
 conv=>whnf
 refine cutI (by decide) rfl (t:=⟨[(2,.ptr 0 0 0),(4,.ptr 2 0 0)],h,[]⟩) ⟨hL,rfl,rfl⟩ ?_
 conv=>whnf
 refine ldI (st).p ?_
 conv=>whnf
 refine stI (st).a (xs:=(zcf (hA (T0 s)).1 (hB (T0 s)).1 (hC (T0 s)).1 (nA (T3 s)).1 (nB (T3 s)).1 ((nC (T3 s)).1==1) L)) (zhd one.2 rfl) (by rfl) (by rfl) (by rfl) ?_
 exact zut st g hG (fun sh hz=>zt9 hl hk rfl rfl rfl rfl rfl rfl rfl hz) rfl
set_option maxRecDepth 10000 in
theorem zyo (hn:3 ≤ m) (hl:s.length=512) (hk:(hA (T0 s)).1=3):∃ r,(∀ h,C (m+1) 167 [.str s] h=some (r,h)) ∧ ∃ q:Page,r=.ret q.av ∧ RdS s q:=by
 have l0:=znz hl
 have e1:C m 209 [.ptr 1 0 0,i64 (1:Nat)] [.cells 0 (some tPg) zax 0,zbj (T0 s)]=some (.ret (i64 (hA (T0 s)).1),[.cells 0 (some tPg) zax 0,zbj (hA (T0 s)).2]):=zb7 (n:=m) (t:=T0 s) (by omega) (show RRd [.cells 0 (some tPg) zax 0,zbj (T0 s)] 1 (T0 s) from rfl) (by omega) 1 (by omega)
 have l1:(hA (T0 s)).2.1.length ≤ (T0 s).1.length:=zaq 1 _
 have e2:C m 209 [.ptr 1 0 0,i64 (4:Nat)] [.cells 0 (some tPg) zax 0,zbj (hA (T0 s)).2]=some (.ret (i64 (hB (T0 s)).1),[.cells 0 (some tPg) zax 0,zbj (hB (T0 s)).2]):=zb7 (n:=m) (t:=(hA (T0 s)).2) (by omega) (show RRd [.cells 0 (some tPg) zax 0,zbj (hA (T0 s)).2] 1 (hA (T0 s)).2 from rfl) (by omega) 4 (by omega)
 have l2:(hB (T0 s)).2.1.length ≤ (hA (T0 s)).2.1.length:=zaq 4 _
 have e3:C m 209 [.ptr 1 0 0,i64 (6:Nat)] [.cells 0 (some tPg) zax 0,zbj (hB (T0 s)).2]=some (.ret (i64 (hC (T0 s)).1),[.cells 0 (some tPg) zax 0,zbj (T3 s)]):=zb7 (n:=m) (t:=(hB (T0 s)).2) (by omega) (show RRd [.cells 0 (some tPg) zax 0,zbj (hB (T0 s)).2] 1 (hB (T0 s)).2 from rfl) (by omega) 6 (by omega)
 have l3:=zmt hl
 refine zev F167 rfl rfl rfl rfl ?_
 conv=>whnf
 refine zhs (s:=s) (c:=1) (d:=508) (by omega) (by omega) ?_
 conv=>whnf
 refine clI e1 ?_
 conv=>whnf
 refine clI e2 ?_
 conv=>whnf
 refine clI e3 ?_
 conv=>whnf
 refine stJ (xs:=zcd (hA (T0 s)).1 (hB (T0 s)).1 (hC (T0 s)).1) (by rfl) ?_
 conv=>whnf
 refine ldI (by rfl) ?_
 conv=>whnf
 have s3:PSt [.cells 0 (some tPg) zax 0,zbj (T3 s),.cells 0 (some tPg) (zcd (hA (T0 s)).1 (hB (T0 s)).1 (hC (T0 s)).1) 0] (zcd (hA (T0 s)).1 (hB (T0 s)).1 (hC (T0 s)).1) (T3 s):=⟨rfl,rfl,rfl⟩
 refine bre (fun q=>absurd q (by omega)) (fun _=>?_)
 conv=>whnf
 refine bre (fun q=>absurd q (by omega)) (fun _=>?_)
 conv=>whnf
 refine bre (fun _=>?_) (fun q=>absurd (by rw [hk];rfl) q)
 obtain ⟨h4,e4,r4,k4⟩:=zbu (n:=m) (by omega) s3.r (by omega) 4 (by omega)
 have z4:=s3.next k4 r4
 have s4:=z4.set (cs':=zic (hA (T0 s)).1 (hB (T0 s)).1 (hC (T0 s)).1 (pA (T3 s)).1 [])
 have n4:(pA (T3 s)).2.1.length ≤ 507:=Nat.le_trans (zaq 4 (T3 s)) l3
 obtain ⟨h5,e5,r5,k5⟩:=zbu (n:=m) (t:=(pA (T3 s)).2) (by omega) s4.r (by omega) 2 (by omega)
 have s5:=s4.next k5 r5
 have n5:(pB (T3 s)).2.1.length ≤ 507:=Nat.le_trans (zaq 2 (pA (T3 s)).2) n4
 have bB:(pB (T3 s)).1<65536:=zd2 2 (pA (T3 s)).2
 obtain ⟨h6,e6,r6,k6⟩:=ze0 (n:=m) (t:=(pB (T3 s)).2) (by omega) s5.r (by omega) (pB (T3 s)).1 (by omega)
 rw [← pC_def] at e6 r6
 have z6:=s5.next k6 r6
 have s6:=z6.set (cs':=zic (hA (T0 s)).1 (hB (T0 s)).1 (hC (T0 s)).1 (pA (T3 s)).1 (pC (T3 s)).1)
 conv=>whnf
 refine clI e4 ?_
 conv=>whnf
 refine stJ z4.p ?_
 conv=>whnf
 refine clI e5 ?_
 conv=>whnf
 refine clI e6 ?_
 conv=>whnf
 refine stJ z6.p ?_
 conv=>whnf
 refine cutI (by decide) rfl (t:=⟨[(2,.ptr 0 0 0),(4,.ptr 2 0 0)],_,[]⟩) ⟨⟨rfl,rfl⟩,rfl,rfl⟩ ?_
 conv=>whnf
 refine ldI (s6).p ?_
 conv=>whnf
 refine stJ (s6).a (xs:=(zic (hA (T0 s)).1 (hB (T0 s)).1 (hC (T0 s)).1 (pA (T3 s)).1 (pC (T3 s)).1)) ?_
 exact zq8 s6 (zyu hl hk rfl rfl rfl rfl rfl) rfl
set_option maxRecDepth 10000 in
theorem zyn (hn:3 ≤ m) (hl:s.length=512) (hk:(hA (T0 s)).1=4):∃ r,(∀ h,C (m+1) 167 [.str s] h=some (r,h)) ∧ ∃ q:Page,r=.ret q.av ∧ RdS s q:=by
 have l0:=znz hl
 have e1:C m 209 [.ptr 1 0 0,i64 (1:Nat)] [.cells 0 (some tPg) zax 0,zbj (T0 s)]=some (.ret (i64 (hA (T0 s)).1),[.cells 0 (some tPg) zax 0,zbj (hA (T0 s)).2]):=zb7 (n:=m) (t:=T0 s) (by omega) (show RRd [.cells 0 (some tPg) zax 0,zbj (T0 s)] 1 (T0 s) from rfl) (by omega) 1 (by omega)
 have l1:(hA (T0 s)).2.1.length ≤ (T0 s).1.length:=zaq 1 _
 have e2:C m 209 [.ptr 1 0 0,i64 (4:Nat)] [.cells 0 (some tPg) zax 0,zbj (hA (T0 s)).2]=some (.ret (i64 (hB (T0 s)).1),[.cells 0 (some tPg) zax 0,zbj (hB (T0 s)).2]):=zb7 (n:=m) (t:=(hA (T0 s)).2) (by omega) (show RRd [.cells 0 (some tPg) zax 0,zbj (hA (T0 s)).2] 1 (hA (T0 s)).2 from rfl) (by omega) 4 (by omega)
 have l2:(hB (T0 s)).2.1.length ≤ (hA (T0 s)).2.1.length:=zaq 4 _
 have e3:C m 209 [.ptr 1 0 0,i64 (6:Nat)] [.cells 0 (some tPg) zax 0,zbj (hB (T0 s)).2]=some (.ret (i64 (hC (T0 s)).1),[.cells 0 (some tPg) zax 0,zbj (T3 s)]):=zb7 (n:=m) (t:=(hB (T0 s)).2) (by omega) (show RRd [.cells 0 (some tPg) zax 0,zbj (hB (T0 s)).2] 1 (hB (T0 s)).2 from rfl) (by omega) 6 (by omega)
 have l3:=zmt hl
 refine zev F167 rfl rfl rfl rfl ?_
 conv=>whnf
 refine zhs (s:=s) (c:=1) (d:=508) (by omega) (by omega) ?_
 conv=>whnf
 refine clI e1 ?_
 conv=>whnf
 refine clI e2 ?_
 conv=>whnf
 refine clI e3 ?_
 conv=>whnf
 refine stJ (xs:=zcd (hA (T0 s)).1 (hB (T0 s)).1 (hC (T0 s)).1) (by rfl) ?_
 conv=>whnf
 refine ldI (by rfl) ?_
 conv=>whnf
 have s3:PSt [.cells 0 (some tPg) zax 0,zbj (T3 s),.cells 0 (some tPg) (zcd (hA (T0 s)).1 (hB (T0 s)).1 (hC (T0 s)).1) 0] (zcd (hA (T0 s)).1 (hB (T0 s)).1 (hC (T0 s)).1) (T3 s):=⟨rfl,rfl,rfl⟩
 refine bre (fun q=>absurd q (by omega)) (fun _=>?_)
 conv=>whnf
 refine bre (fun q=>absurd q (by omega)) (fun _=>?_)
 conv=>whnf
 refine bre (fun q=>absurd q (by omega)) (fun _=>?_)
 conv=>whnf
 refine bre (fun _=>?_) (fun q=>absurd (by rw [hk];rfl) q)
 obtain ⟨h4,e4,r4,k4⟩:=zbu (n:=m) (by omega) s3.r (by omega) 4 (by omega)
 have z4:=s3.next k4 r4
 have s4:=z4.set (cs':=zc3 (hA (T0 s)).1 (hB (T0 s)).1 (hC (T0 s)).1 (pA (T3 s)).1 (.lst 0 [] true))
 have n4:(pA (T3 s)).2.1.length ≤ 507:=Nat.le_trans (zaq 4 (T3 s)) l3
 obtain ⟨h5,e5,r5,k5⟩:=zbu (n:=m) (t:=(pA (T3 s)).2) (by omega) s4.r (by omega) 2 (by omega)
 have s5:=s4.next k5 r5
 have n5:(pB (T3 s)).2.1.length ≤ 507:=Nat.le_trans (zaq 2 (pA (T3 s)).2) n4
 have bB:(pB (T3 s)).1<65536:=zd2 2 (pA (T3 s)).2
 conv=>whnf
 refine clI e4 ?_
 conv=>whnf
 refine stJ z4.p ?_
 conv=>whnf
 refine clI e5 ?_
 conv=>whnf
 refine zof (t0:=(pB (T3 s)).2) (by omega) s5 (by omega) (pB (T3 s)).1 bB ⟨⟨rfl,rfl,rfl,rfl,rfl⟩,rfl,rfl⟩ (fun ts G I LL h hts st lv hG hI Lt hL=>?_)
 rw [← lC_def] at hts
 have one:=lv.buf.one
 conv=>whnf
 refine cutI (by decide) rfl (t:=⟨[(2,.ptr 0 0 0),(4,.ptr 2 0 0)],h,[]⟩) ⟨hL,rfl,rfl⟩ ?_
 conv=>whnf
 refine ldI (st).p ?_
 conv=>whnf
 refine stI (st).a (xs:=(zc3 (hA (T0 s)).1 (hB (T0 s)).1 (hC (T0 s)).1 (pA (T3 s)).1 LL)) (zhd rfl one.2) (by rfl) (by rfl) (by rfl) ?_
 exact z4f st lv hG hI (fun sh fs h1 h2=>z3c hl hk rfl rfl rfl rfl h1 hts h2) rfl
set_option maxRecDepth 10000 in
theorem zyr (hn:3 ≤ m) (hl:s.length=512) (hk:¬((hA (T0 s)).1=1 ∨ (hA (T0 s)).1=2)) (hk3:(hA (T0 s)).1≠3) (hk4:(hA (T0 s)).1≠4):∃ r,(∀ h,C (m+1) 167 [.str s] h=some (r,h)) ∧ ∃ q:Page,r=.ret q.av ∧ RdS s q:=by
 have l0:=znz hl
 have e1:C m 209 [.ptr 1 0 0,i64 (1:Nat)] [.cells 0 (some tPg) zax 0,zbj (T0 s)]=some (.ret (i64 (hA (T0 s)).1),[.cells 0 (some tPg) zax 0,zbj (hA (T0 s)).2]):=zb7 (n:=m) (t:=T0 s) (by omega) (show RRd [.cells 0 (some tPg) zax 0,zbj (T0 s)] 1 (T0 s) from rfl) (by omega) 1 (by omega)
 have l1:(hA (T0 s)).2.1.length ≤ (T0 s).1.length:=zaq 1 _
 have e2:C m 209 [.ptr 1 0 0,i64 (4:Nat)] [.cells 0 (some tPg) zax 0,zbj (hA (T0 s)).2]=some (.ret (i64 (hB (T0 s)).1),[.cells 0 (some tPg) zax 0,zbj (hB (T0 s)).2]):=zb7 (n:=m) (t:=(hA (T0 s)).2) (by omega) (show RRd [.cells 0 (some tPg) zax 0,zbj (hA (T0 s)).2] 1 (hA (T0 s)).2 from rfl) (by omega) 4 (by omega)
 have l2:(hB (T0 s)).2.1.length ≤ (hA (T0 s)).2.1.length:=zaq 4 _
 have e3:C m 209 [.ptr 1 0 0,i64 (6:Nat)] [.cells 0 (some tPg) zax 0,zbj (hB (T0 s)).2]=some (.ret (i64 (hC (T0 s)).1),[.cells 0 (some tPg) zax 0,zbj (T3 s)]):=zb7 (n:=m) (t:=(hB (T0 s)).2) (by omega) (show RRd [.cells 0 (some tPg) zax 0,zbj (hB (T0 s)).2] 1 (hB (T0 s)).2 from rfl) (by omega) 6 (by omega)
 have l3:=zmt hl
 refine zev F167 rfl rfl rfl rfl ?_
 conv=>whnf
 refine zhs (s:=s) (c:=1) (d:=508) (by omega) (by omega) ?_
 conv=>whnf
 refine clI e1 ?_
 conv=>whnf
 refine clI e2 ?_
 conv=>whnf
 refine clI e3 ?_
 conv=>whnf
 refine stJ (xs:=zcd (hA (T0 s)).1 (hB (T0 s)).1 (hC (T0 s)).1) (by rfl) ?_
 conv=>whnf
 refine ldI (by rfl) ?_
 conv=>whnf
 have s3:PSt [.cells 0 (some tPg) zax 0,zbj (T3 s),.cells 0 (some tPg) (zcd (hA (T0 s)).1 (hB (T0 s)).1 (hC (T0 s)).1) 0] (zcd (hA (T0 s)).1 (hB (T0 s)).1 (hC (T0 s)).1) (T3 s):=⟨rfl,rfl,rfl⟩
 refine bre (fun q=>absurd q (by omega)) (fun _=>?_)
 conv=>whnf
 refine bre (fun q=>absurd q (by omega)) (fun _=>?_)
 conv=>whnf
 refine bre (fun q=>absurd q (by omega)) (fun _=>?_)
 conv=>whnf
 refine bre (fun q=>absurd q (by omega)) (fun _=>?_)
 conv=>whnf
 refine cutI (by decide) rfl (t:=⟨[(2,.ptr 0 0 0),(4,.ptr 2 0 0)],_,[]⟩) ⟨⟨rfl,rfl⟩,rfl,rfl⟩ ?_
 conv=>whnf
 refine ldI (s3).p ?_
 conv=>whnf
 refine stJ (s3).a (xs:=(zic (hA (T0 s)).1 (hB (T0 s)).1 (hC (T0 s)).1 0 [])) ?_
 exact zq8 (next:=0) (d:=[]) s3 (zyv hk hk3 hk4 rfl) rfl
theorem zvr (hn:3 ≤ m) (hl:s.length=512):∃ q:Page,(∀ h,C (m+1) 167 [.str s] h=some (.ret q.av,h)) ∧ RdS s q:=by
 have key:∃ r,(∀ h,C (m+1) 167 [.str s] h=some (r,h)) ∧ ∃ q:Page,r=.ret q.av ∧ RdS s q:=by
  by_cases k1:(hA (T0 s)).1=1
  ·exact zyq hn hl k1
  ·by_cases k2:(hA (T0 s)).1=2
   ·exact zyp hn hl k2
   ·by_cases k3:(hA (T0 s)).1=3
    ·exact zyo hn hl k3
    ·by_cases k4:(hA (T0 s)).1=4
     ·exact zyn hn hl k4
     ·exact zyr hn hl (by omega) k3 k4
 obtain ⟨r,h1,q,rfl,h2⟩:=key
 exact ⟨q,h1,h2⟩
end
theorem zvz {n:Nat}(q:Page):∀ x∈q.cells,zf4 (n+4) x:=fun x hx=>by
 simp only [Page.cells,List.mem_cons,List.not_mem_nil,or_false] at hx
 rcases hx with rfl | rfl | rfl | rfl | rfl | rfl | rfl | rfl | rfl | rfl
 ·exact zaw
 ·exact zaw
 ·exact zaw
 ·exact zaw
 ·exact zaw
 ·exact zj0
 ·exact zd0 fun y hy=>by obtain ⟨k,_,rfl⟩:=List.mem_map.1 hy;exact znt k
 ·exact zaw
 ·exact zgu
 ·exact zd0 fun y hy=>by obtain ⟨k,_,rfl⟩:=List.mem_map.1 hy;exact zno k
def zbd (q:Page) (k:Int):List AV:=[i64 q.kind,i64 q.no,i64 q.ver,i64 q.tree,i64 q.level,.bool q.top,.lst q.esh.sz (q.entries.map Entry.av) q.esh.c,i64 q.next,.str q.data,.lst q.fsh.sz (q.freed.map Freed.av) q.fsh.c,i64 k]
def zPage:Page:=⟨0,0,0,0,0,false,⟨0,true⟩,[],0,[],⟨0,true⟩,[]⟩
theorem zje {q:Page}{k:Int}(h:zaa):Abs.frz h 64 (.agg (zbd q k))=some (.agg (zbd q k)):=zch (n:=63) (fun x hx=>by
 have e:zbd q k=q.cells++[i64 k]:=rfl
 rw [e] at hx
 rcases List.mem_append.1 hx with hx | hx
 ·exact zvz q x hx
 ·simp at hx;subst hx;exact zaw) h
section
variable {n:Nat}{h:zaa}{s:Str}
theorem zoq (hn:1 ≤ n) (hl:s.length≠512):C n 103 [.str s] h=some (.ret (.agg (zbd zPage 8)),h):=by
 obtain ⟨m,rfl⟩:=pre1 n
 refine zad F103 rfl rfl rfl rfl ?_
 conv=>whnf
 refine brq (fun _=>?_) (fun a=>absurd (by omega) hl)
 conv=>whnf
 refine stJ (xs:=zbd zPage 8) (by rfl) ?_
 exact ⟨rfl,_,zbq (el:=some 189) (f:=0) (cs:=zbd zPage 8) (N:=11) (b:=0) rfl (by kernel_rfl) rfl rfl,zje _⟩
theorem zhz (hn:9 ≤ n) (hl:s.length=512):∃ q:Page,RdS s q ∧ ∀ h,C n 103 [.str s] h=some (.ret (.agg (if q.check=true ∧ q.enc=s then zbd q 0 else zbd zPage 8)),h):=by
 obtain ⟨m,rfl⟩:=pre1 n
 obtain ⟨m',rfl⟩ : ∃ k,m=k+1:=⟨m-1,by omega⟩
 obtain ⟨q,e1,hq⟩:=zvr (m:=m') (s:=s) (by omega) hl
 refine ⟨q,hq,fun h=>?_⟩
 have cE:∀ h,C (m'+1) 77 [q.av] h=some (.ret (.agg [.str (if q.check then q.enc else []),i64 (if q.check then 0 else 2)]),h):=fun h=>zqg (by omega) q hq.1
 cases hc:q.check with
 | false =>
  rw [hc] at cE
  rw [if_neg (by simp)]
  refine zad F103 rfl rfl rfl rfl ?_
  conv=>whnf
  refine brq (fun a=>absurd (by omega) a) (fun _=>?_)
  conv=>whnf
  refine clI (e1 _) ?_
  conv=>whnf
  refine stJ (xs:=q.cells) (by rfl) ?_
  conv=>whnf
  refine ldI (by rfl) ?_
  conv=>whnf
  refine clI (cE _) ?_
  conv=>whnf
  refine stJ (xs:=[.str [],i64 2]) (by rfl) ?_
  conv=>whnf
  refine ldI (by rfl) ?_
  conv=>whnf
  refine stJ (xs:=zbd zPage 8) (by rfl) ?_
  exact ⟨rfl,_,zbq (el:=some 189) (f:=0) (cs:=zbd zPage 8) (N:=11) (b:=0) rfl (by kernel_rfl) rfl rfl,zje _⟩
 | true =>
  rw [hc] at cE
  refine zad F103 rfl rfl rfl rfl ?_
  conv=>whnf
  refine brq (fun a=>absurd (by omega) a) (fun _=>?_)
  conv=>whnf
  refine clI (e1 _) ?_
  conv=>whnf
  refine stJ (xs:=q.cells) (by rfl) ?_
  conv=>whnf
  refine ldI (by rfl) ?_
  conv=>whnf
  refine clI (cE _) ?_
  conv=>whnf
  refine stJ (xs:=[.str q.enc,i64 0]) (by rfl) ?_
  conv=>whnf
  refine ldI (by rfl) ?_
  conv=>whnf
  refine ldI (by rfl) ?_
  conv=>whnf
  refine brq (fun a=>?_) (fun a=>?_)
  ·have e':(if true=true ∧ q.enc=s then zbd q 0 else zbd zPage 8)=zbd zPage 8:=if_neg (fun c=>a c.2)
   rw [e']
   conv=>whnf
   refine stJ (xs:=zbd zPage 8) (by rfl) ?_
   exact ⟨rfl,_,zbq (el:=some 189) (f:=0) (cs:=zbd zPage 8) (N:=11) (b:=0) rfl (by kernel_rfl) rfl rfl,zje _⟩
  ·have e':(if true=true ∧ q.enc=s then zbd q 0 else zbd zPage 8)=zbd q 0:=if_pos ⟨rfl,a⟩
   rw [e']
   conv=>whnf
   refine ldI (by rfl) ?_
   conv=>whnf
   refine stJ (xs:=zbd q 0) (by rfl) ?_
   exact ⟨rfl,_,zbq (el:=some 189) (f:=0) (cs:=zbd q 0) (N:=11) (b:=0) rfl (by kernel_rfl) rfl rfl,zje _⟩
theorem zop (hn:9 ≤ n) {p:Page}(hc:p.check=true):∃ q:Page,Same p q ∧ q.Ok ∧ ∀ h,C n 103 [.str p.enc] h=some (.ret (.agg (zbd q 0)),h):=by
 obtain ⟨q,hq,e⟩:=zhz (s:=p.enc) hn (zma hc)
 have hk:=(check_iff.1 hc).2.2
 have hs:Same p q:=zxz hc (hq.2 _ (zqm hc) (by simp only;omega))
 refine ⟨q,hs,hq.1,fun h=>?_⟩
 rw [e,if_pos ⟨by rw [hs.check,hc],hs.enc⟩]
theorem zqh (hn:9 ≤ n) (hno:∀ p:Page,p.Ok → p.check=true → p.enc≠s):∀ h,C n 103 [.str s] h=some (.ret (.agg (zbd zPage 8)),h):=fun h=>by
 by_cases hl:s.length=512
 ·obtain ⟨q,hq,e⟩:=zhz (s:=s) hn hl
  rw [e,if_neg (fun c=>hno q hq.1 c.1 c.2)]
 ·exact zoq (by omega) hl
end
section
variable {n:Nat}{h:zaa}
theorem zsa (hn:1 ≤ n) (l:List Entry) (hl:l.length<1099511627776) (sz sz':Nat) (hz:l≠[] → sz=22) (hz':l≠[] → sz'=22) (c c':Bool):C n 94 [.lst sz (l.map Entry.av) c,.lst sz' (l.map Entry.av) c'] h=some (.ret (.bool true),h):=by
 obtain ⟨m,rfl⟩:=pre1 n
 refine zad F94 rfl rfl rfl (zbk zbs l (zbk zbs l rfl)) ?_
 conv=>whnf
 refine brq (fun a=>absurd rfl a) (fun _=>?_)
 conv=>whnf
 refine za3 (by decide) rfl (α:=Nat) (fun x=>⟨[(0,.lst sz (l.map Entry.av) c),(1,.lst sz' (l.map Entry.av) c'),(5,i64 x)],[],[]⟩) (fun x=>x ≤ l.length) (fun x=>l.length-x) 0 ⟨⟨rfl,rfl,rfl⟩,rfl,rfl⟩ (Nat.zero_le _) (by show l.length-0<KK;simp only [KK];omega) ?_
 intro j g1
 conv=>whnf
 refine brd (fun a=>?_) (fun a=>?_)
 ·have hj:j<l.length:=by simp only [List.length_map] at a;omega
  conv=>whnf
  refine ixL zap hj hz ?_
  conv=>whnf
  refine ixL zap hj hz' ?_
  conv=>whnf
  refine eqI (eq_ent l[j]) ?_
  conv=>whnf
  refine zJ j ?_
  exact nxI (j+1) hj (by omega) ⟨⟨rfl,rfl,rfl⟩,rfl,rfl⟩
 ·conv=>whnf
  refine cutI (by decide) rfl (t:=⟨[],[],[]⟩) ⟨trivial,rfl,rfl⟩ ?_
  conv=>whnf
  exact retP rfl (zai rfl)
theorem zr9 (hn:1 ≤ n) (l:List Int) (hl:l.length<9223372036854775808) (sz sz':Nat) (hz:l≠[] → sz=1) (hz':l≠[] → sz'=1) (c c':Bool):C n 163 [.lst sz (l.map i64) c,.lst sz' (l.map i64) c'] h=some (.ret (.bool true),h):=by
 obtain ⟨m,rfl⟩:=pre1 n
 have hp:∀ k:Int,(i64 k).pureB=true:=fun _=>rfl
 refine zad F163 rfl rfl rfl (zbk hp l (zbk hp l rfl)) ?_
 conv=>whnf
 refine brq (fun a=>absurd rfl a) (fun _=>?_)
 conv=>whnf
 refine za3 (by decide) rfl (α:=Nat) (fun x=>⟨[(0,.lst sz (l.map i64) c),(1,.lst sz' (l.map i64) c'),(5,i64 x)],[],[]⟩) (fun x=>x ≤ l.length) (fun x=>l.length-x) 0 ⟨⟨rfl,rfl,rfl⟩,rfl,rfl⟩ (Nat.zero_le _) (by show l.length-0<KK;simp only [KK];omega) ?_
 intro j g1
 conv=>whnf
 refine brd (fun a=>?_) (fun a=>?_)
 ·have hj:j<l.length:=by simp only [List.length_map] at a;omega
  have hne:l≠[]:=by rintro rfl;simp at hj
  conv=>whnf
  refine ⟨by omega,hz hne,i64 l[j],by simp [hj],[i64 l[j]],rfl,?_⟩
  conv=>whnf
  refine ⟨by omega,hz' hne,i64 l[j],by simp [hj],[i64 l[j]],rfl,?_⟩
  conv=>whnf
  refine brq (fun a=>absurd rfl a) (fun _=>?_)
  conv=>whnf
  refine zJ j ?_
  exact nxI (j+1) hj (by omega) ⟨⟨rfl,rfl,rfl⟩,rfl,rfl⟩
 ·conv=>whnf
  refine cutI (by decide) rfl (t:=⟨[],[],[]⟩) ⟨trivial,rfl,rfl⟩ ?_
  conv=>whnf
  exact retP rfl (zai rfl)
theorem z4s {a b:List Freed}(h:a.map Freed.core=b.map Freed.core) {j:Nat}(ha:j<a.length) (hb:j<b.length):a[j].ver=b[j].ver ∧ a[j].pages=b[j].pages:=by
 have:=zpb h j
 have e1:a.getD j default=a[j]:=by simp [ha]
 have e2:b.getD j default=b[j]:=by simp [hb]
 rw [e1,e2] at this
 exact this
theorem zpv (hn:2 ≤ n) (a b:List Freed) (hc:a.map Freed.core=b.map Freed.core) (hl:a.length<1099511627776) (ha:∀ f∈a,f.Ok ∧ f.pages.length<9223372036854775808) (hb:∀ f∈b,f.Ok ∧ f.pages.length<9223372036854775808) (sz sz':Nat) (hz:a≠[] → sz=2) (hz':b≠[] → sz'=2) (c c':Bool):C n 95 [.lst sz (a.map Freed.av) c,.lst sz' (b.map Freed.av) c'] h=some (.ret (.bool true),h):=by
 obtain ⟨m,rfl⟩:=pre1 n
 have hlen:=zjg hc
 refine zad F95 rfl rfl rfl (zbk zc6 a (zbk zc6 b rfl)) ?_
 conv=>whnf
 refine brq (fun q=>absurd (by rw [List.length_map,List.length_map,hlen]) q) (fun _=>?_)
 conv=>whnf
 refine za3 (by decide) rfl (α:=Nat) (fun x=>⟨[(0,.lst sz (a.map Freed.av) c),(1,.lst sz' (b.map Freed.av) c'),(5,i64 x)],[],[]⟩) (fun x=>x ≤ a.length) (fun x=>a.length-x) 0 ⟨⟨rfl,rfl,rfl⟩,rfl,rfl⟩ (Nat.zero_le _) (by show a.length-0<KK;simp only [KK];omega) ?_
 intro j g1
 conv=>whnf
 refine brd (fun q=>?_) (fun q=>?_)
 ·have hj:j<a.length:=by simp only [List.length_map] at q;omega
  have hj':j<b.length:=by omega
  obtain ⟨e1,e2⟩:=z4s hc hj hj'
  obtain ⟨a1,a2⟩:=ha _ (List.getElem_mem hj)
  obtain ⟨b1,_⟩:=hb _ (List.getElem_mem hj')
  have cI:∀ h,C m 163 [.lst a[j].sh.sz (a[j].pages.map i64) a[j].sh.c,.lst b[j].sh.sz (b[j].pages.map i64) b[j].sh.c] h=some (.ret (.bool true),h):=fun h=>by
   rw [← e2]
   exact zr9 (by omega) a[j].pages a2 _ _ a1 (by rw [e2];exact b1) _ _
  conv=>whnf
  refine ixL zbb hj hz ?_
  conv=>whnf
  refine ixL zbb hj' hz' ?_
  conv=>whnf
  refine brq (fun q=>absurd e1 q) (fun _=>?_)
  conv=>whnf
  refine ixL zbb hj hz ?_
  conv=>whnf
  refine ixL zbb hj' hz' ?_
  conv=>whnf
  refine clI (cI _) ?_
  conv=>whnf
  refine zJ j ?_
  exact nxI (j+1) hj (by omega) ⟨⟨rfl,rfl,rfl⟩,rfl,rfl⟩
 ·conv=>whnf
  refine cutI (by decide) rfl (t:=⟨[],[],[]⟩) ⟨trivial,rfl,rfl⟩ ?_
  conv=>whnf
  exact retP rfl (zai rfl)
theorem zvq (hn:3 ≤ n) {p q:Page}(hs:Same p q) (op:p.Ok) (oq:q.Ok):C n 34 [p.av,q.av] h=some (.ret (.bool true),h):=by
 obtain ⟨m,rfl⟩:=pre1 n
 have cE:∀ h,C m 94 [.lst p.esh.sz (p.entries.map Entry.av) p.esh.c,.lst q.esh.sz (q.entries.map Entry.av) q.esh.c] h=some (.ret (.bool true),h):=fun h=>by
  rw [hs.entries]
  exact zsa (by omega) p.entries op.elen _ _ op.esz (by rw [← hs.entries];exact oq.esz) _ _
 have cF:∀ h,C m 95 [.lst p.fsh.sz (p.freed.map Freed.av) p.fsh.c,.lst q.fsh.sz (q.freed.map Freed.av) q.fsh.c] h=some (.ret (.bool true),h):=fun h =>
  zpv (by omega) p.freed q.freed hs.freed.symm (by have:=op.flen;omega) op.fr oq.fr _ _ op.fsz oq.fsz _ _
 have hpure:zao [p.av,q.av]=true:=by simp [zao,zbv]
 refine zad F34 rfl rfl rfl hpure ?_
 conv=>whnf
 refine ldI (by rfl) ?_
 conv=>whnf
 refine ldI (by rfl) ?_
 conv=>whnf
 refine brq (fun a=>absurd hs.kind.symm a) (fun _=>?_)
 conv=>whnf
 refine ldI (by rfl) ?_
 conv=>whnf
 refine ldI (by rfl) ?_
 conv=>whnf
 refine brq (fun a=>absurd hs.no.symm a) (fun _=>?_)
 conv=>whnf
 refine ldI (by rfl) ?_
 conv=>whnf
 refine ldI (by rfl) ?_
 conv=>whnf
 refine brq (fun a=>absurd hs.ver.symm a) (fun _=>?_)
 conv=>whnf
 refine ldI (by rfl) ?_
 conv=>whnf
 refine ldI (by rfl) ?_
 conv=>whnf
 refine brq (fun a=>absurd hs.tree.symm a) (fun _=>?_)
 conv=>whnf
 refine ldI (by rfl) ?_
 conv=>whnf
 refine ldI (by rfl) ?_
 conv=>whnf
 refine brq (fun a=>absurd hs.level.symm a) (fun _=>?_)
 conv=>whnf
 refine ldI (by rfl) ?_
 conv=>whnf
 refine ldI (by rfl) ?_
 conv=>whnf
 refine eqI (r:=true) (by rw [zo7,hs.top];simp) ?_
 conv=>whnf
 refine ldI (by rfl) ?_
 conv=>whnf
 refine ldI (by rfl) ?_
 conv=>whnf
 refine brq (fun a=>absurd hs.next.symm a) (fun _=>?_)
 conv=>whnf
 refine ldI (by rfl) ?_
 conv=>whnf
 refine ldI (by rfl) ?_
 conv=>whnf
 refine brq (fun a=>absurd hs.data.symm a) (fun _=>?_)
 conv=>whnf
 refine ldI (by rfl) ?_
 conv=>whnf
 refine ldI (by rfl) ?_
 conv=>whnf
 refine clI (cE _) ?_
 conv=>whnf
 refine ldI (by rfl) ?_
 conv=>whnf
 refine ldI (by rfl) ?_
 conv=>whnf
 refine clI (cF _) ?_
 conv=>whnf
 exact retP rfl (zai rfl)
end
theorem Same.join {p q b:Page}(h1:Same p q) (h2:Same p b):Same q b :=
 ⟨h2.kind.trans h1.kind.symm,h2.no.trans h1.no.symm,h2.ver.trans h1.ver.symm,h2.tree.trans h1.tree.symm,h2.level.trans h1.level.symm,h2.top.trans h1.top.symm,h2.entries.trans h1.entries.symm,h2.next.trans h1.next.symm,h2.data.trans h1.data.symm,h2.freed.trans h1.freed.symm⟩
theorem Same.rfl' (p:Page):Same p p:=⟨rfl,rfl,rfl,rfl,rfl,rfl,rfl,rfl,rfl,rfl⟩
theorem zdp:zPage.Ok:=⟨fun h=>(h rfl).elim,fun h=>(h rfl).elim,by decide,by decide,by decide,(fun e he=>by cases he),(fun f hf=>by cases hf)⟩
theorem z72 (s:Str):∃ (p:Page) (k:Int),(∀ n,10 ≤ n → ∃ q:Page,Same p q ∧ q.Ok ∧ ∀ h,C n 162 [.str s] h=some (.ret (.tup [q.av,i64 k]),h)) ∧ ∀ n,9 ≤ n → ∃ b:Page,Same p b ∧ b.Ok ∧ ∀ h,C n 103 [.str s] h=some (.ret (.agg (zbd b k)),h):=by
 by_cases hx:∃ p:Page,p.Ok ∧ p.check=true ∧ p.enc=s
 ·obtain ⟨p,_,hc,rfl⟩:=hx
  refine ⟨p,0,fun n hn=>?_,fun n hn=>?_⟩
  ·obtain ⟨q,q1,q2,q3⟩:=zwp hn hc
   exact ⟨q,q1,q2,q3⟩
  ·obtain ⟨b,b1,b2,b3⟩:=zop (n:=n) hn hc
   exact ⟨b,b1,b2,b3⟩
 ·have hno:∀ p:Page,p.Ok → p.check=true → p.enc≠s:=fun p h1 h2 h3=>hx ⟨p,h1,h2,h3⟩
  exact ⟨zPage,8,fun n hn=>⟨zPage,Same.rfl' _,zdp,z0w hn hno⟩,fun n hn=>⟨zPage,Same.rfl' _,zdp,zqh hn hno⟩⟩
def c70:RC :=
 (.seq (.ops [(oP 1 (.box 46 (.t 0))),(oP 2 (.mv (.c .nilp)))])
 (.seq (.ops [(oB 3 3 1),(oV 4 121 3),(oV 5 98 4)])
 (.seq (.ops [(oB 6 3 1),(oP 7 (.build [(.lst 0 [] true),(.lst 0 [] true),(.lst 0 [] true)] [(0,3,(.t 6))])),(oP 8 (.box 165 (.t 7))),(mV 2 8)])
 .ret)))
theorem F70:FI 70 1 9 4 [.tmp 2] c70:=mkF Tryz.f70 Tryz.func70
def c98:RC :=
 (.seq (.ops [(mV 2 0),(oJ 3 .neq 2 0)])
 (.cond (.t 3)
 (.ops [(mV 4 0),(oP 5 (.build [(.int .i64 0)] [(0,1,(.t 4))])),(oP 6 (.mkIfc 217 (.t 5))),
 ⟨none,none,.pan (.t 6)⟩])
 .skip))
theorem F98:FI 98 1 7 4 [] c98:=mkF Tryz.f98 Tryz.func98
def c80:RC :=
 (.seq (.ops [(mV 4 0),(oP 5 (.un .not (.t 4)))])
 (.cond (.t 5)
 (.ops [(mV 6 1),(oV 7 98 6)])
 .skip))
theorem F80:FI 80 2 8 4 [] c80:=mkF Tryz.f80 Tryz.func80
def c91:RC :=
 (.seq (.ops [(oH 2 0)])
 (.seq (.ops [(mV 3 0),(oR 4 3),(oC 5 0 4),(oC 6 0 5),(oA 7 6),(oK 8 7),(oJ 9 .quo 8 8),(mV 2 9)])
 .ret))
theorem F91:FI 91 1 10 4 [.tmp 2] c91:=mkF Tryz.f91 Tryz.func91
def c93:RC :=
 (.seq (.ops [(oP 4 (.alloc 79 zPl)),(oH 5 0)])
 (.seq (.ops [(mV 10 0),(oR 11 10),(oC 12 0 11),(oB 13 3 12),(mV 14 1),(oJ 15 .mul 14 8),(oP 16 (.callF 161 [(.t 13),(.t 15),(.c (.int .i64 8))])),(mV 9 16),(oQ 17 9 0),(oQ 18 9 1),(mV 6 17),(mV 7 18)])
 (.seq (.seq (.ops [(mV 19 7),(oJ 20 .neq 19 0)])
 (.cond (.t 20)
 (.seq (.ops [(oP 21 (.build zPl [])),(oT 10 4 21),(oH 5 8)])
 .ret)
 .skip))
 (.seq (.ops [(mV 23 6),(oV 24 162 23),(mV 22 24),(oQ 25 22 0),(oQ 26 22 1),(oP 8 (.alloc 79 zPl)),(oT 10 8 25),(mV 7 26)])
 (.seq (.seq (.ops [(mV 27 7),(oJ 28 .neq 27 0),(mV 29 28),(oF 30 29 false 1 8),(oD 31 29 false 30),(oE 32 29 false 1),(oG 33 29 false (.bin .neq (.t 31) (.t 32))),(oM 34 29 33)])
 (.cond (.t 34)
 (.seq (.ops [(oP 35 (.build zPl [])),(oT 10 4 35),(oH 5 8)])
 .ret)
 .skip))
 (.seq (.ops [(oB 36 10 8),(oT 10 4 36),(oH 5 0)])
 .ret))))))
theorem F93:FI 93 2 37 6 [.cell 4 79,.tmp 5] c93:=mkF Tryz.f93 Tryz.func93
def c75:RC :=
 (.seq (.ops [(oP 1 (.box 46 (.t 0))),(oH 2 0)])
 (.seq (.ops [(oC 3 0 1),(oA 4 3),(oK 5 4),(oJ 6 .quo 5 8),(mV 2 6)])
 .ret))
theorem F75:FI 75 1 7 4 [.tmp 2] c75:=mkF Tryz.f75 Tryz.func75
def c40:RC :=
 (.seq (.ops [(oP 2 (.box 46 (.t 0))),(oP 4 (.alloc 99 zPm))])
 (.seq (.seq (.ops [(oB 7 3 2),(oV 8 74 7),(oP 9 (.un .not (.t 8)))])
 (.cond (.t 9)
 (.seq (.ops [(oP 10 (.build zPm [(10,1,(.c (.int .i64 2)))])),(oT 11 4 10)])
 .ret)
 .skip))
 (.seq (.seq (.ops [(mV 11 1),(oB 12 3 2),(oV 13 75 12),(oW 14 101 11 13),(oP 15 (.un .not (.t 14)))])
 (.cond (.t 15)
 (.seq (.ops [(oP 16 (.build zPm [(10,1,(.c (.int .i64 1)))])),(oT 11 4 16)])
 .ret)
 .skip))
 (.seq (.ops [(oB 17 3 2),(mV 18 1),(oJ 19 .mul 18 8),(oP 20 (.callF 102 [(.t 17),(.t 19),(.c (.int .i64 8))])),(oP 5 (.alloc 187 [(.str []),(.int .i64 0)])),(oT 2 5 20)])
 (.seq (.seq (.ops [(oC 21 1 5),(oA 22 21),(oJ 23 .neq 22 0)])
 (.cond (.t 23)
 (.seq (.ops [(oP 24 (.build zPm [(10,1,(.c (.int .i64 8)))])),(oT 11 4 24)])
 .ret)
 .skip))
 (.seq (.ops [(oC 25 0 5),(oA 26 25),(oV 27 103 26),(oP 6 (.alloc 189 zPm)),(oT 11 6 27)])
 (.seq (.seq (.ops [(oC 28 10 6),(oA 29 28),(oJ 30 .neq 29 0),(mV 31 30),(oF 32 31 false 0 6),(oF 33 31 false 1 32),(oD 34 31 false 33),(oE 35 31 false 1),(oG 36 31 false (.bin .neq (.t 34) (.t 35))),(oM 37 31 36)])
 (.cond (.t 37)
 (.seq (.ops [(oP 38 (.build zPm [(10,1,(.c (.int .i64 8)))])),(oT 11 4 38)])
 .ret)
 .skip))
 (.seq (.ops [(oC 39 0 6),(oB 40 10 39),(oP 41 (.build zPm [(0,10,(.t 40))])),(oT 11 4 41)])
 .ret))))))))
theorem F40:FI 40 2 42 6 [.cell 4 99] c40:=mkF Tryz.f40 Tryz.func40
def c21:RC :=
 (.seq (.ops [(oP 1 (.box 46 (.t 0))),(oP 2 (.mv (.c (.bool false))))])
 (.seq (.seq (.ops [(oC 5 0 1),(oA 6 5),(oK 7 6),(oJ 8 .gtr 7 200),(mV 9 8),(oF 10 9 false 1 1),(oD 11 9 false 10),(oG 12 9 false (.lenL (.t 11))),(oG 13 9 false (.bin .gtr (.t 12) (.c (.int .i64 200)))),(oM 14 9 13),(mV 15 14),(oF 16 15 false 2 1),(oD 17 15 false 16),(oG 18 15 false (.lenL (.t 17))),(oG 19 15 false (.bin .gtr (.t 18) (.c (.int .i64 200)))),(oM 20 15 19)])
 (.cond (.t 20)
 (.seq (.ops [(oP 2 (.mv (.c (.bool false))))])
 .ret)
 .skip))
 (.seq (.seq (.ops [(oH 3 0)])
 (.block 0
 (.loop
 (.seq (.seq (.ops [(mV 21 3),(oC 22 0 1),(oA 23 22),(oK 24 23),(oI 25 .lss 21 24)])
 (.cond (.t 25)
 .skip
 (.exit 0)))
 (.seq (.block 1
 (.seq (.ops [(oC 28 0 1),(oA 29 28),(mV 30 3),(oS 31 1 29 30),(oA 32 31),(oP 33 (.lenS (.t 32))),(oJ 34 .gtr 33 600)])
 (.cond (.t 34)
 (.seq (.ops [(oP 2 (.mv (.c (.bool false))))])
 .ret)
 .skip)))
 (.ops [(mV 26 3),(oJ 27 .add 26 1),(mV 3 27)]))))))
 (.cut (.seq (.seq (.ops [(oH 4 0)])
 (.block 2
 (.loop
 (.seq (.seq (.ops [(mV 35 4),(oC 36 1 1),(oA 37 36),(oK 38 37),(oI 39 .lss 35 38)])
 (.cond (.t 39)
 .skip
 (.exit 2)))
 (.seq (.block 3
 (.seq (.ops [(oC 42 1 1),(oA 43 42),(mV 44 4),(oS 45 2 43 44),(oC 46 1 45),(oA 47 46),(oP 48 (.lenS (.t 47))),(oJ 49 .gtr 48 600)])
 (.cond (.t 49)
 (.seq (.ops [(oP 2 (.mv (.c (.bool false))))])
 .ret)
 .skip)))
 (.ops [(mV 40 4),(oJ 41 .add 40 1),(mV 4 41)]))))))
 (.cut (.seq (.ops [(oP 2 (.mv (.c (.bool true))))])
 .ret)))))))
theorem F21:FI 21 1 50 6 [.tmp 2] c21:=mkF Tryz.f21 Tryz.func21
def Rt.zero:Rt:=⟨0,0,0,Dg.zero,0,0⟩
theorem eq_rec (a b:Str) (ha:a.length=64) (hb:b.length=64):eqA Tryz.prog 20 tRec (.agg (a.map u8)) (.agg (b.map u8))=some (decide (a=b)):=by
 have e0:Tryz.prog.underlying tRec=some (.array 64 5):=by kernel_rfl
 obtain ⟨d,e1,e2⟩ : ∃ d,ti Tryz.prog 5=some d ∧ (zbm d.desc=false ∧ d.size=1):=by
  have:(ti Tryz.prog 5).map (fun d=>(zbm d.desc,d.size))=some (false,1):=by kernel_rfl
  obtain ⟨d,h1,h2⟩:=Option.map_eq_some_iff.1 this
  simp only [Prod.mk.injEq] at h2
  exact ⟨d,h1,h2⟩
 unfold eqA
 simp only [e0,e1]
 unfold zqw
 rw [if_pos ⟨e2.1,e2.2,by rw [List.length_map,ha],by rw [List.length_map,hb]⟩]
 simp only
 have e2:∀ (x y:UInt8),eqA Tryz.prog 19 5 (.int .u8 x.toNat) (.int .u8 y.toNat)=some (((x.toNat:Nat):Int)==y.toNat):=fun x y=>by kernel_rfl
 exact zf2 (fun x y=>by rw [e2,zs1]) a b (by rw [ha,hb])
section
variable {n:Nat}{h:zaa}
theorem zqa {r:Rt}(h:ze1 r=true):0 ≤ r.ver ∧ 0 ≤ r.root ∧ 0 ≤ r.count ∧ 0 ≤ r.list ∧ 0 ≤ r.pages:=by
 unfold ze1 zet zgp at h
 simp only [Bool.and_eq_true,Bool.or_eq_true,decide_eq_true_eq,beq_iff_eq] at h
 omega
end
abbrev byC (s:Str):AB:=.cells 0 none (s.map u8) 0
def part (s:Str) (a w:Nat):Nat:=zah ((s.drop a).take w)
def q5 (s:Str):Rt:=⟨part s 1 6,part s 7 4,part s 11 4,dgOf ((s.drop 15).take 16),part s 31 4,part s 35 4⟩
def hQ (s:Str):Nat → zaa
 | 0=>[zbl .zero,byC s,recC s,zbl .zero]
 | 1=>[zbl .zero,byC s,recC s,zbl ⟨part s 1 6,0,0,Dg.zero,0,0⟩,fB 1 6 137]
 | 2=>[zbl .zero,byC s,recC s,zbl ⟨part s 1 6,part s 7 4,0,Dg.zero,0,0⟩,fB 1 6 137,fB 7 4 138]
 | 3=>[zbl .zero,byC s,recC s,zbl ⟨part s 1 6,part s 7 4,part s 11 4,Dg.zero,0,0⟩,fB 1 6 137,fB 7 4 138,fB 11 4 139]
 | 4=>[zbl .zero,byC s,recC s,zbl ⟨part s 1 6,part s 7 4,part s 11 4,Dg.zero,part s 31 4,0⟩,fB 1 6 137,fB 7 4 138,fB 11 4 139,fB 31 4 140]
 | _=>[zbl .zero,byC s,recC s,zbl ⟨part s 1 6,part s 7 4,part s 11 4,Dg.zero,part s 31 4,part s 35 4⟩,fB 1 6 137,fB 7 4 138,fB 11 4 139,fB 31 4 140,fB 35 4 141]
set_option maxRecDepth 100000 in
theorem zv1 {m:Nat}(hm:1 ≤ m) (s:Str) (hs:s.length=64) {Q:Ex → LS → Prop}{st:LS}
  (hst:LS.sub ⟨[(2,.ptr 0 0 0),(4,.ptr 2 0 0),(5,.ptr 3 0 0),(16,.lst 3 [fA 1 6 137,fA 7 4 138,fA 11 4 139,fA 31 4 140,fA 35 4 141] true),(17,i64 5),(18,i64 0)],hQ s 0,[]⟩ st)
  (hE:∀ Lt,subL [(2,.ptr 0 0 0),(4,.ptr 2 0 0),(5,.ptr 3 0 0)] Lt → Q (.exit 0) ⟨Lt,hQ s 5,[]⟩) :
  OkR Tryz.prog (C m) cfg0.inl KK 48 6 (.loop (c17.lp 0)) st Q:=by
 refine za3 (by decide) rfl (α:=Nat) (fun j=>⟨[(2,.ptr 0 0 0),(4,.ptr 2 0 0),(5,.ptr 3 0 0),(16,.lst 3 [fA 1 6 137,fA 7 4 138,fA 11 4 139,fA 31 4 140,fA 35 4 141] true),(17,i64 5),(18,i64 j)],hQ s j,[]⟩) (fun j=>j ≤ 5) (fun j=>5-j) 0 hst (by decide) (by decide) ?_
 intro j hj
 have hjs:j=0 ∨ j=1 ∨ j=2 ∨ j=3 ∨ j=4 ∨ j=5:=by omega
 rcases hjs with rfl | rfl | rfl | rfl | rfl | rfl
 ·conv=>whnf
  refine ⟨by decide,rfl,_,rfl,_,rfl,?_⟩
  conv=>whnf
  refine stJ (by rfl) (xs:=[i64 1,i64 6,.fn (.func 137) [] []]) ?_
  conv=>whnf
  refine ldI (by rfl) ?_
  conv=>whnf
  refine ldI (by rfl) ?_
  conv=>whnf
  refine ldI (by rfl) ?_
  conv=>whnf
  refine cvI (by kernel_rfl) (zrf hm 3) ?_
  conv=>whnf
  refine ⟨?_,?_⟩
  ·repeat' first | ((conv=>whnf)<;>done) | ((conv=>whnf)<;>(first | (refine ldI rfl ?_;rfl) | refine ⟨?_,?_⟩))
  conv=>whnf
  refine clI (zqz hm ⟨rfl,hs⟩ 1 6 (by decide) (by decide) (by decide)) ?_
  conv=>whnf
  refine ⟨?_,?_⟩
  ·repeat' first | ((conv=>whnf)<;>done) | ((conv=>whnf)<;>(first | (refine ldI rfl ?_;rfl) | refine ⟨?_,?_⟩))
  conv=>whnf
  refine stJ (by rfl) ?_
  conv=>whnf
  refine zI (z:=((0+1:Nat):Int)) (by decide) ?_
  exact nxI (0+1) (by decide) (by decide) ⟨⟨rfl,rfl,rfl,rfl,rfl,rfl⟩,rfl,rfl⟩
 ·conv=>whnf
  refine ⟨by decide,rfl,_,rfl,_,rfl,?_⟩
  conv=>whnf
  refine stJ (by rfl) (xs:=[i64 7,i64 4,.fn (.func 138) [] []]) ?_
  conv=>whnf
  refine ldI (by rfl) ?_
  conv=>whnf
  refine ldI (by rfl) ?_
  conv=>whnf
  refine ldI (by rfl) ?_
  conv=>whnf
  refine cvI (by kernel_rfl) (zre hm 3) ?_
  conv=>whnf
  refine ⟨?_,?_⟩
  ·repeat' first | ((conv=>whnf)<;>done) | ((conv=>whnf)<;>(first | (refine ldI rfl ?_;rfl) | refine ⟨?_,?_⟩))
  conv=>whnf
  refine clI (zqz hm ⟨rfl,hs⟩ 7 4 (by decide) (by decide) (by decide)) ?_
  conv=>whnf
  refine ⟨?_,?_⟩
  ·repeat' first | ((conv=>whnf)<;>done) | ((conv=>whnf)<;>(first | (refine ldI rfl ?_;rfl) | refine ⟨?_,?_⟩))
  conv=>whnf
  refine stJ (by rfl) ?_
  conv=>whnf
  refine zI (z:=((1+1:Nat):Int)) (by decide) ?_
  exact nxI (1+1) (by decide) (by decide) ⟨⟨rfl,rfl,rfl,rfl,rfl,rfl⟩,rfl,rfl⟩
 ·conv=>whnf
  refine ⟨by decide,rfl,_,rfl,_,rfl,?_⟩
  conv=>whnf
  refine stJ (by rfl) (xs:=[i64 11,i64 4,.fn (.func 139) [] []]) ?_
  conv=>whnf
  refine ldI (by rfl) ?_
  conv=>whnf
  refine ldI (by rfl) ?_
  conv=>whnf
  refine ldI (by rfl) ?_
  conv=>whnf
  refine cvI (by kernel_rfl) (zrd hm 3) ?_
  conv=>whnf
  refine ⟨?_,?_⟩
  ·repeat' first | ((conv=>whnf)<;>done) | ((conv=>whnf)<;>(first | (refine ldI rfl ?_;rfl) | refine ⟨?_,?_⟩))
  conv=>whnf
  refine clI (zqz hm ⟨rfl,hs⟩ 11 4 (by decide) (by decide) (by decide)) ?_
  conv=>whnf
  refine ⟨?_,?_⟩
  ·repeat' first | ((conv=>whnf)<;>done) | ((conv=>whnf)<;>(first | (refine ldI rfl ?_;rfl) | refine ⟨?_,?_⟩))
  conv=>whnf
  refine stJ (by rfl) ?_
  conv=>whnf
  refine zI (z:=((2+1:Nat):Int)) (by decide) ?_
  exact nxI (2+1) (by decide) (by decide) ⟨⟨rfl,rfl,rfl,rfl,rfl,rfl⟩,rfl,rfl⟩
 ·conv=>whnf
  refine ⟨by decide,rfl,_,rfl,_,rfl,?_⟩
  conv=>whnf
  refine stJ (by rfl) (xs:=[i64 31,i64 4,.fn (.func 140) [] []]) ?_
  conv=>whnf
  refine ldI (by rfl) ?_
  conv=>whnf
  refine ldI (by rfl) ?_
  conv=>whnf
  refine ldI (by rfl) ?_
  conv=>whnf
  refine cvI (by kernel_rfl) (zrc hm 3) ?_
  conv=>whnf
  refine ⟨?_,?_⟩
  ·repeat' first | ((conv=>whnf)<;>done) | ((conv=>whnf)<;>(first | (refine ldI rfl ?_;rfl) | refine ⟨?_,?_⟩))
  conv=>whnf
  refine clI (zqz hm ⟨rfl,hs⟩ 31 4 (by decide) (by decide) (by decide)) ?_
  conv=>whnf
  refine ⟨?_,?_⟩
  ·repeat' first | ((conv=>whnf)<;>done) | ((conv=>whnf)<;>(first | (refine ldI rfl ?_;rfl) | refine ⟨?_,?_⟩))
  conv=>whnf
  refine stJ (by rfl) ?_
  conv=>whnf
  refine zI (z:=((3+1:Nat):Int)) (by decide) ?_
  exact nxI (3+1) (by decide) (by decide) ⟨⟨rfl,rfl,rfl,rfl,rfl,rfl⟩,rfl,rfl⟩
 ·conv=>whnf
  refine ⟨by decide,rfl,_,rfl,_,rfl,?_⟩
  conv=>whnf
  refine stJ (by rfl) (xs:=[i64 35,i64 4,.fn (.func 141) [] []]) ?_
  conv=>whnf
  refine ldI (by rfl) ?_
  conv=>whnf
  refine ldI (by rfl) ?_
  conv=>whnf
  refine ldI (by rfl) ?_
  conv=>whnf
  refine cvI (by kernel_rfl) (zrb hm 3) ?_
  conv=>whnf
  refine ⟨?_,?_⟩
  ·repeat' first | ((conv=>whnf)<;>done) | ((conv=>whnf)<;>(first | (refine ldI rfl ?_;rfl) | refine ⟨?_,?_⟩))
  conv=>whnf
  refine clI (zqz hm ⟨rfl,hs⟩ 35 4 (by decide) (by decide) (by decide)) ?_
  conv=>whnf
  refine ⟨?_,?_⟩
  ·repeat' first | ((conv=>whnf)<;>done) | ((conv=>whnf)<;>(first | (refine ldI rfl ?_;rfl) | refine ⟨?_,?_⟩))
  conv=>whnf
  refine stJ (by rfl) ?_
  conv=>whnf
  refine zI (z:=((4+1:Nat):Int)) (by decide) ?_
  exact nxI (4+1) (by decide) (by decide) ⟨⟨rfl,rfl,rfl,rfl,rfl,rfl⟩,rfl,rfl⟩
 ·conv=>whnf
  exact hE _ ⟨rfl,rfl,rfl⟩
def z6u:RC:=match c17 with
 | .seq _ (.seq _ (.seq _ (.seq _ (.seq _ (.cut x)))))=>x
 | _=>.skip
def parR (s:Str):AV:=if s.length=64 ∧ ze1 (q5 s)=true ∧ y7 (q5 s)=s then .tup [(q5 s).av,i64 0] else .tup [Rt.zero.av,i64 8]
set_option maxRecDepth 100000 in
theorem zv0 {m:Nat}(hm:2 ≤ m) (s:Str) (hs:s.length=64):Wp Tryz.prog (C m) cfg0.inl KK 48 6 z6u ⟨[(2,.ptr 0 0 0),(4,.ptr 2 0 0),(5,.ptr 3 0 0)],hQ s 5,[]⟩ (RetQ Tryz.prog [.cell 2 zco,.tmp 3] fun v' h'=>frz h' 64 v'=some (parR s)):=by
 have hp:∃ q:Rt,q5 s=q ∧ ((s.map u8).drop 15).take 16=q.sum.list.map u8 ∧ hQ s 5=[zbl .zero,byC s,recC s,zbl ⟨q.ver,q.root,q.count,Dg.zero,q.list,q.pages⟩,fB 1 6 137,fB 7 4 138,fB 11 4 139,fB 31 4 140,fB 35 4 141]:=by
  refine ⟨_,rfl,?_,rfl⟩
  have:(dgOf ((s.drop 15).take 16)).bytes=(s.drop 15).take 16:=znu _ (by simp;omega)
  show _=(dgOf ((s.drop 15).take 16)).bytes.map u8
  rw [this,List.map_take,List.map_drop]
 obtain ⟨q,hq,hsum,hh⟩:=hp
 rw [hh]
 generalize fB 1 6 137=f1
 generalize fB 7 4 138=f2
 generalize fB 11 4 139=f3
 generalize fB 31 4 140=f4
 generalize fB 35 4 141=f5
 unfold parR
 rw [hq]
 have l5:(s.map u8).length=64:=by rw [List.length_map,hs]
 have ec:cpyR [zbl .zero,byC s,recC s,zbl ⟨q.ver,q.root,q.count,Dg.zero,q.list,q.pages⟩,f1,f2,f3,f4,f5] 1 (.sl 1 3 0 3 16) (.sl 1 2 0 15 49)=some (.int .i64 16,some [zbl .zero,byC s,recC s,zbl q,f1,f2,f3,f4,f5]):=by
  have g2:([zbl .zero,byC s,recC s,zbl ⟨q.ver,q.root,q.count,Dg.zero,q.list,q.pages⟩,f1,f2,f3,f4,f5]:zaa)[2]?=some (recC s):=rfl
  have g3:([zbl .zero,byC s,recC s,zbl ⟨q.ver,q.root,q.count,Dg.zero,q.list,q.pages⟩,f1,f2,f3,f4,f5]:zaa)[3]?=some (zbl ⟨q.ver,q.root,q.count,Dg.zero,q.list,q.pages⟩):=rfl
  unfold cpyR
  simp only [zk7,lenA]
  rw [show min 49 16=16 from rfl,zo4 _ g2 (show 16 ≤ 49 by decide) (by rw [l5];decide)]
  simp only
  rw [if_neg (by decide),g3,hsum]
  simp only
  rw [if_pos ⟨trivial,trivial,Nat.zero_le _,by show 3+16 ≤ 21;decide,zfs _⟩]
  rfl
 clear hq hsum hh
 have ck:=fun h:zaa=>zro (n:=m) (by omega) (h:=h) q
 conv=>whnf
 refine ⟨_,_,_,rfl,⟨show 0+1+2+16*1 ≤ 21 by decide,by decide⟩,?_⟩
 refine slI (v:=.sl 1 3 0 3 16) rfl ?_
 conv=>whnf
 refine ⟨_,_,_,rfl,⟨by rw [l5];decide,by decide⟩,?_⟩
 refine slI (v:=.sl 1 2 0 15 49) rfl ?_
 conv=>whnf
 refine ⟨_,ec,?_⟩
 conv=>whnf
 refine ⟨?_,?_⟩
 ·conv=>whnf
  refine ⟨?_,?_⟩
  ·conv=>whnf
   refine ⟨_,_,_,rfl,⟨by rw [l5];decide,by decide⟩,?_⟩
   exact slI (v:=.sl 1 2 0 15 49) rfl rfl
  conv=>whnf
  refine ⟨_,_,_,rfl,⟨show 0+1+2+16*1 ≤ 21 by decide,by decide⟩,?_⟩
  exact slI (v:=.sl 1 3 0 3 16) rfl rfl
 conv=>whnf
 refine ldI rfl ?_
 conv=>whnf
 cases ok:ze1 q with
 | false =>
  rw [ok] at ck
  rw [if_neg (by simp)]
  refine clI (ck _) ?_
  conv=>whnf
  refine stJ (by rfl) ?_
  exact ⟨rfl,[Rt.zero.av,i64 8],rfl,rfl⟩
 | true =>
  rw [ok] at ck
  obtain ⟨v0,v1,v2,v3,v4⟩:=zqa ok
  have rr:=fun h:zaa=>zsk (n:=m) (by omega) (h:=h) q v0 v1 v2 v3 v4
  have ly:=y7_len q
  generalize y7 q=Y at rr ly ⊢
  have er:=eq_rec Y s ly hs
  by_cases e:Y=s
  ·rw [if_pos ⟨hs,rfl,e⟩]
   rw [show decide (Y=s)=true by simp [e]] at er
   refine clI (ck _) ?_
   conv=>whnf
   refine ldI rfl ?_
   conv=>whnf
   refine clI (rr _) ?_
   conv=>whnf
   refine ldI rfl ?_
   refine zdr (zi0 l5) ?_
   conv=>whnf
   refine eqI er ?_
   conv=>whnf
   refine ldI rfl ?_
   conv=>whnf
   refine stJ (by rfl) ?_
   exact ⟨rfl,[q.av,i64 0],rfl,rfl⟩
  ·rw [if_neg (fun h=>e h.2.2)]
   rw [show decide (Y=s)=false by simp [e]] at er
   refine clI (ck _) ?_
   conv=>whnf
   refine ldI rfl ?_
   conv=>whnf
   refine clI (rr _) ?_
   conv=>whnf
   refine ldI rfl ?_
   refine zdr (zi0 l5) ?_
   conv=>whnf
   refine eqI er ?_
   conv=>whnf
   refine stJ (by rfl) ?_
   exact ⟨rfl,[Rt.zero.av,i64 8],rfl,rfl⟩
set_option maxRecDepth 100000 in
theorem zuc {n:Nat}(hn:3 ≤ n) {h:zaa}(s:Str) (hl:s.length<1099511627776):C n 17 [.str s] h=some (.ret (parR s),h):=by
 obtain ⟨m,rfl⟩:=pre1 n
 refine zad F17 rfl rfl rfl rfl ?_
 by_cases hs:s.length=64
 ·have l5:(s.map u8).length=64:=by rw [List.length_map,hs]
  have hput:putAt (z64.map u8) 0 (s.map u8)=s.map u8:=by
   unfold putAt
   rw [List.take_zero,List.nil_append,List.drop_of_length_le (by rw [l5];decide),List.append_nil]
  conv=>whnf
  refine brq (fun a=>absurd hs (by omega)) (fun _=>?_)
  conv=>whnf
  refine ⟨by omega,?_⟩
  conv=>whnf
  refine ldI rfl ?_
  refine zdr (zi0 l5) ?_
  conv=>whnf
  refine stI (xs:=s.map u8) (cs:=z64.map u8) rfl (zf1 (zfs _)) l5 (by rw [l5];rfl) (by rfl) ?_
  rw [hput]
  conv=>whnf
  refine clI (zra (by omega)) ?_
  conv=>whnf
  refine zv1 (by omega) s hs ⟨⟨rfl,rfl,rfl,rfl,rfl,rfl⟩,rfl,rfl⟩ (fun L hL=>?_)
  conv=>whnf
  refine cutI (by decide) rfl (t:=⟨[(2,.ptr 0 0 0),(4,.ptr 2 0 0),(5,.ptr 3 0 0)],hQ s 5,[]⟩) ⟨hL,rfl,rfl⟩ ?_
  exact zv0 (by omega) s hs
 ·unfold parR
  rw [if_neg (fun h=>hs h.1)]
  conv=>whnf
  refine brq (fun _=>?_) (fun a=>absurd a (by omega))
  conv=>whnf
  refine stJ (by rfl) ?_
  exact ⟨rfl,[Rt.zero.av,i64 8],rfl,rfl⟩
end Go.Proofs
