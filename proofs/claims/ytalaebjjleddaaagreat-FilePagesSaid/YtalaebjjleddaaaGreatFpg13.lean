/- Texts put together: Zk, Ed, Fz, Ee, Ef, Eg, Eh, Ei, Ej, Ek, El, Em, En, Eo, Er, Et, Eu, Ev, Es, Ww, Db5, Ve, Vf, Vg, Vh, Zl, Dc5, Vi, Vj, Nd, Zm. -/
import Derived.Test.YtalaebjjleddaaaGreatFpg12
import Derived.Test.YtalaebjjleddaaaGreatFpg11
import Derived.Test.YtalaebjjleddaaaGreatFpg9
import Derived.Test.YtalaebjjleddaaaGreatFpg8
import Derived.Test.YtalaebjjleddaaaGreatFpg7
set_option linter.unusedVariables false
set_option linter.unusedSimpArgs false
namespace Go.Proofs
open Go Go.Abs
section
variable {n:Nat}{h:zaa}
theorem zwi (m:Nat):rep m [AV.bool false]=(List.replicate m false).map .bool:=by
 induction m with
 | zero=>rfl
 | succ m ih=>rw [List.replicate_succ,List.map_cons,← ih];rfl
theorem zis (hn:6 ≤ n) (d:Dk) (ok:d.Ok) (hr:zan d=true) (k m':Nat) (hm:1 ≤ m') (hm8:m' ≤ 1000) (hk:k+m' ≤ d.secs.length):C n 161 [d.av,i64 k,i64 m'] h=some (.ret (.tup (zg7 d k m')),h):=by
 obtain ⟨m,rfl⟩:=pre1 n
 have hz:=(rightD_iff.1 hr).1
 have e1:(d.secs.map AV.str).length=d.secs.length:=List.length_map ..
 have cN:∀ h,C m 130 [.bool true,i64 1] h=some (.ret (.tup []),h):=fun h=>zjn (by omega) 1
 have hT:zby d k m'=(nowL d k m' d.ws.length).flatten:=(zw5 d k m').symm
 have hl:=zi1 hr hk
 have eS:∃ s e,zg7 d k m'=[.str s,i64 (e:Nat)] ∧ (zbc d k m'=true → s=zby d k m' ∧ e=0) ∧ (zbc d k m'=false → s=[] ∧ e=8):=by
  unfold zg7
  cases zbc d k m' with
  | true=>exact ⟨_,0,rfl,fun _=>⟨rfl,rfl⟩,fun h=>by cases h⟩
  | false=>exact ⟨_,8,rfl,(fun h=>by cases h),fun _=>⟨rfl,rfl⟩⟩
 obtain ⟨s,e,eR,eY,eN⟩:=eS
 rw [eR]
 refine zc7 F161 rfl rfl rfl (by simp [zam,zbk,AV.pureB]) ?_
 conv=>whnf
 refine ⟨rfl,.fn 86 [.ptr 1 0 0],by kernel_rfl,?_⟩
 conv=>whnf
 refine ldI rfl ?_
 conv=>whnf
 refine ⟨rfl,?_⟩
 conv=>whnf
 refine clI (zjx (by omega) d ok hr _) ?_
 conv=>whnf
 refine brd (fun _=>?_) (fun a=>absurd hm (by omega))
 conv=>whnf
 refine ldI rfl ?_
 conv=>whnf
 refine brd (fun _=>?_) (fun a=>absurd hm (by omega))
 conv=>whnf
 refine ldI rfl ?_
 conv=>whnf
 refine zI (z:=((d.secs.length-k:Nat):Int)) (by rw [e1,zae (by omega) (by omega)];omega) ?_
 conv=>whnf
 rw [show decide ((m':Int) ≤ ((d.secs.length-k:Nat):Int))=true by rw [decide_eq_true_iff];omega]
 refine clI (cN _) ?_
 conv=>whnf
 refine ldI rfl ?_
 conv=>whnf
 refine zI (z:=((k+m':Nat):Int)) (by rw [zae (by omega) (by omega)];rfl) ?_
 conv=>whnf
 refine slI (sl_lh AV.str d.secs ok.ss d.ssh.c k (k+m') (by omega) hk) ?_
 conv=>whnf
 rw [← zw4 hk]
 refine clI (zka (by omega) (nowL d k m' 0) (fun e=>by have:=congrArg List.length e;rw [zbq] at this;simp at this;omega) (by rw [zbq];omega) _) ?_
 rw [zbq]
 conv=>whnf
 refine ⟨by omega,by omega,by omega,?_⟩
 conv=>whnf
 refine ldI rfl ?_
 conv=>whnf
 refine ztt d ok hr k m' hk _ ⟨rfl,rfl,rfl,?_⟩ ⟨⟨rfl,rfl,rfl,rfl,rfl,rfl,rfl,rfl,lenI Wr.av _,rfl⟩,rfl,rfl⟩ (fun L h1 g1 hL=>?_)
 ·show some (AB.cells 0 (some 4) (rep (m':Int).toNat [AV.bool false]) 0)=_
  rw [Int.toNat_natCast,zwi,z1x]
 conv=>whnf
 refine cutI (by decide) rfl (t:=⟨[(1,i64 k),(2,i64 m'),(3,.ptr 0 0 0),(6,.str []),(7,.ptr 1 0 0),(8,.sl 1 2 0 0 m'),(9,.sl 1 3 0 0 m')],h1,dfD 1⟩) ⟨hL,rfl,rfl⟩ ?_
 conv=>whnf
 refine ldI g1.d0 ?_
 conv=>whnf
 refine zts (by omega) d ok hr k m' hk _ g1 ⟨⟨rfl,rfl,rfl,rfl,rfl,rfl,rfl,lenI i64 _,rfl⟩,rfl,rfl⟩ (fun hc L hL=>?_) (fun hc L h6 h7=>?_)
 ·obtain ⟨rfl,rfl⟩:=eY hc
  conv=>whnf
  refine cutI (by decide) rfl (t:=⟨[(7,.ptr 1 0 0),(8,.sl 1 2 0 0 m')],h1,dfD 1⟩) ⟨hL,rfl,rfl⟩ ?_
  conv=>whnf
  have hne:(nowL d k m' d.ws.length).flatten≠[]:=fun e=>by rw [← hT] at e;rw [e] at hl;simp at hl;omega
  have hj:∃ v h2,C m 204 [.sl 1 2 0 0 m',.str []] h1=some (.ret v,h2) ∧ v=.str (zby d k m') ∧ Keep h1 h2 []:=by
   rcases Nat.lt_or_ge m' 2 with q | q
   ·have q1:m'=1:=by omega
    subst q1
    obtain ⟨x,hx⟩ : ∃ x,nowL d k 1 d.ws.length=[x]:=List.length_eq_one_iff.1 (zbq ..)
    have g2:=g1.d2
    rw [hx] at g2
    refine ⟨_,_,z1r (by omega) x g2,?_,Keep.refl _ _⟩
    rw [hT,hx]
    simp
   ·have:=z47 (n:=m) (hp:=h1) (b:=2) (fz:=0) (el:=some tStr) (by omega) (nowL d k m' d.ws.length) (by rw [zbq];exact q) hne (by rw [← hT,hl];omega) (by rw [zbq];omega) g1.d2
    rw [zbq,← hT] at this
    exact this
  obtain ⟨v,h2,e2,rfl,k2⟩:=hj
  refine clI e2 ?_
  conv=>whnf
  refine stJ (xs:=[i64 0]) (k2.get g1.d1 (by simp)) ?_
  exact z0v rfl rfl (List.getElem?_set_self (zab (k2.get g1.d1 (by simp))))
 ·obtain ⟨rfl,rfl⟩:=eN hc
  conv=>whnf
  exact z0w h6 h7 g1.d1
end
section
variable {n:Nat}{h:zaa}
end
theorem eq_ent (e:Entry):eqA Tryz.prog 20 147 (.agg e.cells) (.agg e.cells)=some true:=by
 have e1:eqA Tryz.prog 20 147 (.agg e.cells) (.agg e.cells)=zdb (eqA Tryz.prog 19) [(9,.str e.key,.str e.key),(9,.str e.val,.str e.val),(3,i64 e.over,i64 e.over),(3,i64 e.len,i64 e.len),(3,i64 e.child,i64 e.child),(3,i64 e.count,i64 e.count),(23,.agg e.sum.cells,.agg e.sum.cells)]:=by kernel_rfl
 have e2:∀ (s:Str),eqA Tryz.prog 19 9 (.str s) (.str s)=some (s==s):=fun s=>by kernel_rfl
 have e3:∀ (k:Int),eqA Tryz.prog 19 3 (i64 k) (i64 k)=some (k==k):=fun k=>by kernel_rfl
 have e4:eqA Tryz.prog 19 23 (.agg e.sum.cells) (.agg e.sum.cells)=zdb (eqA Tryz.prog 18) (zipE 5 (e.sum.list.map u8) (e.sum.list.map u8)):=by kernel_rfl
 have e5:∀ (x y:UInt8),eqA Tryz.prog 18 5 (.int .u8 x.toNat) (.int .u8 y.toNat)=some (((x.toNat:Nat):Int)==y.toNat):=fun x y=>by kernel_rfl
 have e6:eqA Tryz.prog 19 23 (.agg e.sum.cells) (.agg e.sum.cells)=some true:=by
  rw [e4,zex (fun x y=>by rw [e5,zqr]) e.sum.list e.sum.list rfl]
  simp
 rw [e1]
 simp only [zdb,e2,e3,e6,beq_self_eq_true]
section
variable {n:Nat}{h:zaa}
end
section
variable {n:Nat}{h:zaa}
end
section
variable {n:Nat}{h:zaa}
end
section
variable {n:Nat}{h:zaa}
end
section
variable {n:Nat}{h:zaa}
end
section
variable {n:Nat}{h:zaa}
end
section
variable {n:Nat}{h:zaa}
end
abbrev tRef:Nat:=287
def rcell (t:RT):AB:=.cells 0 (some tRef) [.str t.1,.bool t.2] 0
def RRd (hp:zaa) (b:Nat) (t:RT):Prop:=hp[b]?=some (rcell t)
theorem RRd.stays {hp hp':zaa}{b:Nat}{t:RT}{F:List Nat}(r:RRd hp b t) (k:Keep hp hp' F) (hb:b ∉ F):RRd hp' b t:=k.get r hb
theorem RRd.lt {hp:zaa}{b:Nat}{t:RT}(r:RRd hp b t):b<hp.length:=zab r
theorem RRd.set {hp:zaa}{b:Nat}{t t':RT}(r:RRd hp b t):RRd (hp.set b (rcell t')) b t':=by
 unfold RRd;rw [List.getElem?_set_self r.lt]
section
variable {n:Nat}{hp h:zaa}{b:Nat}{t:RT}
end
section
variable {n:Nat}{hp h:zaa}{b:Nat}{t:RT}
end
abbrev tEn:Nat:=147
structure ES (h0 h:zaa) (b A B:Nat) (cs:List AV) (t:RT):Prop where
 r:RRd h b t
 a:h[A]?=some (.cells 0 (some tEn) (keyE []).cells 0)
 e:h[B]?=some (.cells 0 (some tEn) cs 0)
 k:Keep h0 h [b]
 ne:b<A ∧ A<B ∧ h0.length ≤ A
theorem ES.next {h0 h h':zaa}{b A B:Nat}{cs:List AV}{t t':RT}(s:ES h0 h b A B cs t) (k:Keep h h' [b]) (r:RRd h' b t'):ES h0 h' b A B cs t':=by
 obtain ⟨n1,n2,n3⟩:=s.ne
 exact ⟨r,k.get s.a (by simp;omega),k.get s.e (by simp;omega),s.k.trans k (fun x hx=>.inl hx),s.ne⟩
theorem ES.set {h0 h:zaa}{b A B:Nat}{cs cs':List AV}{t:RT}(s:ES h0 h b A B cs t):ES h0 (h.set B (.cells 0 (some tEn) cs' 0)) b A B cs' t:=by
 obtain ⟨n1,n2,n3⟩:=s.ne
 refine ⟨?_,?_,?_,?_,s.ne⟩
 ·unfold RRd;rw [List.getElem?_set_ne (by omega)];exact s.r
 ·rw [List.getElem?_set_ne (by omega)];exact s.a
 ·rw [List.getElem?_set_self (zab s.e)]
 ·exact s.k.set' (.inr (by omega))
theorem ES.done {h0 h:zaa}{b A B:Nat}{cs cs':List AV}{t:RT}(s:ES h0 h b A B cs t):(h.set A (.cells 0 (some tEn) cs' 0))[A]?=some (.cells 0 (some tEn) cs' 0) ∧ RRd (h.set A (.cells 0 (some tEn) cs' 0)) b t ∧ Keep h0 (h.set A (.cells 0 (some tEn) cs' 0)) [b]:=by
 obtain ⟨n1,n2,n3⟩:=s.ne
 refine ⟨?_,?_,?_⟩
 ·rw [List.getElem?_set_self (zab s.a)]
 ·unfold RRd;rw [List.getElem?_set_ne (by omega)];exact s.r
 ·exact s.k.set' (.inr (by omega))
section
variable {n:Nat}{hp h:zaa}{b:Nat}{t:RT}
end
abbrev tPg:Nat:=79
structure PSt (h:zaa) (cs:List AV) (t:RT):Prop where
 a:h[0]?=some (.cells 0 (some tPg) zbo 0)
 r:RRd h 1 t
 p:h[2]?=some (.cells 0 (some tPg) cs 0)
theorem PSt.next {h h':zaa}{cs:List AV}{t t':RT}(s:PSt h cs t) (k:Keep h h' [1]) (r:RRd h' 1 t'):PSt h' cs t' :=
 ⟨k.get s.a (by simp),r,k.get s.p (by simp)⟩
theorem PSt.set {h:zaa}{cs cs':List AV}{t:RT}(s:PSt h cs t):PSt (h.set 2 (.cells 0 (some tPg) cs' 0)) cs' t:=by
 refine ⟨?_,?_,?_⟩
 ·rw [List.getElem?_set_ne (by omega)];exact s.a
 ·unfold RRd;rw [List.getElem?_set_ne (by omega)];exact s.r
 ·rw [List.getElem?_set_self (zab s.p)]
theorem PSt.stays {h h':zaa}{cs:List AV}{t:RT}{F:List Nat}(s:PSt h cs t) (k:Keep h h' F) (hF:∀ z∈F,3 ≤ z):PSt h' cs t :=
 ⟨k.get s.a (fun q=>by have:=hF _ q;omega),k.get s.r (fun q=>by have:=hF _ q;omega),k.get s.p (fun q=>by have:=hF _ q;omega)⟩
def hA (t:RT):=rnum 1 t
def hB (t:RT):=rnum 4 (hA t).2
def hC (t:RT):=rnum 6 (hB t).2
def nA (t:RT):=rnum 1 t
def nB (t:RT):=rnum 1 (nA t).2
def nC (t:RT):=rnum 1 (nB t).2
def nD (t:RT):=rnum 1 (nC t).2
def nE (t:RT):=rnum 2 (nD t).2
section
variable {m:Nat}{s:Str}{h:zaa}{L:AV}{G I:List Nat}{k no v tr lv next:Nat}{top:Bool}{es:List Entry}{d:Str}{t:RT}{Lt:LT}
end
section
variable {m:Nat}{s:Str}
end
def zPage:Page:=⟨0,0,0,0,0,false,⟨0,true⟩,[],0,[],⟨0,true⟩,[]⟩
section
variable {n:Nat}{h:zaa}{s:Str}
end
section
variable {n:Nat}{h:zaa}
theorem zp7 (hn:1 ≤ n) (l:List Entry) (hl:l.length<1099511627776) (sz sz':Nat) (hz:l≠[] → sz=22) (hz':l≠[] → sz'=22) (c c':Bool):C n 94 [.lst sz (l.map Entry.av) c,.lst sz' (l.map Entry.av) c'] h=some (.ret (.bool true),h):=by
 obtain ⟨m,rfl⟩:=pre1 n
 refine zak F94 rfl rfl rfl (zch zcy l (zch zcy l rfl)) ?_
 conv=>whnf
 refine brq (fun a=>absurd rfl a) (fun _=>?_)
 conv=>whnf
 refine za1 (by decide) rfl (α:=Nat) (fun x=>⟨[(0,.lst sz (l.map Entry.av) c),(1,.lst sz' (l.map Entry.av) c'),(5,i64 x)],[],[]⟩) (fun x=>x ≤ l.length) (fun x=>l.length-x) 0 ⟨⟨rfl,rfl,rfl⟩,rfl,rfl⟩ (Nat.zero_le _) (by show l.length-0<KK;simp only [KK];omega) ?_
 intro j g1
 conv=>whnf
 refine brd (fun a=>?_) (fun a=>?_)
 ·have hj:j<l.length:=by simp only [List.length_map] at a;omega
  conv=>whnf
  refine ixL zbf hj hz ?_
  conv=>whnf
  refine ixL zbf hj hz' ?_
  conv=>whnf
  refine eqI (eq_ent l[j]) ?_
  conv=>whnf
  refine zJ j ?_
  exact nxI (j+1) hj (by omega) ⟨⟨rfl,rfl,rfl⟩,rfl,rfl⟩
 ·conv=>whnf
  refine cutI (by decide) rfl (t:=⟨[],[],[]⟩) ⟨trivial,rfl,rfl⟩ ?_
  conv=>whnf
  exact retP rfl (zas rfl)
theorem zp6 (hn:1 ≤ n) (l:List Int) (hl:l.length<9223372036854775808) (sz sz':Nat) (hz:l≠[] → sz=1) (hz':l≠[] → sz'=1) (c c':Bool):C n 163 [.lst sz (l.map i64) c,.lst sz' (l.map i64) c'] h=some (.ret (.bool true),h):=by
 obtain ⟨m,rfl⟩:=pre1 n
 have hp:∀ k:Int,(i64 k).pureB=true:=fun _=>rfl
 refine zak F163 rfl rfl rfl (zch hp l (zch hp l rfl)) ?_
 conv=>whnf
 refine brq (fun a=>absurd rfl a) (fun _=>?_)
 conv=>whnf
 refine za1 (by decide) rfl (α:=Nat) (fun x=>⟨[(0,.lst sz (l.map i64) c),(1,.lst sz' (l.map i64) c'),(5,i64 x)],[],[]⟩) (fun x=>x ≤ l.length) (fun x=>l.length-x) 0 ⟨⟨rfl,rfl,rfl⟩,rfl,rfl⟩ (Nat.zero_le _) (by show l.length-0<KK;simp only [KK];omega) ?_
 intro j g1
 conv=>whnf
 refine brd (fun a=>?_) (fun a=>?_)
 ·have hj:j<l.length:=by simp only [List.length_map] at a;omega
  have hne:l≠[]:=by rintro rfl;simp at hj
  conv=>whnf
  refine ⟨by omega,hz hne,i64 l[j],by simp [hj],[i64 l[j]],rfl,?_⟩
  conv=>whnf
  refine ⟨by omega,hz' hne,i64 l[j],by simp [hj],[i64 l[j]],rfl,?_⟩
  conv=>whnf
  refine brq (fun a=>absurd rfl a) (fun _=>?_)
  conv=>whnf
  refine zJ j ?_
  exact nxI (j+1) hj (by omega) ⟨⟨rfl,rfl,rfl⟩,rfl,rfl⟩
 ·conv=>whnf
  refine cutI (by decide) rfl (t:=⟨[],[],[]⟩) ⟨trivial,rfl,rfl⟩ ?_
  conv=>whnf
  exact retP rfl (zas rfl)
theorem z2g {a b:List Freed}(h:a.map Freed.core=b.map Freed.core) {j:Nat}(ha:j<a.length) (hb:j<b.length):a[j].ver=b[j].ver ∧ a[j].pages=b[j].pages:=by
 have:=zne h j
 have e1:a.getD j default=a[j]:=by simp [ha]
 have e2:b.getD j default=b[j]:=by simp [hb]
 rw [e1,e2] at this
 exact this
theorem zn2 (hn:2 ≤ n) (a b:List Freed) (hc:a.map Freed.core=b.map Freed.core) (hl:a.length<1099511627776) (ha:∀ f∈a,f.Ok ∧ f.pages.length<9223372036854775808) (hb:∀ f∈b,f.Ok ∧ f.pages.length<9223372036854775808) (sz sz':Nat) (hz:a≠[] → sz=2) (hz':b≠[] → sz'=2) (c c':Bool):C n 95 [.lst sz (a.map Freed.av) c,.lst sz' (b.map Freed.av) c'] h=some (.ret (.bool true),h):=by
 obtain ⟨m,rfl⟩:=pre1 n
 have hlen:=zhl hc
 refine zak F95 rfl rfl rfl (zch zef a (zch zef b rfl)) ?_
 conv=>whnf
 refine brq (fun q=>absurd (by rw [List.length_map,List.length_map,hlen]) q) (fun _=>?_)
 conv=>whnf
 refine za1 (by decide) rfl (α:=Nat) (fun x=>⟨[(0,.lst sz (a.map Freed.av) c),(1,.lst sz' (b.map Freed.av) c'),(5,i64 x)],[],[]⟩) (fun x=>x ≤ a.length) (fun x=>a.length-x) 0 ⟨⟨rfl,rfl,rfl⟩,rfl,rfl⟩ (Nat.zero_le _) (by show a.length-0<KK;simp only [KK];omega) ?_
 intro j g1
 conv=>whnf
 refine brd (fun q=>?_) (fun q=>?_)
 ·have hj:j<a.length:=by simp only [List.length_map] at q;omega
  have hj':j<b.length:=by omega
  obtain ⟨e1,e2⟩:=z2g hc hj hj'
  obtain ⟨a1,a2⟩:=ha _ (List.getElem_mem hj)
  obtain ⟨b1,_⟩:=hb _ (List.getElem_mem hj')
  have cI:∀ h,C m 163 [.lst a[j].sh.sz (a[j].pages.map i64) a[j].sh.c,.lst b[j].sh.sz (b[j].pages.map i64) b[j].sh.c] h=some (.ret (.bool true),h):=fun h=>by
   rw [← e2]
   exact zp6 (by omega) a[j].pages a2 _ _ a1 (by rw [e2];exact b1) _ _
  conv=>whnf
  refine ixL zbw hj hz ?_
  conv=>whnf
  refine ixL zbw hj' hz' ?_
  conv=>whnf
  refine brq (fun q=>absurd e1 q) (fun _=>?_)
  conv=>whnf
  refine ixL zbw hj hz ?_
  conv=>whnf
  refine ixL zbw hj' hz' ?_
  conv=>whnf
  refine clI (cI _) ?_
  conv=>whnf
  refine zJ j ?_
  exact nxI (j+1) hj (by omega) ⟨⟨rfl,rfl,rfl⟩,rfl,rfl⟩
 ·conv=>whnf
  refine cutI (by decide) rfl (t:=⟨[],[],[]⟩) ⟨trivial,rfl,rfl⟩ ?_
  conv=>whnf
  exact retP rfl (zas rfl)
theorem zf2 (hn:3 ≤ n) {p q:Page}(hs:Same p q) (op:p.Ok) (oq:q.Ok):C n 34 [p.av,q.av] h=some (.ret (.bool true),h):=by
 obtain ⟨m,rfl⟩:=pre1 n
 have cE:∀ h,C m 94 [.lst p.esh.sz (p.entries.map Entry.av) p.esh.c,.lst q.esh.sz (q.entries.map Entry.av) q.esh.c] h=some (.ret (.bool true),h):=fun h=>by
  rw [hs.entries]
  exact zp7 (by omega) p.entries op.elen _ _ op.esz (by rw [← hs.entries];exact oq.esz) _ _
 have cF:∀ h,C m 95 [.lst p.fsh.sz (p.freed.map Freed.av) p.fsh.c,.lst q.fsh.sz (q.freed.map Freed.av) q.fsh.c] h=some (.ret (.bool true),h):=fun h =>
  zn2 (by omega) p.freed q.freed hs.freed.symm (by have:=op.flen;omega) op.fr oq.fr _ _ op.fsz oq.fsz _ _
 have hpure:zam [p.av,q.av]=true:=by simp [zam,zb5]
 refine zak F34 rfl rfl rfl hpure ?_
 conv=>whnf
 refine ldI (by rfl) ?_
 conv=>whnf
 refine ldI (by rfl) ?_
 conv=>whnf
 refine brq (fun a=>absurd hs.kind.symm a) (fun _=>?_)
 conv=>whnf
 refine ldI (by rfl) ?_
 conv=>whnf
 refine ldI (by rfl) ?_
 conv=>whnf
 refine brq (fun a=>absurd hs.no.symm a) (fun _=>?_)
 conv=>whnf
 refine ldI (by rfl) ?_
 conv=>whnf
 refine ldI (by rfl) ?_
 conv=>whnf
 refine brq (fun a=>absurd hs.ver.symm a) (fun _=>?_)
 conv=>whnf
 refine ldI (by rfl) ?_
 conv=>whnf
 refine ldI (by rfl) ?_
 conv=>whnf
 refine brq (fun a=>absurd hs.tree.symm a) (fun _=>?_)
 conv=>whnf
 refine ldI (by rfl) ?_
 conv=>whnf
 refine ldI (by rfl) ?_
 conv=>whnf
 refine brq (fun a=>absurd hs.level.symm a) (fun _=>?_)
 conv=>whnf
 refine ldI (by rfl) ?_
 conv=>whnf
 refine ldI (by rfl) ?_
 conv=>whnf
 refine eqI (r:=true) (by rw [zyc,hs.top];simp) ?_
 conv=>whnf
 refine ldI (by rfl) ?_
 conv=>whnf
 refine ldI (by rfl) ?_
 conv=>whnf
 refine brq (fun a=>absurd hs.next.symm a) (fun _=>?_)
 conv=>whnf
 refine ldI (by rfl) ?_
 conv=>whnf
 refine ldI (by rfl) ?_
 conv=>whnf
 refine brq (fun a=>absurd hs.data.symm a) (fun _=>?_)
 conv=>whnf
 refine ldI (by rfl) ?_
 conv=>whnf
 refine ldI (by rfl) ?_
 conv=>whnf
 refine clI (cE _) ?_
 conv=>whnf
 refine ldI (by rfl) ?_
 conv=>whnf
 refine ldI (by rfl) ?_
 conv=>whnf
 refine clI (cF _) ?_
 conv=>whnf
 exact retP rfl (zas rfl)
end
theorem Same.join {p q b:Page}(h1:Same p q) (h2:Same p b):Same q b :=
 ⟨h2.kind.trans h1.kind.symm,h2.no.trans h1.no.symm,h2.ver.trans h1.ver.symm,h2.tree.trans h1.tree.symm,h2.level.trans h1.level.symm,h2.top.trans h1.top.symm,h2.entries.trans h1.entries.symm,h2.next.trans h1.next.symm,h2.data.trans h1.data.symm,h2.freed.trans h1.freed.symm⟩
theorem Same.rfl' (p:Page):Same p p:=⟨rfl,rfl,rfl,rfl,rfl,rfl,rfl,rfl,rfl,rfl⟩
theorem zl9:zPage.Ok:=⟨fun h=>(h rfl).elim,fun h=>(h rfl).elim,by decide,by decide,by decide,(fun e he=>by cases he),(fun f hf=>by cases hf)⟩
def c70:RC :=
 (.seq (.ops [(oP 1 (.box 46 (.t 0))),(oP 2 (.mv (.c .nilp)))])
 (.seq (.ops [(oB 3 3 1),(oV 4 121 3),(oV 5 98 4)])
 (.seq (.ops [(oB 6 3 1),(oP 7 (.build [(.lst 0 [] true),(.lst 0 [] true),(.lst 0 [] true)] [(0,3,(.t 6))])),(oP 8 (.box 165 (.t 7))),(mV 2 8)])
 .ret)))
theorem F70:FI 70 1 9 4 [.tmp 2] c70:=mkF Tryz.f70 Tryz.func70
def c98:RC :=
 (.seq (.ops [(mV 2 0),(oJ 3 .neq 2 0)])
 (.cond (.t 3)
 (.ops [(mV 4 0),(oP 5 (.build [(.int .i64 0)] [(0,1,(.t 4))])),(oP 6 (.mkIfc 217 (.t 5))),
 ⟨none,none,.pan (.t 6)⟩])
 .skip))
theorem F98:FI 98 1 7 4 [] c98:=mkF Tryz.f98 Tryz.func98
def c80:RC :=
 (.seq (.ops [(mV 4 0),(oP 5 (.un .not (.t 4)))])
 (.cond (.t 5)
 (.ops [(mV 6 1),(oV 7 98 6)])
 .skip))
theorem F80:FI 80 2 8 4 [] c80:=mkF Tryz.f80 Tryz.func80
def c91:RC :=
 (.seq (.ops [(oH 2 0)])
 (.seq (.ops [(mV 3 0),(oR 4 3),(oC 5 0 4),(oC 6 0 5),(oA 7 6),(oK 8 7),(oJ 9 .quo 8 8),(mV 2 9)])
 .ret))
theorem F91:FI 91 1 10 4 [.tmp 2] c91:=mkF Tryz.f91 Tryz.func91
def c93:RC :=
 (.seq (.ops [(oP 4 (.alloc 79 zPl)),(oH 5 0)])
 (.seq (.ops [(mV 10 0),(oR 11 10),(oC 12 0 11),(oB 13 3 12),(mV 14 1),(oJ 15 .mul 14 8),(oP 16 (.callF 161 [(.t 13),(.t 15),(.c (.int .i64 8))])),(mV 9 16),(oQ 17 9 0),(oQ 18 9 1),(mV 6 17),(mV 7 18)])
 (.seq (.seq (.ops [(mV 19 7),(oJ 20 .neq 19 0)])
 (.cond (.t 20)
 (.seq (.ops [(oP 21 (.build zPl [])),(oT 10 4 21),(oH 5 8)])
 .ret)
 .skip))
 (.seq (.ops [(mV 23 6),(oV 24 162 23),(mV 22 24),(oQ 25 22 0),(oQ 26 22 1),(oP 8 (.alloc 79 zPl)),(oT 10 8 25),(mV 7 26)])
 (.seq (.seq (.ops [(mV 27 7),(oJ 28 .neq 27 0),(mV 29 28),(oF 30 29 false 1 8),(oD 31 29 false 30),(oE 32 29 false 1),(oG 33 29 false (.bin .neq (.t 31) (.t 32))),(oM 34 29 33)])
 (.cond (.t 34)
 (.seq (.ops [(oP 35 (.build zPl [])),(oT 10 4 35),(oH 5 8)])
 .ret)
 .skip))
 (.seq (.ops [(oB 36 10 8),(oT 10 4 36),(oH 5 0)])
 .ret))))))
theorem F93:FI 93 2 37 6 [.cell 4 79,.tmp 5] c93:=mkF Tryz.f93 Tryz.func93
def c75:RC :=
 (.seq (.ops [(oP 1 (.box 46 (.t 0))),(oH 2 0)])
 (.seq (.ops [(oC 3 0 1),(oA 4 3),(oK 5 4),(oJ 6 .quo 5 8),(mV 2 6)])
 .ret))
theorem F75:FI 75 1 7 4 [.tmp 2] c75:=mkF Tryz.f75 Tryz.func75
def c21:RC :=
 (.seq (.ops [(oP 1 (.box 46 (.t 0))),(oP 2 (.mv (.c (.bool false))))])
 (.seq (.seq (.ops [(oC 5 0 1),(oA 6 5),(oK 7 6),(oJ 8 .gtr 7 200),(mV 9 8),(oF 10 9 false 1 1),(oD 11 9 false 10),(oG 12 9 false (.lenL (.t 11))),(oG 13 9 false (.bin .gtr (.t 12) (.c (.int .i64 200)))),(oM 14 9 13),(mV 15 14),(oF 16 15 false 2 1),(oD 17 15 false 16),(oG 18 15 false (.lenL (.t 17))),(oG 19 15 false (.bin .gtr (.t 18) (.c (.int .i64 200)))),(oM 20 15 19)])
 (.cond (.t 20)
 (.seq (.ops [(oP 2 (.mv (.c (.bool false))))])
 .ret)
 .skip))
 (.seq (.seq (.ops [(oH 3 0)])
 (.block 0
 (.loop
 (.seq (.seq (.ops [(mV 21 3),(oC 22 0 1),(oA 23 22),(oK 24 23),(oI 25 .lss 21 24)])
 (.cond (.t 25)
 .skip
 (.exit 0)))
 (.seq (.block 1
 (.seq (.ops [(oC 28 0 1),(oA 29 28),(mV 30 3),(oS 31 1 29 30),(oA 32 31),(oP 33 (.lenS (.t 32))),(oJ 34 .gtr 33 600)])
 (.cond (.t 34)
 (.seq (.ops [(oP 2 (.mv (.c (.bool false))))])
 .ret)
 .skip)))
 (.ops [(mV 26 3),(oJ 27 .add 26 1),(mV 3 27)]))))))
 (.cut (.seq (.seq (.ops [(oH 4 0)])
 (.block 2
 (.loop
 (.seq (.seq (.ops [(mV 35 4),(oC 36 1 1),(oA 37 36),(oK 38 37),(oI 39 .lss 35 38)])
 (.cond (.t 39)
 .skip
 (.exit 2)))
 (.seq (.block 3
 (.seq (.ops [(oC 42 1 1),(oA 43 42),(mV 44 4),(oS 45 2 43 44),(oC 46 1 45),(oA 47 46),(oP 48 (.lenS (.t 47))),(oJ 49 .gtr 48 600)])
 (.cond (.t 49)
 (.seq (.ops [(oP 2 (.mv (.c (.bool false))))])
 .ret)
 .skip)))
 (.ops [(mV 40 4),(oJ 41 .add 40 1),(mV 4 41)]))))))
 (.cut (.seq (.ops [(oP 2 (.mv (.c (.bool true))))])
 .ret)))))))
theorem F21:FI 21 1 50 6 [.tmp 2] c21:=mkF Tryz.f21 Tryz.func21
def Rt.zero:Rt:=⟨0,0,0,Dg.zero,0,0⟩
theorem eq_rec (a b:Str) (ha:a.length=64) (hb:b.length=64):eqA Tryz.prog 20 tRec (.agg (a.map u8)) (.agg (b.map u8))=some (decide (a=b)):=by
 have e0:Tryz.prog.underlying tRec=some (.array 64 5):=by kernel_rfl
 obtain ⟨d,e1,e2⟩ : ∃ d,ti Tryz.prog 5=some d ∧ (zba d.desc=false ∧ d.size=1):=by
  have:(ti Tryz.prog 5).map (fun d=>(zba d.desc,d.size))=some (false,1):=by kernel_rfl
  obtain ⟨d,h1,h2⟩:=Option.map_eq_some_iff.1 this
  simp only [Prod.mk.injEq] at h2
  exact ⟨d,h1,h2⟩
 unfold eqA
 simp only [e0,e1]
 unfold zoq
 rw [if_pos ⟨e2.1,e2.2,by rw [List.length_map,ha],by rw [List.length_map,hb]⟩]
 simp only
 have e2:∀ (x y:UInt8),eqA Tryz.prog 19 5 (.int .u8 x.toNat) (.int .u8 y.toNat)=some (((x.toNat:Nat):Int)==y.toNat):=fun x y=>by kernel_rfl
 exact zex (fun x y=>by rw [e2,zqr]) a b (by rw [ha,hb])
section
variable {n:Nat}{h:zaa}
theorem zoa {r:Rt}(h:zdz r=true):0 ≤ r.ver ∧ 0 ≤ r.root ∧ 0 ≤ r.count ∧ 0 ≤ r.list ∧ 0 ≤ r.pages:=by
 unfold zdz zhe zfj at h
 simp only [Bool.and_eq_true,Bool.or_eq_true,decide_eq_true_eq,beq_iff_eq] at h
 omega
end
abbrev byC (s:Str):AB:=.cells 0 none (s.map u8) 0
def part (s:Str) (a w:Nat):Nat:=zag ((s.drop a).take w)
def q5 (s:Str):Rt:=⟨part s 1 6,part s 7 4,part s 11 4,dgOf ((s.drop 15).take 16),part s 31 4,part s 35 4⟩
def hQ (s:Str):Nat → zaa
 | 0=>[za9 .zero,byC s,recC s,za9 .zero]
 | 1=>[za9 .zero,byC s,recC s,za9 ⟨part s 1 6,0,0,Dg.zero,0,0⟩,fB 1 6 137]
 | 2=>[za9 .zero,byC s,recC s,za9 ⟨part s 1 6,part s 7 4,0,Dg.zero,0,0⟩,fB 1 6 137,fB 7 4 138]
 | 3=>[za9 .zero,byC s,recC s,za9 ⟨part s 1 6,part s 7 4,part s 11 4,Dg.zero,0,0⟩,fB 1 6 137,fB 7 4 138,fB 11 4 139]
 | 4=>[za9 .zero,byC s,recC s,za9 ⟨part s 1 6,part s 7 4,part s 11 4,Dg.zero,part s 31 4,0⟩,fB 1 6 137,fB 7 4 138,fB 11 4 139,fB 31 4 140]
 | _=>[za9 .zero,byC s,recC s,za9 ⟨part s 1 6,part s 7 4,part s 11 4,Dg.zero,part s 31 4,part s 35 4⟩,fB 1 6 137,fB 7 4 138,fB 11 4 139,fB 31 4 140,fB 35 4 141]
set_option maxRecDepth 100000 in
theorem zt0 {m:Nat}(hm:1 ≤ m) (s:Str) (hs:s.length=64) {Q:Ex → LS → Prop}{st:LS}
  (hst:LS.sub ⟨[(2,.ptr 0 0 0),(4,.ptr 2 0 0),(5,.ptr 3 0 0),(16,.lst 3 [fA 1 6 137,fA 7 4 138,fA 11 4 139,fA 31 4 140,fA 35 4 141] true),(17,i64 5),(18,i64 0)],hQ s 0,[]⟩ st)
  (hE:∀ Lt,subL [(2,.ptr 0 0 0),(4,.ptr 2 0 0),(5,.ptr 3 0 0)] Lt → Q (.exit 0) ⟨Lt,hQ s 5,[]⟩) :
  OkR Tryz.prog (C m) cfg0.inl KK 48 6 (.loop (c17.lp 0)) st Q:=by
 refine za1 (by decide) rfl (α:=Nat) (fun j=>⟨[(2,.ptr 0 0 0),(4,.ptr 2 0 0),(5,.ptr 3 0 0),(16,.lst 3 [fA 1 6 137,fA 7 4 138,fA 11 4 139,fA 31 4 140,fA 35 4 141] true),(17,i64 5),(18,i64 j)],hQ s j,[]⟩) (fun j=>j ≤ 5) (fun j=>5-j) 0 hst (by decide) (by decide) ?_
 intro j hj
 have hjs:j=0 ∨ j=1 ∨ j=2 ∨ j=3 ∨ j=4 ∨ j=5:=by omega
 rcases hjs with rfl | rfl | rfl | rfl | rfl | rfl
 ·conv=>whnf
  refine ⟨by decide,rfl,_,rfl,_,rfl,?_⟩
  conv=>whnf
  refine stJ (by rfl) (xs:=[i64 1,i64 6,.fn (.func 137) [] []]) ?_
  conv=>whnf
  refine ldI (by rfl) ?_
  conv=>whnf
  refine ldI (by rfl) ?_
  conv=>whnf
  refine ldI (by rfl) ?_
  conv=>whnf
  refine cvI (by kernel_rfl) (zo9 hm 3) ?_
  conv=>whnf
  refine ⟨?_,?_⟩
  ·repeat' first | ((conv=>whnf)<;>done) | ((conv=>whnf)<;>(first | (refine ldI rfl ?_;rfl) | refine ⟨?_,?_⟩))
  conv=>whnf
  refine clI (zot hm ⟨rfl,hs⟩ 1 6 (by decide) (by decide) (by decide)) ?_
  conv=>whnf
  refine ⟨?_,?_⟩
  ·repeat' first | ((conv=>whnf)<;>done) | ((conv=>whnf)<;>(first | (refine ldI rfl ?_;rfl) | refine ⟨?_,?_⟩))
  conv=>whnf
  refine stJ (by rfl) ?_
  conv=>whnf
  refine zI (z:=((0+1:Nat):Int)) (by decide) ?_
  exact nxI (0+1) (by decide) (by decide) ⟨⟨rfl,rfl,rfl,rfl,rfl,rfl⟩,rfl,rfl⟩
 ·conv=>whnf
  refine ⟨by decide,rfl,_,rfl,_,rfl,?_⟩
  conv=>whnf
  refine stJ (by rfl) (xs:=[i64 7,i64 4,.fn (.func 138) [] []]) ?_
  conv=>whnf
  refine ldI (by rfl) ?_
  conv=>whnf
  refine ldI (by rfl) ?_
  conv=>whnf
  refine ldI (by rfl) ?_
  conv=>whnf
  refine cvI (by kernel_rfl) (zo8 hm 3) ?_
  conv=>whnf
  refine ⟨?_,?_⟩
  ·repeat' first | ((conv=>whnf)<;>done) | ((conv=>whnf)<;>(first | (refine ldI rfl ?_;rfl) | refine ⟨?_,?_⟩))
  conv=>whnf
  refine clI (zot hm ⟨rfl,hs⟩ 7 4 (by decide) (by decide) (by decide)) ?_
  conv=>whnf
  refine ⟨?_,?_⟩
  ·repeat' first | ((conv=>whnf)<;>done) | ((conv=>whnf)<;>(first | (refine ldI rfl ?_;rfl) | refine ⟨?_,?_⟩))
  conv=>whnf
  refine stJ (by rfl) ?_
  conv=>whnf
  refine zI (z:=((1+1:Nat):Int)) (by decide) ?_
  exact nxI (1+1) (by decide) (by decide) ⟨⟨rfl,rfl,rfl,rfl,rfl,rfl⟩,rfl,rfl⟩
 ·conv=>whnf
  refine ⟨by decide,rfl,_,rfl,_,rfl,?_⟩
  conv=>whnf
  refine stJ (by rfl) (xs:=[i64 11,i64 4,.fn (.func 139) [] []]) ?_
  conv=>whnf
  refine ldI (by rfl) ?_
  conv=>whnf
  refine ldI (by rfl) ?_
  conv=>whnf
  refine ldI (by rfl) ?_
  conv=>whnf
  refine cvI (by kernel_rfl) (zo7 hm 3) ?_
  conv=>whnf
  refine ⟨?_,?_⟩
  ·repeat' first | ((conv=>whnf)<;>done) | ((conv=>whnf)<;>(first | (refine ldI rfl ?_;rfl) | refine ⟨?_,?_⟩))
  conv=>whnf
  refine clI (zot hm ⟨rfl,hs⟩ 11 4 (by decide) (by decide) (by decide)) ?_
  conv=>whnf
  refine ⟨?_,?_⟩
  ·repeat' first | ((conv=>whnf)<;>done) | ((conv=>whnf)<;>(first | (refine ldI rfl ?_;rfl) | refine ⟨?_,?_⟩))
  conv=>whnf
  refine stJ (by rfl) ?_
  conv=>whnf
  refine zI (z:=((2+1:Nat):Int)) (by decide) ?_
  exact nxI (2+1) (by decide) (by decide) ⟨⟨rfl,rfl,rfl,rfl,rfl,rfl⟩,rfl,rfl⟩
 ·conv=>whnf
  refine ⟨by decide,rfl,_,rfl,_,rfl,?_⟩
  conv=>whnf
  refine stJ (by rfl) (xs:=[i64 31,i64 4,.fn (.func 140) [] []]) ?_
  conv=>whnf
  refine ldI (by rfl) ?_
  conv=>whnf
  refine ldI (by rfl) ?_
  conv=>whnf
  refine ldI (by rfl) ?_
  conv=>whnf
  refine cvI (by kernel_rfl) (zo6 hm 3) ?_
  conv=>whnf
  refine ⟨?_,?_⟩
  ·repeat' first | ((conv=>whnf)<;>done) | ((conv=>whnf)<;>(first | (refine ldI rfl ?_;rfl) | refine ⟨?_,?_⟩))
  conv=>whnf
  refine clI (zot hm ⟨rfl,hs⟩ 31 4 (by decide) (by decide) (by decide)) ?_
  conv=>whnf
  refine ⟨?_,?_⟩
  ·repeat' first | ((conv=>whnf)<;>done) | ((conv=>whnf)<;>(first | (refine ldI rfl ?_;rfl) | refine ⟨?_,?_⟩))
  conv=>whnf
  refine stJ (by rfl) ?_
  conv=>whnf
  refine zI (z:=((3+1:Nat):Int)) (by decide) ?_
  exact nxI (3+1) (by decide) (by decide) ⟨⟨rfl,rfl,rfl,rfl,rfl,rfl⟩,rfl,rfl⟩
 ·conv=>whnf
  refine ⟨by decide,rfl,_,rfl,_,rfl,?_⟩
  conv=>whnf
  refine stJ (by rfl) (xs:=[i64 35,i64 4,.fn (.func 141) [] []]) ?_
  conv=>whnf
  refine ldI (by rfl) ?_
  conv=>whnf
  refine ldI (by rfl) ?_
  conv=>whnf
  refine ldI (by rfl) ?_
  conv=>whnf
  refine cvI (by kernel_rfl) (zo5 hm 3) ?_
  conv=>whnf
  refine ⟨?_,?_⟩
  ·repeat' first | ((conv=>whnf)<;>done) | ((conv=>whnf)<;>(first | (refine ldI rfl ?_;rfl) | refine ⟨?_,?_⟩))
  conv=>whnf
  refine clI (zot hm ⟨rfl,hs⟩ 35 4 (by decide) (by decide) (by decide)) ?_
  conv=>whnf
  refine ⟨?_,?_⟩
  ·repeat' first | ((conv=>whnf)<;>done) | ((conv=>whnf)<;>(first | (refine ldI rfl ?_;rfl) | refine ⟨?_,?_⟩))
  conv=>whnf
  refine stJ (by rfl) ?_
  conv=>whnf
  refine zI (z:=((4+1:Nat):Int)) (by decide) ?_
  exact nxI (4+1) (by decide) (by decide) ⟨⟨rfl,rfl,rfl,rfl,rfl,rfl⟩,rfl,rfl⟩
 ·conv=>whnf
  exact hE _ ⟨rfl,rfl,rfl⟩
def z4i:RC:=match c17 with
 | .seq _ (.seq _ (.seq _ (.seq _ (.seq _ (.cut x)))))=>x
 | _=>.skip
def parR (s:Str):AV:=if s.length=64 ∧ zdz (q5 s)=true ∧ y7 (q5 s)=s then .tup [(q5 s).av,i64 0] else .tup [Rt.zero.av,i64 8]
set_option maxRecDepth 100000 in
theorem ztz {m:Nat}(hm:2 ≤ m) (s:Str) (hs:s.length=64):Wp Tryz.prog (C m) cfg0.inl KK 48 6 z4i ⟨[(2,.ptr 0 0 0),(4,.ptr 2 0 0),(5,.ptr 3 0 0)],hQ s 5,[]⟩ (RetQ Tryz.prog [.cell 2 zd5,.tmp 3] fun v' h'=>frz h' 64 v'=some (parR s)):=by
 have hp:∃ q:Rt,q5 s=q ∧ ((s.map u8).drop 15).take 16=q.sum.list.map u8 ∧ hQ s 5=[za9 .zero,byC s,recC s,za9 ⟨q.ver,q.root,q.count,Dg.zero,q.list,q.pages⟩,fB 1 6 137,fB 7 4 138,fB 11 4 139,fB 31 4 140,fB 35 4 141]:=by
  refine ⟨_,rfl,?_,rfl⟩
  have:(dgOf ((s.drop 15).take 16)).bytes=(s.drop 15).take 16:=zl1 _ (by simp;omega)
  show _=(dgOf ((s.drop 15).take 16)).bytes.map u8
  rw [this,List.map_take,List.map_drop]
 obtain ⟨q,hq,hsum,hh⟩:=hp
 rw [hh]
 generalize fB 1 6 137=f1
 generalize fB 7 4 138=f2
 generalize fB 11 4 139=f3
 generalize fB 31 4 140=f4
 generalize fB 35 4 141=f5
 unfold parR
 rw [hq]
 have l5:(s.map u8).length=64:=by rw [List.length_map,hs]
 have ec:cpyR [za9 .zero,byC s,recC s,za9 ⟨q.ver,q.root,q.count,Dg.zero,q.list,q.pages⟩,f1,f2,f3,f4,f5] 1 (.sl 1 3 0 3 16) (.sl 1 2 0 15 49)=some (.int .i64 16,some [za9 .zero,byC s,recC s,za9 q,f1,f2,f3,f4,f5]):=by
  have g2:([za9 .zero,byC s,recC s,za9 ⟨q.ver,q.root,q.count,Dg.zero,q.list,q.pages⟩,f1,f2,f3,f4,f5]:zaa)[2]?=some (recC s):=rfl
  have g3:([za9 .zero,byC s,recC s,za9 ⟨q.ver,q.root,q.count,Dg.zero,q.list,q.pages⟩,f1,f2,f3,f4,f5]:zaa)[3]?=some (za9 ⟨q.ver,q.root,q.count,Dg.zero,q.list,q.pages⟩):=rfl
  unfold cpyR
  simp only [zi5,lenA]
  rw [show min 49 16=16 from rfl,zm7 _ g2 (show 16 ≤ 49 by decide) (by rw [l5];decide)]
  simp only
  rw [if_neg (by decide),g3,hsum]
  simp only
  rw [if_pos ⟨trivial,trivial,Nat.zero_le _,by show 3+16 ≤ 21;decide,zel _⟩]
  rfl
 clear hq hsum hh
 have ck:=fun h:zaa=>zpl (n:=m) (by omega) (h:=h) q
 conv=>whnf
 refine ⟨_,_,_,rfl,⟨show 0+1+2+16*1 ≤ 21 by decide,by decide⟩,?_⟩
 refine slI (v:=.sl 1 3 0 3 16) rfl ?_
 conv=>whnf
 refine ⟨_,_,_,rfl,⟨by rw [l5];decide,by decide⟩,?_⟩
 refine slI (v:=.sl 1 2 0 15 49) rfl ?_
 conv=>whnf
 refine ⟨_,ec,?_⟩
 conv=>whnf
 refine ⟨?_,?_⟩
 ·conv=>whnf
  refine ⟨?_,?_⟩
  ·conv=>whnf
   refine ⟨_,_,_,rfl,⟨by rw [l5];decide,by decide⟩,?_⟩
   exact slI (v:=.sl 1 2 0 15 49) rfl rfl
  conv=>whnf
  refine ⟨_,_,_,rfl,⟨show 0+1+2+16*1 ≤ 21 by decide,by decide⟩,?_⟩
  exact slI (v:=.sl 1 3 0 3 16) rfl rfl
 conv=>whnf
 refine ldI rfl ?_
 conv=>whnf
 cases ok:zdz q with
 | false =>
  rw [ok] at ck
  rw [if_neg (by simp)]
  refine clI (ck _) ?_
  conv=>whnf
  refine stJ (by rfl) ?_
  exact ⟨rfl,[Rt.zero.av,i64 8],rfl,rfl⟩
 | true =>
  rw [ok] at ck
  obtain ⟨v0,v1,v2,v3,v4⟩:=zoa ok
  have rr:=fun h:zaa=>zqb (n:=m) (by omega) (h:=h) q v0 v1 v2 v3 v4
  have ly:=y7_len q
  generalize y7 q=Y at rr ly ⊢
  have er:=eq_rec Y s ly hs
  by_cases e:Y=s
  ·rw [if_pos ⟨hs,rfl,e⟩]
   rw [show decide (Y=s)=true by simp [e]] at er
   refine clI (ck _) ?_
   conv=>whnf
   refine ldI rfl ?_
   conv=>whnf
   refine clI (rr _) ?_
   conv=>whnf
   refine ldI rfl ?_
   refine zdd (zg5 l5) ?_
   conv=>whnf
   refine eqI er ?_
   conv=>whnf
   refine ldI rfl ?_
   conv=>whnf
   refine stJ (by rfl) ?_
   exact ⟨rfl,[q.av,i64 0],rfl,rfl⟩
  ·rw [if_neg (fun h=>e h.2.2)]
   rw [show decide (Y=s)=false by simp [e]] at er
   refine clI (ck _) ?_
   conv=>whnf
   refine ldI rfl ?_
   conv=>whnf
   refine clI (rr _) ?_
   conv=>whnf
   refine ldI rfl ?_
   refine zdd (zg5 l5) ?_
   conv=>whnf
   refine eqI er ?_
   conv=>whnf
   refine stJ (by rfl) ?_
   exact ⟨rfl,[Rt.zero.av,i64 8],rfl,rfl⟩
set_option maxRecDepth 100000 in
theorem zr4 {n:Nat}(hn:3 ≤ n) {h:zaa}(s:Str) (hl:s.length<1099511627776):C n 17 [.str s] h=some (.ret (parR s),h):=by
 obtain ⟨m,rfl⟩:=pre1 n
 refine zak F17 rfl rfl rfl rfl ?_
 by_cases hs:s.length=64
 ·have l5:(s.map u8).length=64:=by rw [List.length_map,hs]
  have hput:putAt (z64.map u8) 0 (s.map u8)=s.map u8:=by
   unfold putAt
   rw [List.take_zero,List.nil_append,List.drop_of_length_le (by rw [l5];decide),List.append_nil]
  conv=>whnf
  refine brq (fun a=>absurd hs (by omega)) (fun _=>?_)
  conv=>whnf
  refine ⟨by omega,?_⟩
  conv=>whnf
  refine ldI rfl ?_
  refine zdd (zg5 l5) ?_
  conv=>whnf
  refine stI (xs:=s.map u8) (cs:=z64.map u8) rfl (zew (zel _)) l5 (by rw [l5];rfl) (by rfl) ?_
  rw [hput]
  conv=>whnf
  refine clI (zo4 (by omega)) ?_
  conv=>whnf
  refine zt0 (by omega) s hs ⟨⟨rfl,rfl,rfl,rfl,rfl,rfl⟩,rfl,rfl⟩ (fun L hL=>?_)
  conv=>whnf
  refine cutI (by decide) rfl (t:=⟨[(2,.ptr 0 0 0),(4,.ptr 2 0 0),(5,.ptr 3 0 0)],hQ s 5,[]⟩) ⟨hL,rfl,rfl⟩ ?_
  exact ztz (by omega) s hs
 ·unfold parR
  rw [if_neg (fun h=>hs h.1)]
  conv=>whnf
  refine brq (fun _=>?_) (fun a=>absurd a (by omega))
  conv=>whnf
  refine stJ (by rfl) ?_
  exact ⟨rfl,[Rt.zero.av,i64 8],rfl,rfl⟩
theorem zgo {A M B Ys xs:Str}{k:Nat}(hx:xs=A++(M++B)) (hA:A.length=k) (hM:M.length=Ys.length):lay xs k Ys=A++(Ys++B):=by
 subst hx
 unfold lay
 rw [List.take_append_of_le_length (by omega),List.take_of_length_le (by omega),← hA,List.drop_append,List.drop_of_length_le (by omega),List.nil_append,Nat.add_sub_cancel_left,List.drop_append,List.drop_of_length_le (by omega),List.nil_append,hM,Nat.sub_self,List.drop_zero,List.append_assoc]
def zcv (r:Rt):Str:=82::(num r.ver.toNat 6++(num r.root.toNat 4++(num r.count.toNat 4++(r.sum.list++(num r.list.toNat 4++(num r.pages.toNat 4++zaw 20))))))
def recL (r:Rt):Str:=zcv r++(num (crc (zcv r)).toNat 4++[82])
theorem zje (r:Rt):(zcv r).length=59:=by
 unfold zcv
 simp only [List.length_cons,List.length_append,zal,zay]
 rfl
theorem zva (r:Rt):y7 r=recL r:=by
 obtain ⟨V,hV,v⟩ : ∃ V,num r.ver.toNat 6=V ∧ V.length=6:=⟨_,rfl,zal _ _⟩
 obtain ⟨R,hR,u⟩ : ∃ R,num r.root.toNat 4=R ∧ R.length=4:=⟨_,rfl,zal _ _⟩
 obtain ⟨K,hK,k⟩ : ∃ K,num r.count.toNat 4=K ∧ K.length=4:=⟨_,rfl,zal _ _⟩
 obtain ⟨L,hL,l⟩ : ∃ L,num r.list.toNat 4=L ∧ L.length=4:=⟨_,rfl,zal _ _⟩
 obtain ⟨P,hP,p⟩ : ∃ P,num r.pages.toNat 4=P ∧ P.length=4:=⟨_,rfl,zal _ _⟩
 obtain ⟨S,hS,t⟩ : ∃ S,r.sum.list=S ∧ S.length=16:=⟨_,rfl,rfl⟩
 have e0:x0=[82]++(zaw 6++(zaw 4++(zaw 4++(zaw 16++(zaw 4++(zaw 4++(zaw 20++(zaw 4++[82])))))))):=rfl
 have e1:y1 r=[82]++(V++(zaw 4++(zaw 4++(zaw 16++(zaw 4++(zaw 4++(zaw 20++(zaw 4++[82])))))))):=by
  unfold y1;rw [hV];exact zgo e0 rfl (by rw [zay,v])
 have e2:y2 r=[82]++(V++(R++(zaw 4++(zaw 16++(zaw 4++(zaw 4++(zaw 20++(zaw 4++[82])))))))):=by
  unfold y2;rw [hR,zgo (A:=[82]++V) (M:=zaw 4) (by rw [e1];simp only [List.append_assoc];rfl) (by simp [v]) (by rw [zay,u])];simp only [List.append_assoc]
 have e3:y3 r=[82]++(V++(R++(K++(zaw 16++(zaw 4++(zaw 4++(zaw 20++(zaw 4++[82])))))))):=by
  unfold y3;rw [hK,zgo (A:=[82]++(V++R)) (M:=zaw 4) (by rw [e2];simp only [List.append_assoc];rfl) (by simp [v,u]) (by rw [zay,k])];simp only [List.append_assoc]
 have e4:y4 r=[82]++(V++(R++(K++(zaw 16++(L++(zaw 4++(zaw 20++(zaw 4++[82])))))))):=by
  unfold y4;rw [hL,zgo (A:=[82]++(V++(R++(K++zaw 16)))) (M:=zaw 4) (by rw [e3];simp only [List.append_assoc];rfl) (by simp [v,u,k,zay]) (by rw [zay,l])];simp only [List.append_assoc]
 have e5:y5 r=[82]++(V++(R++(K++(zaw 16++(L++(P++(zaw 20++(zaw 4++[82])))))))):=by
  unfold y5;rw [hP,zgo (A:=[82]++(V++(R++(K++(zaw 16++L))))) (M:=zaw 4) (by rw [e4];simp only [List.append_assoc];rfl) (by simp [v,u,k,l,zay]) (by rw [zay,p])];simp only [List.append_assoc]
 have e6:y6 r=[82]++(V++(R++(K++(S++(L++(P++(zaw 20++(zaw 4++[82])))))))):=by
  unfold y6;rw [hS,zgo (A:=[82]++(V++(R++K))) (M:=zaw 16) (by rw [e5];simp only [List.append_assoc];rfl) (by simp [v,u,k]) (by rw [zay,t])];simp only [List.append_assoc]
 have eb:zcv r=[82]++(V++(R++(K++(S++(L++(P++zaw 20)))))):=by
  unfold zcv;rw [hV,hR,hK,hS,hL,hP];rfl
 have ec:y6 r=zcv r++(zaw 4++[82]):=by rw [e6,eb];simp only [List.append_assoc]
 have lb:=zje r
 unfold y7 recL
 rw [show (y6 r).take 59=zcv r by rw [ec,List.take_append_of_le_length (by omega),List.take_of_length_le (by omega)]]
 exact zgo ec lb (by rw [zay,zal])
section
variable {n:Nat}{h:zaa}
theorem z1s (hn:1 ≤ n) (a b:Int):C n 101 [i64 a,i64 b] h=some (.ret (.bool (zhe b a)),h):=by
 obtain ⟨m,rfl⟩:=pre1 n
 refine zak F101 rfl rfl rfl rfl ?_
 repeat' (conv=>whnf);first
  | refine brd (fun _=>?_) (fun _=>?_)
  | refine retP rfl (zas ?_)
 all_goals simp_all [zhe]
 all_goals omega
theorem z0t (hn:2 ≤ n) (r:Rt):C n 60 [r.av] h=some (.ret (.bool (zdz r)),h):=by
 obtain ⟨m,rfl⟩:=pre1 n
 refine zak F60 rfl rfl rfl rfl ?_
 repeat' (conv=>whnf);first
  | refine brd (fun _=>?_) (fun _=>?_)
  | refine brq (fun _=>?_) (fun _=>?_)
  | refine brn (fun _=>?_) (fun _=>?_)
  | refine br (fun _=>?_) (fun _=>?_)
  | refine ldI rfl ?_
  | refine clI (z1s (by omega) _ _) ?_
  | refine eqI (zyb r) ?_
  | refine retP rfl (zas ?_)
 all_goals simp_all [zdz]
 all_goals try omega
 all_goals first
  | (have e:zfj r=true:=by { unfold zfj;simp_all;done });simp_all;done
  | (have e:zfj r=false:=by { unfold zfj;simp_all;done });simp only [e];done
  | (have e:zfj r=false:=by { unfold zfj;simp_all;done });rw [e];first
   | exact ⟨rfl,fun _=>by omega⟩
   | rw [Bool.false_or];exact decide_eq_decide.2 (by omega)
theorem zs6 (hn:1 ≤ n):C n 62 [i64 20] h=some (.ret (.str (zaw 20)),h):=by
 obtain ⟨m,rfl⟩:=pre1 n
 refine zak F62 rfl rfl rfl rfl ?_
 conv=>whnf
 refine ⟨by decide,by decide,by decide,?_⟩
 conv=>whnf
 refine ⟨_,zaw 20,?_,zb3 _,?_⟩
 ·exact zm6 (h:=[AB.cells 0 (some 5) ((zaw 20).map u8) 0]) (bb:=0) (ver:=0) (el:=some 5) (s:=zaw 20) (frz:=0) rfl
 conv=>whnf
 exact retP rfl rfl
theorem zzv (hn:1 ≤ n) (s:Str) (hs:s.length ≤ 6):C n 66 [.str s] h=some (.ret (i64 (zag s)),h):=by
 obtain ⟨m,rfl⟩:=pre1 n
 refine zak F66 rfl rfl rfl rfl ?_
 conv=>whnf
 refine za1 (by decide) rfl (α:=Nat) (fun j=>⟨[(0,.str s),(3,i64 (zag (s.take j))),(4,i64 j)],[],[]⟩) (fun j=>j ≤ s.length) (fun j=>s.length-j) 0 ⟨⟨rfl,rfl,rfl⟩,rfl,rfl⟩ (Nat.zero_le _) (by simp only [KK];omega) ?_
 intro j hj
 conv=>whnf
 refine brd (fun a=>?_) (fun a=>?_)
 ·have hjs:j<s.length:=by omega
  have hb:=zcg j (s.take j) (by rw [List.length_take];omega)
  have hb2:256 ^ j ≤ 256 ^ 5:=Nat.pow_le_pow_right (by decide) (by omega)
  have h5:(256:Nat) ^ 5=1099511627776:=by decide
  have hst:zag (s.take j)*256+(s[j]).toNat=zag (s.take (j+1)):=by
   rw [List.take_succ_eq_append_getElem hjs,zgx]
  have hc:=(s[j]).toNat_lt
  conv=>whnf
  refine zI (z:=((zag (s.take j)*256:Nat):Int)) (by rw [zae (by omega) (by omega)];omega) ?_
  conv=>whnf
  refine strI (b:=s[j]) (by omega) (by rw [Int.toNat_natCast];exact List.getElem?_eq_getElem hjs) ?_
  conv=>whnf
  refine zI (z:=((s[j]).toNat:Int)) (zae (by omega) (by omega)) ?_
  conv=>whnf
  refine zI (z:=((zag (s.take (j+1)):Nat):Int)) (by rw [zae (by omega) (by omega)];omega) ?_
  conv=>whnf
  refine zJ j ?_
  exact nxI (j+1) hjs (by omega) ⟨⟨rfl,rfl,rfl⟩,rfl,rfl⟩
 ·have hjs:j=s.length:=by omega
  subst hjs
  conv=>whnf
  refine cutI (by decide) rfl (t:=⟨[(3,i64 (zag s))],[],[]⟩) ⟨by rw [List.take_length];rfl,rfl,rfl⟩ ?_
  conv=>whnf
  exact retP rfl rfl
end
abbrev tFF:Nat:=217
abbrev tWri5:Nat:=165
abbrev zbz (e:Int):AV:=.ifc tFF (.agg [i64 e])
abbrev wriC (d:Dk):AB:=.cells 0 (some tWri5) d.cells 0
section
variable {n:Nat}{h hp:zaa}
theorem zm9 (hn:1 ≤ n):C n 98 [i64 0] h=some (.ret (.tup []),h):=by
 obtain ⟨m,rfl⟩:=pre1 n
 refine zak F98 rfl rfl rfl rfl ?_
 conv=>whnf
 exact ⟨rfl,[],rfl,rfl⟩
theorem zj6 (hn:1 ≤ n) (e:Int) (he:e≠0):C n 98 [i64 e] h=some (.pan (zbz e),h):=by
 obtain ⟨m,rfl⟩:=pre1 n
 refine zc7 F98 rfl rfl rfl rfl ?_
 conv=>whnf
 refine brq (fun _=>?_) (fun a=>absurd a he)
 conv=>whnf
 exact ⟨zbz e,rfl,rfl⟩
theorem z4v (hn:1 ≤ n) (e:Int):C n 80 [.bool true,i64 e] h=some (.ret (.tup []),h):=by
 obtain ⟨m,rfl⟩:=pre1 n
 refine zak F80 rfl rfl rfl rfl ?_
 conv=>whnf
 exact ⟨rfl,[],rfl,rfl⟩
theorem z4w (hn:2 ≤ n) (e:Int) (he:e≠0):C n 80 [.bool false,i64 e] h=some (.pan (zbz e),h):=by
 obtain ⟨m,rfl⟩:=pre1 n
 refine zc7 F80 rfl rfl rfl rfl ?_
 conv=>whnf
 refine clP (zj6 (by omega) e he) ?_
 conv=>whnf
 exact ⟨zbz e,rfl,rfl⟩
theorem zw2 (hn:3 ≤ n) (d:Dk) (ok:d.Ok) (hr:zan d=true):C n 70 [d.av] hp=some (.ret (.ptr (hp.length+1) 0 0),hp++[dkC d]++[wriC d]):=by
 obtain ⟨m,rfl⟩:=pre1 n
 have cK:∀ h,C m 121 [d.av] h=some (.ret (i64 (if zan d then 0 else 2)),h):=fun h=>zhk (by omega) d ok
 rw [hr] at cK
 refine zat F70 rfl rfl ?_
 conv=>whnf
 refine ldI (zad _ _) ?_
 conv=>whnf
 refine clI (cK _) ?_
 conv=>whnf
 refine clI (zm9 (by omega)) ?_
 conv=>whnf
 refine ldI (zad _ _) ?_
 conv=>whnf
 refine ⟨rfl,[.ptr (hp++[dkC d]).length 0 0],rfl,?_,rfl⟩
 rw [List.length_append]
 rfl
theorem of_no (hn:3 ≤ n) (d:Dk) (ok:d.Ok) (hr:zan d=false):C n 70 [d.av] hp=some (.pan (zbz 2),hp++[dkC d]):=by
 obtain ⟨m,rfl⟩:=pre1 n
 have cK:∀ h,C m 121 [d.av] h=some (.ret (i64 (if zan d then 0 else 2)),h):=fun h=>zhk (by omega) d ok
 rw [hr] at cK
 obtain ⟨r,h',e,rfl,rfl⟩:=za0 (n:=m) (c:=cfg0) (args:=[d.av]) (h:=hp) (R:=fun r h=>r=.pan (zbz 2) ∧ h=hp++[dkC d]) F70 rfl rfl (by
  conv=>whnf
  refine ldI (zad _ _) ?_
  conv=>whnf
  refine clI (cK _) ?_
  conv=>whnf
  refine clP (zj6 (by omega) 2 (by decide)) ?_
  exact ⟨rfl,rfl⟩)
 exact e
def zaq (d:Dk):Nat:=d.secs.length / 8
theorem z4l (k:Nat):((k:Int)).tdiv 8=((k / 8:Nat):Int):=by
 rw [Int.tdiv_eq_ediv_of_nonneg (by omega)];omega
theorem zha (hn:1 ≤ n) (d:Dk) {w:Nat}(hw:hp[w]?=some (wriC d)) (hl:d.secs.length ≤ 1099511627776):C n 91 [.ptr w 0 0] hp=some (.ret (i64 (zaq d)),hp):=by
 obtain ⟨m,rfl⟩:=pre1 n
 have e1:(d.secs.map AV.str).length=d.secs.length:=List.length_map ..
 refine zat F91 rfl rfl ?_
 conv=>whnf
 refine ldI hw ?_
 conv=>whnf
 refine ⟨by decide,(zaq d:Int),by rw [e1,z4l,zae (by omega) (by omega)];rfl,?_⟩
 exact ⟨rfl,[i64 (zaq d)],rfl,rfl,rfl⟩
theorem zv9 (hn:1 ≤ n) (d:Dk) (hl:d.secs.length ≤ 1099511627776):C n 75 [d.av] h=some (.ret (i64 (zaq d)),h):=by
 obtain ⟨m,rfl⟩:=pre1 n
 have e1:(d.secs.map AV.str).length=d.secs.length:=List.length_map ..
 refine zak F75 rfl rfl rfl (by simp [zam,zbk]) ?_
 conv=>whnf
 refine ldI rfl ?_
 conv=>whnf
 refine ⟨by decide,(zaq d:Int),by rw [e1,z4l,zae (by omega) (by omega)];rfl,?_⟩
 exact ⟨rfl,[i64 (zaq d)],rfl,rfl⟩
theorem zff {L:LT}{h:zaa}{b:Nat}{cs:List AV}{k:Int}(h4:lk L 4=some (.ptr b 0 0)) (h5:lk L 5=some (i64 k)) (hP:h[b]?=some (.cells 0 (some 79) cs 0)) (hc:cs.length=10):zbv Tryz.prog L h [.cell 4 79,.tmp 5]=some [.agg cs,i64 k]:=by
 simp only [zbv,h4,h5,zhy hc hP]
section
variable {m:Nat}{d:Dk}{hp:zaa}{w no:Nat}
abbrev zPgB:AB:=.cells 0 (some 79) zbo 0
theorem zta (hm:6 ≤ m) (ok:d.Ok) (hr:zan d=true) (hno:no<zaq d) (hw:hp[w]?=some (wriC d)) (hc:zbc d (no*8) 8=false) :
  ∃ v h',C (m+1) 93 [.ptr w 0 0,i64 no] hp=some (.ret v,h') ∧ v=.tup [zPage.av,i64 8] ∧ Keep hp h' []:=by
 have lw:=zab hw
 have hz:=(rightD_iff.1 hr).1
 have hn8:no*8+8 ≤ d.secs.length:=by unfold zaq at hno;omega
 refine zcc F93 rfl rfl ?_
 conv=>whnf
 refine ldI (za8 hw) ?_
 conv=>whnf
 refine zI (z:=((no*8:Nat):Int)) (by rw [zae (by omega) (by omega)];omega) ?_
 conv=>whnf
 have cR:=fun h=>zis (n:=m) (h:=h) (by omega) d ok hr (no*8) 8 (by omega) (by omega) hn8
 unfold zg7 at cR
 rw [hc] at cR
 refine clI (cR _) ?_
 conv=>whnf
 refine stJ (xs:=zbo) (zad _ _) ?_
 exact ⟨rfl,_,zff rfl rfl (zaf _ _ _) rfl,rfl,(Keep.app hp _ []).set' (.inr (Nat.le_refl _))⟩
theorem znr (hm:10 ≤ m) (ok:d.Ok) (hr:zan d=true) (hno:no<zaq d) (hw:hp[w]?=some (wriC d)) (hc:zbc d (no*8) 8=true) {q:Page}{k:Int}(cD:∀ h,C m 162 [.str (zby d (no*8) 8)] h=some (.ret (.tup [q.av,i64 k]),h)) {V:AV}(hV:V=if k=0 ∧ q.no=no then .tup [q.av,i64 0] else .tup [zPage.av,i64 8]) :
  ∃ v h',C (m+1) 93 [.ptr w 0 0,i64 no] hp=some (.ret v,h') ∧ v=V ∧ Keep hp h' []:=by
 have lw:=zab hw
 have hz:=(rightD_iff.1 hr).1
 have hn8:no*8+8 ≤ d.secs.length:=by unfold zaq at hno;omega
 refine zcc F93 rfl rfl ?_
 conv=>whnf
 refine ldI (za8 hw) ?_
 conv=>whnf
 refine zI (z:=((no*8:Nat):Int)) (by rw [zae (by omega) (by omega)];omega) ?_
 conv=>whnf
 have cR:=fun h=>zis (n:=m) (h:=h) (by omega) d ok hr (no*8) 8 (by omega) (by omega) hn8
 unfold zg7 at cR
 rw [hc] at cR
 refine clI (cR _) ?_
 conv=>whnf
 refine clI (cD _) ?_
 conv=>whnf
 refine stJ (xs:=q.cells) (zad _ _) ?_
 have k1:∀ x y,Keep hp ((hp++[zPgB]++[x]).set (hp++[zPgB]).length y) []:=fun x y=>((Keep.app hp _ []).trans (Keep.app _ _ []) (by simp)).set' (.inr (by simp))
 have g1:∀ x y,((hp++[zPgB]++[x]).set (hp++[zPgB]).length y)[hp.length]?=some zPgB:=fun x y=>by
  rw [List.getElem?_set_ne (by simp),List.getElem?_append_left (by simp)];exact zad _ _
 conv=>whnf
 refine brq (fun c1=>?_) (fun c1=>?_)
 ·rw [if_neg (fun e=>c1 e.1)] at hV
  subst hV
  conv=>whnf
  refine stJ (xs:=zbo) (g1 _ _) ?_
  exact ⟨rfl,_,zff rfl rfl (List.getElem?_set_self (zab (g1 _ _))) rfl,rfl,(k1 _ _).set' (.inr (Nat.le_refl _))⟩
 ·conv=>whnf
  refine ldI (zaf _ _ _) ?_
  conv=>whnf
  refine brq (fun c2=>?_) (fun c2=>?_)
  ·rw [if_neg (fun e=>c2 e.2)] at hV
   subst hV
   conv=>whnf
   refine stJ (xs:=zbo) (g1 _ _) ?_
   exact ⟨rfl,_,zff rfl rfl (List.getElem?_set_self (zab (g1 _ _))) rfl,rfl,(k1 _ _).set' (.inr (Nat.le_refl _))⟩
  ·rw [if_pos ⟨c1,c2⟩] at hV
   subst hV
   conv=>whnf
   refine ldI (zaf _ _ _) ?_
   conv=>whnf
   refine stJ (xs:=q.cells) (g1 _ _) ?_
   exact ⟨rfl,_,zff rfl rfl (List.getElem?_set_self (zab (g1 _ _))) rfl,rfl,(k1 _ _).set' (.inr (Nat.le_refl _))⟩
end
end
def c89:RC :=
 (.seq (.ops [(oP 2 (.alloc 79 zPl)),(oP 3 (.alloc 29 [(.int .i64 0)]))])
 (.seq (.ops [(oP 4 (.mkFn (.func 160) [] [(.t 2),(.t 3)])),
 ⟨none,none,.dfr { callee:=.value (.tmp 4),args:=#[],argTypes:=#[] }⟩])
 (.seq (.ops [(mV 5 0),(oP 6 (.callV (.t 5) [])),(oT 10 2 6),(oU (.store 1 (.t 3) (.c (.int .i64 0))))])
 .ret)))
theorem F89:FI 89 1 7 4 [.cell 2 79,.cell 3 29] c89:=mkF Tryz.f89 Tryz.func89
def c160:RC :=
 (.seq (.ops [(oP 6 (.raw { dst:=(some 6),op:=(.call { callee:=.builtin .recover,args:=#[],argTypes:=#[] }),type:=20,pos := "file.go:40",after:=#[],guard:=none }))])
 (.block 0
 (.seq (.ops [(oP 8 (.isNilI false (.t 6)))])
 (.cond (.t 8)
 (.ops [(mV 2 6)])
 (.seq (.ops [(oP 9 (.asrt 217 true true (.t 6))),(oQ 10 9 1),(oQ 11 9 0)])
 (.cond (.t 10)
 (.seq (.ops [(oP 3 (.alloc 217 [(.int .i64 0)])),(oT 1 3 11)])
 (.seq (.ops [(oP 4 (.alloc 79 zPl))])
 (.draw [((oB 12 10 4),1),((oC 13 0 3),0),((oA 14 13),1),((oT 10 0 12),2),((oT 1 1 14),3)])))
 (.seq (.ops [(mV 5 6)])
 (.ops [(mV 7 5),
 ⟨none,none,.pan (.t 7)⟩]))))))))
def c33:RC :=
 (.seq (.ops [(oP 2 (.box 46 (.t 0))),(oP 3 (.box 3 (.t 1))),(oP 4 (.alloc 79 zPl)),(oH 5 0)])
 (.seq (.ops [(oP 6 (.mkFn (.func 90) [] [(.t 2),(.t 3)])),(oV 7 89 6),(oQ 8 7 0),(oQ 9 7 1),(oT 10 4 8),(mV 5 9)])
 .ret))
theorem F33:FI 33 2 10 4 [.cell 4 79,.tmp 5] c33:=mkF Tryz.f33 Tryz.func33
def c90:RC :=
 (.seq (.ops [(oP 2 (.alloc 79 zPl))])
 (.seq (.ops [(oB 4 3 0),(oV 5 70 4),(mV 3 5)])
 (.seq (.draw [((oA 6 1),1),((oJ 7 .geq 6 2),0),((mV 8 7),0),((oD 9 8 true 1),1),((oE 10 8 true 3),0),((oG 11 8 true (.callF 91 [(.t 10)])),2),((oG 12 8 true (.bin .lss (.t 9) (.t 11))),0),((oN 13 8 12),0),((oP 14 (.callF 80 [(.t 13),(.c (.int .i64 1))])),4)])
 (.seq (.ops [(mV 15 3),(oA 16 1),(oW 17 93 15 16),(oQ 18 17 0),(oQ 19 17 1),(oW 20 92 18 19),(oT 10 2 20)])
 .ret))))
theorem F90:FI 90 2 21 5 [.cell 2 79] c90:=mkF Tryz.f90 Tryz.func90
def c92:RC :=
 (.seq (.ops [(oP 2 (.box 79 (.t 0))),(oP 4 (.alloc 79 zPl))])
 (.seq (.ops [(mV 5 1),(oV 6 98 5)])
 (.seq (.ops [(oB 7 10 2),(oT 10 4 7)])
 .ret)))
theorem F92:FI 92 2 8 4 [.cell 4 79] c92:=mkF Tryz.f92 Tryz.func92
def c106:RC :=
 (.ops [(mV 2 0),(oV 3 91 2),(oJ 4 .geq 3 2),(oP 5 (.callF 80 [(.t 4),(.c (.int .i64 1))]))])
theorem F106:FI 106 1 6 3 [] c106:=mkF Tryz.f106 Tryz.func106
def c108:RC :=
 (.seq (.ops [(oP 4 (.alloc 27 zRl)),(oH 5 0)])
 (.seq (.ops [(mV 10 0),(oR 11 10),(oC 12 0 11),(oB 13 3 12),(mV 14 1),(oJ 15 .mul 14 8),(oP 16 (.callF 161 [(.t 13),(.t 15),(.c (.int .i64 1))])),(mV 9 16),(oQ 17 9 0),(oQ 18 9 1),(mV 6 17),(mV 7 18)])
 (.seq (.seq (.ops [(mV 19 7),(oJ 20 .neq 19 0)])
 (.cond (.t 20)
 (.seq (.ops [(oP 21 (.build zRl [])),(oT 21 4 21),(oH 5 8)])
 .ret)
 .skip))
 (.seq (.ops [(mV 23 6),(oV 24 17 23),(mV 22 24),(oQ 25 22 0),(oQ 26 22 1),(oP 8 (.alloc 27 zRl)),(oT 21 8 25),(mV 7 26)])
 (.seq (.seq (.draw [((mV 27 7),0),((oJ 28 .neq 27 0),0),((mV 29 28),0),((oF 30 29 false 20 8),0),((oD 31 29 false 30),1),((oE 32 29 false 0),0),((oG 33 29 false (.callF 91 [(.t 32)])),2),((oG 34 29 false (.bin .gtr (.t 31) (.t 33))),0),((oM 35 29 34),0)])
 (.cond (.t 35)
 (.seq (.ops [(oP 36 (.build zRl [])),(oT 21 4 36),(oH 5 8)])
 .ret)
 .skip))
 (.seq (.ops [(oB 37 21 8),(oT 21 4 37),(oH 5 0)])
 .ret))))))
theorem F108:FI 108 2 38 6 [.cell 4 27,.tmp 5] c108:=mkF Tryz.f108 Tryz.func108
def c111:RC :=
 (.seq (.ops [(oP 2 (.alloc 103 [(.lst 0 [] true)])),(oP 3 (.alloc 29 [(.int .i64 0)]))])
 (.seq (.ops [(oP 4 (.mkFn (.func 169) [] [(.t 2),(.t 3)])),
 ⟨none,none,.dfr { callee:=.value (.tmp 4),args:=#[],argTypes:=#[] }⟩])
 (.seq (.ops [(mV 5 0),(oP 6 (.callV (.t 5) [])),(oT 1 2 6),(oU (.store 1 (.t 3) (.c (.int .i64 0))))])
 .ret)))
theorem F111:FI 111 1 7 4 [.cell 2 103,.cell 3 29] c111:=mkF Tryz.f111 Tryz.func111
def c169:RC :=
 (.seq (.ops [(oP 6 (.raw { dst:=(some 6),op:=(.call { callee:=.builtin .recover,args:=#[],argTypes:=#[] }),type:=20,pos := "file.go:40",after:=#[],guard:=none }))])
 (.block 0
 (.seq (.ops [(oP 8 (.isNilI false (.t 6)))])
 (.cond (.t 8)
 (.ops [(mV 2 6)])
 (.seq (.ops [(oP 9 (.asrt 217 true true (.t 6))),(oQ 10 9 1),(oQ 11 9 0)])
 (.cond (.t 10)
 (.seq (.ops [(oP 3 (.alloc 217 [(.int .i64 0)])),(oT 1 3 11)])
 (.seq (.ops [(oP 4 (.mv (.c (.lst 0 [] true))))])
 (.draw [((mV 12 4),0),((oC 13 0 3),0),((oA 14 13),1),((oT 1 0 12),2),((oT 1 1 14),3)])))
 (.seq (.ops [(mV 5 6)])
 (.ops [(mV 7 5),
 ⟨none,none,.pan (.t 7)⟩]))))))))
def c43:RC :=
 (.seq (.ops [(oP 1 (.box 46 (.t 0))),(oP 2 (.mv (.c (.lst 0 [] true)))),(oH 3 0)])
 (.seq (.ops [(oP 4 (.mkFn (.func 112) [] [(.t 1)])),(oV 5 111 4),(oQ 6 5 0),(oQ 7 5 1),(mV 2 6),(mV 3 7)])
 .ret))
theorem F43:FI 43 1 8 4 [.tmp 2,.tmp 3] c43:=mkF Tryz.f43 Tryz.func43
def c112:RC :=
 (.seq (.ops [(oP 1 (.mv (.c (.lst 0 [] true))))])
 (.seq (.ops [(oP 2 (.mv (.c (.lst 0 [] true))))])
 (.seq (.seq (.ops [(oB 5 3 0),(oV 6 70 5),(oV 7 113 6),(oK 8 7),(oH 9 0)])
 (.block 0
 (.loop
 (.seq (.ops [(oI 10 .lss 9 8)])
 (.seq (.cond (.t 10)
 .skip
 (.exit 0))
 (.seq (.block 1
 (.seq (.ops [(oS 11 22 7 9),(oB 12 22 11),(oP 4 (.alloc 200 zRm)),(oT 22 4 12)])
 (.ops [(mV 13 2),(oC 14 0 4),(oB 15 21 14),(oP 16 (.mkLst 21 true 1 zRl [(0,21,(.t 15))])),(oP 17 (.app 27 21 (.t 13) (.t 16))),(mV 2 17)])))
 (.ops [(oJ 18 .add 9 1),(mV 9 18)])))))))
 (.cut (.seq (.ops [(mV 19 2),(mV 1 19)])
 .ret)))))
theorem F112:FI 112 1 20 5 [.tmp 1] c112:=mkF Tryz.f112 Tryz.func112
def c113:RC :=
 (.seq (.ops [(oP 2 (.mv (.c (.lst 0 [] true))))])
 (.seq (.ops [(mV 7 0),(oV 8 106 7)])
 (.seq (.ops [(oP 3 (.mv (.c (.lst 0 [] true))))])
 (.seq (.seq (.ops [(oH 9 0)])
 (.block 0
 (.loop
 (.seq (.ops [(oJ 10 .lss 9 2)])
 (.seq (.cond (.t 10)
 .skip
 (.exit 0))
 (.seq (.block 1
 (.seq (.ops [(mV 11 9),(mV 4 11)])
 (.seq (.ops [(mV 13 0),(mV 14 4),(oW 15 108 13 14),(mV 12 15),(oQ 16 12 0),(oQ 17 12 1),(oP 5 (.alloc 27 zRl)),(oT 21 5 16),(mV 6 17)])
 (.seq (.ops [(mV 18 6),(oJ 19 .eql 18 0)])
 (.cond (.t 19)
 (.ops [(mV 20 3),(oB 21 21 5),(mV 22 4),(oP 23 (.build zRm [(0,21,(.t 21)),(21,1,(.t 22))])),(oP 24 (.mkLst 22 true 1 zRm [(0,22,(.t 23))])),(oP 25 (.app 200 22 (.t 20) (.t 24))),(mV 3 25)])
 .skip)))))
 (.ops [(oJ 26 .add 9 1),(mV 9 26)])))))))
 (.cut (.seq (.ops [(mV 27 3),(oP 28 (.callF 170 [(.t 27),(.c (.fn (.func 171) [] []))]))])
 (.seq (.ops [(mV 29 3),(mV 2 29)])
 .ret)))))))
theorem F113:FI 113 1 30 5 [.tmp 2] c113:=mkF Tryz.f113 Tryz.func113
def c171:RC :=
 (.seq (.ops [(oP 2 (.box 200 (.t 0))),(oP 3 (.box 200 (.t 1))),(oH 4 0)])
 (.seq (.ops [(oC 5 0 3),(oC 6 0 5),(oA 7 6),(oC 8 0 2),(oC 9 0 8),(oA 10 9),(oW 11 172 7 10),(mV 4 11)])
 .ret))
theorem F171:FI 171 2 12 4 [.tmp 4] c171:=mkF Tryz.f171 Tryz.func171
def c170:RC :=
 (.ops [(mV 4 0),(mV 5 0),(oK 6 5),(mV 7 1),(oP 8 (.callF 212 [(.t 4),(.t 6),(.t 7)]))])
theorem F170:FI 170 2 9 4 [] c170:=mkF Tryz.f170 Tryz.func170
def c212:RC :=
 (.seq (.ops [(oH 6 20)])
 (.seq (.ops [(mV 10 6),(oH 7 0),(mV 8 10)])
 (.seq (.block 0
 (.loop
 (.seq (.seq (.ops [(mV 11 8),(mV 12 1),(oI 13 .leq 11 12)])
 (.cond (.t 13)
 .skip
 (.exit 0)))
 (.block 1
 (.seq (.ops [(mV 14 0),(mV 15 7),(mV 16 8),(mV 17 2),(oP 18 (.callF 234 [(.t 14),(.t 15),(.t 16),(.t 17)]))])
 (.seq (.ops [(mV 19 8),(mV 7 19)])
 (.ops [(mV 20 8),(mV 21 6),(oI 22 .add 20 21),(mV 8 22)])))))))
 (.cut (.seq (.ops [(mV 23 0),(mV 24 7),(mV 25 1),(mV 26 2),(oP 27 (.callF 234 [(.t 23),(.t 24),(.t 25),(.t 26)]))])
 (.block 2
 (.loop
 (.seq (.seq (.ops [(mV 28 6),(mV 29 1),(oI 30 .lss 28 29)])
 (.cond (.t 30)
 .skip
 (.exit 2)))
 (.block 3
 (.seq (.ops [(mV 31 6),(oP 32 (.bin .mul (.c (.int .i64 2)) (.t 31))),(oH 7 0),(mV 8 32)])
 (.seq (.block 4
 (.loop
 (.seq (.seq (.ops [(mV 33 8),(mV 34 1),(oI 35 .leq 33 34)])
 (.cond (.t 35)
 .skip
 (.exit 4)))
 (.block 5
 (.seq (.ops [(mV 36 0),(mV 37 7),(mV 38 7),(mV 39 6),(oI 40 .add 38 39),(mV 41 8),(mV 42 2),(oP 43 (.callF 235 [(.t 36),(.t 37),(.t 40),(.t 41),(.t 42)]))])
 (.seq (.ops [(mV 44 8),(mV 7 44)])
 (.ops [(mV 45 8),(mV 46 6),(oP 47 (.bin .mul (.c (.int .i64 2)) (.t 46))),(oI 48 .add 45 47),(mV 8 48)])))))))
 (.cut (.seq (.seq (.ops [(mV 49 7),(mV 50 6),(oI 51 .add 49 50),(mV 9 51)])
 (.seq (.ops [(mV 52 9),(mV 53 1),(oI 54 .lss 52 53)])
 (.cond (.t 54)
 (.ops [(mV 55 0),(mV 56 7),(mV 57 9),(mV 58 1),(mV 59 2),(oP 60 (.callF 235 [(.t 55),(.t 56),(.t 57),(.t 58),(.t 59)]))])
 .skip)))
 (.ops [(mV 61 6),(oJ 62 .mul 61 2),(mV 6 62)]))))))))))))))
theorem F212:FI 212 3 63 7 [] c212:=mkF Tryz.f212 Tryz.func212
def c234:RC :=
 (.seq (.ops [(mV 10 1),(oJ 11 .add 10 1),(mV 8 11)])
 (.block 0
 (.loop
 (.seq (.seq (.ops [(mV 12 8),(mV 13 2),(oI 14 .lss 12 13)])
 (.cond (.t 14)
 .skip
 (.exit 0)))
 (.seq (.block 1
 (.seq (.ops [(mV 17 8),(mV 9 17)])
 (.block 2
 (.loop
 (.seq (.seq (.draw [((mV 18 9),0),((mV 19 1),0),((oI 20 .gtr 18 19),0),((mV 21 20),0),((oE 22 21 true 3),0),((oE 23 21 true 0),0),((oE 24 21 true 9),0),((oG 25 21 true (.indexAddrL 22 (.t 23) (.t 24))),0),((oG 26 21 true (.load true 22 (.t 25))),1),((oE 27 21 true 0),0),((oE 28 21 true 9),0),((oG 29 21 true (.bin .sub (.t 28) (.c (.int .i64 1)))),0),((oG 30 21 true (.indexAddrL 22 (.t 27) (.t 29))),0),((oG 31 21 true (.load true 22 (.t 30))),1),((oG 32 21 true (.callV (.t 22) [(.t 26),(.t 31)])),2),((oG 33 21 true (.bin .lss (.t 32) (.c (.int .i64 0)))),0),((oN 34 21 33),0)])
 (.cond (.t 34)
 .skip
 (.exit 2)))
 (.seq (.block 3
 (.draw [((mV 37 0),0),((mV 38 9),0),((mV 39 0),0),((mV 40 9),0),((oJ 41 .sub 40 1),0),((mV 42 0),0),((mV 43 9),0),((oJ 44 .sub 43 1),0),((oS 45 22 42 44),0),((oB 46 22 45),1),((mV 47 0),0),((mV 48 9),0),((oS 49 22 47 48),0),((oB 50 22 49),1),((oS 51 22 37 38),0),((oT 22 51 46),3),((oS 52 22 39 41),0),((oT 22 52 50),2)]))
 (.ops [(mV 35 9),(oJ 36 .sub 35 1),(mV 9 36)])))))))
 (.cut (.ops [(mV 15 8),(oJ 16 .add 15 1),(mV 8 16)])))))))
theorem F234:FI 234 4 53 6 [] c234:=mkF Tryz.f234 Tryz.func234
def c172:RC :=
 (.seq (.ops [(oH 4 0)])
 (.seq (.ops [(mV 7 0),(oV 8 213 7),(mV 5 8)])
 (.seq (.ops [(mV 9 1),(oV 10 213 9),(mV 6 10)])
 (.seq (.seq (.ops [(mV 11 5)])
 (.cond (.t 11)
 (.seq (.seq (.ops [(mV 12 6)])
 (.cond (.t 12)
 (.seq (.ops [(oH 4 0)])
 .ret)
 .skip))
 (.seq (.ops [(oP 4 (.mv (.c (.int .i64 (-1)))))])
 .ret))
 .skip))
 (.seq (.seq (.ops [(mV 13 6)])
 (.cond (.t 13)
 (.seq (.ops [(oH 4 1)])
 .ret)
 .skip))
 (.seq (.seq (.ops [(mV 14 0),(mV 15 1),(oI 16 .lss 14 15)])
 (.cond (.t 16)
 (.seq (.ops [(oP 4 (.mv (.c (.int .i64 (-1)))))])
 .ret)
 .skip))
 (.seq (.seq (.ops [(mV 17 0),(mV 18 1),(oI 19 .gtr 17 18)])
 (.cond (.t 19)
 (.seq (.ops [(oH 4 1)])
 .ret)
 .skip))
 (.seq (.ops [(oH 4 0)])
 .ret))))))))
theorem F172:FI 172 2 20 5 [.tmp 4] c172:=mkF Tryz.f172 Tryz.func172
def c213:RC :=
 (.seq (.ops [(oP 2 (.mv (.c (.bool false))))])
 (.seq (.ops [(mV 3 0),(mV 4 0),(oI 5 .neq 3 4),(mV 2 5)])
 .ret))
theorem F213:FI 213 1 6 3 [.tmp 2] c213:=mkF Tryz.f213 Tryz.func213
def c110:RC :=
 (.seq (.ops [(oP 2 (.box 46 (.t 0))),(oP 4 (.alloc 38 zRm))])
 (.seq (.ops [(oB 7 3 2),(mV 8 1),(oJ 9 .mul 8 8),(oP 10 (.callF 102 [(.t 7),(.t 9),(.c (.int .i64 1))])),(oP 5 (.alloc 187 [(.str []),(.int .i64 0)])),(oT 2 5 10)])
 (.seq (.seq (.ops [(oC 11 1 5),(oA 12 11),(oJ 13 .neq 12 0)])
 (.cond (.t 13)
 (.seq (.ops [(oP 14 (.build zRm [(21,1,(.c (.int .i64 8)))])),(oT 22 4 14)])
 .ret)
 .skip))
 (.seq (.ops [(oC 15 0 5),(oA 16 15),(oV 17 18 16),(oP 6 (.alloc 38 zRm)),(oT 22 6 17)])
 (.seq (.seq (.draw [((oC 18 21 6),0),((oA 19 18),1),((oJ 20 .neq 19 0),0),((mV 21 20),0),((oF 22 21 false 0 6),0),((oF 23 21 false 20 22),0),((oD 24 21 false 23),1),((oG 25 21 false (.load true 3 (.t 2))),1),((oG 26 21 false (.callF 75 [(.t 25)])),4),((oG 27 21 false (.bin .gtr (.t 24) (.t 26))),0),((oM 28 21 27),0)])
 (.cond (.t 28)
 (.seq (.ops [(oP 29 (.build zRm [(21,1,(.c (.int .i64 8)))])),(oT 22 4 29)])
 .ret)
 .skip))
 (.seq (.ops [(oB 30 22 6),(oT 22 4 30)])
 .ret))))))
theorem F110:FI 110 2 31 6 [.cell 4 38] c110:=mkF Tryz.f110 Tryz.func110
def c49:RC :=
 (.seq (.ops [(oP 4 (.mv (.c (.bool false))))])
 (.seq (.seq (.ops [(mV 6 0),(oK 7 6),(mV 8 1),(oK 9 8),(oI 10 .neq 7 9)])
 (.cond (.t 10)
 (.seq (.ops [(oP 4 (.mv (.c (.bool false))))])
 .ret)
 .skip))
 (.seq (.seq (.ops [(oH 5 0)])
 (.block 0
 (.loop
 (.seq (.seq (.ops [(mV 11 5),(mV 12 0),(oK 13 12),(oI 14 .lss 11 13)])
 (.cond (.t 14)
 .skip
 (.exit 0)))
 (.seq (.block 1
 (.seq (.draw [((mV 17 0),0),((mV 18 5),0),((oS 19 21 17 18),0),((oB 20 21 19),1),((mV 21 1),0),((mV 22 5),0),((oS 23 21 21 22),0),((oB 24 21 23),1),((oP 25 (.cmp true 27 (.t 20) (.t 24))),0)])
 (.cond (.t 25)
 (.seq (.ops [(oP 4 (.mv (.c (.bool false))))])
 .ret)
 .skip)))
 (.ops [(mV 15 5),(oJ 16 .add 15 1),(mV 5 16)]))))))
 (.cut (.seq (.ops [(oP 4 (.mv (.c (.bool true))))])
 .ret)))))
theorem F49:FI 49 2 26 5 [.tmp 4] c49:=mkF Tryz.f49 Tryz.func49
abbrev tText:Nat:=33
abbrev z0d:Nat:=38
section
variable {n:Nat}{h:zaa}
def z3w (r:Rt):AV:=if zdz r then .agg [.str (recL r),i64 0] else .agg [.str [],i64 2]
def zv8 (s:Str):AV:=if s.length=64 ∧ zdz (q5 s)=true ∧ recL (q5 s)=s then .agg ((q5 s).cells++[i64 0]) else .agg (Rt.zero.cells++[i64 8])
theorem zek {L:LT}{h:zaa}{k b t N f:Nat}{el:Option TypeId}{cs:List AV}(hk:lk L k=some (.ptr b 0 0)) (ht:(ti Tryz.prog t).map (fun d=>(zba d.desc,d.size))=some (true,N)) (hN:cs.length=N) (hb:h[b]?=some (.cells 0 el cs f)):zbv Tryz.prog L h [.cell k t]=some [.agg cs]:=by
 simp only [zbv,hk,zbl ht hN hb]
theorem z0e (r:Rt) {j:Nat}(hj:j<16):r.cells[3+j]?=some (u8 (r.sum.list[j]'(hj))):=by
 have e:(r.cells.drop 3).take 16=r.sum.list.map u8:=rfl
 have:((r.cells.drop 3).take 16)[j]?=some (u8 (r.sum.list[j]'(hj))):=by
  rw [e,List.getElem?_map,List.getElem?_eq_getElem (h:=show j<r.sum.list.length from hj)]
  rfl
 rw [List.getElem?_take_of_lt hj,List.getElem?_drop] at this
 exact this
set_option maxRecDepth 100000 in
theorem zn7 {m:Nat}(r:Rt) (z:AB) {Q:Ex → LS → Prop}{st:LS}
  (hst:LS.sub ⟨[(1,.ptr 0 0 0),(2,.ptr 1 0 0),(3,.str []),(4,i64 0)],[za9 r,z],[]⟩ st)
  (hE:∀ Lt,subL [(1,.ptr 0 0 0),(2,.ptr 1 0 0),(3,.str r.sum.list)] Lt → Q (.exit 0) ⟨Lt,[za9 r,z],[]⟩) :
  OkR Tryz.prog (C m) cfg0.inl KK 57 6 (.loop (c16.lp 0)) st Q:=by
 have ls:r.sum.list.length=16:=rfl
 refine za1 (by decide) rfl (α:=Nat) (fun j=>⟨[(1,.ptr 0 0 0),(2,.ptr 1 0 0),(3,.str (r.sum.list.take j)),(4,i64 j)],[za9 r,z],[]⟩) (fun j=>j ≤ 16) (fun j=>16-j) 0 hst (by decide) (by decide) ?_
 intro j hj
 conv=>whnf
 refine brd (fun a=>?_) (fun a=>?_)
 ·have hj16:j<16:=by omega
  conv=>whnf
  refine ⟨by omega,by omega,?_⟩
  conv=>whnf
  refine ldI rfl ?_
  refine zdd (v:=u8 (r.sum.list[j]'(hj16))) (by show r.cells[0+1+2+((j:Nat):Int).toNat*1]?=_;rw [Int.toNat_natCast,Nat.mul_one];exact z0e r hj16) ?_
  conv=>whnf
  refine ⟨rfl,?_⟩
  conv=>whnf
  refine ⟨_,[r.sum.list[j]'(hj16)],zj2 _ [r.sum.list[j]'(hj16)] true,zb3 _,?_⟩
  conv=>whnf
  refine ⟨by simp;omega,?_⟩
  conv=>whnf
  refine zJ j ?_
  exact nxI (j+1) hj16 (by omega) ⟨⟨rfl,rfl,by rw [List.take_succ_eq_append_getElem (by omega:j<r.sum.list.length)];rfl,rfl⟩,rfl,rfl⟩
 ·have:j=16:=by omega
  subst this
  conv=>whnf
  exact hE _ ⟨rfl,rfl,rfl⟩
set_option maxRecDepth 100000 in
theorem ztl (hn:5 ≤ n) (r:Rt):C n 16 [r.av] h=some (.ret (z3w r),h):=by
 obtain ⟨m,rfl⟩:=pre1 n
 refine zak F16 rfl rfl rfl rfl ?_
 have ck:=fun h:zaa=>z0t (n:=m) (by omega) (h:=h) r
 have cN:∀ (k:Int) (w:Nat) (h:zaa),0 ≤ k → k<9223372036854775808 → w ≤ 8 → C m 61 [i64 k,i64 w] h=some (.ret (.str (num k.toNat w)),h):=fun k w h h1 h2 h3=>by
  have:=zof (n:=m) (h:=h) (by omega) k.toNat w h3 (by omega)
  rwa [show ((k.toNat:Nat):Int)=k by omega] at this
 unfold z3w
 cases ok:zdz r with
 | false =>
  rw [ok] at ck
  conv=>whnf
  refine ldI rfl ?_
  conv=>whnf
  refine clI (ck _) ?_
  conv=>whnf
  refine stJ (by rfl) ?_
  exact ⟨rfl,_,zek (el:=some tText) (f:=0) (cs:=[.str [],i64 2]) (N:=2) (b:=1) rfl (by kernel_rfl) rfl rfl,rfl⟩
 | true =>
  rw [ok] at ck
  obtain ⟨v0,v1,v2,v3,v4⟩:=zoa ok
  have big:r.ver ≤ 1099511627776 ∧ r.root<4294967296 ∧ r.count<4294967296 ∧ r.list<4294967296 ∧ r.pages<4294967296:=by
   have h:=ok
   unfold zdz zhe zfj at h
   simp only [Bool.and_eq_true,Bool.or_eq_true,decide_eq_true_eq,beq_iff_eq] at h
   omega
  conv=>whnf
  refine ldI rfl ?_
  conv=>whnf
  refine clI (ck _) ?_
  conv=>whnf
  refine zn7 r _ ⟨⟨rfl,rfl,rfl,rfl⟩,rfl,rfl⟩ (fun L hL=>?_)
  conv=>whnf
  refine cutI (by decide) rfl (t:=⟨[(1,.ptr 0 0 0),(2,.ptr 1 0 0),(3,.str r.sum.list)],_,[]⟩) ⟨hL,rfl,rfl⟩ ?_
  have nl:∀ (k:Int) (w:Nat),(num k.toNat w).length=w:=fun k w=>zal _ _
  have ls:r.sum.list.length=16:=rfl
  have lb:=zje r
  have lz:(zaw 20).length=20:=zay 20
  have hb:(((((([82]++num r.ver.toNat 6)++num r.root.toNat 4)++num r.count.toNat 4)++r.sum.list)++num r.list.toNat 4)++num r.pages.toNat 4)++zaw 20=zcv r:=by
   unfold zcv;simp [List.append_assoc]
  have hL:((zcv r++num (crc (zcv r)).toNat 4)++[82])=recL r:=by unfold recL;simp [List.append_assoc]
  conv=>whnf
  refine ldI rfl ?_
  conv=>whnf
  refine clI (cN r.ver 6 _ (by omega) (by omega) (by omega)) ?_
  conv=>whnf
  refine ⟨by simp only [List.length_append,nl,ls];decide,?_⟩
  conv=>whnf
  refine ldI rfl ?_
  conv=>whnf
  refine clI (cN r.root 4 _ (by omega) (by omega) (by omega)) ?_
  conv=>whnf
  refine ⟨by simp only [List.length_append,nl,ls];decide,?_⟩
  conv=>whnf
  refine ldI rfl ?_
  conv=>whnf
  refine clI (cN r.count 4 _ (by omega) (by omega) (by omega)) ?_
  conv=>whnf
  refine ⟨by simp only [List.length_append,nl,ls];decide,?_⟩
  conv=>whnf
  refine ⟨by simp only [List.length_append,nl,ls];decide,?_⟩
  conv=>whnf
  refine ldI rfl ?_
  conv=>whnf
  refine clI (cN r.list 4 _ (by omega) (by omega) (by omega)) ?_
  conv=>whnf
  refine ⟨by simp only [List.length_append,nl,ls];decide,?_⟩
  conv=>whnf
  refine ldI rfl ?_
  conv=>whnf
  refine clI (cN r.pages 4 _ (by omega) (by omega) (by omega)) ?_
  conv=>whnf
  refine ⟨by simp only [List.length_append,nl,ls];decide,?_⟩
  conv=>whnf
  refine clI (zs6 (by omega)) ?_
  conv=>whnf
  refine ⟨by simp only [List.length_append,nl,ls,lz];decide,?_⟩
  rw [hb]
  generalize zcv r=B at lb hL ⊢
  conv=>whnf
  refine clI (z4h (by omega) _ (by omega)) ?_
  conv=>whnf
  refine zI (z:=((crc B).toNat:Int)) (by have:=(crc B).toNat_lt;exact zae (by omega) (by omega)) ?_
  conv=>whnf
  refine clI (cN _ 4 _ (by omega) (by have:=(crc B).toNat_lt;omega) (by omega)) ?_
  conv=>whnf
  refine ⟨by rw [zal,lb];decide,?_⟩
  conv=>whnf
  refine ⟨by rw [List.length_append,zal,lb];decide,?_⟩
  rw [Int.toNat_natCast,hL]
  conv=>whnf
  refine stJ (xs:=[.str (recL r),i64 0]) (by rfl) ?_
  exact ⟨rfl,_,zek (el:=some tText) (f:=0) (cs:=[.str (recL r),i64 0]) (N:=2) (b:=1) rfl (by kernel_rfl) rfl rfl,rfl⟩
def q0 (s:Str):Rt:=⟨part s 1 6,part s 7 4,part s 11 4,Dg.zero,part s 31 4,part s 35 4⟩
def rS (s:Str) (j:Nat):List AV:=([i64 (part s 1 6:Nat),i64 (part s 7 4:Nat),i64 (part s 11 4:Nat)]++(((s.drop 15).take 16).take j).map u8)++(List.replicate (16-j) (u8 0)++[i64 (part s 31 4:Nat),i64 (part s 35 4:Nat)])
theorem zwl {P R:List AV}{y x:AV}{k:Nat}(hk:k=P.length):putAt (P++(y::R)) k [x]=P++(x::R):=by
 subst hk
 unfold putAt
 simp
theorem rS_len (s:Str) (hs:s.length=64) (j:Nat) (hj:j ≤ 16):(rS s j).length=21:=by
 unfold rS
 simp only [List.length_append,List.length_cons,List.length_nil,List.length_map,List.length_take,List.length_drop,List.length_replicate]
 omega
theorem z4k (s:Str) (hs:s.length=64):rS s 16=(q5 s).cells:=by
 have lt:((s.drop 15).take 16).length=16:=by simp;omega
 unfold rS
 rw [List.take_of_length_le (l:=(s.drop 15).take 16) (by omega),← zl0 lt]
 rfl
theorem z4j (s:Str) (hs:s.length=64) {j:Nat}(hj:j<16):putAt (rS s j) (3+j) [u8 (s[15+j]'(by omega))]=rS s (j+1):=by
 have lt:((s.drop 15).take 16).length=16:=by simp;omega
 have h1:16-j=(16-(j+1))+1:=by omega
 unfold rS
 rw [h1,List.replicate_succ]
 refine (zwl (P:=[i64 (part s 1 6:Nat),i64 (part s 7 4:Nat),i64 (part s 11 4:Nat)]++(((s.drop 15).take 16).take j).map u8) (y:=u8 0) (R:=List.replicate (16-(j+1)) (u8 0)++[i64 (part s 31 4:Nat),i64 (part s 35 4:Nat)]) (k:=3+j) (by simp;omega)).trans ?_
 rw [List.take_succ_eq_append_getElem (i:=j) (by omega),List.map_append]
 simp
set_option maxRecDepth 100000 in
theorem zp8 {m:Nat}(s:Str) (hs:s.length=64) (z:AB) {Q:Ex → LS → Prop}{st:LS}
  (hst:LS.sub ⟨[(0,.str s),(2,.ptr 0 0 0),(3,.ptr 1 0 0),(4,i64 0)],[z,.cells 0 (some zd5) (rS s 0) 0],[]⟩ st)
  (hE:∀ Lt,subL [(0,.str s),(2,.ptr 0 0 0),(3,.ptr 1 0 0)] Lt → Q (.exit 0) ⟨Lt,[z,za9 (q5 s)],[]⟩) :
  OkR Tryz.prog (C m) cfg0.inl KK 53 6 (.loop (c18.lp 0)) st Q:=by
 refine za1 (by decide) rfl (α:=Nat) (fun j=>⟨[(0,.str s),(2,.ptr 0 0 0),(3,.ptr 1 0 0),(4,i64 j)],[z,.cells 0 (some zd5) (rS s j) 0],[]⟩) (fun j=>j ≤ 16) (fun j=>16-j) 0 hst (by decide) (by decide) ?_
 intro j hj
 have lr:=rS_len s hs j hj
 conv=>whnf
 refine brd (fun a=>?_) (fun a=>?_)
 ·have hj16:j<16:=by omega
  conv=>whnf
  refine zI (z:=((15+j:Nat):Int)) (by rw [zae (by omega) (by omega)];omega) ?_
  conv=>whnf
  refine strI (b:=s[15+j]'(by omega)) (by omega) (by rw [Int.toNat_natCast];exact List.getElem?_eq_getElem (by omega)) ?_
  conv=>whnf
  refine ⟨by omega,by omega,?_⟩
  conv=>whnf
  refine stI (cs:=rS s j) (xs:=[u8 (s[15+j]'(by omega))]) (by rfl) (by rfl) (by rfl) (by rw [Nat.ble_eq,lr];show 0+1+2+((j:Nat):Int).toNat*1+1 ≤ 21;omega) (by rfl) ?_
  conv=>whnf
  refine zJ j ?_
  refine nxI (j+1) hj16 (by omega) ⟨⟨rfl,rfl,rfl,rfl⟩,?_,rfl⟩
  show [z,AB.cells 0 (some zd5) (putAt (rS s j) (0+1+2+((j:Nat):Int).toNat*1) [u8 (s[15+j]'(by omega))]) 0]=_
  rw [show 0+1+2+((j:Nat):Int).toNat*1=3+j by omega,z4j s hs hj16]
 ·have:j=16:=by omega
  subst this
  rw [z4k s hs]
  conv=>whnf
  exact hE _ ⟨rfl,rfl,rfl⟩
set_option maxRecDepth 100000 in
theorem zn8 (hn:6 ≤ n) (s:Str) (hl:s.length<1099511627776):C n 18 [.str s] h=some (.ret (zv8 s),h):=by
 obtain ⟨m,rfl⟩:=pre1 n
 refine zak F18 rfl rfl rfl rfl ?_
 by_cases hs:s.length=64
 ·have cv:∀ (h:zaa) (a w:Nat),w ≤ 6 → C m 66 [.str ((s.take (a+w)).drop a)] h=some (.ret (i64 (part s a w)),h):=fun h a w hw=>by
   have:=zzv (n:=m) (h:=h) (by omega) ((s.take (a+w)).drop a) (by simp;omega)
   rwa [show zag ((s.take (a+w)).drop a)=part s a w by unfold part;rw [List.drop_take,Nat.add_sub_cancel_left]] at this
  conv=>whnf
  refine brq (fun a=>absurd hs (by omega)) (fun _=>?_)
  conv=>whnf
  refine zht (c:=1) (d:=7) (by omega) (by omega) ?_
  conv=>whnf
  refine clI (cv _ 1 6 (by omega)) ?_
  conv=>whnf
  refine zht (c:=7) (d:=11) (by omega) (by omega) ?_
  conv=>whnf
  refine clI (cv _ 7 4 (by omega)) ?_
  conv=>whnf
  refine zht (c:=11) (d:=15) (by omega) (by omega) ?_
  conv=>whnf
  refine clI (cv _ 11 4 (by omega)) ?_
  conv=>whnf
  refine zht (c:=31) (d:=35) (by omega) (by omega) ?_
  conv=>whnf
  refine clI (cv _ 31 4 (by omega)) ?_
  conv=>whnf
  refine zht (c:=35) (d:=39) (by omega) (by omega) ?_
  conv=>whnf
  refine clI (cv _ 35 4 (by omega)) ?_
  conv=>whnf
  refine ⟨?_,?_⟩
  ·conv=>whnf
   refine ⟨?_,?_⟩
   ·conv=>whnf
    exact zht (c:=35) (d:=39) (by omega) (by omega) rfl
   conv=>whnf
   refine ⟨?_,?_⟩
   ·conv=>whnf
    exact zht (c:=31) (d:=35) (by omega) (by omega) rfl
   conv=>whnf
   refine ⟨?_,?_⟩
   ·conv=>whnf
    exact zht (c:=11) (d:=15) (by omega) (by omega) rfl
   conv=>whnf
   refine ⟨?_,?_⟩
   ·conv=>whnf
    exact zht (c:=7) (d:=11) (by omega) (by omega) rfl
   conv=>whnf
   exact zht (c:=1) (d:=7) (by omega) (by omega) rfl
  conv=>whnf
  refine stJ (by rfl) ?_
  conv=>whnf
  refine zp8 s hs _ ⟨⟨rfl,rfl,rfl,rfl⟩,rfl,rfl⟩ (fun L hL=>?_)
  conv=>whnf
  refine cutI (by decide) rfl (t:=⟨[(0,.str s),(2,.ptr 0 0 0),(3,.ptr 1 0 0)],_,[]⟩) ⟨hL,rfl,rfl⟩ ?_
  conv=>whnf
  refine ldI rfl ?_
  conv=>whnf
  have rr:=fun h:zaa=>ztl (n:=m) (by omega) (h:=h) (q5 s)
  unfold z3w at rr
  unfold zv8
  generalize q5 s=q at rr ⊢
  cases ok:zdz q with
  | false =>
   rw [ok] at rr
   rw [if_neg (by simp)]
   refine clI (rr _) ?_
   conv=>whnf
   refine stJ (by rfl) ?_
   conv=>whnf
   refine ldI rfl ?_
   conv=>whnf
   refine stJ (by rfl) ?_
   exact ⟨rfl,_,zek (el:=some z0d) (f:=0) (cs:=Rt.zero.cells++[i64 8]) (N:=22) (b:=0) rfl (by kernel_rfl) rfl rfl,rfl⟩
  | true =>
   rw [ok] at rr
   generalize recL q=Y at rr ⊢
   by_cases e:Y=s
   ·rw [if_pos ⟨hs,rfl,e⟩]
    refine clI (rr _) ?_
    conv=>whnf
    refine stJ (by rfl) ?_
    conv=>whnf
    refine ldI rfl ?_
    conv=>whnf
    refine ldI rfl ?_
    conv=>whnf
    refine brq (fun k=>absurd e k) (fun _=>?_)
    conv=>whnf
    refine ldI rfl ?_
    conv=>whnf
    refine stJ (by rfl) ?_
    exact ⟨rfl,_,zek (el:=some z0d) (f:=0) (cs:=q.cells++[i64 0]) (N:=22) (b:=0) rfl (by kernel_rfl) rfl rfl,rfl⟩
   ·rw [if_neg (fun h=>e h.2.2)]
    refine clI (rr _) ?_
    conv=>whnf
    refine stJ (by rfl) ?_
    conv=>whnf
    refine ldI rfl ?_
    conv=>whnf
    refine ldI rfl ?_
    conv=>whnf
    refine brq (fun _=>?_) (fun k=>absurd k e)
    conv=>whnf
    refine stJ (by rfl) ?_
    exact ⟨rfl,_,zek (el:=some z0d) (f:=0) (cs:=Rt.zero.cells++[i64 8]) (N:=22) (b:=0) rfl (by kernel_rfl) rfl rfl,rfl⟩
 ·unfold zv8
  rw [if_neg (fun h=>hs h.1)]
  conv=>whnf
  refine brq (fun _=>?_) (fun a=>absurd a (by omega))
  conv=>whnf
  refine stJ (by rfl) ?_
  exact ⟨rfl,_,zek (el:=some z0d) (f:=0) (cs:=Rt.zero.cells++[i64 8]) (N:=22) (b:=0) rfl (by kernel_rfl) rfl rfl,rfl⟩
end
theorem zpc (r:Rt):eqA Tryz.prog 20 zd5 (.agg r.cells) (.agg r.cells)=some true:=by
 have e1:eqA Tryz.prog 20 zd5 (.agg r.cells) (.agg r.cells)=zdb (eqA Tryz.prog 19) [(3,i64 r.ver,i64 r.ver),(25,.agg (i64 r.root::i64 r.count::r.sum.cells),.agg (i64 r.root::i64 r.count::r.sum.cells)),(3,i64 r.list,i64 r.list),(3,i64 r.pages,i64 r.pages)]:=by kernel_rfl
 have e2:∀ (a b:Int),eqA Tryz.prog 19 3 (i64 a) (i64 b)=some (a==b):=fun a b=>by kernel_rfl
 have e2':∀ (a b:Int),eqA Tryz.prog 18 3 (i64 a) (i64 b)=some (a==b):=fun a b=>by kernel_rfl
 have e3:eqA Tryz.prog 19 25 (.agg (i64 r.root::i64 r.count::r.sum.cells)) (.agg (i64 r.root::i64 r.count::r.sum.cells))=zdb (eqA Tryz.prog 18) [(3,i64 r.root,i64 r.root),(3,i64 r.count,i64 r.count),(23,.agg r.sum.cells,.agg r.sum.cells)]:=by kernel_rfl
 have e4:eqA Tryz.prog 18 23 (.agg r.sum.cells) (.agg r.sum.cells)=zdb (eqA Tryz.prog 17) (zipE 5 (r.sum.list.map u8) (r.sum.list.map u8)):=by kernel_rfl
 have e5:∀ (x y:UInt8),eqA Tryz.prog 17 5 (.int .u8 x.toNat) (.int .u8 y.toNat)=some (((x.toNat:Nat):Int)==y.toNat):=fun x y=>by kernel_rfl
 rw [zex (fun x y=>by rw [e5,zqr]) r.sum.list r.sum.list rfl] at e4
 rw [e1]
 simp [zdb,e2,e3,e2',e4]
section
variable {n:Nat}{h:zaa}
end
def VBuf (el:TypeId) (sz:Nat) (hp:zaa) (L:AV) (rows:List (List AV)):Prop :=
 (∀ r∈rows,r.length=sz ∧ r.all AV.scal=true) ∧ ((L=.lst 0 [] true ∧ rows=[]) ∨ (∃ eb ver frz,L=.sl sz eb ver 0 rows.length ∧ hp[eb]?=some (.cells ver (some el) rows.flatten frz) ∧ frz ≤ rows.flatten.length))
theorem VBuf.nil {el sz:Nat}{hp:zaa}:VBuf el sz hp (.lst 0 [] true) []:=⟨by simp,.inl ⟨rfl,rfl⟩⟩
theorem VBuf.scal {el sz:Nat}{hp:zaa}{L:AV}{rows:List (List AV)}(b:VBuf el sz hp L rows):L.scal=true ∧ L.cells?=some [L]:=by
 rcases b.2 with ⟨rfl,_⟩ | ⟨eb,ver,frz,rfl,_⟩<;>exact ⟨rfl,rfl⟩
theorem VBuf.grow {el sz:Nat}{hp:zaa}{L:AV}{rows:List (List AV)}(b:VBuf el sz hp L rows) (xs:zaa):VBuf el sz (hp++xs) L rows:=by
 refine ⟨b.1,?_⟩
 rcases b.2 with h | ⟨eb,ver,frz,h1,h2,h3⟩
 ·exact .inl h
 ·exact .inr ⟨eb,ver,frz,h1,by rw [List.getElem?_append_left (zab h2)];exact h2,h3⟩
theorem VBuf.set {el sz:Nat}{hp:zaa}{L:AV}{rows:List (List AV)}(b:VBuf el sz hp L rows) {k:Nat}(x:AB) (hk:∀ eb ver,L≠.sl sz eb ver 0 rows.length ∨ eb≠k):VBuf el sz (hp.set k x) L rows:=by
 refine ⟨b.1,?_⟩
 rcases b.2 with h | ⟨eb,ver,frz,h1,h2,h3⟩
 ·exact .inl h
 ·refine .inr ⟨eb,ver,frz,h1,?_,h3⟩
  rcases hk eb ver with q | q
  ·exact (q h1).elim
  ·rw [List.getElem?_set_ne (Ne.symm q)];exact h2
theorem VBuf.fresh {el sz:Nat}{hp:zaa}{L:AV}{rows:List (List AV)}(b:VBuf el sz hp L rows) {k:Nat}(x:AB) (hk:hp.length ≤ k) (xs:zaa):VBuf el sz ((hp++xs).set k x) L rows:=by
 refine ⟨b.1,?_⟩
 rcases b.2 with h | ⟨eb,ver,frz,h1,h2,h3⟩
 ·exact .inl h
 ·refine .inr ⟨eb,ver,frz,h1,?_,h3⟩
  have:=zab h2
  rw [List.getElem?_set_ne (by omega),List.getElem?_append_left this];exact h2
theorem zcp:∀ xs:List AV,(xs.map fun x=>[x]).flatten=xs
 | []=>rfl
 | a::r=>by simp [zcp r]
theorem zzu {el:TypeId}{hp:zaa}{L:AV}{xs:List AV}{n:Nat}(b:VBuf el 1 hp L (xs.map fun x=>[x])) (hx:∀ x∈xs,Abs.frz hp n x=some x):∃ sh:Sh,Abs.frz hp (n+1) L=some (.lst sh.sz xs sh.c) ∧ (xs≠[] → sh.sz=1):=by
 rcases b.2 with ⟨rfl,h2⟩ | ⟨eb,ver,frz,rfl,h2,_⟩
 ·have:xs=[]:=by simpa using h2
  subst this
  exact ⟨⟨0,true⟩,rfl,fun h=>(h rfl).elim⟩
 ·refine ⟨⟨1,false⟩,?_,fun _=>rfl⟩
  rw [zcp] at h2
  unfold Abs.frz
  simp only [h2,List.length_map]
  rw [if_pos ⟨trivial,by omega⟩]
  have h1:(xs.drop 0).take (xs.length*1)=xs:=by rw [List.drop_zero];exact List.take_of_length_le (by omega)
  rw [h1,zda hx]
  simp only
  have hs:xs.all AV.scal=true:=by
   rw [List.all_eq_true]
   intro x hm
   have:=(b.1 [x] (List.mem_map.2 ⟨x,hm,rfl⟩)).2
   simpa using this
  rw [if_pos hs]
  rfl
theorem zvn {el sz:Nat}(hz:sz≠1) {hp:zaa}{L:AV}{rows rows':List (List AV)}{n:Nat}(b:VBuf el sz hp L rows) (ha:allM (Abs.frz hp n) rows.flatten=some rows'.flatten) (hr':∀ r∈rows',r.length=sz ∧ r.all AV.scal=true) (hl:rows'.length=rows.length):∃ sh:Sh,Abs.frz hp (n+1) L=some (.lst sh.sz (rows'.map .agg) sh.c) ∧ (rows'≠[] → sh.sz=sz):=by
 rcases b.2 with ⟨rfl,h2⟩ | ⟨eb,ver,frz,rfl,h2,_⟩
 ·have:rows'=[]:=by
   rw [h2] at hl
   simpa using hl
  subst this
  exact ⟨⟨0,true⟩,rfl,fun h=>(h rfl).elim⟩
 ·exact ⟨⟨sz,false⟩,zsi hz h2 (fun r hm=>(b.1 r hm).1) ha hr' hl,fun _=>rfl⟩
abbrev tRtd:Nat:=38
theorem rt_ld {h:zaa}{b:Nat}{cs:List AV}(hl:cs.length=21) (hb:h[b]?=some (.cells 0 (some zd5) cs 0)):zbp Tryz.prog h zd5 (.ptr b 0 0)=some (.agg cs):=zbl (N:=21) (by kernel_rfl) hl hb
theorem zrw {h:zaa}{b:Nat}{cs:List AV}(hl:cs.length=22) (hb:h[b]?=some (.cells 0 (some tRtd) cs 0)):zbp Tryz.prog h tRtd (.ptr b 0 0)=some (.agg cs):=zbl (N:=22) (by kernel_rfl) hl hb
theorem zrx {L:LT}{h:zaa}{a c b:Nat}{cs:List AV}{k:Int}(h4:lk L a=some (.ptr b 0 0)) (h5:lk L c=some (i64 k)) (hP:h[b]?=some (.cells 0 (some zd5) cs 0)) (hc:cs.length=21):zbv Tryz.prog L h [.cell a zd5,.tmp c]=some [.agg cs,i64 k]:=by
 simp only [zbv,h4,h5,rt_ld hc hP]
def Rt.cellsE (r:Rt) (e:Int):List AV:=r.cells++[i64 e]
abbrev zRtB:AB:=.cells 0 (some zd5) Rt.zero.cells 0
section
variable {n m:Nat}{d:Dk}{hp:zaa}{w s:Nat}
theorem rt_frz (h:zaa) (r:Rt) (e:Int):Abs.frz h 64 (.agg (r.cellsE e))=some (.agg (r.cellsE e)):=rfl
theorem zs8 (hm:6 ≤ m) (ok:d.Ok) (hr:zan d=true) (hs:s<zaq d) (hw:hp[w]?=some (wriC d)) (hc:zbc d (s*8) 1=false) :
  ∃ v h',C (m+1) 108 [.ptr w 0 0,i64 s] hp=some (.ret v,h') ∧ v=.tup [Rt.zero.av,i64 8] ∧ Keep hp h' []:=by
 have lw:=zab hw
 have hz:=(rightD_iff.1 hr).1
 have hn8:s*8+1 ≤ d.secs.length:=by unfold zaq at hs;omega
 refine zcc F108 rfl rfl ?_
 conv=>whnf
 refine ldI (za8 hw) ?_
 conv=>whnf
 refine zI (z:=((s*8:Nat):Int)) (by rw [zae (by omega) (by omega)];omega) ?_
 conv=>whnf
 have cR:=fun h=>zis (n:=m) (h:=h) (by omega) d ok hr (s*8) 1 (by omega) (by omega) hn8
 unfold zg7 at cR
 rw [hc] at cR
 refine clI (cR _) ?_
 conv=>whnf
 refine stJ (xs:=Rt.zero.cells) (zad _ _) ?_
 exact ⟨rfl,_,zrx rfl rfl (zaf _ _ _) rfl,rfl,(Keep.app hp _ []).set' (.inr (Nat.le_refl _))⟩
theorem znp (hm:10 ≤ m) (ok:d.Ok) (hr:zan d=true) (hs:s<zaq d) (hw:hp[w]?=some (wriC d)) (hc:zbc d (s*8) 1=true) {q:Rt}{k:Int}(cD:∀ h,C m 17 [.str (zby d (s*8) 1)] h=some (.ret (.tup [q.av,i64 k]),h)) {V:AV}(hV:V=if k=0 ∧ q.pages ≤ zaq d then .tup [q.av,i64 0] else .tup [Rt.zero.av,i64 8]) :
  ∃ v h',C (m+1) 108 [.ptr w 0 0,i64 s] hp=some (.ret v,h') ∧ v=V ∧ Keep hp h' []:=by
 have lw:=zab hw
 have hz:=(rightD_iff.1 hr).1
 have hn8:s*8+1 ≤ d.secs.length:=by unfold zaq at hs;omega
 refine zcc F108 rfl rfl ?_
 conv=>whnf
 refine ldI (za8 hw) ?_
 conv=>whnf
 refine zI (z:=((s*8:Nat):Int)) (by rw [zae (by omega) (by omega)];omega) ?_
 conv=>whnf
 have cR:=fun h=>zis (n:=m) (h:=h) (by omega) d ok hr (s*8) 1 (by omega) (by omega) hn8
 unfold zg7 at cR
 rw [hc] at cR
 refine clI (cR _) ?_
 conv=>whnf
 refine clI (cD _) ?_
 conv=>whnf
 refine stJ (xs:=q.cells) (zad _ _) ?_
 have k1:∀ x y,Keep hp ((hp++[zRtB]++[x]).set (hp++[zRtB]).length y) []:=fun x y=>((Keep.app hp _ []).trans (Keep.app _ _ []) (by simp)).set' (.inr (by simp))
 have g1:∀ x y,((hp++[zRtB]++[x]).set (hp++[zRtB]).length y)[hp.length]?=some zRtB:=fun x y=>by
  rw [List.getElem?_set_ne (by simp),List.getElem?_append_left (by simp)];exact zad _ _
 have hw2:∀ x y,((hp++[zRtB]++[x]).set (hp++[zRtB]).length y)[w]?=some (wriC d):=fun x y=>(k1 x y).get hw (by simp)
 conv=>whnf
 refine brq (fun c1=>?_) (fun c1=>?_)
 ·rw [if_neg (fun e=>c1 e.1)] at hV
  subst hV
  conv=>whnf
  refine ⟨rfl,?_⟩
  conv=>whnf
  refine stJ (xs:=Rt.zero.cells) (g1 _ _) ?_
  exact ⟨rfl,_,zrx rfl rfl (List.getElem?_set_self (zab (g1 _ _))) rfl,rfl,(k1 _ _).set' (.inr (Nat.le_refl _))⟩
 ·conv=>whnf
  refine ldI (zaf _ _ _) ?_
  conv=>whnf
  refine clI (zha (by omega) d (hw2 _ _) (by omega)) ?_
  refine ⟨?_,?_⟩
  ·refine ldI (zaf _ _ _) ?_
   rfl
  conv=>whnf
  refine brd (fun c2=>?_) (fun c2=>?_)
  ·rw [if_neg (fun e=>by omega)] at hV
   subst hV
   conv=>whnf
   refine stJ (xs:=Rt.zero.cells) (g1 _ _) ?_
   exact ⟨rfl,_,zrx rfl rfl (List.getElem?_set_self (zab (g1 _ _))) rfl,rfl,(k1 _ _).set' (.inr (Nat.le_refl _))⟩
  ·rw [if_pos ⟨c1,by omega⟩] at hV
   subst hV
   conv=>whnf
   refine ldI (zaf _ _ _) ?_
   conv=>whnf
   refine stJ (xs:=q.cells) (g1 _ _) ?_
   exact ⟨rfl,_,zrx rfl rfl (List.getElem?_set_self (zab (g1 _ _))) rfl,rfl,(k1 _ _).set' (.inr (Nat.le_refl _))⟩
theorem ztk {h:zaa}(hm:6 ≤ m) (ok:d.Ok) (hr:zan d=true) (hs:s<zaq d) (hc:zbc d (s*8) 1=false) :
  C (m+1) 110 [d.av,i64 s] h=some (.ret (.agg (Rt.zero.cellsE 8)),h):=by
 have hz:=(rightD_iff.1 hr).1
 have hn8:s*8+1 ≤ d.secs.length:=by unfold zaq at hs;omega
 refine zak F110 rfl rfl rfl (by simp [zam,zbk,AV.pureB]) ?_
 conv=>whnf
 refine ldI rfl ?_
 conv=>whnf
 refine zI (z:=((s*8:Nat):Int)) (by rw [zae (by omega) (by omega)];omega) ?_
 conv=>whnf
 have cR:=fun h=>zry (n:=m) (h:=h) (by omega) d ok hr (s*8) 1 (by omega) hn8
 unfold zg7 at cR
 rw [hc] at cR
 refine clI (cR _) ?_
 conv=>whnf
 refine stJ (xs:=[.str [],i64 8]) (by rfl) ?_
 conv=>whnf
 refine ldI rfl ?_
 conv=>whnf
 refine stJ (xs:=Rt.zero.cellsE 8) (by rfl) ?_
 exact ⟨rfl,_,zci rfl (zrw rfl rfl),rfl⟩
theorem zn3 {h:zaa}(hm:10 ≤ m) (ok:d.Ok) (hr:zan d=true) (hs:s<zaq d) (hc:zbc d (s*8) 1=true) {b:Rt}{k:Int}(cD:∀ h,C m 18 [.str (zby d (s*8) 1)] h=some (.ret (.agg (b.cellsE k)),h)) {V:List AV}(hV:V=if k=0 ∧ b.pages ≤ zaq d then b.cellsE 0 else Rt.zero.cellsE 8) :
  C (m+1) 110 [d.av,i64 s] h=some (.ret (.agg V),h):=by
 have hz:=(rightD_iff.1 hr).1
 have hn8:s*8+1 ≤ d.secs.length:=by unfold zaq at hs;omega
 refine zak F110 rfl rfl rfl (by simp [zam,zbk,AV.pureB]) ?_
 conv=>whnf
 refine ldI rfl ?_
 conv=>whnf
 refine zI (z:=((s*8:Nat):Int)) (by rw [zae (by omega) (by omega)];omega) ?_
 conv=>whnf
 have cR:=fun h=>zry (n:=m) (h:=h) (by omega) d ok hr (s*8) 1 (by omega) hn8
 unfold zg7 at cR
 rw [hc] at cR
 refine clI (cR _) ?_
 conv=>whnf
 refine stJ (xs:=[.str (zby d (s*8) 1),i64 0]) (by rfl) ?_
 conv=>whnf
 refine ldI rfl ?_
 conv=>whnf
 refine ldI rfl ?_
 conv=>whnf
 refine clI (cD _) ?_
 conv=>whnf
 refine stJ (xs:=b.cellsE k) (by rfl) ?_
 conv=>whnf
 refine ldI rfl ?_
 conv=>whnf
 refine brq (fun c1=>?_) (fun c1=>?_)
 ·rw [if_neg (fun e=>c1 e.1)] at hV
  subst hV
  conv=>whnf
  refine stJ (xs:=Rt.zero.cellsE 8) (by rfl) ?_
  exact ⟨rfl,_,zci rfl (zrw rfl rfl),rfl⟩
 ·subst c1
  conv=>whnf
  refine ldI rfl ?_
  conv=>whnf
  refine ldI rfl ?_
  conv=>whnf
  refine clI (zv9 (by omega) d (by omega)) ?_
  conv=>whnf
  refine brd (fun c2=>?_) (fun c2=>?_)
  ·rw [if_neg (fun e=>by omega)] at hV
   subst hV
   conv=>whnf
   refine stJ (xs:=Rt.zero.cellsE 8) (by rfl) ?_
   exact ⟨rfl,_,zci rfl (zrw rfl rfl),rfl⟩
  ·rw [if_pos ⟨rfl,by omega⟩] at hV
   subst hV
   conv=>whnf
   refine ldI rfl ?_
   conv=>whnf
   refine stJ (xs:=b.cellsE 0) (by rfl) ?_
   exact ⟨rfl,_,zci rfl (zrw rfl rfl),rt_frz _ _ _⟩
theorem zwv (s:Str) (hs:s.length<1099511627776):∃ (q:Rt) (e:Int),(∀ n,6 ≤ n → ∀ h,C n 17 [.str s] h=some (.ret (.tup [q.av,i64 e]),h)) ∧ ∀ n,6 ≤ n → ∀ h,C n 18 [.str s] h=some (.ret (.agg (q.cellsE e)),h):=by
 by_cases ok:s.length=64 ∧ zdz (q5 s)=true ∧ recL (q5 s)=s
 ·refine ⟨q5 s,0,fun n hn h=>?_,fun n hn h=>?_⟩
  ·have:=zr4 (n:=n) (h:=h) (by omega) s hs
   unfold parR at this
   rwa [zva,if_pos ok] at this
  ·have:=zn8 (n:=n) (h:=h) (by omega) s hs
   unfold zv8 at this
   rwa [if_pos ok] at this
 ·refine ⟨Rt.zero,8,fun n hn h=>?_,fun n hn h=>?_⟩
  ·have:=zr4 (n:=n) (h:=h) (by omega) s hs
   unfold parR at this
   rwa [zva,if_neg ok] at this
  ·have:=zn8 (n:=n) (h:=h) (by omega) s hs
   unfold zv8 at this
   rwa [if_neg ok] at this
end
end Go.Proofs
