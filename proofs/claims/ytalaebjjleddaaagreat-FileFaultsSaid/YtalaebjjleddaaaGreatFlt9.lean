/- Texts put together: Rg, Rh, Ri, Rj, Rk, Rl, Rm, La, Ha, Ga, Tc, Td, Te. -/
import Derived.Test.YtalaebjjleddaaaGreatFlt8
import Derived.Test.YtalaebjjleddaaaGreatFlt7
set_option linter.unusedVariables false
set_option linter.unusedSimpArgs false
namespace Go.Proofs
open Go Go.Abs
def preK (pre:Str) (lv:Int) (i:Nat):Str:=if 0<i ∨ lv=0 then pre else []
def pent (pre:Str) (lv:Int) (i:Nat) (s:Str):Option (Entry × Str):=(pnum 1 s).bind fun k=>(zef k.1 k.2).bind fun t=>ze5 (preK pre lv i++t.1) lv t.2
def zev (pre:Str) (lv:Int):Nat → Nat → Str → Option (List Entry × Str)
 | 0,_,s=>some ([],s)
 | c+1,i,s=>(pent pre lv i s).bind fun e=>(zev pre lv c (i+1) e.2).map fun r=>(e.1::r.1,r.2)
section
variable {n:Nat}{hp:zaa}{b:Nat}{s:Str}
structure Clo (hp:zaa) (N R LV PF b:Nat) (k:Nat) (lv:Int) (pre:Str):Prop where
 cn:hp[N]?=some (.cells 0 (some 3) [i64 k] 0)
 cr:hp[R]?=some (.cells 0 (some 308) [.ptr b 0 0] 0)
 cl:hp[LV]?=some (.cells 0 (some 3) [i64 lv] 0)
 cp:hp[PF]?=some (.cells 0 (some 9) [.str pre] 0)
theorem Clo.stays {hp hp':zaa}{N R LV PF b:Nat}{k:Nat}{lv:Int}{pre:Str}{F:List Nat}(c:Clo hp N R LV PF b k lv pre) (h:Keep hp hp' F) (hn:N ∉ F ∧ R ∉ F ∧ LV ∉ F ∧ PF ∉ F):Clo hp' N R LV PF b k lv pre :=
 ⟨h.get c.cn hn.1,h.get c.cr hn.2.1,h.get c.cl hn.2.2.1,h.get c.cp hn.2.2.2⟩
def EntsR (hp:zaa) (b X Bk:Nat) (tree lv:Int) (top:Bool) (lp:AB) (es0:List Entry) (G:List Nat) (es:List Entry) (t:Str) (r:CRes) (h:zaa):Prop :=
 r=.ret (.tup []) ∧ RDs h b t ∧ ∃ G',XS h X Bk tree lv top lp (es0++es) G' ∧ Keep hp h (b::G) ∧ ∀ x∈G',x∈G ∨ hp.length ≤ x
theorem zqj (hn:4 ≤ n) {X Bk N R LV PF:Nat}{tree lv:Int}{top:Bool}{G:List Nat}{tms:Tm}{qs:Array Tmp}{ca cb:Code}{db:Nat}{k:Nat}{pre:Str}(x:XS hp X Bk tree lv top (.loop false tms qs ca cb db) [] G)
  (H:HasL 95 7 [(5,.ptr X 0 0)] tms) (hq:qs.toList=[43]) (hca:resC Tryz.prog cfg0.inl ca=rngB.1.erase) (hcb:resC Tryz.prog cfg0.inl cb=rngB.2.erase) (r:RDs hp b s) (c:Clo hp N R LV PF b k lv pre) (hk:k<65536) (hpre:pre.length<1073741824)
  (hbG:b ∉ G) (hcG:N ∉ G ∧ R ∉ G ∧ LV ∉ G ∧ PF ∉ G) :
  ∃ r h,C n 255 [.fn (.yield Bk) [] [],.ptr N 0 0,.ptr R 0 0,.ptr LV 0 0,.ptr PF 0 0] hp=some (r,h) ∧ zf7 (zev pre lv k 0 s) (EntsR hp b X Bk tree lv top (.loop false tms qs ca cb db) [] G) (fun h=>Keep hp h (b::G)) r h:=by
 obtain ⟨m,rfl⟩:=pre1 n
 refine zbh (n:=m) (c:=cfg0) F255 rfl rfl ?_
 conv=>whnf
 refine ldI c.cn ?_
 conv=>whnf
 have hbl:=r.lt
 have hBk:Bk≠b:=by
  rintro rfl
  obtain ⟨all,a,q,_⟩:=r
  rw [x.loop] at q;cases q
 have cb':N≠b ∧ R≠b ∧ LV≠b ∧ PF≠b:=by
  obtain ⟨all,a,q,_⟩:=r
  refine ⟨?_,?_,?_,?_⟩
  ·rintro rfl;have:=c.cn;rw [q] at this;cases this
  ·rintro rfl;have:=c.cr;rw [q] at this;cases this
  ·rintro rfl;have:=c.cl;rw [q] at this;cases this
  ·rintro rfl;have:=c.cp;rw [q] at this;cases this
 refine za7 (by decide) rfl (α:=Nat × List Entry × Str × List Nat × zaa) (fun y=>⟨[(0,.fn (.yield Bk) [] []),(1,.ptr N 0 0),(2,.ptr R 0 0),(3,.ptr LV 0 0),(4,.ptr PF 0 0),(9,i64 k),(10,i64 y.1)],y.2.2.2.2,[]⟩)
  (fun y=>y.1 ≤ k ∧ XS y.2.2.2.2 X Bk tree lv top (.loop false tms qs ca cb db) y.2.1 y.2.2.2.1 ∧ RDs y.2.2.2.2 b y.2.2.1 ∧ Keep hp y.2.2.2.2 (b::G) ∧ (∀ z∈y.2.2.2.1,z∈G ∨ hp.length ≤ z) ∧ y.2.1.length=y.1 ∧ zev pre lv k 0 s=(zev pre lv (k-y.1) y.1 y.2.2.1).map fun q=>(y.2.1++q.1,q.2))
  (fun y=>k-y.1) (0,[],s,G,hp) ⟨⟨rfl,rfl,rfl,rfl,rfl,rfl,rfl⟩,rfl,rfl⟩ ⟨Nat.zero_le _,x,r,Keep.refl _ _,fun z hz=>.inl hz,rfl,by simp⟩ (by show k-0<KK;simp only [KK];omega) ?_
 rintro ⟨j,es,s1,G1,h1⟩ ⟨g1,g2,g3,g4,g5,g6,g7⟩
 simp only at g1 g2 g3 g4 g5 g6 g7
 have cN:∀ {z},z<hp.length → z ∉ G → z ∉ G1:=fun hz hn q=>by
  rcases g5 _ q with q | q
  ·exact hn q
  ·omega
 have c1:=c.stays g4 (by simp only [List.mem_cons,not_or];exact ⟨⟨cb'.1,hcG.1⟩,⟨cb'.2.1,hcG.2.1⟩,⟨cb'.2.2.1,hcG.2.2.1⟩,⟨cb'.2.2.2,hcG.2.2.2⟩⟩)
 have nG1:N ∉ G1 ∧ R ∉ G1 ∧ LV ∉ G1 ∧ PF ∉ G1:=⟨cN (zac c.cn) hcG.1,cN (zac c.cr) hcG.2.1,cN (zac c.cl) hcG.2.2.1,cN (zac c.cp) hcG.2.2.2⟩
 have bG1:b ∉ G1:=cN hbl hbG
 conv=>whnf
 refine brd (fun a=>?_) (fun a=>?_)
 ·have hj:j<k:=by simp only at a;omega
  obtain ⟨d,hd⟩ : ∃ d,k-j=d+1:=⟨k-j-1,by omega⟩
  have hd':k-(j+1)=d:=by omega
  rw [hd] at g7
  simp only [zev] at g7
  have pe:pent pre lv j s1=none → zev pre lv k 0 s=none:=fun q=>by rw [g7,q];rfl
  -- the entry's own memory
  have kE:Keep h1 (h1++[AB.cells 0 (some 147) (keyE []).cells 0]) []:=Keep.app h1 _ []
  have eE:(h1++[AB.cells 0 (some 147) (keyE []).cells 0])[h1.length]?=some (.cells 0 (some 147) (keyE []).cells 0):=zag _ _
  have bE:h1.length≠b:=by have:=g3.lt;omega
  have c2:=c1.stays kE (by simp)
  have r2:=g3.stays kE (by simp)
  have x2:=g2.stays kE (by simp) (by simp)
  have k2:Keep hp (h1++[AB.cells 0 (some 147) (keyE []).cells 0]) (b::G):=g4.trans kE (by simp)
  conv=>whnf
  refine ldI c2.cr ?_
  conv=>whnf
  refine ldI c2.cr ?_
  conv=>whnf
  refine zc5 (n:=m) (hp:=h1++[AB.cells 0 (some 147) (keyE []).cells 0]) (by omega) r2 1 (by omega) (fun h3 q3 r3 k3=>?_) (fun q=>?_)
  ·have c3:=c2.stays k3 (by simpa using ⟨cb'.1,cb'.2.1,cb'.2.2.1,cb'.2.2.2⟩)
   have kl:zaf (s1.take 1)<256:=Nat.lt_of_lt_of_eq (zb6 1 _ (by rw [List.length_take];omega)) (by decide)
   conv=>whnf
   refine ⟨⟨?_,?_⟩,?_⟩
   ·conv=>whnf
    exact ldI c3.cr rfl
   ·conv=>whnf
    exact ldI c3.cr rfl
   conv=>whnf
   refine zus (n:=m) (hp:=h3) (by omega) r3 (zaf (s1.take 1)) (by omega) (fun h4 q4 r4 k4=>?_) (fun q=>?_)
   ·have c4:=c3.stays k4 (by simpa using ⟨cb'.1,cb'.2.1,cb'.2.2.1,cb'.2.2.2⟩)
    have e4:=k4.get (k3.get eE (by simpa using bE)) (by simpa using bE)
    have x4:=(x2.stays k3 (fun z hz=>by simpa using (fun q:z=b=>bG1 (q ▸ hz))) (by simpa using hBk)).stays k4 (fun z hz=>by simpa using (fun q:z=b=>bG1 (q ▸ hz))) (by simpa using hBk)
    have kk4:Keep hp h4 (b::G):=(k2.trans k3 (fun z hz=>.inl (by simp at hz;simp [hz]))).trans k4 (fun z hz=>.inl (by simp at hz;simp [hz]))
    have lE:h1.length<h4.length:=zac e4
    conv=>whnf
    refine ⟨⟨?_,?_⟩,?_⟩
    ·conv=>whnf
     exact ldI c4.cr rfl
    ·conv=>whnf
     exact ldI c4.cr rfl
    have pt1:(pnum 1 s1).bind (fun k=>(zef k.1 k.2).bind fun t=>ze5 (preK pre lv j++t.1) lv t.2)=ze5 (preK pre lv j++(s1.drop 1).take (zaf (s1.take 1))) lv ((s1.drop 1).drop (zaf (s1.take 1))):=by
     simp only [pnum,if_pos q3,Option.bind_some,zef,if_pos q4]
    have rest:∀ {Q:Ex → LS → Prop}(h5:zaa) (s':LS),Keep h4 h5 [h1.length] → h5[h1.length]?=some (.cells 0 (some 147) (keyE (preK pre lv j)).cells 0) →
      LS.sub ⟨[(0,.fn (.yield Bk) [] []),(1,.ptr N 0 0),(2,.ptr R 0 0),(3,.ptr LV 0 0),(4,.ptr PF 0 0),(7,.ptr h1.length 0 0),(8,.str ((s1.drop 1).take (zaf (s1.take 1)))),(9,i64 k),(10,i64 j)],h5,[]⟩ s' →
      (∀ L h8 G8 e t,pent pre lv j s1=some (e,t) → XS h8 X Bk tree lv top (.loop false tms qs ca cb db) (es++[e]) G8 → RDs h8 b t → Keep hp h8 (b::G) → (∀ z∈G8,z∈G ∨ hp.length ≤ z) → subL [(0,.fn (.yield Bk) [] []),(1,.ptr N 0 0),(2,.ptr R 0 0),(3,.ptr LV 0 0),(4,.ptr PF 0 0),(9,i64 k),(10,i64 j)] L → Q .norm ⟨L,h8,[]⟩) →
      (∀ L h8,pent pre lv j s1=none → Keep hp h8 (b::G) → Q (.pan badV) ⟨L,h8,[]⟩) →
      OkR Tryz.prog (C m) cfg0.inl KK 38 6 (zew (c255.lp 0)) s' Q:=by
     intro Q h5 s' k5 e5 hs' hok hbad
     have nE:h1.length ∉ G1:=fun q=>by have:=g2.lt _ q;omega
     have gE:∀ {z},z<h1.length → z≠h1.length:=fun h=>by omega
     have c5:=c4.stays k5 (by simp only [List.mem_singleton];exact ⟨gE (zac c1.cn),gE (zac c1.cr),gE (zac c1.cl),gE (zac c1.cp)⟩)
     have r5:=r4.stays k5 (by simpa using bE.symm)
     have x5:=x4.stays k5 (fun z hz=>by simpa using (fun q:z=h1.length=>nE (q ▸ hz))) (by simpa using gE (zac g2.loop))
     have kk5:Keep hp h5 (b::G):=kk4.trans k5 (fun z hz=>.inr (by simp at hz;rw [hz];exact g4.1))
     have hs4:((s1.drop 1).take (zaf (s1.take 1))).length<256:=by rw [List.length_take];omega
     have hpk:(preK pre lv j).length<1073741824:=by unfold preK;split;exact hpre;simp
     refine cutI (by decide) rfl hs' ?_
     conv=>whnf
     refine ldI e5 ?_
     conv=>whnf
     refine ⟨by rw [show (keyE (preK pre lv j)).key=preK pre lv j from rfl];omega,?_⟩
     conv=>whnf
     refine stJ e5 ?_
     have e6:(h5.set h1.length (.cells 0 (some 147) (putAt (keyE (preK pre lv j)).cells (0+0) [.str (preK pre lv j++(s1.drop 1).take (zaf (s1.take 1)))]) 0))[h1.length]?=some (.cells 0 (some 147) (keyE (preK pre lv j++(s1.drop 1).take (zaf (s1.take 1)))).cells 0):=by
      rw [List.getElem?_set_self (zac e5)];rfl
     have k6:Keep h5 (h5.set h1.length (.cells 0 (some 147) (putAt (keyE (preK pre lv j)).cells (0+0) [.str (preK pre lv j++(s1.drop 1).take (zaf (s1.take 1)))]) 0)) [h1.length]:=Keep.set (by simp)
     have c6:=c5.stays k6 (by simp only [List.mem_singleton];exact ⟨gE (zac c1.cn),gE (zac c1.cr),gE (zac c1.cl),gE (zac c1.cp)⟩)
     have r6:=r5.stays k6 (by simpa using bE.symm)
     have x6:=x5.stays k6 (fun z hz=>by simpa using (fun q:z=h1.length=>nE (q ▸ hz))) (by simpa using gE (zac g2.loop))
     have kk6:=kk5.trans k6 (fun z hz=>.inr (by simp at hz;rw [hz];exact g4.1))
     conv=>whnf
     refine ldI c6.cr ?_
     conv=>whnf
     refine ldI c6.cl ?_
     obtain ⟨rr,h7,ec,hc⟩:=zty (n:=m) (by omega) r6 _ e6 bE lv
     conv=>whnf
     refine ⟨rr,h7,ec,?_⟩
     have pt2:pent pre lv j s1=ze5 (preK pre lv j++(s1.drop 1).take (zaf (s1.take 1))) lv ((s1.drop 1).drop (zaf (s1.take 1))):=pt1
     cases hp7:ze5 (preK pre lv j++(s1.drop 1).take (zaf (s1.take 1))) lv ((s1.drop 1).drop (zaf (s1.take 1))) with
     | none =>
      rw [hp7] at hc
      obtain ⟨rfl,k7⟩:=hc
      conv=>whnf
      exact hbad _ h7 (pt2.trans hp7) (kk6.trans k7 (fun z hz=>by simp at hz;rcases hz with rfl | rfl;exact .inl (by simp);exact .inr g4.1))
     | some p =>
      obtain ⟨e,t⟩:=p
      rw [hp7] at hc
      obtain ⟨rfl,r7,e7,k7⟩:=hc
      have x7:=x6.stays k7 (fun z hz=>by simp only [List.mem_cons,List.not_mem_nil,or_false,not_or];exact ⟨fun q=>bG1 (q ▸ hz),fun q=>nE (q ▸ hz)⟩) (by simp only [List.mem_cons,List.not_mem_nil,or_false,not_or];exact ⟨hBk,gE (zac g2.loop)⟩)
      have kk7:=kk6.trans k7 (fun z hz=>by simp at hz;rcases hz with rfl | rfl;exact .inl (by simp);exact .inr g4.1)
      obtain ⟨h8,G8,ey,x8,k8,g8⟩:=zyc (n:=m) (by omega) x7 H hq hca hcb (by rw [g6];omega) e
      conv=>whnf
      refine ldI e7 ?_
      conv=>whnf
      refine clI ey ?_
      conv=>whnf
      refine hok _ h8 G8 e t (pt2.trans hp7) x8 (r7.stays k8 bG1) (kk7.trans k8 (fun z hz=>(g5 z hz).imp (fun q=>by simp [q]) id)) (fun z hz=>?_) ⟨rfl,rfl,rfl,rfl,rfl,rfl,rfl⟩
      rcases g8 z hz with q | q
      ·exact g5 z q
      ·exact .inr (Nat.le_trans kk7.1 q)
    have hstore:∀ (key:Str),((h4.set h1.length (.cells 0 (some 147) (putAt (keyE []).cells (0+0) [.str key]) 0))[h1.length]?=some (.cells 0 (some 147) (keyE key).cells 0)):=fun key=>by
     rw [List.getElem?_set_self lE];rfl
    have next:∀ (L:LT) (h8:zaa) (G8:List Nat) (e:Entry) (t:Str),pent pre lv j s1=some (e,t) → (zev pre lv k 0 s=(zev pre lv (k-(j+1)) (j+1) t).map fun q=>((es++[e])++q.1,q.2)):=fun L h8 G8 e t q=>by
     rw [g7,q,hd']
     simp only [Option.bind_some,Option.map_map]
     congr 1
     funext z
     simp
    conv=>whnf
    refine brd (fun a1=>?_) (fun a1=>?_)
    ·have ek:preK pre lv j=pre:=by unfold preK;rw [if_pos (.inl (by omega))]
     conv=>whnf
     refine ldI c4.cp ?_
     conv=>whnf
     refine stJ e4 ?_
     conv=>whnf
     refine rest (h4.set h1.length (.cells 0 (some 147) (putAt (keyE []).cells (0+0) [.str pre]) 0)) _ (Keep.set (by simp)) (by rw [ek];exact hstore pre) ⟨⟨rfl,rfl,rfl,rfl,rfl,rfl,rfl,rfl,rfl⟩,rfl,rfl⟩ (fun L h8 G8 e t q x8 r8 k8 g8 hL=>?_) (fun L h8 q k8=>?_)
     ·refine cutI (by decide) rfl (t:=⟨[(0,.fn (.yield Bk) [] []),(1,.ptr N 0 0),(2,.ptr R 0 0),(3,.ptr LV 0 0),(4,.ptr PF 0 0),(9,i64 k),(10,i64 j)],h8,[]⟩) ⟨hL,rfl,rfl⟩ ?_
      conv=>whnf
      refine zJ j ?_
      exact nxI (j+1,es++[e],t,G8,h8) ⟨hj,x8,r8,k8,g8,by simp [g6],next [] h8 G8 e t q⟩ (by simp only;omega) ⟨⟨rfl,rfl,rfl,rfl,rfl,rfl,rfl⟩,rfl,rfl⟩
     ·conv=>whnf
      rw [pe q]
      exact ⟨rfl,k8⟩
    ·conv=>whnf
     refine ldI c4.cl ?_
     conv=>whnf
     refine bre (fun a2=>?_) (fun a2=>?_)
     ·have ek:preK pre lv j=pre:=by unfold preK;rw [if_pos (.inr a2)]
      conv=>whnf
      refine ldI c4.cp ?_
      conv=>whnf
      refine stJ e4 ?_
      conv=>whnf
      refine rest (h4.set h1.length (.cells 0 (some 147) (putAt (keyE []).cells (0+0) [.str pre]) 0)) _ (Keep.set (by simp)) (by rw [ek];exact hstore pre) ⟨⟨rfl,rfl,rfl,rfl,rfl,rfl,rfl,rfl,rfl⟩,rfl,rfl⟩ (fun L h8 G8 e t q x8 r8 k8 g8 hL=>?_) (fun L h8 q k8=>?_)
      ·refine cutI (by decide) rfl (t:=⟨[(0,.fn (.yield Bk) [] []),(1,.ptr N 0 0),(2,.ptr R 0 0),(3,.ptr LV 0 0),(4,.ptr PF 0 0),(9,i64 k),(10,i64 j)],h8,[]⟩) ⟨hL,rfl,rfl⟩ ?_
       conv=>whnf
       refine zJ j ?_
       exact nxI (j+1,es++[e],t,G8,h8) ⟨hj,x8,r8,k8,g8,by simp [g6],next [] h8 G8 e t q⟩ (by simp only;omega) ⟨⟨rfl,rfl,rfl,rfl,rfl,rfl,rfl⟩,rfl,rfl⟩
      ·conv=>whnf
       rw [pe q]
       exact ⟨rfl,k8⟩
     ·have ek:preK pre lv j=[]:=by unfold preK;rw [if_neg (by omega)]
      conv=>whnf
      refine rest h4 _ (Keep.refl _ _) (by rw [ek];exact e4) ⟨⟨rfl,rfl,rfl,rfl,rfl,rfl,rfl,rfl,rfl⟩,rfl,rfl⟩ (fun L h8 G8 e t q x8 r8 k8 g8 hL=>?_) (fun L h8 q k8=>?_)
      ·refine cutI (by decide) rfl (t:=⟨[(0,.fn (.yield Bk) [] []),(1,.ptr N 0 0),(2,.ptr R 0 0),(3,.ptr LV 0 0),(4,.ptr PF 0 0),(9,i64 k),(10,i64 j)],h8,[]⟩) ⟨hL,rfl,rfl⟩ ?_
       conv=>whnf
       refine zJ j ?_
       exact nxI (j+1,es++[e],t,G8,h8) ⟨hj,x8,r8,k8,g8,by simp [g6],next [] h8 G8 e t q⟩ (by simp only;omega) ⟨⟨rfl,rfl,rfl,rfl,rfl,rfl,rfl⟩,rfl,rfl⟩
      ·conv=>whnf
       rw [pe q]
       exact ⟨rfl,k8⟩
   ·conv=>whnf
    have:pent pre lv j s1=none:=by simp only [pent,pnum,if_pos q3,Option.bind_some,zef,if_neg (Nat.not_le.2 q),Option.bind_none]
    rw [pe this]
    exact ⟨rfl,k2.trans k3 (fun z hz=>.inl (by simp at hz;simp [hz]))⟩
  ·conv=>whnf
   have:pent pre lv j s1=none:=by simp only [pent,pnum,if_neg (Nat.not_le.2 q),Option.bind_none]
   rw [pe this]
   exact ⟨rfl,k2⟩
 ·have hj:j=k:=by simp only at a;omega
  subst hj
  rw [Nat.sub_self] at g7
  simp only [zev,Option.map_some,List.append_nil] at g7
  conv=>whnf
  refine ⟨[],rfl,?_⟩
  rw [g7]
  have g2':XS h1 X Bk tree lv top (.loop false tms qs ca cb db) ([]++es) G1:=by simpa using g2
  exact ⟨rfl,g3,G1,g2',g4,g5⟩
end
structure NodeP where
 tree:Nat
 lv:Nat
 top:Bool
 es:List Entry
def zc7 (s:Str):Option (NodeP × Str) :=
 (pnum 1 s).bind fun t=>(pnum 1 t.2).bind fun l=>(pnum 1 l.2).bind fun o=>(pnum 1 o.2).bind fun z=>(pnum 2 z.2).bind fun n=>(zef z.1 n.2).bind fun p=>(zef (2*n.1) p.2).bind fun q=>(zev p.1 l.1 n.1 0 q.2).map fun e=>(⟨t.1,l.1,o.1==1,e.1⟩,e.2)
section
variable {n:Nat}{hp:zaa}{b:Nat}{s:Str}
theorem zto (hn:1 ≤ n) (k lv:Int) (pre:Str):C n 250 [.ptr b 0 0,i64 k,i64 lv,.str pre] hp =
  some (.ret (.fn (.func 255) [] [.ptr (hp.length+1) 0 0,.ptr hp.length 0 0,.ptr (hp.length+2) 0 0,.ptr (hp.length+3) 0 0]),hp++[AB.cells 0 (some 308) [.ptr b 0 0] 0]++[AB.cells 0 (some 3) [i64 k] 0]++[AB.cells 0 (some 3) [i64 lv] 0]++[AB.cells 0 (some 9) [.str pre] 0]):=by
 obtain ⟨m,rfl⟩:=pre1 n
 refine za2 F250 rfl rfl ?_
 conv=>whnf
 refine ⟨rfl,_,rfl,?_,rfl⟩
 show AV.fn _ _ _=AV.fn _ _ _
 simp
theorem z3o (k:Nat):(((k:Nat):Int)==1)=(k==1):=by rw [Bool.eq_iff_iff,beq_iff_eq,beq_iff_eq];omega
def zt9 (hp:zaa) (b:Nat) (x:NodeP) (t:Str) (r:CRes) (h:zaa):Prop :=
 ∃ X L G,r=.ret (.ifc 296 (.agg [i64 x.tree,i64 x.lv,.bool x.top,L])) ∧ RDs h b t ∧ GBuf 147 22 h X L (x.es.map Entry.cells) G ∧ Keep hp h [b] ∧ X<h.length ∧ ∀ y∈G,hp.length ≤ y
theorem z2l (hn:5 ≤ n) (r:RDs hp b s) (kind:Int) (hk:kind=1 ∨ kind=2) :
  ∃ r h,C n 231 [.ptr b 0 0,i64 kind] hp=some (r,h) ∧ zf7 (zc7 s) (zt9 hp b) (fun h=>Keep hp h [b]) r h:=by
 obtain ⟨m,rfl⟩:=pre1 n
 refine zbh (n:=m) (c:=cfg0) F231 rfl rfl ?_
 have hb:=r.lt
 have rest:∀ {Q:Ex → LS → Prop}(s':LS),LS.sub ⟨[(0,.ptr b 0 0)],hp,[]⟩ s' → (∀ s1,EndQ Tryz.prog (C m) cfg0.inl [.tmp 4] (zf7 (zc7 s) (zt9 hp b) (fun h=>Keep hp h [b])) .ret s1 → Q .ret s1) → (∀ v s1,EndQ Tryz.prog (C m) cfg0.inl [.tmp 4] (zf7 (zc7 s) (zt9 hp b) (fun h=>Keep hp h [b])) (.pan v) s1 → Q (.pan v) s1) →
   OkR Tryz.prog (C m) cfg0.inl KK 95 7 (zew c231) s' Q:=by
  intro Q s' hs' hret hpan
  refine cutI (by decide) rfl hs' ?_
  have bad:∀ (L:LT) (h:zaa),zc7 s=none → Keep hp h [b] → Q (.pan badV) ⟨L,h,[]⟩:=fun L h q k=>by
   refine hpan _ _ ?_
   show zf7 (zc7 s) (zt9 hp b) (fun h=>Keep hp h [b]) (.pan badV) h
   rw [q]
   exact ⟨rfl,k⟩
  conv=>whnf
  refine zc5 (n:=m) (hp:=hp) (by omega) r 1 (by omega) (fun h1 q1 r1 k1=>?_) (fun q=>bad _ _ (by simp only [zc7,pnum,if_neg (Nat.not_le.2 q),Option.bind_none]) (Keep.refl _ _))
  conv=>whnf
  refine zc5 (n:=m) (hp:=h1) (by omega) r1 1 (by omega) (fun h2 q2 r2 k2=>?_) (fun q=>bad _ _ (by simp only [zc7,pnum,if_pos q1,Option.bind_some,if_neg (Nat.not_le.2 q),Option.bind_none]) k1)
  have k02:=k1.trans k2 (fun z hz=>.inl hz)
  conv=>whnf
  refine stJ (zag _ _) ?_
  have es1:(h2++[AB.cells 0 (some 296) [i64 0,i64 0,.bool false,.lst 0 [] true] 0]).set h2.length (AB.cells 0 (some 296) [i64 (zaf (s.take 1)),i64 (zaf ((s.drop 1).take 1)),.bool false,.lst 0 [] true] 0)=h2++[AB.cells 0 (some 296) [i64 (zaf (s.take 1)),i64 (zaf ((s.drop 1).take 1)),.bool false,.lst 0 [] true] 0]:=by simp
  have hbX:h2.length≠b:=by have:=r2.lt;omega
  have hbX':h2.length ∉ [b]:=by simpa using hbX
  have x3:((h2++[AB.cells 0 (some 296) [i64 0,i64 0,.bool false,.lst 0 [] true] 0]).set h2.length (AB.cells 0 (some 296) [i64 (zaf (s.take 1)),i64 (zaf ((s.drop 1).take 1)),.bool false,.lst 0 [] true] 0))[h2.length]?=some (AB.cells 0 (some 296) [i64 (zaf (s.take 1)),i64 (zaf ((s.drop 1).take 1)),.bool false,.lst 0 [] true] 0):=by rw [es1];exact zag _ _
  have kx:Keep h2 ((h2++[AB.cells 0 (some 296) [i64 0,i64 0,.bool false,.lst 0 [] true] 0]).set h2.length (AB.cells 0 (some 296) [i64 (zaf (s.take 1)),i64 (zaf ((s.drop 1).take 1)),.bool false,.lst 0 [] true] 0)) []:=by rw [es1];exact Keep.app _ _ _
  have r3:=r2.stays kx (by simp)
  have k03:=k02.trans kx (by simp)
  conv=>whnf
  refine zc5 (n:=m) (hp:=((h2++[AB.cells 0 (some 296) [i64 0,i64 0,.bool false,.lst 0 [] true] 0]).set h2.length (AB.cells 0 (some 296) [i64 (zaf (s.take 1)),i64 (zaf ((s.drop 1).take 1)),.bool false,.lst 0 [] true] 0))) (by omega) r3 1 (by omega) (fun h4 q4 r4 k4=>?_) (fun q=>bad _ _ (by simp only [zc7,pnum,if_pos q1,if_pos q2,Option.bind_some,if_neg (Nat.not_le.2 q),Option.bind_none]) k03)
  have k04:=k03.trans k4 (fun z hz=>.inl hz)
  have x4:=k4.get x3 hbX'
  conv=>whnf
  refine stJ x4 ?_
  have etop:=z3o (zaf (((s.drop 1).drop 1).take 1))
  have kx5:Keep h4 (h4.set h2.length (AB.cells 0 (some 296) [i64 (zaf (s.take 1)),i64 (zaf ((s.drop 1).take 1)),.bool ((zaf (((s.drop 1).drop 1).take 1):Int)==1),.lst 0 [] true] 0)) [h2.length]:=Keep.set (by simp)
  have r5:=r4.stays kx5 (by simpa using hbX.symm)
  have k05:Keep hp _ [b]:=k04.trans kx5 (fun z hz=>.inr (by simp at hz;rw [hz];exact k02.1))
  have x5:(h4.set h2.length (AB.cells 0 (some 296) [i64 (zaf (s.take 1)),i64 (zaf ((s.drop 1).take 1)),.bool ((zaf (((s.drop 1).drop 1).take 1):Int)==1),.lst 0 [] true] 0))[h2.length]?=some (AB.cells 0 (some 296) [i64 (zaf (s.take 1)),i64 (zaf ((s.drop 1).take 1)),.bool ((zaf (((s.drop 1).drop 1).take 1):Int)==1),.lst 0 [] true] 0):=by rw [List.getElem?_set_self (zac x4)]
  conv=>whnf
  refine zc5 (n:=m) (hp:=h4.set h2.length (AB.cells 0 (some 296) [i64 (zaf (s.take 1)),i64 (zaf ((s.drop 1).take 1)),.bool ((zaf (((s.drop 1).drop 1).take 1):Int)==1),.lst 0 [] true] 0)) (by omega) r5 1 (by omega) (fun h6 q6 r6 k6=>?_) (fun q=>bad _ _ (by simp only [zc7,pnum,if_pos q1,if_pos q2,if_pos q4,Option.bind_some,if_neg (Nat.not_le.2 q),Option.bind_none]) k05)
  have k06:=k05.trans k6 (fun z hz=>.inl hz)
  have x6:=k6.get x5 hbX'
  conv=>whnf
  refine zc5 (n:=m) (hp:=h6) (by omega) r6 2 (by omega) (fun h7 q7 r7 k7=>?_) (fun q=>bad _ _ (by simp only [zc7,pnum,if_pos q1,if_pos q2,if_pos q4,if_pos q6,Option.bind_some,if_neg (Nat.not_le.2 q),Option.bind_none]) k06)
  have k07:=k06.trans k7 (fun z hz=>.inl hz)
  have x7:=k7.get x6 hbX'
  have lz:zaf ((((s.drop 1).drop 1).drop 1).take 1)<256:=Nat.lt_of_lt_of_eq (zb6 1 _ (by rw [List.length_take];omega)) (by decide)
  have ln:zaf (((((s.drop 1).drop 1).drop 1).drop 1).take 2)<65536:=Nat.lt_of_lt_of_eq (zb6 2 _ (by rw [List.length_take];omega)) (by decide)
  conv=>whnf
  refine zus (n:=m) (hp:=h7) (by omega) r7 _ (by omega) (fun h8 q8 r8 k8=>?_) (fun q=>bad _ _ (by simp only [zc7,pnum,zef,if_pos q1,if_pos q2,if_pos q4,if_pos q6,if_pos q7,Option.bind_some,if_neg (Nat.not_le.2 q),Option.bind_none]) k07)
  have k08:=k07.trans k8 (fun z hz=>.inl hz)
  have x8:=k8.get x7 hbX'
  conv=>whnf
  refine zI (z:=((2*zaf (((((s.drop 1).drop 1).drop 1).drop 1).take 2):Nat):Int)) (by rw [zad (by omega) (by omega)];omega) ?_
  conv=>whnf
  refine zus (n:=m) (hp:=h8) (by omega) r8 _ (by omega) (fun h9 q9 r9 k9=>?_) (fun q=>bad _ _ (by simp only [zc7,pnum,zef,if_pos q1,if_pos q2,if_pos q4,if_pos q6,if_pos q7,if_pos q8,Option.bind_some,if_neg (Nat.not_le.2 q),Option.bind_none]) k08)
  have k09:=k08.trans k9 (fun z hz=>.inl hz)
  have x9:=k9.get x8 hbX'
  have hpn:zc7 s=(zev ((((((s.drop 1).drop 1).drop 1).drop 1).drop 2).take (zaf ((((s.drop 1).drop 1).drop 1).take 1))) (zaf ((s.drop 1).take 1)) (zaf (((((s.drop 1).drop 1).drop 1).drop 1).take 2)) 0 (((((((s.drop 1).drop 1).drop 1).drop 1).drop 2).drop (zaf ((((s.drop 1).drop 1).drop 1).take 1))).drop (2*zaf (((((s.drop 1).drop 1).drop 1).drop 1).take 2)))).map
    fun e=>(⟨zaf (s.take 1),zaf ((s.drop 1).take 1),((zaf (((s.drop 1).drop 1).take 1):Int)==1),e.1⟩,e.2):=by
   simp only [zc7,pnum,zef,if_pos q1,if_pos q2,if_pos q4,if_pos q6,if_pos q7,if_pos q8,if_pos q9,Option.bind_some,etop]
  have hpre:((((((s.drop 1).drop 1).drop 1).drop 1).drop 2).take (zaf ((((s.drop 1).drop 1).drop 1).take 1))).length<1073741824:=by rw [List.length_take];omega
  conv=>whnf
  refine ldI x9 ?_
  conv=>whnf
  refine clI (zto (n:=m) (hp:=h9) (by omega) ((zaf (((((s.drop 1).drop 1).drop 1).drop 1).take 2)):Nat) ((zaf ((s.drop 1).take 1)):Nat) ((((((s.drop 1).drop 1).drop 1).drop 1).drop 2).take (zaf ((((s.drop 1).drop 1).drop 1).take 1)))) ?_
  -- the memory behind the call
  have lR:(h9++[AB.cells 0 (some 308) [.ptr b 0 0] 0]).length=h9.length+1:=by simp
  have lN:(h9++[AB.cells 0 (some 308) [.ptr b 0 0] 0]++[AB.cells 0 (some 3) [i64 ((zaf (((((s.drop 1).drop 1).drop 1).drop 1).take 2)):Nat)] 0]).length=h9.length+2:=by simp
  have lL:(h9++[AB.cells 0 (some 308) [.ptr b 0 0] 0]++[AB.cells 0 (some 3) [i64 ((zaf (((((s.drop 1).drop 1).drop 1).drop 1).take 2)):Nat)] 0]++[AB.cells 0 (some 3) [i64 ((zaf ((s.drop 1).take 1)):Nat)] 0]).length=h9.length+3:=by simp
  have ka:Keep h9 (h9++[AB.cells 0 (some 308) [.ptr b 0 0] 0]++[AB.cells 0 (some 3) [i64 ((zaf (((((s.drop 1).drop 1).drop 1).drop 1).take 2)):Nat)] 0]++[AB.cells 0 (some 3) [i64 ((zaf ((s.drop 1).take 1)):Nat)] 0]++[AB.cells 0 (some 9) [.str ((((((s.drop 1).drop 1).drop 1).drop 1).drop 2).take (zaf ((((s.drop 1).drop 1).drop 1).take 1)))] 0]) [] :=
   ((((Keep.app _ _ []).trans (Keep.app _ _ []) (by simp)).trans (Keep.app _ _ []) (by simp)).trans (Keep.app _ _ []) (by simp))
  have cR:(h9++[AB.cells 0 (some 308) [.ptr b 0 0] 0]++[AB.cells 0 (some 3) [i64 ((zaf (((((s.drop 1).drop 1).drop 1).drop 1).take 2)):Nat)] 0]++[AB.cells 0 (some 3) [i64 ((zaf ((s.drop 1).take 1)):Nat)] 0]++[AB.cells 0 (some 9) [.str ((((((s.drop 1).drop 1).drop 1).drop 1).drop 2).take (zaf ((((s.drop 1).drop 1).drop 1).take 1)))] 0])[h9.length]?=some (AB.cells 0 (some 308) [.ptr b 0 0] 0):=za8 (za8 (za8 (zag _ _)))
  have cN:(h9++[AB.cells 0 (some 308) [.ptr b 0 0] 0]++[AB.cells 0 (some 3) [i64 ((zaf (((((s.drop 1).drop 1).drop 1).drop 1).take 2)):Nat)] 0]++[AB.cells 0 (some 3) [i64 ((zaf ((s.drop 1).take 1)):Nat)] 0]++[AB.cells 0 (some 9) [.str ((((((s.drop 1).drop 1).drop 1).drop 1).drop 2).take (zaf ((((s.drop 1).drop 1).drop 1).take 1)))] 0])[h9.length+1]?=some (AB.cells 0 (some 3) [i64 ((zaf (((((s.drop 1).drop 1).drop 1).drop 1).take 2)):Nat)] 0):=by rw [← lR];exact za8 (za8 (zag _ _))
  have cL:(h9++[AB.cells 0 (some 308) [.ptr b 0 0] 0]++[AB.cells 0 (some 3) [i64 ((zaf (((((s.drop 1).drop 1).drop 1).drop 1).take 2)):Nat)] 0]++[AB.cells 0 (some 3) [i64 ((zaf ((s.drop 1).take 1)):Nat)] 0]++[AB.cells 0 (some 9) [.str ((((((s.drop 1).drop 1).drop 1).drop 1).drop 2).take (zaf ((((s.drop 1).drop 1).drop 1).take 1)))] 0])[h9.length+2]?=some (AB.cells 0 (some 3) [i64 ((zaf ((s.drop 1).take 1)):Nat)] 0):=by rw [← lN];exact za8 (zag _ _)
  have cP:(h9++[AB.cells 0 (some 308) [.ptr b 0 0] 0]++[AB.cells 0 (some 3) [i64 ((zaf (((((s.drop 1).drop 1).drop 1).drop 1).take 2)):Nat)] 0]++[AB.cells 0 (some 3) [i64 ((zaf ((s.drop 1).take 1)):Nat)] 0]++[AB.cells 0 (some 9) [.str ((((((s.drop 1).drop 1).drop 1).drop 1).drop 2).take (zaf ((((s.drop 1).drop 1).drop 1).take 1)))] 0])[h9.length+3]?=some (AB.cells 0 (some 9) [.str ((((((s.drop 1).drop 1).drop 1).drop 1).drop 2).take (zaf ((((s.drop 1).drop 1).drop 1).take 1)))] 0):=by rw [← lL];exact zag _ _
  have lH:(h9++[AB.cells 0 (some 308) [.ptr b 0 0] 0]++[AB.cells 0 (some 3) [i64 ((zaf (((((s.drop 1).drop 1).drop 1).drop 1).take 2)):Nat)] 0]++[AB.cells 0 (some 3) [i64 ((zaf ((s.drop 1).take 1)):Nat)] 0]++[AB.cells 0 (some 9) [.str ((((((s.drop 1).drop 1).drop 1).drop 1).drop 2).take (zaf ((((s.drop 1).drop 1).drop 1).take 1)))] 0]).length=h9.length+4:=by simp
  obtain ⟨hA,ehA⟩ : ∃ hA,hA=h9++[AB.cells 0 (some 308) [.ptr b 0 0] 0]++[AB.cells 0 (some 3) [i64 ((zaf (((((s.drop 1).drop 1).drop 1).drop 1).take 2)):Nat)] 0]++[AB.cells 0 (some 3) [i64 ((zaf ((s.drop 1).take 1)):Nat)] 0]++[AB.cells 0 (some 9) [.str ((((((s.drop 1).drop 1).drop 1).drop 1).drop 2).take (zaf ((((s.drop 1).drop 1).drop 1).take 1)))] 0]:=⟨_,rfl⟩
  rw [← ehA] at ka cR cN cL cP lH
  rw [← ehA]
  conv=>whnf
  have lX:h2.length<h9.length:=zac x9
  have lb9:=r9.lt
  refine rangeI (gf:=255) (x:=[]) (lb:=[.ptr (h9.length+1) 0 0,.ptr h9.length 0 0,.ptr (h9.length+2) 0 0,.ptr (h9.length+3) 0 0]) rfl (by kernel_rfl) (fun tm qs ca cb H hq hca hcb=>?_)
  have kd:Keep hA (hA++[AB.dfd]++[AB.loop false tm qs ca cb hA.length]) []:=(Keep.app _ _ []).trans (Keep.app _ _ []) (by simp)
  have kad:=ka.trans kd (by simp)
  have lD:(hA++[AB.dfd]).length=hA.length+1:=by simp
  have xs:XS (hA++[AB.dfd]++[AB.loop false tm qs ca cb hA.length]) h2.length (hA.length+1) (zaf (s.take 1)) (zaf ((s.drop 1).take 1)) ((zaf (((s.drop 1).drop 1).take 1):Int)==1) (.loop false tm qs ca cb hA.length) [] [h2.length] :=
   ⟨⟨.lst 0 [] true,kad.get x9 (by simp),⟨by simp,.inl ⟨rfl,rfl,rfl⟩⟩⟩,by rw [← lD];exact zag _ _,by simp;omega⟩
  have H5:HasL 95 7 [(5,.ptr h2.length 0 0)] tm:=by
   refine HasL.sub ?_ H
   exact rfl
  obtain ⟨rr,hF,eF,sF⟩:=zqj (n:=m) (by omega) xs H5 hq hca hcb (r9.stays kad (by simp)) ⟨kd.get cN (by simp),kd.get cR (by simp),kd.get cL (by simp),kd.get cP (by simp)⟩ ln hpre (by simpa using hbX.symm) (by simp;omega)
  refine ⟨rr,hF,eF,?_⟩
  have kk:Keep hp (hA++[AB.dfd]++[AB.loop false tm qs ca cb hA.length]) [b]:=k09.trans kad (by simp)
  have hX2:∀ {h:zaa},Keep (hA++[AB.dfd]++[AB.loop false tm qs ca cb hA.length]) h (b::[h2.length]) → Keep hp h [b]:=fun k=>kk.trans k (fun z hz=>by
   simp at hz
   rcases hz with rfl | rfl
   ·exact .inl (by simp)
   ·exact .inr k02.1)
  have dD:(hA++[AB.dfd]++[AB.loop false tm qs ca cb hA.length])[hA.length]?=some .dfd:=za8 (zag _ _)
  have nD:hA.length ∉ b::[h2.length]:=by simp;omega
  cases hps:zev ((((((s.drop 1).drop 1).drop 1).drop 1).drop 2).take (zaf ((((s.drop 1).drop 1).drop 1).take 1))) (zaf ((s.drop 1).take 1)) (zaf (((((s.drop 1).drop 1).drop 1).drop 1).take 2)) 0 (((((((s.drop 1).drop 1).drop 1).drop 1).drop 2).drop (zaf ((((s.drop 1).drop 1).drop 1).take 1))).drop (2*zaf (((((s.drop 1).drop 1).drop 1).drop 1).take 2))) with
  | none =>
   rw [hps] at sF
   obtain ⟨rfl,kF⟩:=sF
   have hpn':zc7 s=none:=by rw [hpn,hps];rfl
   refine hpan _ _ ⟨kF.get dD nD,?_⟩
   show zf7 (zc7 s) (zt9 hp b) (fun h=>Keep hp h [b]) (.pan badV) (hF.set hA.length .dead)
   rw [hpn']
   exact ⟨rfl,(hX2 kF).set' (.inr (by have:=k09.1;omega))⟩
  | some p =>
   obtain ⟨es,t⟩:=p
   rw [hps] at sF
   obtain ⟨rfl,rF,G',xF,kF,gF⟩:=sF
   have hpn':zc7 s=some (⟨(zaf (s.take 1)),(zaf ((s.drop 1).take 1)),((zaf (((s.drop 1).drop 1).take 1):Int)==1),es⟩,t):=by rw [hpn,hps];rfl
   refine ⟨⟨_,_,_,_,_,xF.loop⟩,?_⟩
   have xG:=xF.lt
   obtain ⟨⟨L,n1,n2⟩,n3,n4⟩:=xF
   have nX:h2.length≠hA.length+1:=by omega
   have hD1:=kF.get dD nD
   have gD:∀ y∈G',y≠hA.length:=fun y hy q=>by
    rcases gF y hy with q2 | q2
    ·simp at q2;omega
    ·simp at q2;omega
   have e1:(hF.set (hA.length+1) .dead)[h2.length]?=some (AB.cells 0 (some 296) [i64 (zaf (s.take 1)),i64 (zaf ((s.drop 1).take 1)),.bool ((zaf (((s.drop 1).drop 1).take 1):Int)==1),L] 0):=by rw [List.getElem?_set_ne (Ne.symm nX)];exact n1
   conv=>whnf
   refine cutI (by decide) rfl (t:=⟨[(5,.ptr h2.length 0 0)],hF.set (hA.length+1) .dead,[.col hA.length]⟩) ⟨rfl,rfl,rfl⟩ ?_
   conv=>whnf
   refine ldI e1 ?_
   refine hret _ ⟨by rw [List.getElem?_set_ne (by omega)];exact hD1,?_⟩
   refine ⟨_,rfl,?_⟩
   show zf7 (zc7 s) (zt9 hp b) (fun h=>Keep hp h [b]) (.ret _) ((hF.set (hA.length+1) .dead).set hA.length .dead)
   rw [hpn']
   have hlt:=zac n1
   refine ⟨h2.length,L,G',rfl,?_,?_,?_,by simp;exact hlt,?_⟩
   ·exact (rF.stays (Keep.set (F:=[hA.length+1]) (by simp)) (by simp;omega)).stays (Keep.set (F:=[hA.length]) (by simp)) (by simp;omega)
   ·exact n2.stays fun y hy _=>by
     rw [List.getElem?_set_ne (Ne.symm (gD y hy)),List.getElem?_set_ne (by rintro rfl;exact n4 hy)]
   ·exact ((hX2 kF).set' (.inr (by have:=k09.1;omega))).set' (.inr (by have:=k09.1;omega))
   ·intro y hy
    have l1:=k02.1
    have l2:=kk.1
    rcases gF y hy with q2 | q2
    ·simp at q2;omega
    ·omega
 rcases hk with rfl | rfl
 ·conv=>whnf
  exact rest _ ⟨rfl,rfl,rfl⟩ (fun _ h=>h) (fun _ _ h=>h)
 ·conv=>whnf
  exact rest _ ⟨rfl,rfl,rfl⟩ (fun _ h=>h) (fun _ _ h=>h)
end
def zdj (s:Str):Option ((Nat × Str) × Str):=(pnum 4 s).bind fun a=>(pnum 2 a.2).bind fun z=>(zef z.1 z.2).map fun d=>((a.1,d.1),d.2)
def zcq:Nat → Str → Option (List Nat × Str)
 | 0,s=>some ([],s)
 | k+1,s=>(pnum 4 s).bind fun a=>(zcq k a.2).map fun r=>(a.1::r.1,r.2)
def zbu:Nat → Str → Option (List (Nat × List Nat) × Str)
 | 0,s=>some ([],s)
 | k+1,s=>(pnum 6 s).bind fun v=>(pnum 2 v.2).bind fun z=>(zcq z.1 z.2).bind fun p=>(zbu k p.2).map fun r=>((v.1,p.1)::r.1,r.2)
def zhn (s:Str):Option ((Nat × List (Nat × List Nat)) × Str):=(pnum 4 s).bind fun a=>(pnum 2 a.2).bind fun z=>(zbu z.1 z.2).map fun d=>((a.1,d.1),d.2)
section
variable {n:Nat}{hp:zaa}{b:Nat}{s:Str}
def zsi (hp:zaa) (b:Nat) (x:Nat × Str) (t:Str) (r:CRes) (h:zaa):Prop :=
 r=.ret (.ifc 292 (.agg [i64 x.1,.str x.2])) ∧ RDs h b t ∧ Keep hp h [b]
theorem zzh (hn:5 ≤ n) (r:RDs hp b s) :
  ∃ r h,C n 231 [.ptr b 0 0,i64 3] hp=some (r,h) ∧ zf7 (zdj s) (zsi hp b) (fun h=>Keep hp h [b]) r h:=by
 obtain ⟨m,rfl⟩:=pre1 n
 refine zbh (n:=m) (c:=cfg0) F231 rfl rfl ?_
 have hb:=r.lt
 have bad:∀ (h:zaa),zdj s=none → Keep hp h [b] → zf7 (zdj s) (zsi hp b) (fun h=>Keep hp h [b]) (.pan badV) h:=fun h q k=>by
  rw [q]
  exact ⟨rfl,k⟩
 conv=>whnf
 refine zc5 (n:=m) (hp:=hp) (by omega) r 4 (by omega) (fun h1 q1 r1 k1=>?_) (fun q=>bad _ (by simp only [zdj,pnum,if_neg (Nat.not_le.2 q),Option.bind_none]) (Keep.refl _ _))
 conv=>whnf
 refine stJ (zag _ _) ?_
 have es1:(h1++[AB.cells 0 (some 292) [i64 0,.str []] 0]).set h1.length (AB.cells 0 (some 292) [i64 (zaf (s.take 4)),.str []] 0)=h1++[AB.cells 0 (some 292) [i64 (zaf (s.take 4)),.str []] 0]:=by simp
 have hbX:h1.length≠b:=by have:=r1.lt;omega
 have hbX':h1.length ∉ [b]:=by simpa using hbX
 have x2:((h1++[AB.cells 0 (some 292) [i64 0,.str []] 0]).set h1.length (AB.cells 0 (some 292) [i64 (zaf (s.take 4)),.str []] 0))[h1.length]?=some (AB.cells 0 (some 292) [i64 (zaf (s.take 4)),.str []] 0):=by rw [es1];exact zag _ _
 have kx:Keep h1 ((h1++[AB.cells 0 (some 292) [i64 0,.str []] 0]).set h1.length (AB.cells 0 (some 292) [i64 (zaf (s.take 4)),.str []] 0)) []:=by rw [es1];exact Keep.app _ _ _
 have r2:=r1.stays kx (by simp)
 have k02:=k1.trans kx (by simp)
 conv=>whnf
 refine zc5 (n:=m) (hp:=(h1++[AB.cells 0 (some 292) [i64 0,.str []] 0]).set h1.length (AB.cells 0 (some 292) [i64 (zaf (s.take 4)),.str []] 0)) (by omega) r2 2 (by omega) (fun h3 q3 r3 k3=>?_) (fun q=>bad _ (by simp only [zdj,pnum,if_pos q1,Option.bind_some,if_neg (Nat.not_le.2 q),Option.bind_none]) k02)
 have k03:=k02.trans k3 (fun z hz=>.inl hz)
 have x3:=k3.get x2 hbX'
 have lz:zaf ((s.drop 4).take 2)<65536:=Nat.lt_of_lt_of_eq (zb6 2 _ (by rw [List.length_take];omega)) (by decide)
 conv=>whnf
 refine zus (n:=m) (hp:=h3) (by omega) r3 _ (by omega) (fun h4 q4 r4 k4=>?_) (fun q=>bad _ (by simp only [zdj,pnum,zef,if_pos q1,if_pos q3,Option.bind_some,if_neg (Nat.not_le.2 q),Option.map_none]) k03)
 have k04:=k03.trans k4 (fun z hz=>.inl hz)
 have x4:=k4.get x3 hbX'
 conv=>whnf
 refine stJ x4 ?_
 conv=>whnf
 refine ldI (List.getElem?_set_self (zac x4)) ?_
 refine ⟨_,rfl,?_⟩
 show zf7 (zdj s) (zsi hp b) (fun h=>Keep hp h [b]) (.ret _) _
 have e:zdj s=some ((zaf (s.take 4),((s.drop 4).drop 2).take (zaf ((s.drop 4).take 2))),((s.drop 4).drop 2).drop (zaf ((s.drop 4).take 2))):=by
  simp only [zdj,pnum,zef,if_pos q1,if_pos q3,if_pos q4,Option.bind_some,Option.map_some]
 rw [e]
 exact ⟨rfl,r4.stays (Keep.set (F:=[h1.length]) (by simp)) (by simpa using hbX.symm),k04.set' (.inr k1.1)⟩
end
theorem zwx (h:zaa) (x:AV) (hx:x.cells?=some [x]):zax h 1 1 (.lst 1 [x] true)=some [x]:=by
 unfold zax
 simp only
 rw [if_pos ⟨Nat.le_refl _,.inl trivial⟩]
 simp [hx]
def row1 (ps:List Nat):List (List AV):=ps.map fun p:Nat=>[i64 p]
structure PG (hp:zaa) (X:Nat) (ver:Int) (ps:List Nat) (G:List Nat):Prop where
 ex:∃ L,hp[X]?=some (.cells 0 (some 145) [i64 ver,L] 0) ∧ GBuf 3 1 hp X L (row1 ps) G
theorem PG.lt {hp:zaa}{X:Nat}{ver:Int}{ps:List Nat}{G:List Nat}(h:PG hp X ver ps G):∀ x∈G,x<hp.length:=by
 obtain ⟨L,h1,h2⟩:=h.ex
 exact h2.lt (zac h1)
theorem PG.stays {hp hp':zaa}{X:Nat}{ver:Int}{ps:List Nat}{G F:List Nat}(h:PG hp X ver ps G) (k:Keep hp hp' F) (hG:∀ x∈G,x ∉ F):PG hp' X ver ps G:=by
 have hl:=h.lt
 obtain ⟨L,h1,h2⟩:=h.ex
 exact ⟨L,k.get h1 (hG _ h2.mem),h2.stays fun x hx _=>k.2 x (hl x hx) (hG x hx)⟩
section
variable {hp:zaa}{b:Nat}{s:Str}
theorem zpr {m:Nat}(hm:4 ≤ m) (r:RDs hp b s) {X:Nat}{ver:Int}(x:PG hp X ver [] [X]) (k:Nat) (hk:k<65536) (v11 v68 v69:AV) {Q:Ex → LS → Prop}{st:LS}
  (hs:LS.sub ⟨[(0,.ptr b 0 0),(11,v11),(12,.ptr X 0 0),(68,v68),(69,v69),(75,i64 k),(76,i64 0)],hp,[]⟩ st)
  (hE:∀ ps t G h,zcq k s=some (ps,t) → RDs h b t → PG h X ver ps G → Keep hp h [b,X] → (∀ z∈G,z=X ∨ hp.length ≤ z) → ∀ L,subL [(0,.ptr b 0 0),(11,v11),(12,.ptr X 0 0),(68,v68),(69,v69)] L → Q (.exit 5) ⟨L,h,[]⟩)
  (hP:∀ h L,zcq k s=none → Keep hp h [b,X] → Q (.pan badV) ⟨L,h,[]⟩) :
  OkR Tryz.prog (C m) cfg0.inl KK 95 7 (.loop (c231.lp 1)) st Q:=by
 have hbl:=r.lt
 have hbX:b≠X:=by
  rintro rfl
  obtain ⟨all,a,q,_⟩:=r
  obtain ⟨L,q2,_⟩:=x.ex
  rw [q] at q2;cases q2
 have hXl:X<hp.length:=by obtain ⟨L,q2,_⟩:=x.ex;exact zac q2
 refine za7 (by decide) rfl (α:=Nat × List Nat × Str × List Nat × zaa) (fun y=>⟨[(0,.ptr b 0 0),(11,v11),(12,.ptr X 0 0),(68,v68),(69,v69),(75,i64 k),(76,i64 y.1)],y.2.2.2.2,[]⟩)
  (fun y=>y.1 ≤ k ∧ PG y.2.2.2.2 X ver y.2.1 y.2.2.2.1 ∧ RDs y.2.2.2.2 b y.2.2.1 ∧ Keep hp y.2.2.2.2 [b,X] ∧ (∀ z∈y.2.2.2.1,z=X ∨ hp.length ≤ z) ∧ y.2.1.length=y.1 ∧ zcq k s=(zcq (k-y.1) y.2.2.1).map fun q=>(y.2.1++q.1,q.2))
  (fun y=>k-y.1) (0,[],s,[X],hp) hs ⟨Nat.zero_le _,x,r,Keep.refl _ _,fun z hz=>.inl (by simpa using hz),rfl,by simp⟩ (by show k-0<KK;simp only [KK];omega) ?_
 rintro ⟨j,ps,s1,G1,h1⟩ ⟨g1,g2,g3,g4,g5,g6,g7⟩
 simp only at g1 g2 g3 g4 g5 g6 g7
 have bG1:b ∉ G1:=fun q=>by
  rcases g5 _ q with q | q
  ·exact hbX q
  ·omega
 conv=>whnf
 refine brd (fun a=>?_) (fun a=>?_)
 ·have hj:j<k:=by simp only at a;omega
  obtain ⟨d,hd⟩ : ∃ d,k-j=d+1:=⟨k-j-1,by omega⟩
  have hd':k-(j+1)=d:=by omega
  rw [hd] at g7
  simp only [zcq] at g7
  obtain ⟨L,x1,x2⟩:=g2.ex
  conv=>whnf
  refine ldI x1 ?_
  conv=>whnf
  refine zc5 (n:=m) (hp:=h1) (by omega) g3 4 (by omega) (fun h3 q3 r3 k3=>?_) (fun q=>?_)
  ·have x3:=k3.get x1 (by simpa using hbX.symm)
   have b3:GBuf 3 1 h3 X L (row1 ps) G1:=x2.stays fun y hy hn=>k3.2 y (x2.lt (zac x1) y hy) (by simp;rintro rfl;exact bG1 hy)
   have k03:Keep hp h3 [b,X]:=g4.trans k3 (fun z hz=>.inl (by simp at hz;simp [hz]))
   have hlen:(row1 ps).length=j:=by simp [row1,g6]
   obtain ⟨v,oh,ea,hp2,G',ehp2,p1,p2,p3,p4,xs,p5,p6⟩:=zmq (x:=.lst 1 [i64 (zaf (s1.take 4))] true) b3 (zac x3) rfl (zwx _ _ rfl) ⟨rfl,rfl⟩ (by rw [hlen];omega)
   subst p6
   have f3:=p1.trans x3
   have next:∀ (L':LT),subL [(0,.ptr b 0 0),(11,v11),(12,.ptr X 0 0),(68,v68),(69,v69),(75,i64 k),(76,i64 ((j+1:Nat):Int))] L' → ∃ y:Nat × List Nat × Str × List Nat × zaa,(y.1 ≤ k ∧ PG y.2.2.2.2 X ver y.2.1 y.2.2.2.1 ∧ RDs y.2.2.2.2 b y.2.2.1 ∧ Keep hp y.2.2.2.2 [b,X] ∧ (∀ z∈y.2.2.2.1,z=X ∨ hp.length ≤ z) ∧ y.2.1.length=y.1 ∧ zcq k s=(zcq (k-y.1) y.2.2.1).map fun q=>(y.2.1++q.1,q.2)) ∧ k-y.1<k-j ∧ LS.sub ⟨[(0,.ptr b 0 0),(11,v11),(12,.ptr X 0 0),(68,v68),(69,v69),(75,i64 k),(76,i64 y.1)],y.2.2.2.2,[]⟩ ⟨L',hp2.set X (.cells 0 (some 145) (putAt [i64 ver,L] 1 [v]) 0),[]⟩:=fun L' hL=>by
    have eX:(hp2.set X (.cells 0 (some 145) (putAt [i64 ver,L] 1 [v]) 0))[X]?=some (.cells 0 (some 145) [i64 ver,v] 0):=by rw [List.getElem?_set_self (zac f3)];rfl
    have kS:Keep h3 (hp2.set X (.cells 0 (some 145) (putAt [i64 ver,L] 1 [v]) 0)) G1:=p3.set' (.inl b3.mem)
    refine ⟨(j+1,ps++[zaf (s1.take 4)],s1.drop 4,G',_),⟨hj,⟨v,eX,?_⟩,r3.stays kS bG1,?_,fun z hz=>?_,by simp [g6],?_⟩,by simp only;omega,hL,rfl,rfl⟩
    ·have:row1 (ps++[zaf (s1.take 4)])=row1 ps++[[i64 (zaf (s1.take 4))]]:=by simp [row1]
     rw [this]
     exact p2.stays fun y hy hn=>by rw [List.getElem?_set_ne (Ne.symm hn)]
    ·exact k03.trans kS (fun z hz=>by
      rcases g5 z hz with q | q
      ·exact .inl (by simp [q])
      ·exact .inr q)
    ·rcases p4 z hz with q | q
     ·exact g5 z q
     ·exact .inr (by have:=k03.1;omega)
    ·simp only
     rw [g7,hd']
     simp only [pnum,if_pos q3,Option.bind_some,Option.map_map]
     cases zcq d (s1.drop 4) with
     | none=>rfl
     | some r=>simp
   conv=>whnf
   refine ⟨?_,?_⟩
   ·conv=>whnf
    exact ldI x3 rfl
   conv=>whnf
   refine ⟨rfl,?_⟩
   refine ⟨_,ea,?_⟩
   subst ehp2
   cases oh with
   | none =>
    conv=>whnf
    refine stI f3 p5 (by rfl) (by rfl) (by rfl) ?_
    conv=>whnf
    refine zJ j ?_
    exact next _ ⟨rfl,rfl,rfl,rfl,rfl,rfl,rfl⟩
   | some h2 =>
    conv=>whnf
    refine stI f3 p5 (by rfl) (by rfl) (by rfl) ?_
    conv=>whnf
    refine zJ j ?_
    exact next _ ⟨rfl,rfl,rfl,rfl,rfl,rfl,rfl⟩
  ·conv=>whnf
   exact hP _ _ (by rw [g7];simp only [pnum,if_neg (Nat.not_le.2 q),Option.bind_none,Option.map_none]) g4
 ·have hj:j=k:=by simp only at a;omega
  subst hj
  conv=>whnf
  refine hE ps s1 G1 h1 ?_ g3 g2 g4 g5 _ ⟨rfl,rfl,rfl,rfl,rfl⟩
  rw [g7,Nat.sub_self]
  simp [zcq]
end
def Inr (h:zaa) (ps:List Nat) (L:AV) (I:List Nat):Prop:=(L=.lst 0 [] true ∧ ps=[]) ∨ ∃ eb ver frz,L=.sl 1 eb ver 0 ps.length ∧ h[eb]?=some (.cells ver (some 3) (ps.map fun p:Nat=>i64 p) frz) ∧ eb∈I
theorem Inr.stays {h h':zaa}{ps:List Nat}{L:AV}{I I':List Nat}(r:Inr h ps L I) (e:∀ x∈I,h'[x]?=h[x]?) (hs:∀ x∈I,x∈I'):Inr h' ps L I':=by
 rcases r with r | ⟨eb,ver,frz,r1,r2,r3⟩
 ·exact .inl r
 ·exact .inr ⟨eb,ver,frz,r1,by rw [e eb r3];exact r2,hs eb r3⟩
theorem Inr.scal {h:zaa}{ps:List Nat}{L:AV}{I:List Nat}(r:Inr h ps L I):AV.scal L=true:=by
 rcases r with ⟨rfl,_⟩ | ⟨eb,ver,frz,rfl,_⟩<;>rfl
theorem znr:∀ ps:List Nat,(row1 ps).flatten=ps.map fun p:Nat=>i64 p
 | []=>rfl
 | p::r=>by
  have:=znr r
  simp only [row1,List.map_cons,List.flatten_cons] at this ⊢
  rw [this];rfl
theorem GBuf.inr {h:zaa}{X:Nat}{L:AV}{ps:List Nat}{G:List Nat}(g:GBuf 3 1 h X L (row1 ps) G):Inr h ps L G:=by
 rcases g.2 with ⟨h1,h2,h3⟩ | ⟨eb,ver,frz,h1,h2,h3,h4,h5⟩
 ·left
  refine ⟨h1,?_⟩
  cases ps with
  | nil=>rfl
  | cons a r=>simp [row1] at h2
 ·right
  refine ⟨eb,ver,frz,?_,?_,by rw [h5];simp⟩
  ·rw [h1];simp [row1]
  ·rw [h2,znr]
theorem zra {x:Int}{L:AV}(h:AV.scal L=true):([i64 x,L]:List AV).all AV.scal=true:=by
 simp only [List.all_cons,List.all_nil,h,Bool.and_true];rfl
theorem zur {x:Int}{L:AV}(h:AV.scal L=true):AV.cells? (.agg [i64 x,L])=some [i64 x,L]:=by
 show (if ([i64 x,L]:List AV).all AV.scal=true then some [i64 x,L] else none)=_
 rw [if_pos (zra h)]
abbrev FT:Type:=Nat × List Nat × AV
def rowF (t:FT):List AV:=[i64 t.1,t.2.2]
def ofF (t:FT):Nat × List Nat:=(t.1,t.2.1)
structure LV (h:zaa) (Y:Nat) (LL:AV) (ts:List FT) (G I:List Nat):Prop where
 buf:GBuf 145 2 h Y LL (ts.map rowF) G
 inr:∀ t∈ts,Inr h t.2.1 t.2.2 I
theorem LV.stays {h h':zaa}{Y:Nat}{LL:AV}{ts:List FT}{G I:List Nat}(v:LV h Y LL ts G I) (e:∀ x∈G,x≠Y → h'[x]?=h[x]?) (ei:∀ x∈I,h'[x]?=h[x]?):LV h' Y LL ts G I :=
 ⟨v.buf.stays e,fun t ht=>(v.inr t ht).stays ei fun _ h=>h⟩
section
variable {hp:zaa}{b:Nat}{s:Str}
theorem zqd {m:Nat}(hm:4 ≤ m) (r:RDs hp b s) {Y:Nat}{next:Int}(y0:hp[Y]?=some (.cells 0 (some 294) [i64 next,.lst 0 [] true] 0)) (k:Nat) (hk:k<65536) {Q:Ex → LS → Prop}{st:LS}
  (hs:LS.sub ⟨[(0,.ptr b 0 0),(11,.ptr Y 0 0),(68,i64 k),(69,i64 0)],hp,[]⟩ st)
  (hE:∀ ts t G I LL h,zbu k s=some (ts.map ofF,t) → RDs h b t → h[Y]?=some (.cells 0 (some 294) [i64 next,LL] 0) → LV h Y LL ts G I → Keep hp h [b,Y] → (∀ z∈G,z=Y ∨ hp.length ≤ z) → (∀ z∈I,hp.length ≤ z) → ∀ L,subL [(11,.ptr Y 0 0)] L → Q (.exit 3) ⟨L,h,[]⟩)
  (hP:∀ h L,zbu k s=none → Keep hp h [b,Y] → Q (.pan badV) ⟨L,h,[]⟩) :
  OkR Tryz.prog (C m) cfg0.inl KK 95 7 (.loop (c231.lp 0)) st Q:=by
 have hbl:=r.lt
 have hYl:=zac y0
 have hbY:b≠Y:=by
  rintro rfl
  obtain ⟨all,a,q,_⟩:=r
  rw [q] at y0;cases y0
 refine za7 (by decide) rfl (α:=Nat × List FT × Str × List Nat × List Nat × AV × zaa) (fun y=>⟨[(0,.ptr b 0 0),(11,.ptr Y 0 0),(68,i64 k),(69,i64 y.1)],y.2.2.2.2.2.2,[]⟩)
  (fun y=>y.1 ≤ k ∧ y.2.2.2.2.2.2[Y]?=some (.cells 0 (some 294) [i64 next,y.2.2.2.2.2.1] 0) ∧ LV y.2.2.2.2.2.2 Y y.2.2.2.2.2.1 y.2.1 y.2.2.2.1 y.2.2.2.2.1 ∧ RDs y.2.2.2.2.2.2 b y.2.2.1 ∧ Keep hp y.2.2.2.2.2.2 [b,Y] ∧ (∀ z∈y.2.2.2.1,z=Y ∨ hp.length ≤ z) ∧ (∀ z∈y.2.2.2.2.1,hp.length ≤ z ∧ z ∉ y.2.2.2.1 ∧ z<y.2.2.2.2.2.2.length) ∧ y.2.1.length=y.1 ∧ zbu k s=(zbu (k-y.1) y.2.2.1).map fun q=>(y.2.1.map ofF++q.1,q.2))
  (fun y=>k-y.1) (0,[],s,[Y],[],.lst 0 [] true,hp) hs ⟨Nat.zero_le _,y0,⟨⟨by simp,.inl ⟨rfl,rfl,rfl⟩⟩,by simp⟩,r,Keep.refl _ _,fun z hz=>.inl (by simpa using hz),by simp,rfl,by simp⟩ (by show k-0<KK;simp only [KK];omega) ?_
 rintro ⟨j,ts,s1,G1,I1,LL,h1⟩ ⟨g1,g2,g3,g4,g5,g6,g7,g8,g9⟩
 simp only at g1 g2 g3 g4 g5 g6 g7 g8 g9
 have bG1:b ∉ G1:=fun q=>by
  rcases g6 _ q with q | q
  ·exact hbY q
  ·omega
 have bI1:b ∉ I1:=fun q=>by have:=(g7 _ q).1;omega
 conv=>whnf
 refine brd (fun a=>?_) (fun a=>?_)
 ·have hj:j<k:=by simp only at a;omega
  obtain ⟨d,hd⟩ : ∃ d,k-j=d+1:=⟨k-j-1,by omega⟩
  have hd':k-(j+1)=d:=by omega
  rw [hd] at g9
  simp only [zbu] at g9
  conv=>whnf
  refine zc5 (n:=m) (hp:=h1) (by omega) g4 6 (by omega) (fun h2 q2 r2 k2=>?_) (fun q=>?_)
  ·have k02:Keep hp h2 [b,Y]:=g5.trans k2 (fun z hz=>.inl (by simp at hz;simp [hz]))
   conv=>whnf
   refine stJ (zag _ _) ?_
   have es2:(h2++[AB.cells 0 (some 145) [i64 0,.lst 0 [] true] 0]).set h2.length (AB.cells 0 (some 145) [i64 (zaf (s1.take 6)),.lst 0 [] true] 0)=h2++[AB.cells 0 (some 145) [i64 (zaf (s1.take 6)),.lst 0 [] true] 0]:=by simp
   have hbX:b≠h2.length:=by have:=r2.lt;omega
   have hYX:Y≠h2.length:=by have:=k2.1;have:=zac g2;omega
   have x3:((h2++[AB.cells 0 (some 145) [i64 0,.lst 0 [] true] 0]).set h2.length (AB.cells 0 (some 145) [i64 (zaf (s1.take 6)),.lst 0 [] true] 0))[h2.length]?=some (AB.cells 0 (some 145) [i64 (zaf (s1.take 6)),.lst 0 [] true] 0):=by rw [es2];exact zag _ _
   have kx:Keep h2 ((h2++[AB.cells 0 (some 145) [i64 0,.lst 0 [] true] 0]).set h2.length (AB.cells 0 (some 145) [i64 (zaf (s1.take 6)),.lst 0 [] true] 0)) []:=by rw [es2];exact Keep.app _ _ _
   have r3:=r2.stays kx (by simp)
   have k03:=k02.trans kx (by simp)
   conv=>whnf
   refine zc5 (n:=m) (hp:=(h2++[AB.cells 0 (some 145) [i64 0,.lst 0 [] true] 0]).set h2.length (AB.cells 0 (some 145) [i64 (zaf (s1.take 6)),.lst 0 [] true] 0)) (by omega) r3 2 (by omega) (fun h4 q4 r4 k4=>?_) (fun q=>?_)
   ·have x4:=k4.get x3 (by simpa using hbX.symm)
    have k04:Keep hp h4 [b,Y]:=k03.trans k4 (fun z hz=>.inl (by simp at hz;simp [hz]))
    have lz:zaf ((s1.drop 6).take 2)<65536:=Nat.lt_of_lt_of_eq (zb6 2 _ (by rw [List.length_take];omega)) (by decide)
    have hX1:h1.length ≤ h2.length:=k2.1
    conv=>whnf
    refine zpr (hp:=h4) hm r4 (X:=h2.length) (ver:=(zaf (s1.take 6):Nat)) ⟨_,x4,⟨by simp [row1],.inl ⟨rfl,rfl,rfl⟩⟩⟩ _ lz (.ptr Y 0 0) (i64 k) (i64 j) ⟨⟨rfl,rfl,rfl,rfl,rfl,rfl,rfl⟩,rfl,rfl⟩ (fun ps t G5 h5 e5 r5 x5 k5 g5' L5 hL5=>?_) (fun h5 L5 e5 k5=>?_)
    ·have k15:Keep h1 h5 [b]:=((k2.trans kx (by simp)).trans k4 (fun z hz=>.inl hz)).trans k5 (fun z hz=>by
      simp at hz
      rcases hz with rfl | rfl
      ·exact .inl (by simp)
      ·exact .inr hX1)
     have y5:=k15.get g2 (by simpa using hbY.symm)
     have lG1:=g3.buf.lt (zac g2)
     have l5:LV h5 Y LL ts G1 I1:=g3.stays (fun x hx _=>k15.2 x (lG1 x hx) (by simp;rintro rfl;exact bG1 hx)) (fun x hx=>k15.2 x (g7 x hx).2.2 (by simp;rintro rfl;exact bI1 hx))
     have lG5:=x5.lt
     obtain ⟨L,x5a,x5b⟩:=x5.ex
     have hi:=x5b.inr
     have hsc:=hi.scal
     have l14:h1.length ≤ h4.length:=((k2.trans kx (by simp)).trans k4 (fun z hz=>.inl hz)).1
     have gG5:∀ z∈G5,h1.length ≤ z:=fun z hz=>by
      rcases g5' z hz with q | q
      ·omega
      ·omega
     obtain ⟨v,oh,ea,hp2,G',ehp2,p1,p2,p3,p4,xs,p5,p6⟩:=zmq (x:=.lst 2 [.agg [i64 (zaf (s1.take 6)),L]] true) l5.buf (zac y5) rfl (zol _ rfl (zur hsc)) ⟨rfl,zra hsc⟩ (by simp only [List.length_map];omega)
     subst p6
     have f5:=p1.trans y5
     have nxt:∀ (L':LT),subL [(0,.ptr b 0 0),(11,.ptr Y 0 0),(68,i64 k),(69,i64 ((j+1:Nat):Int))] L' → ∃ y:Nat × List FT × Str × List Nat × List Nat × AV × zaa,(y.1 ≤ k ∧ y.2.2.2.2.2.2[Y]?=some (.cells 0 (some 294) [i64 next,y.2.2.2.2.2.1] 0) ∧ LV y.2.2.2.2.2.2 Y y.2.2.2.2.2.1 y.2.1 y.2.2.2.1 y.2.2.2.2.1 ∧ RDs y.2.2.2.2.2.2 b y.2.2.1 ∧ Keep hp y.2.2.2.2.2.2 [b,Y] ∧ (∀ z∈y.2.2.2.1,z=Y ∨ hp.length ≤ z) ∧ (∀ z∈y.2.2.2.2.1,hp.length ≤ z ∧ z ∉ y.2.2.2.1 ∧ z<y.2.2.2.2.2.2.length) ∧ y.2.1.length=y.1 ∧ zbu k s=(zbu (k-y.1) y.2.2.1).map fun q=>(y.2.1.map ofF++q.1,q.2)) ∧ k-y.1<k-j ∧ LS.sub ⟨[(0,.ptr b 0 0),(11,.ptr Y 0 0),(68,i64 k),(69,i64 y.1)],y.2.2.2.2.2.2,[]⟩ ⟨L',hp2.set Y (.cells 0 (some 294) (putAt [i64 next,LL] 1 [v]) 0),[]⟩:=fun L' hL=>by
      have kS:Keep h5 (hp2.set Y (.cells 0 (some 294) (putAt [i64 next,LL] 1 [v]) 0)) G1:=p3.set' (.inl l5.buf.mem)
      have eY:(hp2.set Y (.cells 0 (some 294) (putAt [i64 next,LL] 1 [v]) 0))[Y]?=some (.cells 0 (some 294) [i64 next,v] 0):=by rw [List.getElem?_set_self (zac f5)];rfl
      have n5:∀ z∈G5,z ∉ G1:=fun z hz q=>by have:=gG5 z hz;have:=lG1 z q;omega
      have sI:∀ x∈I1,(hp2.set Y (.cells 0 (some 294) (putAt [i64 next,LL] 1 [v]) 0))[x]?=h5[x]?:=fun x hx=>kS.2 x (by have:=(g7 x hx).2.2;have:=k15.1;omega) (g7 x hx).2.1
      have s5:∀ x∈G5,(hp2.set Y (.cells 0 (some 294) (putAt [i64 next,LL] 1 [v]) 0))[x]?=h5[x]?:=fun x hx=>kS.2 x (lG5 x hx) (n5 x hx)
      have hl1:=g5.1
      have hl2:=k15.1
      have hl3:=kS.1
      refine ⟨(j+1,ts++[(zaf (s1.take 6),ps,L)],t,G',I1++G5,v,_),⟨hj,eY,⟨?_,fun u hu=>?_⟩,r5.stays kS bG1,?_,fun z hz=>?_,fun z hz=>?_,by simp [g8],?_⟩,by simp only;omega,hL,rfl,rfl⟩
      ·rw [List.map_append]
       exact p2.stays fun y hy hn=>by rw [List.getElem?_set_ne (Ne.symm hn)]
      ·rcases List.mem_append.1 hu with hu | hu
       ·exact (l5.inr u hu).stays sI fun x hx=>List.mem_append.2 (.inl hx)
       ·simp at hu
        subst hu
        exact hi.stays s5 fun x hx=>List.mem_append.2 (.inr hx)
      ·exact (g5.trans k15 (fun z hz=>.inl (by simp at hz;simp [hz]))).trans kS (fun z hz=>by
        rcases g6 z hz with q | q
        ·exact .inl (by simp [q])
        ·exact .inr q)
      ·rcases p4 z hz with q | q
       ·exact g6 z q
       ·exact .inr (by omega)
      ·rcases List.mem_append.1 hz with q | q
       ·obtain ⟨a1,a2,a3⟩:=g7 z q
        refine ⟨a1,fun q2=>?_,by simp only;omega⟩
        rcases p4 z q2 with q3 | q3
        ·exact a2 q3
        ·omega
       ·have a1:=gG5 z q
        have a2:=lG5 z q
        refine ⟨by omega,fun q2=>?_,by simp only;omega⟩
        rcases p4 z q2 with q3 | q3
        ·exact n5 z q q3
        ·omega
      ·simp only
       rw [g9,hd']
       have e1:pnum 6 s1=some (zaf (s1.take 6),s1.drop 6):=by simp only [pnum,if_pos q2]
       have e2:pnum 2 (s1.drop 6)=some (zaf ((s1.drop 6).take 2),(s1.drop 6).drop 2):=by simp only [pnum,if_pos q4]
       rw [e1]
       simp only [Option.bind_some]
       rw [e2]
       simp only [Option.bind_some]
       rw [e5]
       simp only [Option.bind_some,Option.map_map]
       cases zbu d t with
       | none=>rfl
       | some r=>simp [ofF]
     conv=>whnf
     refine cutI (by decide) rfl (t:=⟨[(0,.ptr b 0 0),(11,.ptr Y 0 0),(12,.ptr h2.length 0 0),(68,i64 k),(69,i64 j)],h5,[]⟩) ⟨hL5,rfl,rfl⟩ ?_
     subst ehp2
     rcases hi with ⟨rfl,e⟩ | ⟨eb,ver',frz',rfl,i1,i2⟩
     ·conv=>whnf
      refine ldI y5 ?_
      conv=>whnf
      refine ldI x5a ?_
      conv=>whnf
      refine ⟨rfl,?_⟩
      refine ⟨_,ea,?_⟩
      cases oh with
      | none =>
       conv=>whnf
       refine stI f5 p5 (by rfl) (by rfl) (by rfl) ?_
       refine cutI (by decide) rfl (t:=⟨[(0,.ptr b 0 0),(11,.ptr Y 0 0),(68,i64 k),(69,i64 j)],_,[]⟩) ⟨⟨rfl,rfl,rfl,rfl⟩,rfl,rfl⟩ ?_
       conv=>whnf
       refine zJ j ?_
       exact nxt _ ⟨rfl,rfl,rfl,rfl⟩
      | some h9 =>
       conv=>whnf
       refine stI f5 p5 (by rfl) (by rfl) (by rfl) ?_
       refine cutI (by decide) rfl (t:=⟨[(0,.ptr b 0 0),(11,.ptr Y 0 0),(68,i64 k),(69,i64 j)],_,[]⟩) ⟨⟨rfl,rfl,rfl,rfl⟩,rfl,rfl⟩ ?_
       conv=>whnf
       refine zJ j ?_
       exact nxt _ ⟨rfl,rfl,rfl,rfl⟩
     ·conv=>whnf
      refine ldI y5 ?_
      conv=>whnf
      refine ldI x5a ?_
      conv=>whnf
      refine ⟨rfl,?_⟩
      refine ⟨_,ea,?_⟩
      cases oh with
      | none =>
       conv=>whnf
       refine stI f5 p5 (by rfl) (by rfl) (by rfl) ?_
       refine cutI (by decide) rfl (t:=⟨[(0,.ptr b 0 0),(11,.ptr Y 0 0),(68,i64 k),(69,i64 j)],_,[]⟩) ⟨⟨rfl,rfl,rfl,rfl⟩,rfl,rfl⟩ ?_
       conv=>whnf
       refine zJ j ?_
       exact nxt _ ⟨rfl,rfl,rfl,rfl⟩
      | some h9 =>
       conv=>whnf
       refine stI f5 p5 (by rfl) (by rfl) (by rfl) ?_
       refine cutI (by decide) rfl (t:=⟨[(0,.ptr b 0 0),(11,.ptr Y 0 0),(68,i64 k),(69,i64 j)],_,[]⟩) ⟨⟨rfl,rfl,rfl,rfl⟩,rfl,rfl⟩ ?_
       conv=>whnf
       refine zJ j ?_
       exact nxt _ ⟨rfl,rfl,rfl,rfl⟩
    ·conv=>whnf
     refine hP _ _ ?_ (k04.trans k5 (fun z hz=>?_))
     ·rw [g9]
      simp only [pnum,if_pos q2,if_pos q4,Option.bind_some,e5,Option.bind_none,Option.map_none]
     ·simp at hz
      rcases hz with rfl | rfl
      ·exact .inl (by simp)
      ·exact .inr k02.1
   ·conv=>whnf
    exact hP _ _ (by rw [g9];simp only [pnum,if_pos q2,Option.bind_some,if_neg (Nat.not_le.2 q),Option.bind_none,Option.map_none]) k03
  ·conv=>whnf
   exact hP _ _ (by rw [g9];simp only [pnum,if_neg (Nat.not_le.2 q),Option.bind_none,Option.map_none]) g5
 ·have hj:j=k:=by simp only at a;omega
  subst hj
  conv=>whnf
  refine hE ts s1 G1 I1 LL h1 ?_ g4 g2 g3 g5 g6 (fun z hz=>(g7 z hz).1) _ rfl
  rw [g9,Nat.sub_self]
  simp [zbu]
end
section
variable {n:Nat}{hp:zaa}{b:Nat}{s:Str}
def z3w (hp:zaa) (b:Nat) (x:Nat × List (Nat × List Nat)) (t:Str) (r:CRes) (h:zaa):Prop :=
 ∃ Y LL ts G I,r=.ret (.ifc 294 (.agg [i64 x.1,LL])) ∧ x.2=ts.map ofF ∧ RDs h b t ∧ LV h Y LL ts G I ∧ Keep hp h [b] ∧ (∀ z∈G,hp.length ≤ z) ∧ (∀ z∈I,hp.length ≤ z)
theorem z2v (hn:5 ≤ n) (r:RDs hp b s) (kind:Int) (k1:kind≠1) (k2:kind≠2) (k3:kind≠3) :
  ∃ r h,C n 231 [.ptr b 0 0,i64 kind] hp=some (r,h) ∧ zf7 (zhn s) (z3w hp b) (fun h=>Keep hp h [b]) r h:=by
 obtain ⟨m,rfl⟩:=pre1 n
 refine zbh (n:=m) (c:=cfg0) F231 rfl rfl ?_
 have hb:=r.lt
 have bad:∀ (h:zaa),zhn s=none → Keep hp h [b] → zf7 (zhn s) (z3w hp b) (fun h=>Keep hp h [b]) (.pan badV) h:=fun h q k=>by
  rw [q]
  exact ⟨rfl,k⟩
 conv=>whnf
 refine bre (fun e=>absurd e k1) (fun _=>?_)
 conv=>whnf
 refine bre (fun e=>absurd e k2) (fun _=>?_)
 conv=>whnf
 refine bre (fun e=>absurd e k3) (fun _=>?_)
 refine cutS (by decide) rfl ?_
 conv=>whnf
 refine zc5 (n:=m) (hp:=hp) (by omega) r 4 (by omega) (fun h1 q1 r1 k1=>?_) (fun q=>bad _ (by simp only [zhn,pnum,if_neg (Nat.not_le.2 q),Option.bind_none]) (Keep.refl _ _))
 conv=>whnf
 refine stJ (zag _ _) ?_
 have es1:(h1++[AB.cells 0 (some 294) [i64 0,.lst 0 [] true] 0]).set h1.length (AB.cells 0 (some 294) [i64 (zaf (s.take 4)),.lst 0 [] true] 0)=h1++[AB.cells 0 (some 294) [i64 (zaf (s.take 4)),.lst 0 [] true] 0]:=by simp
 have hbX:h1.length≠b:=by have:=r1.lt;omega
 have hbX':h1.length ∉ [b]:=by simpa using hbX
 have x2:((h1++[AB.cells 0 (some 294) [i64 0,.lst 0 [] true] 0]).set h1.length (AB.cells 0 (some 294) [i64 (zaf (s.take 4)),.lst 0 [] true] 0))[h1.length]?=some (AB.cells 0 (some 294) [i64 (zaf (s.take 4)),.lst 0 [] true] 0):=by rw [es1];exact zag _ _
 have kx:Keep h1 ((h1++[AB.cells 0 (some 294) [i64 0,.lst 0 [] true] 0]).set h1.length (AB.cells 0 (some 294) [i64 (zaf (s.take 4)),.lst 0 [] true] 0)) []:=by rw [es1];exact Keep.app _ _ _
 have r2:=r1.stays kx (by simp)
 have k02:=k1.trans kx (by simp)
 conv=>whnf
 refine zc5 (n:=m) (hp:=(h1++[AB.cells 0 (some 294) [i64 0,.lst 0 [] true] 0]).set h1.length (AB.cells 0 (some 294) [i64 (zaf (s.take 4)),.lst 0 [] true] 0)) (by omega) r2 2 (by omega) (fun h3 q3 r3 k3=>?_) (fun q=>bad _ (by simp only [zhn,pnum,if_pos q1,Option.bind_some,if_neg (Nat.not_le.2 q),Option.bind_none]) k02)
 have k03:=k02.trans k3 (fun z hz=>.inl hz)
 have x3:=k3.get x2 hbX'
 have lz:zaf ((s.drop 4).take 2)<65536:=Nat.lt_of_lt_of_eq (zb6 2 _ (by rw [List.length_take];omega)) (by decide)
 have e0:zhn s=(zbu (zaf ((s.drop 4).take 2)) ((s.drop 4).drop 2)).map fun d=>((zaf (s.take 4),d.1),d.2):=by
  simp only [zhn,pnum,if_pos q1,if_pos q3,Option.bind_some]
 have l13:hp.length ≤ h1.length:=k1.1
 have l3:hp.length ≤ h3.length:=k03.1
 conv=>whnf
 refine zqd (hp:=h3) (by omega) r3 (Y:=h1.length) (next:=(zaf (s.take 4):Nat)) x3 _ lz ⟨⟨rfl,rfl,rfl,rfl⟩,rfl,rfl⟩ (fun ts t G I LL h e5 r5 y5 l5 k5 g5 i5 L5 hL5=>?_) (fun h L e5 k5=>?_)
 ·refine cutI (by decide) rfl (t:=⟨[(11,.ptr h1.length 0 0)],h,[]⟩) ⟨hL5,rfl,rfl⟩ ?_
  conv=>whnf
  refine ldI y5 ?_
  refine ⟨_,rfl,?_⟩
  show zf7 (zhn s) (z3w hp b) (fun h=>Keep hp h [b]) (.ret _) _
  rw [e0,e5]
  refine ⟨h1.length,LL,ts,G,I,rfl,rfl,r5,l5,k03.trans k5 (fun z hz=>?_),fun z hz=>?_,fun z hz=>?_⟩
  ·simp at hz
   rcases hz with rfl | rfl
   ·exact .inl (by simp)
   ·exact .inr l13
  ·rcases g5 z hz with q | q
   ·omega
   ·omega
  ·have:=i5 z hz
   omega
 ·refine bad h (by rw [e0,e5];rfl) (k03.trans k5 (fun z hz=>?_))
  simp at hz
  rcases hz with rfl | rfl
  ·exact .inl (by simp)
  ·exact .inr l13
end
theorem zlu {sz:Nat}:∀ {rows:List (List AV)},(∀ r∈rows,r.length=sz) → zj0 sz rows.length rows.flatten=rows
 | [],_=>rfl
 | a::r,h=>by
  have h1:=h a (List.mem_cons_self ..)
  show (a++r.flatten).take sz::zj0 sz r.length ((a++r.flatten).drop sz)=_
  rw [← h1,List.take_left',List.drop_left']
  ·rw [h1,zlu fun x hx=>h x (List.mem_cons_of_mem _ hx)]
  ·rfl
  ·rfl
theorem zrh {sz:Nat}:∀ {rows:List (List AV)},(∀ r∈rows,r.length=sz) → rows.flatten.length=rows.length*sz
 | [],_=>by simp
 | a::r,h=>by
  have h1:=h a (List.mem_cons_self ..)
  have h2:=zrh fun x hx=>h x (List.mem_cons_of_mem _ hx)
  simp only [List.flatten_cons,List.length_append,List.length_cons,h1,h2]
  rw [Nat.add_mul];omega
theorem zsg {f:AV → Option AV}:∀ {a a' b b':List AV},allM f a=some a' → allM f b=some b' → allM f (a++b)=some (a'++b')
 | [],a',b,b',h1,h2=>by
  unfold allM at h1
  cases h1
  exact h2
 | x::xs,a',b,b',h1,h2=>by
  unfold allM at h1
  split at h1
  ·rename_i y ys hx hxs
   cases h1
   show allM f (x::(xs++b))=_
   unfold allM
   rw [hx,zsg hxs h2]
   rfl
  ·cases h1
theorem zwo {h:zaa}{n sz eb ver frz:Nat}{el:Option TypeId}{rows rows':List (List AV)}(hz:sz≠1) (hb:h[eb]?=some (.cells ver el rows.flatten frz)) (hr:∀ r∈rows,r.length=sz) (ha:allM (Abs.frz h n) rows.flatten=some rows'.flatten)
  (hr':∀ r∈rows',r.length=sz ∧ r.all AV.scal=true) (hl:rows'.length=rows.length):Abs.frz h (n+1) (.sl sz eb ver 0 rows.length)=some (.lst sz (rows'.map .agg) false):=by
 unfold Abs.frz
 simp only [hb]
 have hlen:=zrh hr
 rw [if_pos ⟨trivial,by rw [hlen];omega⟩]
 have h1:(rows.flatten.drop 0).take (rows.length*sz)=rows.flatten:=by rw [List.drop_zero];exact List.take_of_length_le (by rw [hlen];exact Nat.le_refl _)
 rw [h1,ha]
 simp only
 have h2:=(zem hr').2
 rw [if_pos h2]
 unfold zf9
 rw [if_neg hz]
 have e:za9 (TypeDesc.struct #[])=true:=rfl
 simp only [e,if_true]
 rw [← hl,zlu fun r hm=>(hr' r hm).1]
theorem z28 {h:zaa}{n eb ver frz:Nat}{el:Option TypeId}{ps:List Nat}(hb:h[eb]?=some (.cells ver el (ps.map fun p:Nat=>i64 p) frz)):Abs.frz h (n+2) (.sl 1 eb ver 0 ps.length)=some (.lst 1 (ps.map fun p:Nat=>i64 p) false):=by
 unfold Abs.frz
 simp only [hb]
 have hlen:(ps.map fun p:Nat=>i64 p).length=ps.length*1:=by simp
 rw [if_pos ⟨trivial,by rw [hlen];omega⟩]
 have h1:((ps.map fun p:Nat=>i64 p).drop 0).take (ps.length*1)=ps.map fun p:Nat=>i64 p:=by rw [List.drop_zero];exact List.take_of_length_le (by rw [hlen];exact Nat.le_refl _)
 have h2:allM (Abs.frz h (n+1)) (ps.map fun p:Nat=>i64 p)=some (ps.map fun p:Nat=>i64 p):=zeo fun x hx=>by
  obtain ⟨p,_,rfl⟩:=List.mem_map.1 hx
  rfl
 rw [h1,h2]
 simp only
 rw [if_pos (by rw [List.all_eq_true];intro x hx;obtain ⟨p,_,rfl⟩:=List.mem_map.1 hx;rfl)]
 rfl
theorem zo6 {n:Nat}(e:Entry):∀ x∈e.cells,zex (n+1) x:=fun x hx=>by
 simp only [Entry.cells,Dg.cells,List.mem_cons,List.not_mem_nil,or_false] at hx
 rcases hx with rfl | rfl | rfl | rfl | rfl | rfl | rfl | rfl | rfl | rfl | rfl | rfl | rfl | rfl | rfl | rfl | rfl | rfl | rfl | rfl | rfl | rfl<;>intro h<;>rfl
theorem zz7 {h:zaa}{X:Nat}{L:AV}{es:List Entry}{G:List Nat}(g:GBuf 147 22 h X L (es.map Entry.cells) G) (n:Nat):∃ sh:Sh,Abs.frz h (n+2) L=some (.lst sh.sz (es.map Entry.av) sh.c) ∧ (es≠[] → sh.sz=22):=by
 have hr:∀ r∈es.map Entry.cells,r.length=22 ∧ r.all AV.scal=true:=g.1
 rcases g.2 with ⟨rfl,h2,_⟩ | ⟨eb,ver,frz,rfl,h2,_⟩
 ·have:es=[]:=by simpa using h2
  subst this
  exact ⟨⟨0,true⟩,rfl,fun h=>(h rfl).elim⟩
 ·refine ⟨⟨22,false⟩,?_,fun _=>rfl⟩
  rw [zwo (by decide) h2 (fun r hm=>(hr r hm).1) (zeo fun x hx=>?_) hr rfl]
  ·rw [List.map_map];rfl
  ·obtain ⟨r,hm,hx⟩:=List.mem_flatten.1 hx
   obtain ⟨e,_,rfl⟩:=List.mem_map.1 hm
   exact zo6 e x hx h
theorem z29 {h:zaa}{ps:List Nat}{L:AV}{I:List Nat}(r:Inr h ps L I) (n:Nat):∃ sh:Sh,Abs.frz h (n+2) L=some (.lst sh.sz ((ps.map fun p:Nat=>(p:Int)).map i64) sh.c) ∧ (ps≠[] → sh.sz=1):=by
 rcases r with ⟨rfl,rfl⟩ | ⟨eb,ver,frz,rfl,h2,_⟩
 ·exact ⟨⟨0,true⟩,rfl,fun h=>(h rfl).elim⟩
 ·refine ⟨⟨1,false⟩,?_,fun _=>rfl⟩
  rw [z28 h2,List.map_map]
  rfl
def z3y (f:Freed) (t:Nat × List Nat):Prop:=f.ver=t.1 ∧ f.pages=t.2.map (fun p:Nat=>(p:Int)) ∧ f.Ok
inductive FsAre:List Freed → List (Nat × List Nat) → Prop
 | nil:FsAre [] []
 | cons {f:Freed}{t:Nat × List Nat}{fs:List Freed}{ts:List (Nat × List Nat)}(h:z3y f t) (r:FsAre fs ts):FsAre (f::fs) (t::ts)
theorem FsAre.length_eq:∀ {fs:List Freed}{ts:List (Nat × List Nat)},FsAre fs ts → fs.length=ts.length
 | _,_,.nil=>rfl
 | _,_,.cons _ r=>by simp [r.length_eq]
theorem zrz {h:zaa}{I:List Nat}(n:Nat):∀ {ts:List FT},(∀ t∈ts,Inr h t.2.1 t.2.2 I) → ∃ fs:List Freed,allM (Abs.frz h (n+2)) (ts.map rowF).flatten=some (fs.map Freed.cells).flatten ∧ FsAre fs (ts.map ofF)
 | [],_=>⟨[],rfl,.nil⟩
 | t::r,hi=>by
  obtain ⟨fs,h1,h2⟩:=zrz n fun u hu=>hi u (List.mem_cons_of_mem _ hu)
  obtain ⟨sh,h3,h4⟩:=z29 (hi t (List.mem_cons_self ..)) n
  refine ⟨⟨t.1,sh,t.2.1.map fun p:Nat=>(p:Int)⟩::fs,?_,.cons ⟨rfl,rfl,fun q=>h4 fun e=>q (by show List.map _ t.2.1=[];rw [e];rfl)⟩ h2⟩
  refine zsg (a:=rowF t) (a':=Freed.cells ⟨t.1,sh,t.2.1.map fun p:Nat=>(p:Int)⟩) ?_ h1
  show allM (Abs.frz h (n+2)) [i64 t.1,t.2.2]=some [i64 t.1,_]
  unfold allM allM
  rw [h3]
  rfl
theorem zz6 {h:zaa}{Y:Nat}{LL:AV}{ts:List FT}{G I:List Nat}(v:LV h Y LL ts G I) (n:Nat):∃ (sh:Sh) (fs:List Freed),Abs.frz h (n+3) LL=some (.lst sh.sz (fs.map Freed.av) sh.c) ∧ (fs≠[] → sh.sz=2) ∧ FsAre fs (ts.map ofF):=by
 obtain ⟨fs,h1,h2⟩:=zrz n v.inr
 rcases v.buf.2 with ⟨rfl,h3,_⟩ | ⟨eb,ver,frz,rfl,h3,_⟩
 ·have:ts=[]:=by simpa using h3
  subst this
  exact ⟨⟨0,true⟩,[],rfl,fun h=>(h rfl).elim,.nil⟩
 ·refine ⟨⟨2,false⟩,fs,?_,fun _=>rfl,h2⟩
  have e:=h2.length_eq
  rw [zwo (by decide) h3 (fun r hm=>(v.buf.1 r hm).1) h1 (fun r hm=>by
   obtain ⟨f,_,rfl⟩:=List.mem_map.1 hm
   exact ⟨rfl,rfl⟩) (by simpa using e)]
  rw [List.map_map];rfl
section
variable {n:Nat}{f:FuncId}{rc:RC}{args:List AV}{np nt d:Nat}{rs:List ResultVar}
theorem zjk {S:CRes → Prop}(F:FunIs Tryz.prog cfg0.inl f np nt d rs rc) (hi:cfg0.inl f=false) (hs:cfg0.sum f args=none) (hl:args.length=np) (hp:zan args=true)
  (W:Wp Tryz.prog (C n) cfg0.inl KK nt d rc ⟨zcr 0 args,[],[]⟩ (EndQ Tryz.prog (C n) cfg0.inl rs (fun r h=>∃ r',OutR r' r h ∧ S r'))):∃ r',(∀ h,C (n+1) f args h=some (r',h)) ∧ S r':=by
 obtain ⟨r,h',h1,r',ho,h2⟩:=zm5 F hl W
 have hlt:f<Tryz.prog.funcs.size:=by
  obtain ⟨fn,hfn,_⟩:=F.fn
  rcases Nat.lt_or_ge f Tryz.prog.funcs.size with h | h
  ·exact h
  ·rw [Array.getElem?_eq_none h] at hfn;cases hfn
 refine ⟨r',fun h=>?_,h2⟩
 show CN _ _ _ _ _ _=_
 unfold CN zb4
 simp only [hi,hs,Bool.false_eq_true,if_false,hp,hlt,decide_true,Bool.and_self,if_true]
 unfold zhm
 change zm6 _ (zb4 _ _ _ _ _) (zcf _ _ (zb4 _ _ _ _ _)) _ _ _ _=_ at h1
 rw [h1]
 cases r with
 | ret v=>obtain ⟨w,e1,e2⟩:=ho;subst e2;simp only [CRes.map?,e1,Option.map_some]
 | pan v=>obtain ⟨w,e1,e2⟩:=ho;subst e2;simp only [CRes.map?,e1,Option.map_some]
end
def c206:RC :=
 (.seq (.ops [(oP 2 (.alloc 79 zPl)),(oP 3 (.alloc 4 [(.bool false)]))])
 (.seq (.ops [(oP 8 (.mkFn (.func 230) [] [(.t 2),(.t 3)])),
 ⟨none,none,.dfr { callee:=.value (.tmp 8),args:=#[],argTypes:=#[] }⟩])
 (.seq (.ops [(mV 9 0),(oP 10 (.sliceS (.t 9) none (some (.c (.int .i64 508))))),(oP 11 (.build [(.str []),(.int .i64 0)] [(0,1,(.t 10)),(1,1,(.c (.int .i64 1)))])),(oP 12 (.build [(.str []),(.int .i64 0)] [(0,2,(.t 11))])),(oP 13 (.box 312 (.t 12))),(mV 4 13)])
 (.seq (.ops [(mV 14 4),(oP 15 (.callF 229 [(.t 14),(.c (.int .i64 1))])),(oC 16 0 2),(oT 1 16 15)])
 (.seq (.ops [(mV 17 4),(oP 18 (.callF 229 [(.t 17),(.c (.int .i64 4))])),(oC 19 1 2),(oT 1 19 18)])
 (.seq (.ops [(mV 20 4),(oP 21 (.callF 229 [(.t 20),(.c (.int .i64 6))])),(oC 22 2 2),(oT 1 22 21)])
 (.cut (.seq (.seq (.ops [(mV 23 4),(oC 24 0 2),(oA 25 24),(oW 26 231 23 25)])
 (.block 0
 (.seq (.ops [(oP 27 (.asrt 296 true true (.t 26))),(oQ 28 27 1),(oQ 29 27 0)])
 (.cond (.t 28)
 (.seq (.ops [(oP 5 (.alloc 296 [(.int .i64 0),(.int .i64 0),(.bool false),(.lst 0 [] true)])),(oT 4 5 29)])
 (.draw [((oC 30 0 5),0),((oA 31 30),1),((oC 32 1 5),0),((oA 33 32),1),((oC 34 2 5),0),((oA 35 34),1),((oC 36 3 5),0),((oA 37 36),1),((oC 38 3 2),0),((oT 1 38 31),2),((oC 39 4 2),0),((oT 1 39 33),2),((oC 40 5 2),0),((oT 1 40 35),2),((oC 41 6 2),0),((oT 1 41 37),3)]))
 (.seq (.ops [(oP 42 (.asrt 292 true true (.t 26))),(oQ 43 42 1),(oQ 44 42 0)])
 (.cond (.t 43)
 (.seq (.ops [(oP 6 (.alloc 292 [(.int .i64 0),(.str [])])),(oT 2 6 44)])
 (.draw [((oC 45 0 6),0),((oA 46 45),1),((oC 47 1 6),0),((oA 48 47),1),((oC 49 7 2),0),((oT 1 49 46),2),((oC 50 8 2),0),((oT 1 50 48),3)]))
 (.seq (.ops [(oP 51 (.asrt 294 true true (.t 26))),(oQ 52 51 1),(oQ 53 51 0)])
 (.cond (.t 52)
 (.seq (.ops [(oP 7 (.alloc 294 [(.int .i64 0),(.lst 0 [] true)])),(oT 2 7 53)])
 (.draw [((oC 54 0 7),0),((oA 55 54),1),((oC 56 1 7),0),((oA 57 56),1),((oC 58 7 2),0),((oT 1 58 55),2),((oC 59 9 2),0),((oT 1 59 57),3)]))
 .skip))))))))
 (.seq (.ops [(oB 60 10 2),(oT 10 2 60),(oU (.store 1 (.t 3) (.c (.bool true))))])
 .ret)))))))))
theorem F206:FI 206 1 61 6 [.cell 2 79,.cell 3 4] c206:=mkF Tryz.f206 Tryz.func206
def c230:RC :=
 (.seq (.ops [(oP 5 (.raw { dst:=(some 5),op:=(.call { callee:=.builtin .recover,args:=#[],argTypes:=#[] }),type:=20,pos := "block.go:262",after:=#[],guard:=none })),(mV 2 5)])
 (.seq (.ops [(mV 6 2),(oP 7 (.isNilI true (.t 6)))])
 (.cond (.t 7)
 (.seq (.seq (.ops [(mV 9 2),(oP 10 (.asrt 314 true true (.t 9))),(mV 8 10),(oQ 11 8 0),(oQ 12 8 1),(oP 3 (.alloc 314 [])),(oT 0 3 11),(mV 4 12)])
 (.seq (.ops [(mV 13 4),(oP 14 (.un .not (.t 13)))])
 (.cond (.t 14)
 (.ops [(mV 15 2),
 ⟨none,none,.pan (.t 15)⟩])
 .skip)))
 (.ops [(oP 16 (.build zPl [])),(oT 10 0 16),(oU (.store 1 (.t 1) (.c (.bool false))))]))
 .skip)))
def c205:RC :=
 (.seq (.ops [(oH 2 0),(oH 3 0),(oH 4 0),(oH 5 0)])
 (.seq (.seq (.ops [(mV 7 0),(oP 8 (.lenS (.t 7))),(oJ 9 .neq 8 512),(mV 10 9),(oE 11 10 false 0),(oG 12 10 false (.indexS (.t 11) (.c (.int .i64 0)))),(oG 13 10 false (.bin .neq (.t 12) (.c (.int .u8 85)))),(oM 14 10 13),(mV 15 14),(oE 16 15 false 0),(oG 17 15 false (.sliceS (.t 16) none (some (.c (.int .i64 508))))),(oG 18 15 false (.callF 179 [(.t 17)])),(oE 19 15 false 0),(oG 20 15 false (.bin .neq (.t 18) (.t 19))),(oM 21 15 20),(mV 22 21),(oE 23 22 false 0),(oG 24 22 false (.indexS (.t 23) (.c (.int .i64 1)))),(oG 25 22 false (.toInt .i64 (.t 24))),(oG 26 22 false (.callF 191 [(.t 25),(.c (.int .i64 1)),(.c (.int .i64 4))])),(oG 27 22 false (.un .not (.t 26))),(oM 28 22 27)])
 (.cond (.t 28)
 (.seq (.ops [(oH 2 0),(oH 3 0),(oH 4 0),(oH 5 8)])
 .ret)
 .skip))
 (.seq (.ops [(mV 29 0),(oP 30 (.build [(.str []),(.int .i64 0)] [(0,1,(.t 29)),(1,1,(.c (.int .i64 1)))])),(oP 31 (.build [(.str []),(.int .i64 0)] [(0,2,(.t 30))])),(oP 32 (.box 312 (.t 31))),(mV 6 32)])
 (.seq (.ops [(mV 33 6),(oP 34 (.callF 229 [(.t 33),(.c (.int .i64 1))])),(mV 2 34)])
 (.seq (.ops [(mV 35 6),(oP 36 (.callF 229 [(.t 35),(.c (.int .i64 4))])),(mV 3 36)])
 (.seq (.ops [(mV 37 6),(oP 38 (.callF 229 [(.t 37),(.c (.int .i64 6))])),(mV 4 38)])
 (.seq (.ops [(mV 39 2),(mV 40 3),(mV 41 4),(mV 2 39),(mV 3 40),(mV 4 41),(oH 5 0)])
 .ret)))))))
theorem F205:FI 205 1 42 6 [.tmp 2,.tmp 3,.tmp 4,.tmp 5] c205:=mkF Tryz.f205 Tryz.func205
def c162:RC :=
 (.seq (.ops [(oP 2 (.alloc 79 zPl)),(oH 3 0)])
 (.seq (.seq (.ops [(mV 13 0),(oV 14 205 13),(mV 12 14),(oQ 15 12 0),(oQ 16 12 1),(oQ 17 12 2),(oQ 18 12 3),(mV 4 15),(mV 5 16),(mV 6 17),(mV 7 18)])
 (.seq (.ops [(mV 19 7),(oJ 20 .neq 19 0)])
 (.cond (.t 20)
 (.seq (.ops [(oP 21 (.build zPl [])),(mV 22 7),(oT 10 2 21),(mV 3 22)])
 .ret)
 .skip)))
 (.seq (.ops [(mV 24 0),(oV 25 206 24),(mV 23 25),(oQ 26 23 0),(oQ 27 23 1),(oP 8 (.alloc 79 zPl)),(oT 10 8 26),(mV 9 27)])
 (.seq (.seq (.ops [(mV 28 9),(oP 29 (.un .not (.t 28))),(mV 30 29),(oG 31 30 false (.load true 10 (.t 8))),(oG 32 30 false (.callF 143 [(.t 31)])),(oG 33 30 false (.bin .neq (.t 32) (.c (.int .i64 0)))),(oM 34 30 33)])
 (.cond (.t 34)
 (.seq (.ops [(oP 35 (.build zPl [])),(oT 10 2 35),(oH 3 8)])
 .ret)
 .skip))
 (.seq (.ops [(oB 37 10 8),(oV 38 119 37),(mV 36 38),(oQ 39 36 0),(oQ 40 36 1),(mV 10 39),(mV 11 40)])
 (.seq (.seq (.ops [(mV 41 10),(oV 42 207 41),(mV 43 0),(oV 44 207 43),(oP 45 (.cmp true 282 (.t 42) (.t 44)))])
 (.cond (.t 45)
 (.seq (.ops [(oP 46 (.build zPl [])),(oT 10 2 46),(oH 3 8)])
 .ret)
 .skip))
 (.seq (.ops [(oB 47 10 8),(oT 10 2 47),(oH 3 0)])
 .ret)))))))
theorem F162:FI 162 1 48 6 [.cell 2 79,.tmp 3] c162:=mkF Tryz.f162 Tryz.func162
def c193:RC :=
 (.seq (.ops [(oP 1 (.box 79 (.t 0))),(oP 2 (.mv (.c (.bool false))))])
 (.seq (.ops [(oC 3 3 1),(oA 4 3),(oJ 5 .eql 4 0),(mV 6 5),(oF 7 6 true 4 1),(oD 8 6 true 7),(oG 9 6 true (.bin .eql (.t 8) (.c (.int .i64 0)))),(oN 10 6 9),(mV 11 10),(oF 12 11 true 5 1),(oD 13 11 true 12),(oG 14 11 true (.un .not (.t 13))),(oN 15 11 14),(mV 16 15),(oF 17 16 true 6 1),(oD 18 16 true 17),(oG 19 16 true (.lenL (.t 18))),(oG 20 16 true (.bin .eql (.t 19) (.c (.int .i64 0)))),(oN 21 16 20),(mV 2 21)])
 .ret))
theorem F193:FI 193 1 22 5 [.tmp 2] c193:=mkF Tryz.f193 Tryz.func193
def c194:RC :=
 (.seq (.ops [(oP 2 (.mv (.c (.bool false))))])
 (.seq (.ops [(mV 3 0),(oJ 4 .eql 3 0),(mV 5 4),(oE 6 5 false 0),(oG 7 5 false (.callF 190 [(.t 6)])),(oM 8 5 7),(mV 2 8)])
 .ret))
theorem F194:FI 194 1 9 4 [.tmp 2] c194:=mkF Tryz.f194 Tryz.func194
def c195:RC :=
 (.seq (.ops [(oP 2 (.mv (.c (.bool false))))])
 (.seq (.seq (.ops [(mV 7 0),(oK 8 7),(oH 9 0)])
 (.block 0
 (.loop
 (.seq (.ops [(oI 10 .lss 9 8)])
 (.seq (.cond (.t 10)
 .skip
 (.exit 0))
 (.seq (.block 1
 (.seq (.ops [(mV 11 9),(oS 12 2 7 9),(oB 13 2 12),(oP 4 (.alloc 145 [(.int .i64 0),(.lst 0 [] true)])),(mV 3 11),(oT 2 4 13)])
 (.seq (.seq (.draw [((oC 14 0 4),0),((oA 15 14),1),((oP 16 (.callF 191 [(.t 15),(.c (.int .i64 0)),(.c (.int .i64 1099511627776))])),4),((oP 17 (.un .not (.t 16))),0),((mV 18 17),0),((oF 19 18 false 1 4),0),((oD 20 18 false 19),1),((oG 21 18 false (.lenL (.t 20))),0),((oG 22 18 false (.bin .eql (.t 21) (.c (.int .i64 0)))),0),((oM 23 18 22),0),((mV 24 23),0),((oE 25 24 false 3),0),((oG 26 24 false (.bin .gtr (.t 25) (.c (.int .i64 0)))),0),((oE 27 24 false 26),0),((oE 28 27 true 0),0),((oE 29 27 true 3),0),((oG 30 27 true (.bin .sub (.t 29) (.c (.int .i64 1)))),0),((oG 31 27 true (.indexAddrL 2 (.t 28) (.t 30))),0),((oF 32 27 true 0 31),0),((oD 33 27 true 32),1),((oF 34 27 true 0 4),0),((oD 35 27 true 34),1),((oG 36 27 true (.bin .geq (.t 33) (.t 35))),0),((oG 37 24 false (.pick (.t 27) (.t 36) (.c (.bool false)))),0),((oM 38 24 37),0)])
 (.cond (.t 38)
 (.seq (.ops [(oP 2 (.mv (.c (.bool false))))])
 .ret)
 .skip))
 (.cut (.seq (.ops [(oC 39 1 4),(oA 40 39),(oK 41 40),(oH 42 0)])
 (.block 2
 (.loop
 (.seq (.ops [(oI 43 .lss 42 41)])
 (.seq (.cond (.t 43)
 .skip
 (.exit 2))
 (.seq (.block 3
 (.seq (.ops [(mV 44 42),(oS 45 1 40 42),(oA 46 45),(mV 5 44),(mV 6 46)])
 (.seq (.ops [(mV 47 6),(oV 48 190 47),(oP 49 (.un .not (.t 48))),(mV 50 49),(oE 51 50 false 5),(oG 52 50 false (.bin .gtr (.t 51) (.c (.int .i64 0)))),(oE 53 50 false 52),(oF 54 53 true 1 4),(oD 55 53 true 54),(oE 56 53 true 5),(oG 57 53 true (.bin .sub (.t 56) (.c (.int .i64 1)))),(oG 58 53 true (.indexAddrL 1 (.t 55) (.t 57))),(oD 59 53 true 58),(oE 60 53 true 6),(oG 61 53 true (.bin .geq (.t 59) (.t 60))),(oG 62 50 false (.pick (.t 53) (.t 61) (.c (.bool false)))),(oM 63 50 62)])
 (.cond (.t 63)
 (.seq (.ops [(oP 2 (.mv (.c (.bool false))))])
 .ret)
 .skip))))
 (.ops [(oJ 64 .add 42 1),(mV 42 64)])))))))))))
 (.cut (.ops [(oJ 65 .add 9 1),(mV 9 65)]))))))))
 (.cut (.seq (.ops [(oP 2 (.mv (.c (.bool true))))])
 .ret))))
theorem F195:FI 195 1 66 7 [.tmp 2] c195:=mkF Tryz.f195 Tryz.func195
def c196:RC :=
 (.seq (.ops [(oH 2 0)])
 (.seq (.ops [(oH 3 6)])
 (.seq (.seq (.ops [(mV 6 0),(oK 7 6),(oH 8 0)])
 (.block 0
 (.loop
 (.seq (.ops [(oI 9 .lss 8 7)])
 (.seq (.cond (.t 9)
 .skip
 (.exit 0))
 (.seq (.block 1
 (.seq (.ops [(oS 10 2 6 8),(oB 11 2 10),(oP 5 (.alloc 145 [(.int .i64 0),(.lst 0 [] true)])),(oT 2 5 11)])
 (.ops [(mV 12 3),(oC 13 1 5),(oA 14 13),(oK 15 14),(oP 16 (.bin .mul (.c (.int .i64 4)) (.t 15))),(oP 17 (.bin .add (.c (.int .i64 8)) (.t 16))),(oI 18 .add 12 17),(mV 3 18)])))
 (.ops [(oJ 19 .add 8 1),(mV 8 19)])))))))
 (.cut (.seq (.ops [(mV 20 3),(mV 2 20)])
 .ret)))))
theorem F196:FI 196 1 21 5 [.tmp 2] c196:=mkF Tryz.f196 Tryz.func196
def c143:RC :=
 (.seq (.ops [(oP 1 (.box 79 (.t 0))),(oH 2 0)])
 (.seq (.seq (.ops [(oC 4 1 1),(oA 5 4),(oV 6 190 5),(oP 7 (.un .not (.t 6))),(mV 8 7),(oF 9 8 false 2 1),(oD 10 8 false 9),(oG 11 8 false (.callF 191 [(.t 10),(.c (.int .i64 0)),(.c (.int .i64 1099511627776))])),(oG 12 8 false (.un .not (.t 11))),(oM 13 8 12)])
 (.cond (.t 13)
 (.seq (.ops [(oH 2 2)])
 .ret)
 .skip))
 (.seq (.ops [(oP 3 (.mv (.c (.bool false))))])
 (.seq (.seq (.ops [(oC 14 0 1),(oA 15 14)])
 (.block 0
 (.seq (.seq (.ops [(oJ 17 .eql 15 1),(mV 16 17)])
 (.cond (.t 16)
 .skip
 (.ops [(oJ 18 .eql 15 2),(mV 16 18)])))
 (.cond (.t 16)
 (.ops [(oC 19 3 1),(oA 20 19),(oP 21 (.callF 191 [(.t 20),(.c (.int .i64 0)),(.c (.int .i64 255))])),(mV 22 21),(oF 23 22 true 0 1),(oD 24 22 true 23),(oG 25 22 true (.bin .eql (.t 24) (.c (.int .i64 1)))),(oF 26 22 true 4 1),(oD 27 22 true 26),(oG 28 22 true (.bin .eql (.t 27) (.c (.int .i64 0)))),(oG 29 22 true (.cmp false 4 (.t 25) (.t 28))),(oN 30 22 29),(mV 31 30),(oF 32 31 true 6 1),(oD 33 31 true 32),(oF 34 31 true 4 1),(oD 35 31 true 34),(oG 36 31 true (.callF 192 [(.t 33),(.t 35)])),(oN 37 31 36),(mV 38 37),(oF 39 38 true 7 1),(oD 40 38 true 39),(oG 41 38 true (.bin .eql (.t 40) (.c (.int .i64 0)))),(oN 42 38 41),(mV 43 42),(oF 44 43 true 8 1),(oD 45 43 true 44),(oG 46 43 true (.bin .eql (.t 45) (.c (.str [])))),(oN 47 43 46),(mV 48 47),(oF 49 48 true 9 1),(oD 50 48 true 49),(oG 51 48 true (.lenL (.t 50))),(oG 52 48 true (.bin .eql (.t 51) (.c (.int .i64 0)))),(oN 53 48 52),(mV 3 53)])
 (.seq (.ops [(oJ 55 .eql 15 3),(mV 54 55)])
 (.cond (.t 54)
 (.ops [(oB 56 10 1),(oV 57 193 56),(mV 58 57),(oF 59 58 true 7 1),(oD 60 58 true 59),(oG 61 58 true (.callF 194 [(.t 60)])),(oN 62 58 61),(mV 63 62),(oF 64 63 true 8 1),(oD 65 63 true 64),(oG 66 63 true (.lenS (.t 65))),(oG 67 63 true (.callF 191 [(.t 66),(.c (.int .i64 1)),(.c (.int .i64 490))])),(oN 68 63 67),(mV 69 68),(oF 70 69 true 9 1),(oD 71 69 true 70),(oG 72 69 true (.lenL (.t 71))),(oG 73 69 true (.bin .eql (.t 72) (.c (.int .i64 0)))),(oN 74 69 73),(mV 3 74)])
 (.seq (.ops [(oJ 76 .eql 15 4),(mV 75 76)])
 (.cond (.t 75)
 (.ops [(oB 77 10 1),(oV 78 193 77),(mV 79 78),(oF 80 79 true 7 1),(oD 81 79 true 80),(oG 82 79 true (.callF 194 [(.t 81)])),(oN 83 79 82),(mV 84 83),(oF 85 84 true 8 1),(oD 86 84 true 85),(oG 87 84 true (.bin .eql (.t 86) (.c (.str [])))),(oN 88 84 87),(mV 89 88),(oF 90 89 true 9 1),(oD 91 89 true 90),(oG 92 89 true (.callF 195 [(.t 91)])),(oN 93 89 92),(mV 94 93),(oF 95 94 true 9 1),(oD 96 94 true 95),(oG 97 94 true (.callF 196 [(.t 96)])),(oG 98 94 true (.bin .leq (.t 97) (.c (.int .i64 496)))),(oN 99 94 98),(mV 3 99)])
 .skip))))))))
 (.seq (.seq (.ops [(mV 100 3),(oP 101 (.un .not (.t 100)))])
 (.cond (.t 101)
 (.seq (.ops [(oH 2 2)])
 .ret)
 .skip))
 (.seq (.ops [(oH 2 0)])
 .ret))))))
theorem F143:FI 143 1 102 7 [.tmp 2] c143:=mkF Tryz.f143 Tryz.func143
def c175:RC :=
 (.seq (.ops [(oP 1 (.box 79 (.t 0))),(oP 2 (.mv (.c .nili)))])
 (.seq (.seq (.ops [(oC 3 0 1),(oA 4 3)])
 (.block 0
 (.seq (.ops [(oJ 6 .eql 4 3),(mV 5 6)])
 (.cond (.t 5)
 (.seq (.ops [(oC 7 7 1),(oA 8 7),(oC 9 8 1),(oA 10 9),(oP 11 (.build [(.int .i64 0),(.str [])] [(0,1,(.t 8)),(1,1,(.t 10))])),(oP 12 (.mkIfc 292 (.t 11))),(mV 2 12)])
 .ret)
 (.seq (.ops [(oJ 14 .eql 4 4),(mV 13 14)])
 (.cond (.t 13)
 (.seq (.ops [(oC 15 7 1),(oA 16 15),(oC 17 9 1),(oA 18 17),(oP 19 (.build [(.int .i64 0),(.lst 0 [] true)] [(0,1,(.t 16)),(1,1,(.t 18))])),(oP 20 (.mkIfc 294 (.t 19))),(mV 2 20)])
 .ret)
 .skip))))))
 (.seq (.ops [(oC 21 3 1),(oA 22 21),(oC 23 4 1),(oA 24 23),(oC 25 5 1),(oA 26 25),(oC 27 6 1),(oA 28 27),(oP 29 (.build [(.int .i64 0),(.int .i64 0),(.bool false),(.lst 0 [] true)] [(0,1,(.t 22)),(1,1,(.t 24)),(2,1,(.t 26)),(3,1,(.t 28))])),(oP 30 (.mkIfc 296 (.t 29))),(mV 2 30)])
 .ret)))
theorem F175:FI 175 1 31 6 [.tmp 2] c175:=mkF Tryz.f175 Tryz.func175
def c179:RC :=
 (.seq (.ops [(oP 2 (.mv (.c (.str []))))])
 (.seq (.ops [(mV 4 0),(oV 5 135 4),(mV 3 5)])
 (.seq (.ops [(mV 6 0),(mV 7 3),(oP 8 (.toInt .u8 (.t 7))),(mV 9 3),(oP 10 (.bin .shr (.t 9) (.c (.int .u64 8)))),(oP 11 (.toInt .u8 (.t 10))),(mV 12 3),(oP 13 (.bin .shr (.t 12) (.c (.int .u64 16)))),(oP 14 (.toInt .u8 (.t 13))),(mV 15 3),(oP 16 (.bin .shr (.t 15) (.c (.int .u64 24)))),(oP 17 (.toInt .u8 (.t 16))),(oP 18 (.mkLst 1 false 4 [(.int .u8 0)] [(0,1,(.t 8)),(1,1,(.t 11)),(2,1,(.t 14)),(3,1,(.t 17))])),(oP 19 (.bytesStr (.t 18))),(oI 20 .add 6 19),(mV 2 20)])
 .ret)))
theorem F179:FI 179 1 21 5 [.tmp 2] c179:=mkF Tryz.f179 Tryz.func179
def c207:RC :=
 (.seq (.ops [(oP 2 (.alloc 282 (List.replicate 512 (.int .u8 0))))])
 (.seq (.ops [(oP 3 (.alloc 282 (List.replicate 512 (.int .u8 0))))])
 (.seq (.ops [(oP 4 (.sliceP 512 1 (.t 3) none none none)),(mV 5 0),(oP 6 (.cpy 1 (.t 4) (.t 5)))])
 (.seq (.ops [(oB 7 512 3),(oT 512 2 7)])
 .ret))))
theorem F207:FI 207 1 8 4 [.cell 2 282] c207:=mkF Tryz.f207 Tryz.func207
def c119:RC :=
 (.seq (.ops [(oP 1 (.box 79 (.t 0))),(oP 2 (.mv (.c (.str [])))),(oH 3 0)])
 (.seq (.seq (.ops [(oB 5 10 1),(oV 6 143 5),(oJ 7 .neq 6 0)])
 (.cond (.t 7)
 (.seq (.ops [(oP 2 (.mv (.c (.str [])))),(oH 3 2)])
 .ret)
 .skip))
 (.seq (.ops [(oP 8 (.build [.nilp,(.lst 0 [] true)] [])),(oP 9 (.box 248 (.t 8))),(mV 4 9)])
 (.seq (.ops [(mV 10 4),(oR 11 10),(oC 12 0 11),(oP 13 (.callF 173 [(.t 12),(.c (.int .u8 85))]))])
 (.seq (.ops [(mV 14 4),(oC 15 0 1),(oA 16 15),(oP 17 (.callF 174 [(.t 14),(.t 16),(.c (.int .i64 1))]))])
 (.seq (.ops [(mV 18 4),(oC 19 1 1),(oA 20 19),(oP 21 (.callF 174 [(.t 18),(.t 20),(.c (.int .i64 4))]))])
 (.seq (.ops [(mV 22 4),(oC 23 2 1),(oA 24 23),(oP 25 (.callF 174 [(.t 22),(.t 24),(.c (.int .i64 6))]))])
 (.seq (.ops [(oB 26 10 1),(oV 27 175 26),(mV 28 4),(oP 29 (.inv (.t 27) "understory/page.write" [(.t 28)]))])
 (.cut (.seq (.draw [((mV 30 4),0),((oR 31 30),0),((oC 32 0 31),0),((mV 33 4),0),((oR 34 33),0),((oC 35 0 34),0),((oV 36 178 35),2),((oP 37 (.bin .sub (.c (.int .i64 508)) (.t 36))),0),((oP 38 (.callF 177 [(.c (.str [0])),(.t 37)])),4),((oW 39 176 32 38),2)])
 (.seq (.ops [(mV 40 4),(oR 41 40),(oC 42 0 41),(oV 43 180 42),(oV 44 179 43),(mV 2 44),(oH 3 0)])
 .ret)))))))))))
theorem F119:FI 119 1 45 6 [.tmp 2,.tmp 3] c119:=mkF Tryz.f119 Tryz.func119
section
variable {n:Nat}{h:zaa}
theorem zuk (hn:5 ≤ n) (l:List Entry) (hl:l.length<1099511627776) (he:∀ e∈l,e.Ok) (lv:Int) (sz:Nat) (hz:l≠[] → sz=22) (c:Bool):C n 224 [.lst sz (l.map Entry.av) c,i64 lv] h=some (.ret (zhg l lv),h):=by
 obtain ⟨m,rfl⟩:=pre1 n
 refine zak F224 rfl rfl rfl (zb7 zcm l rfl) ?_
 conv=>whnf
 refine clI (zcc (by omega) _ _ _) ?_
 conv=>whnf
 refine br (fun a=>?_) (fun a=>?_)
 ·conv=>whnf
  refine retP rfl (Eq.trans (zwp rfl rfl) (congrArg some ?_))
  simp at a;simp [zhg,zgo,a]
 ·simp at a
  conv=>whnf
  refine za7 (by decide) rfl (α:=Nat × Int × zaa) (fun x=>⟨[(1,i64 lv),(6,i64 x.2.1),(14,.lst sz (l.map Entry.av) c),(15,i64 l.length),(16,i64 x.1)],x.2.2,[]⟩)
   (fun x=>x.1 ≤ l.length ∧ wsum lv (l.take x.1)=some (x.2.1-6) ∧ x.2.1 ≤ 6+117*x.1 ∧ 6 ≤ x.2.1) (fun x=>l.length-x.1) (0,6,[]) ?_ ?_ ?_ ?_
  ·exact ⟨⟨rfl,rfl,rfl,lenI _ _,rfl⟩,rfl,rfl⟩
  ·simp [wsum]
  ·show l.length-0<KK;simp only [KK];omega
  ·rintro ⟨j,s,hp⟩ ⟨g1,g2,g3,g4⟩
   conv=>whnf
   refine br (fun b=>?_) (fun b=>?_)
   ·have hj:j<l.length:=by simp at b;omega
    conv=>whnf
    refine ixL zbp hj hz ?_
    conv=>whnf
    refine stJ (zag _ _) ?_
    conv=>whnf
    refine ldI (zae _ _ _) ?_
    conv=>whnf
    refine clI (zyf (by omega) l[j] (he _ (List.getElem_mem hj)) lv) ?_
    conv=>whnf
    have hw:=zip hj g2
    refine br (fun d=>?_) (fun d=>?_)
    ·conv=>whnf
     refine retP rfl (Eq.trans (zwp rfl rfl) (congrArg some ?_))
     simp at d
     simp [d] at hw
     simp [zhg,zgo,a,zui hw]
    ·simp at d
     have hb:=ziq d
     simp [d] at hw
     simp only at g3 g4
     refine zI (zad (z:=s+zer l[j] lv) (by omega) (by omega)) ?_
     conv=>whnf
     refine zJ j ?_
     exact ⟨(j+1,s+zer l[j] lv,_),⟨hj,hw.trans (congrArg some (by simp only;omega)),by simp only;omega,by simp only;omega⟩,by simp only;omega,⟨rfl,rfl,rfl,rfl,rfl⟩,rfl,rfl⟩
   ·have hj:j=l.length:=by simp at b;omega
    subst hj
    rw [List.take_length] at g2
    conv=>whnf
    refine cutI (by decide) rfl (t:=⟨[(6,i64 s)],hp,[]⟩) ⟨rfl,rfl,rfl⟩ ?_
    conv=>whnf
    refine retP rfl (Eq.trans (zwp rfl rfl) (congrArg some ?_))
    simp [zhg,zgo,a,g2];omega
end
instance:Inhabited Entry:=⟨⟨[],[],0,0,0,0,Dg.zero⟩⟩
def zmo (l:List Entry) (j:Nat):Str:=(l.getD j default).key
def vAt (lv:Int) (l:List Entry) (j:Nat):Bool :=
 (if lv=0 then zaz (l.getD j default) != 0 else zbq (l.getD j default)&&(j==0||zmo l j != []))&&(j==0||decide (cmpS (zmo l (j-1)) (zmo l j)<0))
def zdf (l:List Entry) (lv:Int):Bool :=
 za3 lv 0 20&&l != []&&(lv==0||(decide (2 ≤ l.length)&&zmo l 0==[]))&&(List.range l.length).all (vAt lv l)
theorem znd {l:List Entry}{lv:Int}{j:Nat}(hj:j<l.length) (hb:vAt lv l j=false):zdf l lv=false:=by
 have:(List.range l.length).all (vAt lv l)=false:=by
  rw [List.all_eq_false]
  exact ⟨j,List.mem_range.2 hj,by simp [hb]⟩
 simp [zdf,this]
theorem zkw {l:List Entry}{lv:Int}(h1:za3 lv 0 20=true) (h2:l≠[]) (h3:lv=0 ∨ (2 ≤ l.length ∧ zmo l 0=[])) (h4:∀ i,i<l.length → vAt lv l i=true):zdf l lv=true:=by
 have:(List.range l.length).all (vAt lv l)=true:=by
  rw [List.all_eq_true]
  exact fun i hi=>h4 i (List.mem_range.1 hi)
 simp [zdf,this,h1,h2]
 exact h3
theorem zqc {l:List Entry}{j:Nat}(hj:j<l.length):l[j]=l.getD j default:=by simp [hj]
theorem zir {lv:Int}{l:List Entry}{j:Nat}(hj:j<l.length):vAt lv l j=((if lv=0 then zaz l[j] != 0 else zbq l[j]&&(decide (j=0)||l[j].key != []))&&(decide (j=0)||decide (cmpS l[j-1].key l[j].key<0))):=by
 have h1:l.getD j default=l[j]:=by simp [hj]
 have h2:l.getD (j-1) default=l[j-1]:=by simp [show j-1<l.length by omega]
 have h3:(j==0)=decide (j=0):=by by_cases e:j=0<;>simp [e]
 unfold vAt zmo
 rw [h1,h2,h3]
section
variable {n:Nat}{h:zaa}
theorem zkv {m:Nat}(hn:4 ≤ m) (l:List Entry) (hl:l.length<1099511627776) (lv:Int) (sz:Nat) (hz:l≠[] → sz=22) (c:Bool) (W:0 ≤ lv) {Q:Ex → LS → Prop}{s:LS}
  (hs:LS.sub ⟨[(0,.lst sz (l.map Entry.av) c),(1,i64 lv),(31,.lst sz (l.map Entry.av) c),(32,i64 l.length),(33,i64 0)],[],[]⟩ s)
  (hE:(∀ i,i<l.length → vAt lv l i=true) → ∀ L hp,Q (.exit 0) ⟨L,hp,[]⟩) (hR:∀ j,j<l.length → vAt lv l j=false → ∀ L hp,lk L 4=some (.bool false) → Q .ret ⟨L,hp,[]⟩) :
  OkR Tryz.prog (C m) cfg0.inl KK 78 7 (.loop (c223.lp 0)) s Q:=by
 refine za7 (by decide) rfl (α:=Nat × zaa) (fun x=>⟨[(0,.lst sz (l.map Entry.av) c),(1,i64 lv),(31,.lst sz (l.map Entry.av) c),(32,i64 l.length),(33,i64 x.1)],x.2,[]⟩)
  (fun x=>x.1 ≤ l.length ∧ ∀ i,i<x.1 → vAt lv l i=true) (fun x=>l.length-x.1) (0,[]) hs ?_ ?_ ?_
 ·exact ⟨Nat.zero_le _,fun i hi=>absurd hi (Nat.not_lt_zero _)⟩
 ·show l.length-0<KK;simp only [KK];omega
 ·rintro ⟨j,hp⟩ ⟨g1,g2⟩
  simp only at g1 g2
  conv=>whnf
  refine brd (fun b=>?_) (fun b=>?_)
  ·have hj:j<l.length:=by simp only at b;omega
   have hg:l.getD j default=l[j]:=by simp [hj]
   have ext:vAt lv l j=true → ∀ i,i<j+1 → vAt lv l i=true:=fun hv i hi=>by
    by_cases e:i=j
    ·rw [e];exact hv
    ·exact g2 i (by omega)
   conv=>whnf
   refine ixL zbp hj hz ?_
   conv=>whnf
   refine stJ (zag _ _) ?_
   repeat' (conv=>whnf);first
    | (exfalso;omega)
    | refine brd (fun _=>?_) (fun _=>?_)
    | refine bre (fun _=>?_) (fun _=>?_)
    | refine brn (fun _=>?_) (fun _=>?_)
    | refine ldI (zae _ _ _) ?_
    | refine ixL zbp (l:=l) (j:=j-1) (by omega) hz ?_
    | refine clI (zoi (by omega) l[j]) ?_
    | refine clI (zj5 (by omega) l[j]) ?_
    | refine clI (ztz (by omega) _ _) ?_
    | refine zI (z:=((j-1:Nat):Int)) (by rw [zad (by omega) (by omega)];omega) ?_
    | refine zJ j ?_
    | refine hR j hj ?_ _ _ rfl
    | refine nxI (j+1,_) ⟨hj,ext ?_⟩ (by simp only;omega) ⟨⟨rfl,rfl,rfl,rfl,rfl⟩,rfl,rfl⟩
   all_goals rw [zir hj]
   all_goals try simp only at *
   all_goals by_cases hj0:j=0
   all_goals simp_all
   all_goals omega
  ·have hj:j=l.length:=by simp only at b;omega
   subst hj
   conv=>whnf
   exact hE g2 _ _
theorem zyi (hn:5 ≤ n) (l:List Entry) (hl:l.length<1099511627776) (lv:Int) (sz:Nat) (hz:l≠[] → sz=22) (c:Bool):C n 223 [.lst sz (l.map Entry.av) c,i64 lv] h=some (.ret (.bool (zdf l lv)),h):=by
 obtain ⟨m,rfl⟩:=pre1 n
 refine zak F223 rfl rfl rfl (zb7 zcm l rfl) ?_
 conv=>whnf
 refine clI (zcc (by omega) _ _ _) ?_
 conv=>whnf
 refine brn (fun a=>?_) (fun a=>?_)
 ·conv=>whnf
  refine retP rfl (zas ?_)
  simp [zdf,a]
 conv=>whnf
 refine bre (fun b=>?_) (fun b=>?_)
 ·conv=>whnf
  refine retP rfl (zas ?_)
  simp at b
  simp [zdf,b]
 have hne:l≠[]:=by intro e;subst e;simp at b
 have hsz:=hz hne
 subst hsz
 have h0:0<l.length:=by cases l with | nil=>exact (hne rfl).elim | cons=>simp
 have k0:l[0].key=zmo l 0:=by simp [zmo,h0]
 have W:=within_iff.1 a
 conv=>whnf
 refine brd (fun d=>?_) (fun d=>?_)
 ·conv=>whnf
  refine brd (fun f=>?_) (fun f=>?_)
  ·conv=>whnf
   refine retP rfl (zas ?_)
   simp at f
   have:¬ 2 ≤ l.length:=by omega
   have:lv≠0:=by omega
   simp [zdf, *]
  ·conv=>whnf
   refine ixL zbp (j:=0) h0 (fun _=>rfl) ?_
   conv=>whnf
   refine brq (fun g=>?_) (fun g=>?_)
   ·conv=>whnf
    refine retP rfl (zas ?_)
    rw [k0] at g
    have:lv≠0:=by omega
    simp [zdf, *]
   ·conv=>whnf
    rw [k0] at g
    simp at f
    refine zkv (by omega) l hl lv 22 (fun _=>rfl) c (by omega) ⟨⟨rfl,rfl,rfl,lenI _ _,rfl⟩,rfl,rfl⟩ (fun e L hp=>?_) (fun j hj e L hp hk=>?_)
    ·refine cutI (by decide) rfl (t:=⟨[],hp,[]⟩) ⟨trivial,rfl,rfl⟩ ?_
     conv=>whnf
     exact retP rfl (zas (zkw a hne (.inr ⟨by omega,g⟩) e).symm)
    ·exact retK hk (zas (znd hj e).symm)
 ·conv=>whnf
  refine zkv (by omega) l hl lv 22 (fun _=>rfl) c (by omega) ⟨⟨rfl,rfl,rfl,lenI _ _,rfl⟩,rfl,rfl⟩ (fun e L hp=>?_) (fun j hj e L hp hk=>?_)
  ·refine cutI (by decide) rfl (t:=⟨[],hp,[]⟩) ⟨trivial,rfl,rfl⟩ ?_
   conv=>whnf
   exact retP rfl (zas (zkw a hne (.inl (by omega)) e).symm)
  ·exact retK hk (zas (znd hj e).symm)
end
section
variable {n:Nat}{h:zaa}
def fits (l:List Entry) (lv:Int):Bool:=zdf l lv&&(match zgo l lv with | some n=>decide (n ≤ 496) | none=>false)
theorem valid_iff {l:List Entry}{lv:Int}:zdf l lv=true ↔ (0 ≤ lv ∧ lv ≤ 20) ∧ l≠[] ∧ (lv=0 ∨ (2 ≤ l.length ∧ zmo l 0=[])) ∧ ∀ i,i<l.length → vAt lv l i=true:=by
 simp [zdf,within_iff,and_assoc]
theorem wsum_some {lv:Int}:∀ {l:List Entry},(∀ e∈l,zde e lv=true) ↔ (∃ w,wsum lv l=some w)
 | []=>by simp [wsum]
 | e::r=>by
  simp only [List.mem_cons,forall_eq_or_imp,wsum]
  rw [wsum_some (l:=r)]
  by_cases hw:zde e lv=true
  ·simp only [hw,if_true,true_and]
   constructor
   ·rintro ⟨w,h⟩;exact ⟨_,by rw [h];rfl⟩
   ·rintro ⟨w,h⟩
    cases hr:wsum lv r with
    | none=>rw [hr] at h;cases h
    | some x=>exact ⟨x,rfl⟩
  ·simp [hw]
theorem zkt {e:Entry}(hf:zaz e≠0):zde e 0=true:=by
 have:zaz e=0 ∨ zaz e=1 ∨ zaz e=2 ∨ zaz e=3:=by
  unfold zaz
  repeat' (first | split)
  all_goals simp
 simp [zde];omega
theorem znc {l:List Entry}{lv:Int}(hv:zdf l lv=true):∃ w,zgo l lv=some w:=by
 obtain ⟨h1,h2,h3,h4⟩:=valid_iff.1 hv
 have:∃ w,wsum lv l=some w:=wsum_some.1 fun e he=>by
  obtain ⟨j,hj,rfl⟩:=List.getElem_of_mem he
  have:=h4 j hj
  rw [zir hj] at this
  by_cases e0:lv=0
  ·subst e0
   simp at this
   exact zkt this.1
  ·simp [e0] at this
   simp [zde,show 0<lv by omega,this.1.1]
 obtain ⟨w,hw⟩:=this
 exact ⟨6+w,by simp [zgo,hw,within_iff.2 h1]⟩
theorem z3c (hn:6 ≤ n) (l:List Entry) (hl:l.length<1099511627776) (he:∀ e∈l,e.Ok) (lv:Int) (sz:Nat) (hz:l≠[] → sz=22) (c:Bool):C n 192 [.lst sz (l.map Entry.av) c,i64 lv] h=some (.ret (.bool (fits l lv)),h):=by
 obtain ⟨m,rfl⟩:=pre1 n
 refine zak F192 rfl rfl rfl (zb7 zcm l rfl) ?_
 conv=>whnf
 refine clI (zyi (by omega) l hl lv sz hz c) ?_
 conv=>whnf
 refine brn (fun a=>?_) (fun a=>?_)
 ·conv=>whnf
  exact retP rfl (zas (by simp [fits,a]))
 ·obtain ⟨w,hw⟩:=znc a
  have e:zhg l lv=.tup [i64 w,i64 0]:=by simp [zhg,hw]
  conv=>whnf
  refine clI (Eq.trans (zuk (by omega) l hl he lv sz hz c) (by rw [e])) ?_
  conv=>whnf
  exact retP rfl (zas (by simp [fits,a,hw]))
end
end Go.Proofs
