/- Texts put together: Wb, Wc, Wd0, Wd, Rb, Rc, We, Rd, Rh0, Re, Rf, Rg. -/
import Derived.Test.YtalaebjjleddaaaGreatFpg7
set_option linter.unusedVariables false
set_option linter.unusedSimpArgs false
namespace Go.Proofs
open Go Go.Abs
def Keep (hp hp':zaa) (F:List Nat):Prop:=hp.length ≤ hp'.length ∧ ∀ x,x<hp.length → x ∉ F → hp'[x]?=hp[x]?
theorem Keep.refl (hp:zaa) (F:List Nat):Keep hp hp F:=⟨Nat.le_refl _,fun _ _ _=>rfl⟩
theorem Keep.trans {a b c:zaa}{F G:List Nat}(h1:Keep a b F) (h2:Keep b c G) (hs:∀ x∈G,x∈F ∨ a.length ≤ x):Keep a c F :=
 ⟨Nat.le_trans h1.1 h2.1,fun x hx hn=>by
  rw [h2.2 x (Nat.lt_of_lt_of_le hx h1.1) fun hg=>?_,h1.2 x hx hn]
  rcases hs x hg with h | h
  ·exact hn h
  ·omega⟩
theorem Keep.mono {a b:zaa}{F G:List Nat}(h:Keep a b F) (hs:∀ x∈F,x∈G):Keep a b G:=⟨h.1,fun x hx hn=>h.2 x hx fun hf=>hn (hs x hf)⟩
theorem Keep.app (h:zaa) (x:AB) (F:List Nat):Keep h (h++[x]) F:=⟨by simp,fun y hy _=>List.getElem?_append_left hy⟩
theorem Keep.set {h:zaa}{b:Nat}{x:AB}{F:List Nat}(hb:b∈F):Keep h (h.set b x) F:=⟨by simp,fun y hy hn=>by rw [List.getElem?_set_ne];rintro rfl;exact hn hb⟩
theorem Keep.set' {h h':zaa}{b:Nat}{x:AB}{F:List Nat}(k:Keep h h' F) (hb:b∈F ∨ h.length ≤ b):Keep h (h'.set b x) F:=⟨by simp [k.1],fun y hy hn=>by
 rw [List.getElem?_set_ne,k.2 y hy hn]
 rintro rfl
 rcases hb with hb | hb
 ·exact hn hb
 ·omega⟩
theorem zab {h:zaa}{b:Nat}{x:AB}(hb:h[b]?=some x):b<h.length:=by
 rcases Nat.lt_or_ge b h.length with q | q
 ·exact q
 ·rw [List.getElem?_eq_none q] at hb;cases hb
def Buf (hp:zaa) (b:Nat) (buf:AV) (bs:Str) (F:List Nat):Prop :=
 (buf=.lst 0 [] true ∧ bs=[] ∧ F=[b]) ∨ (∃ bb ver frz,buf=.sl 1 bb ver 0 bs.length ∧ hp[bb]?=some (.cells ver (some 5) (bs.map u8) frz) ∧ b≠bb ∧ frz ≤ bs.length ∧ F=[b,bb])
abbrev tBld:Nat:=246
abbrev tWri:Nat:=248
def BW (hp:zaa) (b:Nat) (bs:Str) (F:List Nat):Prop :=
 ∃ t a buf,hp[b]?=some (.cells 0 (some t) [a,buf] 0) ∧ (a=.nilp ∨ a=.ptr b 0 0) ∧ (t=tBld ∨ t=tWri) ∧ Buf hp b buf bs F
def Wrote (hp hp':zaa) (b:Nat) (F F':List Nat) (bs:Str):Prop:=BW hp' b bs F' ∧ Keep hp hp' F ∧ ∀ x∈F',x∈F ∨ hp.length ≤ x
theorem Wrote.trans {h0 h1 h2:zaa}{b:Nat}{F F1 F2:List Nat}{s1 s2:Str}(w1:Wrote h0 h1 b F F1 s1) (w2:Wrote h1 h2 b F1 F2 s2):Wrote h0 h2 b F F2 s2 :=
 ⟨w2.1,w1.2.1.trans w2.2.1 w1.2.2,fun x hx=>by
  rcases w2.2.2 x hx with h | h
  ·exact w1.2.2 x h
  ·exact .inr (Nat.le_trans w1.2.1.1 h)⟩
theorem Wrote.refl {h:zaa}{b:Nat}{F:List Nat}{s:Str}(w:BW h b s F):Wrote h h b F F s:=⟨w,Keep.refl _ _,fun x hx=>.inl hx⟩
theorem Buf.lt {hp:zaa}{b:Nat}{buf:AV}{bs:Str}{F:List Nat}(h:Buf hp b buf bs F):∀ x∈F,x=b ∨ x<hp.length:=by
 intro x hx
 rcases h with ⟨_,_,rfl⟩ | ⟨bb,ver,frz,_,h2,_,_,rfl⟩
 ·simp at hx;exact .inl hx
 ·simp at hx
  rcases hx with rfl | rfl
  ·exact .inl rfl
  ·exact .inr (zab h2)
theorem BW.lt {hp:zaa}{b:Nat}{bs:Str}{F:List Nat}(h:BW hp b bs F):∀ x∈F,x<hp.length:=by
 obtain ⟨t,a,buf,h1,_,_,h4⟩:=h
 intro x hx
 rcases h4.lt x hx with rfl | h
 ·exact zab h1
 ·exact h
theorem Buf.mem {hp:zaa}{b:Nat}{buf:AV}{bs:Str}{F:List Nat}(h:Buf hp b buf bs F):b∈F:=by
 rcases h with ⟨_,_,rfl⟩ | ⟨bb,ver,frz,_,h2,_,_,rfl⟩<;>simp
theorem BW.mem {hp:zaa}{b:Nat}{bs:Str}{F:List Nat}(h:BW hp b bs F):b∈F:=by
 obtain ⟨t,a,buf,h1,_,_,h4⟩:=h
 exact h4.mem
theorem BW.stays {hp hp':zaa}{b:Nat}{bs:Str}{F G:List Nat}(h:BW hp b bs F) (k:Keep hp hp' G) (hd:∀ x∈F,x ∉ G):BW hp' b bs F:=by
 have hl:=h.lt
 obtain ⟨t,a,buf,h1,h2,h3,h4⟩:=h
 refine ⟨t,a,buf,?_,h2,h3,?_⟩
 ·rw [k.2 b (zab h1) (hd b h4.mem)];exact h1
 ·rcases h4 with h4 | ⟨bb,ver,frz,g1,g2,g3,g4,rfl⟩
  ·exact .inl h4
  ·refine .inr ⟨bb,ver,frz,g1,?_,g3,g4,rfl⟩
   rw [k.2 bb (hl bb (by simp)) (hd bb (by simp))];exact g2
theorem zel (s:Str):((s.map u8).all AV.scal)=true:=by
 rw [List.all_eq_true]
 intro x hx
 obtain ⟨b,_,rfl⟩:=List.mem_map.1 hx
 rfl
theorem zb3:∀ (s:Str),zbh (s.map u8)=some s
 | []=>rfl
 | b::r=>by
  show (zbh (r.map u8)).map (UInt8.ofNat (b.toNat:Int).toNat::·)=_
  rw [zb3 r];simp
theorem zu4 (s:Str):((s.map u8).all AV.byteB)=true:=by
 rw [List.all_eq_true]
 intro x hx
 obtain ⟨b,_,rfl⟩:=List.mem_map.1 hx
 have:=b.toNat_lt
 show (decide (0 ≤ (b.toNat:Int))&&decide ((b.toNat:Int)<256))=true
 simp;omega
theorem zj1 (h:zaa) (s:Str):zav h 1 s.length (.str s)=some (s.map u8):=by
 simp [zav]
theorem zx2:∀ (s:Str),(((s.map u8).map AV.cells?).flatMap fun o=>o.getD [])=s.map u8
 | []=>rfl
 | b::r=>by
  show [u8 b]++(((r.map u8).map AV.cells?).flatMap fun o=>o.getD [])=_
  rw [zx2 r];rfl
theorem zj2 (h:zaa) (s:Str) (c:Bool):zav h 1 s.length (.lst 1 (s.map u8) c)=some (s.map u8):=by
 unfold zav
 simp only
 rw [if_pos ⟨by simp,.inl trivial⟩]
 rw [show (s.map u8).take s.length=s.map u8 from List.take_of_length_le (by simp),zx2]
 rw [if_pos]
 rw [List.all_eq_true]
 intro x hx
 obtain ⟨y,hy,rfl⟩:=List.mem_map.1 hx
 obtain ⟨b,_,rfl⟩:=List.mem_map.1 hy
 rfl
def Data (h:zaa) (x:AV) (s:Str):Prop:=lenA x=some s.length ∧ zav h 1 s.length x=some (s.map u8)
theorem zyx {hp:zaa}{b:Nat}{buf x:AV}{bs s:Str}{F:List Nat}(hB:Buf hp b buf bs F) (hx:Data hp x s) (hb:b<hp.length) (hl:bs.length+s.length ≤ 1073741824) :
  ∃ v oh,appR hp 5 1 buf x=some (v,oh) ∧ ∃ hp' F',hp'=oh.getD hp ∧ hp'[b]?=hp[b]? ∧ Buf hp' b v (bs++s) F' ∧ Keep hp hp' F ∧ (∀ x∈F',x∈F ∨ hp.length ≤ x) ∧ (∃ xs,v.cells?=some xs ∧ xs=[v]):=by
 obtain ⟨h1,h2⟩:=hx
 unfold appR
 rw [h1]
 simp only
 rw [h2]
 simp only [zel,Bool.not_true,Bool.false_eq_true,if_false]
 rcases hB with ⟨rfl,rfl,rfl⟩ | ⟨bb,ver,frz,rfl,g1,g2,g3,rfl⟩
 ·by_cases e:s.length=0
  ·have:s=[]:=List.length_eq_zero_iff.1 e
   subst this
   simp only [List.length_nil,if_true]
   exact ⟨_,_,rfl,hp,[b],rfl,rfl,.inl ⟨rfl,rfl,rfl⟩,Keep.refl _ _,fun x hx=>.inl hx,_,rfl,rfl⟩
  ·simp only
   rw [if_neg e]
   have h3:zav hp 1 ([]:List AV).length (.lst 0 [] true)=some []:=rfl
   rw [h3]
   simp only [List.length_nil,Nat.zero_add]
   rw [if_pos ⟨by simpa using hl,rfl⟩]
   refine ⟨_,_,rfl,_,[b,hp.length],rfl,?_,.inr ⟨hp.length,0,0,rfl,?_,by omega,Nat.zero_le _,rfl⟩,Keep.app _ _ _,?_,_,rfl,rfl⟩
   ·simp only [Option.getD_some];rw [List.getElem?_append_left hb]
   ·simp
   ·intro x hx;simp at hx;rcases hx with rfl | rfl<;>simp
 ·simp only
  rw [g1]
  simp only
  rw [if_pos ⟨.inl trivial,trivial,trivial,trivial,by simp,zel _,hl,by simpa using g3⟩]
  by_cases e:s.length=0
  ·have:s=[]:=List.length_eq_zero_iff.1 e
   subst this
   rw [if_pos (show ([]:Str).length=0 from rfl)]
   exact ⟨_,_,rfl,hp,[b,bb],rfl,rfl,.inr ⟨bb,ver,frz,by simp,by simpa using g1,g2,by simpa using g3,rfl⟩,Keep.refl _ _,fun x hx=>.inl hx,_,rfl,rfl⟩
  ·rw [if_neg e]
   refine ⟨_,_,rfl,_,[b,bb],rfl,?_,.inr ⟨bb,ver+1,frz,by simp,?_,g2,by simp;omega,rfl⟩,Keep.set (by simp),fun x hx=>.inl hx,_,rfl,rfl⟩
   ·simp only [Option.getD_some];rw [List.getElem?_set_ne (fun e=>g2 e.symm)]
   ·simp only [Option.getD_some,List.map_append];rw [List.getElem?_set_self (zab g1)]
theorem eq_bld (b:Nat):eqA Tryz.prog 20 244 (.ptr b 0 0) (.ptr b 0 0)=some true:=by
 have h1:Tryz.prog.underlying 244=some (.pointer tBld):=by kernel_rfl
 have h2:(ti Tryz.prog tBld).isSome=true:=by kernel_rfl
 unfold eqA
 rw [h1]
 simp only
 rw [if_pos ⟨trivial,trivial,trivial,h2⟩]
theorem z1h:liesAt Tryz.prog Tryz.prog.depth tBld (2 / Tryz.prog.cellsOf tBld) 0 tBld 1=true:=by kernel_rfl
theorem z1g:liesAt Tryz.prog Tryz.prog.depth tWri (2 / Tryz.prog.cellsOf tWri) 0 tBld 1=true:=by kernel_rfl
section
variable {n:Nat}
theorem zfs (hn:1 ≤ n) {hp:zaa}{b:Nat}{bs:Str}{F:List Nat}(w:BW hp b bs F) :
  ∃ hp' t buf,C n 214 [.ptr b 0 0] hp=some (.ret (.tup []),hp') ∧ hp'[b]?=some (.cells 0 (some t) [.ptr b 0 0,buf] 0) ∧ (t=tBld ∨ t=tWri) ∧ Buf hp' b buf bs F ∧ Keep hp hp' F:=by
 obtain ⟨m,rfl⟩:=pre1 n
 obtain ⟨t,a,buf,h1,h2,h3,h4⟩:=w
 rcases h2 with rfl | rfl
 ·refine ⟨hp.set b (.cells 0 (some t) (putAt [.nilp,buf] 0 [.ptr b 0 0]) 0),t,buf,?_,?_,h3,?_,Keep.set h4.mem⟩
  ·refine zat F214 rfl rfl ?_
   conv=>whnf
   refine ldI h1 ?_
   conv=>whnf
   refine ⟨_,_,_,h1,by show 0<2;decide,?_⟩
   conv=>whnf
   refine ⟨_,_,_,h1,?_,?_⟩
   ·rcases h3 with rfl | rfl
    ·exact z1h
    ·exact z1g
   conv=>whnf
   refine stJ h1 ?_
   exact ⟨rfl,[],rfl,rfl,rfl⟩
  ·rw [List.getElem?_set_self (zab h1)];rfl
  ·rcases h4 with h4 | ⟨bb,ver,frz,g1,g2,g3,g4,rfl⟩
   ·exact .inl h4
   ·exact .inr ⟨bb,ver,frz,g1,by rw [List.getElem?_set_ne g3];exact g2,g3,g4,rfl⟩
 ·refine ⟨hp,t,buf,?_,h1,h3,h4,Keep.refl _ _⟩
  refine zat F214 rfl rfl ?_
  conv=>whnf
  refine ldI h1 ?_
  conv=>whnf
  refine ldI h1 ?_
  conv=>whnf
  refine eqI (eq_bld b) ?_
  exact ⟨rfl,[],rfl,rfl,rfl⟩
theorem zrj {hp hp1 hp2:zaa}{b t:Nat}{F F':List Nat}{bs:Str}{v:AV}(h3:t=tBld ∨ t=tWri) (k1:Keep hp hp1 F) (e2:hp2[b]?=some (.cells 0 (some t) [.ptr b 0 0,v] 0)) (hb:b∈F) (hB:Buf hp2 b v bs F') (k2:Keep hp1 hp2 F) (hF:∀ x∈F',x∈F ∨ hp1.length ≤ x):Wrote hp hp2 b F F' bs :=
 ⟨⟨t,_,_,e2,.inr rfl,h3,hB⟩,k1.trans k2 (fun x hx=>.inl hx),fun x hx=>(hF x hx).imp id fun h=>Nat.le_trans k1.1 h⟩
theorem zyw {hp:zaa}{b:Nat}{x:AB}{buf:AV}{bs:Str}{F:List Nat}(h:Buf hp b buf bs F):Buf (hp.set b x) b buf bs F:=by
 rcases h with h | ⟨bb,ver,frz,g1,g2,g3,g4,rfl⟩
 ·exact .inl h
 ·exact .inr ⟨bb,ver,frz,g1,by rw [List.getElem?_set_ne g3];exact g2,g3,g4,rfl⟩
theorem zbm (hn:2 ≤ n) {hp:zaa}{b:Nat}{bs:Str}{F:List Nat}(w:BW hp b bs F) (s:Str) (hl:bs.length+s.length ≤ 1073741824) :
  ∃ hp' F',C n 176 [.ptr b 0 0,.str s] hp=some (.ret (.tup [i64 s.length,.nili]),hp') ∧ Wrote hp hp' b F F' (bs++s):=by
 obtain ⟨m,rfl⟩:=pre1 n
 have hm:=w.mem
 obtain ⟨hp1,t,buf,e1,h1,h3,h4,k1⟩:=zfs (n:=m) (by omega) w
 obtain ⟨v,oh,e2,hp2,F',rfl,g1,g2,g3,g4,xs,g5,rfl⟩:=zyx h4 (x:=.str s) ⟨rfl,zj1 _ _⟩ (zab h1) hl
 have g1':=g1.trans h1
 refine ⟨(oh.getD hp1).set b (.cells 0 (some t) (putAt [.ptr b 0 0,buf] 1 [v]) 0),F',?_,?_⟩
 ·refine zat F176 rfl rfl ?_
  conv=>whnf
  refine clI e1 ?_
  conv=>whnf
  refine ldI h1 ?_
  refine ⟨_,e2,?_⟩
  cases oh with
  | none =>
   conv=>whnf
   refine stI h1 g5 (by rfl) (by rfl) (by rfl) ?_
   exact ⟨rfl,[i64 s.length,.nili],rfl,rfl,rfl⟩
  | some h2 =>
   conv=>whnf
   refine stI g1' g5 (by rfl) (by rfl) (by rfl) ?_
   exact ⟨rfl,[i64 s.length,.nili],rfl,rfl,rfl⟩
 ·exact zrj h3 k1 (by rw [List.getElem?_set_self (zab g1')];rfl) hm (zyw g2) (g3.set' (.inl hm)) g4
theorem zih (hn:2 ≤ n) {hp:zaa}{b:Nat}{bs:Str}{F:List Nat}(w:BW hp b bs F) (c:UInt8) (hl:bs.length+1 ≤ 1073741824) :
  ∃ hp' F',C n 173 [.ptr b 0 0,u8 c] hp=some (.ret .nili,hp') ∧ Wrote hp hp' b F F' (bs++[c]):=by
 obtain ⟨m,rfl⟩:=pre1 n
 have hm:=w.mem
 obtain ⟨hp1,t,buf,e1,h1,h3,h4,k1⟩:=zfs (n:=m) (by omega) w
 obtain ⟨v,oh,e2,hp2,F',rfl,g1,g2,g3,g4,xs,g5,rfl⟩:=zyx h4 (x:=.lst 1 ([c].map u8) true) ⟨rfl,zj2 _ _ _⟩ (zab h1) hl
 have g1':=g1.trans h1
 refine ⟨(oh.getD hp1).set b (.cells 0 (some t) (putAt [.ptr b 0 0,buf] 1 [v]) 0),F',?_,?_⟩
 ·refine zat F173 rfl rfl ?_
  conv=>whnf
  refine clI e1 ?_
  conv=>whnf
  refine ldI h1 ?_
  conv=>whnf
  refine ⟨rfl,?_⟩
  refine ⟨_,e2,?_⟩
  cases oh with
  | none =>
   conv=>whnf
   refine stI h1 g5 (by rfl) (by rfl) (by rfl) ?_
   exact ⟨rfl,[.nili],rfl,rfl,rfl⟩
  | some h2 =>
   conv=>whnf
   refine stI g1' g5 (by rfl) (by rfl) (by rfl) ?_
   exact ⟨rfl,[.nili],rfl,rfl,rfl⟩
 ·exact zrj h3 k1 (by rw [List.getElem?_set_self (zab g1')];rfl) hm (zyw g2) (g3.set' (.inl hm)) g4
theorem zl7 (hn:1 ≤ n) {hp:zaa}{b:Nat}{bs:Str}{F:List Nat}(w:BW hp b bs F):C n 178 [.ptr b 0 0] hp=some (.ret (i64 bs.length),hp):=by
 obtain ⟨m,rfl⟩:=pre1 n
 obtain ⟨t,a,buf,h1,h2,h3,h4⟩:=w
 refine zat F178 rfl rfl ?_
 conv=>whnf
 refine ldI h1 ?_
 rcases h4 with ⟨rfl,rfl,rfl⟩ | ⟨bb,ver,frz,rfl,g2,g3,g4,rfl⟩
 ·exact ⟨rfl,[i64 0],rfl,rfl,rfl⟩
 ·exact ⟨rfl,[i64 bs.length],rfl,rfl,rfl⟩
theorem zfx (hn:1 ≤ n) {hp:zaa}{b:Nat}{bs:Str}{F:List Nat}(w:BW hp b bs F) (h0:bs≠[]) (hl:bs.length ≤ 1073741824):∃ hp',C n 180 [.ptr b 0 0] hp=some (.ret (.str bs),hp') ∧ Wrote hp hp' b F F bs:=by
 obtain ⟨m,rfl⟩:=pre1 n
 obtain ⟨t,a,buf,h1,h2,h3,h4⟩:=w
 rcases h4 with ⟨rfl,rfl,rfl⟩ | ⟨bb,ver,frz,rfl,g2,g3,g4,rfl⟩
 ·exact (h0 rfl).elim
 ·have hpos:0<bs.length:=by cases bs with | nil=>exact (h0 rfl).elim | cons=>simp
  have e1:(hp.set bb (.cells ver (some 5) (bs.map u8) (max frz bs.length)))[b]?=some (.cells 0 (some t) [a,.sl 1 bb ver 0 bs.length] 0):=by rw [List.getElem?_set_ne (fun e=>g3 e.symm)];exact h1
  refine ⟨hp.set bb (.cells ver (some 5) (bs.map u8) (max frz bs.length)),?_,⟨t,a,_,e1,h2,h3,.inr ⟨bb,ver,_,rfl,by rw [List.getElem?_set_self (zab g2)],g3,by omega,rfl⟩⟩,Keep.set (by simp),fun x hx=>.inl hx⟩
  refine zat F180 rfl rfl ?_
  conv=>whnf
  refine ldI h1 ?_
  conv=>whnf
  refine ⟨by omega,?_⟩
  conv=>whnf
  refine ldI h1 ?_
  conv=>whnf
  have e:(bs.map u8).take (bs.length:Int).toNat=bs.map u8:=by rw [Int.toNat_natCast];exact List.take_of_length_le (by simp)
  refine ⟨by omega,_,_,bs,g2,⟨by simp,by simpa using hl⟩,by rw [e];exact zu4 bs,by rw [e];exact zb3 bs,?_⟩
  conv=>whnf
  refine ⟨?_,?_⟩
  ·refine ⟨?_,?_⟩
   ·conv=>whnf
    exact ldI e1 rfl
   ·conv=>whnf
    exact ldI e1 rfl
  ·exact ⟨rfl,[.str bs],rfl,rfl,by simp⟩
end
def num (k:Nat):Nat → Str
 | 0=>[]
 | w+1=>UInt8.ofNat (k / 256 ^ w)::num k w
theorem zal (k:Nat):∀ w,(num k w).length=w
 | 0=>rfl
 | w+1=>by simp [num,zal k w]
theorem zyv {k i:Nat}(hi:i ≤ 7):IntKind.u8.wrap (((k:Int)).fdiv (2 ^ (min ((8*(i:Int))).toNat IntKind.i64.bits)))=((UInt8.ofNat (k / 256 ^ i)).toNat:Int):=by
 have h1:min (8*(i:Int)).toNat IntKind.i64.bits=8*i:=by show min (8*(i:Int)).toNat 64=8*i;omega
 rw [h1,Int.fdiv_eq_ediv_of_nonneg _ (by exact Int.pow_nonneg (by decide))]
 have h2:((k:Int)) / (2 ^ (8*i):Int)=((k / 256 ^ i:Nat):Int):=by
  rw [show (256:Nat)=2 ^ 8 by rfl,← Nat.pow_mul]
  norm_cast
 rw [h2]
 show (if (IntKind.u8.signed&&decide (((k / 256 ^ i:Nat):Int) % (2 ^ 8:Int)≥(2 ^ (8-1):Int)))=true then ((k / 256 ^ i:Nat):Int) % (2 ^ 8:Int)-2 ^ 8 else ((k / 256 ^ i:Nat):Int) % (2 ^ 8:Int))=_
 rw [if_neg (by simp [IntKind.signed]),UInt8.toNat_ofNat']
 omega
def Dg.bytes (d:Dg):Str:=d.list
theorem Dg.bytes_len (d:Dg):d.bytes.length=16:=rfl
theorem Dg.cells_map (d:Dg):d.cells=d.bytes.map u8:=rfl
section
variable {n:Nat}
theorem zw3 (hn:3 ≤ n) {hp:zaa}{b:Nat}{bs:Str}{F:List Nat}(w:BW hp b bs F) (k wd:Nat) (hw:wd ≤ 8) (hl:bs.length+wd ≤ 1073741824) :
  ∃ hp' F',C n 174 [.ptr b 0 0,i64 k,i64 wd] hp=some (.ret (.tup []),hp') ∧ Wrote hp hp' b F F' (bs++num k wd):=by
 obtain ⟨m,rfl⟩:=pre1 n
 have:=zcc (n:=m) (c:=cfg0) (args:=[.ptr b 0 0,i64 k,i64 wd]) (h:=hp) (R:=fun v hp'=>v=.tup [] ∧ ∃ F',Wrote hp hp' b F F' (bs++num k wd)) F174 rfl rfl ?_
 ·obtain ⟨v,hp',e,rfl,F',hW⟩:=this
  exact ⟨hp',F',e,hW⟩
 conv=>whnf
 refine zI (zae (by omega) (by omega)) ?_
 conv=>whnf
 refine za1 (by decide) rfl (α:=Nat × Str × List Nat × zaa) (fun x=>⟨[(0,.ptr b 0 0),(1,i64 k),(6,i64 ((x.1:Int)-1))],x.2.2.2,[]⟩)
  (fun x=>x.1 ≤ wd ∧ Wrote hp x.2.2.2 b F x.2.2.1 (bs++x.2.1) ∧ x.2.1++num k x.1=num k wd) (fun x=>x.1) (wd,[],F,hp) ⟨⟨rfl,rfl,rfl⟩,rfl,rfl⟩ ?_ (by simp only [KK];omega) ?_
 ·exact ⟨Nat.le_refl _,by simpa using Wrote.refl w,rfl⟩
 ·rintro ⟨r,o,G,h1⟩ ⟨g1,g2,g3⟩
  simp only at g1 g2 g3
  conv=>whnf
  refine brd (fun a=>?_) (fun a=>?_)
  ·simp only at a
   obtain ⟨q,rfl⟩ : ∃ q,r=q+1:=⟨r-1,by omega⟩
   have hlen:o.length+(q+1)=wd:=by
    have:=congrArg List.length g3
    simpa [zal] using this
   conv=>whnf
   refine zI (z:=8*(q:Int)) (by rw [zae (by omega) (by omega)];omega) ?_
   conv=>whnf
   refine ⟨by omega,_,rfl,?_⟩
   conv=>whnf
   refine zI (zyv (k:=k) (i:=q) (by omega)) ?_
   obtain ⟨h2,G2,e2,w2⟩:=zih (n:=m) (by omega) g2.1 (UInt8.ofNat (k / 256 ^ q)) (by simp;omega)
   conv=>whnf
   refine clI e2 ?_
   conv=>whnf
   refine zI (z:=(q:Int)-1) (by rw [zae (by omega) (by omega)];omega) ?_
   refine nxI (q,o++[UInt8.ofNat (k / 256 ^ q)],G2,h2) ⟨by omega,?_,?_⟩ (by simp) ⟨⟨rfl,rfl,rfl⟩,rfl,rfl⟩
   ·have:=g2.trans w2
    simpa using this
   ·rw [← g3];simp [num]
  ·simp only at a
   have:r=0:=by omega
   subst this
   conv=>whnf
   refine ⟨rfl,[],rfl,rfl,G,?_⟩
   have g4:Wrote hp h1 b F G (bs++num k wd):=by rw [← g3];simpa [num] using g2
   exact g4
theorem zm6 (h:zaa) {bb ver:Nat}{el:Option TypeId}{s:Str}{frz:Nat}(hb:h[bb]?=some (.cells ver el (s.map u8) frz)):zav h 1 s.length (.sl 1 bb ver 0 s.length)=some (s.map u8):=by
 unfold zav
 simp only
 rw [if_pos ⟨Nat.le_refl _,trivial⟩,hb]
 simp only
 rw [if_pos ⟨trivial,by simp⟩]
 rw [List.drop_zero,Nat.mul_one,List.take_of_length_le (by simp)]
theorem z3o (hn:3 ≤ n) {hp:zaa}{b:Nat}{bs:Str}{F:List Nat}(w:BW hp b bs F) (d:Dg) (hl:bs.length+16 ≤ 1073741824) :
  ∃ hp' F',C n 282 [.ptr b 0 0,.agg d.cells] hp=some (.ret (.tup []),hp') ∧ Wrote hp hp' b F F' (bs++d.bytes):=by
 obtain ⟨m,rfl⟩:=pre1 n
 have hb:=w.lt b w.mem
 have k0:Keep hp (hp++[.cells 0 (some 23) d.cells 0]) []:=Keep.app _ _ _
 have w1:=w.stays k0 (by simp)
 obtain ⟨h2,G2,e2,w2⟩:=zbm (n:=m) (by omega) w1 d.bytes (by rw [d.bytes_len];exact hl)
 refine ⟨h2,G2,?_,w2.1,(k0.mono (by simp)).trans w2.2.1 (fun x hx=>.inl hx),fun x hx=>(w2.2.2 x hx).imp id fun h=>by simp at h;omega⟩
 have hd:(hp++[.cells 0 (some 23) d.cells 0])[hp.length]?=some (.cells 0 (some 23) (d.bytes.map u8) 0):=zad _ _
 have hs:h2[hp.length]?=some (.cells 0 (some 23) (d.bytes.map u8) 0):=by
  rw [w2.2.1.2 hp.length (by simp) (fun h=>by have:=w.lt _ h;omega)]
  exact hd
 refine zat F282 rfl rfl ?_
 conv=>whnf
 refine ⟨_,_,_,hd,⟨by rw [List.length_map,d.bytes_len];decide,by decide⟩,?_⟩
 refine slI (v:=.sl 1 hp.length 0 0 16) rfl ?_
 conv=>whnf
 refine ⟨_,d.bytes,zm6 _ hd,zb3 _,?_⟩
 conv=>whnf
 refine clI e2 ?_
 ·exact ⟨rfl,[],rfl,rfl,rfl⟩
end
def c280:RC :=
 (.seq (.ops [(oP 4 (.box 296 (.t 0))),(oP 6 (.box 147 (.t 2)))])
 (.seq (.ops [(mV 8 1),(oC 9 0 6),(oA 10 9),(oP 11 (.lenS (.t 10))),(mV 12 3),(oI 13 .sub 11 12),(oP 14 (.callF 174 [(.t 8),(.t 13),(.c (.int .i64 1))]))])
 (.seq (.draw [((mV 15 1),0),((oR 16 15),0),((oC 17 0 16),0),((oC 18 0 6),0),((oA 19 18),1),((mV 20 3),0),((oP 21 (.sliceS (.t 19) (some (.t 20)) none)),1),((oW 22 176 17 21),2)])
 (.block 0
 (.seq (.ops [(oC 35 1 4),(oA 36 35),(oJ 37 .gtr 36 0),(mV 34 37)])
 (.cond (.t 34)
 (.seq (.ops [(mV 38 1),(oC 39 4 6),(oA 40 39),(oP 41 (.callF 174 [(.t 38),(.t 40),(.c (.int .i64 4))]))])
 (.seq (.ops [(mV 42 1),(oC 43 5 6),(oA 44 43),(oP 45 (.callF 174 [(.t 42),(.t 44),(.c (.int .i64 4))]))])
 (.ops [(mV 46 1),(oC 47 6 6),(oB 48 16 47),(oW 49 282 46 48)])))
 (.seq (.ops [(oC 51 2 6),(oA 52 51),(oJ 53 .gtr 52 0),(mV 50 53)])
 (.cond (.t 50)
 (.seq (.ops [(mV 54 1),(oP 55 (.callF 174 [(.t 54),(.c (.int .i64 65535)),(.c (.int .i64 2))]))])
 (.seq (.ops [(mV 56 1),(oC 57 2 6),(oA 58 57),(oP 59 (.callF 174 [(.t 56),(.t 58),(.c (.int .i64 4))]))])
 (.seq (.ops [(mV 60 1),(oC 61 3 6),(oA 62 61),(oP 63 (.callF 174 [(.t 60),(.t 62),(.c (.int .i64 2))]))])
 (.ops [(mV 64 1),(oC 65 6 6),(oB 66 16 65),(oW 67 282 64 66)]))))
 (.seq (.ops [(oC 69 4 6),(oA 70 69),(oJ 71 .gtr 70 0),(mV 68 71)])
 (.cond (.t 68)
 (.seq (.ops [(mV 72 1),(oP 73 (.callF 174 [(.t 72),(.c (.int .i64 65534)),(.c (.int .i64 2))]))])
 (.seq (.ops [(mV 74 1),(oC 75 4 6),(oA 76 75),(oP 77 (.callF 174 [(.t 74),(.t 76),(.c (.int .i64 4))]))])
 (.seq (.ops [(mV 78 1),(oC 79 5 6),(oA 80 79),(oP 81 (.callF 174 [(.t 78),(.t 80),(.c (.int .i64 4))]))])
 (.ops [(mV 82 1),(oC 83 6 6),(oB 84 16 83),(oW 85 282 82 84)]))))
 (.seq (.ops [(mV 23 1),(oC 24 1 6),(oA 25 24),(oP 26 (.lenS (.t 25))),(oP 27 (.callF 174 [(.t 23),(.t 26),(.c (.int .i64 2))]))])
 (.draw [((mV 28 1),0),((oR 29 28),0),((oC 30 0 29),0),((oC 31 1 6),0),((oA 32 31),1),((oW 33 176 30 32),2)]))))))))))))
theorem F280:FI 280 4 86 7 [] c280:=mkF Tryz.f280 Tryz.func280
def c278:RC :=
 (.seq (.ops [(oP 2 (.box 296 (.t 0)))])
 (.seq (.ops [(oC 11 3 2),(oA 12 11),(oC 13 1 2),(oA 14 13),(oW 15 279 12 14),(mV 4 15)])
 (.seq (.ops [(mV 16 1),(oC 17 0 2),(oA 18 17),(oP 19 (.callF 174 [(.t 16),(.t 18),(.c (.int .i64 1))]))])
 (.seq (.ops [(mV 20 1),(oC 21 1 2),(oA 22 21),(oP 23 (.callF 174 [(.t 20),(.t 22),(.c (.int .i64 1))]))])
 (.seq (.ops [(oH 5 0)])
 (.seq (.seq (.ops [(oC 24 2 2),(oA 25 24)])
 (.cond (.t 25)
 (.ops [(oH 5 1)])
 .skip))
 (.cut (.seq (.ops [(mV 26 1),(mV 27 5),(oP 28 (.callF 174 [(.t 26),(.t 27),(.c (.int .i64 1))]))])
 (.seq (.ops [(mV 29 1),(mV 30 4),(oP 31 (.lenS (.t 30))),(oP 32 (.callF 174 [(.t 29),(.t 31),(.c (.int .i64 1))]))])
 (.seq (.ops [(mV 33 1),(oC 34 3 2),(oA 35 34),(oK 36 35),(oP 37 (.callF 174 [(.t 33),(.t 36),(.c (.int .i64 2))]))])
 (.seq (.ops [(mV 38 1),(oR 39 38),(oC 40 0 39),(mV 41 4),(oW 42 176 40 41)])
 (.seq (.ops [(oP 6 (.alloc 248 [.nilp,(.lst 0 [] true)]))])
 (.seq (.draw [((mV 43 1),0),((oR 44 43),0),((oC 45 0 44),0),((oC 47 3 2),0),((oA 48 47),1),((oK 49 48),0),((oP 50 (.bin .mul (.c (.int .i64 2)) (.t 49))),0),((oV 46 178 45),2),((oI 51 .add 46 50),0),((mV 7 51),0)])
 (.seq (.seq (.ops [(oC 52 3 2),(oA 53 52),(oK 54 53),(oH 55 0)])
 (.block 0
 (.loop
 (.seq (.ops [(oI 56 .lss 55 54)])
 (.seq (.cond (.t 56)
 .skip
 (.exit 0))
 (.seq (.block 1
 (.seq (.ops [(mV 57 55),(oS 58 22 53 55),(oB 59 22 58),(oP 9 (.alloc 147 [(.str []),(.str []),(.int .i64 0),(.int .i64 0),(.int .i64 0),(.int .i64 0),(.int .u8 0),(.int .u8 0),(.int .u8 0),(.int .u8 0),(.int .u8 0),(.int .u8 0),(.int .u8 0),(.int .u8 0),(.int .u8 0),(.int .u8 0),(.int .u8 0),(.int .u8 0),(.int .u8 0),(.int .u8 0),(.int .u8 0),(.int .u8 0)])),(mV 8 57),(oT 22 9 59)])
 (.seq (.ops [(mV 60 1),(mV 61 7),(oC 62 0 6),(oV 63 178 62),(oI 64 .add 61 63),(oP 65 (.callF 174 [(.t 60),(.t 64),(.c (.int .i64 2))]))])
 (.seq (.ops [(mV 66 4),(oP 67 (.lenS (.t 66))),(mV 10 67)])
 (.seq (.seq (.ops [(mV 68 8),(oJ 69 .eql 68 0),(mV 70 69),(oF 71 70 true 1 2),(oD 72 70 true 71),(oG 73 70 true (.bin .gtr (.t 72) (.c (.int .i64 0)))),(oN 74 70 73)])
 (.cond (.t 74)
 (.ops [(oH 10 0)])
 .skip))
 (.cut (.ops [(oB 75 4 2),(oB 76 22 9),(mV 77 10),(oP 78 (.callF 280 [(.t 75),(.t 6),(.t 76),(.t 77)]))])))))))
 (.cut (.ops [(oJ 79 .add 55 1),(mV 55 79)]))))))))
 (.cut (.draw [((mV 80 1),0),((oR 81 80),0),((oC 82 0 81),0),((oC 83 0 6),0),((oV 84 180 83),2),((oW 85 176 82 84),2)]))))))))))))))))
theorem F278:FI 278 2 86 7 [] c278:=mkF Tryz.f278 Tryz.func278
def c276:RC :=
 (.seq (.ops [(oP 2 (.box 292 (.t 0)))])
 (.seq (.ops [(mV 4 1),(oC 5 0 2),(oA 6 5),(oP 7 (.callF 174 [(.t 4),(.t 6),(.c (.int .i64 4))]))])
 (.seq (.ops [(mV 8 1),(oC 9 1 2),(oA 10 9),(oP 11 (.lenS (.t 10))),(oP 12 (.callF 174 [(.t 8),(.t 11),(.c (.int .i64 2))]))])
 (.draw [((mV 13 1),0),((oR 14 13),0),((oC 15 0 14),0),((oC 16 1 2),0),((oA 17 16),1),((oW 18 176 15 17),2)]))))
theorem F276:FI 276 2 19 5 [] c276:=mkF Tryz.f276 Tryz.func276
def c277:RC :=
 (.seq (.ops [(oP 2 (.box 294 (.t 0)))])
 (.seq (.ops [(mV 8 1),(oC 9 0 2),(oA 10 9),(oP 11 (.callF 174 [(.t 8),(.t 10),(.c (.int .i64 4))]))])
 (.seq (.ops [(mV 12 1),(oC 13 1 2),(oA 14 13),(oK 15 14),(oP 16 (.callF 174 [(.t 12),(.t 15),(.c (.int .i64 2))]))])
 (.seq (.ops [(oC 17 1 2),(oA 18 17),(oK 19 18),(oH 20 0)])
 (.block 0
 (.loop
 (.seq (.ops [(oI 21 .lss 20 19)])
 (.seq (.cond (.t 21)
 .skip
 (.exit 0))
 (.seq (.block 1
 (.seq (.ops [(oS 22 2 18 20),(oB 23 2 22),(oP 5 (.alloc 145 [(.int .i64 0),(.lst 0 [] true)])),(oT 2 5 23)])
 (.seq (.ops [(mV 24 1),(oC 25 0 5),(oA 26 25),(oP 27 (.callF 174 [(.t 24),(.t 26),(.c (.int .i64 6))]))])
 (.seq (.ops [(mV 28 1),(oC 29 1 5),(oA 30 29),(oK 31 30),(oP 32 (.callF 174 [(.t 28),(.t 31),(.c (.int .i64 2))]))])
 (.seq (.ops [(oC 33 1 5),(oA 34 33),(oK 35 34),(oH 36 0)])
 (.block 2
 (.loop
 (.seq (.ops [(oI 37 .lss 36 35)])
 (.seq (.cond (.t 37)
 .skip
 (.exit 2))
 (.seq (.block 3
 (.seq (.ops [(oS 38 1 34 36),(oA 39 38),(mV 7 39)])
 (.ops [(mV 40 1),(mV 41 7),(oP 42 (.callF 174 [(.t 40),(.t 41),(.c (.int .i64 4))]))])))
 (.ops [(oJ 43 .add 36 1),(mV 36 43)])))))))))))
 (.cut (.ops [(oJ 44 .add 20 1),(mV 20 44)])))))))))))
theorem F277:FI 277 2 45 6 [] c277:=mkF Tryz.f277 Tryz.func277
theorem Wrote.keep {h h':zaa}{b x:Nat}{F F':List Nat}{s:Str}{v:AB}(w:Wrote h h' b F F' s) (hx:h[x]?=some v) (hn:x ∉ F):h'[x]?=some v ∧ x ∉ F':=by
 have hl:=zab hx
 refine ⟨by rw [w.2.1.2 x hl hn];exact hx,fun hf=>?_⟩
 rcases w.2.2 x hf with h | h
 ·exact hn h
 ·omega
theorem BW.app {h:zaa}{b:Nat}{F:List Nat}{s:Str}(w:BW h b s F) (x:AB):BW (h++[x]) b s F ∧ (h++[x])[h.length]?=some x ∧ h.length ∉ F :=
 ⟨w.stays (Keep.app h x []) (by simp),zad _ _,fun hf=>by have:=w.lt _ hf;omega⟩
theorem za8 {h:zaa}{i:Nat}{v x:AB}(hi:h[i]?=some v):(h++[x])[i]?=some v:=by rw [List.getElem?_append_left (zab hi)];exact hi
theorem Wrote.of_app {h h':zaa}{b:Nat}{F F':List Nat}{s:Str}{x:AB}(w:Wrote (h++[x]) h' b F F' s):Wrote h h' b F F' s :=
 ⟨w.1,((Keep.app h x []).mono (by simp)).trans w.2.1 (fun x hx=>.inl hx),fun y hy=>(w.2.2 y hy).imp id fun h=>by simp at h;omega⟩
section
variable {n:Nat}{hp:zaa}{b:Nat}{bs:Str}{F:List Nat}{K X:AV → zaa → Prop}
theorem numC (hn:3 ≤ n) (w:BW hp b bs F) (k:Int) (h0:0 ≤ k) (wd:Nat) (hw:wd ≤ 8) (hl:bs.length+wd ≤ 1073741824) (hk:∀ hp' F',Wrote hp hp' b F F' (bs++num k.toNat wd) → K (.tup []) hp') :
  ∃ r h',C n 174 [.ptr b 0 0,i64 k,i64 wd] hp=some (r,h') ∧ WpR K X h' r:=by
 obtain ⟨q,rfl⟩:=Int.eq_ofNat_of_zero_le h0
 obtain ⟨hp',F',e,h⟩:=zw3 hn w q wd hw hl
 exact clI e (hk hp' F' h)
theorem sumC (hn:3 ≤ n) (w:BW hp b bs F) (d:Dg) (hl:bs.length+16 ≤ 1073741824) (hk:∀ hp' F',Wrote hp hp' b F F' (bs++d.bytes) → K (.tup []) hp') :
  ∃ r h',C n 282 [.ptr b 0 0,.agg d.cells] hp=some (r,h') ∧ WpR K X h' r:=by
 obtain ⟨hp',F',e,h⟩:=z3o hn w d hl
 exact clI e (hk hp' F' h)
theorem strC (hn:2 ≤ n) (w:BW hp b bs F) (s:Str) (hl:bs.length+s.length ≤ 1073741824) (hk:∀ hp' F',Wrote hp hp' b F F' (bs++s) → K (.tup [i64 s.length,.nili]) hp') :
  ∃ r h',C n 176 [.ptr b 0 0,.str s] hp=some (r,h') ∧ WpR K X h' r:=by
 obtain ⟨hp',F',e,h⟩:=zbm hn w s hl
 exact clI e (hk hp' F' h)
theorem byteC (hn:2 ≤ n) (w:BW hp b bs F) (c:UInt8) (hl:bs.length+1 ≤ 1073741824) (hk:∀ hp' F',Wrote hp hp' b F F' (bs++[c]) → K .nili hp') :
  ∃ r h',C n 173 [.ptr b 0 0,u8 c] hp=some (r,h') ∧ WpR K X h' r:=by
 obtain ⟨hp',F',e,h⟩:=zih hn w c hl
 exact clI e (hk hp' F' h)
def zhu (e:Entry) (lv:Int):Str :=
 if 0<lv then num e.child.toNat 4++(num e.count.toNat 4++e.sum.bytes)
 else if 0<e.over then num 65535 2++(num e.over.toNat 4++(num e.len.toNat 2++e.sum.bytes))
 else if 0<e.child then num 65534 2++(num e.child.toNat 4++(num e.count.toNat 4++e.sum.bytes))
 else num e.val.length 2++e.val
def entB (c:Nat) (e:Entry) (lv:Int):Str:=num (e.key.length-c) 1++(e.key.drop c++zhu e lv)
def Entry.Nn (e:Entry):Prop:=0 ≤ e.over ∧ 0 ≤ e.len ∧ 0 ≤ e.child ∧ 0 ≤ e.count
theorem zoc (e:Entry) (lv:Int):(zhu e lv).length ≤ 26+e.val.length:=by
 unfold zhu
 repeat' split
 all_goals simp [zal,Dg.bytes_len]
 all_goals omega
theorem z16 (hn:4 ≤ n) (w:BW hp b bs F) (xs:List AV) (lv:Int) (hx:xs[1]?=some (i64 lv)) (hs:AV.cells? (.agg xs)=some xs) (e:Entry) (hN:e.Nn) (c:Nat) (hc:c ≤ e.key.length) (hl:bs.length+e.key.length+e.val.length+32 ≤ 1073741824) :
  ∃ hp' F',C n 280 [.agg xs,.ptr b 0 0,e.av,i64 c] hp=some (.ret (.tup []),hp') ∧ Wrote hp hp' b F F' (bs++entB c e lv):=by
 obtain ⟨m,rfl⟩:=pre1 n
 have hR:=zoc e lv
 have:=zcc (n:=m) (c:=cfg0) (args:=[.agg xs,.ptr b 0 0,e.av,i64 c]) (h:=hp) (R:=fun v hp'=>v=.tup [] ∧ ∃ F',Wrote hp hp' b F F' (bs++entB c e lv)) F280 rfl rfl ?_
 ·obtain ⟨v,hp',e,rfl,F',hW⟩:=this
  exact ⟨hp',F',e,hW⟩
 obtain ⟨w0,x0,nx0⟩:=w.app (.cells 0 (some 296) xs 0)
 obtain ⟨w1,e1,ne1⟩:=w0.app (.cells 0 (some 147) e.cells 0)
 have x1:=za8 (x:=.cells 0 (some 147) e.cells 0) x0
 have hk:(e.key.drop c).length=e.key.length-c:=by simp
 unfold Entry.Nn at hN
 conv=>whnf
 rw [hs]
 conv=>whnf
 refine ldI e1 ?_
 conv=>whnf
 refine zI (z:=(e.key.length:Int)-c) (zae (by omega) (by omega)) ?_
 conv=>whnf
 refine numC (by omega) w1 ((e.key.length:Int)-c) (by omega) 1 (by omega) (by omega) fun h2 F2 w2=>?_
 obtain ⟨x2,nx2⟩:=w2.keep x1 nx0
 have e2:=(w2.keep e1 ne1).1
 have ne2:=(w2.keep e1 ne1).2
 conv=>whnf
 refine ldI e2 ?_
 conv=>whnf
 refine z30 hc ?_
 conv=>whnf
 refine strC (hp:=h2) (by omega) w2.1 (e.key.drop c) (by simp only [List.length_append,zal,hk,Dg.bytes_len];omega) fun h3 F3 w3=>?_
 obtain ⟨x3,nx3⟩:=w3.keep x2 nx2
 have e3:=(w3.keep e2 ne2).1
 have ne3:=(w3.keep e2 ne2).2
 conv=>whnf
 refine ⟨⟨?_,?_⟩,?_⟩
 ·conv=>whnf
  refine z30 hc ?_
  rfl
 ·conv=>whnf
  exact ldI e3 rfl
 conv=>whnf
 refine ldI x3 ?_
 refine zdd hx ?_
 have fin:∀ {h':zaa}{F':List Nat}{t:Str},Wrote hp h' b F F' t → t=bs++entB c e lv → ∃ F',Wrote hp h' b F F' (bs++entB c e lv):=fun w q=>⟨_,q ▸ w⟩
 have w3':=(w2.trans w3).of_app.of_app
 have hk1:(e.key.drop c).length=e.key.length-c:=by simp
 have hk2:((e.key.length:Int)-c).toNat=e.key.length-c:=by omega
 conv=>whnf
 refine brd (fun a=>?_) (fun a=>?_)
 ·conv=>whnf
  refine ldI e3 ?_
  conv=>whnf
  refine numC (n:=m) (hp:=h3) (by omega) w3.1 _ (by omega) 4 (by omega) (by simp only [List.length_append,zal,hk,Dg.bytes_len];omega) fun h4 F4 w4=>?_
  have e4:=(w4.keep e3 ne3).1
  have ne4:=(w4.keep e3 ne3).2
  conv=>whnf
  refine ldI e4 ?_
  conv=>whnf
  refine numC (n:=m) (hp:=h4) (by omega) w4.1 _ (by omega) 4 (by omega) (by simp only [List.length_append,zal,hk,Dg.bytes_len];omega) fun h5 F5 w5=>?_
  have e5:=(w5.keep e4 ne4).1
  have ne5:=(w5.keep e4 ne4).2
  conv=>whnf
  refine ldI e5 ?_
  conv=>whnf
  refine sumC (n:=m) (hp:=h5) (by omega) w5.1 e.sum (by simp only [List.length_append,zal,hk,Dg.bytes_len];omega) fun h6 F6 w6=>?_
  refine ⟨rfl,[],rfl,rfl,fin (w3'.trans (w4.trans (w5.trans w6))) ?_⟩
  simp [entB,zhu,a,hk2,List.append_assoc]
 ·conv=>whnf
  refine ldI e3 ?_
  conv=>whnf
  refine brd (fun d=>?_) (fun d=>?_)
  ·conv=>whnf
   refine numC (n:=m) (hp:=h3) (by omega) w3.1 65535 (by omega) 2 (by omega) (by simp only [List.length_append,zal,hk,Dg.bytes_len];omega) fun h4 F4 w4=>?_
   have e4:=(w4.keep e3 ne3).1
   have ne4:=(w4.keep e3 ne3).2
   conv=>whnf
   refine ldI e4 ?_
   conv=>whnf
   refine numC (n:=m) (hp:=h4) (by omega) w4.1 _ (by omega) 4 (by omega) (by simp only [List.length_append,zal,hk,Dg.bytes_len];omega) fun h5 F5 w5=>?_
   have e5:=(w5.keep e4 ne4).1
   have ne5:=(w5.keep e4 ne4).2
   conv=>whnf
   refine ldI e5 ?_
   conv=>whnf
   refine numC (n:=m) (hp:=h5) (by omega) w5.1 _ (by omega) 2 (by omega) (by simp only [List.length_append,zal,hk,Dg.bytes_len];omega) fun h6 F6 w6=>?_
   have e6:=(w6.keep e5 ne5).1
   have ne6:=(w6.keep e5 ne5).2
   conv=>whnf
   refine ldI e6 ?_
   conv=>whnf
   refine sumC (n:=m) (hp:=h6) (by omega) w6.1 e.sum (by simp only [List.length_append,zal,hk,Dg.bytes_len];omega) fun h7 F7 w7=>?_
   refine ⟨rfl,[],rfl,rfl,fin (w3'.trans (w4.trans (w5.trans (w6.trans w7)))) ?_⟩
   simp [entB,zhu,a,d,hk2,List.append_assoc]
  ·conv=>whnf
   refine ldI e3 ?_
   conv=>whnf
   refine brd (fun f=>?_) (fun f=>?_)
   ·conv=>whnf
    refine numC (n:=m) (hp:=h3) (by omega) w3.1 65534 (by omega) 2 (by omega) (by simp only [List.length_append,zal,hk,Dg.bytes_len];omega) fun h4 F4 w4=>?_
    have e4:=(w4.keep e3 ne3).1
    have ne4:=(w4.keep e3 ne3).2
    conv=>whnf
    refine ldI e4 ?_
    conv=>whnf
    refine numC (n:=m) (hp:=h4) (by omega) w4.1 _ (by omega) 4 (by omega) (by simp only [List.length_append,zal,hk,Dg.bytes_len];omega) fun h5 F5 w5=>?_
    have e5:=(w5.keep e4 ne4).1
    have ne5:=(w5.keep e4 ne4).2
    conv=>whnf
    refine ldI e5 ?_
    conv=>whnf
    refine numC (n:=m) (hp:=h5) (by omega) w5.1 _ (by omega) 4 (by omega) (by simp only [List.length_append,zal,hk,Dg.bytes_len];omega) fun h6 F6 w6=>?_
    have e6:=(w6.keep e5 ne5).1
    have ne6:=(w6.keep e5 ne5).2
    conv=>whnf
    refine ldI e6 ?_
    conv=>whnf
    refine sumC (n:=m) (hp:=h6) (by omega) w6.1 e.sum (by simp only [List.length_append,zal,hk,Dg.bytes_len];omega) fun h7 F7 w7=>?_
    refine ⟨rfl,[],rfl,rfl,fin (w3'.trans (w4.trans (w5.trans (w6.trans w7)))) ?_⟩
    simp [entB,zhu,a,d,f,hk2,List.append_assoc]
   ·conv=>whnf
    refine ldI e3 ?_
    conv=>whnf
    refine numC (n:=m) (hp:=h3) (by omega) w3.1 _ (by omega) 2 (by omega) (by simp only [List.length_append,zal,hk,Dg.bytes_len];omega) fun h4 F4 w4=>?_
    have e4:=(w4.keep e3 ne3).1
    have ne4:=(w4.keep e3 ne3).2
    conv=>whnf
    refine ldI e4 ?_
    conv=>whnf
    refine strC (hp:=h4) (by omega) w4.1 e.val (by simp only [List.length_append,zal,hk,Dg.bytes_len];omega) fun h5 F5 w5=>?_
    have e5:=(w5.keep e4 ne4).1
    have ne5:=(w5.keep e4 ne4).2
    conv=>whnf
    refine ⟨?_,?_⟩
    ·conv=>whnf
     exact ldI e5 rfl
    refine ⟨rfl,[],rfl,rfl,fin (w3'.trans (w4.trans w5)) ?_⟩
    simp [entB,zhu,a,d,f,hk2,List.append_assoc]
end
abbrev tRdr:Nat:=312
def badV:AV:=.ifc 314 (.agg [])
def RDs (hp:zaa) (b:Nat) (s:Str):Prop:=∃ (all:Str) (at':Nat),hp[b]?=some (.cells 0 (some tRdr) [.str all,i64 at'] 0) ∧ at' ≤ all.length ∧ all.length<1073741824 ∧ all.drop at'=s
theorem RDs.stays {hp hp':zaa}{b:Nat}{s:Str}{F:List Nat}(r:RDs hp b s) (k:Keep hp hp' F) (hb:b ∉ F):RDs hp' b s:=by
 obtain ⟨all,a,h1,h2,h3,h4⟩:=r
 exact ⟨all,a,by rw [k.2 b (zab h1) hb];exact h1,h2,h3,h4⟩
theorem RDs.lt {hp:zaa}{b:Nat}{s:Str}(r:RDs hp b s):b<hp.length:=by
 obtain ⟨all,a,h1,_⟩:=r;exact zab h1
theorem RDs.len {hp:zaa}{b:Nat}{s:Str}(r:RDs hp b s):s.length<1073741824:=by
 obtain ⟨all,a,h1,h2,h3,rfl⟩:=r
 simp;omega
theorem Keep.get {h h':zaa}{F:List Nat}{x:Nat}{v:AB}(k:Keep h h' F) (hx:h[x]?=some v) (hn:x ∉ F):h'[x]?=some v:=by
 rw [k.2 x (zab hx) hn];exact hx
section
variable {n:Nat}{hp:zaa}{b:Nat}{s:Str}{K X:AV → zaa → Prop}
theorem zp0 (hn:1 ≤ n) (r:RDs hp b s) (k:Nat) (hk:k ≤ s.length):∃ hp',C n 249 [.ptr b 0 0,i64 k] hp=some (.ret (.str (s.take k)),hp') ∧ RDs hp' b (s.drop k) ∧ Keep hp hp' [b]:=by
 obtain ⟨m,rfl⟩:=pre1 n
 obtain ⟨all,a,h1,h2,h3,rfl⟩:=r
 rw [List.length_drop] at hk
 refine ⟨hp.set b (.cells 0 (some tRdr) [.str all,i64 ((a+k:Nat))] 0),?_,⟨all,a+k,by rw [List.getElem?_set_self (zab h1)],by omega,h3,by rw [List.drop_drop]⟩,Keep.set (by simp)⟩
 refine zat F249 rfl rfl ?_
 conv=>whnf
 refine ldI h1 ?_
 conv=>whnf
 refine ldI h1 ?_
 conv=>whnf
 refine zI (z:=(all.length:Int)-a) (zae (by omega) (by omega)) ?_
 conv=>whnf
 refine brd (fun q=>absurd q (by omega)) (fun _=>?_)
 conv=>whnf
 refine ldI h1 ?_
 conv=>whnf
 refine ldI h1 ?_
 conv=>whnf
 refine ldI h1 ?_
 conv=>whnf
 refine zI (z:=((a+k:Nat):Int)) (by rw [zae (by omega) (by omega)];rfl) ?_
 conv=>whnf
 refine zht (by omega) (by omega) ?_
 conv=>whnf
 refine ldI h1 ?_
 conv=>whnf
 refine zI (z:=((a+k:Nat):Int)) (by rw [zae (by omega) (by omega)];rfl) ?_
 conv=>whnf
 refine stJ h1 ?_
 refine ⟨rfl,[.str ((all.take (a+k)).drop a)],rfl,?_,rfl⟩
 show AV.str _=AV.str _
 rw [List.drop_take,Nat.add_sub_cancel_left]
theorem zmd (hn:1 ≤ n) (r:RDs hp b s) (k:Nat) (hk:s.length<k) (hk2:k<1099511627776):C n 249 [.ptr b 0 0,i64 k] hp=some (.pan badV,hp):=by
 obtain ⟨m,rfl⟩:=pre1 n
 obtain ⟨all,a,h1,h2,h3,rfl⟩:=r
 rw [List.length_drop] at hk
 have:=za0 (n:=m) (c:=cfg0) (args:=[.ptr b 0 0,i64 k]) (h:=hp) (R:=fun r h=>r=.pan badV ∧ h=hp) F249 rfl rfl ?_
 ·obtain ⟨r,h',e,rfl,rfl⟩:=this;exact e
 conv=>whnf
 refine ldI h1 ?_
 conv=>whnf
 refine ldI h1 ?_
 conv=>whnf
 refine zI (z:=(all.length:Int)-a) (zae (by omega) (by omega)) ?_
 conv=>whnf
 refine brd (fun _=>?_) (fun q=>absurd (by omega) q)
 conv=>whnf
 exact ⟨rfl,rfl⟩
theorem zvu (hn:1 ≤ n) (r:RDs hp b s) (k:Nat) (hk2:k<1099511627776) (ok:∀ hp',k ≤ s.length → RDs hp' b (s.drop k) → Keep hp hp' [b] → K (.str (s.take k)) hp') (bad:s.length<k → X badV hp) :
  ∃ r h',C n 249 [.ptr b 0 0,i64 k] hp=some (r,h') ∧ WpR K X h' r:=by
 by_cases hk:k ≤ s.length
 ·obtain ⟨hp',e,g1,g2⟩:=zp0 hn r k hk
  exact clI e (ok hp' hk g1 g2)
 ·exact clP (zmd hn r k (by omega) hk2) (bad (by omega))
def zag (s:Str):Nat:=s.foldl (fun n b=>n*256+b.toNat) 0
theorem zgx (s:Str) (c:UInt8):zag (s++[c])=zag s*256+c.toNat:=by simp [zag]
theorem zcg:∀ (k:Nat) (s:Str),s.length=k → zag s<256 ^ k
 | 0,s,h=>by have:=List.length_eq_zero_iff.1 h;subst this;simp [zag]
 | k+1,s,h=>by
  obtain ⟨t,c,rfl⟩ : ∃ t c,s=t++[c]:=⟨s.dropLast,s.getLast (by intro e;subst e;simp at h),(List.dropLast_concat_getLast _).symm⟩
  have:=zcg k t (by simpa using h)
  have hc:=c.toNat_lt
  rw [zgx,Nat.pow_succ]
  omega
theorem zwz (x:Nat) (c:UInt8) (hx:x<36028797018963968):IntKind.i64.wrap (BitVec.ofInt IntKind.i64.bits ((x*256:Nat):Int) ||| BitVec.ofInt IntKind.i64.bits ((c.toNat:Nat):Int)).toNat=((x*256+c.toNat:Nat):Int):=by
 have hc:=c.toNat_lt
 have e:(BitVec.ofInt 64 ((x*256:Nat):Int) ||| BitVec.ofInt 64 ((c.toNat:Nat):Int)).toNat=x*256+c.toNat:=by
  rw [BitVec.toNat_or,BitVec.ofInt_natCast,BitVec.ofInt_natCast,BitVec.toNat_ofNat,BitVec.toNat_ofNat,Nat.mod_eq_of_lt (by omega),Nat.mod_eq_of_lt (by omega)]
  have:=Nat.shiftLeft_add_eq_or_of_lt (show c.toNat<2 ^ 8 by omega) x
  rw [Nat.shiftLeft_eq] at this
  exact this.symm
 show IntKind.i64.wrap ((BitVec.ofInt 64 ((x*256:Nat):Int) ||| BitVec.ofInt 64 ((c.toNat:Nat):Int)).toNat:Int)=_
 rw [e]
 exact zae (by omega) (by omega)
theorem zrt (x:Nat) (hx:x<36028797018963968):IntKind.i64.wrap ((x:Int)*2 ^ (min (8:Int).toNat IntKind.i64.bits))=((x*256:Nat):Int):=by
 have:min (8:Int).toNat IntKind.i64.bits=8:=by decide
 rw [this,zae (by omega) (by omega)]
 omega
theorem z37 (hn:2 ≤ n) (r:RDs hp b s) (w:Nat) (hw:w ≤ 6) (hk:w ≤ s.length):∃ hp',C n 229 [.ptr b 0 0,i64 w] hp=some (.ret (i64 (zag (s.take w))),hp') ∧ RDs hp' b (s.drop w) ∧ Keep hp hp' [b]:=by
 obtain ⟨m,rfl⟩:=pre1 n
 obtain ⟨h1,e1,r1,k1⟩:=zp0 (n:=m) (by omega) r w hk
 have ht:(s.take w).length=w:=by rw [List.length_take];omega
 refine ⟨h1++[.cells 0 none ((s.take w).map u8) 0],?_,r1.stays (Keep.app h1 _ []) (by simp),k1.trans ((Keep.app h1 _ []).mono (by simp)) (fun x hx=>.inl hx)⟩
 refine zat F229 rfl rfl ?_
 conv=>whnf
 refine clI e1 ?_
 conv=>whnf
 refine za1 (by decide) rfl (α:=Nat) (fun j=>⟨[(5,i64 (zag ((s.take w).take j))),(11,.sl 1 h1.length 0 0 (s.take w).length),(12,i64 (s.take w).length),(13,i64 j)],h1++[.cells 0 none ((s.take w).map u8) 0],[]⟩) (fun j=>j ≤ w) (fun j=>w-j) 0 ⟨⟨rfl,rfl,rfl,rfl⟩,rfl,rfl⟩ (Nat.zero_le _) (by show w-0<KK;simp only [KK];omega) ?_
 intro j hj
 conv=>whnf
 refine brd (fun a=>?_) (fun a=>?_)
 ·have hjw:j<w:=by omega
  have hjt:j<(s.take w).length:=by omega
  have hb:=zcg j ((s.take w).take j) (by rw [List.length_take];omega)
  have hb2:256 ^ j ≤ 256 ^ 5:=Nat.pow_le_pow_right (by decide) (by omega)
  have hst:zag ((s.take w).take j)*256+((s.take w)[j]).toNat=zag ((s.take w).take (j+1)):=by
   rw [List.take_succ_eq_append_getElem hjt,zgx]
  have hx:zag ((s.take w).take j)<36028797018963968:=by
   have:(256:Nat) ^ 5=1099511627776:=by decide
   omega
  conv=>whnf
  refine ⟨by omega,by omega,rfl,?_⟩
  conv=>whnf
  refine ldI (zad _ _) ?_
  refine zdd (v:=u8 ((s.take w)[j])) (by show ((s.take w).map u8)[0+(j:Int).toNat*1]?=_;rw [Int.toNat_natCast,Nat.zero_add,Nat.mul_one,List.getElem?_map,List.getElem?_eq_getElem hjt];rfl) ?_
  conv=>whnf
  refine ⟨by decide,_,zrt _ hx,?_⟩
  conv=>whnf
  refine zI (z:=(((s.take w)[j]).toNat:Int)) (by have:=((s.take w)[j]).toNat_lt;exact zae (by omega) (by omega)) ?_
  conv=>whnf
  refine zI (zwz _ _ hx) ?_
  conv=>whnf
  refine zJ j ?_
  exact nxI (j+1) hjw (by omega) ⟨⟨by rw [← hst];rfl,rfl,rfl,rfl⟩,rfl,rfl⟩
 ·have hjw:j=w:=by omega
  subst hjw
  conv=>whnf
  refine cutI (by decide) rfl (t:=⟨[(5,i64 (zag (s.take j)))],h1++[.cells 0 none ((s.take j).map u8) 0],[]⟩) ⟨by show some (i64 (zag ((s.take j).take j)))=_;rw [List.take_take,Nat.min_self],rfl,rfl⟩ ?_
  exact ⟨rfl,[i64 (zag (s.take j))],rfl,rfl,rfl⟩
theorem z0s (hn:2 ≤ n) (r:RDs hp b s) (w:Nat) (hw:w ≤ 6) (hk:s.length<w):C n 229 [.ptr b 0 0,i64 w] hp=some (.pan badV,hp):=by
 obtain ⟨m,rfl⟩:=pre1 n
 have:=za0 (n:=m) (c:=cfg0) (args:=[.ptr b 0 0,i64 w]) (h:=hp) (R:=fun r h=>r=.pan badV ∧ h=hp) F229 rfl rfl ?_
 ·obtain ⟨r,h',e,rfl,rfl⟩:=this;exact e
 conv=>whnf
 refine clP (zmd (n:=m) (by omega) r w hk (by omega)) ?_
 exact ⟨rfl,rfl⟩
theorem zdg (hn:2 ≤ n) (r:RDs hp b s) (w:Nat) (hw:w ≤ 6) (ok:∀ hp',w ≤ s.length → RDs hp' b (s.drop w) → Keep hp hp' [b] → K (i64 (zag (s.take w))) hp') (bad:s.length<w → X badV hp) :
  ∃ r h',C n 229 [.ptr b 0 0,i64 w] hp=some (r,h') ∧ WpR K X h' r:=by
 by_cases hk:w ≤ s.length
 ·obtain ⟨hp',e,g1,g2⟩:=z37 hn r w hw hk
  exact clI e (ok hp' hk g1 g2)
 ·exact clP (z0s hn r w hw (by omega)) (bad (by omega))
end
theorem zbl {h:zaa}{t N b ver:Nat}{el:Option TypeId}{cs:List AV}{f:Nat}(ht:(ti Tryz.prog t).map (fun d=>(zba d.desc,d.size))=some (true,N)) (hN:cs.length=N) (hb:h[b]?=some (.cells ver el cs f)):zbp Tryz.prog h t (.ptr b ver 0)=some (.agg cs):=by
 obtain ⟨d,h1,h2⟩:=Option.map_eq_some_iff.1 ht
 simp only [Prod.mk.injEq] at h2
 unfold zbp
 simp only [h1,hb,if_true]
 unfold zd6
 rw [h2.1,h2.2,← hN]
 simp
theorem zmz {h:zaa}{t b ver:Nat}{el:Option TypeId}{v:AV}{f N:Nat}(ht:(ti Tryz.prog t).map (fun d=>(zba d.desc,d.size))=some (false,N)) (hb:h[b]?=some (.cells ver el [v] f)):zbp Tryz.prog h t (.ptr b ver 0)=some v:=by
 obtain ⟨d,h1,h2⟩:=Option.map_eq_some_iff.1 ht
 simp only [Prod.mk.injEq] at h2
 unfold zbp
 simp only [h1,hb,if_true]
 unfold zd6
 rw [h2.1]
 rfl
def dgOf (t:Str):Dg:=⟨t.getD 0 0,t.getD 1 0,t.getD 2 0,t.getD 3 0,t.getD 4 0,t.getD 5 0,t.getD 6 0,t.getD 7 0,t.getD 8 0,t.getD 9 0,t.getD 10 0,t.getD 11 0,t.getD 12 0,t.getD 13 0,t.getD 14 0,t.getD 15 0⟩
theorem zl1:∀ (t:Str),t.length=16 → (dgOf t).bytes=t
 | [a0,a1,a2,a3,a4,a5,a6,a7,a8,a9,a10,a11,a12,a13,a14,a15],_=>rfl
theorem zl0 {t:Str}(h:t.length=16):(dgOf t).cells=t.map u8:=by rw [Dg.cells_map,zl1 t h]
section
variable {n:Nat}{hp:zaa}{b:Nat}{s:Str}{K X:AV → zaa → Prop}
theorem z36 (hn:2 ≤ n) (r:RDs hp b s) (hk:16 ≤ s.length):∃ hp',C n 259 [.ptr b 0 0] hp=some (.ret (.agg (dgOf (s.take 16)).cells),hp') ∧ RDs hp' b (s.drop 16) ∧ Keep hp hp' [b]:=by
 obtain ⟨m,rfl⟩:=pre1 n
 have ht:(s.take 16).length=16:=by rw [List.length_take];omega
 have k0:Keep hp (hp++[AB.cells 0 (some 23) Dg.zero.cells 0]++[AB.cells 0 (some 23) Dg.zero.cells 0]) []:=(Keep.app hp _ []).trans (Keep.app _ _ []) (by simp)
 have hlen:(hp++[AB.cells 0 (some 23) Dg.zero.cells 0]).length=hp.length+1:=by simp
 have d1:(hp++[AB.cells 0 (some 23) Dg.zero.cells 0]++[AB.cells 0 (some 23) Dg.zero.cells 0])[hp.length]?=some (.cells 0 (some 23) Dg.zero.cells 0):=za8 (zad _ _)
 have d2:(hp++[AB.cells 0 (some 23) Dg.zero.cells 0]++[AB.cells 0 (some 23) Dg.zero.cells 0])[(hp++[AB.cells 0 (some 23) Dg.zero.cells 0]).length]?=some (.cells 0 (some 23) Dg.zero.cells 0):=zad _ _
 obtain ⟨h1,e1,r1,k1⟩:=zp0 (n:=m) (by omega) (r.stays k0 (by simp)) 16 hk
 have hb:=r.lt
 have d1':=k1.get d1 (by simp;omega)
 have d2':=k1.get d2 (by simp;omega)
 have hcells:(dgOf (s.take 16)).cells=(s.take 16).map u8:=zl0 ht
 have kk:Keep hp h1 [b]:=(k0.mono (by simp)).trans k1 (fun x hx=>.inl hx)
 refine ⟨(h1.set (hp++[AB.cells 0 (some 23) Dg.zero.cells 0]).length (.cells 0 (some 23) (dgOf (s.take 16)).cells 0)).set hp.length (.cells 0 (some 23) (dgOf (s.take 16)).cells 0),?_,?_,?_⟩
 ·refine zat F259 rfl rfl ?_
  conv=>whnf
  refine ⟨_,_,_,d2,⟨by decide,by decide⟩,?_⟩
  refine slI (v:=.sl 1 (hp++[AB.cells 0 (some 23) Dg.zero.cells 0]).length 0 0 16) rfl ?_
  conv=>whnf
  refine clI e1 ?_
  conv=>whnf
  refine ⟨?_,?_⟩
  ·conv=>whnf
   refine ⟨_,_,_,d2',⟨by decide,by decide⟩,?_⟩
   exact slI (v:=.sl 1 (hp++[AB.cells 0 (some 23) Dg.zero.cells 0]).length 0 0 16) rfl rfl
  conv=>whnf
  have ec:cpyR h1 1 (.sl 1 (hp++[AB.cells 0 (some 23) Dg.zero.cells 0]).length 0 0 16) (.str (s.take 16))=some (.int .i64 16,some (h1.set (hp++[AB.cells 0 (some 23) Dg.zero.cells 0]).length (.cells 0 (some 23) (dgOf (s.take 16)).cells 0))):=by
   unfold cpyR
   simp only [zi5,lenA,ht,Nat.min_self]
   have hf:zav h1 1 16 (.str (s.take 16))=some ((s.take 16).map u8):=by
    have:=zj1 h1 (s.take 16)
    rwa [ht] at this
   rw [hf]
   simp only
   rw [if_neg (by decide)]
   rw [d2']
   simp only
   rw [if_pos ⟨trivial,trivial,Nat.le_refl _,by rw [List.length_map,ht];decide,zel _⟩]
   have:putAt Dg.zero.cells 0 ((s.take 16).map u8)=(dgOf (s.take 16)).cells:=by
    rw [hcells]
    unfold putAt
    rw [List.length_map,ht]
    simp [Dg.cells]
   rw [this];rfl
  refine ⟨_,ec,?_⟩
  have e2:(h1.set (hp++[AB.cells 0 (some 23) Dg.zero.cells 0]).length (.cells 0 (some 23) (dgOf (s.take 16)).cells 0))[(hp++[AB.cells 0 (some 23) Dg.zero.cells 0]).length]?=some (.cells 0 (some 23) (dgOf (s.take 16)).cells 0):=by rw [List.getElem?_set_self (zab d2')]
  have e3:(h1.set (hp++[AB.cells 0 (some 23) Dg.zero.cells 0]).length (.cells 0 (some 23) (dgOf (s.take 16)).cells 0))[hp.length]?=some (.cells 0 (some 23) Dg.zero.cells 0):=by rw [List.getElem?_set_ne (by rw [hlen];omega)];exact d1'
  conv=>whnf
  refine ⟨?_,?_⟩
  ·conv=>whnf
   refine ⟨_,_,_,e2,⟨by show 0+16*1 ≤ 16;decide,by decide⟩,?_⟩
   exact slI (v:=.sl 1 (hp++[AB.cells 0 (some 23) Dg.zero.cells 0]).length 0 0 16) rfl rfl
  conv=>whnf
  refine ldI e2 ?_
  conv=>whnf
  refine stJ e3 (xs:=(dgOf (s.take 16)).cells) ?_
  refine ⟨rfl,[.agg (dgOf (s.take 16)).cells],?_,rfl,rfl⟩
  have el:zbp Tryz.prog ((h1.set (hp++[AB.cells 0 (some 23) Dg.zero.cells 0]).length (.cells 0 (some 23) (dgOf (s.take 16)).cells 0)).set hp.length (.cells 0 (some 23) (dgOf (s.take 16)).cells 0)) 23 (.ptr hp.length 0 0)=some (.agg (dgOf (s.take 16)).cells) :=
   zbl (N:=16) (by kernel_rfl) rfl (by rw [List.getElem?_set_self (zab e3)])
  show (match zbp Tryz.prog ((h1.set (hp++[AB.cells 0 (some 23) Dg.zero.cells 0]).length (.cells 0 (some 23) (dgOf (s.take 16)).cells 0)).set hp.length (.cells 0 (some 23) (dgOf (s.take 16)).cells 0)) 23 (.ptr hp.length 0 0) with | some v=>some [v] | none=>none)=_
  rw [el]
 ·refine r1.stays (F:=[(hp++[AB.cells 0 (some 23) Dg.zero.cells 0]).length,hp.length]) ⟨by simp,fun x hx hn=>?_⟩ (by simp;omega)
  simp at hn
  rw [List.getElem?_set_ne (by omega),List.getElem?_set_ne (by rw [hlen];omega)]
 ·exact (kk.set' (.inr (by rw [hlen];omega))).set' (.inr (Nat.le_refl _))
theorem z0m (hn:2 ≤ n) (r:RDs hp b s) (hk:s.length<16):∃ hp',C n 259 [.ptr b 0 0] hp=some (.pan badV,hp') ∧ Keep hp hp' [b]:=by
 obtain ⟨m,rfl⟩:=pre1 n
 have k0:Keep hp (hp++[AB.cells 0 (some 23) Dg.zero.cells 0]++[AB.cells 0 (some 23) Dg.zero.cells 0]) []:=(Keep.app hp _ []).trans (Keep.app _ _ []) (by simp)
 have d2:(hp++[AB.cells 0 (some 23) Dg.zero.cells 0]++[AB.cells 0 (some 23) Dg.zero.cells 0])[(hp++[AB.cells 0 (some 23) Dg.zero.cells 0]).length]?=some (.cells 0 (some 23) Dg.zero.cells 0):=zad _ _
 have:=za0 (n:=m) (c:=cfg0) (args:=[.ptr b 0 0]) (h:=hp) (R:=fun r h=>r=.pan badV ∧ Keep hp h [b]) F259 rfl rfl ?_
 ·obtain ⟨r,h',e,rfl,q⟩:=this;exact ⟨h',e,q⟩
 conv=>whnf
 refine ⟨_,_,_,d2,⟨by decide,by decide⟩,?_⟩
 refine slI (v:=.sl 1 (hp++[AB.cells 0 (some 23) Dg.zero.cells 0]).length 0 0 16) rfl ?_
 conv=>whnf
 refine clP (zmd (n:=m) (by omega) (r.stays k0 (by simp)) 16 hk (by omega)) ?_
 exact ⟨rfl,k0.mono (by simp)⟩
theorem rsumC (hn:2 ≤ n) (r:RDs hp b s) (ok:∀ hp',16 ≤ s.length → RDs hp' b (s.drop 16) → Keep hp hp' [b] → K (.agg (dgOf (s.take 16)).cells) hp') (bad:∀ hp',s.length<16 → Keep hp hp' [b] → X badV hp') :
  ∃ r h',C n 259 [.ptr b 0 0] hp=some (r,h') ∧ WpR K X h' r:=by
 by_cases hk:16 ≤ s.length
 ·obtain ⟨hp',e,g1,g2⟩:=z36 hn r hk
  exact clI e (ok hp' hk g1 g2)
 ·obtain ⟨hp',e,g⟩:=z0m hn r (by omega)
  exact clP e (bad hp' (by omega) g)
end
structure Sh where
 sz:Nat
 c:Bool
structure Freed where
 ver:Int
 sh:Sh
 pages:List Int
def Freed.cells (f:Freed):List AV:=[i64 f.ver,.lst f.sh.sz (f.pages.map i64) f.sh.c]
def Freed.av (f:Freed):AV:=.agg f.cells
def Freed.Ok (f:Freed):Prop:=f.pages≠[] → f.sh.sz=1
theorem zbw (f:Freed):f.av.cells?=some f.cells:=rfl
theorem zcr (k:Int):(i64 k).cells?=some [i64 k]:=rfl
def zh8 (next:Int) (data:Str):Str:=num next.toNat 4++(num data.length 2++data)
def zea (l:List Int):Str:=l.flatMap fun n=>num n.toNat 4
def zhg (f:Freed):Str:=num f.ver.toNat 6++(num f.pages.length 2++zea f.pages)
def zbj (l:List Freed):Str:=l.flatMap zhg
def zoo (next:Int) (l:List Freed):Str:=num next.toNat 4++(num l.length 2++zbj l)
theorem zll (l:List Int):(zea l).length=4*l.length:=by
 induction l with
 | nil=>rfl
 | cons a r ih=>simp only [zea,List.flatMap_cons,List.length_append,zal,List.length_cons] at ih ⊢;omega
theorem zlu (f:Freed):(zhg f).length=8+4*f.pages.length:=by
 simp only [zhg,List.length_append,zal,zll];omega
theorem zqf (l:List Int) (j:Nat) (hj:j<l.length):zea (l.take (j+1))=zea (l.take j)++num (l[j]).toNat 4:=by
 rw [List.take_succ_eq_append_getElem hj];simp only [zea,List.flatMap_append,List.flatMap_cons,List.flatMap_nil,List.append_nil]
theorem zou (l:List Freed) (j:Nat) (hj:j<l.length):zbj (l.take (j+1))=zbj (l.take j)++zhg l[j]:=by
 rw [List.take_succ_eq_append_getElem hj];simp only [zbj,List.flatMap_append,List.flatMap_cons,List.flatMap_nil,List.append_nil]
theorem zik (l:List Freed) (j:Nat) (hj:j<l.length):(zbj (l.take j)).length+(zhg l[j]).length ≤ (zbj l).length:=by
 have:zbj l=zbj (l.take j)++(zhg l[j]++zbj (l.drop (j+1))):=by
  conv=>lhs;rw [← List.take_append_drop j l,List.drop_eq_getElem_cons hj]
  simp only [zbj,List.flatMap_append,List.flatMap_cons]
 rw [this];simp only [List.length_append];omega
section
variable {n:Nat}{hp:zaa}{b:Nat}{bs:Str}{F:List Nat}{K X:AV → zaa → Prop}
theorem z04 (hn:4 ≤ n) (w:BW hp b bs F) (next:Int) (h0:0 ≤ next) (data:Str) (hl:bs.length+data.length+6 ≤ 1073741824) :
  ∃ hp' F',C n 276 [.agg [i64 next,.str data],.ptr b 0 0] hp=some (.ret (.tup []),hp') ∧ Wrote hp hp' b F F' (bs++zh8 next data):=by
 obtain ⟨m,rfl⟩:=pre1 n
 have:=zcc (n:=m) (c:=cfg0) (args:=[.agg [i64 next,.str data],.ptr b 0 0]) (h:=hp) (R:=fun v hp'=>v=.tup [] ∧ ∃ F',Wrote hp hp' b F F' (bs++zh8 next data)) F276 rfl rfl ?_
 ·obtain ⟨v,hp',e,rfl,F',hW⟩:=this
  exact ⟨hp',F',e,hW⟩
 obtain ⟨w1,e1,ne1⟩:=w.app (.cells 0 (some 292) [i64 next,.str data] 0)
 conv=>whnf
 refine ldI e1 ?_
 conv=>whnf
 refine numC (n:=m) (hp:=hp++[.cells 0 (some 292) [i64 next,.str data] 0]) (by omega) w1 next h0 4 (by omega) (by omega) fun h2 F2 w2=>?_
 have e2:=(w2.keep e1 ne1).1
 have ne2:=(w2.keep e1 ne1).2
 conv=>whnf
 refine ldI e2 ?_
 conv=>whnf
 refine numC (n:=m) (hp:=h2) (by omega) w2.1 _ (by omega) 2 (by omega) (by simp only [List.length_append,zal];omega) fun h3 F3 w3=>?_
 have e3:=(w3.keep e2 ne2).1
 have ne3:=(w3.keep e2 ne2).2
 conv=>whnf
 refine ldI e3 ?_
 conv=>whnf
 refine strC (n:=m) (hp:=h3) (by omega) w3.1 data (by simp only [List.length_append,zal];omega) fun h4 F4 w4=>?_
 have e4:=(w4.keep e3 ne3).1
 conv=>whnf
 refine ⟨?_,?_⟩
 ·conv=>whnf
  exact ldI e4 rfl
 refine ⟨rfl,[],rfl,rfl,F4,?_⟩
 have:=(w2.trans (w3.trans w4)).of_app
 simpa [zh8,List.append_assoc] using this
theorem zt1 {m:Nat}(hm:3 ≤ m) (l:List Int) (sz:Nat) (hz:l≠[] → sz=1) (c:Bool) (hnn:∀ k∈l,0 ≤ k) (w:BW hp b bs F) (hl:bs.length+4*l.length ≤ 1073741824) {Q:Ex → LS → Prop}{s:LS}(v18 v19 v20:AV)
  (hs:LS.sub ⟨[(1,.ptr b 0 0),(18,v18),(19,v19),(20,v20),(34,.lst sz (l.map i64) c),(35,i64 l.length),(36,i64 0)],hp,[]⟩ s)
  (hE:∀ h' F',Wrote hp h' b F F' (bs++zea l) → ∀ L,subL [(1,.ptr b 0 0),(18,v18),(19,v19),(20,v20)] L → Q (.exit 2) ⟨L,h',[]⟩):OkR Tryz.prog (C m) cfg0.inl KK 45 6 (.loop (c277.lp 1)) s Q:=by
 refine za1 (by decide) rfl (α:=Nat × List Nat × zaa) (fun x=>⟨[(1,.ptr b 0 0),(18,v18),(19,v19),(20,v20),(34,.lst sz (l.map i64) c),(35,i64 l.length),(36,i64 x.1)],x.2.2,[]⟩)
  (fun x=>x.1 ≤ l.length ∧ Wrote hp x.2.2 b F x.2.1 (bs++zea (l.take x.1))) (fun x=>l.length-x.1) (0,F,hp) hs ⟨Nat.zero_le _,by simpa [zea] using Wrote.refl w⟩ (by show l.length-0<KK;simp only [KK];omega) ?_
 rintro ⟨j,G,h1⟩ ⟨g1,g2⟩
 simp only at g1 g2
 conv=>whnf
 refine brd (fun a=>?_) (fun a=>?_)
 ·have hj:j<l.length:=by simp only at a;omega
  have hlen:(zea (l.take j)).length=4*j:=by rw [zll,List.length_take];omega
  conv=>whnf
  refine ixL zcr hj hz ?_
  conv=>whnf
  refine numC (n:=m) (hp:=h1) (by omega) g2.1 l[j] (hnn _ (List.getElem_mem hj)) 4 (by omega) (by simp only [List.length_append,hlen];omega) fun h2 F2 w2=>?_
  conv=>whnf
  refine zJ j ?_
  refine nxI (j+1,F2,h2) ⟨hj,?_⟩ (by simp only;omega) ⟨⟨rfl,rfl,rfl,rfl,rfl,rfl,rfl⟩,rfl,rfl⟩
  have:=g2.trans w2
  rwa [List.append_assoc,← zqf l j hj] at this
 ·have hj:j=l.length:=by simp only at a;omega
  subst hj
  rw [List.take_length] at g2
  conv=>whnf
  exact hE h1 G g2 _ ⟨rfl,rfl,rfl,rfl⟩
theorem z41 (hn:4 ≤ n) (w:BW hp b bs F) (next:Int) (h0:0 ≤ next) (l:List Freed) (sz:Nat) (hz:l≠[] → sz=2) (c:Bool) (hk:∀ f∈l,f.Ok ∧ 0 ≤ f.ver ∧ ∀ k∈f.pages,0 ≤ k) (hl:bs.length+(zbj l).length+l.length+6 ≤ 1073741824) :
  ∃ hp' F',C n 277 [.agg [i64 next,.lst sz (l.map Freed.av) c],.ptr b 0 0] hp=some (.ret (.tup []),hp') ∧ Wrote hp hp' b F F' (bs++zoo next l):=by
 obtain ⟨m,rfl⟩:=pre1 n
 have:=zcc (n:=m) (c:=cfg0) (args:=[.agg [i64 next,.lst sz (l.map Freed.av) c],.ptr b 0 0]) (h:=hp) (R:=fun v hp'=>v=.tup [] ∧ ∃ F',Wrote hp hp' b F F' (bs++zoo next l)) F277 rfl rfl ?_
 ·obtain ⟨v,hp',e,rfl,F',hW⟩:=this
  exact ⟨hp',F',e,hW⟩
 obtain ⟨w1,e1,ne1⟩:=w.app (.cells 0 (some 294) [i64 next,.lst sz (l.map Freed.av) c] 0)
 conv=>whnf
 refine ldI e1 ?_
 conv=>whnf
 refine numC (n:=m) (hp:=hp++[.cells 0 (some 294) [i64 next,.lst sz (l.map Freed.av) c] 0]) (by omega) w1 next h0 4 (by omega) (by omega) fun h2 F2 w2=>?_
 have e2:=(w2.keep e1 ne1).1
 have ne2:=(w2.keep e1 ne1).2
 conv=>whnf
 refine ldI e2 ?_
 conv=>whnf
 have el:((l.map Freed.av).length:Int)=(l.length:Int):=by rw [List.length_map]
 rw [el]
 refine numC (n:=m) (hp:=h2) (by omega) w2.1 (l.length:Int) (by omega) 2 (by omega) (by simp only [List.length_append,zal];omega) fun h3 F3 w3=>?_
 have e3:=(w3.keep e2 ne2).1
 have ne3:=(w3.keep e2 ne2).2
 have w03:=(w2.trans w3).of_app
 conv=>whnf
 refine ldI e3 ?_
 conv=>whnf
 refine za1 (by decide) rfl (α:=Nat × List Nat × zaa) (fun x=>⟨[(1,.ptr b 0 0),(18,.lst sz (l.map Freed.av) c),(19,i64 l.length),(20,i64 x.1)],x.2.2,[]⟩)
  (fun x=>x.1 ≤ l.length ∧ Wrote hp x.2.2 b F x.2.1 (bs++(num next.toNat 4++(num l.length 2++zbj (l.take x.1))))) (fun x=>l.length-x.1) (0,F3,h3) ⟨⟨rfl,rfl,lenI _ _,rfl⟩,rfl,rfl⟩
  ⟨Nat.zero_le _,by simpa [zbj,List.append_assoc] using w03⟩ (by show l.length-0<KK;simp only [KK];omega) ?_
 rintro ⟨j,G,h4⟩ ⟨g1,g2⟩
 simp only at g1 g2
 conv=>whnf
 refine brd (fun a=>?_) (fun a=>?_)
 ·have hj:j<l.length:=by simp only at a;omega
  obtain ⟨k1,k2,k3⟩:=hk _ (List.getElem_mem hj)
  have hfl:=zik l j hj
  have hfb:=zlu l[j]
  have g2':=g2.1
  obtain ⟨u0,x0,nx0⟩:=g2'.app (.cells 0 (some 145) l[j].cells 0)
  conv=>whnf
  refine ixL zbw hj hz ?_
  conv=>whnf
  refine stJ (zad _ _) ?_
  have es:(h4++[AB.cells 0 (some 145) [i64 0,.lst 0 [] true] 0]).set h4.length (.cells 0 (some 145) l[j].cells 0)=h4++[.cells 0 (some 145) l[j].cells 0]:=by simp
  conv=>whnf
  refine ldI (zaf _ _ _) ?_
  conv=>whnf
  have u1:BW ((h4++[AB.cells 0 (some 145) [i64 0,.lst 0 [] true] 0]).set h4.length (.cells 0 (some 145) l[j].cells 0)) b _ G:=es ▸ u0
  have x1:((h4++[AB.cells 0 (some 145) [i64 0,.lst 0 [] true] 0]).set h4.length (.cells 0 (some 145) l[j].cells 0))[h4.length]?=some (.cells 0 (some 145) l[j].cells 0):=es ▸ x0
  refine numC (n:=m) (hp:=(h4++[AB.cells 0 (some 145) [i64 0,.lst 0 [] true] 0]).set h4.length (.cells 0 (some 145) l[j].cells 0)) (by omega) u1 l[j].ver k2 6 (by omega) (by simp only [List.length_append,zal];omega) fun h5 F5 w5=>?_
  have x5:=(w5.keep x1 nx0).1
  have nx5:=(w5.keep x1 nx0).2
  have w5':Wrote h4 h5 b G F5 _:=Wrote.of_app (es ▸ w5)
  conv=>whnf
  refine ldI x5 ?_
  conv=>whnf
  have el2:(((l[j]).pages.map i64).length:Int)=((l[j]).pages.length:Int):=by rw [List.length_map]
  rw [el2]
  refine numC (n:=m) (hp:=h5) (by omega) w5.1 ((l[j]).pages.length:Int) (by omega) 2 (by omega) (by simp only [List.length_append,zal];omega) fun h6 F6 w6=>?_
  have x6:=(w6.keep x5 nx5).1
  conv=>whnf
  refine ldI x6 ?_
  conv=>whnf
  refine zt1 (by omega) l[j].pages l[j].sh.sz k1 l[j].sh.c k3 w6.1 (by simp only [List.length_append,zal];omega) (.lst sz (l.map Freed.av) c) (i64 l.length) (i64 j) ⟨⟨rfl,rfl,rfl,rfl,rfl,lenI i64 _,rfl⟩,rfl,rfl⟩ fun h7 F7 w7 L hL=>?_
  refine cutI (by decide) rfl (t:=⟨[(1,.ptr b 0 0),(18,.lst sz (l.map Freed.av) c),(19,i64 l.length),(20,i64 j)],h7,[]⟩) ⟨hL,rfl,rfl⟩ ?_
  conv=>whnf
  refine zJ j ?_
  refine nxI (j+1,F7,h7) ⟨hj,?_⟩ (by simp only;omega) ⟨⟨rfl,rfl,rfl,rfl⟩,rfl,rfl⟩
  have:=g2.trans (w5'.trans (w6.trans w7))
  simp only [zou l j hj,zhg]
  simpa [List.append_assoc] using this
 ·have hj:j=l.length:=by simp only at a;omega
  subst hj
  rw [List.take_length] at g2
  conv=>whnf
  refine ⟨rfl,[],rfl,rfl,G,?_⟩
  exact g2
end
def zeo (k:Nat) (s:Str):Option (Str × Str):=if k ≤ s.length then some (s.take k,s.drop k) else none
def pnum (w:Nat) (s:Str):Option (Nat × Str):=if w ≤ s.length then some (zag (s.take w),s.drop w) else none
def psum (s:Str):Option (Dg × Str):=if 16 ≤ s.length then some (dgOf (s.take 16),s.drop 16) else none
def zbd (key:Str) (long:Nat) (s:Str):Option (Entry × Str) :=
 if long=65535 then (pnum 4 s).bind fun o=>(pnum 2 o.2).bind fun l=>(psum l.2).map fun d=>(⟨key,[],o.1,l.1,0,0,d.1⟩,d.2)
 else if long=65534 then (pnum 4 s).bind fun o=>(pnum 4 o.2).bind fun l=>(psum l.2).map fun d=>(⟨key,[],0,0,o.1,l.1,d.1⟩,d.2)
 else (zeo long s).map fun v=>(⟨key,v.1,0,0,0,0,Dg.zero⟩,v.2)
def zfb (key:Str) (lv:Int) (s:Str):Option (Entry × Str):=if lv=0 then (pnum 2 s).bind fun l=>zbd key l.1 l.2 else zbd key 65534 s
def keyE (key:Str):Entry:=⟨key,[],0,0,0,0,Dg.zero⟩
def zge {α:Type}(o:Option (α × Str)) (R:α → Str → CRes → zaa → Prop) (B:zaa → Prop) (r:CRes) (h:zaa):Prop:=match o with
 | some (a,t)=>R a t r h
 | none=>r=.pan badV ∧ B h
section
variable {n:Nat}{hp:zaa}{b E:Nat}{s:Str}{K X:AV → zaa → Prop}
def ContR (hp:zaa) (b E:Nat) (e:Entry) (t:Str) (r:CRes) (h:zaa):Prop:=r=.ret (.tup []) ∧ RDs h b t ∧ h[E]?=some (.cells 0 (some 147) e.cells 0) ∧ Keep hp h [b,E]
theorem zux (hn:3 ≤ n) (r:RDs hp b s) (key:Str) (hE:hp[E]?=some (.cells 0 (some 147) (keyE key).cells 0)) (hne:E≠b) (lv:Int) :
  ∃ r h,C n 256 [.ptr b 0 0,.ptr E 0 0,i64 lv] hp=some (r,h) ∧ zge (zfb key lv s) (ContR hp b E) (fun h=>Keep hp h [b,E]) r h:=by
 obtain ⟨m,rfl⟩:=pre1 n
 refine za0 (n:=m) (c:=cfg0) (args:=[.ptr b 0 0,.ptr E 0 0,i64 lv]) (h:=hp) F256 rfl rfl ?_
 have kE:∀ {a c:zaa},Keep a c [b] → Keep a c [b,E]:=fun k=>k.mono (by simp)
 have body:∀ (long:Nat) (s1:Str) (h1:zaa) (s':LS),long<65536 → RDs h1 b s1 → Keep hp h1 [b] → LS.sub ⟨[(0,.ptr b 0 0),(1,.ptr E 0 0),(6,i64 long)],h1,[]⟩ s' → OkR Tryz.prog (C m) cfg0.inl KK 52 6 (ze3 c256) s' (EndQ Tryz.prog (C m) cfg0.inl [] (zge (zbd key long s1) (ContR hp b E) (fun h=>Keep hp h [b,E]))):=by
  intro long s1 h1 s' hlong r1 k1 hs'
  have E1:=k1.get hE (by simpa using hne)
  refine cutI (by decide) rfl hs' ?_
  conv=>whnf
  refine bre (fun a=>?_) (fun a=>?_)
  ·have a':long=65535:=by omega
   conv=>whnf
   refine zdg (n:=m) (hp:=h1) (by omega) r1 4 (by omega) (fun h2 q2 r2 k2=>?_) (fun q=>?_)
   ·conv=>whnf
    refine zdg (n:=m) (hp:=h2) (by omega) r2 2 (by omega) (fun h3 q3 r3 k3=>?_) (fun q=>?_)
    ·have E3:=k3.get (k2.get E1 (by simpa using hne)) (by simpa using hne)
     conv=>whnf
     refine stJ E3 ?_
     conv=>whnf
     refine stJ (by rw [List.getElem?_set_self (zab E3)]) ?_
     have k13:Keep hp h3 [b,E]:=kE ((k1.trans k2 (fun x hx=>.inl hx)).trans k3 (fun x hx=>.inl hx))
     have k4:Keep hp ((h3.set E (.cells 0 (some 147) (putAt (keyE key).cells (0+2) [i64 (zag (s1.take 4))]) 0)).set E (.cells 0 (some 147) (putAt (putAt (keyE key).cells (0+2) [i64 (zag (s1.take 4))]) (0+3) [i64 (zag ((s1.drop 4).take 2))]) 0)) [b,E]:=(k13.set' (.inl (by simp))).set' (.inl (by simp))
     have r4:RDs ((h3.set E (.cells 0 (some 147) (putAt (keyE key).cells (0+2) [i64 (zag (s1.take 4))]) 0)).set E (.cells 0 (some 147) (putAt (putAt (keyE key).cells (0+2) [i64 (zag (s1.take 4))]) (0+3) [i64 (zag ((s1.drop 4).take 2))]) 0)) b ((s1.drop 4).drop 2):=(r3.stays (Keep.set (F:=[E]) (by simp)) (by simpa using hne.symm)).stays (Keep.set (F:=[E]) (by simp)) (by simpa using hne.symm)
     have E4:((h3.set E (.cells 0 (some 147) (putAt (keyE key).cells (0+2) [i64 (zag (s1.take 4))]) 0)).set E (.cells 0 (some 147) (putAt (putAt (keyE key).cells (0+2) [i64 (zag (s1.take 4))]) (0+3) [i64 (zag ((s1.drop 4).take 2))]) 0))[E]?=some (.cells 0 (some 147) (putAt (putAt (keyE key).cells (0+2) [i64 (zag (s1.take 4))]) (0+3) [i64 (zag ((s1.drop 4).take 2))]) 0):=by rw [List.getElem?_set_self (by simp;exact zab E3)]
     conv=>whnf
     refine rsumC (n:=m) (by omega) r4 (fun h5 q5 r5 k5=>?_) (fun h5 q5 k5=>?_)
     ·have E5:=k5.get E4 (by simpa using hne)
      conv=>whnf
      refine stJ E5 (xs:=(dgOf (((s1.drop 4).drop 2).take 16)).cells) ?_
      refine ⟨[],rfl,?_⟩
      have e:zbd key long s1=some (⟨key,[],(zag (s1.take 4):Nat),(zag ((s1.drop 4).take 2):Nat),0,0,dgOf (((s1.drop 4).drop 2).take 16)⟩,((s1.drop 4).drop 2).drop 16):=by
       simp only [zbd,a',if_true,pnum,if_pos q2,Option.bind_some,if_pos q3,psum,if_pos q5,Option.map_some]
      rw [e]
      refine ⟨rfl,r5.stays (Keep.set (F:=[E]) (by simp)) (by simpa using hne.symm),?_,(k4.trans (kE k5) (fun x hx=>.inl hx)).set' (.inl (by simp))⟩
      rw [List.getElem?_set_self (zab E5)]
      rfl
     ·conv=>whnf
      have e:zbd key long s1=none:=by
       simp only [zbd,a',if_true,pnum,if_pos q2,Option.bind_some,if_pos q3,psum,if_neg (Nat.not_le.2 q5),Option.map_none]
      rw [e]
      exact ⟨rfl,k4.trans (kE k5) (fun x hx=>.inl hx)⟩
    ·conv=>whnf
     have e:zbd key long s1=none:=by
      simp only [zbd,a',if_true,pnum,if_pos q2,Option.bind_some,if_neg (Nat.not_le.2 q),Option.bind_none]
     rw [e]
     exact ⟨rfl,kE (k1.trans k2 (fun x hx=>.inl hx))⟩
   ·conv=>whnf
    have e:zbd key long s1=none:=by
     simp only [zbd,a',if_true,pnum,if_neg (Nat.not_le.2 q),Option.bind_none]
    rw [e]
    exact ⟨rfl,kE k1⟩
  ·have a':long≠65535:=by omega
   conv=>whnf
   refine bre (fun c=>?_) (fun c=>?_)
   ·have c':long=65534:=by omega
    conv=>whnf
    refine zdg (n:=m) (hp:=h1) (by omega) r1 4 (by omega) (fun h2 q2 r2 k2=>?_) (fun q=>?_)
    ·conv=>whnf
     refine zdg (n:=m) (hp:=h2) (by omega) r2 4 (by omega) (fun h3 q3 r3 k3=>?_) (fun q=>?_)
     ·have E3:=k3.get (k2.get E1 (by simpa using hne)) (by simpa using hne)
      conv=>whnf
      refine stJ E3 ?_
      conv=>whnf
      refine stJ (by rw [List.getElem?_set_self (zab E3)]) ?_
      have k13:Keep hp h3 [b,E]:=kE ((k1.trans k2 (fun x hx=>.inl hx)).trans k3 (fun x hx=>.inl hx))
      have k4:Keep hp ((h3.set E (.cells 0 (some 147) (putAt (keyE key).cells (0+4) [i64 (zag (s1.take 4))]) 0)).set E (.cells 0 (some 147) (putAt (putAt (keyE key).cells (0+4) [i64 (zag (s1.take 4))]) (0+5) [i64 (zag ((s1.drop 4).take 4))]) 0)) [b,E]:=(k13.set' (.inl (by simp))).set' (.inl (by simp))
      have r4:RDs ((h3.set E (.cells 0 (some 147) (putAt (keyE key).cells (0+4) [i64 (zag (s1.take 4))]) 0)).set E (.cells 0 (some 147) (putAt (putAt (keyE key).cells (0+4) [i64 (zag (s1.take 4))]) (0+5) [i64 (zag ((s1.drop 4).take 4))]) 0)) b ((s1.drop 4).drop 4):=(r3.stays (Keep.set (F:=[E]) (by simp)) (by simpa using hne.symm)).stays (Keep.set (F:=[E]) (by simp)) (by simpa using hne.symm)
      have E4:((h3.set E (.cells 0 (some 147) (putAt (keyE key).cells (0+4) [i64 (zag (s1.take 4))]) 0)).set E (.cells 0 (some 147) (putAt (putAt (keyE key).cells (0+4) [i64 (zag (s1.take 4))]) (0+5) [i64 (zag ((s1.drop 4).take 4))]) 0))[E]?=some (.cells 0 (some 147) (putAt (putAt (keyE key).cells (0+4) [i64 (zag (s1.take 4))]) (0+5) [i64 (zag ((s1.drop 4).take 4))]) 0):=by rw [List.getElem?_set_self (by simp;exact zab E3)]
      conv=>whnf
      refine rsumC (n:=m) (by omega) r4 (fun h5 q5 r5 k5=>?_) (fun h5 q5 k5=>?_)
      ·have E5:=k5.get E4 (by simpa using hne)
       conv=>whnf
       refine stJ E5 (xs:=(dgOf (((s1.drop 4).drop 4).take 16)).cells) ?_
       refine ⟨[],rfl,?_⟩
       have e:zbd key long s1=some (⟨key,[],0,0,(zag (s1.take 4):Nat),(zag ((s1.drop 4).take 4):Nat),dgOf (((s1.drop 4).drop 4).take 16)⟩,((s1.drop 4).drop 4).drop 16):=by
        simp only [zbd,c',show ¬ (65534:Nat)=65535 by decide,if_true,if_false,pnum,if_pos q2,Option.bind_some,if_pos q3,psum,if_pos q5,Option.map_some]
       rw [e]
       refine ⟨rfl,r5.stays (Keep.set (F:=[E]) (by simp)) (by simpa using hne.symm),?_,(k4.trans (kE k5) (fun x hx=>.inl hx)).set' (.inl (by simp))⟩
       rw [List.getElem?_set_self (zab E5)]
       rfl
      ·conv=>whnf
       have e:zbd key long s1=none:=by
        simp only [zbd,c',show ¬ (65534:Nat)=65535 by decide,if_true,if_false,pnum,if_pos q2,Option.bind_some,if_pos q3,psum,if_neg (Nat.not_le.2 q5),Option.map_none]
       rw [e]
       exact ⟨rfl,k4.trans (kE k5) (fun x hx=>.inl hx)⟩
     ·conv=>whnf
      have e:zbd key long s1=none:=by
       simp only [zbd,c',show ¬ (65534:Nat)=65535 by decide,if_true,if_false,pnum,if_pos q2,Option.bind_some,if_neg (Nat.not_le.2 q),Option.bind_none]
      rw [e]
      exact ⟨rfl,kE (k1.trans k2 (fun x hx=>.inl hx))⟩
    ·conv=>whnf
     have e:zbd key long s1=none:=by
      simp only [zbd,c',show ¬ (65534:Nat)=65535 by decide,if_true,if_false,pnum,if_neg (Nat.not_le.2 q),Option.bind_none]
     rw [e]
     exact ⟨rfl,kE k1⟩
   ·have c':long≠65534:=by omega
    conv=>whnf
    refine zvu (n:=m) (hp:=h1) (by omega) r1 long (by omega) (fun h2 q2 r2 k2=>?_) (fun q=>?_)
    ·have E2:=k2.get E1 (by simpa using hne)
     conv=>whnf
     refine stJ E2 ?_
     refine ⟨[],rfl,?_⟩
     have e:zbd key long s1=some (⟨key,s1.take long,0,0,0,0,Dg.zero⟩,s1.drop long):=by
      simp only [zbd,a',c',if_false,zeo,if_pos q2,Option.map_some]
     rw [e]
     refine ⟨rfl,r2.stays (Keep.set (F:=[E]) (by simp)) (by simpa using hne.symm),?_,(kE (k1.trans k2 (fun x hx=>.inl hx))).set' (.inl (by simp))⟩
     rw [List.getElem?_set_self (zab E2)]
     rfl
    ·conv=>whnf
     have e:zbd key long s1=none:=by
      simp only [zbd,a',c',if_false,zeo,if_neg (Nat.not_le.2 q),Option.map_none]
     rw [e]
     exact ⟨rfl,kE k1⟩
 conv=>whnf
 refine bre (fun a=>?_) (fun a=>?_)
 ·subst a
  conv=>whnf
  refine zdg (n:=m) (hp:=hp) (by omega) r 2 (by omega) (fun h2 q2 r2 k2=>?_) (fun q=>?_)
  ·have e:zfb key 0 s=zbd key (zag (s.take 2)) (s.drop 2):=by simp only [zfb,if_true,pnum,if_pos q2,Option.bind_some]
   rw [e]
   conv=>whnf
   exact body _ _ h2 _ (Nat.lt_of_lt_of_eq (zcg 2 _ (by rw [List.length_take];omega)) (by decide)) r2 k2 ⟨⟨rfl,rfl,rfl⟩,rfl,rfl⟩
  ·have e:zfb key 0 s=none:=by simp only [zfb,if_true,pnum,if_neg (Nat.not_le.2 q),Option.bind_none]
   rw [e]
   conv=>whnf
   exact ⟨rfl,Keep.refl _ _⟩
 ·have e:zfb key lv s=zbd key 65534 s:=by simp only [zfb,a,if_false]
  rw [e]
  conv=>whnf
  exact body 65534 s hp _ (by decide) r (Keep.refl _ _) ⟨⟨rfl,rfl,rfl⟩,rfl,rfl⟩
end
def c231:RC :=
 (.seq (.ops [(oP 4 (.mv (.c .nili)))])
 (.seq (.seq (.ops [(mV 13 1)])
 (.block 0
 (.seq (.seq (.ops [(oJ 15 .eql 13 1),(mV 14 15)])
 (.cond (.t 14)
 .skip
 (.ops [(oJ 16 .eql 13 2),(mV 14 16)])))
 (.cond (.t 14)
 (.cut (.seq (.ops [(mV 17 0),(oP 18 (.callF 229 [(.t 17),(.c (.int .i64 1))])),(mV 19 0),(oP 20 (.callF 229 [(.t 19),(.c (.int .i64 1))])),(oP 21 (.build [(.int .i64 0),(.int .i64 0),(.bool false),(.lst 0 [] true)] [(0,1,(.t 18)),(1,1,(.t 20))])),(oP 5 (.alloc 296 [(.int .i64 0),(.int .i64 0),(.bool false),(.lst 0 [] true)])),(oT 4 5 21)])
 (.seq (.ops [(mV 22 0),(oP 23 (.callF 229 [(.t 22),(.c (.int .i64 1))])),(oJ 24 .eql 23 1),(oC 25 2 5),(oT 1 25 24)])
 (.seq (.ops [(mV 26 0),(oP 27 (.callF 229 [(.t 26),(.c (.int .i64 1))])),(mV 6 27)])
 (.seq (.ops [(mV 28 0),(oP 29 (.callF 229 [(.t 28),(.c (.int .i64 2))])),(mV 7 29)])
 (.seq (.ops [(mV 30 0),(mV 31 6),(oW 32 249 30 31),(mV 8 32)])
 (.seq (.ops [(mV 33 0),(mV 34 7),(oP 35 (.bin .mul (.c (.int .i64 2)) (.t 34))),(oW 36 249 33 35)])
 (.seq (.seq (.ops [(mV 37 0),(mV 38 7),(oC 39 1 5),(oA 40 39),(mV 41 8),(oP 42 (.callF 250 [(.t 37),(.t 38),(.t 40),(.t 41)]))])
 (.block 1
 (.rangeF (.t 42) [43]
 (.ops [(oP 9 (.alloc 147 [(.str []),(.str []),(.int .i64 0),(.int .i64 0),(.int .i64 0),(.int .i64 0),(.int .u8 0),(.int .u8 0),(.int .u8 0),(.int .u8 0),(.int .u8 0),(.int .u8 0),(.int .u8 0),(.int .u8 0),(.int .u8 0),(.int .u8 0),(.int .u8 0),(.int .u8 0),(.int .u8 0),(.int .u8 0),(.int .u8 0),(.int .u8 0)])),(oT 22 9 43)])
 (.block 2
 (.ops [(oC 44 3 5),(oA 45 44),(oB 46 22 9),(oP 47 (.mkLst 22 true 1 [(.str []),(.str []),(.int .i64 0),(.int .i64 0),(.int .i64 0),(.int .i64 0),(.int .u8 0),(.int .u8 0),(.int .u8 0),(.int .u8 0),(.int .u8 0),(.int .u8 0),(.int .u8 0),(.int .u8 0),(.int .u8 0),(.int .u8 0),(.int .u8 0),(.int .u8 0),(.int .u8 0),(.int .u8 0),(.int .u8 0),(.int .u8 0)] [(0,22,(.t 46))])),(oP 48 (.app 147 22 (.t 45) (.t 47))),(oC 49 3 5),(oT 1 49 48)])))))
 (.cut (.seq (.ops [(oB 50 4 5),(oP 51 (.mkIfc 296 (.t 50))),(mV 4 51)])
 .ret))))))))))
 (.seq (.ops [(oJ 53 .eql 13 3),(mV 52 53)])
 (.cond (.t 52)
 (.seq (.ops [(mV 54 0),(oP 55 (.callF 229 [(.t 54),(.c (.int .i64 4))])),(oP 56 (.build [(.int .i64 0),(.str [])] [(0,1,(.t 55))])),(oP 10 (.alloc 292 [(.int .i64 0),(.str [])])),(oT 2 10 56)])
 (.seq (.ops [(mV 57 0),(mV 58 0),(oP 59 (.callF 229 [(.t 58),(.c (.int .i64 2))])),(oW 60 249 57 59),(oC 61 1 10),(oT 1 61 60)])
 (.seq (.ops [(oB 62 2 10),(oP 63 (.mkIfc 292 (.t 62))),(mV 4 63)])
 .ret)))
 .skip))))))
 (.cut (.seq (.ops [(mV 64 0),(oP 65 (.callF 229 [(.t 64),(.c (.int .i64 4))])),(oP 66 (.build [(.int .i64 0),(.lst 0 [] true)] [(0,1,(.t 65))])),(oP 11 (.alloc 294 [(.int .i64 0),(.lst 0 [] true)])),(oT 2 11 66)])
 (.seq (.seq (.ops [(mV 67 0),(oP 68 (.callF 229 [(.t 67),(.c (.int .i64 2))])),(oH 69 0)])
 (.block 3
 (.loop
 (.seq (.ops [(oI 70 .lss 69 68)])
 (.seq (.cond (.t 70)
 .skip
 (.exit 3))
 (.seq (.block 4
 (.seq (.ops [(mV 71 0),(oP 72 (.callF 229 [(.t 71),(.c (.int .i64 6))])),(oP 73 (.build [(.int .i64 0),(.lst 0 [] true)] [(0,1,(.t 72))])),(oP 12 (.alloc 145 [(.int .i64 0),(.lst 0 [] true)])),(oT 2 12 73)])
 (.seq (.seq (.ops [(mV 74 0),(oP 75 (.callF 229 [(.t 74),(.c (.int .i64 2))])),(oH 76 0)])
 (.block 5
 (.loop
 (.seq (.ops [(oI 77 .lss 76 75)])
 (.seq (.cond (.t 77)
 .skip
 (.exit 5))
 (.seq (.block 6
 (.draw [((oC 78 1 12),0),((oA 79 78),1),((mV 80 0),0),((oP 81 (.callF 229 [(.t 80),(.c (.int .i64 4))])),2),((oP 82 (.mkLst 1 false 1 [(.int .i64 0)] [(0,1,(.t 81))])),0),((oP 83 (.app 3 1 (.t 79) (.t 82))),3),((oC 84 1 12),0),((oT 1 84 83),2)]))
 (.ops [(oJ 85 .add 76 1),(mV 76 85)])))))))
 (.cut (.ops [(oC 86 1 11),(oA 87 86),(oB 88 2 12),(oP 89 (.mkLst 2 true 1 [(.int .i64 0),(.lst 0 [] true)] [(0,2,(.t 88))])),(oP 90 (.app 145 2 (.t 87) (.t 89))),(oC 91 1 11),(oT 1 91 90)])))))
 (.cut (.ops [(oJ 92 .add 69 1),(mV 69 92)]))))))))
 (.cut (.seq (.ops [(oB 93 2 11),(oP 94 (.mkIfc 294 (.t 93))),(mV 4 94)])
 .ret)))))))
theorem F231:FI 231 2 95 7 [.tmp 4] c231:=mkF Tryz.f231 Tryz.func231
def GBuf (el:TypeId) (sz:Nat) (hp:zaa) (X:Nat) (L:AV) (rows:List (List AV)) (G:List Nat):Prop :=
 (∀ r∈rows,r.length=sz ∧ r.all AV.scal=true) ∧ ((L=.lst 0 [] true ∧ rows=[] ∧ G=[X]) ∨ (∃ eb ver frz,L=.sl sz eb ver 0 rows.length ∧ hp[eb]?=some (.cells ver (some el) rows.flatten frz) ∧ X≠eb ∧ frz ≤ rows.flatten.length ∧ G=[X,eb]))
theorem zev {sz:Nat}:∀ {rows:List (List AV)},(∀ r∈rows,r.length=sz ∧ r.all AV.scal=true) → rows.flatten.length=rows.length*sz ∧ rows.flatten.all AV.scal=true
 | [],_=>by simp
 | a::r,h=>by
  have h1:=zev fun x hx=>h x (List.mem_cons_of_mem _ hx)
  have h2:=h a (List.mem_cons_self ..)
  simp only [List.flatten_cons,List.length_append,List.length_cons,List.all_append,h1,h2,Bool.and_self,and_true]
  rw [Nat.add_mul];omega
theorem GBuf.mem {el sz:Nat}{hp:zaa}{X:Nat}{L:AV}{rows:List (List AV)}{G:List Nat}(h:GBuf el sz hp X L rows G):X∈G:=by
 rcases h.2 with ⟨_,_,rfl⟩ | ⟨eb,ver,frz,_,h2,_,_,rfl⟩<;>simp
theorem GBuf.lt {el sz:Nat}{hp:zaa}{X:Nat}{L:AV}{rows:List (List AV)}{G:List Nat}(h:GBuf el sz hp X L rows G) (hX:X<hp.length):∀ x∈G,x<hp.length:=by
 intro x hx
 rcases h.2 with ⟨_,_,rfl⟩ | ⟨eb,ver,frz,_,h2,_,_,rfl⟩
 ·simp at hx;omega
 ·simp at hx
  rcases hx with rfl | rfl
  ·exact hX
  ·exact zab h2
theorem GBuf.stays {el sz:Nat}{hp hp':zaa}{X:Nat}{L:AV}{rows:List (List AV)}{G:List Nat}(h:GBuf el sz hp X L rows G) (e:∀ x∈G,x≠X → hp'[x]?=hp[x]?):GBuf el sz hp' X L rows G:=by
 refine ⟨h.1,?_⟩
 rcases h.2 with h | ⟨eb,ver,frz,h1,h2,h3,h4,rfl⟩
 ·exact .inl h
 ·exact .inr ⟨eb,ver,frz,h1,by rw [e eb (by simp) (Ne.symm h3)];exact h2,h3,h4,rfl⟩
theorem zm2 {el sz:Nat}{hp:zaa}{X:Nat}{L x:AV}{rows:List (List AV)}{row:List AV}{G:List Nat}(hB:GBuf el sz hp X L rows G) (hX:X<hp.length) (h1:lenA x=some 1) (h2:zav hp sz 1 x=some row) (hr:row.length=sz ∧ row.all AV.scal=true) (hl:rows.length+1 ≤ 1073741824) :
  ∃ v oh,appR hp el sz L x=some (v,oh) ∧ ∃ hp' G',hp'=oh.getD hp ∧ hp'[X]?=hp[X]? ∧ GBuf el sz hp' X v (rows++[row]) G' ∧ Keep hp hp' G ∧ (∀ x∈G',x∈G ∨ hp.length ≤ x) ∧ (∃ xs,v.cells?=some xs ∧ xs=[v]):=by
 have hrows:∀ r∈rows++[row],r.length=sz ∧ r.all AV.scal=true:=by
  intro r hm
  simp at hm
  rcases hm with hm | rfl
  ·exact hB.1 r hm
  ·exact hr
 unfold appR
 rw [h1]
 simp only
 rw [h2]
 simp only [hr.2,Bool.not_true,Bool.false_eq_true,if_false]
 rcases hB.2 with ⟨rfl,rfl,rfl⟩ | ⟨bb,ver,frz,rfl,g1,g2,g3,rfl⟩
 ·simp only
  rw [if_neg (by decide)]
  have h3:zav hp sz ([]:List AV).length (.lst 0 [] true)=some []:=by
   unfold zav
   simp
  rw [h3]
  simp only [List.length_nil,Nat.zero_add]
  rw [if_pos ⟨by decide,rfl⟩]
  refine ⟨_,_,rfl,_,[X,hp.length],rfl,?_,⟨hrows,.inr ⟨hp.length,0,0,rfl,?_,by omega,Nat.zero_le _,rfl⟩⟩,Keep.app _ _ _,?_,_,rfl,rfl⟩
  ·simp only [Option.getD_some];rw [List.getElem?_append_left hX]
  ·simp
  ·intro x hx;simp at hx;rcases hx with rfl | rfl<;>simp
 ·have hf:=zev hB.1
  simp only
  rw [g1]
  simp only
  rw [if_pos ⟨.inl trivial,trivial,trivial,trivial,hf.1.symm,hf.2,hl,g3⟩,if_neg (by decide)]
  refine ⟨_,_,rfl,_,[X,bb],rfl,?_,⟨hrows,.inr ⟨bb,ver+1,frz,by simp,?_,g2,by rw [List.flatten_append,List.length_append];omega,rfl⟩⟩,Keep.set (by simp),fun x hx=>.inl hx,_,rfl,rfl⟩
  ·simp only [Option.getD_some];rw [List.getElem?_set_ne (fun e=>g2 e.symm)]
  ·simp only [Option.getD_some];rw [List.getElem?_set_self (zab g1)];simp
theorem zo2 (h:zaa) {sz:Nat}{row:List AV}(hr:row.length=sz) (hs:AV.cells? (.agg row)=some row):zav h sz 1 (.lst sz [.agg row] true)=some row:=by
 unfold zav
 simp only
 rw [if_pos ⟨Nat.le_refl _,.inl trivial⟩]
 simp [hs,hr]
theorem zxp (b:Nat):cfg0.inl (Tryz.prog.funcs.size+b)=true:=by
 have h1:Tryz.prog.funcs.size=284:=by kernel_rfl
 have h:∀ f,284 ≤ f → cfg0.inl f=true:=fun f hf=>by
  show (inlL.contains f||decide (284 ≤ f))=true
  simp [hf]
 exact h _ (Nat.le_trans (Nat.le_of_eq h1.symm) (Nat.le_add_right _ _))
structure XS (hp:zaa) (X Bk:Nat) (tree lv:Int) (top:Bool) (lp:AB) (es:List Entry) (G:List Nat):Prop where
 node:∃ L,hp[X]?=some (.cells 0 (some 296) [i64 tree,i64 lv,.bool top,L] 0) ∧ GBuf 147 22 hp X L (es.map Entry.cells) G
 loop:hp[Bk]?=some lp
 out:Bk ∉ G
theorem XS.lt {hp:zaa}{X Bk:Nat}{tree lv:Int}{top:Bool}{lp:AB}{es:List Entry}{G:List Nat}(h:XS hp X Bk tree lv top lp es G):∀ x∈G,x<hp.length:=by
 obtain ⟨L,h1,h2⟩:=h.node
 exact h2.lt (zab h1)
theorem XS.stays {hp hp':zaa}{X Bk:Nat}{tree lv:Int}{top:Bool}{lp:AB}{es:List Entry}{G F:List Nat}(h:XS hp X Bk tree lv top lp es G) (k:Keep hp hp' F) (hG:∀ x∈G,x ∉ F) (hB:Bk ∉ F):XS hp' X Bk tree lv top lp es G:=by
 have hl:=h.lt
 obtain ⟨⟨L,h1,h2⟩,h3,h4⟩:=h
 exact ⟨⟨L,k.get h1 (hG _ h2.mem),h2.stays fun x hx _=>k.2 x (hl x hx) (hG x hx)⟩,k.get h3 hB,h4⟩
section
variable {n:Nat}{hp:zaa}
abbrev rngB:RC × RC:=match c231.rngs with
 | p::_=>p
 | []=>(.skip,.skip)
theorem zzn (hn:1 ≤ n) {X Bk:Nat}{tree lv:Int}{top:Bool}{es:List Entry}{G:List Nat}{tms:Tm}{qs:Array Tmp}{ca cb:Code}{db:Nat}(x:XS hp X Bk tree lv top (.loop false tms qs ca cb db) es G)
  (H:HasL 95 7 [(5,.ptr X 0 0)] tms) (hq:qs.toList=[43]) (hca:resC Tryz.prog cfg0.inl ca=rngB.1.erase) (hcb:resC Tryz.prog cfg0.inl cb=rngB.2.erase) (hl:es.length+1 ≤ 1073741824) (e:Entry) :
  ∃ hp' G',C n (Tryz.prog.funcs.size+Bk) [e.av] hp=some (.ret (.bool true),hp') ∧ XS hp' X Bk tree lv top (.loop false tms qs ca cb db) (es++[e]) G' ∧ Keep hp hp' G ∧ ∀ x∈G',x∈G ∨ hp.length ≤ x:=by
 obtain ⟨m,rfl⟩:=pre1 n
 have hG:=x.lt
 obtain ⟨⟨L,x1,x2⟩,x3,x4⟩:=x
 have hXl:=zab x1
 have hBX:Bk≠X:=by rintro rfl;rw [x1] at x3;cases x3
 have hBl:=zab x3
 -- the memory in a round
 have es1:(hp++[AB.cells 0 (some 147) (keyE []).cells 0]).set hp.length (.cells 0 (some 147) e.cells 0)=hp++[.cells 0 (some 147) e.cells 0]:=by simp
 have key:=yieldI (P:=Tryz.prog) (call:=C m) (inl:=cfg0.inl) (k:=KK) (n:=95) (d:=7) (ra:=rngB.1) (rb:=rngB.2) rfl rfl ca cb hca hcb rfl rfl (by decide) (b:=Bk) (args:=[e.av]) (tms:=tms) (qs:=qs) (db:=db) (h:=hp)
  (R:=fun hp'=>∃ G',XS hp' X Bk tree lv top (.loop false tms qs ca cb db) (es++[e]) G' ∧ Keep hp hp' G ∧ ∀ x∈G',x∈G ∨ hp.length ≤ x) H x3 (by rw [← Array.length_toList,hq];rfl) (by rw [hq];rfl) ?_
 ·obtain ⟨hp',h1,G',h2,h3,h4⟩:=key
  exact ⟨hp',G',by rw [show C (m+1) (Tryz.prog.funcs.size+Bk) [e.av] hp=_ from yieldC (zxp Bk)];exact h1,h2,h3,h4⟩
 rw [hq]
 conv=>whnf
 refine stJ (zad _ _) ?_
 refine ⟨rfl,rfl,?_,?_⟩
 ·show ((hp++[AB.cells 0 (some 147) (keyE []).cells 0]).set hp.length (.cells 0 (some 147) e.cells 0))[Bk]?=_
  rw [es1,List.getElem?_append_left hBl];exact x3
 -- what the round does
 have hB2:Bk<(hp++[AB.cells 0 (some 147) e.cells 0]).length:=by simp;omega
 have x1':((hp++[AB.cells 0 (some 147) e.cells 0]).set Bk (.loop true tms qs ca cb db))[X]?=some (.cells 0 (some 296) [i64 tree,i64 lv,.bool top,L] 0):=by
  rw [List.getElem?_set_ne hBX,List.getElem?_append_left hXl];exact x1
 have xe:((hp++[AB.cells 0 (some 147) e.cells 0]).set Bk (.loop true tms qs ca cb db))[hp.length]?=some (.cells 0 (some 147) e.cells 0):=by
  rw [List.getElem?_set_ne (by omega)];simp
 have xb:((hp++[AB.cells 0 (some 147) e.cells 0]).set Bk (.loop true tms qs ca cb db))[Bk]?=some (.loop true tms qs ca cb db):=by
  rw [List.getElem?_set_self hB2]
 have x2':GBuf 147 22 ((hp++[AB.cells 0 (some 147) e.cells 0]).set Bk (.loop true tms qs ca cb db)) X L (es.map Entry.cells) G:=x2.stays fun y hy _=>by
  rw [List.getElem?_set_ne (by rintro rfl;exact x4 hy),List.getElem?_append_left (hG y hy)]
 obtain ⟨v,oh,ea,hp2,G',rfl,g1,g2,g3,g4,xs,g5,rfl⟩:=zm2 (x:=.lst 22 [.agg e.cells] true) x2' (zab x1') rfl (zo2 _ rfl rfl) ⟨rfl,rfl⟩ (by simpa using hl)
 have f1:=g1.trans x1'
 have fin:∀ (L':LT),(fun ex s2=>ex=Ex.norm ∧ s2.df=[] ∧ s2.h[Bk]?=some (.loop true tms qs ca cb db) ∧ ∃ G',XS (s2.h.set Bk (.loop false tms qs ca cb db)) X Bk tree lv top (.loop false tms qs ca cb db) (es++[e]) G' ∧ Keep hp (s2.h.set Bk (.loop false tms qs ca cb db)) G ∧ ∀ x∈G',x∈G ∨ hp.length ≤ x) Ex.norm
   (⟨L',(oh.getD ((hp++[AB.cells 0 (some 147) e.cells 0]).set Bk (.loop true tms qs ca cb db))).set X (.cells 0 (some 296) (putAt [i64 tree,i64 lv,.bool top,L] 3 [v]) 0),[]⟩ : LS):=by
  intro L'
  have y1:=g3.get xb (fun q=>x4 (by simpa using q))
  have hBG':Bk ∉ G':=fun q=>by
   rcases g4 Bk q with q | q
   ·exact x4 q
   ·simp at q;omega
  have y2:((oh.getD ((hp++[AB.cells 0 (some 147) e.cells 0]).set Bk (.loop true tms qs ca cb db))).set X (.cells 0 (some 296) (putAt [i64 tree,i64 lv,.bool top,L] 3 [v]) 0))[Bk]?=some (.loop true tms qs ca cb db):=by
   rw [List.getElem?_set_ne (Ne.symm hBX)];exact y1
  refine ⟨rfl,rfl,y2,G',⟨⟨v,?_,?_⟩,?_,hBG'⟩,⟨?_,fun y hy hn=>?_⟩,fun y hy=>(g4 y hy).imp id fun q=>by simp at q;omega⟩
  ·rw [List.getElem?_set_ne hBX,List.getElem?_set_self (zab f1)];rfl
  ·rw [List.map_append]
   refine g2.stays fun y hy hyX=>?_
   rw [List.getElem?_set_ne (by rintro rfl;exact hBG' hy),List.getElem?_set_ne (Ne.symm hyX)]
  ·rw [List.getElem?_set_self (zab y2)]
  ·have:=g3.1
   simp at this ⊢
   omega
  ·have hyX:y≠X:=by rintro rfl;exact hn x2.mem
   by_cases hyB:y=Bk
   ·subst hyB
    rw [List.getElem?_set_self (zab y2)];exact x3.symm
   ·rw [List.getElem?_set_ne (Ne.symm hyB),List.getElem?_set_ne (Ne.symm hyX),g3.2 y (by simp;omega) hn,List.getElem?_set_ne (Ne.symm hyB),List.getElem?_append_left hy]
 show Wp _ _ _ _ _ _ _ ⟨_,((hp++[AB.cells 0 (some 147) (keyE []).cells 0]).set hp.length (.cells 0 (some 147) e.cells 0)).set Bk (.loop true tms qs ca cb db),[]⟩ _
 rw [es1]
 conv=>whnf
 refine ldI x1' ?_
 conv=>whnf
 refine ldI xe ?_
 conv=>whnf
 refine ⟨rfl,?_⟩
 refine ⟨_,ea,?_⟩
 cases oh with
 | none =>
  conv=>whnf
  refine stI x1' g5 (by rfl) (by rfl) (by rfl) ?_
  exact fin _
 | some h2 =>
  conv=>whnf
  refine stI f1 g5 (by rfl) (by rfl) (by rfl) ?_
  exact fin _
end
def preK (pre:Str) (lv:Int) (i:Nat):Str:=if 0<i ∨ lv=0 then pre else []
def pent (pre:Str) (lv:Int) (i:Nat) (s:Str):Option (Entry × Str):=(pnum 1 s).bind fun k=>(zeo k.1 k.2).bind fun t=>zfb (preK pre lv i++t.1) lv t.2
def ze2 (pre:Str) (lv:Int):Nat → Nat → Str → Option (List Entry × Str)
 | 0,_,s=>some ([],s)
 | c+1,i,s=>(pent pre lv i s).bind fun e=>(ze2 pre lv c (i+1) e.2).map fun r=>(e.1::r.1,r.2)
section
variable {n:Nat}{hp:zaa}{b:Nat}{s:Str}
structure Clo (hp:zaa) (N R LV PF b:Nat) (k:Nat) (lv:Int) (pre:Str):Prop where
 cn:hp[N]?=some (.cells 0 (some 3) [i64 k] 0)
 cr:hp[R]?=some (.cells 0 (some 308) [.ptr b 0 0] 0)
 cl:hp[LV]?=some (.cells 0 (some 3) [i64 lv] 0)
 cp:hp[PF]?=some (.cells 0 (some 9) [.str pre] 0)
theorem Clo.stays {hp hp':zaa}{N R LV PF b:Nat}{k:Nat}{lv:Int}{pre:Str}{F:List Nat}(c:Clo hp N R LV PF b k lv pre) (h:Keep hp hp' F) (hn:N ∉ F ∧ R ∉ F ∧ LV ∉ F ∧ PF ∉ F):Clo hp' N R LV PF b k lv pre :=
 ⟨h.get c.cn hn.1,h.get c.cr hn.2.1,h.get c.cl hn.2.2.1,h.get c.cp hn.2.2.2⟩
def EntsR (hp:zaa) (b X Bk:Nat) (tree lv:Int) (top:Bool) (lp:AB) (es0:List Entry) (G:List Nat) (es:List Entry) (t:Str) (r:CRes) (h:zaa):Prop :=
 r=.ret (.tup []) ∧ RDs h b t ∧ ∃ G',XS h X Bk tree lv top lp (es0++es) G' ∧ Keep hp h (b::G) ∧ ∀ x∈G',x∈G ∨ hp.length ≤ x
theorem zqs (hn:4 ≤ n) {X Bk N R LV PF:Nat}{tree lv:Int}{top:Bool}{G:List Nat}{tms:Tm}{qs:Array Tmp}{ca cb:Code}{db:Nat}{k:Nat}{pre:Str}(x:XS hp X Bk tree lv top (.loop false tms qs ca cb db) [] G)
  (H:HasL 95 7 [(5,.ptr X 0 0)] tms) (hq:qs.toList=[43]) (hca:resC Tryz.prog cfg0.inl ca=rngB.1.erase) (hcb:resC Tryz.prog cfg0.inl cb=rngB.2.erase) (r:RDs hp b s) (c:Clo hp N R LV PF b k lv pre) (hk:k<65536) (hpre:pre.length<1073741824)
  (hbG:b ∉ G) (hcG:N ∉ G ∧ R ∉ G ∧ LV ∉ G ∧ PF ∉ G) :
  ∃ r h,C n 255 [.fn (.yield Bk) [] [],.ptr N 0 0,.ptr R 0 0,.ptr LV 0 0,.ptr PF 0 0] hp=some (r,h) ∧ zge (ze2 pre lv k 0 s) (EntsR hp b X Bk tree lv top (.loop false tms qs ca cb db) [] G) (fun h=>Keep hp h (b::G)) r h:=by
 obtain ⟨m,rfl⟩:=pre1 n
 refine za0 (n:=m) (c:=cfg0) F255 rfl rfl ?_
 conv=>whnf
 refine ldI c.cn ?_
 conv=>whnf
 have hbl:=r.lt
 have hBk:Bk≠b:=by
  rintro rfl
  obtain ⟨all,a,q,_⟩:=r
  rw [x.loop] at q;cases q
 have cb':N≠b ∧ R≠b ∧ LV≠b ∧ PF≠b:=by
  obtain ⟨all,a,q,_⟩:=r
  refine ⟨?_,?_,?_,?_⟩
  ·rintro rfl;have:=c.cn;rw [q] at this;cases this
  ·rintro rfl;have:=c.cr;rw [q] at this;cases this
  ·rintro rfl;have:=c.cl;rw [q] at this;cases this
  ·rintro rfl;have:=c.cp;rw [q] at this;cases this
 refine za1 (by decide) rfl (α:=Nat × List Entry × Str × List Nat × zaa) (fun y=>⟨[(0,.fn (.yield Bk) [] []),(1,.ptr N 0 0),(2,.ptr R 0 0),(3,.ptr LV 0 0),(4,.ptr PF 0 0),(9,i64 k),(10,i64 y.1)],y.2.2.2.2,[]⟩)
  (fun y=>y.1 ≤ k ∧ XS y.2.2.2.2 X Bk tree lv top (.loop false tms qs ca cb db) y.2.1 y.2.2.2.1 ∧ RDs y.2.2.2.2 b y.2.2.1 ∧ Keep hp y.2.2.2.2 (b::G) ∧ (∀ z∈y.2.2.2.1,z∈G ∨ hp.length ≤ z) ∧ y.2.1.length=y.1 ∧ ze2 pre lv k 0 s=(ze2 pre lv (k-y.1) y.1 y.2.2.1).map fun q=>(y.2.1++q.1,q.2))
  (fun y=>k-y.1) (0,[],s,G,hp) ⟨⟨rfl,rfl,rfl,rfl,rfl,rfl,rfl⟩,rfl,rfl⟩ ⟨Nat.zero_le _,x,r,Keep.refl _ _,fun z hz=>.inl hz,rfl,by simp⟩ (by show k-0<KK;simp only [KK];omega) ?_
 rintro ⟨j,es,s1,G1,h1⟩ ⟨g1,g2,g3,g4,g5,g6,g7⟩
 simp only at g1 g2 g3 g4 g5 g6 g7
 have cN:∀ {z},z<hp.length → z ∉ G → z ∉ G1:=fun hz hn q=>by
  rcases g5 _ q with q | q
  ·exact hn q
  ·omega
 have c1:=c.stays g4 (by simp only [List.mem_cons,not_or];exact ⟨⟨cb'.1,hcG.1⟩,⟨cb'.2.1,hcG.2.1⟩,⟨cb'.2.2.1,hcG.2.2.1⟩,⟨cb'.2.2.2,hcG.2.2.2⟩⟩)
 have nG1:N ∉ G1 ∧ R ∉ G1 ∧ LV ∉ G1 ∧ PF ∉ G1:=⟨cN (zab c.cn) hcG.1,cN (zab c.cr) hcG.2.1,cN (zab c.cl) hcG.2.2.1,cN (zab c.cp) hcG.2.2.2⟩
 have bG1:b ∉ G1:=cN hbl hbG
 conv=>whnf
 refine brd (fun a=>?_) (fun a=>?_)
 ·have hj:j<k:=by simp only at a;omega
  obtain ⟨d,hd⟩ : ∃ d,k-j=d+1:=⟨k-j-1,by omega⟩
  have hd':k-(j+1)=d:=by omega
  rw [hd] at g7
  simp only [ze2] at g7
  have pe:pent pre lv j s1=none → ze2 pre lv k 0 s=none:=fun q=>by rw [g7,q];rfl
  -- the entry's own memory
  have kE:Keep h1 (h1++[AB.cells 0 (some 147) (keyE []).cells 0]) []:=Keep.app h1 _ []
  have eE:(h1++[AB.cells 0 (some 147) (keyE []).cells 0])[h1.length]?=some (.cells 0 (some 147) (keyE []).cells 0):=zad _ _
  have bE:h1.length≠b:=by have:=g3.lt;omega
  have c2:=c1.stays kE (by simp)
  have r2:=g3.stays kE (by simp)
  have x2:=g2.stays kE (by simp) (by simp)
  have k2:Keep hp (h1++[AB.cells 0 (some 147) (keyE []).cells 0]) (b::G):=g4.trans kE (by simp)
  conv=>whnf
  refine ldI c2.cr ?_
  conv=>whnf
  refine ldI c2.cr ?_
  conv=>whnf
  refine zdg (n:=m) (hp:=h1++[AB.cells 0 (some 147) (keyE []).cells 0]) (by omega) r2 1 (by omega) (fun h3 q3 r3 k3=>?_) (fun q=>?_)
  ·have c3:=c2.stays k3 (by simpa using ⟨cb'.1,cb'.2.1,cb'.2.2.1,cb'.2.2.2⟩)
   have kl:zag (s1.take 1)<256:=Nat.lt_of_lt_of_eq (zcg 1 _ (by rw [List.length_take];omega)) (by decide)
   conv=>whnf
   refine ⟨⟨?_,?_⟩,?_⟩
   ·conv=>whnf
    exact ldI c3.cr rfl
   ·conv=>whnf
    exact ldI c3.cr rfl
   conv=>whnf
   refine zvu (n:=m) (hp:=h3) (by omega) r3 (zag (s1.take 1)) (by omega) (fun h4 q4 r4 k4=>?_) (fun q=>?_)
   ·have c4:=c3.stays k4 (by simpa using ⟨cb'.1,cb'.2.1,cb'.2.2.1,cb'.2.2.2⟩)
    have e4:=k4.get (k3.get eE (by simpa using bE)) (by simpa using bE)
    have x4:=(x2.stays k3 (fun z hz=>by simpa using (fun q:z=b=>bG1 (q ▸ hz))) (by simpa using hBk)).stays k4 (fun z hz=>by simpa using (fun q:z=b=>bG1 (q ▸ hz))) (by simpa using hBk)
    have kk4:Keep hp h4 (b::G):=(k2.trans k3 (fun z hz=>.inl (by simp at hz;simp [hz]))).trans k4 (fun z hz=>.inl (by simp at hz;simp [hz]))
    have lE:h1.length<h4.length:=zab e4
    conv=>whnf
    refine ⟨⟨?_,?_⟩,?_⟩
    ·conv=>whnf
     exact ldI c4.cr rfl
    ·conv=>whnf
     exact ldI c4.cr rfl
    have pt1:(pnum 1 s1).bind (fun k=>(zeo k.1 k.2).bind fun t=>zfb (preK pre lv j++t.1) lv t.2)=zfb (preK pre lv j++(s1.drop 1).take (zag (s1.take 1))) lv ((s1.drop 1).drop (zag (s1.take 1))):=by
     simp only [pnum,if_pos q3,Option.bind_some,zeo,if_pos q4]
    have rest:∀ {Q:Ex → LS → Prop}(h5:zaa) (s':LS),Keep h4 h5 [h1.length] → h5[h1.length]?=some (.cells 0 (some 147) (keyE (preK pre lv j)).cells 0) →
      LS.sub ⟨[(0,.fn (.yield Bk) [] []),(1,.ptr N 0 0),(2,.ptr R 0 0),(3,.ptr LV 0 0),(4,.ptr PF 0 0),(7,.ptr h1.length 0 0),(8,.str ((s1.drop 1).take (zag (s1.take 1)))),(9,i64 k),(10,i64 j)],h5,[]⟩ s' →
      (∀ L h8 G8 e t,pent pre lv j s1=some (e,t) → XS h8 X Bk tree lv top (.loop false tms qs ca cb db) (es++[e]) G8 → RDs h8 b t → Keep hp h8 (b::G) → (∀ z∈G8,z∈G ∨ hp.length ≤ z) → subL [(0,.fn (.yield Bk) [] []),(1,.ptr N 0 0),(2,.ptr R 0 0),(3,.ptr LV 0 0),(4,.ptr PF 0 0),(9,i64 k),(10,i64 j)] L → Q .norm ⟨L,h8,[]⟩) →
      (∀ L h8,pent pre lv j s1=none → Keep hp h8 (b::G) → Q (.pan badV) ⟨L,h8,[]⟩) →
      OkR Tryz.prog (C m) cfg0.inl KK 38 6 (ze3 (c255.lp 0)) s' Q:=by
     intro Q h5 s' k5 e5 hs' hok hbad
     have nE:h1.length ∉ G1:=fun q=>by have:=g2.lt _ q;omega
     have gE:∀ {z},z<h1.length → z≠h1.length:=fun h=>by omega
     have c5:=c4.stays k5 (by simp only [List.mem_singleton];exact ⟨gE (zab c1.cn),gE (zab c1.cr),gE (zab c1.cl),gE (zab c1.cp)⟩)
     have r5:=r4.stays k5 (by simpa using bE.symm)
     have x5:=x4.stays k5 (fun z hz=>by simpa using (fun q:z=h1.length=>nE (q ▸ hz))) (by simpa using gE (zab g2.loop))
     have kk5:Keep hp h5 (b::G):=kk4.trans k5 (fun z hz=>.inr (by simp at hz;rw [hz];exact g4.1))
     have hs4:((s1.drop 1).take (zag (s1.take 1))).length<256:=by rw [List.length_take];omega
     have hpk:(preK pre lv j).length<1073741824:=by unfold preK;split;exact hpre;simp
     refine cutI (by decide) rfl hs' ?_
     conv=>whnf
     refine ldI e5 ?_
     conv=>whnf
     refine ⟨by rw [show (keyE (preK pre lv j)).key=preK pre lv j from rfl];omega,?_⟩
     conv=>whnf
     refine stJ e5 ?_
     have e6:(h5.set h1.length (.cells 0 (some 147) (putAt (keyE (preK pre lv j)).cells (0+0) [.str (preK pre lv j++(s1.drop 1).take (zag (s1.take 1)))]) 0))[h1.length]?=some (.cells 0 (some 147) (keyE (preK pre lv j++(s1.drop 1).take (zag (s1.take 1)))).cells 0):=by
      rw [List.getElem?_set_self (zab e5)];rfl
     have k6:Keep h5 (h5.set h1.length (.cells 0 (some 147) (putAt (keyE (preK pre lv j)).cells (0+0) [.str (preK pre lv j++(s1.drop 1).take (zag (s1.take 1)))]) 0)) [h1.length]:=Keep.set (by simp)
     have c6:=c5.stays k6 (by simp only [List.mem_singleton];exact ⟨gE (zab c1.cn),gE (zab c1.cr),gE (zab c1.cl),gE (zab c1.cp)⟩)
     have r6:=r5.stays k6 (by simpa using bE.symm)
     have x6:=x5.stays k6 (fun z hz=>by simpa using (fun q:z=h1.length=>nE (q ▸ hz))) (by simpa using gE (zab g2.loop))
     have kk6:=kk5.trans k6 (fun z hz=>.inr (by simp at hz;rw [hz];exact g4.1))
     conv=>whnf
     refine ldI c6.cr ?_
     conv=>whnf
     refine ldI c6.cl ?_
     obtain ⟨rr,h7,ec,hc⟩:=zux (n:=m) (by omega) r6 _ e6 bE lv
     conv=>whnf
     refine ⟨rr,h7,ec,?_⟩
     have pt2:pent pre lv j s1=zfb (preK pre lv j++(s1.drop 1).take (zag (s1.take 1))) lv ((s1.drop 1).drop (zag (s1.take 1))):=pt1
     cases hp7:zfb (preK pre lv j++(s1.drop 1).take (zag (s1.take 1))) lv ((s1.drop 1).drop (zag (s1.take 1))) with
     | none =>
      rw [hp7] at hc
      obtain ⟨rfl,k7⟩:=hc
      conv=>whnf
      exact hbad _ h7 (pt2.trans hp7) (kk6.trans k7 (fun z hz=>by simp at hz;rcases hz with rfl | rfl;exact .inl (by simp);exact .inr g4.1))
     | some p =>
      obtain ⟨e,t⟩:=p
      rw [hp7] at hc
      obtain ⟨rfl,r7,e7,k7⟩:=hc
      have x7:=x6.stays k7 (fun z hz=>by simp only [List.mem_cons,List.not_mem_nil,or_false,not_or];exact ⟨fun q=>bG1 (q ▸ hz),fun q=>nE (q ▸ hz)⟩) (by simp only [List.mem_cons,List.not_mem_nil,or_false,not_or];exact ⟨hBk,gE (zab g2.loop)⟩)
      have kk7:=kk6.trans k7 (fun z hz=>by simp at hz;rcases hz with rfl | rfl;exact .inl (by simp);exact .inr g4.1)
      obtain ⟨h8,G8,ey,x8,k8,g8⟩:=zzn (n:=m) (by omega) x7 H hq hca hcb (by rw [g6];omega) e
      conv=>whnf
      refine ldI e7 ?_
      conv=>whnf
      refine clI ey ?_
      conv=>whnf
      refine hok _ h8 G8 e t (pt2.trans hp7) x8 (r7.stays k8 bG1) (kk7.trans k8 (fun z hz=>(g5 z hz).imp (fun q=>by simp [q]) id)) (fun z hz=>?_) ⟨rfl,rfl,rfl,rfl,rfl,rfl,rfl⟩
      rcases g8 z hz with q | q
      ·exact g5 z q
      ·exact .inr (Nat.le_trans kk7.1 q)
    have hstore:∀ (key:Str),((h4.set h1.length (.cells 0 (some 147) (putAt (keyE []).cells (0+0) [.str key]) 0))[h1.length]?=some (.cells 0 (some 147) (keyE key).cells 0)):=fun key=>by
     rw [List.getElem?_set_self lE];rfl
    have next:∀ (L:LT) (h8:zaa) (G8:List Nat) (e:Entry) (t:Str),pent pre lv j s1=some (e,t) → (ze2 pre lv k 0 s=(ze2 pre lv (k-(j+1)) (j+1) t).map fun q=>((es++[e])++q.1,q.2)):=fun L h8 G8 e t q=>by
     rw [g7,q,hd']
     simp only [Option.bind_some,Option.map_map]
     congr 1
     funext z
     simp
    conv=>whnf
    refine brd (fun a1=>?_) (fun a1=>?_)
    ·have ek:preK pre lv j=pre:=by unfold preK;rw [if_pos (.inl (by omega))]
     conv=>whnf
     refine ldI c4.cp ?_
     conv=>whnf
     refine stJ e4 ?_
     conv=>whnf
     refine rest (h4.set h1.length (.cells 0 (some 147) (putAt (keyE []).cells (0+0) [.str pre]) 0)) _ (Keep.set (by simp)) (by rw [ek];exact hstore pre) ⟨⟨rfl,rfl,rfl,rfl,rfl,rfl,rfl,rfl,rfl⟩,rfl,rfl⟩ (fun L h8 G8 e t q x8 r8 k8 g8 hL=>?_) (fun L h8 q k8=>?_)
     ·refine cutI (by decide) rfl (t:=⟨[(0,.fn (.yield Bk) [] []),(1,.ptr N 0 0),(2,.ptr R 0 0),(3,.ptr LV 0 0),(4,.ptr PF 0 0),(9,i64 k),(10,i64 j)],h8,[]⟩) ⟨hL,rfl,rfl⟩ ?_
      conv=>whnf
      refine zJ j ?_
      exact nxI (j+1,es++[e],t,G8,h8) ⟨hj,x8,r8,k8,g8,by simp [g6],next [] h8 G8 e t q⟩ (by simp only;omega) ⟨⟨rfl,rfl,rfl,rfl,rfl,rfl,rfl⟩,rfl,rfl⟩
     ·conv=>whnf
      rw [pe q]
      exact ⟨rfl,k8⟩
    ·conv=>whnf
     refine ldI c4.cl ?_
     conv=>whnf
     refine bre (fun a2=>?_) (fun a2=>?_)
     ·have ek:preK pre lv j=pre:=by unfold preK;rw [if_pos (.inr a2)]
      conv=>whnf
      refine ldI c4.cp ?_
      conv=>whnf
      refine stJ e4 ?_
      conv=>whnf
      refine rest (h4.set h1.length (.cells 0 (some 147) (putAt (keyE []).cells (0+0) [.str pre]) 0)) _ (Keep.set (by simp)) (by rw [ek];exact hstore pre) ⟨⟨rfl,rfl,rfl,rfl,rfl,rfl,rfl,rfl,rfl⟩,rfl,rfl⟩ (fun L h8 G8 e t q x8 r8 k8 g8 hL=>?_) (fun L h8 q k8=>?_)
      ·refine cutI (by decide) rfl (t:=⟨[(0,.fn (.yield Bk) [] []),(1,.ptr N 0 0),(2,.ptr R 0 0),(3,.ptr LV 0 0),(4,.ptr PF 0 0),(9,i64 k),(10,i64 j)],h8,[]⟩) ⟨hL,rfl,rfl⟩ ?_
       conv=>whnf
       refine zJ j ?_
       exact nxI (j+1,es++[e],t,G8,h8) ⟨hj,x8,r8,k8,g8,by simp [g6],next [] h8 G8 e t q⟩ (by simp only;omega) ⟨⟨rfl,rfl,rfl,rfl,rfl,rfl,rfl⟩,rfl,rfl⟩
      ·conv=>whnf
       rw [pe q]
       exact ⟨rfl,k8⟩
     ·have ek:preK pre lv j=[]:=by unfold preK;rw [if_neg (by omega)]
      conv=>whnf
      refine rest h4 _ (Keep.refl _ _) (by rw [ek];exact e4) ⟨⟨rfl,rfl,rfl,rfl,rfl,rfl,rfl,rfl,rfl⟩,rfl,rfl⟩ (fun L h8 G8 e t q x8 r8 k8 g8 hL=>?_) (fun L h8 q k8=>?_)
      ·refine cutI (by decide) rfl (t:=⟨[(0,.fn (.yield Bk) [] []),(1,.ptr N 0 0),(2,.ptr R 0 0),(3,.ptr LV 0 0),(4,.ptr PF 0 0),(9,i64 k),(10,i64 j)],h8,[]⟩) ⟨hL,rfl,rfl⟩ ?_
       conv=>whnf
       refine zJ j ?_
       exact nxI (j+1,es++[e],t,G8,h8) ⟨hj,x8,r8,k8,g8,by simp [g6],next [] h8 G8 e t q⟩ (by simp only;omega) ⟨⟨rfl,rfl,rfl,rfl,rfl,rfl,rfl⟩,rfl,rfl⟩
      ·conv=>whnf
       rw [pe q]
       exact ⟨rfl,k8⟩
   ·conv=>whnf
    have:pent pre lv j s1=none:=by simp only [pent,pnum,if_pos q3,Option.bind_some,zeo,if_neg (Nat.not_le.2 q),Option.bind_none]
    rw [pe this]
    exact ⟨rfl,k2.trans k3 (fun z hz=>.inl (by simp at hz;simp [hz]))⟩
  ·conv=>whnf
   have:pent pre lv j s1=none:=by simp only [pent,pnum,if_neg (Nat.not_le.2 q),Option.bind_none]
   rw [pe this]
   exact ⟨rfl,k2⟩
 ·have hj:j=k:=by simp only at a;omega
  subst hj
  rw [Nat.sub_self] at g7
  simp only [ze2,Option.map_some,List.append_nil] at g7
  conv=>whnf
  refine ⟨[],rfl,?_⟩
  rw [g7]
  have g2':XS h1 X Bk tree lv top (.loop false tms qs ca cb db) ([]++es) G1:=by simpa using g2
  exact ⟨rfl,g3,G1,g2',g4,g5⟩
end
end Go.Proofs
