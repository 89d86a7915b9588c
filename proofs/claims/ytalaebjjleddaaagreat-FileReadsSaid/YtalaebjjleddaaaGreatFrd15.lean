/- Texts put together: Vg, Vh, Zl, Dc5, Vi, Vj, Nd, Zm. -/
import Derived.Test.YtalaebjjleddaaaGreatFrd14
import Derived.Test.YtalaebjjleddaaaGreatFrd13
import Derived.Test.YtalaebjjleddaaaGreatFrd7
import Derived.Test.YtalaebjjleddaaaGreatFrd9
set_option linter.unusedVariables false
set_option linter.unusedSimpArgs false
namespace Go.Proofs
open Go Go.Abs
theorem zie {A M B Ys xs:Str}{k:Nat}(hx:xs=A++(M++B)) (hA:A.length=k) (hM:M.length=Ys.length):lay xs k Ys=A++(Ys++B):=by
 subst hx
 unfold lay
 rw [List.take_append_of_le_length (by omega),List.take_of_length_le (by omega),← hA,List.drop_append,List.drop_of_length_le (by omega),List.nil_append,Nat.add_sub_cancel_left,List.drop_append,List.drop_of_length_le (by omega),List.nil_append,hM,Nat.sub_self,List.drop_zero,List.append_assoc]
def zdh (r:Rt):Str:=82::(num r.ver.toNat 6++(num r.root.toNat 4++(num r.count.toNat 4++(r.sum.list++(num r.list.toNat 4++(num r.pages.toNat 4++za5 20))))))
def recL (r:Rt):Str:=zdh r++(num (crc (zdh r)).toNat 4++[82])
theorem zlj (r:Rt):(zdh r).length=59:=by
 unfold zdh
 simp only [List.length_cons,List.length_append,zam,za4]
 rfl
theorem zw4 (r:Rt):y7 r=recL r:=by
 obtain ⟨V,hV,v⟩ : ∃ V,num r.ver.toNat 6=V ∧ V.length=6:=⟨_,rfl,zam _ _⟩
 obtain ⟨R,hR,u⟩ : ∃ R,num r.root.toNat 4=R ∧ R.length=4:=⟨_,rfl,zam _ _⟩
 obtain ⟨K,hK,k⟩ : ∃ K,num r.count.toNat 4=K ∧ K.length=4:=⟨_,rfl,zam _ _⟩
 obtain ⟨L,hL,l⟩ : ∃ L,num r.list.toNat 4=L ∧ L.length=4:=⟨_,rfl,zam _ _⟩
 obtain ⟨P,hP,p⟩ : ∃ P,num r.pages.toNat 4=P ∧ P.length=4:=⟨_,rfl,zam _ _⟩
 obtain ⟨S,hS,t⟩ : ∃ S,r.sum.list=S ∧ S.length=16:=⟨_,rfl,rfl⟩
 have e0:x0=[82]++(za5 6++(za5 4++(za5 4++(za5 16++(za5 4++(za5 4++(za5 20++(za5 4++[82])))))))):=rfl
 have e1:y1 r=[82]++(V++(za5 4++(za5 4++(za5 16++(za5 4++(za5 4++(za5 20++(za5 4++[82])))))))):=by
  unfold y1;rw [hV];exact zie e0 rfl (by rw [za4,v])
 have e2:y2 r=[82]++(V++(R++(za5 4++(za5 16++(za5 4++(za5 4++(za5 20++(za5 4++[82])))))))):=by
  unfold y2;rw [hR,zie (A:=[82]++V) (M:=za5 4) (by rw [e1];simp only [List.append_assoc];rfl) (by simp [v]) (by rw [za4,u])];simp only [List.append_assoc]
 have e3:y3 r=[82]++(V++(R++(K++(za5 16++(za5 4++(za5 4++(za5 20++(za5 4++[82])))))))):=by
  unfold y3;rw [hK,zie (A:=[82]++(V++R)) (M:=za5 4) (by rw [e2];simp only [List.append_assoc];rfl) (by simp [v,u]) (by rw [za4,k])];simp only [List.append_assoc]
 have e4:y4 r=[82]++(V++(R++(K++(za5 16++(L++(za5 4++(za5 20++(za5 4++[82])))))))):=by
  unfold y4;rw [hL,zie (A:=[82]++(V++(R++(K++za5 16)))) (M:=za5 4) (by rw [e3];simp only [List.append_assoc];rfl) (by simp [v,u,k,za4]) (by rw [za4,l])];simp only [List.append_assoc]
 have e5:y5 r=[82]++(V++(R++(K++(za5 16++(L++(P++(za5 20++(za5 4++[82])))))))):=by
  unfold y5;rw [hP,zie (A:=[82]++(V++(R++(K++(za5 16++L))))) (M:=za5 4) (by rw [e4];simp only [List.append_assoc];rfl) (by simp [v,u,k,l,za4]) (by rw [za4,p])];simp only [List.append_assoc]
 have e6:y6 r=[82]++(V++(R++(K++(S++(L++(P++(za5 20++(za5 4++[82])))))))):=by
  unfold y6;rw [hS,zie (A:=[82]++(V++(R++K))) (M:=za5 16) (by rw [e5];simp only [List.append_assoc];rfl) (by simp [v,u,k]) (by rw [za4,t])];simp only [List.append_assoc]
 have eb:zdh r=[82]++(V++(R++(K++(S++(L++(P++za5 20)))))):=by
  unfold zdh;rw [hV,hR,hK,hS,hL,hP];rfl
 have ec:y6 r=zdh r++(za5 4++[82]):=by rw [e6,eb];simp only [List.append_assoc]
 have lb:=zlj r
 unfold y7 recL
 rw [show (y6 r).take 59=zdh r by rw [ec,List.take_append_of_le_length (by omega),List.take_of_length_le (by omega)]]
 exact zie ec lb (by rw [za4,zam])
section
variable {n:Nat}{h:zaa}
theorem zkt (hn:1 ≤ n) (a b:Int):C n 101 [i64 a,i64 b] h=some (.ret (.bool (zet b a)),h):=by
 obtain ⟨m,rfl⟩:=pre1 n
 refine zad F101 rfl rfl rfl rfl ?_
 repeat' (conv=>whnf);first
  | refine brd (fun _=>?_) (fun _=>?_)
  | refine retP rfl (zai ?_)
 all_goals simp_all [zet]
 all_goals omega
theorem z25 (hn:2 ≤ n) (r:Rt):C n 60 [r.av] h=some (.ret (.bool (ze1 r)),h):=by
 obtain ⟨m,rfl⟩:=pre1 n
 refine zad F60 rfl rfl rfl rfl ?_
 repeat' (conv=>whnf);first
  | refine brd (fun _=>?_) (fun _=>?_)
  | refine brq (fun _=>?_) (fun _=>?_)
  | refine brn (fun _=>?_) (fun _=>?_)
  | refine br (fun _=>?_) (fun _=>?_)
  | refine ldI rfl ?_
  | refine clI (zkt (by omega) _ _) ?_
  | refine eqI (z0q r) ?_
  | refine retP rfl (zai ?_)
 all_goals simp_all [ze1]
 all_goals try omega
 all_goals first
  | (have e:zgp r=true:=by { unfold zgp;simp_all;done });simp_all;done
  | (have e:zgp r=false:=by { unfold zgp;simp_all;done });simp only [e];done
  | (have e:zgp r=false:=by { unfold zgp;simp_all;done });rw [e];first
   | exact ⟨rfl,fun _=>by omega⟩
   | rw [Bool.false_or];exact decide_eq_decide.2 (by omega)
theorem zu5 (hn:1 ≤ n):C n 62 [i64 20] h=some (.ret (.str (za5 20)),h):=by
 obtain ⟨m,rfl⟩:=pre1 n
 refine zad F62 rfl rfl rfl rfl ?_
 conv=>whnf
 refine ⟨by decide,by decide,by decide,?_⟩
 conv=>whnf
 refine ⟨_,za5 20,?_,zbt _,?_⟩
 ·exact zhm (h:=[AB.cells 0 (some 5) ((za5 20).map u8) 0]) (bb:=0) (ver:=0) (el:=some 5) (s:=za5 20) (frz:=0) rfl
 conv=>whnf
 exact retP rfl rfl
theorem z15 (hn:1 ≤ n) (s:Str) (hs:s.length ≤ 6):C n 66 [.str s] h=some (.ret (i64 (zah s)),h):=by
 obtain ⟨m,rfl⟩:=pre1 n
 refine zad F66 rfl rfl rfl rfl ?_
 conv=>whnf
 refine za3 (by decide) rfl (α:=Nat) (fun j=>⟨[(0,.str s),(3,i64 (zah (s.take j))),(4,i64 j)],[],[]⟩) (fun j=>j ≤ s.length) (fun j=>s.length-j) 0 ⟨⟨rfl,rfl,rfl⟩,rfl,rfl⟩ (Nat.zero_le _) (by simp only [KK];omega) ?_
 intro j hj
 conv=>whnf
 refine brd (fun a=>?_) (fun a=>?_)
 ·have hjs:j<s.length:=by omega
  have hb:=zcm j (s.take j) (by rw [List.length_take];omega)
  have hb2:256 ^ j ≤ 256 ^ 5:=Nat.pow_le_pow_right (by decide) (by omega)
  have h5:(256:Nat) ^ 5=1099511627776:=by decide
  have hst:zah (s.take j)*256+(s[j]).toNat=zah (s.take (j+1)):=by
   rw [List.take_succ_eq_append_getElem hjs,zga]
  have hc:=(s[j]).toNat_lt
  conv=>whnf
  refine zI (z:=((zah (s.take j)*256:Nat):Int)) (by rw [zae (by omega) (by omega)];omega) ?_
  conv=>whnf
  refine strI (b:=s[j]) (by omega) (by rw [Int.toNat_natCast];exact List.getElem?_eq_getElem hjs) ?_
  conv=>whnf
  refine zI (z:=((s[j]).toNat:Int)) (zae (by omega) (by omega)) ?_
  conv=>whnf
  refine zI (z:=((zah (s.take (j+1)):Nat):Int)) (by rw [zae (by omega) (by omega)];omega) ?_
  conv=>whnf
  refine zJ j ?_
  exact nxI (j+1) hjs (by omega) ⟨⟨rfl,rfl,rfl⟩,rfl,rfl⟩
 ·have hjs:j=s.length:=by omega
  subst hjs
  conv=>whnf
  refine cutI (by decide) rfl (t:=⟨[(3,i64 (zah s))],[],[]⟩) ⟨by rw [List.take_length];rfl,rfl,rfl⟩ ?_
  conv=>whnf
  exact retP rfl rfl
end
abbrev tFF:Nat:=217
abbrev tWri5:Nat:=165
abbrev zbx (e:Int):AV:=.ifc tFF (.agg [i64 e])
abbrev wriC (d:Dk):AB:=.cells 0 (some tWri5) d.cells 0
section
variable {n:Nat}{h hp:zaa}
theorem zsz (hn:1 ≤ n):C n 98 [i64 0] h=some (.ret (.tup []),h):=by
 obtain ⟨m,rfl⟩:=pre1 n
 refine zad F98 rfl rfl rfl rfl ?_
 conv=>whnf
 exact ⟨rfl,[],rfl,rfl⟩
theorem zo6 (hn:1 ≤ n) (e:Int) (he:e≠0):C n 98 [i64 e] h=some (.pan (zbx e),h):=by
 obtain ⟨m,rfl⟩:=pre1 n
 refine zfl F98 rfl rfl rfl rfl ?_
 conv=>whnf
 refine brq (fun _=>?_) (fun a=>absurd a he)
 conv=>whnf
 exact ⟨zbx e,rfl,rfl⟩
theorem z69 (hn:1 ≤ n) (e:Int):C n 80 [.bool true,i64 e] h=some (.ret (.tup []),h):=by
 obtain ⟨m,rfl⟩:=pre1 n
 refine zad F80 rfl rfl rfl rfl ?_
 conv=>whnf
 exact ⟨rfl,[],rfl,rfl⟩
theorem z7a (hn:2 ≤ n) (e:Int) (he:e≠0):C n 80 [.bool false,i64 e] h=some (.pan (zbx e),h):=by
 obtain ⟨m,rfl⟩:=pre1 n
 refine zfl F80 rfl rfl rfl rfl ?_
 conv=>whnf
 refine clP (zo6 (by omega) e he) ?_
 conv=>whnf
 exact ⟨zbx e,rfl,rfl⟩
theorem zlr (hn:3 ≤ n) (d:Dk) (ok:d.Ok) (hr:zau d=true):C n 70 [d.av] hp=some (.ret (.ptr (hp.length+1) 0 0),hp++[dkC d]++[wriC d]):=by
 obtain ⟨m,rfl⟩:=pre1 n
 have cK:∀ h,C m 121 [d.av] h=some (.ret (i64 (if zau d then 0 else 2)),h):=fun h=>zmc (by omega) d ok
 rw [hr] at cK
 refine za7 F70 rfl rfl ?_
 conv=>whnf
 refine ldI (zaf _ _) ?_
 conv=>whnf
 refine clI (cK _) ?_
 conv=>whnf
 refine clI (zsz (by omega)) ?_
 conv=>whnf
 refine ldI (zaf _ _) ?_
 conv=>whnf
 refine ⟨rfl,[.ptr (hp++[dkC d]).length 0 0],rfl,?_,rfl⟩
 rw [List.length_append]
 rfl
theorem zv4 (hn:3 ≤ n) (d:Dk) (ok:d.Ok) (hr:zau d=false):C n 70 [d.av] hp=some (.pan (zbx 2),hp++[dkC d]):=by
 obtain ⟨m,rfl⟩:=pre1 n
 have cK:∀ h,C m 121 [d.av] h=some (.ret (i64 (if zau d then 0 else 2)),h):=fun h=>zmc (by omega) d ok
 rw [hr] at cK
 obtain ⟨r,h',e,rfl,rfl⟩:=zav (n:=m) (c:=cfg0) (args:=[d.av]) (h:=hp) (R:=fun r h=>r=.pan (zbx 2) ∧ h=hp++[dkC d]) F70 rfl rfl (by
  conv=>whnf
  refine ldI (zaf _ _) ?_
  conv=>whnf
  refine clI (cK _) ?_
  conv=>whnf
  refine clP (zo6 (by omega) 2 (by decide)) ?_
  exact ⟨rfl,rfl⟩)
 exact e
def zay (d:Dk):Nat:=d.secs.length / 8
theorem quo8n (k:Nat):((k:Int)).tdiv 8=((k / 8:Nat):Int):=by
 rw [Int.tdiv_eq_ediv_of_nonneg (by omega)];omega
theorem zhe (hn:1 ≤ n) (d:Dk) {w:Nat}(hw:hp[w]?=some (wriC d)) (hl:d.secs.length ≤ 1099511627776):C n 91 [.ptr w 0 0] hp=some (.ret (i64 (zay d)),hp):=by
 obtain ⟨m,rfl⟩:=pre1 n
 have e1:(d.secs.map AV.str).length=d.secs.length:=List.length_map ..
 refine za7 F91 rfl rfl ?_
 conv=>whnf
 refine ldI hw ?_
 conv=>whnf
 refine ⟨by decide,(zay d:Int),by rw [e1,quo8n,zae (by omega) (by omega)];rfl,?_⟩
 exact ⟨rfl,[i64 (zay d)],rfl,rfl,rfl⟩
theorem zfg (hn:1 ≤ n) (d:Dk) (hl:d.secs.length ≤ 1099511627776):C n 75 [d.av] h=some (.ret (i64 (zay d)),h):=by
 obtain ⟨m,rfl⟩:=pre1 n
 have e1:(d.secs.map AV.str).length=d.secs.length:=List.length_map ..
 refine zad F75 rfl rfl rfl (by simp [zao,za1]) ?_
 conv=>whnf
 refine ldI rfl ?_
 conv=>whnf
 refine ⟨by decide,(zay d:Int),by rw [e1,quo8n,zae (by omega) (by omega)];rfl,?_⟩
 exact ⟨rfl,[i64 (zay d)],rfl,rfl⟩
theorem zgm {L:LT}{h:zaa}{b:Nat}{cs:List AV}{k:Int}(h4:lk L 4=some (.ptr b 0 0)) (h5:lk L 5=some (i64 k)) (hP:h[b]?=some (.cells 0 (some 79) cs 0)) (hc:cs.length=10):zcg Tryz.prog L h [.cell 4 79,.tmp 5]=some [.agg cs,i64 k]:=by
 simp only [zcg,h4,h5,zjs hc hP]
abbrev tPgd:Nat:=99
theorem zng {h:zaa}{b:Nat}{cs:List AV}(hl:cs.length=11) (hb:h[b]?=some (.cells 0 (some tPgd) cs 0)):zce Tryz.prog h tPgd (.ptr b 0 0)=some (.agg cs):=zb9 (N:=11) (by kernel_rfl) hl hb
section
variable {m:Nat}{d:Dk}{hp:zaa}{w no:Nat}
abbrev zPgB:AB:=.cells 0 (some 79) zax 0
theorem zu7 (hm:6 ≤ m) (ok:d.Ok) (hr:zau d=true) (hno:no<zay d) (hw:hp[w]?=some (wriC d)) (hc:zcs d (no*8) 8=false) :
  ∃ v h',C (m+1) 93 [.ptr w 0 0,i64 no] hp=some (.ret v,h') ∧ v=.tup [zPage.av,i64 8] ∧ Keep hp h' []:=by
 have lw:=zab hw
 have hz:=(rightD_iff.1 hr).1
 have hn8:no*8+8 ≤ d.secs.length:=by unfold zay at hno;omega
 refine zcn F93 rfl rfl ?_
 conv=>whnf
 refine ldI (za8 hw) ?_
 conv=>whnf
 refine zI (z:=((no*8:Nat):Int)) (by rw [zae (by omega) (by omega)];omega) ?_
 conv=>whnf
 have cR:=fun h=>zkx (n:=m) (h:=h) (by omega) d ok hr (no*8) 8 (by omega) (by omega) hn8
 unfold zht at cR
 rw [hc] at cR
 refine clI (cR _) ?_
 conv=>whnf
 refine stJ (xs:=zax) (zaf _ _) ?_
 exact ⟨rfl,_,zgm rfl rfl (zag _ _ _) rfl,rfl,(Keep.app hp _ []).set' (.inr (Nat.le_refl _))⟩
theorem zpm (hm:10 ≤ m) (ok:d.Ok) (hr:zau d=true) (hno:no<zay d) (hw:hp[w]?=some (wriC d)) (hc:zcs d (no*8) 8=true) {q:Page}{k:Int}(cD:∀ h,C m 162 [.str (zdt d (no*8) 8)] h=some (.ret (.tup [q.av,i64 k]),h)) {V:AV}(hV:V=if k=0 ∧ q.no=no then .tup [q.av,i64 0] else .tup [zPage.av,i64 8]) :
  ∃ v h',C (m+1) 93 [.ptr w 0 0,i64 no] hp=some (.ret v,h') ∧ v=V ∧ Keep hp h' []:=by
 have lw:=zab hw
 have hz:=(rightD_iff.1 hr).1
 have hn8:no*8+8 ≤ d.secs.length:=by unfold zay at hno;omega
 refine zcn F93 rfl rfl ?_
 conv=>whnf
 refine ldI (za8 hw) ?_
 conv=>whnf
 refine zI (z:=((no*8:Nat):Int)) (by rw [zae (by omega) (by omega)];omega) ?_
 conv=>whnf
 have cR:=fun h=>zkx (n:=m) (h:=h) (by omega) d ok hr (no*8) 8 (by omega) (by omega) hn8
 unfold zht at cR
 rw [hc] at cR
 refine clI (cR _) ?_
 conv=>whnf
 refine clI (cD _) ?_
 conv=>whnf
 refine stJ (xs:=q.cells) (zaf _ _) ?_
 have k1:∀ x y,Keep hp ((hp++[zPgB]++[x]).set (hp++[zPgB]).length y) []:=fun x y=>((Keep.app hp _ []).trans (Keep.app _ _ []) (by simp)).set' (.inr (by simp))
 have g1:∀ x y,((hp++[zPgB]++[x]).set (hp++[zPgB]).length y)[hp.length]?=some zPgB:=fun x y=>by
  rw [List.getElem?_set_ne (by simp),List.getElem?_append_left (by simp)];exact zaf _ _
 conv=>whnf
 refine brq (fun c1=>?_) (fun c1=>?_)
 ·rw [if_neg (fun e=>c1 e.1)] at hV
  subst hV
  conv=>whnf
  refine stJ (xs:=zax) (g1 _ _) ?_
  exact ⟨rfl,_,zgm rfl rfl (List.getElem?_set_self (zab (g1 _ _))) rfl,rfl,(k1 _ _).set' (.inr (Nat.le_refl _))⟩
 ·conv=>whnf
  refine ldI (zag _ _ _) ?_
  conv=>whnf
  refine brq (fun c2=>?_) (fun c2=>?_)
  ·rw [if_neg (fun e=>c2 e.2)] at hV
   subst hV
   conv=>whnf
   refine stJ (xs:=zax) (g1 _ _) ?_
   exact ⟨rfl,_,zgm rfl rfl (List.getElem?_set_self (zab (g1 _ _))) rfl,rfl,(k1 _ _).set' (.inr (Nat.le_refl _))⟩
  ·rw [if_pos ⟨c1,c2⟩] at hV
   subst hV
   conv=>whnf
   refine ldI (zag _ _ _) ?_
   conv=>whnf
   refine stJ (xs:=q.cells) (g1 _ _) ?_
   exact ⟨rfl,_,zgm rfl rfl (List.getElem?_set_self (zab (g1 _ _))) rfl,rfl,(k1 _ _).set' (.inr (Nat.le_refl _))⟩
theorem zvi {h:zaa}(hm:6 ≤ m) (ok:d.Ok) (hr:zau d=true) (hno:no<zay d) (h2:2 ≤ no) (hc:zcs d (no*8) 8=false) :
  C (m+1) 40 [d.av,i64 no] h=some (.ret (.agg (zbd zPage 8)),h):=by
 have hz:=(rightD_iff.1 hr).1
 have hn8:no*8+8 ≤ d.secs.length:=by unfold zay at hno;omega
 have cT:=fun h=>zel (n:=m) (h:=h) (by omega) d ok
 rw [hr] at cT
 refine zad F40 rfl rfl rfl (by simp [zao,za1,AV.pureB]) ?_
 conv=>whnf
 refine ldI rfl ?_
 conv=>whnf
 refine clI (cT _) ?_
 conv=>whnf
 refine ldI rfl ?_
 conv=>whnf
 refine clI (zfg (by omega) d (by omega)) ?_
 conv=>whnf
 refine clI (zkt (by omega) _ _) ?_
 rw [show zet (zay d:Int) (no:Int)=true by unfold zet;simp;omega]
 conv=>whnf
 refine ldI rfl ?_
 conv=>whnf
 refine zI (z:=((no*8:Nat):Int)) (by rw [zae (by omega) (by omega)];omega) ?_
 conv=>whnf
 have cR:=fun h=>zkp (n:=m) (h:=h) (by omega) d ok hr (no*8) 8 (by omega) hn8
 unfold zht at cR
 rw [hc] at cR
 refine clI (cR _) ?_
 conv=>whnf
 refine stJ (xs:=[.str [],i64 8]) (by rfl) ?_
 conv=>whnf
 refine ldI rfl ?_
 conv=>whnf
 refine stJ (xs:=zbd zPage 8) (by rfl) ?_
 exact ⟨rfl,_,za6 rfl (zng rfl rfl),rfl⟩
theorem zp8 {h:zaa}(hm:10 ≤ m) (ok:d.Ok) (hr:zau d=true) (hno:no<zay d) (h2:2 ≤ no) (hc:zcs d (no*8) 8=true) {b:Page}{k:Int}(cD:∀ h,C m 103 [.str (zdt d (no*8) 8)] h=some (.ret (.agg (zbd b k)),h)) {V:List AV}(hV:V=if k=0 ∧ b.no=no then zbd b 0 else zbd zPage 8) :
  C (m+1) 40 [d.av,i64 no] h=some (.ret (.agg V),h):=by
 have hz:=(rightD_iff.1 hr).1
 have hn8:no*8+8 ≤ d.secs.length:=by unfold zay at hno;omega
 have cT:=fun h=>zel (n:=m) (h:=h) (by omega) d ok
 rw [hr] at cT
 refine zad F40 rfl rfl rfl (by simp [zao,za1,AV.pureB]) ?_
 conv=>whnf
 refine ldI rfl ?_
 conv=>whnf
 refine clI (cT _) ?_
 conv=>whnf
 refine ldI rfl ?_
 conv=>whnf
 refine clI (zfg (by omega) d (by omega)) ?_
 conv=>whnf
 refine clI (zkt (by omega) _ _) ?_
 rw [show zet (zay d:Int) (no:Int)=true by unfold zet;simp;omega]
 conv=>whnf
 refine ldI rfl ?_
 conv=>whnf
 refine zI (z:=((no*8:Nat):Int)) (by rw [zae (by omega) (by omega)];omega) ?_
 conv=>whnf
 have cR:=fun h=>zkp (n:=m) (h:=h) (by omega) d ok hr (no*8) 8 (by omega) hn8
 unfold zht at cR
 rw [hc] at cR
 refine clI (cR _) ?_
 conv=>whnf
 refine stJ (xs:=[.str (zdt d (no*8) 8),i64 0]) (by rfl) ?_
 conv=>whnf
 refine ldI rfl ?_
 conv=>whnf
 refine ldI rfl ?_
 conv=>whnf
 refine clI (cD _) ?_
 conv=>whnf
 refine stJ (xs:=zbd b k) (by rfl) ?_
 conv=>whnf
 refine ldI rfl ?_
 conv=>whnf
 refine brq (fun c1=>?_) (fun c1=>?_)
 ·rw [if_neg (fun e=>c1 e.1)] at hV
  subst hV
  conv=>whnf
  refine stJ (xs:=zbd zPage 8) (by rfl) ?_
  exact ⟨rfl,_,za6 rfl (zng rfl rfl),rfl⟩
 ·conv=>whnf
  refine ldI rfl ?_
  conv=>whnf
  refine brq (fun c2=>?_) (fun c2=>?_)
  ·rw [if_neg (fun e=>c2 e.2)] at hV
   subst hV
   conv=>whnf
   refine stJ (xs:=zbd zPage 8) (by rfl) ?_
   exact ⟨rfl,_,za6 rfl (zng rfl rfl),rfl⟩
  ·rw [if_pos ⟨c1,c2⟩] at hV
   subst hV
   conv=>whnf
   refine ldI rfl ?_
   conv=>whnf
   refine stJ (xs:=zbd b 0) (by rfl) ?_
   exact ⟨rfl,_,za6 rfl (zng rfl rfl),zje _⟩
end
theorem z3n (d:Dk) (ok:d.Ok) (hr:zau d=true) (no:Nat) (hno:no<zay d):∃ (p:Page) (e:Int),(e≠0 → p=zPage ∧ e=8) ∧ (e=0 → p.no=no) ∧
  (∀ n,11 ≤ n → ∃ q:Page,Same p q ∧ q.Ok ∧ (e≠0 → q=zPage) ∧ ∀ hp w,hp[w]?=some (wriC d) → ∃ h',C n 93 [.ptr w 0 0,i64 no] hp=some (.ret (.tup [q.av,i64 e]),h') ∧ Keep hp h' []) ∧
  (2 ≤ no → ∀ n,11 ≤ n → ∃ b:Page,Same p b ∧ b.Ok ∧ ∀ h,C n 40 [d.av,i64 no] h=some (.ret (.agg (zbd b e)),h)):=by
 cases hc:zcs d (no*8) 8 with
 | false =>
  refine ⟨zPage,8,fun _=>⟨rfl,rfl⟩,(fun h=>by cases h),fun n hn=>⟨zPage,Same.rfl' _,zdp,fun _=>rfl,fun hp w hw=>?_⟩,fun h2 n hn=>⟨zPage,Same.rfl' _,zdp,fun h=>?_⟩⟩
  ·obtain ⟨m,rfl⟩:=pre1 n
   obtain ⟨v,h',e,rfl,k⟩:=zu7 (m:=m) (by omega) ok hr hno hw hc
   exact ⟨h',e,k⟩
  ·obtain ⟨m,rfl⟩:=pre1 n
   exact zvi (by omega) ok hr hno h2 hc
 | true =>
  obtain ⟨p,k,hD,hE⟩:=z72 (zdt d (no*8) 8)
  by_cases c:k=0 ∧ p.no=no
  ·refine ⟨p,0,fun h=>(h rfl).elim,fun _=>c.2,fun n hn=>?_,fun h2 n hn=>?_⟩
   ·obtain ⟨m,rfl⟩:=pre1 n
    obtain ⟨q,s,o,cD⟩:=hD m (by omega)
    refine ⟨q,s,o,fun h=>(h rfl).elim,fun hp w hw=>?_⟩
    obtain ⟨v,h',e,rfl,kk⟩:=zpm (m:=m) (by omega) ok hr hno hw hc cD rfl
    rw [if_pos ⟨c.1,by rw [s.no];exact c.2⟩] at e
    exact ⟨h',e,kk⟩
   ·obtain ⟨m,rfl⟩:=pre1 n
    obtain ⟨b,s,o,cE⟩:=hE m (by omega)
    refine ⟨b,s,o,fun h=>?_⟩
    have:=zp8 (m:=m) (h:=h) (by omega) ok hr hno h2 hc cE rfl
    rwa [if_pos ⟨c.1,by rw [s.no];exact c.2⟩] at this
  ·refine ⟨zPage,8,fun _=>⟨rfl,rfl⟩,(fun h=>by cases h),fun n hn=>⟨zPage,Same.rfl' _,zdp,fun _=>rfl,fun hp w hw=>?_⟩,fun h2 n hn=>⟨zPage,Same.rfl' _,zdp,fun h=>?_⟩⟩
   ·obtain ⟨m,rfl⟩:=pre1 n
    obtain ⟨q,s,o,cD⟩:=hD m (by omega)
    obtain ⟨v,h',e,rfl,kk⟩:=zpm (m:=m) (by omega) ok hr hno hw hc cD rfl
    rw [if_neg (fun x=>c ⟨x.1,by rw [← s.no];exact x.2⟩)] at e
    exact ⟨h',e,kk⟩
   ·obtain ⟨m,rfl⟩:=pre1 n
    obtain ⟨b,s,o,cE⟩:=hE m (by omega)
    have:=zp8 (m:=m) (h:=h) (by omega) ok hr hno h2 hc cE rfl
    rwa [if_neg (fun x=>c ⟨x.1,by rw [← s.no];exact x.2⟩)] at this
end
def c89:RC :=
 (.seq (.ops [(oP 2 (.alloc 79 zPl)),(oP 3 (.alloc 29 [(.int .i64 0)]))])
 (.seq (.ops [(oP 4 (.mkFn (.func 160) [] [(.t 2),(.t 3)])),
 ⟨none,none,.dfr { callee:=.value (.tmp 4),args:=#[],argTypes:=#[] }⟩])
 (.seq (.ops [(mV 5 0),(oP 6 (.callV (.t 5) [])),(oT 10 2 6),(oU (.store 1 (.t 3) (.c (.int .i64 0))))])
 .ret)))
theorem F89:FI 89 1 7 4 [.cell 2 79,.cell 3 29] c89:=mkF Tryz.f89 Tryz.func89
def c160:RC :=
 (.seq (.ops [(oP 6 (.raw { dst:=(some 6),op:=(.call { callee:=.builtin .recover,args:=#[],argTypes:=#[] }),type:=20,pos := "file.go:40",after:=#[],guard:=none }))])
 (.block 0
 (.seq (.ops [(oP 8 (.isNilI false (.t 6)))])
 (.cond (.t 8)
 (.ops [(mV 2 6)])
 (.seq (.ops [(oP 9 (.asrt 217 true true (.t 6))),(oQ 10 9 1),(oQ 11 9 0)])
 (.cond (.t 10)
 (.seq (.ops [(oP 3 (.alloc 217 [(.int .i64 0)])),(oT 1 3 11)])
 (.seq (.ops [(oP 4 (.alloc 79 zPl))])
 (.draw [((oB 12 10 4),1),((oC 13 0 3),0),((oA 14 13),1),((oT 10 0 12),2),((oT 1 1 14),3)])))
 (.seq (.ops [(mV 5 6)])
 (.ops [(mV 7 5),
 ⟨none,none,.pan (.t 7)⟩]))))))))
def c33:RC :=
 (.seq (.ops [(oP 2 (.box 46 (.t 0))),(oP 3 (.box 3 (.t 1))),(oP 4 (.alloc 79 zPl)),(oH 5 0)])
 (.seq (.ops [(oP 6 (.mkFn (.func 90) [] [(.t 2),(.t 3)])),(oV 7 89 6),(oQ 8 7 0),(oQ 9 7 1),(oT 10 4 8),(mV 5 9)])
 .ret))
theorem F33:FI 33 2 10 4 [.cell 4 79,.tmp 5] c33:=mkF Tryz.f33 Tryz.func33
def c90:RC :=
 (.seq (.ops [(oP 2 (.alloc 79 zPl))])
 (.seq (.ops [(oB 4 3 0),(oV 5 70 4),(mV 3 5)])
 (.seq (.draw [((oA 6 1),1),((oJ 7 .geq 6 2),0),((mV 8 7),0),((oD 9 8 true 1),1),((oE 10 8 true 3),0),((oG 11 8 true (.callF 91 [(.t 10)])),2),((oG 12 8 true (.bin .lss (.t 9) (.t 11))),0),((oN 13 8 12),0),((oP 14 (.callF 80 [(.t 13),(.c (.int .i64 1))])),4)])
 (.seq (.ops [(mV 15 3),(oA 16 1),(oW 17 93 15 16),(oQ 18 17 0),(oQ 19 17 1),(oW 20 92 18 19),(oT 10 2 20)])
 .ret))))
theorem F90:FI 90 2 21 5 [.cell 2 79] c90:=mkF Tryz.f90 Tryz.func90
def c92:RC :=
 (.seq (.ops [(oP 2 (.box 79 (.t 0))),(oP 4 (.alloc 79 zPl))])
 (.seq (.ops [(mV 5 1),(oV 6 98 5)])
 (.seq (.ops [(oB 7 10 2),(oT 10 4 7)])
 .ret)))
theorem F92:FI 92 2 8 4 [.cell 4 79] c92:=mkF Tryz.f92 Tryz.func92
def c99:RC :=
 (.seq (.ops [(oP 2 (.alloc 3 [(.int .i64 0)])),(oP 3 (.alloc 29 [(.int .i64 0)]))])
 (.seq (.ops [(oP 4 (.mkFn (.func 165) [] [(.t 2),(.t 3)])),
 ⟨none,none,.dfr { callee:=.value (.tmp 4),args:=#[],argTypes:=#[] }⟩])
 (.seq (.ops [(mV 5 0),(oP 6 (.callV (.t 5) [])),(oT 1 2 6),(oU (.store 1 (.t 3) (.c (.int .i64 0))))])
 .ret)))
theorem F99:FI 99 1 7 4 [.cell 2 3,.cell 3 29] c99:=mkF Tryz.f99 Tryz.func99
def c165:RC :=
 (.seq (.ops [(oP 6 (.raw { dst:=(some 6),op:=(.call { callee:=.builtin .recover,args:=#[],argTypes:=#[] }),type:=20,pos := "file.go:40",after:=#[],guard:=none }))])
 (.block 0
 (.seq (.ops [(oP 8 (.isNilI false (.t 6)))])
 (.cond (.t 8)
 (.ops [(mV 2 6)])
 (.seq (.ops [(oP 9 (.asrt 217 true true (.t 6))),(oQ 10 9 1),(oQ 11 9 0)])
 (.cond (.t 10)
 (.seq (.ops [(oP 3 (.alloc 217 [(.int .i64 0)])),(oT 1 3 11)])
 (.seq (.ops [(oH 4 0)])
 (.draw [((mV 12 4),0),((oC 13 0 3),0),((oA 14 13),1),((oT 1 0 12),2),((oT 1 1 14),3)])))
 (.seq (.ops [(mV 5 6)])
 (.ops [(mV 7 5),
 ⟨none,none,.pan (.t 7)⟩]))))))))
def c38:RC :=
 (.seq (.ops [(oP 1 (.box 46 (.t 0))),(oH 2 0),(oH 3 0)])
 (.seq (.ops [(oP 4 (.mkFn (.func 100) [] [(.t 1)])),(oV 5 99 4),(oQ 6 5 0),(oQ 7 5 1),(mV 2 6),(mV 3 7)])
 .ret))
theorem F38:FI 38 1 8 4 [.tmp 2,.tmp 3] c38:=mkF Tryz.f38 Tryz.func38
def c100:RC :=
 (.seq (.ops [(oH 1 0)])
 (.seq (.ops [(oB 2 3 0),(oV 3 70 2),(oV 4 91 3),(mV 1 4)])
 .ret))
theorem F100:FI 100 1 5 3 [.tmp 1] c100:=mkF Tryz.f100 Tryz.func100
def c104:RC :=
 (.seq (.ops [(oP 2 (.alloc 27 zRl)),(oP 3 (.alloc 29 [(.int .i64 0)]))])
 (.seq (.ops [(oP 4 (.mkFn (.func 168) [] [(.t 2),(.t 3)])),
 ⟨none,none,.dfr { callee:=.value (.tmp 4),args:=#[],argTypes:=#[] }⟩])
 (.seq (.ops [(mV 5 0),(oP 6 (.callV (.t 5) [])),(oT 21 2 6),(oU (.store 1 (.t 3) (.c (.int .i64 0))))])
 .ret)))
theorem F104:FI 104 1 7 4 [.cell 2 27,.cell 3 29] c104:=mkF Tryz.f104 Tryz.func104
def c168:RC :=
 (.seq (.ops [(oP 6 (.raw { dst:=(some 6),op:=(.call { callee:=.builtin .recover,args:=#[],argTypes:=#[] }),type:=20,pos := "file.go:40",after:=#[],guard:=none }))])
 (.block 0
 (.seq (.ops [(oP 8 (.isNilI false (.t 6)))])
 (.cond (.t 8)
 (.ops [(mV 2 6)])
 (.seq (.ops [(oP 9 (.asrt 217 true true (.t 6))),(oQ 10 9 1),(oQ 11 9 0)])
 (.cond (.t 10)
 (.seq (.ops [(oP 3 (.alloc 217 [(.int .i64 0)])),(oT 1 3 11)])
 (.seq (.ops [(oP 4 (.alloc 27 zRl))])
 (.draw [((oB 12 21 4),1),((oC 13 0 3),0),((oA 14 13),1),((oT 21 0 12),2),((oT 1 1 14),3)])))
 (.seq (.ops [(mV 5 6)])
 (.ops [(mV 7 5),
 ⟨none,none,.pan (.t 7)⟩]))))))))
def c41:RC :=
 (.seq (.ops [(oP 2 (.box 46 (.t 0))),(oP 3 (.box 3 (.t 1))),(oP 4 (.alloc 27 zRl)),(oH 5 0)])
 (.seq (.ops [(oP 6 (.mkFn (.func 105) [] [(.t 2),(.t 3)])),(oV 7 104 6),(oQ 8 7 0),(oQ 9 7 1),(oT 21 4 8),(mV 5 9)])
 .ret))
theorem F41:FI 41 2 10 4 [.cell 4 27,.tmp 5] c41:=mkF Tryz.f41 Tryz.func41
def c105:RC :=
 (.seq (.ops [(oP 2 (.alloc 27 zRl))])
 (.seq (.ops [(oB 4 3 0),(oV 5 70 4),(mV 3 5)])
 (.seq (.ops [(oA 6 1),(oJ 7 .eql 6 0),(mV 8 7),(oD 9 8 false 1),(oG 10 8 false (.bin .eql (.t 9) (.c (.int .i64 1)))),(oM 11 8 10),(oP 12 (.callF 80 [(.t 11),(.c (.int .i64 1))]))])
 (.seq (.ops [(mV 13 3),(oV 14 106 13)])
 (.seq (.ops [(mV 15 3),(oA 16 1),(oW 17 108 15 16),(oQ 18 17 0),(oQ 19 17 1),(oW 20 107 18 19),(oT 21 2 20)])
 .ret)))))
theorem F105:FI 105 2 21 5 [.cell 2 27] c105:=mkF Tryz.f105 Tryz.func105
def c106:RC :=
 (.ops [(mV 2 0),(oV 3 91 2),(oJ 4 .geq 3 2),(oP 5 (.callF 80 [(.t 4),(.c (.int .i64 1))]))])
theorem F106:FI 106 1 6 3 [] c106:=mkF Tryz.f106 Tryz.func106
def c108:RC :=
 (.seq (.ops [(oP 4 (.alloc 27 zRl)),(oH 5 0)])
 (.seq (.ops [(mV 10 0),(oR 11 10),(oC 12 0 11),(oB 13 3 12),(mV 14 1),(oJ 15 .mul 14 8),(oP 16 (.callF 161 [(.t 13),(.t 15),(.c (.int .i64 1))])),(mV 9 16),(oQ 17 9 0),(oQ 18 9 1),(mV 6 17),(mV 7 18)])
 (.seq (.seq (.ops [(mV 19 7),(oJ 20 .neq 19 0)])
 (.cond (.t 20)
 (.seq (.ops [(oP 21 (.build zRl [])),(oT 21 4 21),(oH 5 8)])
 .ret)
 .skip))
 (.seq (.ops [(mV 23 6),(oV 24 17 23),(mV 22 24),(oQ 25 22 0),(oQ 26 22 1),(oP 8 (.alloc 27 zRl)),(oT 21 8 25),(mV 7 26)])
 (.seq (.seq (.draw [((mV 27 7),0),((oJ 28 .neq 27 0),0),((mV 29 28),0),((oF 30 29 false 20 8),0),((oD 31 29 false 30),1),((oE 32 29 false 0),0),((oG 33 29 false (.callF 91 [(.t 32)])),2),((oG 34 29 false (.bin .gtr (.t 31) (.t 33))),0),((oM 35 29 34),0)])
 (.cond (.t 35)
 (.seq (.ops [(oP 36 (.build zRl [])),(oT 21 4 36),(oH 5 8)])
 .ret)
 .skip))
 (.seq (.ops [(oB 37 21 8),(oT 21 4 37),(oH 5 0)])
 .ret))))))
theorem F108:FI 108 2 38 6 [.cell 4 27,.tmp 5] c108:=mkF Tryz.f108 Tryz.func108
def c107:RC :=
 (.seq (.ops [(oP 2 (.box 27 (.t 0))),(oP 4 (.alloc 27 zRl))])
 (.seq (.ops [(mV 5 1),(oV 6 98 5)])
 (.seq (.ops [(oB 7 21 2),(oT 21 4 7)])
 .ret)))
theorem F107:FI 107 2 8 4 [.cell 4 27] c107:=mkF Tryz.f107 Tryz.func107
def c111:RC :=
 (.seq (.ops [(oP 2 (.alloc 103 [(.lst 0 [] true)])),(oP 3 (.alloc 29 [(.int .i64 0)]))])
 (.seq (.ops [(oP 4 (.mkFn (.func 169) [] [(.t 2),(.t 3)])),
 ⟨none,none,.dfr { callee:=.value (.tmp 4),args:=#[],argTypes:=#[] }⟩])
 (.seq (.ops [(mV 5 0),(oP 6 (.callV (.t 5) [])),(oT 1 2 6),(oU (.store 1 (.t 3) (.c (.int .i64 0))))])
 .ret)))
theorem F111:FI 111 1 7 4 [.cell 2 103,.cell 3 29] c111:=mkF Tryz.f111 Tryz.func111
def c169:RC :=
 (.seq (.ops [(oP 6 (.raw { dst:=(some 6),op:=(.call { callee:=.builtin .recover,args:=#[],argTypes:=#[] }),type:=20,pos := "file.go:40",after:=#[],guard:=none }))])
 (.block 0
 (.seq (.ops [(oP 8 (.isNilI false (.t 6)))])
 (.cond (.t 8)
 (.ops [(mV 2 6)])
 (.seq (.ops [(oP 9 (.asrt 217 true true (.t 6))),(oQ 10 9 1),(oQ 11 9 0)])
 (.cond (.t 10)
 (.seq (.ops [(oP 3 (.alloc 217 [(.int .i64 0)])),(oT 1 3 11)])
 (.seq (.ops [(oP 4 (.mv (.c (.lst 0 [] true))))])
 (.draw [((mV 12 4),0),((oC 13 0 3),0),((oA 14 13),1),((oT 1 0 12),2),((oT 1 1 14),3)])))
 (.seq (.ops [(mV 5 6)])
 (.ops [(mV 7 5),
 ⟨none,none,.pan (.t 7)⟩]))))))))
def c43:RC :=
 (.seq (.ops [(oP 1 (.box 46 (.t 0))),(oP 2 (.mv (.c (.lst 0 [] true)))),(oH 3 0)])
 (.seq (.ops [(oP 4 (.mkFn (.func 112) [] [(.t 1)])),(oV 5 111 4),(oQ 6 5 0),(oQ 7 5 1),(mV 2 6),(mV 3 7)])
 .ret))
theorem F43:FI 43 1 8 4 [.tmp 2,.tmp 3] c43:=mkF Tryz.f43 Tryz.func43
def c112:RC :=
 (.seq (.ops [(oP 1 (.mv (.c (.lst 0 [] true))))])
 (.seq (.ops [(oP 2 (.mv (.c (.lst 0 [] true))))])
 (.seq (.seq (.ops [(oB 5 3 0),(oV 6 70 5),(oV 7 113 6),(oK 8 7),(oH 9 0)])
 (.block 0
 (.loop
 (.seq (.ops [(oI 10 .lss 9 8)])
 (.seq (.cond (.t 10)
 .skip
 (.exit 0))
 (.seq (.block 1
 (.seq (.ops [(oS 11 22 7 9),(oB 12 22 11),(oP 4 (.alloc 200 zRm)),(oT 22 4 12)])
 (.ops [(mV 13 2),(oC 14 0 4),(oB 15 21 14),(oP 16 (.mkLst 21 true 1 zRl [(0,21,(.t 15))])),(oP 17 (.app 27 21 (.t 13) (.t 16))),(mV 2 17)])))
 (.ops [(oJ 18 .add 9 1),(mV 9 18)])))))))
 (.cut (.seq (.ops [(mV 19 2),(mV 1 19)])
 .ret)))))
theorem F112:FI 112 1 20 5 [.tmp 1] c112:=mkF Tryz.f112 Tryz.func112
def c113:RC :=
 (.seq (.ops [(oP 2 (.mv (.c (.lst 0 [] true))))])
 (.seq (.ops [(mV 7 0),(oV 8 106 7)])
 (.seq (.ops [(oP 3 (.mv (.c (.lst 0 [] true))))])
 (.seq (.seq (.ops [(oH 9 0)])
 (.block 0
 (.loop
 (.seq (.ops [(oJ 10 .lss 9 2)])
 (.seq (.cond (.t 10)
 .skip
 (.exit 0))
 (.seq (.block 1
 (.seq (.ops [(mV 11 9),(mV 4 11)])
 (.seq (.ops [(mV 13 0),(mV 14 4),(oW 15 108 13 14),(mV 12 15),(oQ 16 12 0),(oQ 17 12 1),(oP 5 (.alloc 27 zRl)),(oT 21 5 16),(mV 6 17)])
 (.seq (.ops [(mV 18 6),(oJ 19 .eql 18 0)])
 (.cond (.t 19)
 (.ops [(mV 20 3),(oB 21 21 5),(mV 22 4),(oP 23 (.build zRm [(0,21,(.t 21)),(21,1,(.t 22))])),(oP 24 (.mkLst 22 true 1 zRm [(0,22,(.t 23))])),(oP 25 (.app 200 22 (.t 20) (.t 24))),(mV 3 25)])
 .skip)))))
 (.ops [(oJ 26 .add 9 1),(mV 9 26)])))))))
 (.cut (.seq (.ops [(mV 27 3),(oP 28 (.callF 170 [(.t 27),(.c (.fn (.func 171) [] []))]))])
 (.seq (.ops [(mV 29 3),(mV 2 29)])
 .ret)))))))
theorem F113:FI 113 1 30 5 [.tmp 2] c113:=mkF Tryz.f113 Tryz.func113
def c171:RC :=
 (.seq (.ops [(oP 2 (.box 200 (.t 0))),(oP 3 (.box 200 (.t 1))),(oH 4 0)])
 (.seq (.ops [(oC 5 0 3),(oC 6 0 5),(oA 7 6),(oC 8 0 2),(oC 9 0 8),(oA 10 9),(oW 11 172 7 10),(mV 4 11)])
 .ret))
theorem F171:FI 171 2 12 4 [.tmp 4] c171:=mkF Tryz.f171 Tryz.func171
def c170:RC :=
 (.ops [(mV 4 0),(mV 5 0),(oK 6 5),(mV 7 1),(oP 8 (.callF 212 [(.t 4),(.t 6),(.t 7)]))])
theorem F170:FI 170 2 9 4 [] c170:=mkF Tryz.f170 Tryz.func170
def c212:RC :=
 (.seq (.ops [(oH 6 20)])
 (.seq (.ops [(mV 10 6),(oH 7 0),(mV 8 10)])
 (.seq (.block 0
 (.loop
 (.seq (.seq (.ops [(mV 11 8),(mV 12 1),(oI 13 .leq 11 12)])
 (.cond (.t 13)
 .skip
 (.exit 0)))
 (.block 1
 (.seq (.ops [(mV 14 0),(mV 15 7),(mV 16 8),(mV 17 2),(oP 18 (.callF 234 [(.t 14),(.t 15),(.t 16),(.t 17)]))])
 (.seq (.ops [(mV 19 8),(mV 7 19)])
 (.ops [(mV 20 8),(mV 21 6),(oI 22 .add 20 21),(mV 8 22)])))))))
 (.cut (.seq (.ops [(mV 23 0),(mV 24 7),(mV 25 1),(mV 26 2),(oP 27 (.callF 234 [(.t 23),(.t 24),(.t 25),(.t 26)]))])
 (.block 2
 (.loop
 (.seq (.seq (.ops [(mV 28 6),(mV 29 1),(oI 30 .lss 28 29)])
 (.cond (.t 30)
 .skip
 (.exit 2)))
 (.block 3
 (.seq (.ops [(mV 31 6),(oP 32 (.bin .mul (.c (.int .i64 2)) (.t 31))),(oH 7 0),(mV 8 32)])
 (.seq (.block 4
 (.loop
 (.seq (.seq (.ops [(mV 33 8),(mV 34 1),(oI 35 .leq 33 34)])
 (.cond (.t 35)
 .skip
 (.exit 4)))
 (.block 5
 (.seq (.ops [(mV 36 0),(mV 37 7),(mV 38 7),(mV 39 6),(oI 40 .add 38 39),(mV 41 8),(mV 42 2),(oP 43 (.callF 235 [(.t 36),(.t 37),(.t 40),(.t 41),(.t 42)]))])
 (.seq (.ops [(mV 44 8),(mV 7 44)])
 (.ops [(mV 45 8),(mV 46 6),(oP 47 (.bin .mul (.c (.int .i64 2)) (.t 46))),(oI 48 .add 45 47),(mV 8 48)])))))))
 (.cut (.seq (.seq (.ops [(mV 49 7),(mV 50 6),(oI 51 .add 49 50),(mV 9 51)])
 (.seq (.ops [(mV 52 9),(mV 53 1),(oI 54 .lss 52 53)])
 (.cond (.t 54)
 (.ops [(mV 55 0),(mV 56 7),(mV 57 9),(mV 58 1),(mV 59 2),(oP 60 (.callF 235 [(.t 55),(.t 56),(.t 57),(.t 58),(.t 59)]))])
 .skip)))
 (.ops [(mV 61 6),(oJ 62 .mul 61 2),(mV 6 62)]))))))))))))))
theorem F212:FI 212 3 63 7 [] c212:=mkF Tryz.f212 Tryz.func212
def c234:RC :=
 (.seq (.ops [(mV 10 1),(oJ 11 .add 10 1),(mV 8 11)])
 (.block 0
 (.loop
 (.seq (.seq (.ops [(mV 12 8),(mV 13 2),(oI 14 .lss 12 13)])
 (.cond (.t 14)
 .skip
 (.exit 0)))
 (.seq (.block 1
 (.seq (.ops [(mV 17 8),(mV 9 17)])
 (.block 2
 (.loop
 (.seq (.seq (.draw [((mV 18 9),0),((mV 19 1),0),((oI 20 .gtr 18 19),0),((mV 21 20),0),((oE 22 21 true 3),0),((oE 23 21 true 0),0),((oE 24 21 true 9),0),((oG 25 21 true (.indexAddrL 22 (.t 23) (.t 24))),0),((oG 26 21 true (.load true 22 (.t 25))),1),((oE 27 21 true 0),0),((oE 28 21 true 9),0),((oG 29 21 true (.bin .sub (.t 28) (.c (.int .i64 1)))),0),((oG 30 21 true (.indexAddrL 22 (.t 27) (.t 29))),0),((oG 31 21 true (.load true 22 (.t 30))),1),((oG 32 21 true (.callV (.t 22) [(.t 26),(.t 31)])),2),((oG 33 21 true (.bin .lss (.t 32) (.c (.int .i64 0)))),0),((oN 34 21 33),0)])
 (.cond (.t 34)
 .skip
 (.exit 2)))
 (.seq (.block 3
 (.draw [((mV 37 0),0),((mV 38 9),0),((mV 39 0),0),((mV 40 9),0),((oJ 41 .sub 40 1),0),((mV 42 0),0),((mV 43 9),0),((oJ 44 .sub 43 1),0),((oS 45 22 42 44),0),((oB 46 22 45),1),((mV 47 0),0),((mV 48 9),0),((oS 49 22 47 48),0),((oB 50 22 49),1),((oS 51 22 37 38),0),((oT 22 51 46),3),((oS 52 22 39 41),0),((oT 22 52 50),2)]))
 (.ops [(mV 35 9),(oJ 36 .sub 35 1),(mV 9 36)])))))))
 (.cut (.ops [(mV 15 8),(oJ 16 .add 15 1),(mV 8 16)])))))))
theorem F234:FI 234 4 53 6 [] c234:=mkF Tryz.f234 Tryz.func234
def c172:RC :=
 (.seq (.ops [(oH 4 0)])
 (.seq (.ops [(mV 7 0),(oV 8 213 7),(mV 5 8)])
 (.seq (.ops [(mV 9 1),(oV 10 213 9),(mV 6 10)])
 (.seq (.seq (.ops [(mV 11 5)])
 (.cond (.t 11)
 (.seq (.seq (.ops [(mV 12 6)])
 (.cond (.t 12)
 (.seq (.ops [(oH 4 0)])
 .ret)
 .skip))
 (.seq (.ops [(oP 4 (.mv (.c (.int .i64 (-1)))))])
 .ret))
 .skip))
 (.seq (.seq (.ops [(mV 13 6)])
 (.cond (.t 13)
 (.seq (.ops [(oH 4 1)])
 .ret)
 .skip))
 (.seq (.seq (.ops [(mV 14 0),(mV 15 1),(oI 16 .lss 14 15)])
 (.cond (.t 16)
 (.seq (.ops [(oP 4 (.mv (.c (.int .i64 (-1)))))])
 .ret)
 .skip))
 (.seq (.seq (.ops [(mV 17 0),(mV 18 1),(oI 19 .gtr 17 18)])
 (.cond (.t 19)
 (.seq (.ops [(oH 4 1)])
 .ret)
 .skip))
 (.seq (.ops [(oH 4 0)])
 .ret))))))))
theorem F172:FI 172 2 20 5 [.tmp 4] c172:=mkF Tryz.f172 Tryz.func172
def c213:RC :=
 (.seq (.ops [(oP 2 (.mv (.c (.bool false))))])
 (.seq (.ops [(mV 3 0),(mV 4 0),(oI 5 .neq 3 4),(mV 2 5)])
 .ret))
theorem F213:FI 213 1 6 3 [.tmp 2] c213:=mkF Tryz.f213 Tryz.func213
def c45:RC :=
 (.seq (.ops [(oP 1 (.box 46 (.t 0))),(oP 2 (.alloc 27 zRl)),(oH 3 0)])
 (.seq (.ops [(oP 4 (.mkFn (.func 114) [] [(.t 1)])),(oV 5 104 4),(oQ 6 5 0),(oQ 7 5 1),(oT 21 2 6),(mV 3 7)])
 .ret))
theorem F45:FI 45 1 8 4 [.cell 2 27,.tmp 3] c45:=mkF Tryz.f45 Tryz.func45
def c114:RC :=
 (.seq (.ops [(oP 1 (.alloc 27 zRl))])
 (.seq (.ops [(oB 3 3 0),(oV 4 70 3),(oV 5 113 4),(mV 2 5)])
 (.seq (.ops [(mV 6 2),(oK 7 6),(oJ 8 .gtr 7 0),(oP 9 (.callF 80 [(.t 8),(.c (.int .i64 4))]))])
 (.seq (.ops [(mV 10 2),(oP 11 (.indexAddrL 22 (.t 10) (.c (.int .i64 0)))),(oC 12 0 11),(oB 13 21 12),(oT 21 1 13)])
 .ret))))
theorem F114:FI 114 1 14 4 [.cell 1 27] c114:=mkF Tryz.f114 Tryz.func114
def c47:RC :=
 (.seq (.ops [(oP 1 (.box 46 (.t 0))),(oH 2 0),(oH 3 0)])
 (.seq (.ops [(oP 4 (.mkFn (.func 115) [] [(.t 1)])),(oV 5 99 4),(oQ 6 5 0),(oQ 7 5 1),(mV 2 6),(mV 3 7)])
 .ret))
theorem F47:FI 47 1 8 4 [.tmp 2,.tmp 3] c47:=mkF Tryz.f47 Tryz.func47
def c115:RC :=
 (.seq (.ops [(oH 1 0)])
 (.seq (.ops [(oB 2 3 0),(oV 3 70 2),(oV 4 116 3),(mV 1 4)])
 .ret))
theorem F115:FI 115 1 5 3 [.tmp 1] c115:=mkF Tryz.f115 Tryz.func115
def c116:RC :=
 (.seq (.ops [(oH 2 0)])
 (.seq (.seq (.ops [(mV 4 0),(oV 5 113 4),(mV 3 5)])
 (.seq (.ops [(mV 6 3),(oK 7 6),(oJ 8 .gtr 7 0)])
 (.cond (.t 8)
 (.seq (.ops [(mV 9 3),(oP 10 (.indexAddrL 22 (.t 9) (.c (.int .i64 0)))),(oC 11 21 10),(oA 12 11),(oP 13 (.bin .sub (.c (.int .i64 1)) (.t 12))),(mV 2 13)])
 .ret)
 .skip)))
 (.seq (.ops [(oH 2 0)])
 .ret)))
theorem F116:FI 116 1 14 4 [.tmp 2] c116:=mkF Tryz.f116 Tryz.func116
def c39:RC :=
 (.seq (.ops [(oP 1 (.box 46 (.t 0))),(oP 2 (.alloc 96 [(.int .i64 0),(.int .i64 0)]))])
 (.seq (.seq (.ops [(oB 3 3 1),(oV 4 74 3),(oP 5 (.un .not (.t 4)))])
 (.cond (.t 5)
 (.seq (.ops [(oP 6 (.build [(.int .i64 0),(.int .i64 0)] [(1,1,(.c (.int .i64 2)))])),(oT 2 2 6)])
 .ret)
 .skip))
 (.seq (.ops [(oB 7 3 1),(oV 8 75 7),(oP 9 (.build [(.int .i64 0),(.int .i64 0)] [(0,1,(.t 8))])),(oT 2 2 9)])
 .ret)))
theorem F39:FI 39 1 10 4 [.cell 2 96] c39:=mkF Tryz.f39 Tryz.func39
def c42:RC :=
 (.seq (.ops [(oP 2 (.box 46 (.t 0))),(oP 4 (.alloc 38 zRm))])
 (.seq (.ops [(oB 6 3 2),(oV 7 109 6),(mV 5 7)])
 (.seq (.seq (.ops [(mV 8 5),(oJ 9 .neq 8 0)])
 (.cond (.t 9)
 (.seq (.ops [(mV 10 5),(oP 11 (.build zRm [(21,1,(.t 10))])),(oT 22 4 11)])
 .ret)
 .skip))
 (.seq (.seq (.ops [(mV 12 1),(oJ 13 .neq 12 0),(mV 14 13),(oE 15 14 true 1),(oG 16 14 true (.bin .neq (.t 15) (.c (.int .i64 1)))),(oN 17 14 16)])
 (.cond (.t 17)
 (.seq (.ops [(oP 18 (.build zRm [(21,1,(.c (.int .i64 1)))])),(oT 22 4 18)])
 .ret)
 .skip))
 (.seq (.ops [(oB 19 3 2),(mV 20 1),(oW 21 110 19 20),(oT 22 4 21)])
 .ret)))))
theorem F42:FI 42 2 22 5 [.cell 4 38] c42:=mkF Tryz.f42 Tryz.func42
def c109:RC :=
 (.seq (.ops [(oP 1 (.box 46 (.t 0))),(oH 2 0)])
 (.seq (.block 0
 (.seq (.ops [(oB 4 3 1),(oV 5 74 4),(oP 6 (.un .not (.t 5))),(mV 3 6)])
 (.cond (.t 3)
 (.seq (.ops [(oH 2 2)])
 .ret)
 (.seq (.ops [(oB 8 3 1),(oV 9 75 8),(oJ 10 .lss 9 2),(mV 7 10)])
 (.cond (.t 7)
 (.seq (.ops [(oH 2 1)])
 .ret)
 .skip)))))
 (.seq (.ops [(oH 2 0)])
 .ret)))
theorem F109:FI 109 1 11 4 [.tmp 2] c109:=mkF Tryz.f109 Tryz.func109
def c110:RC :=
 (.seq (.ops [(oP 2 (.box 46 (.t 0))),(oP 4 (.alloc 38 zRm))])
 (.seq (.ops [(oB 7 3 2),(mV 8 1),(oJ 9 .mul 8 8),(oP 10 (.callF 102 [(.t 7),(.t 9),(.c (.int .i64 1))])),(oP 5 (.alloc 187 [(.str []),(.int .i64 0)])),(oT 2 5 10)])
 (.seq (.seq (.ops [(oC 11 1 5),(oA 12 11),(oJ 13 .neq 12 0)])
 (.cond (.t 13)
 (.seq (.ops [(oP 14 (.build zRm [(21,1,(.c (.int .i64 8)))])),(oT 22 4 14)])
 .ret)
 .skip))
 (.seq (.ops [(oC 15 0 5),(oA 16 15),(oV 17 18 16),(oP 6 (.alloc 38 zRm)),(oT 22 6 17)])
 (.seq (.seq (.draw [((oC 18 21 6),0),((oA 19 18),1),((oJ 20 .neq 19 0),0),((mV 21 20),0),((oF 22 21 false 0 6),0),((oF 23 21 false 20 22),0),((oD 24 21 false 23),1),((oG 25 21 false (.load true 3 (.t 2))),1),((oG 26 21 false (.callF 75 [(.t 25)])),4),((oG 27 21 false (.bin .gtr (.t 24) (.t 26))),0),((oM 28 21 27),0)])
 (.cond (.t 28)
 (.seq (.ops [(oP 29 (.build zRm [(21,1,(.c (.int .i64 8)))])),(oT 22 4 29)])
 .ret)
 .skip))
 (.seq (.ops [(oB 30 22 6),(oT 22 4 30)])
 .ret))))))
theorem F110:FI 110 2 31 6 [.cell 4 38] c110:=mkF Tryz.f110 Tryz.func110
def c44:RC :=
 (.seq (.ops [(oP 1 (.box 46 (.t 0))),(oP 2 (.alloc 107 [(.lst 0 [] true),(.int .i64 0)]))])
 (.seq (.ops [(oB 7 3 1),(oV 8 109 7),(mV 3 8)])
 (.seq (.seq (.ops [(mV 9 3),(oJ 10 .neq 9 0)])
 (.cond (.t 10)
 (.seq (.ops [(mV 11 3),(oP 12 (.build [(.lst 0 [] true),(.int .i64 0)] [(1,1,(.t 11))])),(oT 2 2 12)])
 .ret)
 .skip))
 (.seq (.ops [(oB 13 3 1),(oP 14 (.callF 110 [(.t 13),(.c (.int .i64 0))])),(oP 4 (.alloc 38 zRm)),(oT 22 4 14)])
 (.seq (.ops [(oB 15 3 1),(oP 16 (.callF 110 [(.t 15),(.c (.int .i64 1))])),(oP 5 (.alloc 38 zRm)),(oT 22 5 16)])
 (.seq (.ops [(oP 6 (.mv (.c (.lst 0 [] true))))])
 (.seq (.seq (.ops [(oC 17 21 5),(oA 18 17),(oJ 19 .eql 18 0),(mV 20 19),(oF 21 20 true 21 4),(oD 22 20 true 21),(oG 23 20 true (.bin .eql (.t 22) (.c (.int .i64 0)))),(oN 24 20 23),(mV 25 24),(oF 26 25 true 0 5),(oF 27 25 true 0 26),(oD 28 25 true 27),(oF 29 25 true 0 4),(oF 30 25 true 0 29),(oD 31 25 true 30),(oG 32 25 true (.bin .gtr (.t 28) (.t 31))),(oN 33 25 32)])
 (.cond (.t 33)
 (.seq (.ops [(mV 34 6),(oC 35 0 5),(oB 36 21 35),(oC 37 0 4),(oB 38 21 37),(oP 39 (.mkLst 21 true 2 zRl [(0,21,(.t 36)),(21,21,(.t 38))])),(oP 40 (.app 27 21 (.t 34) (.t 39))),(oP 41 (.build [(.lst 0 [] true),(.int .i64 0)] [(0,1,(.t 40))])),(oT 2 2 41)])
 .ret)
 .skip))
 (.seq (.seq (.ops [(oC 42 21 4),(oA 43 42),(oJ 44 .eql 43 0)])
 (.cond (.t 44)
 (.ops [(mV 45 6),(oC 46 0 4),(oB 47 21 46),(oP 48 (.mkLst 21 true 1 zRl [(0,21,(.t 47))])),(oP 49 (.app 27 21 (.t 45) (.t 48))),(mV 6 49)])
 .skip))
 (.seq (.seq (.ops [(oC 50 21 5),(oA 51 50),(oJ 52 .eql 51 0)])
 (.cond (.t 52)
 (.ops [(mV 53 6),(oC 54 0 5),(oB 55 21 54),(oP 56 (.mkLst 21 true 1 zRl [(0,21,(.t 55))])),(oP 57 (.app 27 21 (.t 53) (.t 56))),(mV 6 57)])
 .skip))
 (.seq (.ops [(mV 58 6),(oP 59 (.build [(.lst 0 [] true),(.int .i64 0)] [(0,1,(.t 58))])),(oT 2 2 59)])
 .ret))))))))))
theorem F44:FI 44 1 60 6 [.cell 2 107] c44:=mkF Tryz.f44 Tryz.func44
def c46:RC :=
 (.seq (.ops [(oP 1 (.box 46 (.t 0))),(oP 2 (.alloc 38 zRm))])
 (.seq (.ops [(oB 4 3 1),(oV 5 44 4),(oP 3 (.alloc 107 [(.lst 0 [] true),(.int .i64 0)])),(oT 2 3 5)])
 (.seq (.seq (.ops [(oC 6 1 3),(oA 7 6),(oJ 8 .neq 7 0)])
 (.cond (.t 8)
 (.seq (.ops [(oC 9 1 3),(oA 10 9),(oP 11 (.build zRm [(21,1,(.t 10))])),(oT 22 2 11)])
 .ret)
 .skip))
 (.seq (.seq (.ops [(oC 12 0 3),(oA 13 12),(oK 14 13),(oJ 15 .eql 14 0)])
 (.cond (.t 15)
 (.seq (.ops [(oP 16 (.build zRm [(21,1,(.c (.int .i64 4)))])),(oT 22 2 16)])
 .ret)
 .skip))
 (.seq (.ops [(oC 17 0 3),(oA 18 17),(oP 19 (.indexAddrL 21 (.t 18) (.c (.int .i64 0)))),(oB 20 21 19),(oP 21 (.build zRm [(0,21,(.t 20))])),(oT 22 2 21)])
 .ret)))))
theorem F46:FI 46 1 22 5 [.cell 2 38] c46:=mkF Tryz.f46 Tryz.func46
def c48:RC :=
 (.seq (.ops [(oP 1 (.box 46 (.t 0))),(oP 2 (.alloc 96 [(.int .i64 0),(.int .i64 0)]))])
 (.seq (.ops [(oB 5 3 1),(oV 6 46 5),(oP 3 (.alloc 38 zRm)),(oT 22 3 6)])
 (.seq (.seq (.ops [(oC 7 21 3),(oA 8 7),(oJ 9 .eql 8 4)])
 (.cond (.t 9)
 (.seq (.ops [(oP 10 (.build [(.int .i64 0),(.int .i64 0)] [])),(oT 2 2 10)])
 .ret)
 .skip))
 (.seq (.seq (.ops [(oC 11 21 3),(oA 12 11),(oJ 13 .neq 12 0)])
 (.cond (.t 13)
 (.seq (.ops [(oC 14 21 3),(oA 15 14),(oP 16 (.build [(.int .i64 0),(.int .i64 0)] [(1,1,(.t 15))])),(oT 2 2 16)])
 .ret)
 .skip))
 (.seq (.ops [(oB 17 3 1),(oP 18 (.callF 110 [(.t 17),(.c (.int .i64 0))])),(oP 4 (.alloc 38 zRm)),(oT 22 4 18)])
 (.seq (.seq (.ops [(oC 19 21 4),(oA 20 19),(oJ 21 .eql 20 0),(mV 22 21),(oF 23 22 true 0 4),(oG 24 22 true (.load true 21 (.t 23))),(oF 25 22 true 0 3),(oG 26 22 true (.load true 21 (.t 25))),(oG 27 22 true (.cmp false 27 (.t 24) (.t 26))),(oN 28 22 27)])
 (.cond (.t 28)
 (.seq (.ops [(oP 29 (.build [(.int .i64 0),(.int .i64 0)] [(0,1,(.c (.int .i64 1)))])),(oT 2 2 29)])
 .ret)
 .skip))
 (.seq (.ops [(oP 30 (.build [(.int .i64 0),(.int .i64 0)] [])),(oT 2 2 30)])
 .ret)))))))
theorem F48:FI 48 1 31 6 [.cell 2 96] c48:=mkF Tryz.f48 Tryz.func48
def c49:RC :=
 (.seq (.ops [(oP 4 (.mv (.c (.bool false))))])
 (.seq (.seq (.ops [(mV 6 0),(oK 7 6),(mV 8 1),(oK 9 8),(oI 10 .neq 7 9)])
 (.cond (.t 10)
 (.seq (.ops [(oP 4 (.mv (.c (.bool false))))])
 .ret)
 .skip))
 (.seq (.seq (.ops [(oH 5 0)])
 (.block 0
 (.loop
 (.seq (.seq (.ops [(mV 11 5),(mV 12 0),(oK 13 12),(oI 14 .lss 11 13)])
 (.cond (.t 14)
 .skip
 (.exit 0)))
 (.seq (.block 1
 (.seq (.draw [((mV 17 0),0),((mV 18 5),0),((oS 19 21 17 18),0),((oB 20 21 19),1),((mV 21 1),0),((mV 22 5),0),((oS 23 21 21 22),0),((oB 24 21 23),1),((oP 25 (.cmp true 27 (.t 20) (.t 24))),0)])
 (.cond (.t 25)
 (.seq (.ops [(oP 4 (.mv (.c (.bool false))))])
 .ret)
 .skip)))
 (.ops [(mV 15 5),(oJ 16 .add 15 1),(mV 5 16)]))))))
 (.cut (.seq (.ops [(oP 4 (.mv (.c (.bool true))))])
 .ret)))))
theorem F49:FI 49 2 26 5 [.tmp 4] c49:=mkF Tryz.f49 Tryz.func49
abbrev tText:Nat:=33
abbrev z2k:Nat:=38
section
variable {n:Nat}{h:zaa}
def z52 (r:Rt):AV:=if ze1 r then .agg [.str (recL r),i64 0] else .agg [.str [],i64 2]
def zx8 (s:Str):AV:=if s.length=64 ∧ ze1 (q5 s)=true ∧ recL (q5 s)=s then .agg ((q5 s).cells++[i64 0]) else .agg (Rt.zero.cells++[i64 8])
theorem zfp {L:LT}{h:zaa}{k b t N f:Nat}{el:Option TypeId}{cs:List AV}(hk:lk L k=some (.ptr b 0 0)) (ht:(ti Tryz.prog t).map (fun d=>(zbm d.desc,d.size))=some (true,N)) (hN:cs.length=N) (hb:h[b]?=some (.cells 0 el cs f)):zcg Tryz.prog L h [.cell k t]=some [.agg cs]:=by
 simp only [zcg,hk,zb9 ht hN hb]
theorem z2l (r:Rt) {j:Nat}(hj:j<16):r.cells[3+j]?=some (u8 (r.sum.list[j]'(hj))):=by
 have e:(r.cells.drop 3).take 16=r.sum.list.map u8:=rfl
 have:((r.cells.drop 3).take 16)[j]?=some (u8 (r.sum.list[j]'(hj))):=by
  rw [e,List.getElem?_map,List.getElem?_eq_getElem (h:=show j<r.sum.list.length from hj)]
  rfl
 rw [List.getElem?_take_of_lt hj,List.getElem?_drop] at this
 exact this
set_option maxRecDepth 100000 in
theorem zp5 {m:Nat}(r:Rt) (z:AB) {Q:Ex → LS → Prop}{st:LS}
  (hst:LS.sub ⟨[(1,.ptr 0 0 0),(2,.ptr 1 0 0),(3,.str []),(4,i64 0)],[zbl r,z],[]⟩ st)
  (hE:∀ Lt,subL [(1,.ptr 0 0 0),(2,.ptr 1 0 0),(3,.str r.sum.list)] Lt → Q (.exit 0) ⟨Lt,[zbl r,z],[]⟩) :
  OkR Tryz.prog (C m) cfg0.inl KK 57 6 (.loop (c16.lp 0)) st Q:=by
 have ls:r.sum.list.length=16:=rfl
 refine za3 (by decide) rfl (α:=Nat) (fun j=>⟨[(1,.ptr 0 0 0),(2,.ptr 1 0 0),(3,.str (r.sum.list.take j)),(4,i64 j)],[zbl r,z],[]⟩) (fun j=>j ≤ 16) (fun j=>16-j) 0 hst (by decide) (by decide) ?_
 intro j hj
 conv=>whnf
 refine brd (fun a=>?_) (fun a=>?_)
 ·have hj16:j<16:=by omega
  conv=>whnf
  refine ⟨by omega,by omega,?_⟩
  conv=>whnf
  refine ldI rfl ?_
  refine zdr (v:=u8 (r.sum.list[j]'(hj16))) (by show r.cells[0+1+2+((j:Nat):Int).toNat*1]?=_;rw [Int.toNat_natCast,Nat.mul_one];exact z2l r hj16) ?_
  conv=>whnf
  refine ⟨rfl,?_⟩
  conv=>whnf
  refine ⟨_,[r.sum.list[j]'(hj16)],zl6 _ [r.sum.list[j]'(hj16)] true,zbt _,?_⟩
  conv=>whnf
  refine ⟨by simp;omega,?_⟩
  conv=>whnf
  refine zJ j ?_
  exact nxI (j+1) hj16 (by omega) ⟨⟨rfl,rfl,by rw [List.take_succ_eq_append_getElem (by omega:j<r.sum.list.length)];rfl,rfl⟩,rfl,rfl⟩
 ·have:j=16:=by omega
  subst this
  conv=>whnf
  exact hE _ ⟨rfl,rfl,rfl⟩
set_option maxRecDepth 100000 in
theorem zvg (hn:5 ≤ n) (r:Rt):C n 16 [r.av] h=some (.ret (z52 r),h):=by
 obtain ⟨m,rfl⟩:=pre1 n
 refine zad F16 rfl rfl rfl rfl ?_
 have ck:=fun h:zaa=>z25 (n:=m) (by omega) (h:=h) r
 have cN:∀ (k:Int) (w:Nat) (h:zaa),0 ≤ k → k<9223372036854775808 → w ≤ 8 → C m 61 [i64 k,i64 w] h=some (.ret (.str (num k.toNat w)),h):=fun k w h h1 h2 h3=>by
  have:=zcp (n:=m) (h:=h) (by omega) k.toNat w h3 (by omega)
  rwa [show ((k.toNat:Nat):Int)=k by omega] at this
 unfold z52
 cases ok:ze1 r with
 | false =>
  rw [ok] at ck
  conv=>whnf
  refine ldI rfl ?_
  conv=>whnf
  refine clI (ck _) ?_
  conv=>whnf
  refine stJ (by rfl) ?_
  exact ⟨rfl,_,zfp (el:=some tText) (f:=0) (cs:=[.str [],i64 2]) (N:=2) (b:=1) rfl (by kernel_rfl) rfl rfl,rfl⟩
 | true =>
  rw [ok] at ck
  obtain ⟨v0,v1,v2,v3,v4⟩:=zqa ok
  have big:r.ver ≤ 1099511627776 ∧ r.root<4294967296 ∧ r.count<4294967296 ∧ r.list<4294967296 ∧ r.pages<4294967296:=by
   have h:=ok
   unfold ze1 zet zgp at h
   simp only [Bool.and_eq_true,Bool.or_eq_true,decide_eq_true_eq,beq_iff_eq] at h
   omega
  conv=>whnf
  refine ldI rfl ?_
  conv=>whnf
  refine clI (ck _) ?_
  conv=>whnf
  refine zp5 r _ ⟨⟨rfl,rfl,rfl,rfl⟩,rfl,rfl⟩ (fun L hL=>?_)
  conv=>whnf
  refine cutI (by decide) rfl (t:=⟨[(1,.ptr 0 0 0),(2,.ptr 1 0 0),(3,.str r.sum.list)],_,[]⟩) ⟨hL,rfl,rfl⟩ ?_
  have nl:∀ (k:Int) (w:Nat),(num k.toNat w).length=w:=fun k w=>zam _ _
  have ls:r.sum.list.length=16:=rfl
  have lb:=zlj r
  have lz:(za5 20).length=20:=za4 20
  have hb:(((((([82]++num r.ver.toNat 6)++num r.root.toNat 4)++num r.count.toNat 4)++r.sum.list)++num r.list.toNat 4)++num r.pages.toNat 4)++za5 20=zdh r:=by
   unfold zdh;simp [List.append_assoc]
  have hL:((zdh r++num (crc (zdh r)).toNat 4)++[82])=recL r:=by unfold recL;simp [List.append_assoc]
  conv=>whnf
  refine ldI rfl ?_
  conv=>whnf
  refine clI (cN r.ver 6 _ (by omega) (by omega) (by omega)) ?_
  conv=>whnf
  refine ⟨by simp only [List.length_append,nl,ls];decide,?_⟩
  conv=>whnf
  refine ldI rfl ?_
  conv=>whnf
  refine clI (cN r.root 4 _ (by omega) (by omega) (by omega)) ?_
  conv=>whnf
  refine ⟨by simp only [List.length_append,nl,ls];decide,?_⟩
  conv=>whnf
  refine ldI rfl ?_
  conv=>whnf
  refine clI (cN r.count 4 _ (by omega) (by omega) (by omega)) ?_
  conv=>whnf
  refine ⟨by simp only [List.length_append,nl,ls];decide,?_⟩
  conv=>whnf
  refine ⟨by simp only [List.length_append,nl,ls];decide,?_⟩
  conv=>whnf
  refine ldI rfl ?_
  conv=>whnf
  refine clI (cN r.list 4 _ (by omega) (by omega) (by omega)) ?_
  conv=>whnf
  refine ⟨by simp only [List.length_append,nl,ls];decide,?_⟩
  conv=>whnf
  refine ldI rfl ?_
  conv=>whnf
  refine clI (cN r.pages 4 _ (by omega) (by omega) (by omega)) ?_
  conv=>whnf
  refine ⟨by simp only [List.length_append,nl,ls];decide,?_⟩
  conv=>whnf
  refine clI (zu5 (by omega)) ?_
  conv=>whnf
  refine ⟨by simp only [List.length_append,nl,ls,lz];decide,?_⟩
  rw [hb]
  generalize zdh r=B at lb hL ⊢
  conv=>whnf
  refine clI (zyx (by omega) _ (by omega)) ?_
  conv=>whnf
  refine zI (z:=((crc B).toNat:Int)) (by have:=(crc B).toNat_lt;exact zae (by omega) (by omega)) ?_
  conv=>whnf
  refine clI (cN _ 4 _ (by omega) (by have:=(crc B).toNat_lt;omega) (by omega)) ?_
  conv=>whnf
  refine ⟨by rw [zam,lb];decide,?_⟩
  conv=>whnf
  refine ⟨by rw [List.length_append,zam,lb];decide,?_⟩
  rw [Int.toNat_natCast,hL]
  conv=>whnf
  refine stJ (xs:=[.str (recL r),i64 0]) (by rfl) ?_
  exact ⟨rfl,_,zfp (el:=some tText) (f:=0) (cs:=[.str (recL r),i64 0]) (N:=2) (b:=1) rfl (by kernel_rfl) rfl rfl,rfl⟩
def q0 (s:Str):Rt:=⟨part s 1 6,part s 7 4,part s 11 4,Dg.zero,part s 31 4,part s 35 4⟩
def rS (s:Str) (j:Nat):List AV:=([i64 (part s 1 6:Nat),i64 (part s 7 4:Nat),i64 (part s 11 4:Nat)]++(((s.drop 15).take 16).take j).map u8)++(List.replicate (16-j) (u8 0)++[i64 (part s 31 4:Nat),i64 (part s 35 4:Nat)])
theorem zyz {P R:List AV}{y x:AV}{k:Nat}(hk:k=P.length):putAt (P++(y::R)) k [x]=P++(x::R):=by
 subst hk
 unfold putAt
 simp
theorem rS_len (s:Str) (hs:s.length=64) (j:Nat) (hj:j ≤ 16):(rS s j).length=21:=by
 unfold rS
 simp only [List.length_append,List.length_cons,List.length_nil,List.length_map,List.length_take,List.length_drop,List.length_replicate]
 omega
theorem z6w (s:Str) (hs:s.length=64):rS s 16=(q5 s).cells:=by
 have lt:((s.drop 15).take 16).length=16:=by simp;omega
 unfold rS
 rw [List.take_of_length_le (l:=(s.drop 15).take 16) (by omega),← zj2 lt]
 rfl
theorem z6v (s:Str) (hs:s.length=64) {j:Nat}(hj:j<16):putAt (rS s j) (3+j) [u8 (s[15+j]'(by omega))]=rS s (j+1):=by
 have lt:((s.drop 15).take 16).length=16:=by simp;omega
 have h1:16-j=(16-(j+1))+1:=by omega
 unfold rS
 rw [h1,List.replicate_succ]
 refine (zyz (P:=[i64 (part s 1 6:Nat),i64 (part s 7 4:Nat),i64 (part s 11 4:Nat)]++(((s.drop 15).take 16).take j).map u8) (y:=u8 0) (R:=List.replicate (16-(j+1)) (u8 0)++[i64 (part s 31 4:Nat),i64 (part s 35 4:Nat)]) (k:=3+j) (by simp;omega)).trans ?_
 rw [List.take_succ_eq_append_getElem (i:=j) (by omega),List.map_append]
 simp
set_option maxRecDepth 100000 in
theorem zsb {m:Nat}(s:Str) (hs:s.length=64) (z:AB) {Q:Ex → LS → Prop}{st:LS}
  (hst:LS.sub ⟨[(0,.str s),(2,.ptr 0 0 0),(3,.ptr 1 0 0),(4,i64 0)],[z,.cells 0 (some zco) (rS s 0) 0],[]⟩ st)
  (hE:∀ Lt,subL [(0,.str s),(2,.ptr 0 0 0),(3,.ptr 1 0 0)] Lt → Q (.exit 0) ⟨Lt,[z,zbl (q5 s)],[]⟩) :
  OkR Tryz.prog (C m) cfg0.inl KK 53 6 (.loop (c18.lp 0)) st Q:=by
 refine za3 (by decide) rfl (α:=Nat) (fun j=>⟨[(0,.str s),(2,.ptr 0 0 0),(3,.ptr 1 0 0),(4,i64 j)],[z,.cells 0 (some zco) (rS s j) 0],[]⟩) (fun j=>j ≤ 16) (fun j=>16-j) 0 hst (by decide) (by decide) ?_
 intro j hj
 have lr:=rS_len s hs j hj
 conv=>whnf
 refine brd (fun a=>?_) (fun a=>?_)
 ·have hj16:j<16:=by omega
  conv=>whnf
  refine zI (z:=((15+j:Nat):Int)) (by rw [zae (by omega) (by omega)];omega) ?_
  conv=>whnf
  refine strI (b:=s[15+j]'(by omega)) (by omega) (by rw [Int.toNat_natCast];exact List.getElem?_eq_getElem (by omega)) ?_
  conv=>whnf
  refine ⟨by omega,by omega,?_⟩
  conv=>whnf
  refine stI (cs:=rS s j) (xs:=[u8 (s[15+j]'(by omega))]) (by rfl) (by rfl) (by rfl) (by rw [Nat.ble_eq,lr];show 0+1+2+((j:Nat):Int).toNat*1+1 ≤ 21;omega) (by rfl) ?_
  conv=>whnf
  refine zJ j ?_
  refine nxI (j+1) hj16 (by omega) ⟨⟨rfl,rfl,rfl,rfl⟩,?_,rfl⟩
  show [z,AB.cells 0 (some zco) (putAt (rS s j) (0+1+2+((j:Nat):Int).toNat*1) [u8 (s[15+j]'(by omega))]) 0]=_
  rw [show 0+1+2+((j:Nat):Int).toNat*1=3+j by omega,z6v s hs hj16]
 ·have:j=16:=by omega
  subst this
  rw [z6w s hs]
  conv=>whnf
  exact hE _ ⟨rfl,rfl,rfl⟩
set_option maxRecDepth 100000 in
theorem zp6 (hn:6 ≤ n) (s:Str) (hl:s.length<1099511627776):C n 18 [.str s] h=some (.ret (zx8 s),h):=by
 obtain ⟨m,rfl⟩:=pre1 n
 refine zad F18 rfl rfl rfl rfl ?_
 by_cases hs:s.length=64
 ·have cv:∀ (h:zaa) (a w:Nat),w ≤ 6 → C m 66 [.str ((s.take (a+w)).drop a)] h=some (.ret (i64 (part s a w)),h):=fun h a w hw=>by
   have:=z15 (n:=m) (h:=h) (by omega) ((s.take (a+w)).drop a) (by simp;omega)
   rwa [show zah ((s.take (a+w)).drop a)=part s a w by unfold part;rw [List.drop_take,Nat.add_sub_cancel_left]] at this
  conv=>whnf
  refine brq (fun a=>absurd hs (by omega)) (fun _=>?_)
  conv=>whnf
  refine zhs (c:=1) (d:=7) (by omega) (by omega) ?_
  conv=>whnf
  refine clI (cv _ 1 6 (by omega)) ?_
  conv=>whnf
  refine zhs (c:=7) (d:=11) (by omega) (by omega) ?_
  conv=>whnf
  refine clI (cv _ 7 4 (by omega)) ?_
  conv=>whnf
  refine zhs (c:=11) (d:=15) (by omega) (by omega) ?_
  conv=>whnf
  refine clI (cv _ 11 4 (by omega)) ?_
  conv=>whnf
  refine zhs (c:=31) (d:=35) (by omega) (by omega) ?_
  conv=>whnf
  refine clI (cv _ 31 4 (by omega)) ?_
  conv=>whnf
  refine zhs (c:=35) (d:=39) (by omega) (by omega) ?_
  conv=>whnf
  refine clI (cv _ 35 4 (by omega)) ?_
  conv=>whnf
  refine ⟨?_,?_⟩
  ·conv=>whnf
   refine ⟨?_,?_⟩
   ·conv=>whnf
    exact zhs (c:=35) (d:=39) (by omega) (by omega) rfl
   conv=>whnf
   refine ⟨?_,?_⟩
   ·conv=>whnf
    exact zhs (c:=31) (d:=35) (by omega) (by omega) rfl
   conv=>whnf
   refine ⟨?_,?_⟩
   ·conv=>whnf
    exact zhs (c:=11) (d:=15) (by omega) (by omega) rfl
   conv=>whnf
   refine ⟨?_,?_⟩
   ·conv=>whnf
    exact zhs (c:=7) (d:=11) (by omega) (by omega) rfl
   conv=>whnf
   exact zhs (c:=1) (d:=7) (by omega) (by omega) rfl
  conv=>whnf
  refine stJ (by rfl) ?_
  conv=>whnf
  refine zsb s hs _ ⟨⟨rfl,rfl,rfl,rfl⟩,rfl,rfl⟩ (fun L hL=>?_)
  conv=>whnf
  refine cutI (by decide) rfl (t:=⟨[(0,.str s),(2,.ptr 0 0 0),(3,.ptr 1 0 0)],_,[]⟩) ⟨hL,rfl,rfl⟩ ?_
  conv=>whnf
  refine ldI rfl ?_
  conv=>whnf
  have rr:=fun h:zaa=>zvg (n:=m) (by omega) (h:=h) (q5 s)
  unfold z52 at rr
  unfold zx8
  generalize q5 s=q at rr ⊢
  cases ok:ze1 q with
  | false =>
   rw [ok] at rr
   rw [if_neg (by simp)]
   refine clI (rr _) ?_
   conv=>whnf
   refine stJ (by rfl) ?_
   conv=>whnf
   refine ldI rfl ?_
   conv=>whnf
   refine stJ (by rfl) ?_
   exact ⟨rfl,_,zfp (el:=some z2k) (f:=0) (cs:=Rt.zero.cells++[i64 8]) (N:=22) (b:=0) rfl (by kernel_rfl) rfl rfl,rfl⟩
  | true =>
   rw [ok] at rr
   generalize recL q=Y at rr ⊢
   by_cases e:Y=s
   ·rw [if_pos ⟨hs,rfl,e⟩]
    refine clI (rr _) ?_
    conv=>whnf
    refine stJ (by rfl) ?_
    conv=>whnf
    refine ldI rfl ?_
    conv=>whnf
    refine ldI rfl ?_
    conv=>whnf
    refine brq (fun k=>absurd e k) (fun _=>?_)
    conv=>whnf
    refine ldI rfl ?_
    conv=>whnf
    refine stJ (by rfl) ?_
    exact ⟨rfl,_,zfp (el:=some z2k) (f:=0) (cs:=q.cells++[i64 0]) (N:=22) (b:=0) rfl (by kernel_rfl) rfl rfl,rfl⟩
   ·rw [if_neg (fun h=>e h.2.2)]
    refine clI (rr _) ?_
    conv=>whnf
    refine stJ (by rfl) ?_
    conv=>whnf
    refine ldI rfl ?_
    conv=>whnf
    refine ldI rfl ?_
    conv=>whnf
    refine brq (fun _=>?_) (fun k=>absurd k e)
    conv=>whnf
    refine stJ (by rfl) ?_
    exact ⟨rfl,_,zfp (el:=some z2k) (f:=0) (cs:=Rt.zero.cells++[i64 8]) (N:=22) (b:=0) rfl (by kernel_rfl) rfl rfl,rfl⟩
 ·unfold zx8
  rw [if_neg (fun h=>hs h.1)]
  conv=>whnf
  refine brq (fun _=>?_) (fun a=>absurd a (by omega))
  conv=>whnf
  refine stJ (by rfl) ?_
  exact ⟨rfl,_,zfp (el:=some z2k) (f:=0) (cs:=Rt.zero.cells++[i64 8]) (N:=22) (b:=0) rfl (by kernel_rfl) rfl rfl,rfl⟩
end
theorem ze5 (r:Rt):eqA Tryz.prog 20 zco (.agg r.cells) (.agg r.cells)=some true:=by
 have e1:eqA Tryz.prog 20 zco (.agg r.cells) (.agg r.cells)=zdo (eqA Tryz.prog 19) [(3,i64 r.ver,i64 r.ver),(25,.agg (i64 r.root::i64 r.count::r.sum.cells),.agg (i64 r.root::i64 r.count::r.sum.cells)),(3,i64 r.list,i64 r.list),(3,i64 r.pages,i64 r.pages)]:=by kernel_rfl
 have e2:∀ (a b:Int),eqA Tryz.prog 19 3 (i64 a) (i64 b)=some (a==b):=fun a b=>by kernel_rfl
 have e2':∀ (a b:Int),eqA Tryz.prog 18 3 (i64 a) (i64 b)=some (a==b):=fun a b=>by kernel_rfl
 have e3:eqA Tryz.prog 19 25 (.agg (i64 r.root::i64 r.count::r.sum.cells)) (.agg (i64 r.root::i64 r.count::r.sum.cells))=zdo (eqA Tryz.prog 18) [(3,i64 r.root,i64 r.root),(3,i64 r.count,i64 r.count),(23,.agg r.sum.cells,.agg r.sum.cells)]:=by kernel_rfl
 have e4:eqA Tryz.prog 18 23 (.agg r.sum.cells) (.agg r.sum.cells)=zdo (eqA Tryz.prog 17) (zipE 5 (r.sum.list.map u8) (r.sum.list.map u8)):=by kernel_rfl
 have e5:∀ (x y:UInt8),eqA Tryz.prog 17 5 (.int .u8 x.toNat) (.int .u8 y.toNat)=some (((x.toNat:Nat):Int)==y.toNat):=fun x y=>by kernel_rfl
 rw [zf2 (fun x y=>by rw [e5,zs1]) r.sum.list r.sum.list rfl] at e4
 rw [e1]
 simp [zdo,e2,e3,e2',e4]
section
variable {n:Nat}{h:zaa}
end
def VBuf (el:TypeId) (sz:Nat) (hp:zaa) (L:AV) (rows:List (List AV)):Prop :=
 (∀ r∈rows,r.length=sz ∧ r.all AV.scal=true) ∧ ((L=.lst 0 [] true ∧ rows=[]) ∨ (∃ eb ver frz,L=.sl sz eb ver 0 rows.length ∧ hp[eb]?=some (.cells ver (some el) rows.flatten frz) ∧ frz ≤ rows.flatten.length))
theorem VBuf.nil {el sz:Nat}{hp:zaa}:VBuf el sz hp (.lst 0 [] true) []:=⟨by simp,.inl ⟨rfl,rfl⟩⟩
theorem VBuf.scal {el sz:Nat}{hp:zaa}{L:AV}{rows:List (List AV)}(b:VBuf el sz hp L rows):L.scal=true ∧ L.cells?=some [L]:=by
 rcases b.2 with ⟨rfl,_⟩ | ⟨eb,ver,frz,rfl,_⟩<;>exact ⟨rfl,rfl⟩
theorem VBuf.grow {el sz:Nat}{hp:zaa}{L:AV}{rows:List (List AV)}(b:VBuf el sz hp L rows) (xs:zaa):VBuf el sz (hp++xs) L rows:=by
 refine ⟨b.1,?_⟩
 rcases b.2 with h | ⟨eb,ver,frz,h1,h2,h3⟩
 ·exact .inl h
 ·exact .inr ⟨eb,ver,frz,h1,by rw [List.getElem?_append_left (zab h2)];exact h2,h3⟩
theorem VBuf.set {el sz:Nat}{hp:zaa}{L:AV}{rows:List (List AV)}(b:VBuf el sz hp L rows) {k:Nat}(x:AB) (hk:∀ eb ver,L≠.sl sz eb ver 0 rows.length ∨ eb≠k):VBuf el sz (hp.set k x) L rows:=by
 refine ⟨b.1,?_⟩
 rcases b.2 with h | ⟨eb,ver,frz,h1,h2,h3⟩
 ·exact .inl h
 ·refine .inr ⟨eb,ver,frz,h1,?_,h3⟩
  rcases hk eb ver with q | q
  ·exact (q h1).elim
  ·rw [List.getElem?_set_ne (Ne.symm q)];exact h2
theorem VBuf.fresh {el sz:Nat}{hp:zaa}{L:AV}{rows:List (List AV)}(b:VBuf el sz hp L rows) {k:Nat}(x:AB) (hk:hp.length ≤ k) (xs:zaa):VBuf el sz ((hp++xs).set k x) L rows:=by
 refine ⟨b.1,?_⟩
 rcases b.2 with h | ⟨eb,ver,frz,h1,h2,h3⟩
 ·exact .inl h
 ·refine .inr ⟨eb,ver,frz,h1,?_,h3⟩
  have:=zab h2
  rw [List.getElem?_set_ne (by omega),List.getElem?_append_left this];exact h2
abbrev tRtd:Nat:=38
theorem zx2 {h:zaa}{b:Nat}{cs:List AV}(hl:cs.length=21) (hb:h[b]?=some (.cells 0 (some zco) cs 0)):zce Tryz.prog h zco (.ptr b 0 0)=some (.agg cs):=zb9 (N:=21) (by kernel_rfl) hl hb
theorem zhw {h:zaa}{b:Nat}{cs:List AV}(hl:cs.length=22) (hb:h[b]?=some (.cells 0 (some tRtd) cs 0)):zce Tryz.prog h tRtd (.ptr b 0 0)=some (.agg cs):=zb9 (N:=22) (by kernel_rfl) hl hb
theorem zm9 {L:LT}{h:zaa}{a c b:Nat}{cs:List AV}{k:Int}(h4:lk L a=some (.ptr b 0 0)) (h5:lk L c=some (i64 k)) (hP:h[b]?=some (.cells 0 (some zco) cs 0)) (hc:cs.length=21):zcg Tryz.prog L h [.cell a zco,.tmp c]=some [.agg cs,i64 k]:=by
 simp only [zcg,h4,h5,zx2 hc hP]
def Rt.cellsE (r:Rt) (e:Int):List AV:=r.cells++[i64 e]
abbrev zRtB:AB:=.cells 0 (some zco) Rt.zero.cells 0
section
variable {n m:Nat}{d:Dk}{hp:zaa}{w s:Nat}
theorem zx3 (h:zaa) (r:Rt) (e:Int):Abs.frz h 64 (.agg (r.cellsE e))=some (.agg (r.cellsE e)):=rfl
theorem zu6 (hm:6 ≤ m) (ok:d.Ok) (hr:zau d=true) (hs:s<zay d) (hw:hp[w]?=some (wriC d)) (hc:zcs d (s*8) 1=false) :
  ∃ v h',C (m+1) 108 [.ptr w 0 0,i64 s] hp=some (.ret v,h') ∧ v=.tup [Rt.zero.av,i64 8] ∧ Keep hp h' []:=by
 have lw:=zab hw
 have hz:=(rightD_iff.1 hr).1
 have hn8:s*8+1 ≤ d.secs.length:=by unfold zay at hs;omega
 refine zcn F108 rfl rfl ?_
 conv=>whnf
 refine ldI (za8 hw) ?_
 conv=>whnf
 refine zI (z:=((s*8:Nat):Int)) (by rw [zae (by omega) (by omega)];omega) ?_
 conv=>whnf
 have cR:=fun h=>zkx (n:=m) (h:=h) (by omega) d ok hr (s*8) 1 (by omega) (by omega) hn8
 unfold zht at cR
 rw [hc] at cR
 refine clI (cR _) ?_
 conv=>whnf
 refine stJ (xs:=Rt.zero.cells) (zaf _ _) ?_
 exact ⟨rfl,_,zm9 rfl rfl (zag _ _ _) rfl,rfl,(Keep.app hp _ []).set' (.inr (Nat.le_refl _))⟩
theorem zpl (hm:10 ≤ m) (ok:d.Ok) (hr:zau d=true) (hs:s<zay d) (hw:hp[w]?=some (wriC d)) (hc:zcs d (s*8) 1=true) {q:Rt}{k:Int}(cD:∀ h,C m 17 [.str (zdt d (s*8) 1)] h=some (.ret (.tup [q.av,i64 k]),h)) {V:AV}(hV:V=if k=0 ∧ q.pages ≤ zay d then .tup [q.av,i64 0] else .tup [Rt.zero.av,i64 8]) :
  ∃ v h',C (m+1) 108 [.ptr w 0 0,i64 s] hp=some (.ret v,h') ∧ v=V ∧ Keep hp h' []:=by
 have lw:=zab hw
 have hz:=(rightD_iff.1 hr).1
 have hn8:s*8+1 ≤ d.secs.length:=by unfold zay at hs;omega
 refine zcn F108 rfl rfl ?_
 conv=>whnf
 refine ldI (za8 hw) ?_
 conv=>whnf
 refine zI (z:=((s*8:Nat):Int)) (by rw [zae (by omega) (by omega)];omega) ?_
 conv=>whnf
 have cR:=fun h=>zkx (n:=m) (h:=h) (by omega) d ok hr (s*8) 1 (by omega) (by omega) hn8
 unfold zht at cR
 rw [hc] at cR
 refine clI (cR _) ?_
 conv=>whnf
 refine clI (cD _) ?_
 conv=>whnf
 refine stJ (xs:=q.cells) (zaf _ _) ?_
 have k1:∀ x y,Keep hp ((hp++[zRtB]++[x]).set (hp++[zRtB]).length y) []:=fun x y=>((Keep.app hp _ []).trans (Keep.app _ _ []) (by simp)).set' (.inr (by simp))
 have g1:∀ x y,((hp++[zRtB]++[x]).set (hp++[zRtB]).length y)[hp.length]?=some zRtB:=fun x y=>by
  rw [List.getElem?_set_ne (by simp),List.getElem?_append_left (by simp)];exact zaf _ _
 have hw2:∀ x y,((hp++[zRtB]++[x]).set (hp++[zRtB]).length y)[w]?=some (wriC d):=fun x y=>(k1 x y).get hw (by simp)
 conv=>whnf
 refine brq (fun c1=>?_) (fun c1=>?_)
 ·rw [if_neg (fun e=>c1 e.1)] at hV
  subst hV
  conv=>whnf
  refine ⟨rfl,?_⟩
  conv=>whnf
  refine stJ (xs:=Rt.zero.cells) (g1 _ _) ?_
  exact ⟨rfl,_,zm9 rfl rfl (List.getElem?_set_self (zab (g1 _ _))) rfl,rfl,(k1 _ _).set' (.inr (Nat.le_refl _))⟩
 ·conv=>whnf
  refine ldI (zag _ _ _) ?_
  conv=>whnf
  refine clI (zhe (by omega) d (hw2 _ _) (by omega)) ?_
  refine ⟨?_,?_⟩
  ·refine ldI (zag _ _ _) ?_
   rfl
  conv=>whnf
  refine brd (fun c2=>?_) (fun c2=>?_)
  ·rw [if_neg (fun e=>by omega)] at hV
   subst hV
   conv=>whnf
   refine stJ (xs:=Rt.zero.cells) (g1 _ _) ?_
   exact ⟨rfl,_,zm9 rfl rfl (List.getElem?_set_self (zab (g1 _ _))) rfl,rfl,(k1 _ _).set' (.inr (Nat.le_refl _))⟩
  ·rw [if_pos ⟨c1,by omega⟩] at hV
   subst hV
   conv=>whnf
   refine ldI (zag _ _ _) ?_
   conv=>whnf
   refine stJ (xs:=q.cells) (g1 _ _) ?_
   exact ⟨rfl,_,zm9 rfl rfl (List.getElem?_set_self (zab (g1 _ _))) rfl,rfl,(k1 _ _).set' (.inr (Nat.le_refl _))⟩
theorem zvf {h:zaa}(hm:6 ≤ m) (ok:d.Ok) (hr:zau d=true) (hs:s<zay d) (hc:zcs d (s*8) 1=false) :
  C (m+1) 110 [d.av,i64 s] h=some (.ret (.agg (Rt.zero.cellsE 8)),h):=by
 have hz:=(rightD_iff.1 hr).1
 have hn8:s*8+1 ≤ d.secs.length:=by unfold zay at hs;omega
 refine zad F110 rfl rfl rfl (by simp [zao,za1,AV.pureB]) ?_
 conv=>whnf
 refine ldI rfl ?_
 conv=>whnf
 refine zI (z:=((s*8:Nat):Int)) (by rw [zae (by omega) (by omega)];omega) ?_
 conv=>whnf
 have cR:=fun h=>zkp (n:=m) (h:=h) (by omega) d ok hr (s*8) 1 (by omega) hn8
 unfold zht at cR
 rw [hc] at cR
 refine clI (cR _) ?_
 conv=>whnf
 refine stJ (xs:=[.str [],i64 8]) (by rfl) ?_
 conv=>whnf
 refine ldI rfl ?_
 conv=>whnf
 refine stJ (xs:=Rt.zero.cellsE 8) (by rfl) ?_
 exact ⟨rfl,_,za6 rfl (zhw rfl rfl),rfl⟩
theorem zpx {h:zaa}(hm:10 ≤ m) (ok:d.Ok) (hr:zau d=true) (hs:s<zay d) (hc:zcs d (s*8) 1=true) {b:Rt}{k:Int}(cD:∀ h,C m 18 [.str (zdt d (s*8) 1)] h=some (.ret (.agg (b.cellsE k)),h)) {V:List AV}(hV:V=if k=0 ∧ b.pages ≤ zay d then b.cellsE 0 else Rt.zero.cellsE 8) :
  C (m+1) 110 [d.av,i64 s] h=some (.ret (.agg V),h):=by
 have hz:=(rightD_iff.1 hr).1
 have hn8:s*8+1 ≤ d.secs.length:=by unfold zay at hs;omega
 refine zad F110 rfl rfl rfl (by simp [zao,za1,AV.pureB]) ?_
 conv=>whnf
 refine ldI rfl ?_
 conv=>whnf
 refine zI (z:=((s*8:Nat):Int)) (by rw [zae (by omega) (by omega)];omega) ?_
 conv=>whnf
 have cR:=fun h=>zkp (n:=m) (h:=h) (by omega) d ok hr (s*8) 1 (by omega) hn8
 unfold zht at cR
 rw [hc] at cR
 refine clI (cR _) ?_
 conv=>whnf
 refine stJ (xs:=[.str (zdt d (s*8) 1),i64 0]) (by rfl) ?_
 conv=>whnf
 refine ldI rfl ?_
 conv=>whnf
 refine ldI rfl ?_
 conv=>whnf
 refine clI (cD _) ?_
 conv=>whnf
 refine stJ (xs:=b.cellsE k) (by rfl) ?_
 conv=>whnf
 refine ldI rfl ?_
 conv=>whnf
 refine brq (fun c1=>?_) (fun c1=>?_)
 ·rw [if_neg (fun e=>c1 e.1)] at hV
  subst hV
  conv=>whnf
  refine stJ (xs:=Rt.zero.cellsE 8) (by rfl) ?_
  exact ⟨rfl,_,za6 rfl (zhw rfl rfl),rfl⟩
 ·subst c1
  conv=>whnf
  refine ldI rfl ?_
  conv=>whnf
  refine ldI rfl ?_
  conv=>whnf
  refine clI (zfg (by omega) d (by omega)) ?_
  conv=>whnf
  refine brd (fun c2=>?_) (fun c2=>?_)
  ·rw [if_neg (fun e=>by omega)] at hV
   subst hV
   conv=>whnf
   refine stJ (xs:=Rt.zero.cellsE 8) (by rfl) ?_
   exact ⟨rfl,_,za6 rfl (zhw rfl rfl),rfl⟩
  ·rw [if_pos ⟨rfl,by omega⟩] at hV
   subst hV
   conv=>whnf
   refine ldI rfl ?_
   conv=>whnf
   refine stJ (xs:=b.cellsE 0) (by rfl) ?_
   exact ⟨rfl,_,za6 rfl (zhw rfl rfl),zx3 _ _ _⟩
theorem zy8 (s:Str) (hs:s.length<1099511627776):∃ (q:Rt) (e:Int),(∀ n,6 ≤ n → ∀ h,C n 17 [.str s] h=some (.ret (.tup [q.av,i64 e]),h)) ∧ ∀ n,6 ≤ n → ∀ h,C n 18 [.str s] h=some (.ret (.agg (q.cellsE e)),h):=by
 by_cases ok:s.length=64 ∧ ze1 (q5 s)=true ∧ recL (q5 s)=s
 ·refine ⟨q5 s,0,fun n hn h=>?_,fun n hn h=>?_⟩
  ·have:=zuc (n:=n) (h:=h) (by omega) s hs
   unfold parR at this
   rwa [zw4,if_pos ok] at this
  ·have:=zp6 (n:=n) (h:=h) (by omega) s hs
   unfold zx8 at this
   rwa [if_pos ok] at this
 ·refine ⟨Rt.zero,8,fun n hn h=>?_,fun n hn h=>?_⟩
  ·have:=zuc (n:=n) (h:=h) (by omega) s hs
   unfold parR at this
   rwa [zw4,if_neg ok] at this
  ·have:=zp6 (n:=n) (h:=h) (by omega) s hs
   unfold zx8 at this
   rwa [if_neg ok] at this
theorem zoi (d:Dk) (ok:d.Ok) (hr:zau d=true) (s:Nat) (hs:s<zay d):∃ (q:Rt) (e:Int),(e≠0 → q=Rt.zero ∧ e=8) ∧
  (∀ n,11 ≤ n → ∀ hp w,hp[w]?=some (wriC d) → ∃ h',C n 108 [.ptr w 0 0,i64 s] hp=some (.ret (.tup [q.av,i64 e]),h') ∧ Keep hp h' []) ∧
  (∀ n,11 ≤ n → ∀ h,C n 110 [d.av,i64 s] h=some (.ret (.agg (q.cellsE e)),h)):=by
 cases hc:zcs d (s*8) 1 with
 | false =>
  refine ⟨Rt.zero,8,fun _=>⟨rfl,rfl⟩,fun n hn hp w hw=>?_,fun n hn h=>?_⟩
  ·obtain ⟨m,rfl⟩:=pre1 n
   obtain ⟨v,h',e,rfl,k⟩:=zu6 (m:=m) (by omega) ok hr hs hw hc
   exact ⟨h',e,k⟩
  ·obtain ⟨m,rfl⟩:=pre1 n
   exact zvf (by omega) ok hr hs hc
 | true =>
  have hz:=(rightD_iff.1 hr).1
  obtain ⟨q,k,cD,cE⟩:=zy8 (zdt d (s*8) 1) (by rw [zk3 hr (by unfold zay at hs;omega)];omega)
  by_cases c:k=0 ∧ q.pages ≤ zay d
  ·refine ⟨q,0,fun h=>(h rfl).elim,fun n hn hp w hw=>?_,fun n hn h=>?_⟩
   ·obtain ⟨m,rfl⟩:=pre1 n
    obtain ⟨v,h',e,rfl,kk⟩:=zpl (m:=m) (by omega) ok hr hs hw hc (cD m (by omega)) rfl
    rw [if_pos c] at e
    exact ⟨h',e,kk⟩
   ·obtain ⟨m,rfl⟩:=pre1 n
    have:=zpx (m:=m) (h:=h) (by omega) ok hr hs hc (cE m (by omega)) rfl
    rwa [if_pos c] at this
  ·refine ⟨Rt.zero,8,fun _=>⟨rfl,rfl⟩,fun n hn hp w hw=>?_,fun n hn h=>?_⟩
   ·obtain ⟨m,rfl⟩:=pre1 n
    obtain ⟨v,h',e,rfl,kk⟩:=zpl (m:=m) (by omega) ok hr hs hw hc (cD m (by omega)) rfl
    rw [if_neg c] at e
    exact ⟨h',e,kk⟩
   ·obtain ⟨m,rfl⟩:=pre1 n
    have:=zpx (m:=m) (h:=h) (by omega) ok hr hs hc (cE m (by omega)) rfl
    rwa [if_neg c] at this
end
end Go.Proofs
